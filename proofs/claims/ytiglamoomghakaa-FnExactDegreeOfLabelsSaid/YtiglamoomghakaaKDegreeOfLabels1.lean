/- The contracts of the functions behind FnExactDegreeOfLabels: a call of each returns what its plain function computes; for all inputs within the sizes named. -/
import Derived.Test.YtiglamoomghakaaPDegreeOfLabels1
import Derived.Test.YtiglamoomghakaaProg
set_option linter.unusedVariables false
namespace Go.Ev.G
open Go Go.Ev Go.Proofs
set_option maxRecDepth 100000
abbrev ty_0:Ty:=(.int .i64)

abbrev ty_1:Ty:=(.sl ty_0)

abbrev ty_2:Ty:=(.pair ty_0 ty_0)

abbrev ty_3:Ty:=(.pair .bool ty_2)

abbrev ty_4:Ty:=(.pair ty_0 ty_3)

abbrev ty_5:Ty:=(.sl ty_4)

abbrev ty_6:Ty:=(.pair ty_0 ty_2)

abbrev ty_7:Ty:=(.rm ty_0)

def tys:List (TypeId×Ty) := [(3,ty_0),(4,.bool),(22,ty_1),(65,ty_4)]

theorem tys_ok:AllT Try.prog tys:=⟨⟨_,_,rfl,rfl,rfl,rfl⟩,⟨_,_,rfl,rfl,rfl,rfl⟩,⟨_,_,rfl,rfl,rfl,rfl⟩,⟨_,_,rfl,rfl,rfl,rfl⟩,trivial⟩

def tysR:List (TypeId×Ty) := [(3,ty_0)]

theorem tysR_ok:AllT Try.prog tysR:=⟨⟨_,_,rfl,rfl,rfl,rfl⟩,trivial⟩

theorem mix_ok:Try.prog.follows .mixedOrders=true:=by kernel_rfl

theorem ctr{g:FuncId}(C:Cfg){rs:List (Ty×Bool)}{ps:List PE}(F:Fn (CT (rs.map (·.1)++outs (ps.map (·.b)))))(fn:Func)(nx:Nat){f:PT (ps.map (·.b))→Option (CT (rs.map (·.1)++outs (ps.map (·.b))))}
  (hC:CfgOk C) (hann:AnnOk F (codeOf fn) 1) (hP:C.P=Try.prog:=by rfl) (hF:F.C=C:=by rfl) (hfn:C.P.funcs[g]? = some fn:=by kernel_rfl) (hb:fn.body=some (codeOf fn):=by kernel_rfl) (hn:(fn.name == "runtime.NumGoroutine")=false:=by kernel_rfl)
  (hnt:C.ntmps=fn.ntmps:=by kernel_rfl) (hle:Nat.ble ps.length fn.ntmps=true:=by kernel_rfl) (hpar:parOk 0 ps=true:=by kernel_rfl) (hfin:F.fin=rdRes C.P ps rs fn.results.toList .ret:=by rfl)
  (hpins:F.pins=pinIds ps:=by kernel_rfl) (hnd:nodupB F.pins=true:=by kernel_rfl) (hf:∀x,evFn F (codeOf fn) ps nx x=f x:=by intro x;kernel_rfl):Contract C.P g ⟨ps.map (·.b),rs,f⟩ :=
 contract hC hF hfn hb hn hnt hle hpar hfin hpins hnd hann (hP ▸ mix_ok) hf

theorem annl{R:Type}{F:Fn R}{c:Code}(l:List Nat)(hl:AllL F (l.map fun p=>(p,loopB c p)))(h:loopsOf c 1=l.map (fun p=>(p,loopB c p)):=by kernel_rfl):AnnOk F c 1:=AnnOk_list _ h hl

theorem lok{R:Type}{F:Fn R}{c:Code}{p:Nat}(pin pout:List PE)(ex nx:Nat)(Lf:Nat→PTe pin→Option (R ⊕ PTe pout))(k:Nat)(h:F.an p=some (.loop pin pout ex nx (Lf k)):=by kernel_rfl)(h0:∀x,Lf 0 x=none:=by intro x;rfl)
  (hs:∀n x,roundOf F c p pin pout ex nx (Lf n) x=Lf (n+1) x:=by intro n x;kernel_rfl):LoopOk F c p:=LoopOk.mk (pin:=pin) (pout:=pout) h h0 hs

noncomputable def rr(ps:List PE)(rs:List (Ty×Bool))(f:Func):=rdRes Try.prog ps rs f.results.toList .ret

theorem lokp{R:Type}{F:Fn R}{c:Code}{p:Nat}(pin pout:List PE)(ex nx:Nat)(Lf:Nat→PTe pin→Option (R ⊕ PTe pout))(k:Nat)(h:F.an p=some (.peel pin pout ex nx (Lf k)):=by kernel_rfl)(h0:∀x,Lf 0 x=none:=by intro x;rfl)
  (hs:∀n x,roundOf F c p pin pout ex nx (Lf n) x=Lf (n+1) x:=by intro n x;kernel_rfl):LoopOk F c p:=LoopOk.mkp (pin:=pin) (pout:=pout) h h0 hs

abbrev e1:PE:=⟨0,0,.val ty_0 false,false⟩
abbrev F1:Type 1:=Fn (Int)
abbrev e2:PE:=⟨0,32,.val ty_1 false,false⟩
abbrev e3:PE:=⟨5,48,.eat ty_0,false⟩
abbrev e4:PE:=⟨7,64,.val ty_0 false,false⟩
abbrev e5:PE:=⟨0,0,.val ty_1 false,false⟩
abbrev e6:PE:=⟨1,16,.val ty_0 false,false⟩
abbrev e7:PE:=⟨2,32,.val ty_0 false,false⟩
abbrev F2:Type 1:=Fn (Bool)
abbrev e8:PE:=⟨1,48,.val ty_0 false,false⟩
abbrev e9:PE:=⟨3,16,.eat ty_4,false⟩
abbrev e10:PE:=⟨4,32,.val ty_0 false,false⟩
abbrev e11:PE:=⟨5,48,.val ty_0 false,false⟩
abbrev e12:PE:=⟨7,64,.val .bool false,false⟩
abbrev e13:PE:=⟨8,80,.val ty_0 false,false⟩
abbrev e14:PE:=⟨9,96,.val ty_0 false,false⟩
abbrev e15:PE:=⟨18,128,.val ty_0 false,false⟩
abbrev e16:PE:=⟨1,32,.val ty_0 false,false⟩
abbrev e17:PE:=⟨2,48,.box ty_4 false,false⟩
abbrev e18:PE:=⟨0,0,.val ty_4 true,false⟩
abbrev e19:PE:=⟨9,112,.val ty_0 false,false⟩
abbrev e20:PE:=⟨19,144,.val ty_0 false,false⟩
abbrev e21:PE:=⟨1,16,.val ty_1 false,false⟩
abbrev e22:PE:=⟨0,64,.val ty_1 false,false⟩
abbrev e23:PE:=⟨1,80,.val ty_1 false,false⟩
abbrev e24:PE:=⟨2,96,.val ty_0 false,false⟩
abbrev e25:PE:=⟨9,64,.eat ty_0,false⟩
abbrev e26:PE:=⟨12,80,.eat ty_1,false⟩
abbrev e27:PE:=⟨13,96,.eat ty_0,false⟩
abbrev e28:PE:=⟨17,112,.eat ty_0,false⟩
abbrev e29:PE:=⟨68,144,.val ty_0 false,false⟩
abbrev e30:PE:=⟨69,160,.val ty_0 false,false⟩
abbrev e31:PE:=⟨9,80,.val ty_0 false,false⟩
abbrev e32:PE:=⟨6,48,.val ty_0 false,false⟩
abbrev e33:PE:=⟨7,64,.eat ty_4,false⟩
abbrev e34:PE:=⟨10,112,.val ty_0 false,false⟩
abbrev e35:PE:=⟨11,128,.val ty_0 false,false⟩
abbrev e36:PE:=⟨12,144,.val ty_1 false,false⟩
abbrev e37:PE:=⟨0,16,.val ty_0 false,false⟩
abbrev e38:PE:=⟨3,32,.eat ty_4,false⟩
abbrev e39:PE:=⟨4,48,.val ty_0 false,false⟩
abbrev e40:PE:=⟨6,64,.val .bool false,false⟩
abbrev e41:PE:=⟨7,80,.val ty_0 false,false⟩
abbrev e42:PE:=⟨2,32,.val ty_6 true,false⟩
abbrev e43:PE:=⟨3,48,.box ty_5 false,false⟩
abbrev e44:PE:=⟨4,64,.box ty_0 false,false⟩
abbrev e45:PE:=⟨5,80,.box ty_6 false,false⟩
abbrev e46:PE:=⟨7,96,.eat ty_0,false⟩
abbrev e47:PE:=⟨8,112,.box ty_6 false,false⟩
abbrev e48:PE:=⟨6,64,.eat ty_4,false⟩
abbrev e49:PE:=⟨8,96,.val ty_0 false,false⟩
abbrev e50:PE:=⟨10,128,.val ty_0 false,false⟩
abbrev e51:PE:=⟨23,160,.val ty_0 false,false⟩
abbrev e52:PE:=⟨24,176,.val ty_0 false,false⟩
abbrev e53:PE:=⟨28,192,.val ty_0 false,false⟩
abbrev e54:PE:=⟨29,208,.val ty_0 false,false⟩
abbrev e55:PE:=⟨33,224,.val ty_0 false,false⟩
abbrev e56:PE:=⟨34,240,.val ty_0 false,false⟩

noncomputable def q1V:Variant:=⟨[.val ty_0 false],[(ty_0,false)],fun x=>laws_roomBehind x.1⟩
noncomputable def q1C:Cfg:=⟨Try.prog,tyOf tys,10,gOf [],false,[],[]⟩
def q1p:List PE := [e1]
noncomputable def q1F:F1:=⟨q1C,rr q1p [(ty_0,false)] Try.f25,fun p=>none,0,[]⟩
theorem q1K:Contract Try.prog 25 (q1V):=ctr q1C (rs := [(ty_0,false)]) (ps:=q1p) q1F Try.f25 16 ⟨tyOf_ok tys_ok,gOf_ok trivial⟩ (annl [] trivial)

noncomputable def q2V(k:Nat):Variant:=⟨[.val ty_1 false,.val .bool false],[(ty_7,false)],fun x=>laws_toIntS k x.1 x.2.1⟩
noncomputable def q2C(k:Nat):Cfg:=⟨Try.prog,tyOf tysR,49,gOf [(25,[],q1V)],true,[],[]⟩
def q2i1:List PE := [e2,e3,⟨6,64,.val ty_0 false,false⟩]
def q2o1:List PE := [e2,e3]
noncomputable def q2f1(k:Nat)(n:Nat)(x3:PTe q2i1):=laws_toIntS_L122 k n x3.1 x3.2.1 x3.2.2.1
def q2i2:List PE := [e2,e3,e4]
def q2o2:List PE := [e2,e3]
noncomputable def q2f2(k:Nat)(n:Nat)(x6:PTe q2i2):=laws_toIntS_L250 k n x6.1 x6.2.1 x6.2.2.1
def q2p:List PE := [e5,⟨1,16,.val .bool false,false⟩]
noncomputable def q2F(k:Nat):Fn (List Int×List Int):=⟨q2C k,rr q2p [(ty_7,false)] Try.f7,fun p=>bif Nat.beq p 122 then some (.loop q2i1 q2o1 0 80 (q2f1 k k))else bif Nat.beq p 250 then some (.loop q2i2 q2o2 2 80 (q2f2 k k))else bif Nat.beq p 6 then some (.cut [e2] 48)else none,0,[]⟩
theorem q2K(k:Nat):Contract Try.prog 7 (q2V k):=ctr (q2C k) (rs := [(ty_7,false)]) (ps:=q2p) (q2F k) Try.f7 32 ⟨tyOf_ok tysR_ok,gOf_ok ⟨q1K,trivial⟩⟩ (annl [122,250] ⟨lok q2i1 q2o1 0 80 (q2f1 k) k,lok q2i2 q2o2 2 80 (q2f2 k) k,trivial⟩)

noncomputable def q3V:Variant:=⟨[.val ty_0 false,.val ty_0 false,.val ty_0 false],[(.bool,false)],fun x=>spec_l1In x.1 x.2.1 x.2.2.1⟩
noncomputable def q3C:Cfg:=⟨Try.prog,tyOf tys,15,gOf [],false,[],[]⟩
def q3p:List PE := [e1,e6,e7]
noncomputable def q3F:F2:=⟨q3C,rr q3p [(.bool,false)] Try.f30,fun p=>none,0,[]⟩
theorem q3K:Contract Try.prog 30 (q3V):=ctr q3C (rs := [(.bool,false)]) (ps:=q3p) q3F Try.f30 48 ⟨tyOf_ok tys_ok,gOf_ok trivial⟩ (annl [] trivial)

noncomputable def q4V:Variant:=⟨[.val ty_0 false],[(.bool,false)],fun x=>spec_cbDepth x.1⟩
noncomputable def q4C:Cfg:=⟨Try.prog,tyOf tys,5,gOf [(30,[],q3V)],false,[],[]⟩
def q4p:List PE := [e1]
noncomputable def q4F:F2:=⟨q4C,rr q4p [(.bool,false)] Try.f21,fun p=>none,0,[]⟩
theorem q4K:Contract Try.prog 21 (q4V):=ctr q4C (rs := [(.bool,false)]) (ps:=q4p) q4F Try.f21 16 ⟨tyOf_ok tys_ok,gOf_ok ⟨q3K,trivial⟩⟩ (annl [] trivial)

noncomputable def q5V:Variant:=⟨[.val ty_0 false],[(ty_0,false)],fun x=>spec_dyPower x.1⟩
noncomputable def q5C:Cfg:=⟨Try.prog,tyOf tys,6,gOf [],false,[],[]⟩
def q5p:List PE := [e1]
noncomputable def q5F:F1:=⟨q5C,rr q5p [(ty_0,false)] Try.f41,fun p=>none,0,[]⟩
theorem q5K:Contract Try.prog 41 (q5V):=ctr q5C (rs := [(ty_0,false)]) (ps:=q5p) q5F Try.f41 16 ⟨tyOf_ok tys_ok,gOf_ok trivial⟩ (annl [] trivial)

noncomputable def q6V:Variant:=⟨[.val ty_0 false],[(ty_0,false)],fun x=>spec_cbCount x.1⟩
noncomputable def q6C:Cfg:=⟨Try.prog,tyOf tys,7,gOf [(41,[],q5V)],false,[],[]⟩
def q6p:List PE := [e1]
noncomputable def q6F:F1:=⟨q6C,rr q6p [(ty_0,false)] Try.f22,fun p=>none,0,[]⟩
theorem q6K:Contract Try.prog 22 (q6V):=ctr q6C (rs := [(ty_0,false)]) (ps:=q6p) q6F Try.f22 16 ⟨tyOf_ok tys_ok,gOf_ok ⟨q5K,trivial⟩⟩ (annl [] trivial)

noncomputable def q7V(k:Nat):Variant:=⟨[.val ty_1 false,.val ty_0 false,.val ty_0 false],[(.bool,false)],fun x=>spec_l1All k x.1 x.2.1 x.2.2.1⟩
noncomputable def q7C(k:Nat):Cfg:=⟨Try.prog,tyOf tys,21,gOf [(30,[],q3V)],false,[],[]⟩
def q7i1:List PE := [e8,⟨2,64,.val ty_0 false,false⟩,⟨9,80,.val ty_1 false,false⟩,⟨10,96,.val ty_0 false,false⟩,⟨11,112,.val ty_0 false,false⟩]
def q7o1:List PE := []
noncomputable def q7f1(k:Nat)(n:Nat)(x2:PTe q7i1):=spec_l1All_L26 k n x2.1 x2.2.1 x2.2.2.1 x2.2.2.2.1 x2.2.2.2.2.1
def q7p:List PE := [e5,e6,e7]
noncomputable def q7F(k:Nat):F2:=⟨q7C k,rr q7p [(.bool,false)] Try.f23,fun p=>bif Nat.beq p 26 then some (.loop q7i1 q7o1 0 128 (q7f1 k k))else none,0,[]⟩
theorem q7K(k:Nat):Contract Try.prog 23 (q7V k):=ctr (q7C k) (rs := [(.bool,false)]) (ps:=q7p) (q7F k) Try.f23 48 ⟨tyOf_ok tys_ok,gOf_ok ⟨q3K,trivial⟩⟩ (annl [26] ⟨lok q7i1 q7o1 0 128 (q7f1 k) k,trivial⟩)

noncomputable def q8V(k:Nat):Variant:=⟨[.val ty_0 false],[(ty_5,false)],fun x=>spec_cbCells k x.1⟩
noncomputable def q8C(k:Nat):Cfg:=⟨Try.prog,tyOf tys,42,gOf [(41,[],q5V)],false,[],[]⟩
def q8i1:List PE := [e9,e10,e11,e12,e13,e14,⟨16,112,.eat .bool,false⟩,⟨17,128,.val ty_0 false,false⟩,⟨18,144,.val ty_0 false,false⟩]
def q8o1:List PE := [e9,e10,e11,e12,e13,⟨16,96,.eat .bool,false⟩,⟨17,112,.val ty_0 false,false⟩,e15]
noncomputable def q8f1(k:Nat)(n:Nat)(x2:PTe q8i1):=spec_cbCells_L128227730 k n x2.1 x2.2.1 x2.2.2.1 x2.2.2.2.1 x2.2.2.2.2.1 x2.2.2.2.2.2.1 x2.2.2.2.2.2.2.1 x2.2.2.2.2.2.2.2.1 x2.2.2.2.2.2.2.2.2.1
def q8i2:List PE := [e9,e10,e11,e12,e13,⟨16,96,.eat .bool,false⟩,⟨17,112,.val ty_0 false,false⟩,e15]
def q8o2:List PE := [e9,e10,e11,⟨16,64,.eat .bool,false⟩,⟨17,80,.val ty_0 false,false⟩,⟨18,96,.val ty_0 false,false⟩]
noncomputable def q8f2(k:Nat)(n:Nat)(x5:PTe q8i2):=spec_cbCells_L2003558 k n x5.1 x5.2.1 x5.2.2.1 x5.2.2.2.1 x5.2.2.2.2.1 x5.2.2.2.2.2.1 x5.2.2.2.2.2.2.1 x5.2.2.2.2.2.2.2.1
def q8i3:List PE := [e9,e10,e11,⟨16,64,.eat .bool,false⟩,⟨17,80,.val ty_0 false,false⟩,⟨18,96,.val ty_0 false,false⟩]
def q8o3:List PE := [e9,e10,e11]
noncomputable def q8f3(k:Nat)(n:Nat)(x8:PTe q8i3):=spec_cbCells_L7826 k n x8.1 x8.2.1 x8.2.2.1 x8.2.2.2.1 x8.2.2.2.2.1 x8.2.2.2.2.2.1
def q8i4:List PE := [e9,e10,e11]
def q8o4:List PE := [e9]
noncomputable def q8f4(k:Nat)(n:Nat)(x11:PTe q8i4):=spec_cbCells_L122 k n x11.1 x11.2.1 x11.2.2.1
def q8p:List PE := [e1]
noncomputable def q8F(k:Nat):Fn (List (Int×Bool×Int×Int)):=⟨q8C k,rr q8p [(ty_5,false)] Try.f42,fun p=>bif Nat.beq p 128227730 then some (.loop q8i1 q8o1 6 160 (q8f1 k k))else bif Nat.beq p 2003558 then some (.loop q8i2 q8o2 4 144 (q8f2 k k))else bif Nat.beq p 7826 then some (.loop q8i3 q8o3 2 112 (q8f3 k k))else bif Nat.beq p 122 then some (.loop q8i4 q8o4 0 64 (q8f4 k k))else none,0,[]⟩
theorem q8K(k:Nat):Contract Try.prog 42 (q8V k):=ctr (q8C k) (rs := [(ty_5,false)]) (ps:=q8p) (q8F k) Try.f42 16 ⟨tyOf_ok tys_ok,gOf_ok ⟨q5K,trivial⟩⟩ (annl [122,7826,2003558,128227730] ⟨lok q8i4 q8o4 0 64 (q8f4 k) k,lok q8i3 q8o3 2 112 (q8f3 k) k,lok q8i2 q8o2 4 144 (q8f2 k) k,lok q8i1 q8o1 6 160 (q8f1 k) k,trivial⟩)

noncomputable def q9V(k:Nat):Variant:=⟨[.val ty_4 true,.val ty_0 false],[(ty_1,false),(ty_1,false)],fun x=>spec_cbRange k x.1 x.2.1⟩
noncomputable def q9C(k:Nat):Cfg:=⟨Try.prog,tyOf tys,57,gOf [],false,[],[]⟩
def q9i1:List PE := [e16,e17,⟨6,64,.eat ty_0,false⟩,⟨7,80,.eat ty_0,false⟩,⟨8,96,.val ty_1 false,false⟩,⟨18,112,.val ty_0 false,false⟩,⟨19,128,.val ty_0 false,false⟩]
def q9o1:List PE := [⟨6,32,.eat ty_0,false⟩,⟨7,48,.eat ty_0,false⟩]
noncomputable def q9f1(k:Nat)(n:Nat)(x3:PTe q9i1):=spec_cbRange_L122 k n x3.1 x3.2.1 x3.2.2.1 x3.2.2.2.1 x3.2.2.2.2.1 x3.2.2.2.2.2.1 x3.2.2.2.2.2.2.1
def q9p:List PE := [e18,e6]
noncomputable def q9F(k:Nat):Fn ((List Int)×List Int):=⟨q9C k,rr q9p [(ty_1,false),(ty_1,false)] Try.f77,fun p=>bif Nat.beq p 125332 then some (.cut [e16,e17,⟨6,64,.eat ty_0,false⟩,⟨7,80,.eat ty_0,false⟩,⟨8,96,.val ty_1 false,false⟩,e19,e15,e20] 160)else bif Nat.beq p 122 then some (.loop q9i1 q9o1 0 144 (q9f1 k k))else none,0,[]⟩
theorem q9K(k:Nat):Contract Try.prog 77 (q9V k):=ctr (q9C k) (rs := [(ty_1,false),(ty_1,false)]) (ps:=q9p) (q9F k) Try.f77 32 ⟨tyOf_ok tys_ok,gOf_ok trivial⟩ (annl [122] ⟨lok q9i1 q9o1 0 144 (q9f1 k) k,trivial⟩)

noncomputable def q10V(k:Nat):Variant:=⟨[.val ty_4 true,.val ty_1 false,.val ty_0 false],[(ty_1,false)],fun x=>spec_cbOffset k x.1 x.2.1 x.2.2.1⟩
noncomputable def q10C(k:Nat):Cfg:=⟨Try.prog,tyOf tys,53,gOf [(77,[],q9V k),(30,[],q3V)],false,[],[]⟩
def q10i1:List PE := [⟨7,48,.eat ty_0,false⟩,⟨8,64,.eat ty_0,false⟩,⟨9,80,.eat ty_0,false⟩,⟨18,96,.val ty_1 false,false⟩,⟨19,112,.val ty_0 false,false⟩,⟨20,128,.val ty_0 false,false⟩]
def q10o1:List PE := [⟨9,48,.eat ty_0,false⟩]
noncomputable def q10f1(k:Nat)(n:Nat)(x3:PTe q10i1):=spec_cbOffset_L122 k n x3.1 x3.2.1 x3.2.2.1 x3.2.2.2.1 x3.2.2.2.2.1 x3.2.2.2.2.2.1
def q10p:List PE := [e18,e21,e7]
noncomputable def q10F(k:Nat):Fn (List Int):=⟨q10C k,rr q10p [(ty_1,false)] Try.f59,fun p=>bif Nat.beq p 122 then some (.loop q10i1 q10o1 0 144 (q10f1 k k))else none,0,[]⟩
theorem q10K(k:Nat):Contract Try.prog 59 (q10V k):=ctr (q10C k) (rs := [(ty_1,false)]) (ps:=q10p) (q10F k) Try.f59 48 ⟨tyOf_ok tys_ok,gOf_ok ⟨q9K k,q3K,trivial⟩⟩ (annl [122] ⟨lok q10i1 q10o1 0 144 (q10f1 k) k,trivial⟩)

noncomputable def q11V:Variant:=⟨[.val ty_1 false,.val ty_1 false,.val ty_1 false],[(ty_0,false)],fun x=>spec_cbTurn x.1 x.2.1 x.2.2.1⟩
noncomputable def q11C:Cfg:=⟨Try.prog,tyOf tys,66,gOf [],false,[],[]⟩
def q11p:List PE := [e5,e21,⟨2,32,.val ty_1 false,false⟩]
noncomputable def q11F:F1:=⟨q11C,rr q11p [(ty_0,false)] Try.f60,fun p=>none,0,[]⟩
theorem q11K:Contract Try.prog 60 (q11V):=ctr q11C (rs := [(ty_0,false)]) (ps:=q11p) q11F Try.f60 48 ⟨tyOf_ok tys_ok,gOf_ok trivial⟩ (annl [] trivial)

noncomputable def q12V(k:Nat):Variant:=⟨[.val ty_1 false,.val ty_1 false,.val ty_0 false,.val ty_5 false],[(ty_1,false)],fun x=>spec_cbAround k x.1 x.2.1 x.2.2.1 x.2.2.2.1⟩
noncomputable def q12C(k:Nat):Cfg:=⟨Try.prog,tyOf tys,98,gOf [(59,[],q10V k),(60,[],q11V)],false,[],[]⟩
def q12i1:List PE := [e22,e23,e24,⟨3,112,.val ty_5 false,false⟩,⟨9,128,.eat ty_0,false⟩,⟨21,144,.val ty_1 false,false⟩,⟨22,160,.val ty_0 false,false⟩,⟨23,176,.val ty_0 false,false⟩]
def q12o1:List PE := [e22,e23,e24,⟨3,112,.val ty_5 false,false⟩,⟨9,128,.eat ty_0,false⟩]
noncomputable def q12f1(k:Nat)(n:Nat)(x1:PTe q12i1):=spec_cbAround_L58 k n x1.1 x1.2.1 x1.2.2.1 x1.2.2.2.1 x1.2.2.2.2.1 x1.2.2.2.2.2.1 x1.2.2.2.2.2.2.1 x1.2.2.2.2.2.2.2.1
def q12i2:List PE := [e22,e23,e24,⟨9,112,.eat ty_0,false⟩,⟨12,128,.eat ty_1,false⟩,⟨13,144,.eat ty_0,false⟩,⟨41,160,.val ty_5 false,false⟩,⟨42,176,.val ty_0 false,false⟩,⟨43,192,.val ty_0 false,false⟩]
def q12o2:List PE := [e25,e26,e27]
noncomputable def q12f2(k:Nat)(n:Nat)(x5:PTe q12i2):=spec_cbAround_L506 k n x5.1 x5.2.1 x5.2.2.1 x5.2.2.2.1 x5.2.2.2.2.1 x5.2.2.2.2.2.1 x5.2.2.2.2.2.2.1 x5.2.2.2.2.2.2.2.1 x5.2.2.2.2.2.2.2.2.1
def q12i3:List PE := [e25,e26,e27,e28,e15,e29,e30,⟨79,176,.val ty_0 false,false⟩,⟨80,192,.val ty_0 false,false⟩]
def q12o3:List PE := [e25,e26,e27,e28,e15,e29,e30]
noncomputable def q12f3(k:Nat)(n:Nat)(x9:PTe q12i3):=spec_cbAround_L1047142 k n x9.1 x9.2.1 x9.2.2.1 x9.2.2.2.1 x9.2.2.2.2.1 x9.2.2.2.2.2.1 x9.2.2.2.2.2.2.1 x9.2.2.2.2.2.2.2.1 x9.2.2.2.2.2.2.2.2.1
def q12i4:List PE := [e25,e26,e27,e28,e15,e29,e30]
def q12o4:List PE := [⟨17,64,.eat ty_0,false⟩]
noncomputable def q12f4(k:Nat)(n:Nat)(x12:PTe q12i4):=spec_cbAround_L4090 k n x12.1 x12.2.1 x12.2.2.1 x12.2.2.2.1 x12.2.2.2.2.1 x12.2.2.2.2.2.1 x12.2.2.2.2.2.2.1
def q12p:List PE := [e5,e21,e7,⟨3,48,.val ty_5 false,false⟩]
noncomputable def q12F(k:Nat):Fn (List Int):=⟨q12C k,rr q12p [(ty_1,false)] Try.f43,fun p=>bif Nat.beq p 58 then some (.loop q12i1 q12o1 0 192 (q12f1 k k))else bif Nat.beq p 506 then some (.loop q12i2 q12o2 3 208 (q12f2 k k))else bif Nat.beq p 1047142 then some (.loop q12i3 q12o3 7 208 (q12f3 k k))else bif Nat.beq p 4090 then some (.loop q12i4 q12o4 5 176 (q12f4 k k))else none,0,[]⟩
theorem q12K(k:Nat):Contract Try.prog 43 (q12V k):=ctr (q12C k) (rs := [(ty_1,false)]) (ps:=q12p) (q12F k) Try.f43 64 ⟨tyOf_ok tys_ok,gOf_ok ⟨q10K k,q11K,trivial⟩⟩ (annl [58,506,4090,1047142] ⟨lok q12i1 q12o1 0 192 (q12f1 k) k,lok q12i2 q12o2 3 208 (q12f2 k) k,lok q12i4 q12o4 5 176 (q12f4 k) k,lok q12i3 q12o3 7 208 (q12f3 k) k,trivial⟩)

noncomputable def q13V(k:Nat):Variant:=⟨[.val ty_1 false,.val ty_0 false],[(.bool,false)],fun x=>spec_l1Has k x.1 x.2.1⟩
noncomputable def q13C(k:Nat):Cfg:=⟨Try.prog,tyOf tys,17,gOf [],false,[],[]⟩
def q13i1:List PE := [e16,⟨7,48,.val ty_1 false,false⟩,⟨8,64,.val ty_0 false,false⟩,e31]
def q13o1:List PE := []
noncomputable def q13f1(k:Nat)(n:Nat)(x1:PTe q13i1):=spec_l1Has_L26 k n x1.1 x1.2.1 x1.2.2.1 x1.2.2.2.1
def q13p:List PE := [e5,e6]
noncomputable def q13F(k:Nat):F2:=⟨q13C k,rr q13p [(.bool,false)] Try.f44,fun p=>bif Nat.beq p 26 then some (.loop q13i1 q13o1 0 96 (q13f1 k k))else none,0,[]⟩
theorem q13K(k:Nat):Contract Try.prog 44 (q13V k):=ctr (q13C k) (rs := [(.bool,false)]) (ps:=q13p) (q13F k) Try.f44 32 ⟨tyOf_ok tys_ok,gOf_ok trivial⟩ (annl [26] ⟨lok q13i1 q13o1 0 96 (q13f1 k) k,trivial⟩)

noncomputable def q14V:Variant:=⟨[.val ty_0 false,.val ty_0 false,.val ty_0 false],[(ty_0,false)],fun x=>spec_cbTriple x.1 x.2.1 x.2.2.1⟩
noncomputable def q14C:Cfg:=⟨Try.prog,tyOf tys,38,gOf [],false,[],[]⟩
def q14p:List PE := [e1,e6,e7]
noncomputable def q14F:F1:=⟨q14C,rr q14p [(ty_0,false)] Try.f45,fun p=>none,0,[]⟩
theorem q14K:Contract Try.prog 45 (q14V):=ctr q14C (rs := [(ty_0,false)]) (ps:=q14p) q14F Try.f45 48 ⟨tyOf_ok tys_ok,gOf_ok trivial⟩ (annl [] trivial)

noncomputable def q15V(k:Nat):Variant:=⟨[.val ty_1 false,.val ty_0 false],[(ty_0,false),(.bool,false)],fun x=>spec_cbDegree k x.1 x.2.1⟩
noncomputable def q15C(k:Nat):Cfg:=⟨Try.prog,tyOf tys,93,gOf [(41,[],q5V),(42,[],q8V k),(43,[],q12V k),(44,[],q13V k),(45,[],q14V)],false,[],[]⟩
def q15i1:List PE := [e2,e32,e33,e13,e14,e34,e35,e36,⟨59,160,.val ty_1 false,false⟩,⟨60,176,.val ty_0 false,false⟩,⟨61,192,.val ty_0 false,false⟩]
def q15o1:List PE := [e2,e32,e33,e13,e14,e34,e35,e36]
noncomputable def q15f1(k:Nat)(n:Nat)(x5:PTe q15i1):=spec_cbDegree_L524887194 k n x5.1 x5.2.1 x5.2.2.1 x5.2.2.2.1 x5.2.2.2.2.1 x5.2.2.2.2.2.1 x5.2.2.2.2.2.2.1 x5.2.2.2.2.2.2.2.1 x5.2.2.2.2.2.2.2.2.1 x5.2.2.2.2.2.2.2.2.2.1 x5.2.2.2.2.2.2.2.2.2.2.1
def q15i2:List PE := [e2,e32,e33,e13,e14,e34,e35,e36,⟨15,160,.val ty_0 false,false⟩]
def q15o2:List PE := [e2,e32,e33,e13,e14,e34,e35]
noncomputable def q15f2(k:Nat)(n:Nat)(x9:PTe q15i2):=spec_cbDegree_L524887198 k n x9.1 x9.2.1 x9.2.2.1 x9.2.2.2.1 x9.2.2.2.2.1 x9.2.2.2.2.2.1 x9.2.2.2.2.2.2.1 x9.2.2.2.2.2.2.2.1 x9.2.2.2.2.2.2.2.2.1
def q15i3:List PE := [e2,e32,e33,e13,e14,e34,e35]
def q15o3:List PE := [e2,e32,e33,e13,e14,e34]
noncomputable def q15f3(k:Nat)(n:Nat)(x30:PTe q15i3):=spec_cbDegree_L1025170 k n x30.1 x30.2.1 x30.2.2.1 x30.2.2.2.1 x30.2.2.2.2.1 x30.2.2.2.2.2.1 x30.2.2.2.2.2.2.1
def q15i4:List PE := [e2,e32,e33,e13,e14,e34]
def q15o4:List PE := [e2,e32,e33,e13,e14]
noncomputable def q15f4(k:Nat)(n:Nat)(x33:PTe q15i4):=spec_cbDegree_L16018 k n x33.1 x33.2.1 x33.2.2.1 x33.2.2.2.1 x33.2.2.2.2.1 x33.2.2.2.2.2.1
def q15i5:List PE := [e2,e32,e33,e13,e14]
def q15o5:List PE := [⟨8,32,.val ty_0 false,false⟩]
noncomputable def q15f5(k:Nat)(n:Nat)(x36:PTe q15i5):=spec_cbDegree_L250 k n x36.1 x36.2.1 x36.2.2.1 x36.2.2.2.1 x36.2.2.2.2.1
def q15p:List PE := [e5,e6]
noncomputable def q15F(k:Nat):Fn (Int×Bool):=⟨q15C k,rr q15p [(ty_0,false),(.bool,false)] Try.f24,fun p=>bif Nat.beq p 524887194 then some (.loop q15i1 q15o1 6 208 (q15f1 k k))else bif Nat.beq p 524887198 then some (.loop q15i2 q15o2 8 176 (q15f2 k k))else bif Nat.beq p 1025170 then some (.loop q15i3 q15o3 4 144 (q15f3 k k))else bif Nat.beq p 16018 then some (.loop q15i4 q15o4 2 128 (q15f4 k k))else bif Nat.beq p 250 then some (.loop q15i5 q15o5 0 112 (q15f5 k k))else none,0,[]⟩
theorem q15K(k:Nat):Contract Try.prog 24 (q15V k):=ctr (q15C k) (rs := [(ty_0,false),(.bool,false)]) (ps:=q15p) (q15F k) Try.f24 32 ⟨tyOf_ok tys_ok,gOf_ok ⟨q5K,q8K k,q12K k,q13K k,q14K,trivial⟩⟩ (annl [250,16018,1025170,524887194,524887198] ⟨lok q15i5 q15o5 0 112 (q15f5 k) k,lok q15i4 q15o4 2 128 (q15f4 k) k,lok q15i3 q15o3 4 144 (q15f3 k) k,lok q15i1 q15o1 6 208 (q15f1 k) k,lok q15i2 q15o2 8 176 (q15f2 k) k,trivial⟩)

noncomputable def q16V(k:Nat):Variant:=⟨[.val ty_1 false,.val ty_0 false],[(ty_0,false),(.bool,false)],fun x=>spec_DegreeOfLabels k x.1 x.2.1⟩
noncomputable def q16C(k:Nat):Cfg:=⟨Try.prog,tyOf tys,26,gOf [(21,[],q4V),(22,[],q6V),(23,[],q7V k),(24,[],q15V k)],false,[],[]⟩
def q16p:List PE := [e5,e6]
noncomputable def q16F(k:Nat):Fn (Int×Bool):=⟨q16C k,rr q16p [(ty_0,false),(.bool,false)] Try.f6,fun p=>none,0,[]⟩
theorem q16K(k:Nat):Contract Try.prog 6 (q16V k):=ctr (q16C k) (rs := [(ty_0,false),(.bool,false)]) (ps:=q16p) (q16F k) Try.f6 32 ⟨tyOf_ok tys_ok,gOf_ok ⟨q4K,q6K,q7K k,q15K k,trivial⟩⟩ (annl [] trivial)

noncomputable def q17V:Variant:=⟨[.val ty_0 false,.val ty_0 false,.val ty_0 false],[(.bool,false)],fun x=>impl_inside x.1 x.2.1 x.2.2.1⟩
noncomputable def q17C:Cfg:=⟨Try.prog,tyOf tys,15,gOf [],false,[],[]⟩
def q17p:List PE := [e1,e6,e7]
noncomputable def q17F:F2:=⟨q17C,rr q17p [(.bool,false)] Try.f26,fun p=>none,0,[]⟩
theorem q17K:Contract Try.prog 26 (q17V):=ctr q17C (rs := [(.bool,false)]) (ps:=q17p) q17F Try.f26 48 ⟨tyOf_ok tys_ok,gOf_ok trivial⟩ (annl [] trivial)

noncomputable def q18V:Variant:=⟨[.val ty_0 false],[(.bool,false)],fun x=>impl_areLabels_1 x.1⟩
noncomputable def q18C:Cfg:=⟨Try.prog,tyOf tys,6,gOf [(26,[],q17V)],false,[],[]⟩
def q18p:List PE := [e1]
noncomputable def q18F:F2:=⟨q18C,rr q18p [(.bool,false)] Try.f47,fun p=>none,0,[]⟩
theorem q18K:Contract Try.prog 47 (q18V):=ctr q18C (rs := [(.bool,false)]) (ps:=q18p) q18F Try.f47 16 ⟨tyOf_ok tys_ok,gOf_ok ⟨q17K,trivial⟩⟩ (annl [] trivial)

noncomputable def q19V(k:Nat):Variant:=⟨[.val ty_1 false,.fn 47 []],[(ty_0,false)],fun x=>slices_IndexFunc_int_int_impl_areLabels_1 k x.1 x.2.1⟩
noncomputable def q19C(k:Nat):Cfg:=⟨Try.prog,tyOf tys,19,gOf [(47,[],q18V)],false,[],[]⟩
def q19i1:List PE := [e2,⟨1,48,.fn 47 [],false⟩,e4,e13]
def q19o1:List PE := []
noncomputable def q19f1(k:Nat)(n:Nat)(x2:PTe q19i1):=slices_IndexFunc_int_int_impl_areLabels_1_L26 k n x2.1 x2.2.1 x2.2.2.1 x2.2.2.2.1
def q19p:List PE := [e5,⟨1,16,.fn 47 [],false⟩]
noncomputable def q19F(k:Nat):F1:=⟨q19C k,rr q19p [(ty_0,false)] Try.f61,fun p=>bif Nat.beq p 26 then some (.loop q19i1 q19o1 0 96 (q19f1 k k))else none,0,[]⟩
theorem q19K(k:Nat):Contract Try.prog 61 (q19V k):=ctr (q19C k) (rs := [(ty_0,false)]) (ps:=q19p) (q19F k) Try.f61 32 ⟨tyOf_ok tys_ok,gOf_ok ⟨q18K,trivial⟩⟩ (annl [26] ⟨lok q19i1 q19o1 0 96 (q19f1 k) k,trivial⟩)

noncomputable def q20V(k:Nat):Variant:=⟨[.val ty_1 false,.fn 47 []],[(.bool,false)],fun x=>slices_ContainsFunc_int_int_impl_areLabels_1 k x.1 x.2.1⟩
noncomputable def q20C(k:Nat):Cfg:=⟨Try.prog,tyOf tys,9,gOf [(61,[47],q19V k)],false,[],[]⟩
def q20p:List PE := [e5,⟨1,16,.fn 47 [],false⟩]
noncomputable def q20F(k:Nat):F2:=⟨q20C k,rr q20p [(.bool,false)] Try.f46,fun p=>none,0,[]⟩
theorem q20K(k:Nat):Contract Try.prog 46 (q20V k):=ctr (q20C k) (rs := [(.bool,false)]) (ps:=q20p) (q20F k) Try.f46 32 ⟨tyOf_ok tys_ok,gOf_ok ⟨q19K k,trivial⟩⟩ (annl [] trivial)

noncomputable def q21V(k:Nat):Variant:=⟨[.val ty_1 false],[(.bool,false)],fun x=>impl_areLabels k x.1⟩
noncomputable def q21C(k:Nat):Cfg:=⟨Try.prog,tyOf tys,6,gOf [(46,[47],q20V k)],false,[],[]⟩
def q21p:List PE := [e5]
noncomputable def q21F(k:Nat):F2:=⟨q21C k,rr q21p [(.bool,false)] Try.f27,fun p=>none,0,[]⟩
theorem q21K(k:Nat):Contract Try.prog 27 (q21V k):=ctr (q21C k) (rs := [(.bool,false)]) (ps:=q21p) (q21F k) Try.f27 16 ⟨tyOf_ok tys_ok,gOf_ok ⟨q20K k,trivial⟩⟩ (annl [] trivial)

noncomputable def q22V(k:Nat):Variant:=⟨[.val ty_0 false],[(ty_5,false)],fun x=>impl_surfaceCells k x.1⟩
noncomputable def q22C(k:Nat):Cfg:=⟨Try.prog,tyOf tys,41,gOf [],false,[],[]⟩
def q22i1:List PE := [e37,e38,e39,e40,e41,e14,⟨12,112,.eat .bool,false⟩,⟨13,128,.val ty_0 false,false⟩,⟨14,144,.val ty_0 false,false⟩,⟨19,160,.val ty_0 false,false⟩,⟨20,176,.val ty_0 false,false⟩,⟨24,192,.val ty_0 false,false⟩,⟨25,208,.val ty_0 false,false⟩]
def q22o1:List PE := [e37,e38,e39,e40,e31,⟨12,96,.eat .bool,false⟩,⟨13,112,.val ty_0 false,false⟩,⟨14,128,.val ty_0 false,false⟩,e20,⟨20,160,.val ty_0 false,false⟩]
noncomputable def q22f1(k:Nat)(n:Nat)(x1:PTe q22i1):=impl_surfaceCells_L979789414 k n x1.1 x1.2.1 x1.2.2.1 x1.2.2.2.1 x1.2.2.2.2.1 x1.2.2.2.2.2.1 x1.2.2.2.2.2.2.1 x1.2.2.2.2.2.2.2.1 x1.2.2.2.2.2.2.2.2.1 x1.2.2.2.2.2.2.2.2.2.1 x1.2.2.2.2.2.2.2.2.2.2.1 x1.2.2.2.2.2.2.2.2.2.2.2.1 x1.2.2.2.2.2.2.2.2.2.2.2.2.1
def q22i2:List PE := [e37,e38,e39,e40,e31,⟨12,96,.eat .bool,false⟩,⟨13,112,.val ty_0 false,false⟩,⟨14,128,.val ty_0 false,false⟩,e20,⟨20,160,.val ty_0 false,false⟩]
def q22o2:List PE := [e37,e38,e39,⟨9,64,.val ty_0 false,false⟩,⟨12,80,.eat .bool,false⟩,⟨13,96,.val ty_0 false,false⟩,⟨14,112,.val ty_0 false,false⟩]
noncomputable def q22f2(k:Nat)(n:Nat)(x4:PTe q22i2):=impl_surfaceCells_L3827302 k n x4.1 x4.2.1 x4.2.2.1 x4.2.2.2.1 x4.2.2.2.2.1 x4.2.2.2.2.2.1 x4.2.2.2.2.2.2.1 x4.2.2.2.2.2.2.2.1 x4.2.2.2.2.2.2.2.2.1 x4.2.2.2.2.2.2.2.2.2.1
def q22i3:List PE := [e37,e38,e39,⟨9,64,.val ty_0 false,false⟩,⟨12,80,.eat .bool,false⟩,⟨13,96,.val ty_0 false,false⟩,⟨14,112,.val ty_0 false,false⟩]
def q22o3:List PE := [e37,e38,⟨9,48,.val ty_0 false,false⟩]
noncomputable def q22f3(k:Nat)(n:Nat)(x7:PTe q22i3):=impl_surfaceCells_L14950 k n x7.1 x7.2.1 x7.2.2.1 x7.2.2.2.1 x7.2.2.2.2.1 x7.2.2.2.2.2.1 x7.2.2.2.2.2.2.1
def q22i4:List PE := [e37,e38,⟨9,48,.val ty_0 false,false⟩]
def q22o4:List PE := [e9]
noncomputable def q22f4(k:Nat)(n:Nat)(x10:PTe q22i4):=impl_surfaceCells_L58 k n x10.1 x10.2.1 x10.2.2.1
def q22p:List PE := [e1]
noncomputable def q22F(k:Nat):Fn (List (Int×Bool×Int×Int)):=⟨q22C k,rr q22p [(ty_5,false)] Try.f48,fun p=>bif Nat.beq p 979789414 then some (.loop q22i1 q22o1 6 224 (q22f1 k k))else bif Nat.beq p 3827302 then some (.loop q22i2 q22o2 4 176 (q22f2 k k))else bif Nat.beq p 14950 then some (.loop q22i3 q22o3 2 128 (q22f3 k k))else bif Nat.beq p 58 then some (.loop q22i4 q22o4 0 64 (q22f4 k k))else none,0,[]⟩
theorem q22K(k:Nat):Contract Try.prog 48 (q22V k):=ctr (q22C k) (rs := [(ty_5,false)]) (ps:=q22p) (q22F k) Try.f48 16 ⟨tyOf_ok tys_ok,gOf_ok trivial⟩ (annl [58,14950,3827302,979789414] ⟨lok q22i4 q22o4 0 64 (q22f4 k) k,lok q22i3 q22o3 2 128 (q22f3 k) k,lok q22i2 q22o2 4 176 (q22f2 k) k,lok q22i1 q22o1 6 224 (q22f1 k) k,trivial⟩)

noncomputable def q23V:Variant:=⟨[.val ty_4 true,.val ty_0 false],[(ty_6,true),(ty_2,true)],fun x=>impl_Cell_lowest x.1 x.2.1⟩
noncomputable def q23C:Cfg:=⟨Try.prog,tyOf tys,37,gOf [],false,[],[]⟩
def q23p:List PE := [e18,e6]
noncomputable def q23F:Fn ((Int×Int×Int)×Int×Int):=⟨q23C,rr q23p [(ty_6,true),(ty_2,true)] Try.f78,fun p=>bif Nat.beq p 62 then some (.cut [⟨2,32,.box ty_4 false,false⟩,⟨4,48,.box ty_6 false,false⟩,⟨5,64,.box ty_2 false,false⟩,⟨6,80,.box ty_2 false,false⟩,⟨7,96,.box ty_6 false,false⟩] 112)else bif Nat.beq p 14 then some (.cut [e16,e17,⟨4,64,.box ty_6 false,false⟩,⟨5,80,.box ty_2 false,false⟩,⟨6,96,.box ty_2 false,false⟩] 112)else none,0,[]⟩
theorem q23K:Contract Try.prog 78 (q23V):=ctr q23C (rs := [(ty_6,true),(ty_2,true)]) (ps:=q23p) q23F Try.f78 32 ⟨tyOf_ok tys_ok,gOf_ok trivial⟩ (annl [] trivial)

noncomputable def q24V:Variant:=⟨[.val ty_4 true,.val ty_0 false,.val ty_6 true],[(.bool,false)],fun x=>impl_Cell_touches x.1 x.2.1 x.2.2.1⟩
noncomputable def q24C:Cfg:=⟨Try.prog,tyOf tys,44,gOf [(78,[],q23V),(26,[],q17V)],false,[],[]⟩
def q24p:List PE := [e18,e6,e42]
noncomputable def q24F:F2:=⟨q24C,rr q24p [(.bool,false)] Try.f62,fun p=>none,0,[]⟩
theorem q24K:Contract Try.prog 62 (q24V):=ctr q24C (rs := [(.bool,false)]) (ps:=q24p) q24F Try.f62 48 ⟨tyOf_ok tys_ok,gOf_ok ⟨q23K,q17K,trivial⟩⟩ (annl [] trivial)

noncomputable def q25V(k:Nat):Variant:=⟨[.val ty_4 true,.val ty_0 false,.val ty_6 true],[(ty_6,true)],fun x=>impl_Cell_from k x.1 x.2.1 x.2.2.1⟩
noncomputable def q25C(k:Nat):Cfg:=⟨Try.prog,tyOf tys,37,gOf [(78,[],q23V)],false,[],[]⟩
def q25i1:List PE := [⟨5,48,.box ty_6 false,false⟩,⟨6,64,.box ty_6 false,false⟩,⟨7,80,.box ty_6 false,false⟩,⟨9,96,.box ty_6 false,false⟩,⟨19,112,.val ty_2 true,false⟩,⟨20,128,.val ty_0 false,false⟩]
def q25o1:List PE := [⟨6,48,.box ty_6 false,false⟩,⟨9,64,.box ty_6 false,false⟩]
noncomputable def q25f1(k:Nat)(n:Nat)(x2:PTe q25i1):=impl_Cell_from_L122 k n x2.1 x2.2.1 x2.2.2.1 x2.2.2.2.1 x2.2.2.2.2.1 x2.2.2.2.2.2.1
def q25p:List PE := [e18,e6,e42]
noncomputable def q25F(k:Nat):Fn (Int×Int×Int):=⟨q25C k,rr q25p [(ty_6,true)] Try.f63,fun p=>bif Nat.beq p 122 then some (.loop q25i1 q25o1 0 144 (q25f1 k k))else none,0,[]⟩
theorem q25K(k:Nat):Contract Try.prog 63 (q25V k):=ctr (q25C k) (rs := [(ty_6,true)]) (ps:=q25p) (q25F k) Try.f63 48 ⟨tyOf_ok tys_ok,gOf_ok ⟨q23K,trivial⟩⟩ (annl [122] ⟨lok q25i1 q25o1 0 144 (q25f1 k) k,trivial⟩)

noncomputable def q26V:Variant:=⟨[.val ty_6 true,.val ty_6 true,.val ty_6 true],[(ty_0,false)],fun x=>impl_turned x.1 x.2.1 x.2.2.1⟩
noncomputable def q26C:Cfg:=⟨Try.prog,tyOf tys,51,gOf [],false,[],[]⟩
def q26p:List PE := [⟨0,0,.val ty_6 true,false⟩,⟨1,16,.val ty_6 true,false⟩,e42]
noncomputable def q26F:F1:=⟨q26C,rr q26p [(ty_0,false)] Try.f65,fun p=>none,0,[]⟩
theorem q26K:Contract Try.prog 65 (q26V):=ctr q26C (rs := [(ty_0,false)]) (ps:=q26p) q26F Try.f65 48 ⟨tyOf_ok tys_ok,gOf_ok trivial⟩ (annl [] trivial)

noncomputable def q27V(k:Nat):Variant:=⟨[.val ty_0 false,.ptr ty_6 false,.ptr ty_5 false,.ptr ty_0 false,.ptr ty_6 false,.ptr ty_6 false],[(.bool,false)],fun x=>impl_around_1 k x.1 x.2.1 x.2.2.1 x.2.2.2.1 x.2.2.2.2.1 x.2.2.2.2.2.1⟩
noncomputable def q27C(k:Nat):Cfg:=⟨Try.prog,tyOf tys,19,gOf [(63,[],q25V k),(65,[],q26V)],false,[],[]⟩
def q27p:List PE := [e1,⟨1,16,.ptr ty_6 false,false⟩,⟨2,32,.ptr ty_5 false,false⟩,⟨3,48,.ptr ty_0 false,false⟩,⟨4,64,.ptr ty_6 false,false⟩,⟨5,80,.ptr ty_6 false,false⟩]
noncomputable def q27F(k:Nat):F2:=⟨q27C k,rr q27p [(.bool,false)] Try.f64,fun p=>none,0,[]⟩
theorem q27K(k:Nat):Contract Try.prog 64 (q27V k):=ctr (q27C k) (rs := [(.bool,false)]) (ps:=q27p) (q27F k) Try.f64 96 ⟨tyOf_ok tys_ok,gOf_ok ⟨q25K k,q26K,trivial⟩⟩ (annl [] trivial)

noncomputable def q28V(k:Nat):Variant:=⟨[.val ty_1 false,.fn 64 [(ty_6,.pr),(ty_5,.pr),(ty_0,.pr),(ty_6,.pr),(ty_6,.pr)]],[(ty_0,false)],fun x=>slices_IndexFunc_int_int_impl_around_1 k x.1 x.2.1⟩
noncomputable def q28C(k:Nat):Cfg:=⟨Try.prog,tyOf tys,19,gOf [(64,[],q27V k)],false,[],[]⟩
def q28i1:List PE := [e2,⟨1,48,.fn 64 [(ty_6,.pr),(ty_5,.pr),(ty_0,.pr),(ty_6,.pr),(ty_6,.pr)],false⟩,e4,e13]
def q28o1:List PE := []
noncomputable def q28f1(k:Nat)(n:Nat)(x2:PTe q28i1):=slices_IndexFunc_int_int_impl_around_1_L26 k n x2.1 x2.2.1 x2.2.2.1 x2.2.2.2.1
def q28p:List PE := [e5,⟨1,16,.fn 64 [(ty_6,.pr),(ty_5,.pr),(ty_0,.pr),(ty_6,.pr),(ty_6,.pr)],false⟩]
noncomputable def q28F(k:Nat):F1:=⟨q28C k,rr q28p [(ty_0,false)] Try.f61,fun p=>bif Nat.beq p 26 then some (.loop q28i1 q28o1 0 96 (q28f1 k k))else none,0,[]⟩
theorem q28K(k:Nat):Contract Try.prog 61 (q28V k):=ctr (q28C k) (rs := [(ty_0,false)]) (ps:=q28p) (q28F k) Try.f61 32 ⟨tyOf_ok tys_ok,gOf_ok ⟨q27K k,trivial⟩⟩ (annl [26] ⟨lok q28i1 q28o1 0 96 (q28f1 k) k,trivial⟩)

noncomputable def q29V(k:Nat):Variant:=⟨[.val ty_5 false,.val ty_0 false,.val ty_6 true],[(ty_1,false)],fun x=>impl_around k x.1 x.2.1 x.2.2.1⟩
noncomputable def q29C(k:Nat):Cfg:=⟨Try.prog,tyOf tys,73,gOf [(62,[],q24V),(63,[],q25V k),(61,[64],q28V k)],true,[],[]⟩
def q29i1:List PE := [e43,e44,e45,e46,e47,⟨15,128,.val ty_5 false,false⟩,⟨16,144,.val ty_0 false,false⟩,⟨17,160,.val ty_0 false,false⟩]
def q29o1:List PE := [e43,e44,e45,e46,e47]
noncomputable def q29f1(k:Nat)(n:Nat)(x2:PTe q29i1):=impl_around_L122 k n x2.1 x2.2.1 x2.2.2.1 x2.2.2.2.1 x2.2.2.2.2.1 x2.2.2.2.2.2.1 x2.2.2.2.2.2.2.1 x2.2.2.2.2.2.2.2.1
def q29i2:List PE := [e43,e44,e45,e46,e47,⟨11,128,.eat ty_0,false⟩]
def q29o2:List PE := [⟨11,48,.eat ty_0,false⟩]
noncomputable def q29f2(k:Nat)(n:Nat)(x9:PTe q29i2):=impl_around_L508 k n x9.1 x9.2.1 x9.2.2.1 x9.2.2.2.1 x9.2.2.2.2.1 x9.2.2.2.2.2.1
def q29p:List PE := [⟨0,0,.val ty_5 false,false⟩,e6,e42]
noncomputable def q29F(k:Nat):Fn (List Int):=⟨q29C k,rr q29p [(ty_1,false)] Try.f49,fun p=>bif Nat.beq p 122 then some (.loop q29i1 q29o1 0 176 (q29f1 k k))else bif Nat.beq p 508 then some (.peel q29i2 q29o2 2 144 (q29f2 k k))else none,0,[]⟩
theorem q29K(k:Nat):Contract Try.prog 49 (q29V k):=ctr (q29C k) (rs := [(ty_1,false)]) (ps:=q29p) (q29F k) Try.f49 48 ⟨tyOf_ok tys_ok,gOf_ok ⟨q24K,q25K k,q28K k,trivial⟩⟩ (annl [122,508] ⟨lok q29i1 q29o1 0 176 (q29f1 k) k,lokp q29i2 q29o2 2 144 (q29f2 k) k,trivial⟩)

noncomputable def q30V(k:Nat):Variant:=⟨[.val ty_1 false,.val ty_0 false],[(ty_0,false)],fun x=>slices_Index_int_int k x.1 x.2.1⟩
noncomputable def q30C(k:Nat):Cfg:=⟨Try.prog,tyOf tys,19,gOf [],false,[],[]⟩
def q30i1:List PE := [e2,e8,e4,e13]
def q30o1:List PE := []
noncomputable def q30f1(k:Nat)(n:Nat)(x1:PTe q30i1):=slices_Index_int_int_L26 k n x1.1 x1.2.1 x1.2.2.1 x1.2.2.2.1
def q30p:List PE := [e5,e6]
noncomputable def q30F(k:Nat):F1:=⟨q30C k,rr q30p [(ty_0,false)] Try.f66,fun p=>bif Nat.beq p 26 then some (.loop q30i1 q30o1 0 96 (q30f1 k k))else none,0,[]⟩
theorem q30K(k:Nat):Contract Try.prog 66 (q30V k):=ctr (q30C k) (rs := [(ty_0,false)]) (ps:=q30p) (q30F k) Try.f66 32 ⟨tyOf_ok tys_ok,gOf_ok trivial⟩ (annl [26] ⟨lok q30i1 q30o1 0 96 (q30f1 k) k,trivial⟩)

noncomputable def q31V(k:Nat):Variant:=⟨[.val ty_1 false,.val ty_0 false],[(.bool,false)],fun x=>slices_Contains_int_int k x.1 x.2.1⟩
noncomputable def q31C(k:Nat):Cfg:=⟨Try.prog,tyOf tys,9,gOf [(66,[],q30V k)],false,[],[]⟩
def q31p:List PE := [e5,e6]
noncomputable def q31F(k:Nat):F2:=⟨q31C k,rr q31p [(.bool,false)] Try.f50,fun p=>none,0,[]⟩
theorem q31K(k:Nat):Contract Try.prog 50 (q31V k):=ctr (q31C k) (rs := [(.bool,false)]) (ps:=q31p) (q31F k) Try.f50 32 ⟨tyOf_ok tys_ok,gOf_ok ⟨q30K k,trivial⟩⟩ (annl [] trivial)

noncomputable def q32V:Variant:=⟨[.val ty_0 false,.val ty_0 false,.val ty_0 false],[(ty_0,false)],fun x=>impl_countOf x.1 x.2.1 x.2.2.1⟩
noncomputable def q32C:Cfg:=⟨Try.prog,tyOf tys,25,gOf [],false,[],[]⟩
def q32p:List PE := [e1,e6,e7]
noncomputable def q32F:F1:=⟨q32C,rr q32p [(ty_0,false)] Try.f51,fun p=>bif Nat.beq p 52 then some (.cut [⟨10,48,.val ty_6 true,false⟩,⟨11,64,.val .bool false,false⟩] 80)else none,0,[]⟩
theorem q32K:Contract Try.prog 51 (q32V):=ctr q32C (rs := [(ty_0,false)]) (ps:=q32p) q32F Try.f51 48 ⟨tyOf_ok tys_ok,gOf_ok trivial⟩ (annl [] trivial)

noncomputable def q33V(k:Nat):Variant:=⟨[.val ty_1 false,.val ty_0 false],[(ty_0,false),(.bool,false)],fun x=>impl_degreeOfLabels k x.1 x.2.1⟩
noncomputable def q33C(k:Nat):Cfg:=⟨Try.prog,tyOf tys,98,gOf [(48,[],q22V k),(49,[],q29V k),(50,[],q31V k),(51,[],q32V)],false,[],[]⟩
def q33i1:List PE := [e2,e8,e48,e41,e49,e19,e50,⟨12,144,.eat ty_0,false⟩,e51,e52,e53,e54,e55,e56,⟨43,256,.eat ty_0,false⟩,⟨44,272,.val ty_0 false,false⟩,⟨45,288,.val ty_0 false,false⟩]
def q33o1:List PE := [e2,e8,e48,e41,e49,e19,e50,⟨12,144,.eat ty_0,false⟩,e51,e52,e53,e54,e55,e56]
noncomputable def q33f1(k:Nat)(n:Nat)(x3:PTe q33i1):=impl_degreeOfLabels_L3919157658 k n x3.1 x3.2.1 x3.2.2.1 x3.2.2.2.1 x3.2.2.2.2.1 x3.2.2.2.2.2.1 x3.2.2.2.2.2.2.1 x3.2.2.2.2.2.2.2.1 x3.2.2.2.2.2.2.2.2.1 x3.2.2.2.2.2.2.2.2.2.1 x3.2.2.2.2.2.2.2.2.2.2.1 x3.2.2.2.2.2.2.2.2.2.2.2.1 x3.2.2.2.2.2.2.2.2.2.2.2.2.1 x3.2.2.2.2.2.2.2.2.2.2.2.2.2.1 x3.2.2.2.2.2.2.2.2.2.2.2.2.2.2.1 x3.2.2.2.2.2.2.2.2.2.2.2.2.2.2.2.1 x3.2.2.2.2.2.2.2.2.2.2.2.2.2.2.2.2.1
def q33i2:List PE := [e2,e8,e48,e41,e49,e19,e50,e36,e51,e52,e53,e54,e55,e56,⟨57,256,.val ty_1 false,false⟩,⟨58,272,.val ty_0 false,false⟩,⟨59,288,.val ty_0 false,false⟩]
def q33o2:List PE := [e2,e8,e48,e41,e49,e19,e50,e36,e51,e52,e53,e54,e55,e56]
noncomputable def q33f2(k:Nat)(n:Nat)(x7:PTe q33i2):=impl_degreeOfLabels_L7838315322 k n x7.1 x7.2.1 x7.2.2.1 x7.2.2.2.1 x7.2.2.2.2.1 x7.2.2.2.2.2.1 x7.2.2.2.2.2.2.1 x7.2.2.2.2.2.2.2.1 x7.2.2.2.2.2.2.2.2.1 x7.2.2.2.2.2.2.2.2.2.1 x7.2.2.2.2.2.2.2.2.2.2.1 x7.2.2.2.2.2.2.2.2.2.2.2.1 x7.2.2.2.2.2.2.2.2.2.2.2.2.1 x7.2.2.2.2.2.2.2.2.2.2.2.2.2.1 x7.2.2.2.2.2.2.2.2.2.2.2.2.2.2.1 x7.2.2.2.2.2.2.2.2.2.2.2.2.2.2.2.1 x7.2.2.2.2.2.2.2.2.2.2.2.2.2.2.2.2.1
def q33i3:List PE := [e2,e8,e48,e41,e49,e19,e50,e36,⟨17,160,.val ty_0 false,false⟩,⟨23,176,.val ty_0 false,false⟩,⟨24,192,.val ty_0 false,false⟩,⟨28,208,.val ty_0 false,false⟩,⟨29,224,.val ty_0 false,false⟩,⟨33,240,.val ty_0 false,false⟩,⟨34,256,.val ty_0 false,false⟩]
def q33o3:List PE := [e2,e8,e48,e41,e49,e19,e50,⟨23,144,.val ty_0 false,false⟩,⟨24,160,.val ty_0 false,false⟩,⟨28,176,.val ty_0 false,false⟩,⟨29,192,.val ty_0 false,false⟩,⟨33,208,.val ty_0 false,false⟩,⟨34,224,.val ty_0 false,false⟩]
noncomputable def q33f3(k:Nat)(n:Nat)(x11:PTe q33i3):=impl_degreeOfLabels_L7838315326 k n x11.1 x11.2.1 x11.2.2.1 x11.2.2.2.1 x11.2.2.2.2.1 x11.2.2.2.2.2.1 x11.2.2.2.2.2.2.1 x11.2.2.2.2.2.2.2.1 x11.2.2.2.2.2.2.2.2.1 x11.2.2.2.2.2.2.2.2.2.1 x11.2.2.2.2.2.2.2.2.2.2.1 x11.2.2.2.2.2.2.2.2.2.2.2.1 x11.2.2.2.2.2.2.2.2.2.2.2.2.1 x11.2.2.2.2.2.2.2.2.2.2.2.2.2.1 x11.2.2.2.2.2.2.2.2.2.2.2.2.2.2.1
def q33i4:List PE := [e2,e8,e48,e41,e49,e19,e50,⟨23,144,.val ty_0 false,false⟩,⟨24,160,.val ty_0 false,false⟩,⟨28,176,.val ty_0 false,false⟩,⟨29,192,.val ty_0 false,false⟩,⟨33,208,.val ty_0 false,false⟩,⟨34,224,.val ty_0 false,false⟩]
def q33o4:List PE := [e2,e8,e48,e41,e49,e19,⟨23,128,.val ty_0 false,false⟩,⟨24,144,.val ty_0 false,false⟩,⟨28,160,.val ty_0 false,false⟩,⟨29,176,.val ty_0 false,false⟩]
noncomputable def q33f4(k:Nat)(n:Nat)(x14:PTe q33i4):=impl_degreeOfLabels_L3827302 k n x14.1 x14.2.1 x14.2.2.1 x14.2.2.2.1 x14.2.2.2.2.1 x14.2.2.2.2.2.1 x14.2.2.2.2.2.2.1 x14.2.2.2.2.2.2.2.1 x14.2.2.2.2.2.2.2.2.1 x14.2.2.2.2.2.2.2.2.2.1 x14.2.2.2.2.2.2.2.2.2.2.1 x14.2.2.2.2.2.2.2.2.2.2.2.1 x14.2.2.2.2.2.2.2.2.2.2.2.2.1
def q33i5:List PE := [e2,e8,e48,e41,e49,e19,⟨23,128,.val ty_0 false,false⟩,⟨24,144,.val ty_0 false,false⟩,⟨28,160,.val ty_0 false,false⟩,⟨29,176,.val ty_0 false,false⟩]
def q33o5:List PE := [e2,e8,e48,e41,e49,⟨23,112,.val ty_0 false,false⟩,⟨24,128,.val ty_0 false,false⟩]
noncomputable def q33f5(k:Nat)(n:Nat)(x17:PTe q33i5):=impl_degreeOfLabels_L14950 k n x17.1 x17.2.1 x17.2.2.1 x17.2.2.2.1 x17.2.2.2.2.1 x17.2.2.2.2.2.1 x17.2.2.2.2.2.2.1 x17.2.2.2.2.2.2.2.1 x17.2.2.2.2.2.2.2.2.1 x17.2.2.2.2.2.2.2.2.2.1
def q33i6:List PE := [e2,e8,e48,e41,e49,⟨23,112,.val ty_0 false,false⟩,⟨24,128,.val ty_0 false,false⟩]
def q33o6:List PE := [⟨8,32,.val ty_0 false,false⟩]
noncomputable def q33f6(k:Nat)(n:Nat)(x20:PTe q33i6):=impl_degreeOfLabels_L58 k n x20.1 x20.2.1 x20.2.2.1 x20.2.2.2.1 x20.2.2.2.2.1 x20.2.2.2.2.2.1 x20.2.2.2.2.2.2.1
def q33p:List PE := [e5,e6]
noncomputable def q33F(k:Nat):Fn (Int×Bool):=⟨q33C k,rr q33p [(ty_0,false),(.bool,false)] Try.f28,fun p=>bif Nat.beq p 3919157658 then some (.loop q33i1 q33o1 6 304 (q33f1 k k))else bif Nat.beq p 7838315322 then some (.loop q33i2 q33o2 8 304 (q33f2 k k))else bif Nat.beq p 7838315326 then some (.loop q33i3 q33o3 10 272 (q33f3 k k))else bif Nat.beq p 3827302 then some (.loop q33i4 q33o4 4 240 (q33f4 k k))else bif Nat.beq p 14950 then some (.loop q33i5 q33o5 2 192 (q33f5 k k))else bif Nat.beq p 58 then some (.loop q33i6 q33o6 0 144 (q33f6 k k))else none,0,[]⟩
theorem q33K(k:Nat):Contract Try.prog 28 (q33V k):=ctr (q33C k) (rs := [(ty_0,false),(.bool,false)]) (ps:=q33p) (q33F k) Try.f28 32 ⟨tyOf_ok tys_ok,gOf_ok ⟨q22K k,q29K k,q31K k,q32K,trivial⟩⟩ (annl [58,14950,3827302,3919157658,7838315322,7838315326] ⟨lok q33i6 q33o6 0 144 (q33f6 k) k,lok q33i5 q33o5 2 192 (q33f5 k) k,lok q33i4 q33o4 4 240 (q33f4 k) k,lok q33i1 q33o1 6 304 (q33f1 k) k,lok q33i2 q33o2 8 304 (q33f2 k) k,lok q33i3 q33o3 10 272 (q33f3 k) k,trivial⟩)

noncomputable def q34V(k:Nat):Variant:=⟨[.val ty_1 false,.val ty_0 false],[(ty_0,false),(.bool,false)],fun x=>impl_DegreeOfLabels k x.1 x.2.1⟩
noncomputable def q34C(k:Nat):Cfg:=⟨Try.prog,tyOf tys,27,gOf [(26,[],q17V),(27,[],q21V k),(28,[],q33V k)],false,[],[]⟩
def q34p:List PE := [e5,e6]
noncomputable def q34F(k:Nat):Fn (Int×Bool):=⟨q34C k,rr q34p [(ty_0,false),(.bool,false)] Try.f8,fun p=>none,0,[]⟩
theorem q34K(k:Nat):Contract Try.prog 8 (q34V k):=ctr (q34C k) (rs := [(ty_0,false),(.bool,false)]) (ps:=q34p) (q34F k) Try.f8 32 ⟨tyOf_ok tys_ok,gOf_ok ⟨q17K,q21K k,q33K k,trivial⟩⟩ (annl [] trivial)

noncomputable def q35V(k:Nat):Variant:=⟨[.val ty_1 false,.val ty_1 false],[(.bool,false)],fun x=>laws_eqIntS k x.1 x.2.1⟩
noncomputable def q35C(k:Nat):Cfg:=⟨Try.prog,tyOf tys,26,gOf [],false,[],[]⟩
def q35i1:List PE := [e2,⟨1,48,.val ty_1 false,false⟩,⟨5,64,.val ty_0 false,false⟩]
def q35o1:List PE := []
noncomputable def q35f1(k:Nat)(n:Nat)(x1:PTe q35i1):=laws_eqIntS_L58 k n x1.1 x1.2.1 x1.2.2.1
def q35p:List PE := [e5,e21]
noncomputable def q35F(k:Nat):F2:=⟨q35C k,rr q35p [(.bool,false)] Try.f29,fun p=>bif Nat.beq p 58 then some (.loop q35i1 q35o1 0 80 (q35f1 k k))else none,0,[]⟩
theorem q35K(k:Nat):Contract Try.prog 29 (q35V k):=ctr (q35C k) (rs := [(.bool,false)]) (ps:=q35p) (q35F k) Try.f29 32 ⟨tyOf_ok tys_ok,gOf_ok trivial⟩ (annl [58] ⟨lok q35i1 q35o1 0 80 (q35f1 k) k,trivial⟩)

noncomputable def q36V(k:Nat):Variant:=⟨[.val ty_7 false,.val ty_7 false],[(.bool,false)],fun x=>laws_intactIntS k x.1 x.2.1⟩
noncomputable def q36C(k:Nat):Cfg:=⟨Try.prog,tyOf tys,26,gOf [(25,[],q1V),(29,[],q35V k)],false,[],[]⟩
def q36p:List PE := [⟨0,0,.val ty_7 false,false⟩,⟨1,16,.val ty_7 false,false⟩]
noncomputable def q36F(k:Nat):F2:=⟨q36C k,rr q36p [(.bool,false)] Try.f9,fun p=>none,0,[]⟩
theorem q36K(k:Nat):Contract Try.prog 9 (q36V k):=ctr (q36C k) (rs := [(.bool,false)]) (ps:=q36p) (q36F k) Try.f9 32 ⟨tyOf_ok tys_ok,gOf_ok ⟨q1K,q35K k,trivial⟩⟩ (annl [] trivial)

noncomputable def laws_FnExactDegreeOfLabels_V(k:Nat):Variant:=⟨[.val ty_1 false,.val ty_0 false],[(.bool,false)],fun x=>laws_FnExactDegreeOfLabels k x.1 x.2.1⟩
noncomputable def laws_FnExactDegreeOfLabels_C(k:Nat):Cfg:=⟨Try.prog,tyOf tys,58,gOf [(7,[],q2V k),(6,[],q16V k),(8,[],q34V k),(9,[],q36V k)],false,[],[]⟩
def laws_FnExactDegreeOfLabels_ps:List PE := [e5,e6]
noncomputable def laws_FnExactDegreeOfLabels_F(k:Nat):F2:=⟨laws_FnExactDegreeOfLabels_C k,rr laws_FnExactDegreeOfLabels_ps [(.bool,false)] Try.f3,fun p=>none,0,[]⟩
theorem laws_FnExactDegreeOfLabels_K(k:Nat):Contract Try.prog 3 (laws_FnExactDegreeOfLabels_V k):=ctr (laws_FnExactDegreeOfLabels_C k) (rs := [(.bool,false)]) (ps:=laws_FnExactDegreeOfLabels_ps) (laws_FnExactDegreeOfLabels_F k) Try.f3 32 ⟨tyOf_ok tys_ok,gOf_ok ⟨q2K k,q16K k,q34K k,q36K k,trivial⟩⟩ (annl [] trivial)
end Go.Ev.G
