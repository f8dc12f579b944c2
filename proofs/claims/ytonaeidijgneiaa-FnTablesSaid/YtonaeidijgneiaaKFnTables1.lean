/- The contracts of the functions behind FnTables: a call of each returns what its plain function computes; for all inputs within the sizes named. -/
import Derived.Test.YtonaeidijgneiaaPFnTables1
import Derived.Test.YtonaeidijgneiaaProg
set_option linter.unusedVariables false
set_option linter.unusedSectionVars false
namespace Go.Ev.G
open Go Go.Ev Go.Proofs
set_option maxRecDepth 100000
variable [KSl]
abbrev ty_0:Ty:=(.int .i64)

abbrev ty_1:Ty:=(.int .u64)

abbrev ty_2:Ty:=(.pair ty_0 ty_1)

abbrev ty_3:Ty:=(.pair .ks ty_2)

abbrev ty_4:Ty:=(.pair ty_0 ty_0)

abbrev ty_5:Ty:=(.sl ty_4)

abbrev ty_6:Ty:=(.sl ty_5)

abbrev ty_7:Ty:=(.pair ty_1 ty_1)

abbrev ty_8:Ty:=(.pair .bool ty_7)

abbrev ty_9:Ty:=(.sl ty_0)

abbrev ty_10:Ty:=(.int .u8)

abbrev ty_11:Ty:=(.sl ty_10)

def tys:List (TypeId×Ty) := [(3,ty_0),(29,ty_4),(35,ty_5)]

theorem tys_ok:AllT Try.prog tys:=⟨⟨_,_,rfl,rfl,rfl,rfl⟩,⟨_,_,rfl,rfl,rfl,rfl⟩,⟨_,_,rfl,rfl,rfl,rfl⟩,trivial⟩

def tysR:List (TypeId×Ty) := []

theorem tysR_ok:AllT Try.prog tysR:=trivial

theorem mix_ok:Try.prog.follows .mixedOrders=true:=by kernel_rfl

theorem ctr{g:FuncId}(C:Cfg){rs:List (Ty×Bool)}{ps:List PE}(F:Fn (CT (rs.map (·.1)++outs (ps.map (·.b)))))(fn:Func)(nx:Nat){f:PT (ps.map (·.b))→Option (CT (rs.map (·.1)++outs (ps.map (·.b))))}
  (hC:CfgOk C) (hann:AnnOk F (codeOf fn) 1) (hP:C.P=Try.prog:=by rfl) (hF:F.C=C:=by rfl) (hfn:C.P.funcs[g]? = some fn:=by kernel_rfl) (hb:fn.body=some (codeOf fn):=by kernel_rfl) (hn:(fn.name == "runtime.NumGoroutine")=false:=by kernel_rfl)
  (hnt:C.ntmps=fn.ntmps:=by kernel_rfl) (hle:Nat.ble ps.length fn.ntmps=true:=by kernel_rfl) (hpar:parOk 0 ps=true:=by kernel_rfl) (hfin:F.fin=rdRes C.P ps rs fn.results.toList .ret:=by rfl)
  (hpins:F.pins=pinIds ps:=by kernel_rfl) (hnd:nodupB F.pins=true:=by kernel_rfl) (hf:∀x,evFn F (codeOf fn) ps nx x=f x:=by intro x;kernel_rfl):Contract C.P g ⟨ps.map (·.b),rs,f⟩ :=
 contract hC hF hfn hb hn hnt hle hpar hfin hpins hnd hann (hP ▸ mix_ok) hf

theorem annl{R:Type}{F:Fn R}{c:Code}(l:List Nat)(hl:AllL F (l.map fun p=>(p,loopB c p)))(h:loopsOf c 1=l.map (fun p=>(p,loopB c p)):=by kernel_rfl):AnnOk F c 1:=AnnOk_list _ h hl

theorem lok{R:Type}{F:Fn R}{c:Code}{p:Nat}(pin pout:List PE)(ex nx:Nat)(Lf:Nat→PTe pin→Option (R ⊕ PTe pout))(k:Nat)(h:F.an p=some (.loop pin pout ex nx (Lf k)):=by kernel_rfl)(h0:∀x,Lf 0 x=none:=by intro x;rfl)
  (hs:∀n x,roundOf F c p pin pout ex nx (Lf n) x=Lf (n+1) x:=by intro n x;kernel_rfl):LoopOk F c p:=LoopOk.mk (pin:=pin) (pout:=pout) h h0 hs

noncomputable def rr(ps:List PE)(rs:List (Ty×Bool))(f:Func):=rdRes Try.prog ps rs f.results.toList .ret

abbrev e1:PE:=⟨0,0,.val ty_11 false,false⟩
abbrev F1:Type 1:=Fn (Bool)
abbrev e2:PE:=⟨0,0,.ptr ty_3 true,true⟩
abbrev e3:PE:=⟨3,16,.val ty_0 false,false⟩
abbrev F2:Type 1:=Fn (Int×Unit×Int×Int)
abbrev e4:PE:=⟨1,16,.val ty_0 false,false⟩
abbrev e5:PE:=⟨0,0,.val ty_0 false,false⟩
abbrev e6:PE:=⟨2,32,.val ty_0 false,false⟩
abbrev e7:PE:=⟨0,0,.val ty_4 true,false⟩
abbrev e8:PE:=⟨0,32,.val ty_0 false,false⟩
abbrev e9:PE:=⟨1,48,.val ty_0 false,false⟩
abbrev e10:PE:=⟨4,64,.box ty_4 false,false⟩
abbrev F3:Type 1:=Fn ((Int×Int)×Bool)
abbrev F4:Type 1:=Fn (Int×Int)
abbrev F5:Type 1:=Fn ((Int×Int)×Unit×Int×Int)
abbrev e11:PE:=⟨1,32,.val ty_0 false,false⟩
abbrev e12:PE:=⟨5,48,.eat ty_5,false⟩
abbrev e13:PE:=⟨6,64,.eat ty_4,false⟩
abbrev e14:PE:=⟨0,0,.val .ks false,false⟩
abbrev F6:Type 1:=Fn (List (List (Int×Int)))
abbrev e15:PE:=⟨0,32,.val ty_5 false,false⟩
abbrev e16:PE:=⟨7,64,.val ty_0 false,false⟩
abbrev e17:PE:=⟨8,80,.val ty_0 false,false⟩
abbrev e18:PE:=⟨0,0,.val ty_5 false,false⟩
abbrev F7:Type 1:=Fn (Int)
abbrev e19:PE:=⟨0,16,.val ty_6 false,false⟩
abbrev e20:PE:=⟨0,0,.val ty_6 false,false⟩
abbrev e21:PE:=⟨2,64,.val ty_0 false,false⟩
abbrev e22:PE:=⟨7,80,.eat ty_5,false⟩
abbrev e23:PE:=⟨11,112,.val ty_0 false,false⟩
abbrev e24:PE:=⟨7,48,.eat ty_5,false⟩
abbrev e25:PE:=⟨0,0,.val ty_1 false,false⟩
abbrev F8:Type 1:=Fn (Bool×Int×Int)
abbrev e26:PE:=⟨0,0,.val ty_8 true,false⟩
abbrev e27:PE:=⟨1,16,.val ty_4 true,false⟩
abbrev e28:PE:=⟨0,0,.ptr .bool true,true⟩
abbrev e29:PE:=⟨1,16,.val ty_8 true,false⟩
abbrev e30:PE:=⟨4,32,.box ty_4 false,false⟩
abbrev e31:PE:=⟨13,80,.val ty_0 false,false⟩
abbrev e32:PE:=⟨1,16,.val ty_5 false,false⟩
abbrev e33:PE:=⟨1,32,.val ty_6 false,false⟩
abbrev e34:PE:=⟨4,48,.box ty_4 false,false⟩
abbrev e35:PE:=⟨1,16,.val ty_6 false,false⟩
abbrev e36:PE:=⟨4,32,.box .bool false,false⟩
abbrev e37:PE:=⟨6,64,.val ty_0 false,false⟩
abbrev e38:PE:=⟨7,64,.eat ty_4,false⟩
abbrev e39:PE:=⟨4,16,.box .bool false,false⟩
abbrev F9:Type 1:=Fn ((List (List (Int×Int)))×Bool)
abbrev e40:PE:=⟨10,96,.val ty_0 false,false⟩
abbrev e41:PE:=⟨3,32,.eat ty_0,false⟩
abbrev e42:PE:=⟨8,64,.val ty_6 false,false⟩
abbrev e43:PE:=⟨9,80,.val ty_0 false,false⟩
abbrev e44:PE:=⟨2,32,.box ty_4 false,false⟩
abbrev e45:PE:=⟨3,48,.box ty_4 false,false⟩
abbrev e46:PE:=⟨6,80,.val ty_0 false,false⟩
abbrev e47:PE:=⟨4,32,.eat ty_5,false⟩
abbrev e48:PE:=⟨5,48,.val ty_0 false,false⟩
abbrev e49:PE:=⟨17,80,.val ty_0 false,false⟩
abbrev e50:PE:=⟨18,96,.val ty_0 false,false⟩
abbrev e51:PE:=⟨17,64,.val ty_0 false,false⟩
abbrev e52:PE:=⟨4,16,.eat ty_5,false⟩
abbrev e53:PE:=⟨0,32,.val ty_6 false,false⟩
abbrev e54:PE:=⟨1,48,.val ty_6 false,false⟩
abbrev e55:PE:=⟨6,64,.box .bool false,false⟩
abbrev e56:PE:=⟨8,96,.val ty_0 false,false⟩
abbrev e57:PE:=⟨9,112,.eat ty_4,false⟩
abbrev e58:PE:=⟨5,32,.eat ty_4,false⟩
abbrev e59:PE:=⟨1,32,.val ty_5 false,false⟩
abbrev e60:PE:=⟨6,48,.eat ty_5,false⟩
abbrev F10:Type 1:=Fn ((List (Int×Int))×Bool)
abbrev e61:PE:=⟨4,16,.eat ty_4,false⟩
abbrev e62:PE:=⟨1,32,.val ty_11 false,false⟩
abbrev e63:PE:=⟨12,48,.box ty_4 false,false⟩

noncomputable def q1V:Variant:=⟨[.val ty_11 false,.val ty_11 false],[(.bool,false)],fun x=>laws_big x.1 x.2.1⟩
noncomputable def q1C:Cfg:=⟨Try.prog,tyOf tys,16,gOf [],false,[],[]⟩
def q1p:List PE := [e1,⟨1,16,.val ty_11 false,false⟩]
noncomputable def q1F:F1:=⟨q1C,rr q1p [(.bool,false)] Try.f4,fun p=>none,0,[]⟩
theorem q1K:Contract Try.prog 4 (q1V):=ctr q1C (rs := [(.bool,false)]) (ps:=q1p) q1F Try.f4 32 ⟨tyOf_ok tys_ok,gOf_ok trivial⟩ (annl [] trivial)

noncomputable def q2V:Variant:=⟨[.ptr ty_3 true],[(ty_0,false)],fun x=>spec_l1Cur_next KSl.xs x.1⟩
noncomputable def q2C:Cfg:=⟨Try.prog,tyOf tys,62,gOf [],false,[],[]⟩
def q2p:List PE := [e2]
noncomputable def q2F:F2:=⟨q2C,rr q2p [(ty_0,false)] Try.f68,fun p=>bif Nat.beq p 14 then some (.cut [e2,e3] 32)else none,0,[0]⟩
theorem q2K:Contract Try.prog 68 (q2V):=ctr q2C (rs := [(ty_0,false)]) (ps:=q2p) q2F Try.f68 16 ⟨tyOf_ok tys_ok,gOf_ok trivial⟩ (annl [] trivial)

noncomputable def q3V:Variant:=⟨[.ptr ty_3 true,.val ty_0 false],[(ty_0,false)],fun x=>spec_l1Cur_pick KSl.xs x.1 x.2.1⟩
noncomputable def q3C:Cfg:=⟨Try.prog,tyOf tys,20,gOf [(68,[],q2V)],false,[],[]⟩
def q3p:List PE := [e2,e4]
noncomputable def q3F:F2:=⟨q3C,rr q3p [(ty_0,false)] Try.f43,fun p=>none,0,[0]⟩
theorem q3K:Contract Try.prog 43 (q3V):=ctr q3C (rs := [(ty_0,false)]) (ps:=q3p) q3F Try.f43 32 ⟨tyOf_ok tys_ok,gOf_ok ⟨q2K,trivial⟩⟩ (annl [] trivial)

noncomputable def q4V:Variant:=⟨[.ptr ty_3 true,.val ty_9 false],[(ty_0,false)],fun x=>spec_l1Cur_among KSl.xs x.1 x.2.1⟩
noncomputable def q4C:Cfg:=⟨Try.prog,tyOf tys,12,gOf [(43,[],q3V)],false,[],[]⟩
def q4p:List PE := [e2,⟨1,16,.val ty_9 false,false⟩]
noncomputable def q4F:F2:=⟨q4C,rr q4p [(ty_0,false)] Try.f56,fun p=>none,0,[0]⟩
theorem q4K:Contract Try.prog 56 (q4V):=ctr q4C (rs := [(ty_0,false)]) (ps:=q4p) q4F Try.f56 32 ⟨tyOf_ok tys_ok,gOf_ok ⟨q3K,trivial⟩⟩ (annl [] trivial)

noncomputable def q5V:Variant:=⟨[.ptr ty_3 true,.val ty_0 false],[(.bool,false)],fun x=>spec_l1Cur_one KSl.xs x.1 x.2.1⟩
noncomputable def q5C:Cfg:=⟨Try.prog,tyOf tys,9,gOf [(43,[],q3V)],false,[],[]⟩
def q5p:List PE := [e2,e4]
noncomputable def q5F:Fn (Bool×Unit×Int×Int):=⟨q5C,rr q5p [(.bool,false)] Try.f38,fun p=>none,0,[0]⟩
theorem q5K:Contract Try.prog 38 (q5V):=ctr q5C (rs := [(.bool,false)]) (ps:=q5p) q5F Try.f38 32 ⟨tyOf_ok tys_ok,gOf_ok ⟨q3K,trivial⟩⟩ (annl [] trivial)

noncomputable def q6V:Variant:=⟨[.val ty_0 false,.val ty_0 false,.val ty_0 false],[(.bool,false)],fun x=>spec_l1In x.1 x.2.1 x.2.2.1⟩
noncomputable def q6C:Cfg:=⟨Try.prog,tyOf tys,15,gOf [],false,[],[]⟩
def q6p:List PE := [e5,e4,e6]
noncomputable def q6F:F1:=⟨q6C,rr q6p [(.bool,false)] Try.f57,fun p=>none,0,[]⟩
theorem q6K:Contract Try.prog 57 (q6V):=ctr q6C (rs := [(.bool,false)]) (ps:=q6p) q6F Try.f57 48 ⟨tyOf_ok tys_ok,gOf_ok trivial⟩ (annl [] trivial)

noncomputable def q7V:Variant:=⟨[.val ty_4 true],[(.bool,false)],fun x=>spec_dyGood x.1⟩
noncomputable def q7C:Cfg:=⟨Try.prog,tyOf tys,22,gOf [(57,[],q6V)],false,[],[]⟩
def q7p:List PE := [e7]
noncomputable def q7F:F1:=⟨q7C,rr q7p [(.bool,false)] Try.f61,fun p=>none,0,[]⟩
theorem q7K:Contract Try.prog 61 (q7V):=ctr q7C (rs := [(.bool,false)]) (ps:=q7p) q7F Try.f61 16 ⟨tyOf_ok tys_ok,gOf_ok ⟨q6K,trivial⟩⟩ (annl [] trivial)

noncomputable def q8V(k:Nat):Variant:=⟨[.val ty_0 false,.val ty_0 false],[(ty_4,true),(.bool,false)],fun x=>spec_dyMake k x.1 x.2.1⟩
noncomputable def q8C(k:Nat):Cfg:=⟨Try.prog,tyOf tys,32,gOf [(61,[],q7V)],false,[],[]⟩
def q8i1:List PE := [e8,e9,e10]
def q8o1:List PE := [e8,e9,e10]
noncomputable def q8f1(k:Nat)(n:Nat)(x2:PTe q8i1):=spec_dyMake_L28 k n x2.1 x2.2.1 x2.2.2.1
def q8p:List PE := [e5,e4]
noncomputable def q8F(k:Nat):F3:=⟨q8C k,rr q8p [(ty_4,true),(.bool,false)] Try.f67,fun p=>bif Nat.beq p 28 then some (.loop q8i1 q8o1 0 80 (q8f1 k k))else bif Nat.beq p 6 then some (.cut [e8,e9,e10] 80)else none,0,[]⟩
theorem q8K(k:Nat):Contract Try.prog 67 (q8V k):=ctr (q8C k) (rs := [(ty_4,true),(.bool,false)]) (ps:=q8p) (q8F k) Try.f67 32 ⟨tyOf_ok tys_ok,gOf_ok ⟨q7K,trivial⟩⟩ (annl [28] ⟨lok q8i1 q8o1 0 80 (q8f1 k) k,trivial⟩)

noncomputable def q9V:Variant:=⟨[.val ty_0 false],[(ty_4,true)],fun x=>spec_dyInt x.1⟩
noncomputable def q9C:Cfg:=⟨Try.prog,tyOf tys,5,gOf [],false,[],[]⟩
def q9p:List PE := [e5]
noncomputable def q9F:F4:=⟨q9C,rr q9p [(ty_4,true)] Try.f58,fun p=>none,0,[]⟩
theorem q9K:Contract Try.prog 58 (q9V):=ctr q9C (rs := [(ty_4,true)]) (ps:=q9p) q9F Try.f58 16 ⟨tyOf_ok tys_ok,gOf_ok trivial⟩ (annl [] trivial)

noncomputable def q10V(k:Nat):Variant:=⟨[.ptr ty_3 true],[(ty_4,true)],fun x=>spec_l1Cur_dyadic k KSl.xs x.1⟩
noncomputable def q10C(k:Nat):Cfg:=⟨Try.prog,tyOf tys,37,gOf [(43,[],q3V),(56,[],q4V),(67,[],q8V k),(38,[],q5V),(58,[],q9V)],false,[],[]⟩
def q10p:List PE := [e2]
noncomputable def q10F(k:Nat):F5:=⟨q10C k,rr q10p [(ty_4,true)] Try.f80,fun p=>bif Nat.beq p 14 then some (.cut [⟨2,16,.box ty_4 false,false⟩,⟨3,32,.box ty_4 false,false⟩,⟨4,48,.val .bool false,false⟩,e2] 64)else none,0,[0]⟩
theorem q10K(k:Nat):Contract Try.prog 80 (q10V k):=ctr (q10C k) (rs := [(ty_4,true)]) (ps:=q10p) (q10F k) Try.f80 16 ⟨tyOf_ok tys_ok,gOf_ok ⟨q3K,q4K,q8K k,q5K,q9K,trivial⟩⟩ (annl [] trivial)

noncomputable def q11V(k:Nat):Variant:=⟨[.ptr ty_3 true],[(ty_4,true)],fun x=>spec_l1Cur_anyDyadic k KSl.xs x.1⟩
noncomputable def q11C(k:Nat):Cfg:=⟨Try.prog,tyOf tys,30,gOf [(80,[],q10V k),(43,[],q3V),(56,[],q4V)],false,[],[]⟩
def q11p:List PE := [e2]
noncomputable def q11F(k:Nat):F5:=⟨q11C k,rr q11p [(ty_4,true)] Try.f69,fun p=>none,0,[0]⟩
theorem q11K(k:Nat):Contract Try.prog 69 (q11V k):=ctr (q11C k) (rs := [(ty_4,true)]) (ps:=q11p) (q11F k) Try.f69 16 ⟨tyOf_ok tys_ok,gOf_ok ⟨q10K k,q3K,q4K,trivial⟩⟩ (annl [] trivial)

noncomputable def q12V(k:Nat):Variant:=⟨[.ptr ty_3 true],[(ty_4,true)],fun x=>spec_l1Cur_entry k KSl.xs x.1⟩
noncomputable def q12C(k:Nat):Cfg:=⟨Try.prog,tyOf tys,23,gOf [(38,[],q5V),(69,[],q11V k),(43,[],q3V),(56,[],q4V),(67,[],q8V k)],false,[],[]⟩
def q12p:List PE := [e2]
noncomputable def q12F(k:Nat):F5:=⟨q12C k,rr q12p [(ty_4,true)] Try.f44,fun p=>none,0,[0]⟩
theorem q12K(k:Nat):Contract Try.prog 44 (q12V k):=ctr (q12C k) (rs := [(ty_4,true)]) (ps:=q12p) (q12F k) Try.f44 16 ⟨tyOf_ok tys_ok,gOf_ok ⟨q5K,q11K k,q3K,q4K,q8K k,trivial⟩⟩ (annl [] trivial)

noncomputable def q13V(k:Nat):Variant:=⟨[.ptr ty_3 true,.val ty_0 false],[(ty_6,false)],fun x=>spec_l1Cur_table k KSl.xs x.1 x.2.1⟩
noncomputable def q13C(k:Nat):Cfg:=⟨Try.prog,tyOf tys,48,gOf [(44,[],q12V k),(43,[],q3V)],false,[5,28,29,38,42],[32]⟩
def q13i1:List PE := [e2,e11,e12,e13]
def q13o1:List PE := [e2,e11,e12,e13]
noncomputable def q13f1(k:Nat)(n:Nat)(x2:PTe q13i1):=spec_l1Cur_table_L1812 k KSl.xs n x2.1 x2.2.1 x2.2.2.1 x2.2.2.2.1
def q13i2:List PE := [e2,e11,e12]
def q13o2:List PE := [e2,e11,e12]
noncomputable def q13f2(k:Nat)(n:Nat)(x5:PTe q13i2):=spec_l1Cur_table_L28 k KSl.xs n x5.1 x5.2.1 x5.2.2.1
def q13p:List PE := [e2,e4]
noncomputable def q13F(k:Nat):Fn ((List (List (Int×Int)))×Unit×Int×Int):=⟨q13C k,rr q13p [(ty_6,false)] Try.f37,fun p=>bif Nat.beq p 1812 then some (.loop q13i1 q13o1 2 80 (q13f1 k k))else bif Nat.beq p 28 then some (.loop q13i2 q13o2 0 64 (q13f2 k k))else none,0,[0]⟩
theorem q13K(k:Nat):Contract Try.prog 37 (q13V k):=ctr (q13C k) (rs := [(ty_6,false)]) (ps:=q13p) (q13F k) Try.f37 32 ⟨tyOf_ok tys_ok,gOf_ok ⟨q12K k,q3K,trivial⟩⟩ (annl [28,1812] ⟨lok q13i2 q13o2 0 64 (q13f2 k) k,lok q13i1 q13o1 2 80 (q13f1 k) k,trivial⟩)

noncomputable def q14V(k:Nat):Variant:=⟨[.val (.sl (.int .u8)) false],[(ty_6,false)],fun x=>spec_DrawIsTable k x.1⟩
noncomputable def spec_DrawIsTable_V0(k:Nat):Variant:=⟨[.val .ks false],[(ty_6,false)],fun _=>spec_DrawIsTable k KSl.xs⟩
noncomputable def q14C(k:Nat):Cfg:=⟨Try.prog,tyOf tys,15,gOf [(56,[],q4V),(37,[],q13V k)],false,[],[]⟩
def q14p:List PE := [e14]
noncomputable def q14F(k:Nat):F6:=⟨q14C k,rr q14p [(ty_6,false)] Try.f26,fun p=>none,0,[]⟩
theorem spec_DrawIsTable_K0(k:Nat):Contract Try.prog 26 (spec_DrawIsTable_V0 k):=ctr (q14C k) (rs := [(ty_6,false)]) (ps:=q14p) (q14F k) Try.f26 16 ⟨tyOf_ok tys_ok,gOf_ok ⟨q4K,q13K k,trivial⟩⟩ (annl [] trivial)
theorem q14K(k:Nat):Contract Try.prog 26 (q14V k):=contractDraw (by kernel_rfl) (fun kk => @spec_DrawIsTable_K0 kk k)

noncomputable def q15V(k:Nat):Variant:=⟨[.val ty_11 false],[(ty_6,false)],fun x=>spec_DrawAdjointOf k x.1⟩
noncomputable def q15C(k:Nat):Cfg:=⟨Try.prog,tyOf tys,5,gOf [(26,[],q14V k)],false,[],[]⟩
def q15p:List PE := [e1]
noncomputable def q15F(k:Nat):F6:=⟨q15C k,rr q15p [(ty_6,false)] Try.f5,fun p=>none,0,[]⟩
theorem q15K(k:Nat):Contract Try.prog 5 (q15V k):=ctr (q15C k) (rs := [(ty_6,false)]) (ps:=q15p) (q15F k) Try.f5 16 ⟨tyOf_ok tys_ok,gOf_ok ⟨q14K k,trivial⟩⟩ (annl [] trivial)

noncomputable def q16V:Variant:=⟨[.val ty_0 false,.val ty_0 false,.val ty_0 false],[(.bool,false)],fun x=>impl_inside x.1 x.2.1 x.2.2.1⟩
noncomputable def q16C:Cfg:=⟨Try.prog,tyOf tys,15,gOf [],false,[],[]⟩
def q16p:List PE := [e5,e4,e6]
noncomputable def q16F:F1:=⟨q16C,rr q16p [(.bool,false)] Try.f41,fun p=>none,0,[]⟩
theorem q16K:Contract Try.prog 41 (q16V):=ctr q16C (rs := [(.bool,false)]) (ps:=q16p) q16F Try.f41 48 ⟨tyOf_ok tys_ok,gOf_ok trivial⟩ (annl [] trivial)

noncomputable def q17V:Variant:=⟨[.val ty_0 false],[(.bool,false)],fun x=>impl_isPlaces x.1⟩
noncomputable def q17C:Cfg:=⟨Try.prog,tyOf tys,5,gOf [(41,[],q16V)],false,[],[]⟩
def q17p:List PE := [e5]
noncomputable def q17F:F1:=⟨q17C,rr q17p [(.bool,false)] Try.f71,fun p=>none,0,[]⟩
theorem q17K:Contract Try.prog 71 (q17V):=ctr q17C (rs := [(.bool,false)]) (ps:=q17p) q17F Try.f71 16 ⟨tyOf_ok tys_ok,gOf_ok ⟨q16K,trivial⟩⟩ (annl [] trivial)

noncomputable def q18V:Variant:=⟨[.val ty_4 true],[(.bool,false)],fun x=>impl_isDyadic x.1⟩
noncomputable def q18C:Cfg:=⟨Try.prog,tyOf tys,22,gOf [(71,[],q17V),(41,[],q16V)],false,[],[]⟩
def q18p:List PE := [e7]
noncomputable def q18F:F1:=⟨q18C,rr q18p [(.bool,false)] Try.f47,fun p=>none,0,[]⟩
theorem q18K:Contract Try.prog 47 (q18V):=ctr q18C (rs := [(.bool,false)]) (ps:=q18p) q18F Try.f47 16 ⟨tyOf_ok tys_ok,gOf_ok ⟨q17K,q16K,trivial⟩⟩ (annl [] trivial)

noncomputable def q19V:Variant:=⟨[.val ty_4 true],[(.bool,false)],fun x=>impl_isTable_1 x.1⟩
noncomputable def q19C:Cfg:=⟨Try.prog,tyOf tys,6,gOf [(47,[],q18V)],false,[],[]⟩
def q19p:List PE := [e7]
noncomputable def q19F:F1:=⟨q19C,rr q19p [(.bool,false)] Try.f59,fun p=>none,0,[]⟩
theorem q19K:Contract Try.prog 59 (q19V):=ctr q19C (rs := [(.bool,false)]) (ps:=q19p) q19F Try.f59 16 ⟨tyOf_ok tys_ok,gOf_ok ⟨q18K,trivial⟩⟩ (annl [] trivial)

noncomputable def q20V(k:Nat):Variant:=⟨[.val ty_5 false,.fn 59 []],[(ty_0,false)],fun x=>slices_IndexFunc_Dyadic_Dyadic_impl_isTable_1 k x.1 x.2.1⟩
noncomputable def q20C(k:Nat):Cfg:=⟨Try.prog,tyOf tys,19,gOf [(59,[],q19V)],false,[],[]⟩
def q20i1:List PE := [e15,⟨1,48,.fn 59 [],false⟩,e16,e17]
def q20o1:List PE := []
noncomputable def q20f1(k:Nat)(n:Nat)(x2:PTe q20i1):=slices_IndexFunc_Dyadic_Dyadic_impl_isTable_1_L26 k n x2.1 x2.2.1 x2.2.2.1 x2.2.2.2.1
def q20p:List PE := [e18,⟨1,16,.fn 59 [],false⟩]
noncomputable def q20F(k:Nat):F7:=⟨q20C k,rr q20p [(ty_0,false)] Try.f70,fun p=>bif Nat.beq p 26 then some (.loop q20i1 q20o1 0 96 (q20f1 k k))else none,0,[]⟩
theorem q20K(k:Nat):Contract Try.prog 70 (q20V k):=ctr (q20C k) (rs := [(ty_0,false)]) (ps:=q20p) (q20F k) Try.f70 32 ⟨tyOf_ok tys_ok,gOf_ok ⟨q19K,trivial⟩⟩ (annl [26] ⟨lok q20i1 q20o1 0 96 (q20f1 k) k,trivial⟩)

noncomputable def q21V(k:Nat):Variant:=⟨[.val ty_5 false,.fn 59 []],[(.bool,false)],fun x=>slices_ContainsFunc_Dyadic_Dyadic_impl_isTable_1 k x.1 x.2.1⟩
noncomputable def q21C(k:Nat):Cfg:=⟨Try.prog,tyOf tys,9,gOf [(70,[59],q20V k)],false,[],[]⟩
def q21p:List PE := [e18,⟨1,16,.fn 59 [],false⟩]
noncomputable def q21F(k:Nat):F1:=⟨q21C k,rr q21p [(.bool,false)] Try.f45,fun p=>none,0,[]⟩
theorem q21K(k:Nat):Contract Try.prog 45 (q21V k):=ctr (q21C k) (rs := [(.bool,false)]) (ps:=q21p) (q21F k) Try.f45 32 ⟨tyOf_ok tys_ok,gOf_ok ⟨q20K k,trivial⟩⟩ (annl [] trivial)

noncomputable def q22V(k:Nat):Variant:=⟨[.val ty_6 false],[(.bool,false)],fun x=>impl_isTable k x.1⟩
noncomputable def q22C(k:Nat):Cfg:=⟨Try.prog,tyOf tys,24,gOf [(45,[59],q21V k),(41,[],q16V)],false,[],[]⟩
def q22i1:List PE := [e19,⟨5,32,.val ty_6 false,false⟩,⟨6,48,.val ty_0 false,false⟩,e16]
def q22o1:List PE := [e19]
noncomputable def q22f1(k:Nat)(n:Nat)(x2:PTe q22i1):=impl_isTable_L26 k n x2.1 x2.2.1 x2.2.2.1 x2.2.2.2.1
def q22p:List PE := [e20]
noncomputable def q22F(k:Nat):F1:=⟨q22C k,rr q22p [(.bool,false)] Try.f27,fun p=>bif Nat.beq p 26 then some (.loop q22i1 q22o1 0 80 (q22f1 k k))else none,0,[]⟩
theorem q22K(k:Nat):Contract Try.prog 27 (q22V k):=ctr (q22C k) (rs := [(.bool,false)]) (ps:=q22p) (q22F k) Try.f27 16 ⟨tyOf_ok tys_ok,gOf_ok ⟨q21K k,q16K,trivial⟩⟩ (annl [26] ⟨lok q22i1 q22o1 0 80 (q22f1 k) k,trivial⟩)

noncomputable def q23V:Variant:=⟨[.val ty_0 false],[(ty_4,true)],fun x=>impl_integer x.1⟩
noncomputable def q23C:Cfg:=⟨Try.prog,tyOf tys,5,gOf [],false,[],[]⟩
def q23p:List PE := [e5]
noncomputable def q23F:F4:=⟨q23C,rr q23p [(ty_4,true)] Try.f42,fun p=>none,0,[]⟩
theorem q23K:Contract Try.prog 42 (q23V):=ctr q23C (rs := [(ty_4,true)]) (ps:=q23p) q23F Try.f42 16 ⟨tyOf_ok tys_ok,gOf_ok trivial⟩ (annl [] trivial)

noncomputable def q24V:Variant:=⟨[.lit (.slice none 0 0),.val ty_0 false],[(ty_5,false)],fun x=>slices_Grow_Dyadic_Dyadic x.1 x.2.1⟩
noncomputable def q24C:Cfg:=⟨Try.prog,tyOf tys,27,gOf [],true,[],[]⟩
def q24p:List PE := [⟨0,0,.lit (.slice none 0 0),false⟩,e4]
noncomputable def q24F:Fn (List (Int×Int)):=⟨q24C,rr q24p [(ty_5,false)] Try.f86,fun p=>none,0,[]⟩
theorem q24K:Contract Try.prog 86 (q24V):=ctr q24C (rs := [(ty_5,false)]) (ps:=q24p) q24F Try.f86 32 ⟨tyOf_ok tys_ok,gOf_ok trivial⟩ (annl [] trivial)

noncomputable def q25V(k:Nat):Variant:=⟨[.val ty_6 false],[(ty_5,false)],fun x=>slices_Concat_Dyadic_Dyadic k x.1⟩
noncomputable def q25C(k:Nat):Cfg:=⟨Try.prog,tyOf tys,36,gOf [(86,[],q24V)],false,[],[]⟩
def q25i1:List PE := [e19,⟨3,32,.val ty_0 false,false⟩,⟨9,48,.val ty_6 false,false⟩,⟨10,64,.val ty_0 false,false⟩,⟨11,80,.val ty_0 false,false⟩]
def q25o1:List PE := [e19,⟨3,32,.val ty_0 false,false⟩]
noncomputable def q25f1(k:Nat)(n:Nat)(x1:PTe q25i1):=slices_Concat_Dyadic_Dyadic_L58 k n x1.1 x1.2.1 x1.2.2.1 x1.2.2.2.1 x1.2.2.2.2.1
def q25i2:List PE := [⟨6,16,.eat ty_4,false⟩,⟨25,32,.val ty_6 false,false⟩,⟨26,48,.val ty_0 false,false⟩,⟨27,64,.val ty_0 false,false⟩]
def q25o2:List PE := [⟨6,16,.eat ty_4,false⟩]
noncomputable def q25f2(k:Nat)(n:Nat)(x5:PTe q25i2):=slices_Concat_Dyadic_Dyadic_L250 k n x5.1 x5.2.1 x5.2.2.1 x5.2.2.2.1
def q25p:List PE := [e20]
noncomputable def q25F(k:Nat):Fn (List (Int×Int)):=⟨q25C k,rr q25p [(ty_5,false)] Try.f76,fun p=>bif Nat.beq p 58 then some (.loop q25i1 q25o1 0 96 (q25f1 k k))else bif Nat.beq p 250 then some (.loop q25i2 q25o2 2 80 (q25f2 k k))else none,0,[]⟩
theorem q25K(k:Nat):Contract Try.prog 76 (q25V k):=ctr (q25C k) (rs := [(ty_5,false)]) (ps:=q25p) (q25F k) Try.f76 16 ⟨tyOf_ok tys_ok,gOf_ok ⟨q24K,trivial⟩⟩ (annl [58,250] ⟨lok q25i1 q25o1 0 96 (q25f1 k) k,lok q25i2 q25o2 2 80 (q25f2 k) k,trivial⟩)

noncomputable def q26V(k:Nat):Variant:=⟨[.val ty_6 false,.val ty_0 false,.val ty_0 false],[(ty_6,false)],fun x=>impl_part_Dyadic k x.1 x.2.1 x.2.2.1⟩
noncomputable def q26C(k:Nat):Cfg:=⟨Try.prog,tyOf tys,34,gOf [(76,[],q25V k)],false,[],[28]⟩
def q26i1:List PE := [e9,e21,e22,⟨10,96,.val ty_6 false,false⟩,e23,⟨12,128,.val ty_0 false,false⟩]
def q26o1:List PE := [e24]
noncomputable def q26f1(k:Nat)(n:Nat)(x2:PTe q26i1):=impl_part_Dyadic_L58 k n x2.1 x2.2.1 x2.2.2.1 x2.2.2.2.1 x2.2.2.2.2.1 x2.2.2.2.2.2.1
def q26p:List PE := [e20,e4,e6]
noncomputable def q26F(k:Nat):F6:=⟨q26C k,rr q26p [(ty_6,false)] Try.f60,fun p=>bif Nat.beq p 58 then some (.loop q26i1 q26o1 0 144 (q26f1 k k))else none,0,[]⟩
theorem q26K(k:Nat):Contract Try.prog 60 (q26V k):=ctr (q26C k) (rs := [(ty_6,false)]) (ps:=q26p) (q26F k) Try.f60 48 ⟨tyOf_ok tys_ok,gOf_ok ⟨q25K k,trivial⟩⟩ (annl [58] ⟨lok q26i1 q26o1 0 144 (q26f1 k) k,trivial⟩)

noncomputable def q27V:Variant:=⟨[.val ty_0 false],[(ty_1,false)],fun x=>impl_size x.1⟩
noncomputable def q27C:Cfg:=⟨Try.prog,tyOf tys,10,gOf [],false,[],[]⟩
def q27p:List PE := [e5]
noncomputable def q27F:F7:=⟨q27C,rr q27p [(ty_1,false)] Try.f91,fun p=>none,0,[]⟩
theorem q27K:Contract Try.prog 91 (q27V):=ctr q27C (rs := [(ty_1,false)]) (ps:=q27p) q27F Try.f91 16 ⟨tyOf_ok tys_ok,gOf_ok trivial⟩ (annl [] trivial)

noncomputable def q28V:Variant:=⟨[.val ty_1 false,.val ty_1 false],[(ty_1,false),(ty_1,false)],fun x=>math_bits_Mul64 x.1 x.2.1⟩
noncomputable def q28C:Cfg:=⟨Try.prog,tyOf tys,51,gOf [],false,[],[]⟩
def q28p:List PE := [e25,⟨1,16,.val ty_1 false,false⟩]
noncomputable def q28F:F4:=⟨q28C,rr q28p [(ty_1,false),(ty_1,false)] Try.f93,fun p=>none,0,[]⟩
theorem q28K:Contract Try.prog 93 (q28V):=ctr q28C (rs := [(ty_1,false),(ty_1,false)]) (ps:=q28p) q28F Try.f93 32 ⟨tyOf_ok tys_ok,gOf_ok trivial⟩ (annl [] trivial)

noncomputable def q29V:Variant:=⟨[.val ty_0 false,.val ty_0 false],[(ty_8,true)],fun x=>impl_timesWide x.1 x.2.1⟩
noncomputable def q29C:Cfg:=⟨Try.prog,tyOf tys,23,gOf [(91,[],q27V),(93,[],q28V)],false,[],[]⟩
def q29p:List PE := [e5,e4]
noncomputable def q29F:F8:=⟨q29C,rr q29p [(ty_8,true)] Try.f87,fun p=>none,0,[]⟩
theorem q29K:Contract Try.prog 87 (q29V):=ctr q29C (rs := [(ty_8,true)]) (ps:=q29p) q29F Try.f87 32 ⟨tyOf_ok tys_ok,gOf_ok ⟨q27K,q28K,trivial⟩⟩ (annl [] trivial)

noncomputable def q30V:Variant:=⟨[.val ty_8 true],[(.bool,false)],fun x=>impl_wide_isZero x.1⟩
noncomputable def q30C:Cfg:=⟨Try.prog,tyOf tys,11,gOf [],false,[],[]⟩
def q30p:List PE := [e26]
noncomputable def q30F:F1:=⟨q30C,rr q30p [(.bool,false)] Try.f89,fun p=>none,0,[]⟩
theorem q30K:Contract Try.prog 89 (q30V):=ctr q30C (rs := [(.bool,false)]) (ps:=q30p) q30F Try.f89 16 ⟨tyOf_ok tys_ok,gOf_ok trivial⟩ (annl [] trivial)

noncomputable def q31V:Variant:=⟨[.val ty_8 true,.val ty_0 false],[(ty_8,true)],fun x=>impl_wide_shift x.1 x.2.1⟩
noncomputable def q31C:Cfg:=⟨Try.prog,tyOf tys,63,gOf [],false,[],[]⟩
def q31p:List PE := [e26,e4]
noncomputable def q31F:F8:=⟨q31C,rr q31p [(ty_8,true)] Try.f83,fun p=>none,0,[]⟩
theorem q31K:Contract Try.prog 83 (q31V):=ctr q31C (rs := [(ty_8,true)]) (ps:=q31p) q31F Try.f83 32 ⟨tyOf_ok tys_ok,gOf_ok trivial⟩ (annl [] trivial)

noncomputable def q32V(k:Nat):Variant:=⟨[.val ty_8 true,.val ty_0 false],[(ty_4,true),(.bool,false)],fun x=>impl_wide_fit k x.1 x.2.1⟩
noncomputable def q32C(k:Nat):Cfg:=⟨Try.prog,tyOf tys,45,gOf [(89,[],q30V),(83,[],q31V)],false,[],[]⟩
def q32i1:List PE := [e11,⟨2,48,.box ty_8 false,false⟩,e10]
def q32o1:List PE := [e11,⟨2,48,.box ty_8 false,false⟩,e10]
noncomputable def q32f1(k:Nat)(n:Nat)(x3:PTe q32i1):=impl_wide_fit_L28 k n x3.1 x3.2.1 x3.2.2.1
def q32p:List PE := [e26,e4]
noncomputable def q32F(k:Nat):F3:=⟨q32C k,rr q32p [(ty_4,true),(.bool,false)] Try.f88,fun p=>bif Nat.beq p 28 then some (.loop q32i1 q32o1 0 80 (q32f1 k k))else none,0,[]⟩
theorem q32K(k:Nat):Contract Try.prog 88 (q32V k):=ctr (q32C k) (rs := [(ty_4,true),(.bool,false)]) (ps:=q32p) (q32F k) Try.f88 32 ⟨tyOf_ok tys_ok,gOf_ok ⟨q30K,q31K,trivial⟩⟩ (annl [28] ⟨lok q32i1 q32o1 0 80 (q32f1 k) k,trivial⟩)

noncomputable def q33V(k:Nat):Variant:=⟨[.val ty_4 true,.val ty_4 true],[(ty_4,true),(.bool,false)],fun x=>impl_productOf k x.1 x.2.1⟩
noncomputable def q33C(k:Nat):Cfg:=⟨Try.prog,tyOf tys,19,gOf [(87,[],q29V),(88,[],q32V k)],false,[],[]⟩
def q33p:List PE := [e7,e27]
noncomputable def q33F(k:Nat):F3:=⟨q33C k,rr q33p [(ty_4,true),(.bool,false)] Try.f79,fun p=>none,0,[]⟩
theorem q33K(k:Nat):Contract Try.prog 79 (q33V k):=ctr (q33C k) (rs := [(ty_4,true),(.bool,false)]) (ps:=q33p) (q33F k) Try.f79 32 ⟨tyOf_ok tys_ok,gOf_ok ⟨q29K,q32K k,trivial⟩⟩ (annl [] trivial)

noncomputable def q34V:Variant:=⟨[.ptr .bool true,.val ty_4 true,.val .bool false],[(ty_4,true)],fun x=>impl_reckoner_keep x.1 x.2.1 x.2.2.1⟩
noncomputable def q34C:Cfg:=⟨Try.prog,tyOf tys,24,gOf [],false,[],[]⟩
def q34p:List PE := [e28,e27,⟨2,32,.val .bool false,false⟩]
noncomputable def q34F:F3:=⟨q34C,rr q34p [(ty_4,true)] Try.f78,fun p=>none,0,[0]⟩
theorem q34K:Contract Try.prog 78 (q34V):=ctr q34C (rs := [(ty_4,true)]) (ps:=q34p) q34F Try.f78 48 ⟨tyOf_ok tys_ok,gOf_ok trivial⟩ (annl [] trivial)

noncomputable def q35V(k:Nat):Variant:=⟨[.ptr .bool true,.val ty_4 true,.val ty_4 true],[(ty_4,true)],fun x=>impl_reckoner_product k x.1 x.2.1 x.2.2.1⟩
noncomputable def q35C(k:Nat):Cfg:=⟨Try.prog,tyOf tys,14,gOf [(79,[],q33V k),(78,[],q34V)],false,[],[]⟩
def q35p:List PE := [e28,e27,⟨2,32,.val ty_4 true,false⟩]
noncomputable def q35F(k:Nat):F3:=⟨q35C k,rr q35p [(ty_4,true)] Try.f65,fun p=>none,0,[0]⟩
theorem q35K(k:Nat):Contract Try.prog 65 (q35V k):=ctr (q35C k) (rs := [(ty_4,true)]) (ps:=q35p) (q35F k) Try.f65 48 ⟨tyOf_ok tys_ok,gOf_ok ⟨q33K k,q34K,trivial⟩⟩ (annl [] trivial)

noncomputable def q36V:Variant:=⟨[.val ty_4 true],[(ty_4,true)],fun x=>impl_minus x.1⟩
noncomputable def q36C:Cfg:=⟨Try.prog,tyOf tys,9,gOf [],false,[],[]⟩
def q36p:List PE := [e7]
noncomputable def q36F:F4:=⟨q36C,rr q36p [(ty_4,true)] Try.f52,fun p=>none,0,[]⟩
theorem q36K:Contract Try.prog 52 (q36V):=ctr q36C (rs := [(ty_4,true)]) (ps:=q36p) q36F Try.f52 16 ⟨tyOf_ok tys_ok,gOf_ok trivial⟩ (annl [] trivial)

noncomputable def q37V:Variant:=⟨[.val ty_0 false],[(ty_8,true)],fun x=>impl_wideOf x.1⟩
noncomputable def q37C:Cfg:=⟨Try.prog,tyOf tys,8,gOf [(91,[],q27V)],false,[],[]⟩
def q37p:List PE := [e5]
noncomputable def q37F:F8:=⟨q37C,rr q37p [(ty_8,true)] Try.f82,fun p=>none,0,[]⟩
theorem q37K:Contract Try.prog 82 (q37V):=ctr q37C (rs := [(ty_8,true)]) (ps:=q37p) q37F Try.f82 16 ⟨tyOf_ok tys_ok,gOf_ok ⟨q27K,trivial⟩⟩ (annl [] trivial)

noncomputable def q38V:Variant:=V64 math_bits_Add64
theorem q38K:Contract Try.prog 96 q38V:=contractAdd64 (fn:=Try.f96) (by kernel_rfl) (by kernel_rfl) (by kernel_rfl) (by kernel_rfl) (by kernel_rfl)

noncomputable def q39V:Variant:=⟨[.val ty_1 false],[(.bool,false)],fun x=>cmp_isNaN_uint64 x.1⟩
noncomputable def q39C:Cfg:=⟨Try.prog,tyOf tys,6,gOf [],false,[],[]⟩
def q39p:List PE := [e25]
noncomputable def q39F:F1:=⟨q39C,rr q39p [(.bool,false)] Try.f98,fun p=>none,0,[]⟩
theorem q39K:Contract Try.prog 98 (q39V):=ctr q39C (rs := [(.bool,false)]) (ps:=q39p) q39F Try.f98 16 ⟨tyOf_ok tys_ok,gOf_ok trivial⟩ (annl [] trivial)

noncomputable def q40V:Variant:=⟨[.val ty_1 false,.val ty_1 false],[(ty_0,false)],fun x=>cmp_Compare_uint64 x.1 x.2.1⟩
noncomputable def q40C:Cfg:=⟨Try.prog,tyOf tys,20,gOf [(98,[],q39V)],false,[],[]⟩
def q40p:List PE := [e25,⟨1,16,.val ty_1 false,false⟩]
noncomputable def q40F:F7:=⟨q40C,rr q40p [(ty_0,false)] Try.f95,fun p=>none,0,[]⟩
theorem q40K:Contract Try.prog 95 (q40V):=ctr q40C (rs := [(ty_0,false)]) (ps:=q40p) q40F Try.f95 32 ⟨tyOf_ok tys_ok,gOf_ok ⟨q39K,trivial⟩⟩ (annl [] trivial)

noncomputable def q41V(k:Nat):Variant:=⟨[.val ty_9 false],[(ty_0,false)],fun x=>cmp_Or_int k x.1⟩
noncomputable def q41C(k:Nat):Cfg:=⟨Try.prog,tyOf tys,18,gOf [],false,[],[]⟩
def q41i1:List PE := [e3,⟨6,32,.val ty_9 false,false⟩,⟨7,48,.val ty_0 false,false⟩,⟨8,64,.val ty_0 false,false⟩]
def q41o1:List PE := [e3]
noncomputable def q41f1(k:Nat)(n:Nat)(x1:PTe q41i1):=cmp_Or_int_L58 k n x1.1 x1.2.1 x1.2.2.1 x1.2.2.2.1
def q41p:List PE := [⟨0,0,.val ty_9 false,false⟩]
noncomputable def q41F(k:Nat):F7:=⟨q41C k,rr q41p [(ty_0,false)] Try.f94,fun p=>bif Nat.beq p 58 then some (.loop q41i1 q41o1 0 80 (q41f1 k k))else none,0,[]⟩
theorem q41K(k:Nat):Contract Try.prog 94 (q41V k):=ctr (q41C k) (rs := [(ty_0,false)]) (ps:=q41p) (q41F k) Try.f94 16 ⟨tyOf_ok tys_ok,gOf_ok trivial⟩ (annl [58] ⟨lok q41i1 q41o1 0 80 (q41f1 k) k,trivial⟩)

noncomputable def q42V(k:Nat):Variant:=⟨[.val ty_8 true,.val ty_8 true],[(ty_0,false)],fun x=>impl_compareSizes k x.1 x.2.1⟩
noncomputable def q42C(k:Nat):Cfg:=⟨Try.prog,tyOf tys,17,gOf [(95,[],q40V),(94,[],q41V k)],false,[],[]⟩
def q42p:List PE := [e26,e29]
noncomputable def q42F(k:Nat):F7:=⟨q42C k,rr q42p [(ty_0,false)] Try.f90,fun p=>none,0,[]⟩
theorem q42K(k:Nat):Contract Try.prog 90 (q42V k):=ctr (q42C k) (rs := [(ty_0,false)]) (ps:=q42p) (q42F k) Try.f90 32 ⟨tyOf_ok tys_ok,gOf_ok ⟨q40K,q41K k,trivial⟩⟩ (annl [] trivial)

noncomputable def q43V:Variant:=V64 math_bits_Sub64
theorem q43K:Contract Try.prog 97 q43V:=contractSub64 (fn:=Try.f97) (by kernel_rfl) (by kernel_rfl) (by kernel_rfl) (by kernel_rfl) (by kernel_rfl)

noncomputable def q44V(k:Nat):Variant:=⟨[.val ty_8 true,.val ty_8 true],[(ty_8,true)],fun x=>impl_wide_add k x.1 x.2.1⟩
noncomputable def q44C(k:Nat):Cfg:=⟨Try.prog,tyOf tys,68,gOf [(96,[],q38V),(90,[],q42V k),(97,[],q43V)],false,[],[]⟩
def q44p:List PE := [e26,e29]
noncomputable def q44F(k:Nat):F8:=⟨q44C k,rr q44p [(ty_8,true)] Try.f92,fun p=>bif Nat.beq p 14 then some (.cut [⟨2,32,.box ty_8 false,false⟩,⟨3,48,.box ty_8 false,false⟩,⟨4,64,.box ty_8 false,false⟩] 80)else none,0,[]⟩
theorem q44K(k:Nat):Contract Try.prog 92 (q44V k):=ctr (q44C k) (rs := [(ty_8,true)]) (ps:=q44p) (q44F k) Try.f92 32 ⟨tyOf_ok tys_ok,gOf_ok ⟨q38K,q42K k,q43K,trivial⟩⟩ (annl [] trivial)

noncomputable def q45V(k:Nat):Variant:=⟨[.val ty_4 true,.val ty_4 true],[(ty_4,true),(.bool,false)],fun x=>impl_sumOf k x.1 x.2.1⟩
noncomputable def q45C(k:Nat):Cfg:=⟨Try.prog,tyOf tys,33,gOf [(82,[],q37V),(83,[],q31V),(92,[],q44V k),(88,[],q32V k)],false,[],[]⟩
def q45p:List PE := [e7,e27]
noncomputable def q45F(k:Nat):F3:=⟨q45C k,rr q45p [(ty_4,true),(.bool,false)] Try.f84,fun p=>none,0,[]⟩
theorem q45K(k:Nat):Contract Try.prog 84 (q45V k):=ctr (q45C k) (rs := [(ty_4,true),(.bool,false)]) (ps:=q45p) (q45F k) Try.f84 32 ⟨tyOf_ok tys_ok,gOf_ok ⟨q37K,q31K,q44K k,q32K k,trivial⟩⟩ (annl [] trivial)

noncomputable def q46V(k:Nat):Variant:=⟨[.ptr .bool true,.val ty_4 true,.val ty_4 true],[(ty_4,true)],fun x=>impl_reckoner_sum k x.1 x.2.1 x.2.2.1⟩
noncomputable def q46C(k:Nat):Cfg:=⟨Try.prog,tyOf tys,14,gOf [(84,[],q45V k),(78,[],q34V)],false,[],[]⟩
def q46p:List PE := [e28,e27,⟨2,32,.val ty_4 true,false⟩]
noncomputable def q46F(k:Nat):F3:=⟨q46C k,rr q46p [(ty_4,true)] Try.f73,fun p=>none,0,[0]⟩
theorem q46K(k:Nat):Contract Try.prog 73 (q46V k):=ctr (q46C k) (rs := [(ty_4,true)]) (ps:=q46p) (q46F k) Try.f73 48 ⟨tyOf_ok tys_ok,gOf_ok ⟨q45K k,q34K,trivial⟩⟩ (annl [] trivial)

noncomputable def q47V(k:Nat):Variant:=⟨[.ptr .bool true,.val ty_5 false],[(ty_4,true)],fun x=>impl_reckoner_total k x.1 x.2.1⟩
noncomputable def q47C(k:Nat):Cfg:=⟨Try.prog,tyOf tys,24,gOf [(73,[],q46V k)],false,[],[]⟩
def q47i1:List PE := [e28,e30,⟨5,48,.box ty_4 false,false⟩,⟨12,64,.val ty_5 false,false⟩,e31,⟨14,96,.val ty_0 false,false⟩]
def q47o1:List PE := [e30,⟨5,48,.box ty_4 false,false⟩,e28]
noncomputable def q47f1(k:Nat)(n:Nat)(x2:PTe q47i1):=impl_reckoner_total_L58 k n x2.1 x2.2.1 x2.2.2.1 x2.2.2.2.1 x2.2.2.2.2.1 x2.2.2.2.2.2.1
def q47p:List PE := [e28,e32]
noncomputable def q47F(k:Nat):F3:=⟨q47C k,rr q47p [(ty_4,true)] Try.f53,fun p=>bif Nat.beq p 58 then some (.loop q47i1 q47o1 0 112 (q47f1 k k))else none,0,[0]⟩
theorem q47K(k:Nat):Contract Try.prog 53 (q47V k):=ctr (q47C k) (rs := [(ty_4,true)]) (ps:=q47p) (q47F k) Try.f53 32 ⟨tyOf_ok tys_ok,gOf_ok ⟨q46K k,trivial⟩⟩ (annl [58] ⟨lok q47i1 q47o1 0 112 (q47f1 k) k,trivial⟩)

noncomputable def q48V(k:Nat):Variant:=⟨[.ptr .bool true,.val ty_6 false],[(ty_4,true)],fun x=>impl_reckoner_determinant k x.1 x.2.1⟩
noncomputable def q48W(rc:Bool→(List (List (Int×Int)))→Option ((Int×Int)×Bool)):Variant:=⟨[.ptr .bool true,.val ty_6 false],[(ty_4,true)],fun x=>rc x.1 x.2.1⟩
noncomputable def q48C(k:Nat)(rc:Bool→(List (List (Int×Int)))→Option ((Int×Int)×Bool)):Cfg:=⟨Try.prog,tyOf tys,47,gOf [(60,[],q26V k),(31,[],q48W rc),(65,[],q35V k),(52,[],q36V),(53,[],q47V k)],false,[],[]⟩
def q48i1:List PE := [e28,e33,e34,⟨5,64,.eat ty_4,false⟩,⟨19,80,.val ty_5 false,false⟩,⟨20,96,.val ty_0 false,false⟩,⟨21,112,.val ty_0 false,false⟩]
def q48o1:List PE := [e28,e30,⟨5,48,.eat ty_4,false⟩]
noncomputable def q48f1(k:Nat)(rc:Bool→(List (List (Int×Int)))→Option ((Int×Int)×Bool))(n:Nat)(x7:PTe q48i1):=impl_reckoner_determinant_L122 k rc n x7.1 x7.2.1 x7.2.2.1 x7.2.2.2.1 x7.2.2.2.2.1 x7.2.2.2.2.2.1 x7.2.2.2.2.2.2.1
def q48p:List PE := [e28,e35]
noncomputable def q48F(k:Nat)(rc:Bool→(List (List (Int×Int)))→Option ((Int×Int)×Bool)):F3:=⟨q48C k rc,rr q48p [(ty_4,true)] Try.f31,fun p=>bif Nat.beq p 31334 then some (.cut [e28,e33,e34,⟨5,64,.eat ty_4,false⟩,⟨8,80,.box ty_4 false,false⟩,⟨19,96,.val ty_5 false,false⟩,⟨20,112,.val ty_0 false,false⟩,⟨21,128,.val ty_0 false,false⟩] 144)else bif Nat.beq p 122 then some (.loop q48i1 q48o1 0 128 (q48f1 k rc k))else none,0,[0]⟩
theorem q48KB(k:Nat)(rc:Bool→(List (List (Int×Int)))→Option ((Int×Int)×Bool))(hrc:Contract Try.prog 31 (q48W rc)):Contract Try.prog 31 (q48W (impl_reckoner_determinant_B k rc)):=ctr (q48C k rc) (rs := [(ty_4,true)]) (ps:=q48p) (q48F k rc) Try.f31 32 ⟨tyOf_ok tys_ok,gOf_ok ⟨q26K k,hrc,q35K k,q36K,q47K k,trivial⟩⟩ (annl [122] ⟨lok q48i1 q48o1 0 128 (q48f1 k rc) k,trivial⟩)
theorem q48KR(k:Nat):∀n,Contract Try.prog 31 (q48W (impl_reckoner_determinant_R k n))
 | 0=>contract_none fun _=>rfl
 | n+1=>q48KB k _ (q48KR k n)
theorem q48K(k:Nat):Contract Try.prog 31 (q48V k):=q48KR k k

noncomputable def q49V(k:Nat):Variant:=⟨[.val ty_6 false],[(ty_6,false),(.bool,false)],fun x=>impl_adjoint k x.1⟩
noncomputable def q49C(k:Nat):Cfg:=⟨Try.prog,tyOf tys,57,gOf [(42,[],q23V),(60,[],q26V k),(31,[],q48V k),(52,[],q36V)],false,[],[]⟩
def q49i1:List PE := [e19,e36,e12,e37,⟨7,80,.eat ty_4,false⟩,⟨19,96,.val ty_0 false,false⟩,⟨20,112,.val ty_0 false,false⟩,⟨24,128,.val ty_0 false,false⟩,⟨25,144,.val ty_0 false,false⟩]
def q49o1:List PE := [e19,e36,e12,e38,⟨19,80,.val ty_0 false,false⟩,⟨20,96,.val ty_0 false,false⟩]
noncomputable def q49f1(k:Nat)(n:Nat)(x7:PTe q49i1):=impl_adjoint_L256410 k n x7.1 x7.2.1 x7.2.2.1 x7.2.2.2.1 x7.2.2.2.2.1 x7.2.2.2.2.2.1 x7.2.2.2.2.2.2.1 x7.2.2.2.2.2.2.2.1 x7.2.2.2.2.2.2.2.2.1
def q49i2:List PE := [e19,e36,e12,⟨19,64,.val ty_0 false,false⟩,⟨20,80,.val ty_0 false,false⟩]
def q49o2:List PE := [e39,⟨5,32,.eat ty_5,false⟩]
noncomputable def q49f2(k:Nat)(n:Nat)(x10:PTe q49i2):=impl_adjoint_L250 k n x10.1 x10.2.1 x10.2.2.1 x10.2.2.2.1 x10.2.2.2.2.1
def q49p:List PE := [e20]
noncomputable def q49F(k:Nat):F9:=⟨q49C k,rr q49p [(ty_6,false),(.bool,false)] Try.f28,fun p=>bif Nat.beq p 65641062 then some (.cut [e19,e36,e12,e37,⟨7,80,.eat ty_4,false⟩,⟨9,96,.box ty_4 false,false⟩,⟨19,112,.val ty_0 false,false⟩,⟨20,128,.val ty_0 false,false⟩,⟨24,144,.val ty_0 false,false⟩,⟨25,160,.val ty_0 false,false⟩] 176)else bif Nat.beq p 256410 then some (.loop q49i1 q49o1 2 160 (q49f1 k k))else bif Nat.beq p 250 then some (.loop q49i2 q49o2 0 96 (q49f2 k k))else none,0,[]⟩
theorem q49K(k:Nat):Contract Try.prog 28 (q49V k):=ctr (q49C k) (rs := [(ty_6,false),(.bool,false)]) (ps:=q49p) (q49F k) Try.f28 16 ⟨tyOf_ok tys_ok,gOf_ok ⟨q23K,q26K k,q48K k,q36K,trivial⟩⟩ (annl [250,256410] ⟨lok q49i2 q49o2 0 96 (q49f2 k) k,lok q49i1 q49o1 2 160 (q49f1 k) k,trivial⟩)

noncomputable def q50V(k:Nat):Variant:=⟨[.val ty_6 false],[(ty_6,false),(.bool,false)],fun x=>impl_AdjointOf k x.1⟩
noncomputable def q50C(k:Nat):Cfg:=⟨Try.prog,tyOf tys,11,gOf [(27,[],q22V k),(28,[],q49V k)],false,[],[]⟩
def q50p:List PE := [e20]
noncomputable def q50F(k:Nat):F9:=⟨q50C k,rr q50p [(ty_6,false),(.bool,false)] Try.f6,fun p=>none,0,[]⟩
theorem q50K(k:Nat):Contract Try.prog 6 (q50V k):=ctr (q50C k) (rs := [(ty_6,false),(.bool,false)]) (ps:=q50p) (q50F k) Try.f6 16 ⟨tyOf_ok tys_ok,gOf_ok ⟨q22K k,q49K k,trivial⟩⟩ (annl [] trivial)

noncomputable def q51V(k:Nat):Variant:=⟨[.val ty_9 false,.val ty_0 false,.val ty_0 false],[(.bool,false)],fun x=>spec_l1All k x.1 x.2.1 x.2.2.1⟩
noncomputable def q51C(k:Nat):Cfg:=⟨Try.prog,tyOf tys,21,gOf [(57,[],q6V)],false,[],[]⟩
def q51i1:List PE := [e9,e21,⟨9,80,.val ty_9 false,false⟩,e40,e23]
def q51o1:List PE := []
noncomputable def q51f1(k:Nat)(n:Nat)(x2:PTe q51i1):=spec_l1All_L26 k n x2.1 x2.2.1 x2.2.2.1 x2.2.2.2.1 x2.2.2.2.2.1
def q51p:List PE := [⟨0,0,.val ty_9 false,false⟩,e4,e6]
noncomputable def q51F(k:Nat):F1:=⟨q51C k,rr q51p [(.bool,false)] Try.f77,fun p=>bif Nat.beq p 26 then some (.loop q51i1 q51o1 0 128 (q51f1 k k))else none,0,[]⟩
theorem q51K(k:Nat):Contract Try.prog 77 (q51V k):=ctr (q51C k) (rs := [(.bool,false)]) (ps:=q51p) (q51F k) Try.f77 48 ⟨tyOf_ok tys_ok,gOf_ok ⟨q6K,trivial⟩⟩ (annl [26] ⟨lok q51i1 q51o1 0 128 (q51f1 k) k,trivial⟩)

noncomputable def q52V(k:Nat):Variant:=⟨[.val ty_0 false,.val ty_9 false],[(.bool,false)],fun x=>spec_mxSquare k x.1 x.2.1⟩
noncomputable def q52C(k:Nat):Cfg:=⟨Try.prog,tyOf tys,13,gOf [(57,[],q6V),(77,[],q51V k)],false,[],[]⟩
def q52p:List PE := [e5,⟨1,16,.val ty_9 false,false⟩]
noncomputable def q52F(k:Nat):F1:=⟨q52C k,rr q52p [(.bool,false)] Try.f62,fun p=>none,0,[]⟩
theorem q52K(k:Nat):Contract Try.prog 62 (q52V k):=ctr (q52C k) (rs := [(.bool,false)]) (ps:=q52p) (q52F k) Try.f62 32 ⟨tyOf_ok tys_ok,gOf_ok ⟨q6K,q51K k,trivial⟩⟩ (annl [] trivial)

noncomputable def q53V(k:Nat):Variant:=⟨[.val ty_6 false],[(.bool,false)],fun x=>spec_mxGood k x.1⟩
noncomputable def q53C(k:Nat):Cfg:=⟨Try.prog,tyOf tys,34,gOf [(61,[],q7V),(62,[],q52V k)],false,[],[]⟩
def q53i1:List PE := [e19,e41,⟨5,48,.val ty_5 false,false⟩,e42,e43,e40,⟨14,112,.val ty_5 false,false⟩,⟨15,128,.val ty_0 false,false⟩,⟨16,144,.val ty_0 false,false⟩]
def q53o1:List PE := [e19,e41,⟨5,48,.val ty_5 false,false⟩,e42,e43,e40]
noncomputable def q53f1(k:Nat)(n:Nat)(x2:PTe q53i1):=spec_mxGood_L29898 k n x2.1 x2.2.1 x2.2.2.1 x2.2.2.2.1 x2.2.2.2.2.1 x2.2.2.2.2.2.1 x2.2.2.2.2.2.2.1 x2.2.2.2.2.2.2.2.1 x2.2.2.2.2.2.2.2.2.1
def q53i2:List PE := [e19,e41,⟨8,48,.val ty_6 false,false⟩,⟨9,64,.val ty_0 false,false⟩,⟨10,80,.val ty_0 false,false⟩]
def q53o2:List PE := [e19,e41]
noncomputable def q53f2(k:Nat)(n:Nat)(x5:PTe q53i2):=spec_mxGood_L58 k n x5.1 x5.2.1 x5.2.2.1 x5.2.2.2.1 x5.2.2.2.2.1
def q53p:List PE := [e20]
noncomputable def q53F(k:Nat):F1:=⟨q53C k,rr q53p [(.bool,false)] Try.f29,fun p=>bif Nat.beq p 29898 then some (.loop q53i1 q53o1 2 160 (q53f1 k k))else bif Nat.beq p 58 then some (.loop q53i2 q53o2 0 96 (q53f2 k k))else none,0,[]⟩
theorem q53K(k:Nat):Contract Try.prog 29 (q53V k):=ctr (q53C k) (rs := [(.bool,false)]) (ps:=q53p) (q53F k) Try.f29 16 ⟨tyOf_ok tys_ok,gOf_ok ⟨q7K,q52K k,trivial⟩⟩ (annl [58,29898] ⟨lok q53i2 q53o2 0 96 (q53f2 k) k,lok q53i1 q53o1 2 160 (q53f1 k) k,trivial⟩)

noncomputable def q54V(k:Nat):Variant:=⟨[.val ty_6 false,.val ty_0 false,.val ty_0 false],[(ty_6,false)],fun x=>spec_mxPart k x.1 x.2.1 x.2.2.1⟩
noncomputable def q54C(k:Nat):Cfg:=⟨Try.prog,tyOf tys,35,gOf [],false,[],[]⟩
def q54i1:List PE := [e9,e21,e22,⟨10,96,.val ty_6 false,false⟩,e23,⟨12,128,.val ty_0 false,false⟩]
def q54o1:List PE := [e24]
noncomputable def q54f1(k:Nat)(n:Nat)(x1:PTe q54i1):=spec_mxPart_L58 k n x1.1 x1.2.1 x1.2.2.1 x1.2.2.2.1 x1.2.2.2.2.1 x1.2.2.2.2.2.1
def q54p:List PE := [e20,e4,e6]
noncomputable def q54F(k:Nat):F6:=⟨q54C k,rr q54p [(ty_6,false)] Try.f63,fun p=>bif Nat.beq p 58 then some (.loop q54i1 q54o1 0 144 (q54f1 k k))else none,0,[]⟩
theorem q54K(k:Nat):Contract Try.prog 63 (q54V k):=ctr (q54C k) (rs := [(ty_6,false)]) (ps:=q54p) (q54F k) Try.f63 48 ⟨tyOf_ok tys_ok,gOf_ok trivial⟩ (annl [58] ⟨lok q54i1 q54o1 0 144 (q54f1 k) k,trivial⟩)

noncomputable def q55V:Variant:=⟨[.val ty_0 false,.val ty_0 false],[(ty_0,false)],fun x=>spec_l1Most x.1 x.2.1⟩
noncomputable def q55C:Cfg:=⟨Try.prog,tyOf tys,10,gOf [],false,[],[]⟩
def q55p:List PE := [e5,e4]
noncomputable def q55F:F7:=⟨q55C,rr q55p [(ty_0,false)] Try.f74,fun p=>none,0,[]⟩
theorem q55K:Contract Try.prog 74 (q55V):=ctr q55C (rs := [(ty_0,false)]) (ps:=q55p) q55F Try.f74 32 ⟨tyOf_ok tys_ok,gOf_ok trivial⟩ (annl [] trivial)

noncomputable def q56V:Variant:=⟨[.val ty_0 false],[(ty_0,false)],fun x=>spec_l1Abs x.1⟩
noncomputable def q56C:Cfg:=⟨Try.prog,tyOf tys,7,gOf [(74,[],q55V)],false,[],[]⟩
def q56p:List PE := [e5]
noncomputable def q56F:F7:=⟨q56C,rr q56p [(ty_0,false)] Try.f66,fun p=>none,0,[]⟩
theorem q56K:Contract Try.prog 66 (q56V):=ctr q56C (rs := [(ty_0,false)]) (ps:=q56p) q56F Try.f66 16 ⟨tyOf_ok tys_ok,gOf_ok ⟨q55K,trivial⟩⟩ (annl [] trivial)

noncomputable def q57V(k:Nat):Variant:=⟨[.val ty_4 true,.val ty_4 true],[(ty_4,true),(.bool,false)],fun x=>spec_dyMul k x.1 x.2.1⟩
noncomputable def q57C(k:Nat):Cfg:=⟨Try.prog,tyOf tys,67,gOf [(66,[],q56V),(67,[],q8V k)],false,[],[]⟩
def q57i1:List PE := [e44,e45,e10,e46]
def q57o1:List PE := [e44,e45,e10,e46]
noncomputable def q57f1(k:Nat)(n:Nat)(x1:PTe q57i1):=spec_dyMul_L60 k n x1.1 x1.2.1 x1.2.2.1 x1.2.2.2.1
def q57i2:List PE := [e44,e45,e10,e46]
def q57o2:List PE := [e44,e45,e10,e46]
noncomputable def q57f2(k:Nat)(n:Nat)(x4:PTe q57i2):=spec_dyMul_L124 k n x4.1 x4.2.1 x4.2.2.1 x4.2.2.2.1
def q57p:List PE := [e7,e27]
noncomputable def q57F(k:Nat):F3:=⟨q57C k,rr q57p [(ty_4,true),(.bool,false)] Try.f40,fun p=>bif Nat.beq p 60 then some (.loop q57i1 q57o1 0 96 (q57f1 k k))else bif Nat.beq p 124 then some (.loop q57i2 q57o2 2 96 (q57f2 k k))else none,0,[]⟩
theorem q57K(k:Nat):Contract Try.prog 40 (q57V k):=ctr (q57C k) (rs := [(ty_4,true),(.bool,false)]) (ps:=q57p) (q57F k) Try.f40 32 ⟨tyOf_ok tys_ok,gOf_ok ⟨q56K,q8K k,trivial⟩⟩ (annl [60,124] ⟨lok q57i1 q57o1 0 96 (q57f1 k) k,lok q57i2 q57o2 2 96 (q57f2 k) k,trivial⟩)

noncomputable def q58V:Variant:=⟨[.val ty_4 true],[(ty_4,true)],fun x=>spec_dyMinus x.1⟩
noncomputable def q58C:Cfg:=⟨Try.prog,tyOf tys,9,gOf [],false,[],[]⟩
def q58p:List PE := [e7]
noncomputable def q58F:F4:=⟨q58C,rr q58p [(ty_4,true)] Try.f64,fun p=>none,0,[]⟩
theorem q58K:Contract Try.prog 64 (q58V):=ctr q58C (rs := [(ty_4,true)]) (ps:=q58p) q58F Try.f64 16 ⟨tyOf_ok tys_ok,gOf_ok trivial⟩ (annl [] trivial)

noncomputable def q59V:Variant:=⟨[.val ty_0 false],[(ty_0,false)],fun x=>spec_dyPower x.1⟩
noncomputable def q59C:Cfg:=⟨Try.prog,tyOf tys,6,gOf [],false,[],[]⟩
def q59p:List PE := [e5]
noncomputable def q59F:F7:=⟨q59C,rr q59p [(ty_0,false)] Try.f85,fun p=>none,0,[]⟩
theorem q59K:Contract Try.prog 85 (q59V):=ctr q59C (rs := [(ty_0,false)]) (ps:=q59p) q59F Try.f85 16 ⟨tyOf_ok tys_ok,gOf_ok trivial⟩ (annl [] trivial)

noncomputable def q60V(k:Nat):Variant:=⟨[.val ty_4 true,.val ty_0 false],[(ty_0,false),(.bool,false)],fun x=>spec_dyAt k x.1 x.2.1⟩
noncomputable def q60C(k:Nat):Cfg:=⟨Try.prog,tyOf tys,30,gOf [(85,[],q59V),(57,[],q6V)],false,[],[]⟩
def q60i1:List PE := [e11,⟨2,48,.box ty_4 false,false⟩,e37]
def q60o1:List PE := [e44]
noncomputable def q60f1(k:Nat)(n:Nat)(x4:PTe q60i1):=spec_dyAt_L58 k n x4.1 x4.2.1 x4.2.2.1
def q60p:List PE := [e7,e4]
noncomputable def q60F(k:Nat):Fn (Int×Bool):=⟨q60C k,rr q60p [(ty_0,false),(.bool,false)] Try.f75,fun p=>bif Nat.beq p 58 then some (.loop q60i1 q60o1 0 80 (q60f1 k k))else none,0,[]⟩
theorem q60K(k:Nat):Contract Try.prog 75 (q60V k):=ctr (q60C k) (rs := [(ty_0,false),(.bool,false)]) (ps:=q60p) (q60F k) Try.f75 32 ⟨tyOf_ok tys_ok,gOf_ok ⟨q59K,q6K,trivial⟩⟩ (annl [58] ⟨lok q60i1 q60o1 0 80 (q60f1 k) k,trivial⟩)

noncomputable def q61V(k:Nat):Variant:=⟨[.val ty_4 true,.val ty_4 true],[(ty_4,true),(.bool,false)],fun x=>spec_dyAdd k x.1 x.2.1⟩
noncomputable def q61C(k:Nat):Cfg:=⟨Try.prog,tyOf tys,42,gOf [(74,[],q55V),(75,[],q60V k),(67,[],q8V k)],false,[],[]⟩
def q61p:List PE := [e7,e27]
noncomputable def q61F(k:Nat):F3:=⟨q61C k,rr q61p [(ty_4,true),(.bool,false)] Try.f54,fun p=>none,0,[]⟩
theorem q61K(k:Nat):Contract Try.prog 54 (q61V k):=ctr (q61C k) (rs := [(ty_4,true),(.bool,false)]) (ps:=q61p) (q61F k) Try.f54 32 ⟨tyOf_ok tys_ok,gOf_ok ⟨q55K,q60K k,q8K k,trivial⟩⟩ (annl [] trivial)

noncomputable def q62V(k:Nat):Variant:=⟨[.val ty_6 false],[(ty_4,true),(.bool,false)],fun x=>spec_mxDet k x.1⟩
noncomputable def q62W(rc:(List (List (Int×Int)))→Option ((Int×Int)×Bool)):Variant:=⟨[.val ty_6 false],[(ty_4,true),(.bool,false)],fun x=>rc x.1⟩
noncomputable def q62C(k:Nat)(rc:(List (List (Int×Int)))→Option ((Int×Int)×Bool)):Cfg:=⟨Try.prog,tyOf tys,68,gOf [(63,[],q54V k),(32,[],q62W rc),(40,[],q57V k),(64,[],q58V),(54,[],q61V k)],false,[],[]⟩
def q62i1:List PE := [e19,e44,e34,⟨24,64,.val ty_5 false,false⟩,⟨25,80,.val ty_0 false,false⟩,⟨26,96,.val ty_0 false,false⟩]
def q62o1:List PE := [⟨2,16,.box ty_4 false,false⟩,e30]
noncomputable def q62f1(k:Nat)(rc:(List (List (Int×Int)))→Option ((Int×Int)×Bool))(n:Nat)(x8:PTe q62i1):=spec_mxDet_L122 k rc n x8.1 x8.2.1 x8.2.2.1 x8.2.2.2.1 x8.2.2.2.2.1 x8.2.2.2.2.2.1
def q62p:List PE := [e20]
noncomputable def q62F(k:Nat)(rc:(List (List (Int×Int)))→Option ((Int×Int)×Bool)):F3:=⟨q62C k rc,rr q62p [(ty_4,true),(.bool,false)] Try.f32,fun p=>bif Nat.beq p 125342 then some (.cut [e19,e44,e34,⟨9,64,.box ty_4 false,false⟩,⟨10,80,.val .bool false,false⟩,⟨24,96,.val ty_5 false,false⟩,⟨25,112,.val ty_0 false,false⟩,⟨26,128,.val ty_0 false,false⟩] 144)else bif Nat.beq p 122 then some (.loop q62i1 q62o1 0 112 (q62f1 k rc k))else none,0,[]⟩
theorem q62KB(k:Nat)(rc:(List (List (Int×Int)))→Option ((Int×Int)×Bool))(hrc:Contract Try.prog 32 (q62W rc)):Contract Try.prog 32 (q62W (spec_mxDet_B k rc)):=ctr (q62C k rc) (rs := [(ty_4,true),(.bool,false)]) (ps:=q62p) (q62F k rc) Try.f32 16 ⟨tyOf_ok tys_ok,gOf_ok ⟨q54K k,hrc,q57K k,q58K,q61K k,trivial⟩⟩ (annl [122] ⟨lok q62i1 q62o1 0 112 (q62f1 k rc) k,trivial⟩)
theorem q62KR(k:Nat):∀n,Contract Try.prog 32 (q62W (spec_mxDet_R k n))
 | 0=>contract_none fun _=>rfl
 | n+1=>q62KB k _ (q62KR k n)
theorem q62K(k:Nat):Contract Try.prog 32 (q62V k):=q62KR k k

noncomputable def q63V(k:Nat):Variant:=⟨[.val ty_6 false],[(ty_6,false),(.bool,false)],fun x=>spec_mxAdjoint k x.1⟩
noncomputable def q63C(k:Nat):Cfg:=⟨Try.prog,tyOf tys,54,gOf [(58,[],q9V),(63,[],q54V k),(32,[],q62V k),(64,[],q58V)],false,[],[]⟩
def q63i1:List PE := [e19,e47,e48,e13,e49,e50,⟨22,112,.val ty_0 false,false⟩,⟨23,128,.val ty_0 false,false⟩]
def q63o1:List PE := [e19,e47,⟨6,48,.eat ty_4,false⟩,e51,⟨18,80,.val ty_0 false,false⟩]
noncomputable def q63f1(k:Nat)(n:Nat)(x7:PTe q63i1):=spec_mxAdjoint_L125338 k n x7.1 x7.2.1 x7.2.2.1 x7.2.2.2.1 x7.2.2.2.2.1 x7.2.2.2.2.2.1 x7.2.2.2.2.2.2.1 x7.2.2.2.2.2.2.2.1
def q63i2:List PE := [e19,e47,⟨17,48,.val ty_0 false,false⟩,⟨18,64,.val ty_0 false,false⟩]
def q63o2:List PE := [e52]
noncomputable def q63f2(k:Nat)(n:Nat)(x10:PTe q63i2):=spec_mxAdjoint_L122 k n x10.1 x10.2.1 x10.2.2.1 x10.2.2.2.1
def q63p:List PE := [e20]
noncomputable def q63F(k:Nat):F9:=⟨q63C k,rr q63p [(ty_6,false),(.bool,false)] Try.f30,fun p=>bif Nat.beq p 64173262 then some (.cut [e19,e47,e48,e13,⟨8,80,.box ty_4 false,false⟩,⟨17,96,.val ty_0 false,false⟩,⟨18,112,.val ty_0 false,false⟩,⟨22,128,.val ty_0 false,false⟩,⟨23,144,.val ty_0 false,false⟩] 160)else bif Nat.beq p 125338 then some (.loop q63i1 q63o1 2 144 (q63f1 k k))else bif Nat.beq p 122 then some (.loop q63i2 q63o2 0 80 (q63f2 k k))else none,0,[]⟩
theorem q63K(k:Nat):Contract Try.prog 30 (q63V k):=ctr (q63C k) (rs := [(ty_6,false),(.bool,false)]) (ps:=q63p) (q63F k) Try.f30 16 ⟨tyOf_ok tys_ok,gOf_ok ⟨q9K,q54K k,q62K k,q58K,trivial⟩⟩ (annl [122,125338] ⟨lok q63i2 q63o2 0 80 (q63f2 k) k,lok q63i1 q63o1 2 144 (q63f1 k) k,trivial⟩)

noncomputable def q64V(k:Nat):Variant:=⟨[.val ty_6 false],[(ty_6,false),(.bool,false)],fun x=>spec_AdjointOf k x.1⟩
noncomputable def q64C(k:Nat):Cfg:=⟨Try.prog,tyOf tys,11,gOf [(29,[],q53V k),(30,[],q63V k)],false,[],[]⟩
def q64p:List PE := [e20]
noncomputable def q64F(k:Nat):F9:=⟨q64C k,rr q64p [(ty_6,false),(.bool,false)] Try.f7,fun p=>none,0,[]⟩
theorem q64K(k:Nat):Contract Try.prog 7 (q64V k):=ctr (q64C k) (rs := [(ty_6,false),(.bool,false)]) (ps:=q64p) (q64F k) Try.f7 16 ⟨tyOf_ok tys_ok,gOf_ok ⟨q53K k,q63K k,trivial⟩⟩ (annl [] trivial)

noncomputable def q65V(k:Nat):Variant:=⟨[.val ty_6 false],[(ty_4,true),(.bool,false)],fun x=>impl_DeterminantOf k x.1⟩
noncomputable def q65C(k:Nat):Cfg:=⟨Try.prog,tyOf tys,20,gOf [(27,[],q22V k),(31,[],q48V k)],false,[],[]⟩
def q65p:List PE := [e20]
noncomputable def q65F(k:Nat):F3:=⟨q65C k,rr q65p [(ty_4,true),(.bool,false)] Try.f8,fun p=>none,0,[]⟩
theorem q65K(k:Nat):Contract Try.prog 8 (q65V k):=ctr (q65C k) (rs := [(ty_4,true),(.bool,false)]) (ps:=q65p) (q65F k) Try.f8 16 ⟨tyOf_ok tys_ok,gOf_ok ⟨q22K k,q48K k,trivial⟩⟩ (annl [] trivial)

noncomputable def q66V(k:Nat):Variant:=⟨[.val ty_6 false],[(ty_4,true),(.bool,false)],fun x=>spec_DeterminantOf k x.1⟩
noncomputable def q66C(k:Nat):Cfg:=⟨Try.prog,tyOf tys,12,gOf [(29,[],q53V k),(32,[],q62V k)],false,[],[]⟩
def q66p:List PE := [e20]
noncomputable def q66F(k:Nat):F3:=⟨q66C k,rr q66p [(ty_4,true),(.bool,false)] Try.f9,fun p=>none,0,[]⟩
theorem q66K(k:Nat):Contract Try.prog 9 (q66V k):=ctr (q66C k) (rs := [(ty_4,true),(.bool,false)]) (ps:=q66p) (q66F k) Try.f9 16 ⟨tyOf_ok tys_ok,gOf_ok ⟨q53K k,q62K k,trivial⟩⟩ (annl [] trivial)

noncomputable def q67V(k:Nat):Variant:=⟨[.val ty_5 false,.val ty_5 false],[(.bool,false)],fun x=>laws_pSamePoint k x.1 x.2.1⟩
noncomputable def q67C(k:Nat):Cfg:=⟨Try.prog,tyOf tys,26,gOf [],false,[],[]⟩
def q67i1:List PE := [e15,⟨1,48,.val ty_5 false,false⟩,⟨12,64,.val ty_0 false,false⟩,e31]
def q67o1:List PE := []
noncomputable def q67f1(k:Nat)(n:Nat)(x1:PTe q67i1):=laws_pSamePoint_L58 k n x1.1 x1.2.1 x1.2.2.1 x1.2.2.2.1
def q67p:List PE := [e18,e32]
noncomputable def q67F(k:Nat):F1:=⟨q67C k,rr q67p [(.bool,false)] Try.f25,fun p=>bif Nat.beq p 58 then some (.loop q67i1 q67o1 0 96 (q67f1 k k))else none,0,[]⟩
theorem q67K(k:Nat):Contract Try.prog 25 (q67V k):=ctr (q67C k) (rs := [(.bool,false)]) (ps:=q67p) (q67F k) Try.f25 32 ⟨tyOf_ok tys_ok,gOf_ok trivial⟩ (annl [58] ⟨lok q67i1 q67o1 0 96 (q67f1 k) k,trivial⟩)

noncomputable def q68V(k:Nat):Variant:=⟨[.val ty_6 false,.val ty_6 false],[(.bool,false)],fun x=>laws_pSameTable k x.1 x.2.1⟩
noncomputable def q68C(k:Nat):Cfg:=⟨Try.prog,tyOf tys,27,gOf [(25,[],q67V k)],false,[],[]⟩
def q68i1:List PE := [e53,e54,⟨12,64,.val ty_0 false,false⟩,e31]
def q68o1:List PE := []
noncomputable def q68f1(k:Nat)(n:Nat)(x2:PTe q68i1):=laws_pSameTable_L58 k n x2.1 x2.2.1 x2.2.2.1 x2.2.2.2.1
def q68p:List PE := [e20,e35]
noncomputable def q68F(k:Nat):F1:=⟨q68C k,rr q68p [(.bool,false)] Try.f10,fun p=>bif Nat.beq p 58 then some (.loop q68i1 q68o1 0 96 (q68f1 k k))else none,0,[]⟩
theorem q68K(k:Nat):Contract Try.prog 10 (q68V k):=ctr (q68C k) (rs := [(.bool,false)]) (ps:=q68p) (q68F k) Try.f10 32 ⟨tyOf_ok tys_ok,gOf_ok ⟨q67K k,trivial⟩⟩ (annl [58] ⟨lok q68i1 q68o1 0 96 (q68f1 k) k,trivial⟩)

noncomputable def q69V(k:Nat):Variant:=⟨[.val ty_6 false],[(.bool,false)],fun x=>impl_IsTable k x.1⟩
noncomputable def q69C(k:Nat):Cfg:=⟨Try.prog,tyOf tys,5,gOf [(27,[],q22V k)],false,[],[]⟩
def q69p:List PE := [e20]
noncomputable def q69F(k:Nat):F1:=⟨q69C k,rr q69p [(.bool,false)] Try.f11,fun p=>none,0,[]⟩
theorem q69K(k:Nat):Contract Try.prog 11 (q69V k):=ctr (q69C k) (rs := [(.bool,false)]) (ps:=q69p) (q69F k) Try.f11 16 ⟨tyOf_ok tys_ok,gOf_ok ⟨q22K k,trivial⟩⟩ (annl [] trivial)

noncomputable def q70V(k:Nat):Variant:=⟨[.ptr .bool true,.val ty_5 false,.val ty_5 false],[(ty_4,true)],fun x=>impl_reckoner_inner k x.1 x.2.1 x.2.2.1⟩
noncomputable def q70C(k:Nat):Cfg:=⟨Try.prog,tyOf tys,31,gOf [(65,[],q35V k),(53,[],q47V k)],false,[],[]⟩
def q70i1:List PE := [e28,⟨1,48,.val ty_5 false,false⟩,⟨2,64,.val ty_5 false,false⟩,⟨6,80,.box ty_4 false,false⟩,⟨7,96,.eat ty_4,false⟩,⟨10,112,.val ty_0 false,false⟩,⟨11,128,.val ty_0 false,false⟩]
def q70o1:List PE := [e28,⟨6,48,.box ty_4 false,false⟩,e38]
noncomputable def q70f1(k:Nat)(n:Nat)(x2:PTe q70i1):=impl_reckoner_inner_L58 k n x2.1 x2.2.1 x2.2.2.1 x2.2.2.2.1 x2.2.2.2.2.1 x2.2.2.2.2.2.1 x2.2.2.2.2.2.2.1
def q70p:List PE := [e28,e32,⟨2,32,.val ty_5 false,false⟩]
noncomputable def q70F(k:Nat):F3:=⟨q70C k,rr q70p [(ty_4,true)] Try.f33,fun p=>bif Nat.beq p 58 then some (.loop q70i1 q70o1 0 144 (q70f1 k k))else none,0,[0]⟩
theorem q70K(k:Nat):Contract Try.prog 33 (q70V k):=ctr (q70C k) (rs := [(ty_4,true)]) (ps:=q70p) (q70F k) Try.f33 48 ⟨tyOf_ok tys_ok,gOf_ok ⟨q35K k,q47K k,trivial⟩⟩ (annl [58] ⟨lok q70i1 q70o1 0 144 (q70f1 k) k,trivial⟩)

noncomputable def q71V(k:Nat):Variant:=⟨[.val ty_6 false,.val ty_6 false],[(ty_6,false),(.bool,false)],fun x=>impl_MultiplyTables k x.1 x.2.1⟩
noncomputable def q71C(k:Nat):Cfg:=⟨Try.prog,tyOf tys,78,gOf [(27,[],q22V k),(33,[],q70V k)],false,[],[]⟩
def q71i1:List PE := [e53,e54,e55,e22,e56,e57,⟨10,128,.val ty_0 false,false⟩,⟨11,144,.eat ty_4,false⟩,⟨31,160,.val ty_0 false,false⟩,⟨32,176,.val ty_0 false,false⟩,⟨36,192,.val ty_0 false,false⟩,⟨37,208,.val ty_0 false,false⟩,⟨41,224,.val ty_0 false,false⟩,⟨42,240,.val ty_0 false,false⟩]
def q71o1:List PE := [e53,e54,e55,e22,e56,e57,⟨11,128,.eat ty_4,false⟩,⟨31,144,.val ty_0 false,false⟩,⟨32,160,.val ty_0 false,false⟩,⟨36,176,.val ty_0 false,false⟩,⟨37,192,.val ty_0 false,false⟩]
noncomputable def q71f1(k:Nat)(n:Nat)(x3:PTe q71i1):=impl_MultiplyTables_L262564250 k n x3.1 x3.2.1 x3.2.2.1 x3.2.2.2.1 x3.2.2.2.2.1 x3.2.2.2.2.2.1 x3.2.2.2.2.2.2.1 x3.2.2.2.2.2.2.2.1 x3.2.2.2.2.2.2.2.2.1 x3.2.2.2.2.2.2.2.2.2.1 x3.2.2.2.2.2.2.2.2.2.2.1 x3.2.2.2.2.2.2.2.2.2.2.2.1 x3.2.2.2.2.2.2.2.2.2.2.2.2.1 x3.2.2.2.2.2.2.2.2.2.2.2.2.2.1
def q71i2:List PE := [e53,e54,e55,e22,e56,e57,⟨31,128,.val ty_0 false,false⟩,⟨32,144,.val ty_0 false,false⟩,⟨36,160,.val ty_0 false,false⟩,⟨37,176,.val ty_0 false,false⟩]
def q71o2:List PE := [e53,e54,e55,e22,⟨9,96,.eat ty_4,false⟩,⟨31,112,.val ty_0 false,false⟩,⟨32,128,.val ty_0 false,false⟩]
noncomputable def q71f2(k:Nat)(n:Nat)(x7:PTe q71i2):=impl_MultiplyTables_L256410 k n x7.1 x7.2.1 x7.2.2.1 x7.2.2.2.1 x7.2.2.2.2.1 x7.2.2.2.2.2.1 x7.2.2.2.2.2.2.1 x7.2.2.2.2.2.2.2.1 x7.2.2.2.2.2.2.2.2.1 x7.2.2.2.2.2.2.2.2.2.1
def q71i3:List PE := [e53,e54,e55,e22,⟨31,96,.val ty_0 false,false⟩,⟨32,112,.val ty_0 false,false⟩]
def q71o3:List PE := [⟨6,32,.box .bool false,false⟩,e24]
noncomputable def q71f3(k:Nat)(n:Nat)(x10:PTe q71i3):=impl_MultiplyTables_L250 k n x10.1 x10.2.1 x10.2.2.1 x10.2.2.2.1 x10.2.2.2.2.1 x10.2.2.2.2.2.1
def q71p:List PE := [e20,e35]
noncomputable def q71F(k:Nat):F9:=⟨q71C k,rr q71p [(ty_6,false),(.bool,false)] Try.f12,fun p=>bif Nat.beq p 262564250 then some (.loop q71i1 q71o1 4 256 (q71f1 k k))else bif Nat.beq p 256410 then some (.loop q71i2 q71o2 2 192 (q71f2 k k))else bif Nat.beq p 250 then some (.loop q71i3 q71o3 0 128 (q71f3 k k))else none,0,[]⟩
theorem q71K(k:Nat):Contract Try.prog 12 (q71V k):=ctr (q71C k) (rs := [(ty_6,false),(.bool,false)]) (ps:=q71p) (q71F k) Try.f12 32 ⟨tyOf_ok tys_ok,gOf_ok ⟨q22K k,q70K k,trivial⟩⟩ (annl [250,256410,262564250] ⟨lok q71i3 q71o3 0 128 (q71f3 k) k,lok q71i2 q71o2 2 192 (q71f2 k) k,lok q71i1 q71o1 4 256 (q71f1 k) k,trivial⟩)

noncomputable def q72V(k:Nat):Variant:=⟨[.val ty_6 false,.val ty_0 false],[(ty_5,false)],fun x=>spec_mxColumn k x.1 x.2.1⟩
noncomputable def q72C(k:Nat):Cfg:=⟨Try.prog,tyOf tys,23,gOf [],false,[],[]⟩
def q72i1:List PE := [e11,⟨5,48,.eat ty_4,false⟩,e42,e43,e40]
def q72o1:List PE := [e58]
noncomputable def q72f1(k:Nat)(n:Nat)(x1:PTe q72i1):=spec_mxColumn_L58 k n x1.1 x1.2.1 x1.2.2.1 x1.2.2.2.1 x1.2.2.2.2.1
def q72p:List PE := [e20,e4]
noncomputable def q72F(k:Nat):Fn (List (Int×Int)):=⟨q72C k,rr q72p [(ty_5,false)] Try.f35,fun p=>bif Nat.beq p 58 then some (.loop q72i1 q72o1 0 112 (q72f1 k k))else none,0,[]⟩
theorem q72K(k:Nat):Contract Try.prog 35 (q72V k):=ctr (q72C k) (rs := [(ty_5,false)]) (ps:=q72p) (q72F k) Try.f35 32 ⟨tyOf_ok tys_ok,gOf_ok trivial⟩ (annl [58] ⟨lok q72i1 q72o1 0 112 (q72f1 k) k,trivial⟩)

noncomputable def q73V(k:Nat):Variant:=⟨[.val ty_5 false,.val ty_5 false],[(ty_4,true),(.bool,false)],fun x=>spec_mxSum k x.1 x.2.1⟩
noncomputable def q73C(k:Nat):Cfg:=⟨Try.prog,tyOf tys,46,gOf [(40,[],q57V k),(54,[],q61V k)],false,[],[]⟩
def q73i1:List PE := [e59,e34,⟨6,64,.box ty_4 false,false⟩,⟨14,80,.val ty_5 false,false⟩,⟨15,96,.val ty_0 false,false⟩,⟨16,112,.val ty_0 false,false⟩]
def q73o1:List PE := [e30,⟨6,48,.box ty_4 false,false⟩]
noncomputable def q73f1(k:Nat)(n:Nat)(x3:PTe q73i1):=spec_mxSum_L58 k n x3.1 x3.2.1 x3.2.2.1 x3.2.2.2.1 x3.2.2.2.2.1 x3.2.2.2.2.2.1
def q73p:List PE := [e18,e32]
noncomputable def q73F(k:Nat):F3:=⟨q73C k,rr q73p [(ty_4,true),(.bool,false)] Try.f34,fun p=>bif Nat.beq p 58 then some (.loop q73i1 q73o1 0 128 (q73f1 k k))else none,0,[]⟩
theorem q73K(k:Nat):Contract Try.prog 34 (q73V k):=ctr (q73C k) (rs := [(ty_4,true),(.bool,false)]) (ps:=q73p) (q73F k) Try.f34 32 ⟨tyOf_ok tys_ok,gOf_ok ⟨q57K k,q61K k,trivial⟩⟩ (annl [58] ⟨lok q73i1 q73o1 0 128 (q73f1 k) k,trivial⟩)

noncomputable def q74V(k:Nat):Variant:=⟨[.val ty_6 false,.val ty_6 false],[(ty_6,false),(.bool,false)],fun x=>spec_MultiplyTables k x.1 x.2.1⟩
noncomputable def q74C(k:Nat):Cfg:=⟨Try.prog,tyOf tys,60,gOf [(29,[],q53V k),(35,[],q72V k),(34,[],q73V k)],false,[],[]⟩
def q74i1:List PE := [e33,e60,⟨8,64,.val ty_5 false,false⟩,⟨9,80,.eat ty_4,false⟩,⟨28,96,.val ty_6 false,false⟩,⟨29,112,.val ty_0 false,false⟩,⟨30,128,.val ty_0 false,false⟩,⟨35,144,.val ty_0 false,false⟩,⟨36,160,.val ty_0 false,false⟩]
def q74o1:List PE := [e33,e60,⟨9,64,.eat ty_4,false⟩,⟨28,80,.val ty_6 false,false⟩,⟨29,96,.val ty_0 false,false⟩,⟨30,112,.val ty_0 false,false⟩]
noncomputable def q74f1(k:Nat)(n:Nat)(x5:PTe q74i1):=spec_MultiplyTables_L125338 k n x5.1 x5.2.1 x5.2.2.1 x5.2.2.2.1 x5.2.2.2.2.1 x5.2.2.2.2.2.1 x5.2.2.2.2.2.2.1 x5.2.2.2.2.2.2.2.1 x5.2.2.2.2.2.2.2.2.1
def q74i2:List PE := [e33,e60,⟨28,64,.val ty_6 false,false⟩,⟨29,80,.val ty_0 false,false⟩,⟨30,96,.val ty_0 false,false⟩]
def q74o2:List PE := [⟨6,32,.eat ty_5,false⟩]
noncomputable def q74f2(k:Nat)(n:Nat)(x8:PTe q74i2):=spec_MultiplyTables_L122 k n x8.1 x8.2.1 x8.2.2.1 x8.2.2.2.1 x8.2.2.2.2.1
def q74p:List PE := [e20,e35]
noncomputable def q74F(k:Nat):F9:=⟨q74C k,rr q74p [(ty_6,false),(.bool,false)] Try.f13,fun p=>bif Nat.beq p 125338 then some (.loop q74i1 q74o1 2 176 (q74f1 k k))else bif Nat.beq p 122 then some (.loop q74i2 q74o2 0 112 (q74f2 k k))else none,0,[]⟩
theorem q74K(k:Nat):Contract Try.prog 13 (q74V k):=ctr (q74C k) (rs := [(ty_6,false),(.bool,false)]) (ps:=q74p) (q74F k) Try.f13 32 ⟨tyOf_ok tys_ok,gOf_ok ⟨q53K k,q72K k,q73K k,trivial⟩⟩ (annl [122,125338] ⟨lok q74i2 q74o2 0 112 (q74f2 k) k,lok q74i1 q74o1 2 176 (q74f1 k) k,trivial⟩)

noncomputable def q75V:Variant:=⟨[.ptr ty_3 true],[(ty_0,false)],fun x=>spec_l1Cur_sides KSl.xs x.1⟩
noncomputable def q75C:Cfg:=⟨Try.prog,tyOf tys,6,gOf [(56,[],q4V)],false,[],[]⟩
def q75p:List PE := [e2]
noncomputable def q75F:F2:=⟨q75C,rr q75p [(ty_0,false)] Try.f36,fun p=>none,0,[0]⟩
theorem q75K:Contract Try.prog 36 (q75V):=ctr q75C (rs := [(ty_0,false)]) (ps:=q75p) q75F Try.f36 16 ⟨tyOf_ok tys_ok,gOf_ok ⟨q4K,trivial⟩⟩ (annl [] trivial)

noncomputable def q76V(k:Nat):Variant:=⟨[.val (.sl (.int .u8)) false],[(ty_6,false),(ty_6,false)],fun x=>spec_DrawMultiplyTables k x.1⟩
noncomputable def spec_DrawMultiplyTables_V0(k:Nat):Variant:=⟨[.val .ks false],[(ty_6,false),(ty_6,false)],fun _=>spec_DrawMultiplyTables k KSl.xs⟩
noncomputable def q76C(k:Nat):Cfg:=⟨Try.prog,tyOf tys,26,gOf [(36,[],q75V),(37,[],q13V k),(38,[],q5V)],false,[],[]⟩
def q76p:List PE := [e14]
noncomputable def q76F(k:Nat):Fn ((List (List (Int×Int)))×List (List (Int×Int))):=⟨q76C k,rr q76p [(ty_6,false),(ty_6,false)] Try.f14,fun p=>none,0,[]⟩
theorem spec_DrawMultiplyTables_K0(k:Nat):Contract Try.prog 14 (spec_DrawMultiplyTables_V0 k):=ctr (q76C k) (rs := [(ty_6,false),(ty_6,false)]) (ps:=q76p) (q76F k) Try.f14 16 ⟨tyOf_ok tys_ok,gOf_ok ⟨q75K,q13K k,q5K,trivial⟩⟩ (annl [] trivial)
theorem q76K(k:Nat):Contract Try.prog 14 (q76V k):=contractDraw (by kernel_rfl) (fun kk => @spec_DrawMultiplyTables_K0 kk k)

noncomputable def q77V:Variant:=⟨[.val ty_4 true,.val ty_4 true],[(.bool,false)],fun x=>spec_dyTwo x.1 x.2.1⟩
noncomputable def q77C:Cfg:=⟨Try.prog,tyOf tys,11,gOf [(61,[],q7V)],false,[],[]⟩
def q77p:List PE := [e7,e27]
noncomputable def q77F:F1:=⟨q77C,rr q77p [(.bool,false)] Try.f39,fun p=>none,0,[]⟩
theorem q77K:Contract Try.prog 39 (q77V):=ctr q77C (rs := [(.bool,false)]) (ps:=q77p) q77F Try.f39 32 ⟨tyOf_ok tys_ok,gOf_ok ⟨q7K,trivial⟩⟩ (annl [] trivial)

noncomputable def q78V(k:Nat):Variant:=⟨[.val ty_4 true,.val ty_4 true],[(ty_4,true),(.bool,false)],fun x=>spec_MultiplyDyadic k x.1 x.2.1⟩
noncomputable def q78C(k:Nat):Cfg:=⟨Try.prog,tyOf tys,16,gOf [(39,[],q77V),(40,[],q57V k)],false,[],[]⟩
def q78p:List PE := [e7,e27]
noncomputable def q78F(k:Nat):F3:=⟨q78C k,rr q78p [(ty_4,true),(.bool,false)] Try.f15,fun p=>none,0,[]⟩
theorem q78K(k:Nat):Contract Try.prog 15 (q78V k):=ctr (q78C k) (rs := [(ty_4,true),(.bool,false)]) (ps:=q78p) (q78F k) Try.f15 32 ⟨tyOf_ok tys_ok,gOf_ok ⟨q77K,q57K k,trivial⟩⟩ (annl [] trivial)

noncomputable def q79V(k:Nat):Variant:=⟨[.val ty_0 false],[(ty_6,false),(.bool,false)],fun x=>impl_UnitTable k x.1⟩
noncomputable def q79C(k:Nat):Cfg:=⟨Try.prog,tyOf tys,26,gOf [(41,[],q16V),(42,[],q23V)],false,[],[]⟩
def q79i1:List PE := [⟨0,16,.val ty_0 false,false⟩,e47,⟨10,48,.val ty_0 false,false⟩,⟨11,64,.val ty_0 false,false⟩]
def q79o1:List PE := [e52]
noncomputable def q79f1(k:Nat)(n:Nat)(x3:PTe q79i1):=impl_UnitTable_L122 k n x3.1 x3.2.1 x3.2.2.1 x3.2.2.2.1
def q79p:List PE := [e5]
noncomputable def q79F(k:Nat):F9:=⟨q79C k,rr q79p [(ty_6,false),(.bool,false)] Try.f16,fun p=>bif Nat.beq p 122 then some (.loop q79i1 q79o1 0 80 (q79f1 k k))else none,0,[]⟩
theorem q79K(k:Nat):Contract Try.prog 16 (q79V k):=ctr (q79C k) (rs := [(ty_6,false),(.bool,false)]) (ps:=q79p) (q79F k) Try.f16 16 ⟨tyOf_ok tys_ok,gOf_ok ⟨q16K,q23K,trivial⟩⟩ (annl [122] ⟨lok q79i1 q79o1 0 80 (q79f1 k) k,trivial⟩)

noncomputable def q80V(k:Nat):Variant:=⟨[.val (.sl (.int .u8)) false],[(ty_6,false),(ty_5,false)],fun x=>spec_DrawTimesPoint k x.1⟩
noncomputable def spec_DrawTimesPoint_V0(k:Nat):Variant:=⟨[.val .ks false],[(ty_6,false),(ty_5,false)],fun _=>spec_DrawTimesPoint k KSl.xs⟩
noncomputable def q80C(k:Nat):Cfg:=⟨Try.prog,tyOf tys,31,gOf [(36,[],q75V),(37,[],q13V k),(43,[],q3V),(44,[],q12V k)],false,[],[]⟩
def q80i1:List PE := [⟨4,16,.box ty_3 false,false⟩,⟨5,32,.val ty_0 false,false⟩,e60,e38]
def q80o1:List PE := [⟨6,16,.eat ty_5,false⟩,⟨7,32,.eat ty_4,false⟩]
noncomputable def q80f1(k:Nat)(n:Nat)(x5:PTe q80i1):=spec_DrawTimesPoint_L252 k KSl.xs n x5.1 x5.2.1 x5.2.2.1 x5.2.2.2.1
def q80p:List PE := [e14]
noncomputable def q80F(k:Nat):Fn ((List (List (Int×Int)))×List (Int×Int)):=⟨q80C k,rr q80p [(ty_6,false),(ty_5,false)] Try.f17,fun p=>bif Nat.beq p 252 then some (.loop q80i1 q80o1 0 80 (q80f1 k k))else none,0,[]⟩
theorem spec_DrawTimesPoint_K0(k:Nat):Contract Try.prog 17 (spec_DrawTimesPoint_V0 k):=ctr (q80C k) (rs := [(ty_6,false),(ty_5,false)]) (ps:=q80p) (q80F k) Try.f17 16 ⟨tyOf_ok tys_ok,gOf_ok ⟨q75K,q13K k,q3K,q12K k,trivial⟩⟩ (annl [252] ⟨lok q80i1 q80o1 0 80 (q80f1 k) k,trivial⟩)
theorem q80K(k:Nat):Contract Try.prog 17 (q80V k):=contractDraw (by kernel_rfl) (fun kk => @spec_DrawTimesPoint_K0 kk k)

noncomputable def q81V:Variant:=⟨[.val ty_4 true],[(.bool,false)],fun x=>impl_TimesPoint_1 x.1⟩
noncomputable def q81C:Cfg:=⟨Try.prog,tyOf tys,6,gOf [(47,[],q18V)],false,[],[]⟩
def q81p:List PE := [e7]
noncomputable def q81F:F1:=⟨q81C,rr q81p [(.bool,false)] Try.f46,fun p=>none,0,[]⟩
theorem q81K:Contract Try.prog 46 (q81V):=ctr q81C (rs := [(.bool,false)]) (ps:=q81p) q81F Try.f46 16 ⟨tyOf_ok tys_ok,gOf_ok ⟨q18K,trivial⟩⟩ (annl [] trivial)

noncomputable def q82V(k:Nat):Variant:=⟨[.val ty_5 false,.fn 46 []],[(ty_0,false)],fun x=>slices_IndexFunc_Dyadic_Dyadic_impl_TimesPoint_1 k x.1 x.2.1⟩
noncomputable def q82C(k:Nat):Cfg:=⟨Try.prog,tyOf tys,19,gOf [(46,[],q81V)],false,[],[]⟩
def q82i1:List PE := [e15,⟨1,48,.fn 46 [],false⟩,e16,e17]
def q82o1:List PE := []
noncomputable def q82f1(k:Nat)(n:Nat)(x2:PTe q82i1):=slices_IndexFunc_Dyadic_Dyadic_impl_TimesPoint_1_L26 k n x2.1 x2.2.1 x2.2.2.1 x2.2.2.2.1
def q82p:List PE := [e18,⟨1,16,.fn 46 [],false⟩]
noncomputable def q82F(k:Nat):F7:=⟨q82C k,rr q82p [(ty_0,false)] Try.f70,fun p=>bif Nat.beq p 26 then some (.loop q82i1 q82o1 0 96 (q82f1 k k))else none,0,[]⟩
theorem q82K(k:Nat):Contract Try.prog 70 (q82V k):=ctr (q82C k) (rs := [(ty_0,false)]) (ps:=q82p) (q82F k) Try.f70 32 ⟨tyOf_ok tys_ok,gOf_ok ⟨q81K,trivial⟩⟩ (annl [26] ⟨lok q82i1 q82o1 0 96 (q82f1 k) k,trivial⟩)

noncomputable def q83V(k:Nat):Variant:=⟨[.val ty_5 false,.fn 46 []],[(.bool,false)],fun x=>slices_ContainsFunc_Dyadic_Dyadic_impl_TimesPoint_1 k x.1 x.2.1⟩
noncomputable def q83C(k:Nat):Cfg:=⟨Try.prog,tyOf tys,9,gOf [(70,[46],q82V k)],false,[],[]⟩
def q83p:List PE := [e18,⟨1,16,.fn 46 [],false⟩]
noncomputable def q83F(k:Nat):F1:=⟨q83C k,rr q83p [(.bool,false)] Try.f45,fun p=>none,0,[]⟩
theorem q83K(k:Nat):Contract Try.prog 45 (q83V k):=ctr (q83C k) (rs := [(.bool,false)]) (ps:=q83p) (q83F k) Try.f45 32 ⟨tyOf_ok tys_ok,gOf_ok ⟨q82K k,trivial⟩⟩ (annl [] trivial)

noncomputable def q84V(k:Nat):Variant:=⟨[.val ty_6 false,.val ty_5 false],[(ty_5,false),(.bool,false)],fun x=>impl_timesPoint k x.1 x.2.1⟩
noncomputable def q84C(k:Nat):Cfg:=⟨Try.prog,tyOf tys,32,gOf [(33,[],q70V k)],false,[],[]⟩
def q84i1:List PE := [e59,⟨6,48,.box .bool false,false⟩,e38,⟨12,80,.val ty_6 false,false⟩,⟨13,96,.val ty_0 false,false⟩,⟨14,112,.val ty_0 false,false⟩]
def q84o1:List PE := [⟨6,32,.box .bool false,false⟩,⟨7,48,.eat ty_4,false⟩]
noncomputable def q84f1(k:Nat)(n:Nat)(x2:PTe q84i1):=impl_timesPoint_L122 k n x2.1 x2.2.1 x2.2.2.1 x2.2.2.2.1 x2.2.2.2.2.1 x2.2.2.2.2.2.1
def q84p:List PE := [e20,e32]
noncomputable def q84F(k:Nat):F10:=⟨q84C k,rr q84p [(ty_5,false),(.bool,false)] Try.f48,fun p=>bif Nat.beq p 122 then some (.loop q84i1 q84o1 0 128 (q84f1 k k))else none,0,[]⟩
theorem q84K(k:Nat):Contract Try.prog 48 (q84V k):=ctr (q84C k) (rs := [(ty_5,false),(.bool,false)]) (ps:=q84p) (q84F k) Try.f48 32 ⟨tyOf_ok tys_ok,gOf_ok ⟨q70K k,trivial⟩⟩ (annl [122] ⟨lok q84i1 q84o1 0 128 (q84f1 k) k,trivial⟩)

noncomputable def q85V(k:Nat):Variant:=⟨[.val ty_6 false,.val ty_5 false],[(ty_5,false),(.bool,false)],fun x=>impl_TimesPoint k x.1 x.2.1⟩
noncomputable def q85C(k:Nat):Cfg:=⟨Try.prog,tyOf tys,25,gOf [(27,[],q22V k),(45,[46],q83V k),(48,[],q84V k)],false,[],[]⟩
def q85p:List PE := [e20,e32]
noncomputable def q85F(k:Nat):F10:=⟨q85C k,rr q85p [(ty_5,false),(.bool,false)] Try.f18,fun p=>none,0,[]⟩
theorem q85K(k:Nat):Contract Try.prog 18 (q85V k):=ctr (q85C k) (rs := [(ty_5,false),(.bool,false)]) (ps:=q85p) (q85F k) Try.f18 32 ⟨tyOf_ok tys_ok,gOf_ok ⟨q22K k,q83K k,q84K k,trivial⟩⟩ (annl [] trivial)

noncomputable def q86V(k:Nat):Variant:=⟨[.val ty_5 false,.val ty_0 false],[(.bool,false)],fun x=>spec_bxPoint k x.1 x.2.1⟩
noncomputable def q86C(k:Nat):Cfg:=⟨Try.prog,tyOf tys,21,gOf [(61,[],q7V)],false,[],[]⟩
def q86i1:List PE := [e15,e9,⟨7,64,.val ty_5 false,false⟩,e17,⟨9,96,.val ty_0 false,false⟩]
def q86o1:List PE := [e15,e9]
noncomputable def q86f1(k:Nat)(n:Nat)(x2:PTe q86i1):=spec_bxPoint_L26 k n x2.1 x2.2.1 x2.2.2.1 x2.2.2.2.1 x2.2.2.2.2.1
def q86p:List PE := [e18,e4]
noncomputable def q86F(k:Nat):F1:=⟨q86C k,rr q86p [(.bool,false)] Try.f49,fun p=>bif Nat.beq p 26 then some (.loop q86i1 q86o1 0 112 (q86f1 k k))else none,0,[]⟩
theorem q86K(k:Nat):Contract Try.prog 49 (q86V k):=ctr (q86C k) (rs := [(.bool,false)]) (ps:=q86p) (q86F k) Try.f49 32 ⟨tyOf_ok tys_ok,gOf_ok ⟨q7K,trivial⟩⟩ (annl [26] ⟨lok q86i1 q86o1 0 112 (q86f1 k) k,trivial⟩)

noncomputable def q87V(k:Nat):Variant:=⟨[.val ty_6 false,.val ty_5 false],[(ty_5,false),(.bool,false)],fun x=>spec_mxTimes k x.1 x.2.1⟩
noncomputable def q87C(k:Nat):Cfg:=⟨Try.prog,tyOf tys,31,gOf [(34,[],q73V k)],false,[],[]⟩
def q87i1:List PE := [e59,⟨6,48,.eat ty_4,false⟩,⟨11,64,.val ty_6 false,false⟩,⟨12,80,.val ty_0 false,false⟩,⟨13,96,.val ty_0 false,false⟩]
def q87o1:List PE := [⟨6,32,.eat ty_4,false⟩]
noncomputable def q87f1(k:Nat)(n:Nat)(x2:PTe q87i1):=spec_mxTimes_L58 k n x2.1 x2.2.1 x2.2.2.1 x2.2.2.2.1 x2.2.2.2.2.1
def q87p:List PE := [e20,e32]
noncomputable def q87F(k:Nat):F10:=⟨q87C k,rr q87p [(ty_5,false),(.bool,false)] Try.f50,fun p=>bif Nat.beq p 58 then some (.loop q87i1 q87o1 0 112 (q87f1 k k))else none,0,[]⟩
theorem q87K(k:Nat):Contract Try.prog 50 (q87V k):=ctr (q87C k) (rs := [(ty_5,false),(.bool,false)]) (ps:=q87p) (q87F k) Try.f50 32 ⟨tyOf_ok tys_ok,gOf_ok ⟨q73K k,trivial⟩⟩ (annl [58] ⟨lok q87i1 q87o1 0 112 (q87f1 k) k,trivial⟩)

noncomputable def q88V(k:Nat):Variant:=⟨[.val ty_6 false,.val ty_5 false],[(ty_5,false),(.bool,false)],fun x=>spec_TimesPoint k x.1 x.2.1⟩
noncomputable def q88C(k:Nat):Cfg:=⟨Try.prog,tyOf tys,21,gOf [(29,[],q53V k),(49,[],q86V k),(50,[],q87V k)],false,[],[]⟩
def q88p:List PE := [e20,e32]
noncomputable def q88F(k:Nat):F10:=⟨q88C k,rr q88p [(ty_5,false),(.bool,false)] Try.f19,fun p=>none,0,[]⟩
theorem q88K(k:Nat):Contract Try.prog 19 (q88V k):=ctr (q88C k) (rs := [(ty_5,false),(.bool,false)]) (ps:=q88p) (q88F k) Try.f19 32 ⟨tyOf_ok tys_ok,gOf_ok ⟨q53K k,q86K k,q87K k,trivial⟩⟩ (annl [] trivial)

noncomputable def q89V(k:Nat):Variant:=⟨[.val ty_11 false],[(ty_6,false)],fun x=>spec_DrawRowSums k x.1⟩
noncomputable def q89C(k:Nat):Cfg:=⟨Try.prog,tyOf tys,5,gOf [(26,[],q14V k)],false,[],[]⟩
def q89p:List PE := [e1]
noncomputable def q89F(k:Nat):F6:=⟨q89C k,rr q89p [(ty_6,false)] Try.f20,fun p=>none,0,[]⟩
theorem q89K(k:Nat):Contract Try.prog 20 (q89V k):=ctr (q89C k) (rs := [(ty_6,false)]) (ps:=q89p) (q89F k) Try.f20 16 ⟨tyOf_ok tys_ok,gOf_ok ⟨q14K k,trivial⟩⟩ (annl [] trivial)

noncomputable def q90V(k:Nat):Variant:=⟨[.val ty_8 true,.val ty_8 true],[(ty_0,false)],fun x=>impl_compareWide k x.1 x.2.1⟩
noncomputable def q90C(k:Nat):Cfg:=⟨Try.prog,tyOf tys,29,gOf [(89,[],q30V),(90,[],q42V k)],false,[],[]⟩
def q90p:List PE := [e26,e29]
noncomputable def q90F(k:Nat):F7:=⟨q90C k,rr q90p [(ty_0,false)] Try.f81,fun p=>bif Nat.beq p 6 then some (.cut [⟨2,32,.box ty_8 false,false⟩,⟨3,48,.box ty_8 false,false⟩] 64)else none,0,[]⟩
theorem q90K(k:Nat):Contract Try.prog 81 (q90V k):=ctr (q90C k) (rs := [(ty_0,false)]) (ps:=q90p) (q90F k) Try.f81 32 ⟨tyOf_ok tys_ok,gOf_ok ⟨q30K,q42K k,trivial⟩⟩ (annl [] trivial)

noncomputable def q91V(k:Nat):Variant:=⟨[.val ty_4 true,.val ty_4 true],[(ty_0,false)],fun x=>impl_compareD k x.1 x.2.1⟩
noncomputable def q91C(k:Nat):Cfg:=⟨Try.prog,tyOf tys,28,gOf [(82,[],q37V),(83,[],q31V),(81,[],q90V k)],false,[],[]⟩
def q91p:List PE := [e7,e27]
noncomputable def q91F(k:Nat):F7:=⟨q91C k,rr q91p [(ty_0,false)] Try.f72,fun p=>none,0,[]⟩
theorem q91K(k:Nat):Contract Try.prog 72 (q91V k):=ctr (q91C k) (rs := [(ty_0,false)]) (ps:=q91p) (q91F k) Try.f72 32 ⟨tyOf_ok tys_ok,gOf_ok ⟨q37K,q31K,q90K k,trivial⟩⟩ (annl [] trivial)

noncomputable def q92V(k:Nat):Variant:=⟨[.val ty_4 true,.val ty_4 true],[(ty_4,true)],fun x=>impl_greater k x.1 x.2.1⟩
noncomputable def q92C(k:Nat):Cfg:=⟨Try.prog,tyOf tys,11,gOf [(72,[],q91V k)],false,[],[]⟩
def q92p:List PE := [e7,e27]
noncomputable def q92F(k:Nat):F4:=⟨q92C k,rr q92p [(ty_4,true)] Try.f51,fun p=>none,0,[]⟩
theorem q92K(k:Nat):Contract Try.prog 51 (q92V k):=ctr (q92C k) (rs := [(ty_4,true)]) (ps:=q92p) (q92F k) Try.f51 32 ⟨tyOf_ok tys_ok,gOf_ok ⟨q91K k,trivial⟩⟩ (annl [] trivial)

noncomputable def q93V(k:Nat):Variant:=⟨[.val ty_6 false],[(ty_5,false),(.bool,false)],fun x=>impl_RowSums k x.1⟩
noncomputable def q93C(k:Nat):Cfg:=⟨Try.prog,tyOf tys,49,gOf [(27,[],q22V k),(52,[],q36V),(51,[],q92V k),(53,[],q47V k)],false,[],[]⟩
def q93i1:List PE := [e39,e58,⟨8,48,.eat ty_4,false⟩,⟨16,64,.val ty_6 false,false⟩,e49,e50,⟨22,112,.val ty_5 false,false⟩,⟨23,128,.val ty_0 false,false⟩,⟨24,144,.val ty_0 false,false⟩]
def q93o1:List PE := [e39,e58,⟨8,48,.eat ty_4,false⟩,⟨16,64,.val ty_6 false,false⟩,e49,e50]
noncomputable def q93f1(k:Nat)(n:Nat)(x4:PTe q93i1):=impl_RowSums_L256410 k n x4.1 x4.2.1 x4.2.2.1 x4.2.2.2.1 x4.2.2.2.2.1 x4.2.2.2.2.2.1 x4.2.2.2.2.2.2.1 x4.2.2.2.2.2.2.2.1 x4.2.2.2.2.2.2.2.2.1
def q93i2:List PE := [e39,e58,⟨16,48,.val ty_6 false,false⟩,e51,⟨18,80,.val ty_0 false,false⟩]
def q93o2:List PE := [e39,e58]
noncomputable def q93f2(k:Nat)(n:Nat)(x8:PTe q93i2):=impl_RowSums_L250 k n x8.1 x8.2.1 x8.2.2.1 x8.2.2.2.1 x8.2.2.2.2.1
def q93p:List PE := [e20]
noncomputable def q93F(k:Nat):F10:=⟨q93C k,rr q93p [(ty_5,false),(.bool,false)] Try.f21,fun p=>bif Nat.beq p 256410 then some (.loop q93i1 q93o1 2 160 (q93f1 k k))else bif Nat.beq p 250 then some (.loop q93i2 q93o2 0 96 (q93f2 k k))else none,0,[]⟩
theorem q93K(k:Nat):Contract Try.prog 21 (q93V k):=ctr (q93C k) (rs := [(ty_5,false),(.bool,false)]) (ps:=q93p) (q93F k) Try.f21 16 ⟨tyOf_ok tys_ok,gOf_ok ⟨q22K k,q36K,q92K k,q47K k,trivial⟩⟩ (annl [250,256410] ⟨lok q93i2 q93o2 0 96 (q93f2 k) k,lok q93i1 q93o1 2 160 (q93f1 k) k,trivial⟩)

noncomputable def q94V:Variant:=⟨[.val ty_4 true],[(ty_4,true)],fun x=>spec_mxAbs x.1⟩
noncomputable def q94C:Cfg:=⟨Try.prog,tyOf tys,9,gOf [(66,[],q56V)],false,[],[]⟩
def q94p:List PE := [e7]
noncomputable def q94F:F4:=⟨q94C,rr q94p [(ty_4,true)] Try.f55,fun p=>none,0,[]⟩
theorem q94K:Contract Try.prog 55 (q94V):=ctr q94C (rs := [(ty_4,true)]) (ps:=q94p) q94F Try.f55 16 ⟨tyOf_ok tys_ok,gOf_ok ⟨q56K,trivial⟩⟩ (annl [] trivial)

noncomputable def q95V(k:Nat):Variant:=⟨[.val ty_6 false],[(ty_5,false),(.bool,false)],fun x=>spec_RowSums k x.1⟩
noncomputable def q95C(k:Nat):Cfg:=⟨Try.prog,tyOf tys,45,gOf [(29,[],q53V k),(55,[],q94V),(54,[],q61V k)],false,[],[]⟩
def q95i1:List PE := [e61,⟨7,32,.box ty_4 false,false⟩,⟨15,48,.val ty_6 false,false⟩,⟨16,64,.val ty_0 false,false⟩,e49,⟨22,96,.val ty_5 false,false⟩,⟨23,112,.val ty_0 false,false⟩,⟨24,128,.val ty_0 false,false⟩]
def q95o1:List PE := [e61,⟨7,32,.box ty_4 false,false⟩,⟨15,48,.val ty_6 false,false⟩,⟨16,64,.val ty_0 false,false⟩,e49]
noncomputable def q95f1(k:Nat)(n:Nat)(x4:PTe q95i1):=spec_RowSums_L125338 k n x4.1 x4.2.1 x4.2.2.1 x4.2.2.2.1 x4.2.2.2.2.1 x4.2.2.2.2.2.1 x4.2.2.2.2.2.2.1 x4.2.2.2.2.2.2.2.1
def q95i2:List PE := [e61,⟨15,32,.val ty_6 false,false⟩,⟨16,48,.val ty_0 false,false⟩,e51]
def q95o2:List PE := [e61]
noncomputable def q95f2(k:Nat)(n:Nat)(x7:PTe q95i2):=spec_RowSums_L122 k n x7.1 x7.2.1 x7.2.2.1 x7.2.2.2.1
def q95p:List PE := [e20]
noncomputable def q95F(k:Nat):F10:=⟨q95C k,rr q95p [(ty_5,false),(.bool,false)] Try.f22,fun p=>bif Nat.beq p 125338 then some (.loop q95i1 q95o1 2 144 (q95f1 k k))else bif Nat.beq p 122 then some (.loop q95i2 q95o2 0 80 (q95f2 k k))else none,0,[]⟩
theorem q95K(k:Nat):Contract Try.prog 22 (q95V k):=ctr (q95C k) (rs := [(ty_5,false),(.bool,false)]) (ps:=q95p) (q95F k) Try.f22 16 ⟨tyOf_ok tys_ok,gOf_ok ⟨q53K k,q94K,q61K k,trivial⟩⟩ (annl [122,125338] ⟨lok q95i2 q95o2 0 80 (q95f2 k) k,lok q95i1 q95o1 2 144 (q95f1 k) k,trivial⟩)

noncomputable def q96V:Variant:=⟨[.val (.sl (.int .u8)) false],[(ty_0,false)],fun x=>spec_DrawUnitTable x.1⟩
noncomputable def spec_DrawUnitTable_V0:Variant:=⟨[.val .ks false],[(ty_0,false)],fun _=>spec_DrawUnitTable KSl.xs⟩
noncomputable def q96C:Cfg:=⟨Try.prog,tyOf tys,13,gOf [(56,[],q4V)],false,[],[]⟩
def q96p:List PE := [e14]
noncomputable def q96F:F7:=⟨q96C,rr q96p [(ty_0,false)] Try.f23,fun p=>none,0,[]⟩
theorem spec_DrawUnitTable_K0:Contract Try.prog 23 (spec_DrawUnitTable_V0):=ctr q96C (rs := [(ty_0,false)]) (ps:=q96p) q96F Try.f23 16 ⟨tyOf_ok tys_ok,gOf_ok ⟨q4K,trivial⟩⟩ (annl [] trivial)
theorem q96K:Contract Try.prog 23 (q96V):=contractDraw (by kernel_rfl) (fun kk => @spec_DrawUnitTable_K0 kk)

noncomputable def q97V(k:Nat):Variant:=⟨[.val ty_0 false],[(ty_6,false),(.bool,false)],fun x=>spec_UnitTable k x.1⟩
noncomputable def q97C(k:Nat):Cfg:=⟨Try.prog,tyOf tys,26,gOf [(57,[],q6V),(58,[],q9V)],false,[],[]⟩
def q97i1:List PE := [⟨0,16,.val ty_0 false,false⟩,e47,e48]
def q97o1:List PE := [e52]
noncomputable def q97f1(k:Nat)(n:Nat)(x3:PTe q97i1):=spec_UnitTable_L122 k n x3.1 x3.2.1 x3.2.2.1
def q97p:List PE := [e5]
noncomputable def q97F(k:Nat):F9:=⟨q97C k,rr q97p [(ty_6,false),(.bool,false)] Try.f24,fun p=>bif Nat.beq p 122 then some (.loop q97i1 q97o1 0 64 (q97f1 k k))else none,0,[]⟩
theorem q97K(k:Nat):Contract Try.prog 24 (q97V k):=ctr (q97C k) (rs := [(ty_6,false),(.bool,false)]) (ps:=q97p) (q97F k) Try.f24 16 ⟨tyOf_ok tys_ok,gOf_ok ⟨q6K,q9K,trivial⟩⟩ (annl [122] ⟨lok q97i1 q97o1 0 64 (q97f1 k) k,trivial⟩)

noncomputable def laws_FnTables_V(k:Nat):Variant:=⟨[.val ty_11 false,.val ty_11 false],[(.bool,false)],fun x=>laws_FnTables k x.1 x.2.1⟩
noncomputable def laws_FnTables_C(k:Nat):Cfg:=⟨Try.prog,tyOf tys,340,gOf [(4,[],q1V),(5,[],q15V k),(6,[],q50V k),(7,[],q64V k),(8,[],q65V k),(9,[],q66V k),(10,[],q68V k),(11,[],q69V k),(12,[],q71V k),(13,[],q74V k),(14,[],q76V k),(15,[],q78V k),(16,[],q79V k),(17,[],q80V k),(18,[],q85V k),(19,[],q88V k),(20,[],q89V k),(21,[],q93V k),(22,[],q95V k),(23,[],q96V),(24,[],q97V k),(25,[],q67V k)],false,[],[]⟩
def laws_FnTables_i134052454:List PE := [e62,e63,⟨18,64,.val ty_0 false,false⟩,⟨145,80,.val ty_6 false,false⟩,⟨146,96,.val ty_0 false,false⟩,⟨147,112,.val ty_0 false,false⟩,⟨152,128,.val ty_5 false,false⟩,⟨153,144,.val ty_0 false,false⟩,⟨154,160,.val ty_0 false,false⟩]
def laws_FnTables_o134052454:List PE := [e62,e63,⟨145,64,.val ty_6 false,false⟩,⟨146,80,.val ty_0 false,false⟩,⟨147,96,.val ty_0 false,false⟩]
noncomputable def laws_FnTables_f134052454(k:Nat)(n:Nat)(x15:PTe laws_FnTables_i134052454):=laws_FnTables_L134052454 k n x15.1 x15.2.1 x15.2.2.1 x15.2.2.2.1 x15.2.2.2.2.1 x15.2.2.2.2.2.1 x15.2.2.2.2.2.2.1 x15.2.2.2.2.2.2.2.1 x15.2.2.2.2.2.2.2.2.1
def laws_FnTables_i523642:List PE := [e62,e63,⟨145,64,.val ty_6 false,false⟩,⟨146,80,.val ty_0 false,false⟩,⟨147,96,.val ty_0 false,false⟩]
def laws_FnTables_o523642:List PE := [e62]
noncomputable def laws_FnTables_f523642(k:Nat)(n:Nat)(x18:PTe laws_FnTables_i523642):=laws_FnTables_L523642 k n x18.1 x18.2.1 x18.2.2.1 x18.2.2.2.1 x18.2.2.2.2.1
def laws_FnTables_ps:List PE := [e1,⟨1,16,.val ty_11 false,false⟩]
noncomputable def laws_FnTables_F(k:Nat):F1:=⟨laws_FnTables_C k,rr laws_FnTables_ps [(.bool,false)] Try.f3,fun p=>bif Nat.beq p 134052454 then some (.loop laws_FnTables_i134052454 laws_FnTables_o134052454 2 176 (laws_FnTables_f134052454 k k))else bif Nat.beq p 523642 then some (.loop laws_FnTables_i523642 laws_FnTables_o523642 0 112 (laws_FnTables_f523642 k k))else bif Nat.beq p 8388286 then some (.cut [e62,⟨23,48,.eat ty_5,false⟩] 64)else bif Nat.beq p 32766 then some (.cut [e62] 48)else bif Nat.beq p 1022 then some (.cut [e62] 48)else bif Nat.beq p 510 then some (.cut [e62,e12,⟨6,64,.eat ty_5,false⟩,⟨7,80,.val .bool false,false⟩,⟨8,96,.eat ty_5,false⟩,⟨11,112,.val .bool false,false⟩,⟨12,128,.box ty_4 false,false⟩] 144)else none,0,[]⟩
theorem laws_FnTables_K(k:Nat):Contract Try.prog 3 (laws_FnTables_V k):=ctr (laws_FnTables_C k) (rs := [(.bool,false)]) (ps:=laws_FnTables_ps) (laws_FnTables_F k) Try.f3 32 ⟨tyOf_ok tys_ok,gOf_ok ⟨q1K,q15K k,q50K k,q64K k,q65K k,q66K k,q68K k,q69K k,q71K k,q74K k,q76K k,q78K k,q79K k,q80K k,q85K k,q88K k,q89K k,q93K k,q95K k,q96K,q97K k,q67K k,trivial⟩⟩ (annl [523642,134052454] ⟨lok laws_FnTables_i523642 laws_FnTables_o523642 0 112 (laws_FnTables_f523642 k) k,lok laws_FnTables_i134052454 laws_FnTables_o134052454 2 176 (laws_FnTables_f134052454 k) k,trivial⟩)
end Go.Ev.G
