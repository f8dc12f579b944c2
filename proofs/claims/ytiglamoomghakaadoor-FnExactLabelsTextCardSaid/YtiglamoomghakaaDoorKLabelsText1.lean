/- The contracts of the functions behind FnExactLabelsText: a call of each returns what its plain function computes; for all inputs within the sizes named. -/
import Derived.Test.YtiglamoomghakaaDoorPLabelsText1
import Derived.Test.YtiglamoomghakaaDoorProg
set_option linter.unusedVariables false
namespace Go.Ev.G
open Go Go.Ev Go.Proofs
set_option maxRecDepth 100000
abbrev ty_0:Ty:=(.int .i64)

abbrev ty_1:Ty:=(.sl ty_0)

abbrev ty_2:Ty:=(.int .u8)

abbrev ty_3:Ty:=(.pair ty_2 ty_2)

abbrev ty_4:Ty:=(.pair ty_2 ty_3)

abbrev ty_5:Ty:=(.pair ty_2 ty_4)

abbrev ty_6:Ty:=(.pair ty_2 ty_5)

abbrev ty_7:Ty:=(.pair ty_2 ty_6)

abbrev ty_8:Ty:=(.pair ty_2 ty_7)

abbrev ty_9:Ty:=(.pair ty_2 ty_8)

abbrev ty_10:Ty:=(.pair ty_2 ty_9)

abbrev ty_11:Ty:=(.pair ty_2 ty_10)

abbrev ty_12:Ty:=(.pair ty_2 ty_11)

abbrev ty_13:Ty:=(.pair ty_2 ty_12)

abbrev ty_14:Ty:=(.pair ty_2 ty_13)

abbrev ty_15:Ty:=(.pair ty_2 ty_14)

abbrev ty_16:Ty:=(.pair ty_2 ty_15)

abbrev ty_17:Ty:=(.pair ty_2 ty_16)

abbrev ty_18:Ty:=(.pair ty_2 ty_17)

abbrev ty_19:Ty:=(.pair ty_2 ty_18)

abbrev ty_20:Ty:=(.pair ty_2 ty_19)

abbrev ty_21:Ty:=(.pair ty_2 ty_20)

abbrev ty_22:Ty:=(.pair ty_2 ty_21)

abbrev ty_23:Ty:=(.pair ty_2 ty_22)

abbrev ty_24:Ty:=(.pair ty_2 ty_23)

abbrev ty_25:Ty:=(.pair ty_2 ty_24)

abbrev ty_26:Ty:=(.int .u64)

abbrev ty_27:Ty:=(.rm ty_0)

def tys:List (TypeId×Ty) := [(5,ty_2)]

theorem tys_ok:AllT Tryd.prog tys:=⟨⟨_,_,rfl,rfl,rfl,rfl⟩,trivial⟩

def tysR:List (TypeId×Ty) := [(3,ty_0)]

theorem tysR_ok:AllT Tryd.prog tysR:=⟨⟨_,_,rfl,rfl,rfl,rfl⟩,trivial⟩

theorem mix_ok:Tryd.prog.follows .mixedOrders=true:=by kernel_rfl

theorem ctr{g:FuncId}(C:Cfg){rs:List (Ty×Bool)}{ps:List PE}(F:Fn (CT (rs.map (·.1)++outs (ps.map (·.b)))))(fn:Func)(nx:Nat){f:PT (ps.map (·.b))→Option (CT (rs.map (·.1)++outs (ps.map (·.b))))}
  (hC:CfgOk C) (hann:AnnOk F (codeOf fn) 1) (hP:C.P=Tryd.prog:=by rfl) (hF:F.C=C:=by rfl) (hfn:C.P.funcs[g]? = some fn:=by kernel_rfl) (hb:fn.body=some (codeOf fn):=by kernel_rfl) (hn:(fn.name == "runtime.NumGoroutine")=false:=by kernel_rfl)
  (hnt:C.ntmps=fn.ntmps:=by kernel_rfl) (hle:Nat.ble ps.length fn.ntmps=true:=by kernel_rfl) (hpar:parOk 0 ps=true:=by kernel_rfl) (hfin:F.fin=rdRes C.P ps rs fn.results.toList .ret:=by rfl)
  (hpins:F.pins=pinIds ps:=by kernel_rfl) (hnd:nodupB F.pins=true:=by kernel_rfl) (hf:∀x,evFn F (codeOf fn) ps nx x=f x:=by intro x;kernel_rfl):Contract C.P g ⟨ps.map (·.b),rs,f⟩ :=
 contract hC hF hfn hb hn hnt hle hpar hfin hpins hnd hann (hP ▸ mix_ok) hf

theorem annl{R:Type}{F:Fn R}{c:Code}(l:List Nat)(hl:AllL F (l.map fun p=>(p,loopB c p)))(h:loopsOf c 1=l.map (fun p=>(p,loopB c p)):=by kernel_rfl):AnnOk F c 1:=AnnOk_list _ h hl

theorem lok{R:Type}{F:Fn R}{c:Code}{p:Nat}(pin pout:List PE)(ex nx:Nat)(Lf:Nat→PTe pin→Option (R ⊕ PTe pout))(k:Nat)(h:F.an p=some (.loop pin pout ex nx (Lf k)):=by kernel_rfl)(h0:∀x,Lf 0 x=none:=by intro x;rfl)
  (hs:∀n x,roundOf F c p pin pout ex nx (Lf n) x=Lf (n+1) x:=by intro n x;kernel_rfl):LoopOk F c p:=LoopOk.mk (pin:=pin) (pout:=pout) h h0 hs

noncomputable def rr(ps:List PE)(rs:List (Ty×Bool))(f:Func):=rdRes Tryd.prog ps rs f.results.toList .ret

abbrev e1:PE:=⟨0,0,.val ty_0 false,false⟩
abbrev e2:PE:=⟨0,32,.val ty_1 false,false⟩
abbrev e3:PE:=⟨5,48,.eat ty_0,false⟩
abbrev e4:PE:=⟨0,0,.val ty_1 false,false⟩
abbrev e5:PE:=⟨1,16,.val ty_0 false,false⟩
abbrev e6:PE:=⟨2,32,.val ty_0 false,false⟩
abbrev F1:Type 1:=Fn (Bool)
abbrev F2:Type 1:=Fn (ByteArray)

noncomputable def q1V:Variant:=⟨[.val ty_0 false],[(ty_0,false)],fun x=>laws_roomBehind x.1⟩
noncomputable def q1C:Cfg:=⟨Tryd.prog,tyOf tys,10,gOf [],false,[],[]⟩
def q1p:List PE := [e1]
noncomputable def q1F:Fn (Int):=⟨q1C,rr q1p [(ty_0,false)] Tryd.f10,fun p=>none,0,[]⟩
theorem q1K:Contract Tryd.prog 10 (q1V):=ctr q1C (rs := [(ty_0,false)]) (ps:=q1p) q1F Tryd.f10 16 ⟨tyOf_ok tys_ok,gOf_ok trivial⟩ (annl [] trivial)

noncomputable def q2V(k:Nat):Variant:=⟨[.val ty_1 false,.val .bool false],[(ty_27,false)],fun x=>laws_toIntS k x.1 x.2.1⟩
noncomputable def q2C(k:Nat):Cfg:=⟨Tryd.prog,tyOf tysR,49,gOf [(10,[],q1V)],true,[],[]⟩
def q2i1:List PE := [e2,e3,⟨6,64,.val ty_0 false,false⟩]
def q2o1:List PE := [e2,e3]
noncomputable def q2f1(k:Nat)(n:Nat)(x3:PTe q2i1):=laws_toIntS_L122 k n x3.1 x3.2.1 x3.2.2.1
def q2i2:List PE := [e2,e3,⟨7,64,.val ty_0 false,false⟩]
def q2o2:List PE := [e2,e3]
noncomputable def q2f2(k:Nat)(n:Nat)(x6:PTe q2i2):=laws_toIntS_L250 k n x6.1 x6.2.1 x6.2.2.1
def q2p:List PE := [e4,⟨1,16,.val .bool false,false⟩]
noncomputable def q2F(k:Nat):Fn (List Int×List Int):=⟨q2C k,rr q2p [(ty_27,false)] Tryd.f5,fun p=>bif Nat.beq p 122 then some (.loop q2i1 q2o1 0 80 (q2f1 k k))else bif Nat.beq p 250 then some (.loop q2i2 q2o2 2 80 (q2f2 k k))else bif Nat.beq p 6 then some (.cut [e2] 48)else none,0,[]⟩
theorem q2K(k:Nat):Contract Tryd.prog 5 (q2V k):=ctr (q2C k) (rs := [(ty_27,false)]) (ps:=q2p) (q2F k) Tryd.f5 32 ⟨tyOf_ok tysR_ok,gOf_ok ⟨q1K,trivial⟩⟩ (annl [122,250] ⟨lok q2i1 q2o1 0 80 (q2f1 k) k,lok q2i2 q2o2 2 80 (q2f2 k) k,trivial⟩)

noncomputable def q3V:Variant:=⟨[.val ty_0 false,.val ty_0 false,.val ty_0 false],[(.bool,false)],fun x=>spec_l1In x.1 x.2.1 x.2.2.1⟩
noncomputable def q3C:Cfg:=⟨Tryd.prog,tyOf tys,15,gOf [],false,[],[]⟩
def q3p:List PE := [e1,e5,e6]
noncomputable def q3F:F1:=⟨q3C,rr q3p [(.bool,false)] Tryd.f14,fun p=>none,0,[]⟩
theorem q3K:Contract Tryd.prog 14 (q3V):=ctr q3C (rs := [(.bool,false)]) (ps:=q3p) q3F Tryd.f14 48 ⟨tyOf_ok tys_ok,gOf_ok trivial⟩ (annl [] trivial)

noncomputable def q4V(k:Nat):Variant:=⟨[.val ty_1 false,.val ty_0 false,.val ty_0 false],[(.bool,false)],fun x=>spec_l1All k x.1 x.2.1 x.2.2.1⟩
noncomputable def q4C(k:Nat):Cfg:=⟨Tryd.prog,tyOf tys,21,gOf [(14,[],q3V)],false,[],[]⟩
def q4i1:List PE := [⟨1,48,.val ty_0 false,false⟩,⟨2,64,.val ty_0 false,false⟩,⟨9,80,.val ty_1 false,false⟩,⟨10,96,.val ty_0 false,false⟩,⟨11,112,.val ty_0 false,false⟩]
def q4o1:List PE := []
noncomputable def q4f1(k:Nat)(n:Nat)(x2:PTe q4i1):=spec_l1All_L26 k n x2.1 x2.2.1 x2.2.2.1 x2.2.2.2.1 x2.2.2.2.2.1
def q4p:List PE := [e4,e5,e6]
noncomputable def q4F(k:Nat):F1:=⟨q4C k,rr q4p [(.bool,false)] Tryd.f8,fun p=>bif Nat.beq p 26 then some (.loop q4i1 q4o1 0 128 (q4f1 k k))else none,0,[]⟩
theorem q4K(k:Nat):Contract Tryd.prog 8 (q4V k):=ctr (q4C k) (rs := [(.bool,false)]) (ps:=q4p) (q4F k) Tryd.f8 48 ⟨tyOf_ok tys_ok,gOf_ok ⟨q3K,trivial⟩⟩ (annl [26] ⟨lok q4i1 q4o1 0 128 (q4f1 k) k,trivial⟩)

noncomputable def q5V(k:Nat):Variant:=⟨[.val ty_0 false],[(.str,false)],fun x=>spec_l1Num k x.1⟩
noncomputable def q5W(rc:Int→Option (ByteArray)):Variant:=⟨[.val ty_0 false],[(.str,false)],fun x=>rc x.1⟩
noncomputable def q5C(k:Nat)(rc:Int→Option (ByteArray)):Cfg:=⟨Tryd.prog,tyOf tys,20,gOf [(9,[],q5W rc)],false,[],[]⟩
def q5p:List PE := [e1]
noncomputable def q5F(k:Nat)(rc:Int→Option (ByteArray)):F2:=⟨q5C k rc,rr q5p [(.str,false)] Tryd.f9,fun p=>none,0,[]⟩
theorem q5KB(k:Nat)(rc:Int→Option (ByteArray))(hrc:Contract Tryd.prog 9 (q5W rc)):Contract Tryd.prog 9 (q5W (spec_l1Num_B k rc)):=ctr (q5C k rc) (rs := [(.str,false)]) (ps:=q5p) (q5F k rc) Tryd.f9 16 ⟨tyOf_ok tys_ok,gOf_ok ⟨hrc,trivial⟩⟩ (annl [] trivial)
theorem q5KR(k:Nat):∀n,Contract Tryd.prog 9 (q5W (spec_l1Num_R k n))
 | 0=>contract_none fun _=>rfl
 | n+1=>q5KB k _ (q5KR k n)
theorem q5K(k:Nat):Contract Tryd.prog 9 (q5V k):=q5KR k k

noncomputable def q6V(k:Nat):Variant:=⟨[.val ty_1 false],[(.str,false),(.bool,false)],fun x=>spec_LabelsText k x.1⟩
noncomputable def q6C(k:Nat):Cfg:=⟨Tryd.prog,tyOf tys,27,gOf [(8,[],q4V k),(9,[],q5V k)],false,[],[]⟩
def q6i1:List PE := [⟨4,16,.val .str false,false⟩,⟨15,32,.val ty_1 false,false⟩,⟨16,48,.val ty_0 false,false⟩,⟨17,64,.val ty_0 false,false⟩]
def q6o1:List PE := [⟨4,16,.val .str false,false⟩]
noncomputable def q6f1(k:Nat)(n:Nat)(x3:PTe q6i1):=spec_LabelsText_L122 k n x3.1 x3.2.1 x3.2.2.1 x3.2.2.2.1
def q6p:List PE := [e4]
noncomputable def q6F(k:Nat):Fn (ByteArray×Bool):=⟨q6C k,rr q6p [(.str,false),(.bool,false)] Tryd.f4,fun p=>bif Nat.beq p 122 then some (.loop q6i1 q6o1 0 80 (q6f1 k k))else none,0,[]⟩
theorem q6K(k:Nat):Contract Tryd.prog 4 (q6V k):=ctr (q6C k) (rs := [(.str,false),(.bool,false)]) (ps:=q6p) (q6F k) Tryd.f4 16 ⟨tyOf_ok tys_ok,gOf_ok ⟨q4K k,q5K k,trivial⟩⟩ (annl [122] ⟨lok q6i1 q6o1 0 80 (q6f1 k) k,trivial⟩)

noncomputable def q7V:Variant:=⟨[.val ty_0 false,.val ty_0 false,.val ty_0 false],[(.bool,false)],fun x=>impl_inside x.1 x.2.1 x.2.2.1⟩
noncomputable def q7C:Cfg:=⟨Tryd.prog,tyOf tys,15,gOf [],false,[],[]⟩
def q7p:List PE := [e1,e5,e6]
noncomputable def q7F:F1:=⟨q7C,rr q7p [(.bool,false)] Tryd.f17,fun p=>none,0,[]⟩
theorem q7K:Contract Tryd.prog 17 (q7V):=ctr q7C (rs := [(.bool,false)]) (ps:=q7p) q7F Tryd.f17 48 ⟨tyOf_ok tys_ok,gOf_ok trivial⟩ (annl [] trivial)

noncomputable def q8V:Variant:=⟨[.val ty_0 false],[(.bool,false)],fun x=>impl_areLabels_1 x.1⟩
noncomputable def q8C:Cfg:=⟨Tryd.prog,tyOf tys,6,gOf [(17,[],q7V)],false,[],[]⟩
def q8p:List PE := [e1]
noncomputable def q8F:F1:=⟨q8C,rr q8p [(.bool,false)] Tryd.f16,fun p=>none,0,[]⟩
theorem q8K:Contract Tryd.prog 16 (q8V):=ctr q8C (rs := [(.bool,false)]) (ps:=q8p) q8F Tryd.f16 16 ⟨tyOf_ok tys_ok,gOf_ok ⟨q7K,trivial⟩⟩ (annl [] trivial)

noncomputable def q9V(k:Nat):Variant:=⟨[.val ty_1 false,.fn 16 []],[(ty_0,false)],fun x=>slices_IndexFunc_int_int_impl_areLabels_1 k x.1 x.2.1⟩
noncomputable def q9C(k:Nat):Cfg:=⟨Tryd.prog,tyOf tys,19,gOf [(16,[],q8V)],false,[],[]⟩
def q9i1:List PE := [e2,⟨1,48,.fn 16 [],false⟩,⟨7,64,.val ty_0 false,false⟩,⟨8,80,.val ty_0 false,false⟩]
def q9o1:List PE := []
noncomputable def q9f1(k:Nat)(n:Nat)(x2:PTe q9i1):=slices_IndexFunc_int_int_impl_areLabels_1_L26 k n x2.1 x2.2.1 x2.2.2.1 x2.2.2.2.1
def q9p:List PE := [e4,⟨1,16,.fn 16 [],false⟩]
noncomputable def q9F(k:Nat):Fn (Int):=⟨q9C k,rr q9p [(ty_0,false)] Tryd.f19,fun p=>bif Nat.beq p 26 then some (.loop q9i1 q9o1 0 96 (q9f1 k k))else none,0,[]⟩
theorem q9K(k:Nat):Contract Tryd.prog 19 (q9V k):=ctr (q9C k) (rs := [(ty_0,false)]) (ps:=q9p) (q9F k) Tryd.f19 32 ⟨tyOf_ok tys_ok,gOf_ok ⟨q8K,trivial⟩⟩ (annl [26] ⟨lok q9i1 q9o1 0 96 (q9f1 k) k,trivial⟩)

noncomputable def q10V(k:Nat):Variant:=⟨[.val ty_1 false,.fn 16 []],[(.bool,false)],fun x=>slices_ContainsFunc_int_int_impl_areLabels_1 k x.1 x.2.1⟩
noncomputable def q10C(k:Nat):Cfg:=⟨Tryd.prog,tyOf tys,9,gOf [(19,[16],q9V k)],false,[],[]⟩
def q10p:List PE := [e4,⟨1,16,.fn 16 [],false⟩]
noncomputable def q10F(k:Nat):F1:=⟨q10C k,rr q10p [(.bool,false)] Tryd.f15,fun p=>none,0,[]⟩
theorem q10K(k:Nat):Contract Tryd.prog 15 (q10V k):=ctr (q10C k) (rs := [(.bool,false)]) (ps:=q10p) (q10F k) Tryd.f15 32 ⟨tyOf_ok tys_ok,gOf_ok ⟨q9K k,trivial⟩⟩ (annl [] trivial)

noncomputable def q11V(k:Nat):Variant:=⟨[.val ty_1 false],[(.bool,false)],fun x=>impl_areLabels k x.1⟩
noncomputable def q11C(k:Nat):Cfg:=⟨Tryd.prog,tyOf tys,6,gOf [(15,[16],q10V k)],false,[],[]⟩
def q11p:List PE := [e4]
noncomputable def q11F(k:Nat):F1:=⟨q11C k,rr q11p [(.bool,false)] Tryd.f11,fun p=>none,0,[]⟩
theorem q11K(k:Nat):Contract Tryd.prog 11 (q11V k):=ctr (q11C k) (rs := [(.bool,false)]) (ps:=q11p) (q11F k) Tryd.f11 16 ⟨tyOf_ok tys_ok,gOf_ok ⟨q10K k,trivial⟩⟩ (annl [] trivial)

noncomputable def q12V:Variant:=⟨[.val ty_0 false],[(.str,false)],fun x=>internal_strconv_small x.1⟩
noncomputable def q12C:Cfg:=⟨Tryd.prog,tyOf tys,15,gOf [],false,[],[]⟩
def q12p:List PE := [e1]
noncomputable def q12F:F2:=⟨q12C,rr q12p [(.str,false)] Tryd.f22,fun p=>none,0,[]⟩
theorem q12K:Contract Tryd.prog 22 (q12V):=ctr q12C (rs := [(.str,false)]) (ps:=q12p) q12F Tryd.f22 16 ⟨tyOf_ok tys_ok,gOf_ok trivial⟩ (annl [] trivial)

noncomputable def q13V:Variant:=⟨[.val ty_0 false,.val ty_0 false],[(.str,false)],fun x=>internal_strconv_FormatInt x.1 x.2.1⟩
noncomputable def q13C:Cfg:=⟨Tryd.prog,tyOf tys,54,gOf [(22,[],q12V)],false,[],[]⟩
def q13p:List PE := [e1,e5]
noncomputable def q13F:F2:=⟨q13C,rr q13p [(.str,false)] Tryd.f21,fun p=>bif Nat.beq p 430 then some (.cut [⟨0,32,.val ty_0 false,false⟩,⟨5,48,.box ty_25 false,false⟩,⟨6,64,.val ty_26 false,false⟩] 80)else bif Nat.beq p 52 then some (.cut [⟨0,32,.val ty_0 false,false⟩] 48)else none,0,[]⟩
theorem q13K:Contract Tryd.prog 21 (q13V):=ctr q13C (rs := [(.str,false)]) (ps:=q13p) q13F Tryd.f21 32 ⟨tyOf_ok tys_ok,gOf_ok ⟨q12K,trivial⟩⟩ (annl [] trivial)

noncomputable def q14V:Variant:=⟨[.val ty_0 false],[(.str,false)],fun x=>internal_strconv_Itoa x.1⟩
noncomputable def q14C:Cfg:=⟨Tryd.prog,tyOf tys,5,gOf [(21,[],q13V)],false,[],[]⟩
def q14p:List PE := [e1]
noncomputable def q14F:F2:=⟨q14C,rr q14p [(.str,false)] Tryd.f20,fun p=>none,0,[]⟩
theorem q14K:Contract Tryd.prog 20 (q14V):=ctr q14C (rs := [(.str,false)]) (ps:=q14p) q14F Tryd.f20 16 ⟨tyOf_ok tys_ok,gOf_ok ⟨q13K,trivial⟩⟩ (annl [] trivial)

noncomputable def q15V:Variant:=⟨[.val ty_0 false],[(.str,false)],fun x=>strconv_Itoa x.1⟩
noncomputable def q15C:Cfg:=⟨Tryd.prog,tyOf tys,5,gOf [(20,[],q14V)],false,[],[]⟩
def q15p:List PE := [e1]
noncomputable def q15F:F2:=⟨q15C,rr q15p [(.str,false)] Tryd.f18,fun p=>none,0,[]⟩
theorem q15K:Contract Tryd.prog 18 (q15V):=ctr q15C (rs := [(.str,false)]) (ps:=q15p) q15F Tryd.f18 16 ⟨tyOf_ok tys_ok,gOf_ok ⟨q14K,trivial⟩⟩ (annl [] trivial)

noncomputable def q16V(k:Nat):Variant:=⟨[.val ty_1 false],[(.str,false)],fun x=>impl_digitsText k x.1⟩
noncomputable def q16C(k:Nat):Cfg:=⟨Tryd.prog,tyOf tys,18,gOf [(18,[],q15V)],false,[],[]⟩
def q16i1:List PE := [⟨3,16,.val .str false,false⟩,⟨6,32,.val ty_1 false,false⟩,⟨7,48,.val ty_0 false,false⟩,⟨8,64,.val ty_0 false,false⟩]
def q16o1:List PE := [⟨3,16,.val .str false,false⟩]
noncomputable def q16f1(k:Nat)(n:Nat)(x2:PTe q16i1):=impl_digitsText_L58 k n x2.1 x2.2.1 x2.2.2.1 x2.2.2.2.1
def q16p:List PE := [e4]
noncomputable def q16F(k:Nat):F2:=⟨q16C k,rr q16p [(.str,false)] Tryd.f12,fun p=>bif Nat.beq p 58 then some (.loop q16i1 q16o1 0 80 (q16f1 k k))else none,0,[]⟩
theorem q16K(k:Nat):Contract Tryd.prog 12 (q16V k):=ctr (q16C k) (rs := [(.str,false)]) (ps:=q16p) (q16F k) Tryd.f12 16 ⟨tyOf_ok tys_ok,gOf_ok ⟨q15K,trivial⟩⟩ (annl [58] ⟨lok q16i1 q16o1 0 80 (q16f1 k) k,trivial⟩)

noncomputable def q17V(k:Nat):Variant:=⟨[.val ty_1 false],[(.str,false),(.bool,false)],fun x=>impl_LabelsText k x.1⟩
noncomputable def q17C(k:Nat):Cfg:=⟨Tryd.prog,tyOf tys,14,gOf [(11,[],q11V k),(12,[],q16V k)],false,[],[]⟩
def q17p:List PE := [e4]
noncomputable def q17F(k:Nat):Fn (ByteArray×Bool):=⟨q17C k,rr q17p [(.str,false),(.bool,false)] Tryd.f6,fun p=>none,0,[]⟩
theorem q17K(k:Nat):Contract Tryd.prog 6 (q17V k):=ctr (q17C k) (rs := [(.str,false),(.bool,false)]) (ps:=q17p) (q17F k) Tryd.f6 16 ⟨tyOf_ok tys_ok,gOf_ok ⟨q11K k,q16K k,trivial⟩⟩ (annl [] trivial)

noncomputable def q18V(k:Nat):Variant:=⟨[.val ty_1 false,.val ty_1 false],[(.bool,false)],fun x=>laws_eqIntS k x.1 x.2.1⟩
noncomputable def q18C(k:Nat):Cfg:=⟨Tryd.prog,tyOf tys,26,gOf [],false,[],[]⟩
def q18i1:List PE := [e2,⟨1,48,.val ty_1 false,false⟩,⟨5,64,.val ty_0 false,false⟩]
def q18o1:List PE := []
noncomputable def q18f1(k:Nat)(n:Nat)(x1:PTe q18i1):=laws_eqIntS_L58 k n x1.1 x1.2.1 x1.2.2.1
def q18p:List PE := [e4,⟨1,16,.val ty_1 false,false⟩]
noncomputable def q18F(k:Nat):F1:=⟨q18C k,rr q18p [(.bool,false)] Tryd.f13,fun p=>bif Nat.beq p 58 then some (.loop q18i1 q18o1 0 80 (q18f1 k k))else none,0,[]⟩
theorem q18K(k:Nat):Contract Tryd.prog 13 (q18V k):=ctr (q18C k) (rs := [(.bool,false)]) (ps:=q18p) (q18F k) Tryd.f13 32 ⟨tyOf_ok tys_ok,gOf_ok trivial⟩ (annl [58] ⟨lok q18i1 q18o1 0 80 (q18f1 k) k,trivial⟩)

noncomputable def q19V(k:Nat):Variant:=⟨[.val ty_27 false,.val ty_27 false],[(.bool,false)],fun x=>laws_intactIntS k x.1 x.2.1⟩
noncomputable def q19C(k:Nat):Cfg:=⟨Tryd.prog,tyOf tys,26,gOf [(10,[],q1V),(13,[],q18V k)],false,[],[]⟩
def q19p:List PE := [⟨0,0,.val ty_27 false,false⟩,⟨1,16,.val ty_27 false,false⟩]
noncomputable def q19F(k:Nat):F1:=⟨q19C k,rr q19p [(.bool,false)] Tryd.f7,fun p=>none,0,[]⟩
theorem q19K(k:Nat):Contract Tryd.prog 7 (q19V k):=ctr (q19C k) (rs := [(.bool,false)]) (ps:=q19p) (q19F k) Tryd.f7 32 ⟨tyOf_ok tys_ok,gOf_ok ⟨q1K,q18K k,trivial⟩⟩ (annl [] trivial)

noncomputable def laws_FnExactLabelsText_V(k:Nat):Variant:=⟨[.val ty_1 false],[(.bool,false)],fun x=>laws_FnExactLabelsText k x.1⟩
noncomputable def laws_FnExactLabelsText_C(k:Nat):Cfg:=⟨Tryd.prog,tyOf tys,53,gOf [(5,[],q2V k),(4,[],q6V k),(6,[],q17V k),(7,[],q19V k)],false,[],[]⟩
def laws_FnExactLabelsText_ps:List PE := [e4]
noncomputable def laws_FnExactLabelsText_F(k:Nat):F1:=⟨laws_FnExactLabelsText_C k,rr laws_FnExactLabelsText_ps [(.bool,false)] Tryd.f3,fun p=>none,0,[]⟩
theorem laws_FnExactLabelsText_K(k:Nat):Contract Tryd.prog 3 (laws_FnExactLabelsText_V k):=ctr (laws_FnExactLabelsText_C k) (rs := [(.bool,false)]) (ps:=laws_FnExactLabelsText_ps) (laws_FnExactLabelsText_F k) Tryd.f3 16 ⟨tyOf_ok tys_ok,gOf_ok ⟨q2K k,q6K k,q17K k,q19K k,trivial⟩⟩ (annl [] trivial)
end Go.Ev.G
