/- What the plain functions of the law compute, for all inputs within the sizes that the theorems name. -/
import Derived.Test.YtbkhmofhdbjpcaaGreatPFnCubes1
import Derived.Test.YtbkhmofhdbjpcaaGreatAFnCubes2
set_option linter.unusedVariables false
namespace Go.Ev.G
open Go Go.Ev
set_option maxRecDepth 100000
variable {ks : List Int}

theorem drawCheckO(hk:bytesOk ks):Ok (fun k _=>spec_DrawCheckLabels k ks) (fun r=>syS r.1∧bxS r.2.1∧r.2.2.2.length≤96):=by
 refine Ok.eq (fun k q=>by rw [spec_DrawCheckLabels]) ?_
 refine Ok.bind (cubeSystemO hk curZ (by omega)) fun r1 h1=>Ok.bind (cellDepthK hk h1.1 (by omega)) fun r2 h2 => ?_
 have hs:=h1.2.1.lb
 refine Ok.bothl (S:=fun w=>(∃q,w = .inl q∧syS q.1∧bxS q.2.1∧q.2.2.2.length≤96)∨∃y,w = .inr y∧CurOk y.2.1 10000∧syS y.2.2.1∧bxS y.2.2.2.1) ?_ (fun q hq => ?_) (fun y hy => ?_)
 ·have own:CurOk r2.2 10000:=h2.1.mono (by omega) (by omega)
  refine Ok.bind (Ok.of (P:=fun r=>r=askC r1.1 r1.2.1 r2.1) (cbAsked_ev hs.1 hs.2 h1.2.2.lb) rfl) fun r3 h3=>Ok.ite (fun e => ?_) (fun _ => .pure (.inr ⟨_,rfl,own,h1.2⟩))
  rw [h3]at e
  obtain⟨n,en,hn,hC,hb⟩:=askC_form e hs.2
  rw [en]
  refine Ok.bind (oneK hk h2.1 (by omega) (by omega)) fun r4 h4 => ?_
  have own4:CurOk r4.2 10000:=h4.mono (by omega) (by omega)
  refine Ok.ite (fun _ => ?_) (fun _ => .pure (.inr ⟨_,rfl,own4,h1.2⟩))
  have hcl:=cellsV_len hn
  have hone:1≤2 ^ (2*n):=Nat.one_le_two_pow
  refine Ok.bind (Ok.of (P:=fun r=>r.length≤96) (cbLabels_ev hC hb hn) (lbsV_len hn).1) fun r5 h5=>Ok.bind (Ok.const (P:=fun r=>r=(((cellsV (2 ^ n)).length:Nat):Int)) (cbCount_eq hn) rfl) fun r6 h6=>Ok.ite (fun e => ?_) (fun _ => .pure (.inr ⟨_,rfl,own4,h1.2⟩))
  rw [beq_iff_eq]at e
  refine Ok.bth (P:=fun y=>y.2.1=r1.1∧y.2.2.1=r1.2.1∧y.2.2.2.2.1.length≤96) ?_ fun y hy => .pure (.inl ⟨_,rfl,by simp only;rw [hy.1];exact h1.2.1,by simp only;rw [hy.2.1];exact h1.2.2,hy.2.2⟩)
  refine Ok.bind (oneK hk h4 (by omega) (by omega)) fun r7 h7=>Ok.ite (fun _ => ?_) (fun _ => .pure ⟨_,rfl,rfl,rfl,h5⟩)
  refine Ok.bind (pickK hk h7 (by omega) (by omega)) fun r8 h8=>Ok.bind (pickK hk h8.1 (by omega) (by omega)) fun r9 h9=>Ok.le h8.2.1 (Ok.lt (h8.2.2 (by omega)) (.pure ⟨_,rfl,rfl,rfl,by simpa using h5⟩))
 ·rcases hq with ⟨q',e,hq⟩ | ⟨y,e,_⟩
  ·cases e;exact .pure hq
  ·cases e
 ·rcases hy with ⟨q',e,_⟩ | ⟨y',e,hy⟩
  ·cases e
  ·cases e
   exact Ok.bind (cellLabelsO hk hy.1 (by omega) _) fun r8 h8 => .pure ⟨hy.2.1,hy.2.2,h8.2⟩
theorem col_all{α:Type}{f:α→Option Nat}:∀ {es:List α},(colV f es).2=true→(colV f es).1=es.map (fun e=>(((f e).getD 0:Nat):Int))∧∀e∈es,∃j,f e=some j
 | [],_=>⟨rfl,by simp⟩
 | e::r,h=>by
  unfold colV at h ⊢
  cases hj:f e with
  | none=>rw [hj]at h;cases h
  | some j =>
   rw [hj]at h
   obtain⟨i1,i2⟩:=col_all (es:=r) h
   refine⟨by simp only [List.map_cons,hj,i1,Option.getD_some],fun x hx => ?_⟩
   rcases List.mem_cons.1 hx with rfl | hx
   ·exact⟨j,hj⟩
   ·exact i2 x hx
theorem map_getD{α β:Type}(f:α→β){l:List α}{i:Nat}{z:α}{w:β}(h:i<l.length):(l.map f).getD i w=f (l.getD i z):=by
 rw [List.getD_eq_getElem?_getD,List.getElem?_map,List.getElem?_eq_getElem h,List.getD_eq_getElem?_getD,List.getElem?_eq_getElem h]
 rfl
theorem cell_len{n:Nat}(hn:n≤2){i:Nat}(hi:i<6*2 ^ n*2 ^ n):i<(cellsV (2 ^ n)).length:=by rw [←two_pow_two hn];exact hi
theorem lbs_lb{s:List (List Tm)}{b:Bx}{n:Nat}(hn:n≤2)(h:(lbsV s b n).2=true):Lb s b n (lbsV s b n).1:=by
 refine⟨lbsV_ok hn h,fun i hi => ?_⟩
 obtain⟨e1,e2⟩:=col_all (f:=lbl s b n) (es:=cellsV (2 ^ n)) h
 have hlt:=cell_len hn hi
 obtain⟨j,hj⟩:=e2 (cellN (2 ^ n) i) (getD_in hlt)
 have e:labF (lbsV s b n).1 (i:Int)=(j:Int):=by
  unfold labF lbsV
  rw [e1,Int.toNat_natCast,map_getD _ (z:=(0,false,0,0)) hlt]
  show((((lbl s b n (cellN (2 ^ n) i)).getD 0:Nat)):Int)=_
  rw [hj]
  rfl
 rw [e,Int.toNat_natCast]
 exact List.find?_some hj
theorem ck_own{s:List (List Tm)}{b:Bx}{n:Nat}(hn:n≤2)(ha:askC s b n=true)(h:(lbsV s b n).2=true):ckV s b n (lbsV s b n).1=(true,true):=by
 obtain⟨e1,e2⟩:=col_all (f:=lbl s b n) (es:=cellsV (2 ^ n)) h
 unfold ckV
 rw [if_pos ha,Int.toNat_natCast]
 have e3:(lbsV s b n).1=(cellsV (2 ^ n)).map (fun e=>(((lbl s b n e).getD 0:Nat):Int)):=e1
 rw [e3,if_pos (by simp),zip_self2,List.all_map]
 congr 1
 rw [List.all_eq_true]
 intro c hc
 obtain⟨j,hj⟩:=e2 c hc
 have hl:=lbl_lt hj
 simp only [Function.comp,okL,hj,Option.getD_some,Int.toNat_natCast]
 rw [decide_eq_true (by omega),Bool.true_and]
 exact List.find?_some hj
theorem zip_getD{α β:Type}{l:List α}{m:List β}{i:Nat}{z:α}{w:β}(h:i<l.length)(h':i<m.length):(l.getD i z,m.getD i w)∈l.zip m:=by
 have hz:i<(l.zip m).length:=by rw [List.length_zip];omega
 have e:(l.zip m)[i]=(l.getD i z,m.getD i w):=by
  rw [List.getElem_zip,List.getD_eq_getElem?_getD,List.getElem?_eq_getElem h,List.getD_eq_getElem?_getD,List.getElem?_eq_getElem h']
  rfl
 rw [←e]
 exact List.getElem_mem hz
theorem ck_lb{s:List (List Tm)}{b:Bx}{d:Int}{xs:List Int}(hm:∀r∈s,r.length<lenB)(h:(ckV s b d xs).1=true):∃n:Nat,d=n∧TriS s∧cbV b=true∧Lb s b n xs:=by
 unfold ckV at h
 split at h
 case isFalse=>cases h
 rename_i ha
 split at h
 case isFalse=>cases h
 rename_i hl
 obtain⟨n,rfl,hn,_,_⟩:=askC_form ha hm
 have hcube:cubeV s b=true:=by
  unfold askC at ha
  rw [Bool.and_eq_true]at ha
  exact ha.1
 obtain⟨hS,hb⟩:=three_S hcube hm
 simp only [Int.toNat_natCast]at h hl
 rw [List.all_eq_true]at h
 have hlen:xs.length=6*2 ^ n*2 ^ n:=by rw [hl,two_pow_two hn]
 have at_i:∀i,i<6*2 ^ n*2 ^ n→okL s b n (cellN (2 ^ n) i,xs.getD i 0)=true:=fun i hi=>h _ (zip_getD (cell_len hn hi) (by omega))
 refine⟨n,rfl,hS,hb,⟨hn,hlen,fun l hl => ?_⟩,fun i hi => ?_⟩
 ·obtain⟨i,hi,rfl⟩:=List.mem_iff_getElem.1 hl
  have:=at_i i (by omega)
  unfold okL at this
  rw [Bool.and_eq_true]at this
  have:=of_decide_eq_true this.1
  rw [List.getD_eq_getElem?_getD,List.getElem?_eq_getElem hi]at this
  exact this
 ·have:=at_i i hi
  unfold okL at this
  rw [Bool.and_eq_true]at this
  unfold labF
  rw [Int.toNat_natCast]
  exact this.2
theorem sl_form{s:List (List Tm)}{b:Bx}{d:Int}(hm:∀r∈s,r.length<lenB)(h:(slV s b d).2=true):∃n:Nat,d=n∧n≤2∧askC s b d=true∧TriS s∧cbV b=true∧(lbsV s b n).2=true∧slV s b d=((lbsV s b n).1,true):=by
 unfold slV at h ⊢
 split at h
 ·rename_i ha
  rw [if_pos ha]
  obtain⟨n,rfl,hn,_,_⟩:=askC_form ha hm
  have hcube:cubeV s b=true:=by
   unfold askC at ha
   rw [Bool.and_eq_true]at ha
   exact ha.1
  obtain⟨hS,hb⟩:=three_S hcube hm
  simp only [Int.toNat_natCast]at h ⊢
  unfold allL at h ⊢
  split at h
  ·rename_i hl
   rw [if_pos hl]
   exact⟨n,rfl,hn,ha,hS,hb,hl,rfl⟩
  ·cases h
 ·cases h
theorem cd_told{s:List (List Tm)}{b:Bx}{d:Int}(hm:∀r∈s,r.length<lenB):(cdV s b d).2=(slV s b d).2:=by
 cases h:(slV s b d).2 with
 | true =>
  obtain⟨n,rfl,hn,ha,hS,hb,hl,_⟩:=sl_form hm h
  unfold cdV
  rw [if_pos ha,Int.toNat_natCast,if_pos hl,lb_dg hS hb (lbs_lb hn hl)]
 | false =>
  unfold slV allL at h
  unfold cdV
  split at h
  ·rename_i ha
   rw [if_pos ha]
   split at h
   ·cases h
   ·rename_i hl
    rw [if_neg hl]
  ·rename_i ha
   rw [if_neg ha]
theorem cd_val{s:List (List Tm)}{b:Bx}{n:Nat}(hn:n≤2)(ha:askC s b n=true)(hS:TriS s)(hb:cbV b=true)(hl:(lbsV s b n).2=true):cdV s b n=(tot (lbsV s b n).1 n,true):=by
 unfold cdV
 rw [if_pos ha,Int.toNat_natCast,if_pos hl,lb_dg hS hb (lbs_lb hn hl)]
theorem dl_val{A:List Int}{n:Nat}(h:LabOk A n):dlV A n=dgLV A n:=by
 unfold dlV
 rw [if_pos (dlAsk_of h),Int.toNat_natCast]
theorem turn_loop{A:List Int}(hl:A.length≤96)(d v:Int):∀(r D:List Int),D++r=A→Evt (fun k n=>laws_FnCubes_L16777210 k n d v (D.map opL) A (A.length:Int) D.length) (.inr (d,v,A.map opL,()))
 | [],D,h=>by
  rw [List.append_nil]at h
  subst h
  exact Evt.step (fun k n=>laws_FnCubes_L16777210.eq_2 k _ _ _ _ _ _ n) (Evt.cfalse mid_end .pure)
 | e::r,D,h=>by
  have hn:=congrArg List.length h
  simp only [List.length_append,List.length_cons]at hn
  have ih:=turn_loop hl d v r (D ++ [e]) (by simpa using h)
  refine Evt.step (fun k n=>laws_FnCubes_L16777210.eq_2 k _ _ _ _ _ _ n) ?_
  subst h
  refine Evt.ctrue mid_lt (Evt.ctrue mid_ge (Evt.ctrue mid_lt (Evt.ctrue (decide_eq_true (by simp;omega)) ?_)))
  rw [mid_get,len_next (e:=e) (r:=r) (by simp only [List.length_append,List.length_cons,lenB];omega)]
  rw [List.map_append,List.map_cons,List.map_nil]at ih
  exact ih
theorem fnCubes_law(a b:List Int)(ha:bytesOk a)(hb:bytesOk b):∃k,laws_FnCubes k a b=some true:=by
 refine Evt.get (Evt.eq (f:=fun k q=>_) ?_ (fun k q=>by rw [laws_FnCubes]))
 refine Evt.ite (fun _ => .pure) (fun _ => ?_)
 obtain⟨⟨s,bx,d⟩,e1,hs,hbx⟩:=drawSurfaceLabelsO ha
 obtain⟨⟨s8,b8,d8,A8⟩,e8,hs8,hb8,hA8⟩:=drawCheckO hb
 simp only at hs hbx hs8 hb8 hA8
 have l:=hs.lb
 have l8:=hs8.lb
 have lA8:A8.length<lenB:=by simp only [lenB];omega
 refine Evt.bind e1 (Evt.bind (impl_surfaceLabels_ev l.1 l.2 hbx.lb) (Evt.bind (spec_surfaceLabels_ev l.1 l.2 hbx.lb) (Evt.bind (impl_cubeDegree_ev l.1 l.2 hbx.lb) (Evt.bind (spec_cubeDegree_ev l.1 l.2 hbx.lb) (Evt.bind (impl_firstUnlabelled_ev l.1 l.2 hbx.lb) (Evt.bind (spec_firstUnlabelled_ev l.1 l.2 hbx.lb) (Evt.bind e8 (Evt.bind (impl_checkLabels_ev l8.1 l8.2 hb8.lb (by simp only;omega)) (Evt.bind (spec_checkLabels_ev l8.1 l8.2 hb8.lb (by simp only;omega)) ?_)))))))))
 have sl:=slV_len s bx d
 refine Evt.inr (y:=(s,bx,d,(slV s bx d).1,(slV s bx d).2,(slV s bx d).1,(cdV s bx d).1,d8,A8,(ckV s8 b8 d8 A8).2,(ckV s8 b8 d8 A8).1,())) ?_ ?_
 ·refine Evt.cfalse (by simp) (Evt.bind (qInts_ev (by simp only [lenB];omega)) (Evt.cfalse rfl (Evt.cfalse (by simp) (Evt.cfalse (by simp) (Evt.cfalse (by simp) (Evt.cfalse (by simp) (Evt.cfalse (by simp) (Evt.cfalse (by simp) (Evt.cfalse (by rw [cd_told l.2];simp) (Evt.ite (fun hk => ?_) (fun _ => .pure)))))))))))
  obtain⟨n,rfl,hn,hask,hS,hcb,hl,hv⟩:=sl_form l.2 hk
  have hfu:fuV s bx n=(0,false):=by
   unfold fuV
   rw [if_pos hask,Int.toNat_natCast,if_pos hl]
  rw [hfu]
  exact Evt.cfalse rfl .pure
 refine Evt.inr (y:=(s,bx,d,(slV s bx d).1,(slV s bx d).2,(slV s bx d).1,(cdV s bx d).1,())) ?_ ?_
 ·refine Evt.ite (fun _=>Evt.ite (fun hk => ?_) (fun _ => .pure)) (fun _ => .pure)
  obtain⟨n,rfl,hS,hcb,hL⟩:=ck_lb l8.2 hk
  have hv:=impl_degreeOfLabels_ev (a:=A8) (d:=(n:Int)) lA8
  rw [dl_val hL.ok,lb_dg hS hcb hL]at hv
  exact Evt.bind hv (Evt.cfalse rfl .pure)
 refine Evt.ite (fun _ => .pure) (fun hk => ?_)
 have hk:(slV s bx d).2=true:=by simpa using hk
 obtain⟨n,rfl,hn,hask,hS,hcb,hl,hv⟩:=sl_form l.2 hk
 have hL:=lbs_lb hn hl
 have hcd:=cd_val hn hask hS hcb hl
 have hlen:(lbsV s bx n).1.length≤96:=(lbsV_len hn).1
 have hck:=impl_checkLabels_ev (s:=s) (b:=bx) (d:=(n:Int)) (xs:=(lbsV s bx n).1) l.1 l.2 hbx.lb (by omega)
 rw [ck_own hn hask hl]at hck
 have hdl:=impl_degreeOfLabels_ev (a:=(lbsV s bx n).1) (d:=(n:Int)) (by simp only [lenB];omega)
 rw [dl_val hL.ok,lb_dg hS hcb hL]at hdl
 rw [hv,hcd]
 refine Evt.bind hck (Evt.bind hdl (Evt.cfalse rfl (Evt.cfalse rfl (Evt.cfalse rfl (Evt.cfalse (by simp) ?_)))))
 refine Evt.inr (y:=((n:Int),(lbsV s bx n).1,tot (lbsV s bx n).1 n,())) ?_ ?_
 ·refine Evt.ite (fun hd => ?_) (fun _ => .pure)
  have hd:(n:Int)<2:=of_decide_eq_true hd
  have hn1:IntKind.wrap .i64 ((n:Int)+1)=((n+1:Nat):Int):=w64_next (by simp only [lenB];omega)
  simp only [hn1]
  refine Evt.bind (impl_cubeDegree_ev l.1 l.2 hbx.lb) (Evt.bind (spec_cubeDegree_ev l.1 l.2 hbx.lb) (Evt.cfalse (by simp) (Evt.cfalse (by simp) (Evt.ite (fun hk2 => ?_) (fun _ => .pure)))))
  rw [cd_told l.2]at hk2
  obtain⟨n',en,hn',hask',_,_,hl',_⟩:=sl_form l.2 hk2
  have en:n'=n+1:=by omega
  subst en
  rw [cd_val hn' hask' hS hcb hl',lb_fine hS hcb hL (lbs_lb hn' hl')]
  exact Evt.cfalse (by simp) .pure
 refine Evt.inr (Evt.diag (turn_loop hlen (n:Int) (tot (lbsV s bx n).1 n) (lbsV s bx n).1 [] rfl)) ?_
 obtain⟨t1,t2⟩:=lb_turn hS hcb hL
 have hdt:=impl_degreeOfLabels_ev (a:=(lbsV s bx n).1.map opL) (d:=(n:Int)) (by simp only [List.length_map,lenB];omega)
 rw [dl_val t1,t2]at hdt
 refine Evt.bind hdt (Evt.ctrue rfl (.const ?_))
 have hbd:=tot_bd hL.ok
 simp only
 rw [w64 (n:=0 - tot (lbsV s bx n).1 n) (by omega) (by omega)]
 congr 1
 rw [beq_iff_eq]
 omega
theorem fnCubes_row(a b:List Int)(h:WfT (.sl (.int .u8)) a)(h':WfT (.sl (.int .u8)) b):∃k,laws_FnCubes k a b=some true:=fnCubes_law a b (bytes_of h) (bytes_of h')
end Go.Ev.G

