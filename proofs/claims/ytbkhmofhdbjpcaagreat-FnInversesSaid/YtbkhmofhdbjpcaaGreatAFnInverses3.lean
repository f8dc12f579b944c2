/- What the plain functions of the law compute, for all inputs within the sizes that the theorems name. -/
import Derived.Test.YtbkhmofhdbjpcaaGreatPFnInverses2
import Derived.Test.YtbkhmofhdbjpcaaGreatAFnInverses2
set_option linter.unusedVariables false
namespace Go.Ev.G
open Go Go.Ev
set_option maxRecDepth 100000

def adW:Nat→List Pt→List Pt×Bool
 | 0,_=>([[(1,0)]],true)
 | n+1,m=>adjV n m
theorem spec_adW{n:Nat}{m:List Pt}(hn:n≤2)(h:sq gd (n+1) m):Evt (fun k _=>spec_mxAdjoint k m) (adW n m):=by
 cases n with
 | zero =>
  have h1:=h.1
  refine Evt.eq (f:=fun k q=>_) ?_ (fun k q=>by rw [spec_mxAdjoint])
  exact Evt.ctrue (by rw [h1];rfl) (Evt.bind (a:=(1,0)) (.const rfl) .pure)
 | succ n=>exact spec_adjoint_ev (by omega) h
theorem impl_adW{n:Nat}{m:List Pt}(hn:n≤2)(h:sq gd (n+1) m):Evt (fun k _=>impl_adjoint k m) (adW n m):=by
 cases n with
 | zero =>
  have h1:=h.1
  refine Evt.eq (f:=fun k q=>_) ?_ (fun k q=>by rw [impl_adjoint])
  exact Evt.ctrue (by rw [h1];rfl) (Evt.bind (a:=(1,0)) (.const rfl) .pure)
 | succ n=>exact impl_adjoint_ev (by omega) h
theorem adW_ok{n:Nat}{m:List Pt}(hn:n≤2)(h:sq gd (n+1) m):(adW n m).1.length≤3∧∀r∈(adW n m).1,r.length≤3∧∀x∈r,gd x:=by
 cases n with
 | zero =>
  refine⟨by simp [adW],fun r hr => ?_⟩
  simp only [adW,List.mem_singleton]at hr
  subst hr
  refine⟨by simp,fun x hx => ?_⟩
  simp only [List.mem_singleton]at hx
  subst hx
  exact gd_int (n:=1) (by omega)
 | succ n =>
  show(adjV n m).1.length≤3∧∀r∈(adjV n m).1,r.length≤3∧∀x∈r,gd x
  unfold adjV
  split
  ·rename_i hall
   refine⟨by simp;omega,fun r hr => ?_⟩
   obtain⟨i,hi,rfl⟩:=List.mem_map.1 hr
   have hs:=List.all_eq_true.1 hall i hi
   have hil:=List.mem_range.1 hi
   unfold adjRow at hs ⊢
   split at hs
   ·rename_i ha
    rw [if_pos ha]
    refine⟨by simp [adjT];omega,fun x hx => ?_⟩
    obtain⟨o,ho,rfl⟩:=List.mem_map.1 hx
    have hos:=List.all_eq_true.1 ha o ho
    unfold adjT at ho
    obtain⟨c,hc,rfl⟩:=List.mem_map.1 ho
    have hcl:=List.mem_range.1 hc
    cases hd:detO n (partV m c i)with
    | none=>rw [hd]at hos;cases hos
    | some t =>
     simp only [Option.map_some,Option.getD_some]
     exact ngD_gd (detO_gd n _ t (sq_part h (by omega) (by omega)) hd)
   ·cases hs
  ·exact⟨by simp,by simp⟩

def dvO(d:Int×Int)(p:Nat)(x:Int×Int):Option (Int×Int):=if (mkD (quotV x.1 d.1 (d.2 - x.2+p)) p).2 then some (mkD (quotV x.1 d.1 (d.2 - x.2+p)) p).1 else none
def rwO(d:Int×Int)(p:Nat)(row:Pt):Option Pt:=allO (dvO d p) (0,0) row
def invV(n:Nat)(m:List Pt)(p:Nat):List Pt×Bool:=match detO n m with
 | none=>([],false)
 | some d=>if (adW n m).2 then(if d.1=0 then([],false)else oL (allO (rwO d p) [] (adW n m).1))else([],false)

theorem mxInverse_ev{n:Nat}{m:List Pt}{p:Nat}(hn:n≤2)(h:sq gd (n+1) m)(hp:p≤24):Evt (fun k _=>spec_mxInverse k m (p:Int)) (invV n m p):=by
 refine Evt.eq (f:=fun k q=>_) ?_ (fun k q=>by rw [spec_mxInverse])
 refine Evt.bind (spec_det_ev hn h) (Evt.bind (spec_adW hn h) ?_)
 obtain⟨al,ar⟩:=adW_ok hn h
 unfold invV
 cases hd:detO n m with
 | none=>exact Evt.ctrue rfl .pure
 | some d =>
 have hdg:=detO_gd n m d h hd
 refine Evt.cfalse rfl ?_
 cases ha:(adW n m).2 with
 | false=>exact Evt.ctrue rfl .pure
 | true =>
 refine Evt.cfalse rfl ?_
 dsimp only
 rw [if_pos rfl]
 simp only [oV]
 by_cases hz:d.1=0
 ·rw [if_pos hz]
  exact Evt.ctrue (beq_iff_eq.2 hz) .pure
 ·rw [if_neg hz]
  refine Evt.cfalse (beq_eq_false_iff_ne.2 hz) ?_
  generalize (adW n m).1=a at al ar ⊢
  have inner:∀(row:Pt) (x10 x39:List Pt) (x40 x41:Int),row.length≤3→(∀x∈row,gd x)→∀(r e:Pt),e++r=row →
    Evt (fun k n=>spec_mxInverse_L518554 k n (p:Int) d x10 (e.map fun i=>(dvO d p i).getD (0,0)) x39 x40 x41 row (row.length:Int) e.length) (if (r.all fun i=>(dvO d p i).isSome)then .inr ((p:Int),d,x10,row.map fun i=>(dvO d p i).getD (0,0),x39,x40,x41,())else .inl ([],false)):=by
   intro row x10 x39 x40 x41 hl hg r
   induction r with
   | nil =>
    intro e h
    refine Evt.step (fun k n=>spec_mxInverse_L518554.eq_2 k _ _ _ _ _ _ _ _ _ _ n) ?_
    rw [List.append_nil]at h
    subst h
    exact Evt.rng0 .pure
   | cons x r ih =>
    intro e h
    have hxl:=congrArg List.length h
    simp at hxl
    have ih:=ih (e ++ [x]) (by simpa using h)
    rw [←len_next (r:=r) (by rw [h];simp only [lenB];omega),List.map_append]at ih
    have hx:=hg x (by rw [←h];simp)
    have g:row.getD (Int.toNat (e.length:Int)) (0,0)=x:=by rw [←h];exact mid_get
    refine Evt.step (fun k n=>spec_mxInverse_L518554.eq_2 k _ _ _ _ _ _ _ _ _ _ n) ?_
    rw [g]
    refine Evt.ctrue (by rw [←h];exact mid_lt) (Evt.ctrue mid_ge (Evt.ctrue (by rw [←h];exact mid_lt) (Evt.bind (dyDivide_ev hx hdg hz hp) ?_)))
    cases hh:(mkD (quotV x.1 d.1 (d.2 - x.2+p)) p).2 with
    | false =>
     have ho:dvO d p x=none:=by unfold dvO;rw [hh];rfl
     simp only [List.all_cons,ho,Option.isSome_none,Bool.false_and]
     exact Evt.ctrue rfl .pure
    | true =>
     have ho:dvO d p x=some (mkD (quotV x.1 d.1 (d.2 - x.2+p)) p).1:=by unfold dvO;rw [hh];rfl
     simp only [List.map_cons,List.map_nil,ho]at ih
     simp only [List.all_cons,ho,Option.isSome_some,Bool.true_and]
     exact Evt.cfalse rfl (Evt.ctrue (by simp;omega) ih)
  have key:∀(r e:List Pt),e++r=a→Evt (fun k n=>spec_mxInverse_L506 k n (p:Int) d (e.map fun r=>(rwO d p r).getD []) a (a.length:Int) e.length) (if (r.all fun r=>(rwO d p r).isSome)then .inr (a.map fun r=>(rwO d p r).getD [],())else .inl ([],false)):=by
   intro r
   induction r with
   | nil =>
    intro e h
    refine Evt.step (fun k n=>spec_mxInverse_L506.eq_2 k _ _ _ _ _ _ n) ?_
    rw [List.append_nil]at h
    subst h
    exact Evt.rng0 .pure
   | cons x r ih =>
    intro e h
    have hxl:=congrArg List.length h
    simp at hxl
    have ih:=ih (e ++ [x]) (by simpa using h)
    rw [←len_next (r:=r) (by rw [h];simp only [lenB];omega),List.map_append]at ih
    obtain⟨hel,heg⟩:=ar x (by rw [←h];simp)
    have g:a.getD (Int.toNat (e.length:Int)) []=x:=by rw [←h];exact mid_get
    refine Evt.step (fun k n=>spec_mxInverse_L506.eq_2 k _ _ _ _ _ _ n) ?_
    rw [g]
    have hi:=inner x (e.map fun r=>(rwO d p r).getD []) a (a.length:Int) (e.length:Int) hel heg x [] rfl
    simp only [List.map_nil,List.length_nil]at hi
    refine Evt.ctrue (by rw [←h];exact mid_lt) (Evt.ctrue mid_ge (Evt.ctrue (by rw [←h];exact mid_lt) ?_))
    cases hall:x.all fun i=>(dvO d p i).isSome with
    | false =>
     have ho:rwO d p x=none:=by unfold rwO allO;rw [hall];rfl
     rw [hall]at hi
     simp only [List.all_cons,ho,Option.isSome_none,Bool.false_and]
     exact Evt.inl (Evt.diag hi) .pure
    | true =>
     have ho:rwO d p x=some (x.map fun i=>(dvO d p i).getD (0,0)):=by unfold rwO allO;rw [hall];rfl
     rw [hall]at hi
     simp only [List.map_cons,List.map_nil,ho]at ih
     simp only [List.all_cons,ho,Option.isSome_some,Bool.true_and]
     exact Evt.inr (Evt.diag hi) (Evt.ctrue (by simp;omega) ih)
  have h0:=key a [] rfl
  simp only [List.map_nil,List.length_nil]at h0
  unfold allO
  cases hall:a.all fun r=>(rwO d p r).isSome with
  | true=>rw [hall]at h0;exact Evt.inr (Evt.diag h0) .pure
  | false=>rw [hall]at h0;exact Evt.inl (Evt.diag h0) .pure

theorem roundedInverse_ev{n:Nat}{m:List Pt}{p:Nat}(hn:n≤2)(h:sq gd (n+1) m)(hp:p≤24):Evt (fun k _=>impl_roundedInverse k m (p:Int)) (invV n m p):=by
 refine Evt.eq (f:=fun k q=>_) ?_ (fun k q=>by rw [impl_roundedInverse])
 obtain⟨v,hv1,hv2,hv3⟩:=impl_det_ev hn h true
 refine Evt.bind hv3 (Evt.bind (impl_adW hn h) ?_)
 obtain⟨al,ar⟩:=adW_ok hn h
 unfold invV
 cases hd:detO n m with
 | none=>exact Evt.ctrue rfl .pure
 | some d =>
 have hdg:=detO_gd n m d h hd
 have hvd:v=d:=by
  have:=hv2 rfl (by rw [hd];rfl)
  rw [hd]at this
  cases this
  rfl
 subst hvd
 refine Evt.cfalse rfl ?_
 cases ha:(adW n m).2 with
 | false=>exact Evt.ctrue rfl .pure
 | true =>
 refine Evt.cfalse rfl ?_
 dsimp only
 rw [if_pos rfl]
 by_cases hz:v.1=0
 ·rw [if_pos hz]
  exact Evt.ctrue (beq_iff_eq.2 hz) .pure
 ·rw [if_neg hz]
  refine Evt.cfalse (beq_eq_false_iff_ne.2 hz) ?_
  generalize (adW n m).1=a at al ar ⊢
  have inner:∀(row:Pt) (A R:List Pt) (x39 x40:Int),row.length≤3→(∀x∈row,gd x)→∀(b0:Bool) (r e:Pt) (c:Bool) (o:Pt),e++r=row→Flag (dvO v p) (0,0) b0 e c o →
    ∃c' o',Flag (dvO v p) (0,0) b0 row c' o'∧Evt (fun k n=>impl_roundedInverse_L129638 k n () () A.length (p:Int) c v (A++(o++r)::R) x39 x40 (row.length:Int) e.length) (.inr ((),(p:Int),c',v,A++o'::R,x39,x40,())):=by
   intro row A R x39 x40 hl hg b0 r
   induction r with
   | nil =>
    intro e c o h hf
    rw [List.append_nil]at h
    subst h
    refine⟨c,o,hf,Evt.step (fun k n=>impl_roundedInverse_L129638.eq_2 k _ _ _ _ _ _ _ _ _ _ _ n) ?_⟩
    rw [List.append_nil]
    exact Evt.cfalse (by simp) .pure
   | cons x r ih =>
    intro e c o h hf
    have hxl:=congrArg List.length h
    simp at hxl
    have hx:=hg x (by rw [←h];simp)
    have hol:=hf.1
    obtain⟨w,hw,hwx⟩:=keep_val c (mkD (quotV x.1 v.1 (v.2 - x.2+p)) p).1 (mkD (quotV x.1 v.1 (v.2 - x.2+p)) p).2
    have e1:(dvO v p x).isSome=(mkD (quotV x.1 v.1 (v.2 - x.2+p)) p).2:=by unfold dvO;cases (mkD (quotV x.1 v.1 (v.2 - x.2+p)) p).2 <;> rfl
    have hst:=Flag.step (e:=x) (v:=w) hf (by
     intro hc hs
     rw [e1]at hs
     rw [hwx hc hs]
     unfold dvO
     rw [if_pos hs])
    rw [e1]at hst
    obtain⟨c',o',q1,q2⟩:=ih (e ++ [x]) _ _ (by simpa using h) hst
    refine⟨c',o',q1,Evt.step (fun k n=>impl_roundedInverse_L129638.eq_2 k _ _ _ _ _ _ _ _ _ _ _ n) ?_⟩
    rw [←len_next (r:=r) (by rw [h];simp only [lenB];omega)]at q2
    have gr:(A++(o++x::r)::R).getD A.length []=o++x::r:=by simp
    have hoe:(e.length:Int)=(o.length:Int):=by omega
    have gx:(o++x::r).getD (Int.toNat (e.length:Int)) (0,0)=x:=by rw [hoe];exact mid_get
    have sx:(A++(o++x::r)::R).set A.length ((o++x::r).set (Int.toNat (e.length:Int)) w)=A++((o ++ [w])++r)::R:=by rw [hoe,mid_set];simp
    have lr:(o++x::r).length=row.length:=by simp;omega
    have wk:IntKind.wrap .i64 (v.2 - x.2)=v.2 - x.2:=by
     obtain⟨a1,a2,_⟩:=hdg
     obtain⟨b1,b2,_⟩:=hx
     exact w64 (by omega) (by omega)
    have hq:=quotientDown_ev (n:=x.1) (k:=v.2 - x.2) (d:=v.1) (p:=p) ⟨hx.2.2.1,hx.2.2.2.1⟩ ⟨hdg.2.2.1,hdg.2.2.2.1⟩ hz (by
     obtain⟨a1,a2,_⟩:=hdg
     obtain⟨b1,b2,_⟩:=hx
     omega) hp
    rw [gr,gx,lr,wk]
    have c0:decide ((e.length:Int)<(row.length:Int))=true:=decide_eq_true (by omega)
    refine Evt.ctrue c0 (Evt.ctrue mid_ge (Evt.ctrue c0 (Evt.bind hq (Evt.bind (.const hw) (Evt.ctrue mid_ge (Evt.ctrue c0 ?_))))))
    dsimp only
    rw [sx]
    exact q2
  have key:∀(r e:List Pt) (c:Bool) (o:List Pt),e++r=a→Flag (rwO v p) [] true e c o →
    ∃c' o',Flag (rwO v p) [] true a c' o'∧Evt (fun k n=>impl_roundedInverse_L506 k n () (p:Int) c v (o++r) (a.length:Int) e.length) (.inr (c',o',())):=by
   intro r
   induction r with
   | nil =>
    intro e c o h hf
    rw [List.append_nil]at h
    subst h
    refine⟨c,o,hf,Evt.step (fun k n=>impl_roundedInverse_L506.eq_2 k _ _ _ _ _ _ _ n) ?_⟩
    rw [List.append_nil]
    exact Evt.cfalse (by simp) .pure
   | cons x r ih =>
    intro e c o h hf
    have hxl:=congrArg List.length h
    simp at hxl
    obtain⟨hel,heg⟩:=ar x (by rw [←h];simp)
    have hol:=hf.1
    obtain⟨c1,o1,⟨f1,f2,f3⟩,q0⟩:=inner x o r (a.length:Int) (e.length:Int) (by omega) heg c x [] c [] rfl Flag.nil
    simp only [List.length_nil,List.nil_append]at q0
    have hst:=Flag.step (e:=x) (v:=o1) hf (by
     intro hc hs
     subst hc
     unfold rwO allO at hs ⊢
     split at hs
     ·rename_i hall
      rw [if_pos hall,←f3 (by rw [f2,hall];rfl)]
     ·cases hs)
    have e2:(c&&(rwO v p x).isSome)=c1:=by
     rw [f2]
     unfold rwO allO
     cases x.all fun i=>(dvO v p i).isSome <;> rfl
    rw [e2]at hst
    obtain⟨c',o',q1,q2⟩:=ih (e ++ [x]) c1 (o ++ [o1]) (by simpa using h) hst
    refine⟨c',o',q1,Evt.step (fun k n=>impl_roundedInverse_L506.eq_2 k _ _ _ _ _ _ _ n) ?_⟩
    rw [←len_next (r:=r) (by rw [h];simp only [lenB];omega)]at q2
    have hoe:(e.length:Int)=(o.length:Int):=by omega
    have gx:(o++x::r).getD (Int.toNat (e.length:Int)) []=x:=by rw [hoe];exact mid_get
    have hn2:Int.toNat (e.length:Int)=o.length:=by omega
    have lo:((o++x::r).length:Int)=(a.length:Int):=by simp;omega
    rw [gx]
    rw [hn2]
    have q3:o ++ [o1]++r=o++o1::r:=by simp
    rw [q3]at q2
    exact Evt.ctrue (decide_eq_true (by omega)) (Evt.ctrue mid_ge (Evt.ctrue (decide_eq_true (by omega)) (Evt.inr (Evt.diag q0) q2)))
  obtain⟨c',o',⟨f1,f2,f3⟩,q2⟩:=key a [] true [] rfl Flag.nil
  rw [Bool.true_and]at f2
  simp only [List.length_nil,List.nil_append]at q2
  refine Evt.inr (Evt.diag q2) ?_
  unfold allO
  rw [←f2]
  cases c' with
  | true=>rw [←f3 rfl];exact Evt.cfalse rfl .pure
  | false=>exact Evt.ctrue rfl .pure
theorem invV_small{n p:Nat}{m:List Pt}(hn:n≤2)(h:sq gd (n+1) m):small3 (invV n m p).1:=by
 obtain⟨al,ar⟩:=adW_ok hn h
 unfold invV
 split
 ·exact⟨by simp,by simp⟩
 ·split
  ·split
   ·exact⟨by simp,by simp⟩
   ·rename_i d _ _ _
    cases ho:allO (rwO d p) [] (adW n m).1 with
    | none=>exact⟨by simp [oL],by simp [oL]⟩
    | some M =>
     refine⟨by simp only [oL];rw [allO_len ho];exact al,fun r hr => ?_⟩
     obtain⟨x,hx,hg⟩:=allO_mem ho r hr
     rw [allO_len hg]
     exact(ar x hx).1
  ·exact⟨by simp,by simp⟩
end Go.Ev.G

namespace Go.Ev.G
open Go Go.Ev
set_option maxRecDepth 100000

def ijV(s:List (List Tm))(b:Bx):List Pt×Bool:=if nwV s b then(match (jaO (sidesB b.1.toNat b.2.1 b.2.2) s).bind miO with
 | some M=>invV (b.2.1.length - 1) M 8
 | none=>([],false))else([],false)
theorem miO_sq{s:List (List Tm)}{m:Nat}{lo hi:List Int}(h:NwOk s m lo hi){J:List (List Iv)}{M:List Pt}(hJ:jaO (sidesB m lo hi) s=some J)(hM:miO J=some M):sq gd (lo.length - 1+1) M:=by
 obtain⟨j1,j2⟩:=jaO_ok h hJ
 have hn:=h.n1
 have e:lo.length - 1+1=lo.length:=by omega
 rw [e]
 refine⟨by rw [allO_len hM];exact j1,fun r hr => ?_⟩
 obtain⟨x,hx,hg⟩:=allO_mem hM r hr
 refine⟨by rw [allO_len hg];exact(j2 x hx).1,fun y hy => ?_⟩
 obtain⟨i,_,hi⟩:=allO_mem hg y hy
 unfold hfO at hi
 split at hi
 ·cases hi
  exact halfD_gd _ _
 ·cases hi
theorem spec_inverseJacobian_ev{s:List (List Tm)}{b:Bx}(hb:s.length<lenB)(hm:∀r∈s,r.length<lenB)(hx:b.2.1.length<lenB):Evt (fun k _=>spec_InverseJacobian k s b) (ijV s b):=by
 refine Evt.eq (f:=fun k q=>_) ?_ (fun k q=>by rw [spec_InverseJacobian,spec_nwInverse])
 refine Evt.bind (nwGood_ev hb hm hx) ?_
 unfold ijV
 cases hv:nwV s b with
 | false=>exact Evt.ctrue rfl .pure
 | true =>
  obtain⟨m,hbm,hN⟩:=nwV_form hv
  have e1:b.1.toNat=m:=by rw [hbm];exact Int.toNat_natCast m
  have hn:=hN.n1
  refine Evt.cfalse rfl ?_
  rw [if_pos rfl,e1]
  have hja:=vaJacobian_ev hN
  rw [←hbm]at hja
  cases hj:jaO (sidesB m b.2.1 b.2.2) s with
  | none =>
   rw [hj]at hja
   exact Evt.bind (Evt.bind hja (Evt.ctrue rfl .pure)) .pure
  | some J =>
   rw [hj]at hja
   obtain⟨hJ,hr⟩:=jaO_ok hN hj
   have hmid:=nwMiddle_ev (J:=J) (by omega) (fun r h=>⟨by have:=(hr r h).1;omega,(hr r h).2⟩)
   cases hM:miO J with
   | none =>
    rw [hM]at hmid
    simp only [Option.bind_some,hM]
    exact Evt.bind (Evt.bind hja (Evt.cfalse rfl (Evt.bind hmid (Evt.ctrue rfl .pure)))) .pure
   | some M =>
    rw [hM]at hmid
    simp only [Option.bind_some,hM]
    have hinv:=mxInverse_ev (p:=8) (show b.2.1.length - 1≤2 by omega) (miO_sq hN hj hM) (by omega)
    exact Evt.bind (Evt.bind hja (Evt.cfalse rfl (Evt.bind hmid (Evt.cfalse rfl (Evt.bind hinv .pure))))) .pure
theorem inverseJacobian_ev{s:List (List Tm)}{m:Nat}{lo hi:List Int}(hN:NwOk s m lo hi):Evt (fun k _=>impl_inverseJacobian k s ((m:Int),lo,hi)) (match (jaO (sidesB m lo hi) s).bind miO with
 | some M=>invV (lo.length - 1) M 8
 | none=>([],false)):=by
 have hn:=hN.n1
 refine Evt.eq (f:=fun k q=>_) ?_ (fun k q=>by rw [impl_inverseJacobian])
 have hmid:=middleJacobian_ev hN
 cases hj:jaO (sidesB m lo hi) s with
 | none =>
  rw [hj]at hmid
  exact Evt.bind hmid (Evt.ctrue rfl .pure)
 | some J =>
  rw [hj]at hmid
  simp only [Option.bind_some]at hmid ⊢
  cases hM:miO J with
  | none =>
   rw [hM]at hmid
   exact Evt.bind hmid (Evt.ctrue rfl .pure)
  | some M =>
   rw [hM]at hmid
   have hinv:=roundedInverse_ev (p:=8) (show lo.length - 1≤2 by omega) (miO_sq hN hj hM) (by omega)
   exact Evt.bind hmid (Evt.cfalse rfl (Evt.bind hinv .pure))
theorem impl_inverseJacobian_ev{s:List (List Tm)}{b:Bx}(hb:s.length<lenB)(hm:∀r∈s,r.length<lenB)(hx:b.2.1.length<lenB):Evt (fun k _=>impl_InverseJacobian k s b) (ijV s b):=by
 refine Evt.eq (f:=fun k q=>_) ?_ (fun k q=>by rw [impl_InverseJacobian])
 refine Evt.bind (newtonFits_ev hb hm hx) ?_
 unfold ijV
 cases hv:nwV s b with
 | false=>exact Evt.ctrue rfl .pure
 | true =>
  obtain⟨m,hbm,hN⟩:=nwV_form hv
  have e1:b.1.toNat=m:=by rw [hbm];exact Int.toNat_natCast m
  have hij:=inverseJacobian_ev hN
  rw [←hbm]at hij
  rw [if_pos rfl,e1]
  exact Evt.cfalse rfl (Evt.bind hij .pure)
theorem ijV_small(s:List (List Tm))(b:Bx):small3 (ijV s b).1:=by
 unfold ijV
 split
 ·rename_i hv
  obtain⟨m,hbm,hN⟩:=nwV_form hv
  have e1:b.1.toNat=m:=by rw [hbm];exact Int.toNat_natCast m
  have hn:=hN.n1
  rw [e1]
  cases hj:jaO (sidesB m b.2.1 b.2.2) s with
  | none=>exact⟨by simp,by simp⟩
  | some J =>
   simp only [Option.bind_some]
   cases hM:miO J with
   | none=>exact⟨by simp,by simp⟩
   | some M=>exact invV_small (by omega) (miO_sq hN hj hM)
 ·exact⟨by simp,by simp⟩
end Go.Ev.G

namespace Go.Ev.G
open Go Go.Ev
set_option maxRecDepth 100000

def scX(pt:List (Int×Int))(i:Nat):Int:=(pt.getD i (0,0)).1*2 ^ (9 - (pt.getD i (0,0)).2).toNat
def ptS(pt:List (Int×Int)):Prop:=∀x∈pt,0≤x.2∧x.2≤9∧(x.1*2 ^ (9 - x.2).toNat).natAbs≤4096
def degT(t:Tm):Nat:=t.2.1.toNat+t.2.2.1.toNat+t.2.2.2.toNat
def tmS(n:Nat)(t:Tm):Prop:=0≤t.2.1∧0≤t.2.2.1∧0≤t.2.2.2∧degT t≤4∧t.1.natAbs*2 ^ (3*degT t)≤4096000∧(0<t.2.1→0<n)∧(0<t.2.2.1→1<n)∧(0<t.2.2.2→2<n)
def scT(pt:List (Int×Int))(t:Tm):Int:=t.1*2 ^ (9*(4 - degT t))*scX pt 0 ^ t.2.1.toNat*scX pt 1 ^ t.2.2.1.toNat*scX pt 2 ^ t.2.2.2.toNat
def scV(p:List Tm)(pt:List (Int×Int)):Int:=(p.map (scT pt)).sum

theorem natAbs_mul_le{a b:Int}{B:Nat}(h:b.natAbs≤B):(a*b).natAbs≤a.natAbs*B:=by
 rw [Int.natAbs_mul]
 exact Nat.mul_le_mul_left _ h
theorem sc_mul{pt:List (Int×Int)}{i:Nat}(hp:ptS pt)(hi:i<pt.length)(x5:Int)(x11:List Tm)(x12 x13 x26:Int)(x25:Int×Int×Int){e:Nat}(he:e≤4):∀(m:Nat) (c:Int),m≤e→c.natAbs*4096 ^ m≤281474976710656000 →
  Evt (fun k n=>impl_scaledAt_L15309414 k n pt x5 c (i:Int) x11 x12 x13 x25 x26 (e:Int) ((e - m:Nat):Int)) (.inr (pt,x5,c*scX pt i ^ m,x11,x12,x13,x25,x26,())):=by
 intro m
 induction m with
 | zero =>
  intro c hm hc
  refine Evt.step (fun k n=>impl_scaledAt_L15309414.eq_2 k _ _ _ _ _ _ _ _ _ _ _ n) ?_
  rw [Int.pow_zero,Int.mul_one]
  exact Evt.cfalse (decide_eq_false (by omega)) .pure
 | succ m ih =>
  intro c hm hc
  obtain⟨k0,k9,hb⟩:=hp _ (List.getElem_mem hi)
  have hg:pt.getD i (0,0)=pt[i]:=by rw [List.getD_eq_getElem?_getD,List.getElem?_eq_getElem hi];rfl
  have hX:(scX pt i).natAbs≤4096:=by unfold scX;rw [hg];exact hb
  have hcx:=natAbs_mul_le (a:=c) hX
  have hc2:(c*scX pt i).natAbs*4096 ^ m≤281474976710656000:=by
   refine Nat.le_trans (Nat.mul_le_mul_right _ hcx) ?_
   rw [Nat.mul_assoc,Nat.mul_comm 4096,←Nat.pow_succ]
   exact hc
  have hc3:(c*scX pt i).natAbs≤281474976710656000:=Nat.le_trans (Nat.le_mul_of_pos_right _ (Nat.pow_pos (by decide))) hc2
  have ih:=ih (c*scX pt i) (by omega) hc2
  refine Evt.step (fun k n=>impl_scaledAt_L15309414.eq_2 k _ _ _ _ _ _ _ _ _ _ _ n) ?_
  have e1:Int.toNat (i:Int)=i:=by omega
  rw [e1,hg]
  have w1:IntKind.wrap .i64 (9 - pt[i].2)=9 - pt[i].2:=w64 (by omega) (by omega)
  have m1:min (Int.toNat (9 - pt[i].2)) (IntKind.bits .i64)=(9 - pt[i].2).toNat:=by simp [IntKind.bits];omega
  have w2:IntKind.wrap .i64 (pt[i].1*2 ^ (9 - pt[i].2).toNat)=scX pt i:=by
   unfold scX
   rw [hg]
   exact w64 (by omega) (by omega)
  have w3:IntKind.wrap .i64 (((e - (m+1):Nat):Int)+1)=((e - m:Nat):Int):=by rw [w64 (by omega) (by omega)];omega
  rw [w1,m1,w2,w3,w64 (n:=c*scX pt i) (by omega) (by omega)]
  rw [Int.mul_assoc,←Int.pow_succ']at ih
  exact Evt.ctrue (decide_eq_true (by omega)) (Evt.ctrue mid_ge (Evt.ctrue (decide_eq_true (by omega)) (Evt.ctrue mid_ge (Evt.ctrue (decide_eq_true (by omega)) (Evt.cfalse (decide_eq_false (by omega)) ih)))))
theorem sc_mul0{pt:List (Int×Int)}{i:Nat}(hp:ptS pt)(x5:Int)(x11:List Tm)(x12 x13 x26:Int)(x25:Int×Int×Int){e:Int}(h0:0≤e)(he:e≤4)(hi:0<e→i<pt.length){c:Int}(hc:c.natAbs*4096 ^ e.toNat≤281474976710656000) :
  Evt (fun k n=>impl_scaledAt_L15309414 k n pt x5 c (i:Int) x11 x12 x13 x25 x26 e 0) (.inr (pt,x5,c*scX pt i ^ e.toNat,x11,x12,x13,x25,x26,())):=by
 by_cases hz:e=0
 ·subst hz
  refine Evt.step (fun k n=>impl_scaledAt_L15309414.eq_2 k _ _ _ _ _ _ _ _ _ _ _ n) ?_
  have:scX pt i ^ (0:Int).toNat=1:=by rw [show(0:Int).toNat=0 from rfl,Int.pow_zero]
  rw [this,Int.mul_one]
  exact Evt.cfalse (by decide) .pure
 ·obtain⟨m,hm⟩:=Int.eq_ofNat_of_zero_le h0
  subst hm
  have h:=sc_mul hp (hi (by omega)) x5 x11 x12 x13 x26 x25 (e:=m) (by omega) m c (Nat.le_refl _) hc
  rw [Nat.sub_self]at h
  exact h

theorem sc_term{pt:List (Int×Int)}{t:Tm}(hp:ptS pt)(ht:tmS pt.length t)(x5:Int)(x11:List Tm)(x12 x13:Int) :
  Evt (fun k n=>impl_scaledAt_L59802 k n pt x5 (t.1*2 ^ (9*(4 - degT t))) x11 x12 x13 t.2 0) (.inr (pt,x5,scT pt t,x11,x12,x13,())):=by
 obtain⟨t0,t1,t2,hd,hb,i0,i1,i2⟩:=ht
 have hX:∀i,(scX pt i).natAbs≤4096:=by
  intro i
  unfold scX
  by_cases hi:i<pt.length
  ·rw [List.getD_eq_getElem?_getD,List.getElem?_eq_getElem hi]
   exact(hp _ (List.getElem_mem hi)).2.2
  ·rw [List.getD_eq_getElem?_getD,List.getElem?_eq_none (by omega)]
   simp
 have hpw:∀(i m:Nat),(scX pt i ^ m).natAbs≤4096 ^ m:=by
  intro i m
  rw [Int.natAbs_pow]
  exact Nat.pow_le_pow_left (hX i) m
 have hc0:(t.1*2 ^ (9*(4 - degT t))).natAbs*4096 ^ degT t≤281474976710656000:=by
  rw [Int.natAbs_mul,Int.natAbs_pow]
  have e1:(2:Int).natAbs=2:=rfl
  have e2:(4096:Nat)=2 ^ 12:=by decide
  rw [e1,e2,←Nat.pow_mul,Nat.mul_assoc,←Nat.pow_add]
  have e3:9*(4 - degT t)+12*degT t=3*degT t+36:=by omega
  rw [e3,Nat.pow_add,←Nat.mul_assoc]
  have:(2:Nat) ^ 36=68719476736:=by decide
  rw [this]
  omega
 have hda:degT t=t.2.1.toNat+(t.2.2.1.toNat+t.2.2.2.toNat):=by unfold degT;omega
 have c1:(t.1*2 ^ (9*(4 - degT t))).natAbs*4096 ^ t.2.1.toNat≤281474976710656000:=by
  rw [hda,Nat.pow_add,←Nat.mul_assoc]at hc0
  rw [←hda]at hc0
  exact Nat.le_trans (Nat.le_mul_of_pos_right _ (Nat.pow_pos (by decide))) hc0
 have c12:(t.1*2 ^ (9*(4 - degT t))*scX pt 0 ^ t.2.1.toNat).natAbs*4096 ^ (t.2.2.1.toNat+t.2.2.2.toNat)≤281474976710656000:=by
  refine Nat.le_trans (Nat.mul_le_mul_right _ (natAbs_mul_le (hpw 0 _))) ?_
  rw [Nat.mul_assoc,←Nat.pow_add,←hda]
  exact hc0
 have c2:(t.1*2 ^ (9*(4 - degT t))*scX pt 0 ^ t.2.1.toNat).natAbs*4096 ^ t.2.2.1.toNat≤281474976710656000:=by
  rw [Nat.pow_add,←Nat.mul_assoc]at c12
  exact Nat.le_trans (Nat.le_mul_of_pos_right _ (Nat.pow_pos (by decide))) c12
 have c3:(t.1*2 ^ (9*(4 - degT t))*scX pt 0 ^ t.2.1.toNat*scX pt 1 ^ t.2.2.1.toNat).natAbs*4096 ^ t.2.2.2.toNat≤281474976710656000:=by
  refine Nat.le_trans (Nat.mul_le_mul_right _ (natAbs_mul_le (hpw 1 _))) ?_
  rw [Nat.mul_assoc,←Nat.pow_add]
  exact c12
 have d0:=hda
 have l0:=sc_mul0 (i:=0) hp x5 x11 x12 x13 0 t.2 t0 (by omega) i0 c1
 have l1:=sc_mul0 (i:=1) hp x5 x11 x12 x13 1 t.2 t1 (by omega) i1 c2
 have l2:=sc_mul0 (i:=2) hp x5 x11 x12 x13 2 t.2 t2 (by omega) i2 c3
 refine Evt.step (fun k n=>impl_scaledAt_L59802.eq_2 k _ _ _ _ _ _ _ _ n) (Evt.ctrue (by decide) (Evt.ctrue (by decide) (Evt.inr (Evt.diag l0) ?_)))
 refine Evt.step (fun k n=>impl_scaledAt_L59802.eq_2 k _ _ _ _ _ _ _ _ n) (Evt.ctrue (decide_eq_true (by dsimp only;decide)) (Evt.cfalse (by dsimp only;decide) (Evt.ctrue (by dsimp only;decide) (Evt.inr (Evt.diag l1) ?_))))
 refine Evt.step (fun k n=>impl_scaledAt_L59802.eq_2 k _ _ _ _ _ _ _ _ n) (Evt.ctrue (decide_eq_true (by dsimp only;decide)) (Evt.cfalse (by dsimp only;decide) (Evt.cfalse (by dsimp only;decide) (Evt.ctrue (by dsimp only;decide) (Evt.inr (Evt.diag l2) ?_)))))
 exact Evt.step (fun k n=>impl_scaledAt_L59802.eq_2 k _ _ _ _ _ _ _ _ n) (Evt.cfalse (decide_eq_false (by dsimp only;decide)) .pure)
theorem scT_bd{pt:List (Int×Int)}{t:Tm}(hp:ptS pt)(ht:tmS pt.length t):(scT pt t).natAbs≤281474976710656000:=by
 obtain⟨t0,t1,t2,hd,hb,i0,i1,i2⟩:=ht
 have hX:∀i,(scX pt i).natAbs≤4096:=by
  intro i
  unfold scX
  by_cases hi:i<pt.length
  ·rw [List.getD_eq_getElem?_getD,List.getElem?_eq_getElem hi]
   exact(hp _ (List.getElem_mem hi)).2.2
  ·rw [List.getD_eq_getElem?_getD,List.getElem?_eq_none (by omega)]
   simp
 have hpw:∀(i m:Nat),(scX pt i ^ m).natAbs≤4096 ^ m:=by
  intro i m
  rw [Int.natAbs_pow]
  exact Nat.pow_le_pow_left (hX i) m
 unfold scT
 refine Nat.le_trans (natAbs_mul_le (hpw 2 _)) ?_
 refine Nat.le_trans (Nat.mul_le_mul_right _ (natAbs_mul_le (hpw 1 _))) ?_
 refine Nat.le_trans (Nat.mul_le_mul_right _ (Nat.mul_le_mul_right _ (natAbs_mul_le (hpw 0 _)))) ?_
 rw [Nat.mul_assoc,Nat.mul_assoc,←Nat.pow_add,←Nat.pow_add]
 have hda:t.2.1.toNat+(t.2.2.1.toNat+t.2.2.2.toNat)=degT t:=by unfold degT;omega
 rw [hda,Int.natAbs_mul,Int.natAbs_pow]
 have e1:(2:Int).natAbs=2:=rfl
 have e2:(4096:Nat)=2 ^ 12:=by decide
 rw [e1,e2,←Nat.pow_mul,Nat.mul_assoc,←Nat.pow_add]
 have e3:9*(4 - degT t)+12*degT t=3*degT t+36:=by omega
 rw [e3,Nat.pow_add,←Nat.mul_assoc]
 have:(2:Nat) ^ 36=68719476736:=by decide
 rw [this]
 omega
theorem scaledAt_ev{p:List Tm}{pt:List (Int×Int)}(hl:p.length≤20)(ht:∀t∈p,tmS pt.length t)(hp:ptS pt):Evt (fun k _=>impl_scaledAt k p pt) (scV p pt):=by
 refine Evt.eq (f:=fun k q=>_) ?_ (fun k q=>by rw [impl_scaledAt])
 have sb:∀(d:List Tm),(∀t∈d,tmS pt.length t)→((d.map (scT pt)).sum).natAbs≤d.length*281474976710656000:=by
  intro d
  induction d with
  | nil=>intro _;simp
  | cons e d ih =>
   intro h
   have h1:=ih (fun t ht=>h t (by simp [ht]))
   have h2:=scT_bd hp (h e (by simp))
   simp only [List.map_cons,List.sum_cons,List.length_cons]
   rw [Nat.add_mul]
   have:=Int.natAbs_add_le (scT pt e) ((d.map (scT pt)).sum)
   omega
 have key:∀(r d:List Tm),d++r=p→Evt (fun k n=>impl_scaledAt_L58 k n pt ((d.map (scT pt)).sum) p (p.length:Int) d.length) (.inr (scV p pt,())):=by
  intro r
  induction r with
  | nil =>
   intro d h
   refine Evt.step (fun k n=>impl_scaledAt_L58.eq_2 k _ _ _ _ _ n) ?_
   rw [List.append_nil]at h
   subst h
   exact Evt.rng0 .pure
  | cons t r ih =>
   intro d h
   have hxl:=congrArg List.length h
   simp at hxl
   have htm:=ht t (by rw [←h];simp)
   have hb:=sb (d ++ [t]) (fun u hu=>ht u (by rw [←h];simp at hu ⊢; rcases hu with hu | hu <;> simp [hu]))
   have ih:=ih (d ++ [t]) (by simpa using h)
   rw [←len_next (r:=r) (by rw [h];simp only [lenB];omega)]at ih
   have g:p.getD (Int.toNat (d.length:Int)) (0,0,0,0)=t:=by rw [←h];exact mid_get
   refine Evt.step (fun k n=>impl_scaledAt_L58.eq_2 k _ _ _ _ _ n) ?_
   rw [g]
   obtain⟨t0,t1,t2,hd,hbb,_⟩:=htm
   have hdg:impl_Term_degree t=some (degT t:Int):=by
    unfold impl_Term_degree degT at *
    rw [w64 (n:=t.2.1+t.2.2.1) (by omega) (by omega),w64 (by omega) (by omega)]
    congr 1
    omega
   have w1:IntKind.wrap .i64 (4 - (degT t:Int))=((4 - degT t:Nat):Int):=by rw [w64 (by omega) (by omega)];omega
   have w2:IntKind.wrap .i64 (9*((4 - degT t:Nat):Int))=((9*(4 - degT t):Nat):Int):=by rw [w64 (by omega) (by omega)];omega
   have m1:min (Int.toNat ((9*(4 - degT t):Nat):Int)) (IntKind.bits .i64)=9*(4 - degT t):=by simp [IntKind.bits];omega
   have hc:(t.1*2 ^ (9*(4 - degT t))).natAbs≤281474976710656000:=by
    rw [Int.natAbs_mul,Int.natAbs_pow]
    have e1:(2:Int).natAbs=2:=rfl
    have h36:2 ^ (9*(4 - degT t))≤2 ^ 36:=Nat.pow_le_pow_right (by decide) (by omega)
    have hn:t.1.natAbs≤4096000:=Nat.le_trans (Nat.le_mul_of_pos_right _ (Nat.pow_pos (by decide))) hbb
    rw [e1]
    exact Nat.le_trans (Nat.mul_le_mul hn h36) (by decide)
   refine Evt.ctrue (by rw [←h];exact mid_lt) (Evt.ctrue mid_ge (Evt.ctrue (by rw [←h];exact mid_lt) (Evt.bind (.const hdg) ?_)))
   rw [w1,w2,m1,w64 (n:=t.1*2 ^ (9*(4 - degT t))) (by omega) (by omega)]
   refine Evt.cfalse (decide_eq_false (by omega)) (Evt.bind (.const (r:=t.2) rfl) (Evt.inr (Evt.diag (sc_term hp (ht t (by rw [←h];simp)) _ _ _ _)) ?_))
   dsimp only
   have es:((d ++ [t]).map (scT pt)).sum=(d.map (scT pt)).sum+scT pt t:=by simp
   rw [es]at ih hb
   simp only [List.length_append,List.length_cons,List.length_nil]at hb
   rw [w64 (n:=(d.map (scT pt)).sum+scT pt t) (by omega) (by omega)]
   exact ih
 exact Evt.inr (Evt.diag (key p [] rfl)) .pure
end Go.Ev.G

namespace Go.Ev.G
open Go Go.Ev
set_option maxRecDepth 100000

def ptV(M:Nat)(pt:List (Int×Int)):Prop:=∀x∈pt,0≤x.2∧x.2≤M∧x.1.natAbs≤8*2 ^ x.2.toNat
def upX(M:Nat)(x:Int×Int):Int:=x.1*2 ^ (M - x.2.toNat)
def vaF(M:Nat)(t:Tm):Nat→Int→List (Int×Int)→Int
 | _,c,[]=>c
 | i,c,x::r=>vaF M t (i+1) (c*upX M x ^ (exI i t).toNat) r
def remE(t:Tm):Nat→List (Int×Int)→Nat
 | _,[]=>0
 | i,_::r=>(exI i t).toNat+remE t (i+1) r
def vaT(M:Nat)(pt:List (Int×Int))(t:Tm):Int:=vaF M t 0 t.1 pt*((2 ^ M:Nat):Int) ^ (4 - degT t)
def kMax(pt:List (Int×Int)):Int:=pt.foldl (fun m x=>max m x.2) 0

theorem upX_bd{M:Nat}{x:Int×Int}(hM:M≤9)(h0:0≤x.2)(hk:x.2≤M)(hb:x.1.natAbs≤8*2 ^ x.2.toNat):(upX M x).natAbs≤4096:=by
 unfold upX
 rw [Int.natAbs_mul,Int.natAbs_pow]
 have e1:(2:Int).natAbs=2:=rfl
 rw [e1]
 refine Nat.le_trans (Nat.mul_le_mul_right _ hb) ?_
 rw [Nat.mul_assoc,←Nat.pow_add]
 have:x.2.toNat+(M - x.2.toNat)≤9:=by omega
 have h2:=Nat.pow_le_pow_right (n:=2) (by decide) this
 have:(2:Nat) ^ 9=512:=by decide
 omega

theorem va_mul{x1:List (Int×Int)}{x6 x9:Int}{x11:Tm}{u:Int}{x30:List Tm}{x31 x32:Int}{x38:List (Int×Int)}{x39 x40:Int}(hu:u.natAbs≤4096):∀(m:Nat) (c:Int),m≤4→c.natAbs*4096 ^ m≤281474976710656000 →
  Evt (fun k n=>spec_vaSum_L131282126 k n x1 x6 x9 x11 c u (m:Int) x30 x31 x32 x38 x39 x40) (.inr (x1,x6,x9,x11,c*u ^ m,x30,x31,x32,x38,x39,x40,())):=by
 intro m
 induction m with
 | zero =>
  intro c _ _
  refine Evt.step (fun k n=>spec_vaSum_L131282126.eq_2 k _ _ _ _ _ _ _ _ _ _ _ _ _ n) ?_
  rw [Int.pow_zero,Int.mul_one]
  exact Evt.cfalse (by decide) .pure
 | succ m ih =>
  intro c hm hc
  have hcx:=natAbs_mul_le (a:=c) hu
  have hc2:(c*u).natAbs*4096 ^ m≤281474976710656000:=by
   refine Nat.le_trans (Nat.mul_le_mul_right _ hcx) ?_
   rw [Nat.mul_assoc,Nat.mul_comm 4096,←Nat.pow_succ]
   exact hc
  have hc3:(c*u).natAbs≤281474976710656000:=Nat.le_trans (Nat.le_mul_of_pos_right _ (Nat.pow_pos (by decide))) hc2
  have ih:=ih (c*u) (by omega) hc2
  refine Evt.step (fun k n=>spec_vaSum_L131282126.eq_2 k _ _ _ _ _ _ _ _ _ _ _ _ _ n) ?_
  have w1:IntKind.wrap .i64 (((m+1:Nat):Int) - 1)=(m:Int):=by rw [w64 (by omega) (by omega)];omega
  rw [w1,w64 (n:=c*u) (by omega) (by omega)]
  rw [Int.mul_assoc,←Int.pow_succ']at ih
  exact Evt.ctrue (decide_eq_true (by omega)) ih

theorem va_up{M:Nat}{x:Int×Int}(hM:M≤9)(h0:0≤x.2)(hk:x.2≤M)(hb:x.1.natAbs≤8*2 ^ x.2.toNat):∃f,Evt (fun k _=>spec_dyAt k x (M:Int)) (upX M x,f):=by
 obtain⟨n,j⟩:=x
 obtain⟨j,rfl⟩:=Int.eq_ofNat_of_zero_le h0
 simp only at hk hb
 have hp:=Nat.pow_le_pow_right (n:=2) (by decide) (show j≤9 by omega)
 have h9:(2:Nat) ^ 9=512:=by decide
 have hj:((j:Nat):Int).toNat=j:=by omega
 rw [hj]at hb
 have hub:=upX_bd (x:=(n,(j:Int))) hM h0 hk (by simpa using hb)
 have e:upX M (n,(j:Int))=n*2 ^ (M - j):=by unfold upX;simp
 rw [e]at hub ⊢
 have hd:=dyAt_ev (n:=n) (j:=j) (K:=M) (by omega) (by omega) (by omega) (by omega)
 cases h:(atV (M - j) n).2 with
 | false =>
  obtain⟨_,hl⟩:=atV_large _ _ h
  omega
 | true =>
  have:=atV_true _ _ h
  refine⟨true,?_⟩
  have e2:atV (M - j) n=(n*2 ^ (M - j),true):=Prod.ext this h
  rw [e2]at hd
  exact hd

theorem va_term{M:Nat}{pt:List (Int×Int)}{t:Tm}(hM:M≤9)(hl:pt.length≤3)(hp:ptV M pt)(ht:tmS pt.length t)(x9:Int)(x30:List Tm)(x31 x32:Int):∀(r d:List (Int×Int)) (c:Int),d++r=pt→c.natAbs*4096 ^ remE t d.length r≤281474976710656000 →
  Evt (fun k n=>spec_vaSum_L256410 k n pt (M:Int) x9 t c x30 x31 x32 pt (pt.length:Int) d.length) (.inr (pt,(M:Int),x9,t,vaF M t d.length c r,x30,x31,x32,())):=by
 intro r
 induction r with
 | nil =>
  intro d c h _
  refine Evt.step (fun k n=>spec_vaSum_L256410.eq_2 k _ _ _ _ _ _ _ _ _ _ _ n) ?_
  rw [List.append_nil]at h
  subst h
  exact Evt.rng0 .pure
 | cons x r ih =>
  intro d c h hc
  have hxl:=congrArg List.length h
  simp at hxl
  obtain⟨t0,t1,t2,hd,_⟩:=ht
  have hx:=hp x (by rw [←h];simp)
  have he0:0≤exI d.length t:=by unfold exI;split <;> assumption
  have he4:exI d.length t≤4:=by
   unfold degT at hd
   unfold exI
   split <;> omega
  obtain⟨f,hup⟩:=va_up hM hx.1 hx.2.1 hx.2.2
  have hub:=upX_bd hM hx.1 hx.2.1 hx.2.2
  have hrem:remE t d.length (x::r)=(exI d.length t).toNat+remE t (d.length+1) r:=rfl
  rw [hrem,Nat.pow_add,←Nat.mul_assoc]at hc
  have hpos:0<4096 ^ remE t (d.length+1) r:=Nat.pow_pos (by decide)
  have hc1:c.natAbs*4096 ^ (exI d.length t).toNat≤281474976710656000:=Nat.le_trans (Nat.le_mul_of_pos_right _ hpos) hc
  have hm:=va_mul (x1:=pt) (x6:=(M:Int)) (x9:=x9) (x11:=t) (u:=upX M x) (x30:=x30) (x31:=x31) (x32:=x32) (x38:=pt) (x39:=(pt.length:Int)) (x40:=(d.length:Int)) hub (exI d.length t).toNat c (by omega) hc1
  have ee:(((exI d.length t).toNat:Nat):Int)=exI d.length t:=by omega
  rw [ee]at hm
  have hc2:(c*upX M x ^ (exI d.length t).toNat).natAbs*4096 ^ remE t (d ++ [x]).length r≤281474976710656000:=by
   have e1:(d ++ [x]).length=d.length+1:=by simp
   rw [e1]
   refine Nat.le_trans (Nat.mul_le_mul_right _ (natAbs_mul_le (B:=4096 ^ (exI d.length t).toNat) ?_)) hc
   rw [Int.natAbs_pow]
   exact Nat.pow_le_pow_left hub _
  have ih:=ih (d ++ [x]) _ (by simpa using h) hc2
  rw [←len_next (r:=r) (by rw [h];simp only [lenB];omega)]at ih
  have g:pt.getD (Int.toNat (d.length:Int)) (0,0)=x:=by rw [←h];exact mid_get
  refine Evt.step (fun k n=>spec_vaSum_L256410.eq_2 k _ _ _ _ _ _ _ _ _ _ _ n) ?_
  rw [g]
  have e1:(d ++ [x]).length=d.length+1:=by simp
  have e2:vaF M t d.length c (x::r)=vaF M t (d ++ [x]).length (c*upX M x ^ (exI d.length t).toNat) r:=by rw [e1];rfl
  rw [e2]
  exact Evt.ctrue (by rw [←h];exact mid_lt) (Evt.ctrue mid_ge (Evt.ctrue (by rw [←h];exact mid_lt) (Evt.bind hup (Evt.bind (.const (poPower_eq3 (by omega) t)) (Evt.inr (Evt.diag hm) ih)))))

theorem va_fill{x1:List (Int×Int)}{M:Nat}{x9:Int}{x30:List Tm}{x31 x32:Int}(hM:M≤9):∀(m:Nat) (c:Int),m≤4→c.natAbs*512 ^ m≤281474976710656000 →
  Evt (fun k n=>spec_vaSum_L512826 k n x1 (M:Int) x9 c ((4 - m:Nat):Int) x30 x31 x32) (.inr (x1,(M:Int),x9,c*((2 ^ M:Nat):Int) ^ m,x30,x31,x32,())):=by
 have hu:(((2 ^ M:Nat):Int)).natAbs≤512:=by
  have hp:=Nat.pow_le_pow_right (n:=2) (by decide) hM
  have h9:(2:Nat) ^ 9=512:=by decide
  rw [Int.natAbs_natCast]
  omega
 intro m
 induction m with
 | zero =>
  intro c _ _
  refine Evt.step (fun k n=>spec_vaSum_L512826.eq_2 k _ _ _ _ _ _ _ _ n) ?_
  rw [Int.pow_zero,Int.mul_one]
  exact Evt.cfalse (decide_eq_false (by omega)) .pure
 | succ m ih =>
  intro c hm hc
  have hcx:=natAbs_mul_le (a:=c) hu
  have hc2:(c*((2 ^ M:Nat):Int)).natAbs*512 ^ m≤281474976710656000:=by
   refine Nat.le_trans (Nat.mul_le_mul_right _ hcx) ?_
   rw [Nat.mul_assoc,Nat.mul_comm 512,←Nat.pow_succ]
   exact hc
  have hc3:(c*((2 ^ M:Nat):Int)).natAbs≤281474976710656000:=Nat.le_trans (Nat.le_mul_of_pos_right _ (Nat.pow_pos (by decide))) hc2
  have ih:=ih (c*((2 ^ M:Nat):Int)) (by omega) hc2
  refine Evt.step (fun k n=>spec_vaSum_L512826.eq_2 k _ _ _ _ _ _ _ _ n) (Evt.ctrue (decide_eq_true (by omega)) (Evt.bind (.const (dyPower_eq (by omega))) ?_))
  have w1:IntKind.wrap .i64 (((4 - (m+1):Nat):Int)+1)=((4 - m:Nat):Int):=by rw [w64 (by omega) (by omega)];omega
  rw [w1,w64 (n:=c*((2 ^ M:Nat):Int)) (by omega) (by omega)]
  rw [Int.mul_assoc,←Int.pow_succ']at ih
  exact ih

theorem vaF_bd{M:Nat}{t:Tm}(hM:M≤9):∀(r:List (Int×Int)) (i:Nat) (c:Int),ptV M r→(vaF M t i c r).natAbs≤c.natAbs*4096 ^ remE t i r
 | [],i,c,_=>by simp [vaF,remE]
 | x::r,i,c,hp=>by
  have hx:=hp x (by simp)
  have hub:=upX_bd hM hx.1 hx.2.1 hx.2.2
  have h1:=vaF_bd (t:=t) hM r (i+1) (c*upX M x ^ (exI i t).toNat) (fun y hy=>hp y (by simp [hy]))
  refine Nat.le_trans h1 ?_
  have hrem:remE t i (x::r)=(exI i t).toNat+remE t (i+1) r:=rfl
  rw [hrem,Nat.pow_add,←Nat.mul_assoc]
  refine Nat.mul_le_mul_right _ (natAbs_mul_le (B:=4096 ^ (exI i t).toNat) ?_)
  rw [Int.natAbs_pow]
  exact Nat.pow_le_pow_left hub _
theorem remE_deg{t:Tm}{pt:List (Int×Int)}(hl:pt.length≤3):remE t 0 pt≤degT t:=by
 unfold degT
 match pt,hl with
 | [],_=>simp [remE]
 | [_],_=>simp [remE,exI] <;> omega
 | [_,_],_=>simp [remE,exI] <;> omega
 | [_,_,_],_=>simp [remE,exI] <;> omega

theorem vaSum_ev{M:Nat}{p:List Tm}{pt:List (Int×Int)}(hM:M≤9)(hl:p.length≤20)(hn:pt.length≤3)(ht:∀t∈p,tmS pt.length t)(hp:ptV M pt)(hk:kMax pt=M):Evt (fun k _=>spec_vaSum k p pt) ((p.map (vaT M pt)).sum,4*(M:Int)):=by
 refine Evt.eq (f:=fun k q=>_) ?_ (fun k q=>by rw [spec_vaSum])
 have k1:∀(r d:List (Int×Int)) (a:Int),d++r=pt→Evt (fun k n=>spec_vaSum_L58 k n p pt a pt (pt.length:Int) d.length) (.inr (p,pt,r.foldl (fun m x=>max m x.2) a,())):=by
  intro r
  induction r with
  | nil =>
   intro d a h
   refine Evt.step (fun k n=>spec_vaSum_L58.eq_2 k _ _ _ _ _ _ n) ?_
   rw [List.append_nil]at h
   subst h
   exact Evt.rng0 .pure
  | cons x r ih =>
   intro d a h
   have ih:=ih (d ++ [x]) (max a x.2) (by simpa using h)
   rw [←len_next (r:=r) (by rw [h];simp only [lenB];omega)]at ih
   have g:pt.getD (Int.toNat (d.length:Int)) (0,0)=x:=by rw [←h];exact mid_get
   refine Evt.step (fun k n=>spec_vaSum_L58.eq_2 k _ _ _ _ _ _ n) ?_
   rw [g]
   exact Evt.ctrue (by rw [←h];exact mid_lt) (Evt.ctrue mid_ge (Evt.ctrue (by rw [←h];exact mid_lt) (Evt.bind (.const (most_eq _ _)) ih)))
 have hkm:=k1 pt [] 0 rfl
 have hkk:pt.foldl (fun m x=>max m x.2) 0=(M:Int):=hk
 rw [hkk]at hkm
 have tb:∀t,tmS pt.length t→t.1.natAbs*4096 ^ remE t 0 pt*512 ^ (4 - degT t)≤281474976710656000:=by
  intro t htm
  obtain⟨t0,t1,t2,hd,hb,_⟩:=htm
  have h1:4096 ^ remE t 0 pt≤4096 ^ degT t:=Nat.pow_le_pow_right (by decide) (remE_deg hn)
  refine Nat.le_trans (Nat.mul_le_mul_right _ (Nat.mul_le_mul_left _ h1)) ?_
  have e2:(4096:Nat)=2 ^ 12:=by decide
  have e3:(512:Nat)=2 ^ 9:=by decide
  rw [e2,e3,←Nat.pow_mul,←Nat.pow_mul,Nat.mul_assoc,←Nat.pow_add]
  have e4:12*degT t+9*(4 - degT t)=3*degT t+36:=by omega
  rw [e4,Nat.pow_add,←Nat.mul_assoc]
  have:(2:Nat) ^ 36=68719476736:=by decide
  rw [this]
  omega
 have vb:∀t,tmS pt.length t→(vaF M t 0 t.1 pt).natAbs*512 ^ (4 - degT t)≤281474976710656000:=fun t htm=>Nat.le_trans (Nat.mul_le_mul_right _ (vaF_bd hM pt 0 t.1 hp)) (tb t htm)
 have vt:∀t,tmS pt.length t→(vaT M pt t).natAbs≤281474976710656000:=by
  intro t htm
  unfold vaT
  refine Nat.le_trans (natAbs_mul_le (B:=512 ^ (4 - degT t)) ?_) (vb t htm)
  rw [Int.natAbs_pow]
  refine Nat.pow_le_pow_left ?_ _
  have hpp:=Nat.pow_le_pow_right (n:=2) (by decide) hM
  have h9:(2:Nat) ^ 9=512:=by decide
  rw [Int.natAbs_natCast]
  omega
 have sb:∀(d:List Tm),(∀t∈d,tmS pt.length t)→((d.map (vaT M pt)).sum).natAbs≤d.length*281474976710656000:=by
  intro d
  induction d with
  | nil=>intro _;simp
  | cons e d ih =>
   intro h
   have h1:=ih (fun t ht=>h t (by simp [ht]))
   have h2:=vt e (h e (by simp))
   simp only [List.map_cons,List.sum_cons,List.length_cons]
   rw [Nat.add_mul]
   have:=Int.natAbs_add_le (vaT M pt e) ((d.map (vaT M pt)).sum)
   omega
 have key:∀(r d:List Tm),d++r=p→Evt (fun k n=>spec_vaSum_L250 k n pt (M:Int) ((d.map (vaT M pt)).sum) p (p.length:Int) d.length) (.inr ((M:Int),(p.map (vaT M pt)).sum,())):=by
  intro r
  induction r with
  | nil =>
   intro d h
   refine Evt.step (fun k n=>spec_vaSum_L250.eq_2 k _ _ _ _ _ _ n) ?_
   rw [List.append_nil]at h
   subst h
   exact Evt.rng0 .pure
  | cons t r ih =>
   intro d h
   have hxl:=congrArg List.length h
   simp at hxl
   have htm:=ht t (by rw [←h];simp)
   have hb:=sb (d ++ [t]) (fun u hu=>ht u (by rw [←h];simp at hu ⊢; rcases hu with hu | hu <;> simp [hu]))
   have ih:=ih (d ++ [t]) (by simpa using h)
   rw [←len_next (r:=r) (by rw [h];simp only [lenB];omega)]at ih
   have g:p.getD (Int.toNat (d.length:Int)) (0,0,0,0)=t:=by rw [←h];exact mid_get
   have h1:=va_term hM hn hp htm ((d.map (vaT M pt)).sum) p (p.length:Int) (d.length:Int) pt [] t.1 rfl (Nat.le_trans (Nat.le_mul_of_pos_right _ (Nat.pow_pos (by decide))) (tb t htm))
   have h2:=va_fill (x1:=pt) (x9:=(d.map (vaT M pt)).sum) (x30:=p) (x31:=(p.length:Int)) (x32:=(d.length:Int)) hM (4 - degT t) (vaF M t 0 t.1 pt) (by omega) (vb t htm)
   obtain⟨t0,t1,t2,hd,hbb,_⟩:=htm
   have hdg:IntKind.wrap .i64 ((IntKind.wrap .i64 (t.2.1+t.2.2.1))+t.2.2.2)=((4 - (4 - degT t):Nat):Int):=by
    unfold degT at *
    rw [w64 (n:=t.2.1+t.2.2.1) (by omega) (by omega),w64 (by omega) (by omega)]
    omega
   rw [←hdg]at h2
   refine Evt.step (fun k n=>spec_vaSum_L250.eq_2 k _ _ _ _ _ _ n) ?_
   rw [g]
   refine Evt.ctrue (by rw [←h];exact mid_lt) (Evt.ctrue mid_ge (Evt.ctrue (by rw [←h];exact mid_lt) (Evt.inr (Evt.diag h1) (Evt.inr (Evt.diag h2) ?_))))
   dsimp only
   have es:((d ++ [t]).map (vaT M pt)).sum=(d.map (vaT M pt)).sum+vaF M t 0 t.1 pt*((2 ^ M:Nat):Int) ^ (4 - degT t):=by simp [vaT]
   rw [es]at ih hb
   simp only [List.length_append,List.length_cons,List.length_nil]at hb
   rw [w64 (n:=(d.map (vaT M pt)).sum+vaF M t 0 t.1 pt*((2 ^ M:Nat):Int) ^ (4 - degT t)) (by omega) (by omega)]
   exact ih
 refine Evt.inr (Evt.diag hkm) (Evt.inr (Evt.diag (key p [] rfl)) ?_)
 dsimp only
 rw [w64 (n:=4*(M:Int)) (by omega) (by omega)]
 exact .pure

theorem sc_va{M:Nat}{pt:List (Int×Int)}{t:Tm}(hM:M≤9)(hn:1≤pt.length∧pt.length≤3)(ht:tmS pt.length t)(hp:ptV M pt):scT pt t=vaT M pt t*(2 ^ (9 - M)) ^ 4:=by
 obtain⟨t0,t1,t2,hd,_,i0,i1,i2⟩:=ht
 have hX:∀x∈pt,x.1*2 ^ (9 - x.2).toNat=upX M x*2 ^ (9 - M):=by
  intro x hx
  obtain⟨h0,hk,_⟩:=hp x hx
  unfold upX
  rw [Int.mul_assoc,←Int.pow_add]
  congr 2
  omega
 have hP:(2:Int) ^ (9*(4 - degT t))=((2 ^ M:Nat):Int) ^ (4 - degT t)*(2 ^ (9 - M)) ^ (4 - degT t):=by
  have e:((2 ^ M:Nat):Int)=(2:Int) ^ M:=by simp
  rw [e,←Int.mul_pow,←Int.pow_add,←Int.pow_mul]
  congr 1
  have:M+(9 - M)=9:=by omega
  rw [this]
 have hW:∀(a b c:Nat),a+b+c=degT t→((2:Int) ^ (9 - M)) ^ 4=(2 ^ (9 - M)) ^ (4 - degT t)*(2 ^ (9 - M)) ^ a*(2 ^ (9 - M)) ^ b*(2 ^ (9 - M)) ^ c:=by
  intro a b c h
  rw [←Int.pow_add,←Int.pow_add,←Int.pow_add]
  congr 1
  omega
 have hdg:t.2.1.toNat+t.2.2.1.toNat+t.2.2.2.toNat=degT t:=rfl
 unfold scT vaT
 rw [hP,hW _ _ _ hdg]
 match pt,hn,hX,i0,i1,i2 with
 | [x],_,hX,_,i1,i2 =>
  have e1:t.2.2.1.toNat=0:=by simp at i1;omega
  have e2:t.2.2.2.toNat=0:=by simp at i2;omega
  have x0:scX [x] 0=upX M x*2 ^ (9 - M):=hX x (by simp)
  rw [e1,e2,x0]
  simp only [vaF,exI,Int.pow_zero,Int.mul_one,Int.mul_pow]
  ac_rfl
 | [x,y],_,hX,_,_,i2 =>
  have e2:t.2.2.2.toNat=0:=by simp at i2;omega
  have x0:scX [x,y] 0=upX M x*2 ^ (9 - M):=hX x (by simp)
  have x1:scX [x,y] 1=upX M y*2 ^ (9 - M):=hX y (by simp)
  rw [e2,x0,x1]
  simp only [vaF,exI,Int.pow_zero,Int.mul_one,Int.mul_pow]
  ac_rfl
 | [x,y,z],_,hX,_,_,_ =>
  have x0:scX [x,y,z] 0=upX M x*2 ^ (9 - M):=hX x (by simp)
  have x1:scX [x,y,z] 1=upX M y*2 ^ (9 - M):=hX y (by simp)
  have x2:scX [x,y,z] 2=upX M z*2 ^ (9 - M):=hX z (by simp)
  rw [x0,x1,x2]
  simp only [vaF,exI,Int.mul_pow]
  ac_rfl
theorem scV_va{M:Nat}{p:List Tm}{pt:List (Int×Int)}(hM:M≤9)(hn:1≤pt.length∧pt.length≤3)(ht:∀t∈p,tmS pt.length t)(hp:ptV M pt):scV p pt=(p.map (vaT M pt)).sum*(2 ^ (9 - M)) ^ 4:=by
 unfold scV
 induction p with
 | nil=>simp
 | cons t p ih =>
  rw [List.map_cons,List.sum_cons,List.map_cons,List.sum_cons,Int.add_mul,ih (fun u hu=>ht u (by simp [hu])),sc_va hM hn (ht t (by simp)) hp]
theorem ptV_S{M:Nat}{pt:List (Int×Int)}(hM:M≤9)(hp:ptV M pt):ptS pt:=by
 intro x hx
 obtain⟨h0,hk,hb⟩:=hp x hx
 refine⟨h0,by omega,?_⟩
 have:=upX_bd (M:=9) (Nat.le_refl _) h0 (by omega) hb
 unfold upX at this
 have e:(9 - x.2).toNat=9 - x.2.toNat:=by omega
 rw [e]
 exact this
end Go.Ev.G

namespace Go.Ev.G
open Go Go.Ev
set_option maxRecDepth 100000

def numS(r:Int×Int):Prop:=0≤r.2∧r.2≤8∧r.1.natAbs≤8*2 ^ r.2.toNat
theorem mkD_numS{v:Int}{k:Nat}(hk:k≤8)(hv:v.natAbs≤8*2 ^ k):numS (mkD v k).1:=by
 unfold mkD
 split
 ·have h1:=strip_val k v
  have h2:=strip_le k v
  refine⟨by simp,by simp only;omega,?_⟩
  have e:(((strip k v).2:Int)).toNat=(strip k v).2:=by omega
  simp only
  rw [e]
  generalize (strip k v).1=n at h1 ⊢
  generalize (strip k v).2=j at h1 h2 ⊢
  have h3:n.natAbs*2 ^ (k - j)=v.natAbs:=by rw [←h1,Int.natAbs_mul,Int.natAbs_pow];rfl
  have hp:0<2 ^ (k - j):=Nat.pow_pos (by decide)
  have h4:n.natAbs*2 ^ (k - j)≤(8*2 ^ j)*2 ^ (k - j):=by
   rw [h3,Nat.mul_assoc,←Nat.pow_add,show j+(k - j)=k by omega]
   exact hv
  exact Nat.le_of_mul_le_mul_right h4 hp
 ·exact⟨by simp,by simp,by simp⟩
theorem between{m D:Nat}{l h x:Int}(hl : -(8*2 ^ m)≤l)(hlh:l<h)(hh:h≤8*2 ^ m)(h0:0≤x)(h1:x≤2 ^ D):(l*2 ^ D+x*(h - l)).natAbs≤8*2 ^ (m+D):=by
 have hP:(0:Int)≤2 ^ D:=Int.le_of_lt (Int.pow_pos (by decide))
 have e1:l*2 ^ D+x*(h - l)=l*(2 ^ D - x)+h*x:=by rw [Int.mul_sub,Int.mul_sub,Int.mul_comm x h,Int.mul_comm x l];omega
 have a1 : -(8*2 ^ m)*(2 ^ D - x)≤l*(2 ^ D - x):=Int.mul_le_mul_of_nonneg_right hl (by omega)
 have a2 : -(8*2 ^ m)*x≤h*x:=Int.mul_le_mul_of_nonneg_right (by omega) h0
 have b1:l*(2 ^ D - x)≤8*2 ^ m*(2 ^ D - x):=Int.mul_le_mul_of_nonneg_right (by omega) (by omega)
 have b2:h*x≤8*2 ^ m*x:=Int.mul_le_mul_of_nonneg_right hh h0
 have e2:(8:Int)*2 ^ m*(2 ^ D - x)+8*2 ^ m*x=8*2 ^ m*2 ^ D:=by rw [←Int.mul_add];congr 1;omega
 have e3:((8*2 ^ (m+D):Nat):Int)=8*2 ^ m*2 ^ D:=by rw [Nat.pow_add,←Nat.mul_assoc];simp
 rw [Int.neg_mul]at a1 a2
 omega
def qq(a b:Int):Option Int:=if a=0∧b=0 then none else some (if 0<a∧0≤b then 0 else if a≤0∧0<b then 1 else if a<0 then 2 else 3)
end Go.Ev.G

namespace Go.Ev.G
open Go Go.Ev
set_option maxRecDepth 100000

theorem strip_shift:∀(j k:Nat) (n:Int),strip (k+j) (n*2 ^ j)=strip k n
 | 0,k,n=>by simp
 | j+1,k,n=>by
  have e:n*2 ^ (j+1)=2*(n*2 ^ j):=by rw [Int.pow_succ,←Int.mul_assoc,Int.mul_comm _ 2]
  rw [←Nat.add_assoc,strip,e,if_pos (by omega),show 2*(n*2 ^ j) / 2=n*2 ^ j by omega,strip_shift j k n]
theorem mkD_shift(n:Int)(j k:Nat):mkD (n*2 ^ j) (k+j)=mkD n k:=by unfold mkD;rw [strip_shift]

def midB(m:Nat)(lo hi:List Int):List (Int×Int):=(lo.zip hi).map fun p=>(mkD (p.1+p.2) (m+1)).1
theorem midB_len{s:List (List Tm)}{m:Nat}{lo hi:List Int}(h:NwOk s m lo hi):(midB m lo hi).length=lo.length:=by
 have:=h.hl
 simp [midB]
 omega
theorem midB_gd{m:Nat}{lo hi:List Int}:∀x∈midB m lo hi,gd x:=by
 intro x hx
 obtain⟨p,_,rfl⟩:=List.mem_map.1 hx
 exact mkD_gd _ _
theorem midB_S{s:List (List Tm)}{m:Nat}{lo hi:List Int}(h:NwOk s m lo hi):∀x∈midB m lo hi,numS x:=by
 intro x hx
 obtain⟨p,hp,rfl⟩:=List.mem_map.1 hx
 have hm:=h.m4
 obtain⟨b1,b2⟩:=h.b8 p hp
 obtain⟨_,c2,_⟩:=h.bd p hp
 refine mkD_numS (by omega) ?_
 have e3:((8*2 ^ (m+1):Nat):Int)=2*(8*2 ^ m):=by rw [Nat.pow_succ];simp;omega
 omega
theorem foldl_max:∀(l:List (Int×Int)) (a:Int),a≤l.foldl (fun m x=>max m x.2) a∧(∀x∈l,x.2≤l.foldl (fun m x=>max m x.2) a)∧∀B,a≤B→(∀x∈l,x.2≤B)→l.foldl (fun m x=>max m x.2) a≤B
 | [],a=>⟨Int.le_refl _,by simp,fun _ h _=>h⟩
 | x::l,a=>by
  obtain⟨h1,h2,h3⟩:=foldl_max l (max a x.2)
  simp only [List.foldl_cons]
  refine⟨by omega,?_,fun B hB hl=>h3 B (by have:=hl x (by simp);omega) (fun y hy=>hl y (by simp [hy]))⟩
  intro y hy
  rcases List.mem_cons.1 hy with rfl | hy
  ·omega
  ·exact h2 y hy
theorem numS_V{l:List (Int×Int)}(h:∀x∈l,numS x):∃M:Nat,M≤8∧kMax l=M∧ptV M l:=by
 obtain⟨h1,h2,h3⟩:=foldl_max l 0
 have h4:=h3 8 (by omega) (fun x hx=>(h x hx).2.1)
 refine⟨(kMax l).toNat,?_,?_,fun x hx=>⟨(h x hx).1,?_,(h x hx).2.2⟩⟩
 ·unfold kMax;omega
 ·unfold kMax;omega
 ·have:=h2 x hx
  unfold kMax
  omega
theorem nw_tmS{s:List (List Tm)}{m:Nat}{lo hi:List Int}(h:NwOk s m lo hi){p:List Tm}(hp:p∈s):p.length≤20∧∀t∈p,tmS lo.length t:=by
 have hn:=h.n1
 have hpo:=h.po p hp
 have hnd:=h.nd p hp
 rw [h.sl]at hnd
 refine⟨polyV_len hpo,fun t ht => ?_⟩
 have hg:=polyV_gd hpo t ht
 rw [needs_any,List.any_eq_false]at hnd
 have hz:=hnd t ht
 simp only [needsT,Bool.or_eq_true,Bool.and_eq_true,decide_eq_true_eq]at hz
 obtain⟨c,x,y,z,d⟩:=hg
 have hd:degT t≤4:=by unfold degT;omega
 refine⟨x.1,y.1,z.1,hd,?_,fun _=>by omega,fun _=>by omega,fun _=>by omega⟩
 have h1:2 ^ (3*degT t)≤2 ^ 12:=Nat.pow_le_pow_right (by decide) (by omega)
 exact Nat.le_trans (Nat.mul_le_mul (show t.1.natAbs≤1000 by omega) h1) (by decide)
theorem scV_bd{pt:List (Int×Int)}(hp:ptS pt):∀ {p:List Tm},(∀t∈p,tmS pt.length t)→(scV p pt).natAbs≤p.length*281474976710656000
 | [],_=>by simp [scV]
 | t::p,h=>by
  have h1:=scT_bd hp (h t (by simp))
  have h2:=scV_bd hp (p:=p) (fun u hu=>h u (by simp [hu]))
  have e:scV (t::p) pt=scT pt t+scV p pt:=by simp [scV]
  rw [e,List.length_cons]
  omega
def vaO(pt:List (Int×Int))(p:List Tm):Option (Int×Int):=let q:=mkD (scV p pt) 36;if q.2 then some q.1 else none
theorem vaO_eq{M:Nat}{p:List Tm}{pt:List (Int×Int)}(hM:M≤9)(hn:1≤pt.length∧pt.length≤3)(ht:∀t∈p,tmS pt.length t)(hp:ptV M pt):mkD ((p.map (vaT M pt)).sum) (4*M)=mkD (scV p pt) 36:=by
 rw [scV_va hM hn ht hp,←Int.pow_mul]
 rw [show 36=4*M+(9 - M)*4 by omega,mkD_shift]
end Go.Ev.G

namespace Go.Ev.G
open Go Go.Ev
set_option maxRecDepth 100000

theorem ivGd.gdI{x:Iv}(h:ivGd x):gdI x:=⟨h.1,h.2.1⟩
def stT(o:Option Iv)(x:Int×Int)(y:Iv):Option Iv:=match o with
 | none=>none
 | some s=>match mulO (x,x) y with
  | none=>none
  | some p=>addO s p
def foldT:Option Iv→Pt→List Iv→Option Iv
 | o,x::xs,y::ys=>foldT (stT o x y) xs ys
 | o,_,_=>o
theorem foldT_none:∀(xs:Pt) (ys:List Iv),foldT none xs ys=none
 | [],_=>by cases ‹List Iv› <;> rfl
 | _::_,[]=>rfl
 | _::xs,_::ys=>foldT_none xs ys
def colI(m:List (List Iv))(j:Nat):List Iv:=m.map fun r=>r.getD j zI
def colsI(m:List (List Iv)):List (List Iv):=(List.range m.length).map (colI m)
def inI(row:Pt)(c:List Iv):Option Iv:=foldT (some zI) row c
def rowI(m:List (List Iv))(row:Pt):Option (List Iv):=if ((colsI m).all fun c=>(inI row c).isSome)then some ((colsI m).map fun c=>(inI row c).getD zI)else none
theorem colsI_len(b:List (List Iv)):(colsI b).length=b.length:=by simp [colsI]
theorem colsI_at{b:List (List Iv)}{d r:List (List Iv)}{e:List Iv}(h:d++e::r=colsI b):e=colI b d.length∧d.length<b.length:=by
 have hl:=congrArg List.length h
 rw [colsI_len]at hl
 simp at hl
 have h1:d.length<b.length:=by omega
 have h2:(d++e::r)[d.length]? = some e:=by simp
 rw [h]at h2
 unfold colsI at h2
 rw [List.getElem?_map,List.getElem?_range h1]at h2
 simp only [Option.map_some,Option.some.injEq]at h2
 exact⟨h2.symm,h1⟩
theorem stT_some{s:Iv}{x:Int×Int}{y:Iv}:stT (some s) x y=(mulO (x,x) y).bind (addO s):=by unfold stT;cases mulO (x,x) y <;> rfl

theorem tiSpec_in{m:List (List Iv)}{row:Pt}{c:Nat}(hm:∀r∈m,c<r.length∧∀x∈r,ivGd x)(hr:∀x∈row,gd x)(hl:row.length=m.length)(hb:row.length<lenB)(x6:List (List Iv))(x9:List Iv)(x18:List Pt)(x19 x20 x25 x26:Int):∀(r:Pt) (r2:List (List Iv)) (d:Pt) (d2:List (List Iv)) (s:Iv),d++r=row→d2++r2=m→d.length=d2.length→gdI s →
  Evt (fun k n=>spec_mxTimesIn_L61237658 k n m x6 row x9 (c:Int) s x18 x19 x20 x25 x26 row (row.length:Int) d.length) (match foldT (some s) r (r2.map fun q=>q.getD c zI)with | some t => .inr (m,x6,row,x9,t,x18,x19,x20,x25,x26,()) | none => .inl ([],false)):=by
 intro r
 induction r with
 | nil =>
  intro r2 d d2 s h h2 hd hs
  refine Evt.step (fun k n=>spec_mxTimesIn_L61237658.eq_2 k _ _ _ _ _ _ _ _ _ _ _ _ _ _ n) ?_
  rw [List.append_nil]at h
  subst h
  have e:foldT (some s) [] (r2.map fun q=>q.getD c zI)=some s:=by cases r2 <;> rfl
  rw [e]
  exact Evt.rng0 .pure
 | cons e r ih =>
  intro r2 d d2 s h h2 hd hs
  refine Evt.step (fun k n=>spec_mxTimesIn_L61237658.eq_2 k _ _ _ _ _ _ _ _ _ _ _ _ _ _ n) ?_
  have hxl:=congrArg List.length h
  have hyl:=congrArg List.length h2
  simp at hxl hyl
  cases r2 with
  | nil=>simp at hyl;omega
  | cons f r2 =>
  have hf:=hm f (by rw [←h2];simp)
  have e1:row.getD (Int.toNat (d.length:Int)) (0,0)=e:=by rw [←h];exact mid_get
  have e2:m.getD (Int.toNat (d.length:Int)) []=f:=by rw [←h2,hd];exact mid_get
  refine Evt.ctrue (by rw [←h];exact mid_lt) (Evt.ctrue mid_ge (Evt.ctrue (by rw [←h];exact mid_lt) (Evt.ctrue mid_ge (Evt.ctrue (decide_eq_true (by omega)) (Evt.ctrue (decide_eq_true (by omega)) ?_)))))
  rw [e1,e2]
  have e3:Int.toNat (c:Int)=c:=by omega
  rw [e3]
  refine Evt.ctrue (decide_eq_true (by have:=hf.1;omega)) (Evt.bind (ivMul_ev ⟨hr e (by rw [←h];simp),hr e (by rw [←h];simp)⟩ (ivGd.gdI (hf.2 _ (getI_mem hf.1)))) ?_)
  simp only [List.map_cons,foldT,stT]
  cases hmu:mulO (e,e) (f.getD c zI)with
  | none =>
   simp only [foldT_none]
   exact Evt.ctrue rfl .pure
  | some p =>
   refine Evt.cfalse rfl (Evt.bind (ivAdd_ev hs (mulO_gd hmu)) ?_)
   simp only
   cases had:addO s p with
   | none =>
    simp only [foldT_none]
    exact Evt.ctrue rfl .pure
   | some t =>
    have ih:=ih r2 (d ++ [e]) (d2 ++ [f]) t (by simpa using h) (by simpa using h2) (by simp [hd]) (addO_gd had)
    rw [←len_next (r:=r) (by rw [h];exact hb)]at ih
    exact Evt.cfalse rfl ih

theorem mxTimesIn_ev{a:List Pt}{m:List (List Iv)}(hb:a.length<274877906944)(hm:∀r∈a,r.length<lenB)(hb':m.length<274877906944)(hm':∀r∈m,r.length<lenB)(ht:tab gd a=true)(ht':tab ivGd m=true)(hl:a.length=m.length):Evt (fun k _=>spec_mxTimesIn k a m) (if (a.all fun r=>(rowI m r).isSome)then(a.map fun r=>(rowI m r).getD [],true)else([],false)):=by
 have hg:=tab_gd ht
 obtain⟨n,hn,hsq⟩:=sq_tab ht'
 have hg':∀j,j<m.length→∀r∈m,j<r.length∧∀x∈r,ivGd x:=fun j hj r hr=>⟨by rw [(hsq.2 r hr).1,←hsq.1];exact hj,(hsq.2 r hr).2⟩
 have inner:∀(row:Pt) (x6:List (List Iv)) (x18:List Pt) (x19 x20:Int),row.length=m.length→(∀x∈row,gd x)→∀(r d:List (List Iv)),d++r=colsI m →
   Evt (fun k n=>spec_mxTimesIn_L59802 k n m x6 row (d.map fun c=>(inI row c).getD zI) x18 x19 x20 (m.length:Int) d.length) (if (r.all fun c=>(inI row c).isSome)then .inr (m,x6,(colsI m).map fun c=>(inI row c).getD zI,x18,x19,x20,())else .inl ([],false)):=by
  intro row x6 x18 x19 x20 hrl hrg r
  induction r with
  | nil =>
   intro d h
   refine Evt.step (fun k n=>spec_mxTimesIn_L59802.eq_2 k _ _ _ _ _ _ _ _ _ n) ?_
   rw [List.append_nil]at h
   rw [h,colsI_len]
   exact Evt.cfalse (decide_eq_false (by omega)) .pure
  | cons e r ih =>
   intro d h
   obtain⟨he,hd⟩:=colsI_at h
   refine Evt.step (fun k n=>spec_mxTimesIn_L59802.eq_2 k _ _ _ _ _ _ _ _ _ n) (Evt.ctrue (decide_eq_true (by omega)) ?_)
   have ih:=ih (d ++ [e]) (by simpa using h)
   rw [←len_next (e:=e) (r:=r) (by rw [h,colsI_len];simp only [lenB];omega)]at ih
   have hi:=tiSpec_in (m:=m) (row:=row) (hg' d.length hd) hrg hrl (by simp only [lenB];omega) x6 (d.map fun c=>(inI row c).getD zI) x18 x19 x20 (m.length:Int) (d.length:Int) row m [] [] zI rfl rfl rfl zI_gd
   simp only [List.length_nil]at hi
   have e4:foldT (some zI) row (m.map fun q=>q.getD d.length zI)=inI row e:=by rw [he];rfl
   rw [e4]at hi
   rw [List.map_append,List.map_cons]at ih
   cases ho:inI row e with
   | none =>
    rw [ho]at hi
    simp only [List.all_cons,ho,Option.isSome_none,Bool.false_and]
    exact Evt.inl (Evt.diag hi) .pure
   | some t =>
    rw [ho]at ih hi
    simp only [List.all_cons,ho,Option.isSome_some,Bool.true_and]
    exact Evt.inr (Evt.diag hi) (Evt.ctrue (by simp;omega) ih)
 have key:∀(r d:List Pt),d++r=a→Evt (fun k n=>spec_mxTimesIn_L58 k n m (d.map fun r=>(rowI m r).getD []) a (a.length:Int) d.length) (if (r.all fun r=>(rowI m r).isSome)then .inr (a.map fun r=>(rowI m r).getD [],())else .inl ([],false)):=by
  intro r
  induction r with
  | nil =>
   intro d h
   refine Evt.step (fun k n=>spec_mxTimesIn_L58.eq_2 k _ _ _ _ _ n) ?_
   rw [List.append_nil]at h
   subst h
   exact Evt.rng0 .pure
  | cons e r ih =>
   intro d h
   refine Evt.step (fun k n=>spec_mxTimesIn_L58.eq_2 k _ _ _ _ _ n) ?_
   have hme:e∈a:=by rw [←h];simp
   have hge:=hg e hme
   have hi:=inner e (d.map fun r=>(rowI m r).getD []) a (a.length:Int) (d.length:Int) (by omega) hge.2 (colsI m) [] rfl
   simp only [List.length_nil,List.map_nil]at hi
   have ih:=ih (d ++ [e]) (by simpa using h)
   rw [←len_next (r:=r) (by rw [h];simp only [lenB];omega)]at ih
   have hxl:=congrArg List.length h
   simp at hxl
   subst h
   refine Evt.ctrue mid_lt (Evt.ctrue mid_ge (Evt.ctrue mid_lt ?_))
   rw [mid_get]
   rw [List.map_append,List.map_cons]at ih
   cases hall:(colsI m).all fun c=>(inI e c).isSome with
   | false =>
    rw [hall]at hi
    have hmr:rowI m e=none:=by unfold rowI;rw [hall];rfl
    simp only [List.all_cons,hmr,Option.isSome_none,Bool.false_and]
    exact Evt.inl (Evt.diag hi) .pure
   | true =>
    rw [hall]at hi
    have hmr:rowI m e=some ((colsI m).map fun c=>(inI e c).getD zI):=by unfold rowI;rw [hall];rfl
    rw [hmr]at ih
    simp only [List.all_cons,hmr,Option.isSome_some,Bool.true_and]
    exact Evt.inr (Evt.diag hi) (Evt.ctrue (by simp;omega) ih)
 have h0:=key a [] rfl
 simp only [List.length_nil,List.map_nil]at h0
 refine Evt.eq (f:=fun k q=>_) ?_ (fun k q=>by rw [spec_mxTimesIn])
 cases hall:a.all fun r=>(rowI m r).isSome with
 | true=>rw [hall]at h0;exact Evt.inr (Evt.diag h0) .pure
 | false=>rw [hall]at h0;exact Evt.inl (Evt.diag h0) .pure

def Fl(b0 c:Bool)(o:Option Iv)(v:Iv):Prop:=gdI v∧c=(b0&&o.isSome)∧(c=true→o=some v)

theorem tiImpl_in{a:List Pt}{m:List (List Iv)}{row:Pt}{c i:Nat}(hi:i<a.length)(hrow:a.getD (Int.toNat (i:Int)) []=row)(hm:∀r∈m,c<r.length∧∀x∈r,ivGd x)(hr:∀x∈row,gd x)(hl:row.length=m.length)(hb:row.length<lenB)(b0:Bool)(x7:List (List Iv))(x9:List Iv)(x16 x17 x21 x22:Int) :
  ∀(r:Pt) (r2:List (List Iv)) (d:Pt) (d2:List (List Iv)) (f0:Bool) (o:Option Iv) (s:Iv),d++r=row→d2++r2=m→d.length=d2.length→Fl b0 f0 o s →
  ∃f1 s1,Fl b0 f1 (foldT o r (r2.map fun q=>q.getD c zI)) s1∧Evt (fun k n=>impl_timesIntervals_L128346522 k n a m f0 x7 (i:Int) x9 (c:Int) s d.length x16 x17 x21 x22) (.inr (a,m,f1,x7,(i:Int),x9,s1,x16,x17,x21,x22,())):=by
 intro r
 induction r with
 | nil =>
  intro r2 d d2 f0 o s h h2 hd hs
  have e:foldT o [] (r2.map fun q=>q.getD c zI)=o:=by cases r2 <;> rfl
  rw [e]
  refine⟨f0,s,hs,Evt.step (fun k n=>impl_timesIntervals_L128346522.eq_2 k _ _ _ _ _ _ _ _ _ _ _ _ _ n) ?_⟩
  rw [List.append_nil]at h
  exact Evt.cfalse (decide_eq_false (by rw [h];omega)) .pure
 | cons e r ih =>
  intro r2 d d2 f0 o s h h2 hd hs
  have hxl:=congrArg List.length h
  have hyl:=congrArg List.length h2
  simp at hxl hyl
  cases r2 with
  | nil=>simp at hyl;omega
  | cons f r2 =>
  have hf:=hm f (by rw [←h2];simp)
  have he:=hr e (by rw [←h];simp)
  have e1:row.getD (Int.toNat (d.length:Int)) (0,0)=e:=by rw [←h];exact mid_get
  have e2:m.getD (Int.toNat (d.length:Int)) []=f:=by rw [←h2,hd];exact mid_get
  obtain⟨v1,g1,w1,ev1⟩:=multiply_ev (b:=f0) (i:=(e,e)) (k':=f.getD c zI) ⟨he,he⟩ (ivGd.gdI (hf.2 _ (getI_mem hf.1)))
  obtain⟨v2,g2,w2,ev2⟩:=addI_ev (b:=f0&&(mulO (e,e) (f.getD c zI)).isSome) (i:=s) (k':=v1) hs.1 g1
  have hfl:Fl b0 (f0&&(mulO (e,e) (f.getD c zI)).isSome&&(addO s v1).isSome) (stT o e (f.getD c zI)) v2:=by
   obtain⟨q1,q2,q3⟩:=hs
   refine⟨g2,?_,?_⟩
   ·cases f0 with
    | true =>
     rw [q3 rfl]at q2 ⊢
     simp only [Option.isSome_some,Bool.and_true]at q2
     subst q2
     cases hmu:mulO (e,e) (f.getD c zI)with
     | none=>rw [stT_some,hmu];rfl
     | some p =>
      have:=w1 rfl (by rw [hmu];rfl)
      rw [hmu]at this
      cases this
      rw [stT_some,hmu]
      rfl
    | false =>
     simp only [Bool.false_and]
     cases o with
     | none=>simp [stT]
     | some z=>simp at q2;simp [q2]
   ·intro hc
    simp only [Bool.and_eq_true]at hc
    obtain⟨⟨c1,c2⟩,c3⟩:=hc
    subst c1
    rw [q3 rfl]
    have w1:=w1 rfl c2
    have w2:=w2 (by rw [c2];rfl) c3
    rw [stT_some,w1]
    exact w2
  obtain⟨f1,s1,k1,k2⟩:=ih r2 (d ++ [e]) (d2 ++ [f]) _ _ v2 (by simpa using h) (by simpa using h2) (by simp [hd]) hfl
  refine⟨f1,s1,k1,Evt.step (fun k n=>impl_timesIntervals_L128346522.eq_2 k _ _ _ _ _ _ _ _ _ _ _ _ _ n) ?_⟩
  rw [←len_next (r:=r) (by rw [h];exact hb)]at k2
  refine Evt.ctrue (decide_eq_true (by omega)) (Evt.ctrue mid_ge (Evt.ctrue (decide_eq_true (by omega)) (Evt.ctrue mid_ge ?_)))
  rw [hrow]
  refine Evt.ctrue (decide_eq_true (by omega)) (Evt.bind (Evt.const (r:=(e,e)) (by rw [e1];rfl)) (Evt.ctrue mid_ge (Evt.ctrue (decide_eq_true (by omega)) (Evt.ctrue mid_ge ?_))))
  rw [e2]
  have e3:Int.toNat (c:Int)=c:=by omega
  rw [e3]
  exact Evt.ctrue (decide_eq_true (by have:=hf.1;omega)) (Evt.bind ev1 (Evt.bind ev2 k2))

theorem timesIn_ev{a:List Pt}{m:List (List Iv)}(hb:a.length<lenB)(hm:∀r∈a,r.length<lenB)(hb':m.length<lenB)(hm':∀r∈m,r.length<lenB)(ht:tab gd a=true)(ht':tab ivGd m=true)(hl:a.length=m.length):Evt (fun k _=>impl_timesIntervals k a m) (if (a.all fun r=>(rowI m r).isSome)then(a.map fun r=>(rowI m r).getD [],true)else([],false)):=by
 have hg:=tab_gd ht
 obtain⟨n,hn,hsq⟩:=sq_tab ht'
 have hg':∀j,j<m.length→∀r∈m,j<r.length∧∀x∈r,ivGd x:=fun j hj r hr=>⟨by rw [(hsq.2 r hr).1,←hsq.1];exact hj,(hsq.2 r hr).2⟩
 have inner:∀(row:Pt) (i:Nat) (x7:List (List Iv)) (x16 x17:Int),a.getD (Int.toNat (i:Int)) []=row→i<a.length→row∈a→∀(b0:Bool) (r d:List (List Iv)) (c:Bool) (o:List Iv),d++r=colsI m→Flag (fun c=>inI row c) zI b0 d c o →
   ∃c' o',Flag (fun c=>inI row c) zI b0 (colsI m) c' o'∧Evt (fun k n=>impl_timesIntervals_L125338 k n a m c x7 (i:Int) o x16 x17 (m.length:Int) d.length) (.inr (a,m,c',x7,o',x16,x17,())):=by
  intro row i x7 x16 x17 hrow hi hra b0 r
  have hgr:=hg row hra
  induction r with
  | nil =>
   intro d c o h hf
   rw [List.append_nil]at h
   subst h
   refine⟨c,o,hf,Evt.step (fun k n=>impl_timesIntervals_L125338.eq_2 k _ _ _ _ _ _ _ _ _ _ n) ?_⟩
   rw [colsI_len]
   exact Evt.cfalse (decide_eq_false (by omega)) .pure
  | cons e r ih =>
   intro d c o h hf
   obtain⟨he,hd⟩:=colsI_at h
   have hcm:=hg' d.length hd
      -- the first product
   have hdm:0<m.length:=by omega
   obtain⟨f0,mr,hm0⟩:=List.exists_cons_of_length_pos hdm
   obtain⟨x0,rr,hr0⟩:=List.exists_cons_of_length_pos (show 0<row.length by have:=hgr.1;omega)
   have hf0:=hcm f0 (by rw [hm0];simp)
   have hx0:=hgr.2 x0 (by rw [hr0];simp)
   obtain⟨v1,g1,w1,ev1⟩:=multiply_ev (b:=c) (i:=(x0,x0)) (k':=f0.getD d.length zI) ⟨hx0,hx0⟩ (ivGd.gdI (hf0.2 _ (getI_mem hf0.1)))
   have hfl:Fl c (c&&(mulO (x0,x0) (f0.getD d.length zI)).isSome) (stT (some zI) x0 (f0.getD d.length zI)) v1:=by
    have ez:stT (some zI) x0 (f0.getD d.length zI)=mulO (x0,x0) (f0.getD d.length zI):=by
     unfold stT
     cases hmu:mulO (x0,x0) (f0.getD d.length zI)with
     | none=>rfl
     | some p=>exact addO_zero (mulO_gd hmu)
    rw [ez]
    refine⟨g1,rfl,fun hc => ?_⟩
    simp only [Bool.and_eq_true]at hc
    exact w1 hc.1 hc.2
   obtain⟨f1,s1,k1,k2⟩:=tiImpl_in (a:=a) (m:=m) (row:=row) (c:=d.length) (i:=i) hi hrow hcm hgr.2 (by omega) (by omega) c x7 o x16 x17 (m.length:Int) (d.length:Int) rr mr [x0] [f0] _ _ v1 (by rw [hr0];rfl) (by rw [hm0];rfl) rfl hfl
   have hin:foldT (stT (some zI) x0 (f0.getD d.length zI)) rr (mr.map fun q=>q.getD d.length zI)=inI row e:=by
    rw [he,hr0]
    unfold inI colI
    rw [hm0]
    rfl
   rw [hin]at k1
   obtain⟨q1,q2,q3⟩:=k1
   have hst:=Flag.step (e:=e) (v:=s1) hf (by
    intro hc hs
    exact q3 (by rw [q2,hc,hs];rfl))
   rw [←q2]at hst
   obtain⟨c',o',p1,p2⟩:=ih (d ++ [e]) _ _ (by simpa using h) hst
   refine⟨c',o',p1,?_⟩
   refine Evt.step (fun k n=>impl_timesIntervals_L125338.eq_2 k _ _ _ _ _ _ _ _ _ _ n) ?_
   rw [←len_next (r:=r) (by rw [h,colsI_len];exact hb')]at p2
   have hol:=hf.1
   refine Evt.ctrue (decide_eq_true (by omega)) (Evt.ctrue mid_ge (Evt.ctrue (decide_eq_true (by omega)) ?_))
   have e5:row.getD 0 (0,0)=x0:=by rw [hr0];rfl
   have e6:m.getD 0 []=f0:=by rw [hm0];rfl
   rw [hrow,e6]
   refine Evt.ctrue (decide_eq_true (by omega)) (Evt.bind (Evt.const (r:=(x0,x0)) (by rw [e5];rfl)) (Evt.ctrue (decide_eq_true (by omega)) (Evt.ctrue mid_ge ?_)))
   have e3:Int.toNat (d.length:Int)=d.length:=by omega
   rw [e3]
   refine Evt.ctrue (decide_eq_true (by have:=hf0.1;omega)) (Evt.bind ev1 ?_)
   simp only [List.length_cons,List.length_nil]at k2
   exact Evt.inr (Evt.diag k2) (Evt.ctrue (by simp;omega) p2)
 have key:∀(r d:List Pt) (c:Bool) (o:List (List Iv)),d++r=a→Flag (rowI m) [] true d c o →
   ∃c' o',Flag (rowI m) [] true a c' o'∧Evt (fun k n=>impl_timesIntervals_L122 k n a m c o (a.length:Int) d.length) (.inr (c',o',())):=by
  intro r
  induction r with
  | nil =>
   intro d c o h hf
   rw [List.append_nil]at h
   subst h
   exact⟨c,o,hf,Evt.step (fun k n=>impl_timesIntervals_L122.eq_2 k _ _ _ _ _ _ n) (Evt.cfalse (decide_eq_false (by omega)) .pure)⟩
  | cons e r ih =>
   intro d c o h hf
   have hxl:=congrArg List.length h
   simp at hxl
   have hme:e∈a:=by rw [←h];simp
   obtain⟨c1,o1,⟨f1,f2,f3⟩,q0⟩:=inner e d.length o (a.length:Int) (d.length:Int) (by rw [←h];exact mid_get) (by omega) hme c (colsI m) [] c [] rfl Flag.nil
   simp only [List.length_nil]at q0
   have hst:=Flag.step (e:=e) (v:=o1) hf (by
    intro hc hs
    subst hc
    unfold rowI at hs ⊢
    split at hs
    ·rename_i hall
     rw [if_pos hall,←f3 (by rw [f2,hall];rfl)]
    ·cases hs)
   have e2:(c&&(rowI m e).isSome)=c1:=by
    rw [f2]
    unfold rowI
    cases (colsI m).all fun c=>(inI e c).isSome <;> rfl
   rw [e2]at hst
   obtain⟨c',o',q1,q2⟩:=ih (d ++ [e]) c1 (o ++ [o1]) (by simpa using h) hst
   refine⟨c',o',q1,Evt.step (fun k n=>impl_timesIntervals_L122.eq_2 k _ _ _ _ _ _ n) ?_⟩
   rw [←len_next (r:=r) (by rw [h];exact hb)]at q2
   have hol:=hf.1
   exact Evt.ctrue (decide_eq_true (by omega)) (Evt.inr (Evt.diag q0) (Evt.ctrue (by have:=(hg e hme).1;simp;omega) q2))
 obtain⟨c',o',⟨f1,f2,f3⟩,q2⟩:=key a [] true [] rfl Flag.nil
 rw [Bool.true_and]at f2
 simp only [List.length_nil]at q2
 refine Evt.eq (f:=fun k q=>_) ?_ (fun k q=>by rw [impl_timesIntervals])
 refine Evt.inr (Evt.diag q2) ?_
 rw [←f2]
 cases c' with
 | true=>rw [←f3 rfl];exact Evt.cfalse rfl .pure
 | false=>exact Evt.ctrue rfl .pure

end Go.Ev.G

namespace Go.Ev.G
open Go Go.Ev
set_option maxRecDepth 100000

theorem adW_sq{n:Nat}{m:List Pt}(hn:n≤2)(h:sq gd (n+1) m)(h2:(adW n m).2=true):sq gd (n+1) (adW n m).1:=by
 obtain⟨_,g⟩:=adW_ok hn h
 cases n with
 | zero =>
  refine⟨rfl,fun r hr=>⟨?_,(g r hr).2⟩⟩
  simp only [adW,List.mem_singleton]at hr
  subst hr
  rfl
 | succ n =>
  have h2:(adjV n m).2=true:=h2
  have g:∀r∈(adjV n m).1,r.length≤3∧∀x∈r,gd x:=g
  show sq gd (n+1+1) (adjV n m).1
  unfold adjV at h2 g ⊢
  split
  ·rename_i hall
   rw [if_pos hall]at g
   refine⟨by simp,fun r hr=>⟨?_,(g r hr).2⟩⟩
   obtain⟨i,hi,rfl⟩:=List.mem_map.1 hr
   have hs:=List.all_eq_true.1 hall i hi
   unfold adjRow at hs ⊢
   split at hs
   ·rename_i ha
    rw [if_pos ha]
    simp [adjT]
   ·cases hs
  ·rename_i hall
   rw [if_neg hall]at h2
   cases h2
def invO(n:Nat)(m:List Pt)(p:Nat):Option (List Pt):=match detO n m with
 | none=>none
 | some d=>if (adW n m).2 then(if d.1=0 then none else allO (rwO d p) [] (adW n m).1)else none
theorem invV_oL{n p:Nat}{m:List Pt}:invV n m p=oL (invO n m p):=by
 unfold invO invV
 cases detO n m with
 | none=>rfl
 | some d =>
  simp only
  cases (adW n m).2 with
  | false=>rfl
  | true =>
   simp only [if_true]
   by_cases hz:d.1=0
   ·rw [if_pos hz,if_pos hz];rfl
   ·rw [if_neg hz,if_neg hz]
theorem invO_sq{n p:Nat}{m Y:List Pt}(hn:n≤2)(h:sq gd (n+1) m)(hY:invO n m p=some Y):sq gd (n+1) Y:=by
 unfold invO at hY
 split at hY
 ·cases hY
 ·split at hY
  ·rename_i h2
   split at hY
   ·cases hY
   ·obtain⟨a1,a2⟩:=adW_sq hn h h2
    refine⟨by rw [allO_len hY];exact a1,fun r hr => ?_⟩
    obtain⟨x,hx,hg⟩:=allO_mem hY r hr
    refine⟨by rw [allO_len hg];exact(a2 x hx).1,fun y hy => ?_⟩
    obtain⟨i,_,hi⟩:=allO_mem hg y hy
    unfold dvO at hi
    split at hi
    ·cases hi
     exact mkD_gd _ _
    ·cases hi
  ·cases hY
theorem tab_of_sq{α:Type}{g:α→Prop}[DecidablePred g]{n:Nat}{m:List (List α)}(hn:n≤2)(h:sq g (n+1) m):tab g m=true:=by
 unfold tab
 simp only [Bool.and_eq_true,decide_eq_true_eq,List.all_eq_true]
 refine⟨by rw [h.1];omega,fun r hr=>⟨by rw [(h.2 r hr).1,h.1],(h.2 r hr).2⟩⟩

def jyO(sides:List Iv)(s:List (List Tm)):Option (List (List Iv)×List Pt):=(jaO sides s).bind fun J=>(miO J).bind fun M=>(invO (sides.length - 1) M 8).map fun Y=>(J,Y)
theorem jyO_ok{s:List (List Tm)}{m:Nat}{lo hi:List Int}(h:NwOk s m lo hi){J:List (List Iv)}{Y:List Pt}(hq:jyO (sidesB m lo hi) s=some (J,Y)):sq ivGd (lo.length - 1+1) J∧sq gd (lo.length - 1+1) Y:=by
 have hn:=h.n1
 have hsl:=sidesB_len h
 have e:lo.length - 1+1=lo.length:=by omega
 unfold jyO at hq
 cases hj:jaO (sidesB m lo hi) s with
 | none=>rw [hj]at hq;cases hq
 | some J' =>
  rw [hj]at hq
  cases hM:miO J' with
  | none=>simp only [Option.bind_some,hM]at hq;cases hq
  | some M =>
   simp only [Option.bind_some,hM]at hq
   cases hY:invO ((sidesB m lo hi).length - 1) M 8 with
   | none=>rw [hY]at hq;cases hq
   | some Y' =>
    rw [hY]at hq
    simp only [Option.map_some,Option.some.injEq,Prod.mk.injEq]at hq
    obtain⟨rfl,rfl⟩:=hq
    rw [hsl]at hY
    obtain⟨j1,j2⟩:=jaO_ok h hj
    exact⟨⟨by omega,fun r hr=>⟨by rw [(j2 r hr).1];omega,(j2 r hr).2⟩⟩,invO_sq (by omega) (miO_sq h hj hM) hY⟩
theorem nwInverse_ev{s:List (List Tm)}{m:Nat}{lo hi:List Int}(h:NwOk s m lo hi):∃r,Evt (fun k _=>spec_nwInverse k s ((m:Int),lo,hi)) r∧match jyO (sidesB m lo hi) s with | some q=>r=(q.1,q.2,true) | none=>r.2.2=false:=by
 have hn:=h.n1
 have hsl:=sidesB_len h
 have hja:=vaJacobian_ev h
 unfold jyO
 cases hj:jaO (sidesB m lo hi) s with
 | none =>
  rw [hj]at hja
  refine⟨([],[],false),Evt.eq (f:=fun k q=>_) ?_ (fun k q=>by rw [spec_nwInverse]),rfl⟩
  exact Evt.bind hja (Evt.ctrue rfl .pure)
 | some J =>
  rw [hj]at hja
  obtain⟨hJ,hr⟩:=jaO_ok h hj
  have hmid:=nwMiddle_ev (J:=J) (by omega) (fun r h=>⟨by have:=(hr r h).1;omega,(hr r h).2⟩)
  simp only [Option.bind_some]
  cases hM:miO J with
  | none =>
   rw [hM]at hmid
   refine⟨([],[],false),Evt.eq (f:=fun k q=>_) ?_ (fun k q=>by rw [spec_nwInverse]),rfl⟩
   exact Evt.bind hja (Evt.cfalse rfl (Evt.bind hmid (Evt.ctrue rfl .pure)))
  | some M =>
   rw [hM]at hmid
   have hinv:=mxInverse_ev (p:=8) (show lo.length - 1≤2 by omega) (miO_sq h hj hM) (by omega)
   rw [invV_oL]at hinv
   simp only [Option.bind_some,hsl]
   refine⟨(J,(oL (invO (lo.length - 1) M 8)).1,(oL (invO (lo.length - 1) M 8)).2),Evt.eq (f:=fun k q=>_) ?_ (fun k q=>by rw [spec_nwInverse]),?_⟩
   ·exact Evt.bind hja (Evt.cfalse rfl (Evt.bind hmid (Evt.cfalse rfl (Evt.bind hinv .pure))))
   ·cases invO (lo.length - 1) M 8 <;> rfl
theorem inverseJ_ev{s:List (List Tm)}{m:Nat}{lo hi:List Int}(h:NwOk s m lo hi):∃r,Evt (fun k _=>impl_inverseJacobian k s ((m:Int),lo,hi)) r∧match jyO (sidesB m lo hi) s with | some q=>r=(q.2,true) | none=>r.2=false:=by
 have hn:=h.n1
 have hsl:=sidesB_len h
 have hij:=inverseJacobian_ev h
 refine⟨_,hij,?_⟩
 unfold jyO
 cases hj:jaO (sidesB m lo hi) s with
 | none=>rfl
 | some J =>
  simp only [Option.bind_some]
  cases hM:miO J with
  | none=>rfl
  | some M =>
   simp only [Option.bind_some,hsl,invV_oL]
   cases invO (lo.length - 1) M 8 <;> rfl
end Go.Ev.G

namespace Go.Ev.G
open Go Go.Ev
set_option maxRecDepth 100000

def unI(i k:Nat):Iv:=if i=k then((1,0),1,0)else zI
def rsE(i:Nat)(row:List Iv)(k:Nat):Option Iv:=subO (unI i k) (row.getD k zI)
def rsR(P:List (List Iv))(i:Nat):Option (List Iv):=allO (rsE i (P.getD i [])) zI (List.range (P.getD i []).length)
def rsO(P:List (List Iv)):Option (List (List Iv)):=allO (rsR P) [] (List.range P.length)
theorem unI_iv(i k:Nat):ivGd (unI i k):=by
 unfold unI
 split
 ·exact⟨by decide,by decide,by decide⟩
 ·exact⟨by decide,by decide,by decide⟩
theorem unI_eq(i k:Nat):(((if i=k then(1:Int)else 0),(0:Int)),(if i=k then(1:Int)else 0),(0:Int))=unI i k:=by
 unfold unI
 split <;> rfl
theorem subO_iv{i k t:Iv}(hi:ivGd i)(hk:ivGd k)(h:subO i k=some t):ivGd t:=by
 unfold subO at h
 refine addO_iv hi ⟨gd_neg hk.2.1,gd_neg hk.1,?_⟩ h
 have:=hk.2.2
 show sv (ng k.2)≤sv (ng k.1)
 unfold ng
 rw [sv_neg,sv_neg]
 omega

theorem spec_rest_in{row:List Iv}{i:Nat}(hl:row.length≤3)(hg:∀x∈row,gdI x)(x8 x25:List (List Iv))(x26 x27:Int):∀(r d:List Nat),d++r=List.range row.length →
  Evt (fun k n=>spec_nwRest_L256410 k n x8 (i:Int) (d.map fun j=>(rsE i row j).getD zI) x25 x26 x27 row (row.length:Int) d.length) (if (r.all fun j=>(rsE i row j).isSome)then .inr (x8,(List.range row.length).map fun j=>(rsE i row j).getD zI,x25,x26,x27,())else .inl ([],false)):=by
 intro r
 induction r with
 | nil =>
  intro d hd
  refine Evt.step (fun k n=>spec_nwRest_L256410.eq_2 k _ _ _ _ _ _ _ _ _ n) ?_
  rw [List.append_nil]at hd
  have:=congrArg List.length hd
  simp at this
  rw [hd]
  exact Evt.cfalse (decide_eq_false (by simp)) .pure
 | cons e r ih =>
  intro d hd
  obtain⟨rfl,hlt⟩:=range_at hd
  have ih:=ih (d ++ [d.length]) (by simpa using hd)
  rw [←len_next (r:=r) (by rw [hd];simp [lenB];omega),List.map_append]at ih
  have hx:gdI (row.getD d.length zI):=hg _ (getI_mem hlt)
  have hs:=ivSub_ev (i:=unI i d.length) (k':=row.getD d.length zI) ⟨(unI_iv _ _).1,(unI_iv _ _).2.1⟩ hx
  refine Evt.step (fun k n=>spec_nwRest_L256410.eq_2 k _ _ _ _ _ _ _ _ _ n) (Evt.ctrue (decide_eq_true (by omega)) (Evt.ctrue mid_ge (Evt.ctrue (decide_eq_true (by omega)) ?_)))
  refine Evt.inr (y:=(x8,(i:Int),d.map (fun j=>(rsE i row j).getD zI),row.getD (Int.toNat (d.length:Int)) ((0,0),0,0),(if i=d.length then(1:Int)else 0),x25,x26,x27,row,(row.length:Int),(d.length:Int),())) (Evt.const ?_) ?_
  ·by_cases h:i=d.length
   ·subst h;simp
   ·have h1:((i:Int)==(d.length:Int))=false:=by simp;omega
    rw [h1,if_neg h]
    rfl
  ·simp only
   have e1:Int.toNat (d.length:Int)=d.length:=by omega
   rw [e1]
   refine Evt.bind (.const rfl) (Evt.bind (.const rfl) ?_)
   rw [unI_eq]
   refine Evt.bind hs ?_
   have e2:rsE i row d.length=subO (unI i d.length) (row.getD d.length zI):=rfl
   cases ho:subO (unI i d.length) (row.getD d.length zI)with
   | none =>
    rw [ho]at e2
    simp only [List.all_cons,e2,Option.isSome_none,Bool.false_and]
    exact Evt.ctrue rfl .pure
   | some v =>
    rw [ho]at e2
    simp only [List.map_cons,List.map_nil,e2]at ih
    simp only [List.all_cons,e2,Option.isSome_some,Bool.true_and]
    exact Evt.cfalse rfl (Evt.ctrue (decide_eq_true (by simp;omega)) ih)

theorem getR_mem{P:List (List Iv)}{i:Nat}(h:i<P.length):P.getD i []∈P:=by
 rw [List.getD_eq_getElem?_getD,List.getElem?_eq_getElem h]
 exact List.getElem_mem h
theorem spec_rest_ev{P:List (List Iv)}(hP:P.length≤3)(hr:∀r∈P,r.length≤3∧∀x∈r,gdI x):∀(r d:List Nat),d++r=List.range P.length →
  Evt (fun k n=>spec_nwRest_L250 k n (d.map fun i=>(rsR P i).getD []) P (P.length:Int) d.length) (if (r.all fun i=>(rsR P i).isSome)then .inr ((List.range P.length).map fun i=>(rsR P i).getD [],())else .inl ([],false)):=by
 intro r
 induction r with
 | nil =>
  intro d hd
  refine Evt.step (fun k n=>spec_nwRest_L250.eq_2 k _ _ _ _ n) ?_
  rw [List.append_nil]at hd
  have:=congrArg List.length hd
  simp at this
  rw [hd]
  exact Evt.cfalse (decide_eq_false (by simp)) .pure
 | cons e r ih =>
  intro d hd
  obtain⟨rfl,hlt⟩:=range_at hd
  have ih:=ih (d ++ [d.length]) (by simpa using hd)
  rw [←len_next (r:=r) (by rw [hd];simp [lenB];omega),List.map_append]at ih
  obtain⟨h1,h2⟩:=hr _ (getR_mem hlt)
  have hi:=spec_rest_in (i:=d.length) h1 h2 (d.map fun i=>(rsR P i).getD []) P (P.length:Int) (d.length:Int) (List.range (P.getD d.length []).length) [] rfl
  simp only [List.map_nil,List.length_nil]at hi
  refine Evt.step (fun k n=>spec_nwRest_L250.eq_2 k _ _ _ _ n) (Evt.ctrue (decide_eq_true (by omega)) (Evt.ctrue mid_ge (Evt.ctrue (decide_eq_true (by omega)) ?_)))
  have e1:Int.toNat (d.length:Int)=d.length:=by omega
  rw [e1]
  have e2:rsR P d.length=allO (rsE d.length (P.getD d.length [])) zI (List.range (P.getD d.length []).length):=rfl
  unfold allO at e2
  cases ha:(List.range (P.getD d.length []).length).all fun j=>(rsE d.length (P.getD d.length []) j).isSome with
  | false =>
   rw [ha]at hi e2
   simp only [List.all_cons,e2,Bool.false_eq_true,if_false,Option.isSome_none,Bool.false_and]
   exact Evt.inl (Evt.diag hi) .pure
  | true =>
   rw [ha]at hi e2
   simp only [if_true]at e2
   simp only [List.map_cons,List.map_nil,e2]at ih
   simp only [List.all_cons,e2,Option.isSome_some,Bool.true_and]
   exact Evt.inr (Evt.diag hi) (Evt.ctrue (decide_eq_true (by simp;omega)) ih)
theorem allO_dec{α β:Type}{g:α→Option β}{z:β}{l:List α}:(if (l.all fun x=>(g x).isSome)then(l.map fun x=>(g x).getD z,true)else([],false))=oL (allO g z l):=by
 unfold allO
 split <;> rfl

theorem nwRest_ev{n:Nat}{J:List (List Iv)}{Y:List Pt}(hn:n≤2)(hJ:sq ivGd (n+1) J)(hY:sq gd (n+1) Y)(hP:∀P,allO (rowI J) [] Y=some P→P.length≤3∧∀r∈P,r.length≤3∧∀x∈r,gdI x) :
  Evt (fun k _=>spec_nwRest k J Y) (oL ((allO (rowI J) [] Y).bind rsO)):=by
 refine Evt.eq (f:=fun k q=>_) ?_ (fun k q=>by rw [spec_nwRest])
 have h1:=mxTimesIn_ev (a:=Y) (m:=J) (by rw [hY.1];omega) (fun r hr=>by rw [(hY.2 r hr).1];simp only [lenB];omega) (by rw [hJ.1];omega) (fun r hr=>by rw [(hJ.2 r hr).1];simp only [lenB];omega) (tab_of_sq hn hY) (tab_of_sq hn hJ) (by rw [hY.1,hJ.1])
 rw [allO_dec]at h1
 refine Evt.bind h1 ?_
 cases hp:allO (rowI J) [] Y with
 | none=>exact Evt.ctrue rfl .pure
 | some P =>
  obtain⟨p1,p2⟩:=hP P hp
  have h0:=spec_rest_ev p1 p2 (List.range P.length) [] rfl
  simp only [List.map_nil,List.length_nil]at h0
  refine Evt.cfalse rfl ?_
  simp only [Option.bind_some,oL]
  unfold rsO allO
  cases ha:(List.range P.length).all fun i=>(rsR P i).isSome with
  | true=>rw [ha]at h0;exact Evt.inr (Evt.diag h0) .pure
  | false=>rw [ha]at h0;exact Evt.inl (Evt.diag h0) .pure

theorem set_same{X:List (List Iv)}{i:Nat}(h:i<X.length):X.set i (X.getD i [])=X:=by
 rw [List.getD_eq_getElem?_getD,List.getElem?_eq_getElem h]
 simp
theorem impl_rest_in{row:List Iv}{i:Nat}(hl:row.length≤3)(hg:∀x∈row,gdI x)(x46 x47:Int)(b0:Bool):∀(r d:List Nat) (c:Bool) (o:List Iv) (X:List (List Iv)),d++r=List.range row.length→i<X.length→X.getD i []=o++row.drop d.length→Flag (rsE i row) zI b0 d c o →
  ∃c' o',Flag (rsE i row) zI b0 (List.range row.length) c' o'∧Evt (fun k n=>impl_remainderTable_L522854 k n () i X c (i:Int) x46 x47 (row.length:Int) d.length) (.inr ((),X.set i o',c',x46,x47,())):=by
 intro r
 induction r with
 | nil =>
  intro d c o X hd hi hX hf
  rw [List.append_nil]at hd
  subst hd
  refine⟨c,o,hf,Evt.step (fun k n=>impl_remainderTable_L522854.eq_2 k _ _ _ _ _ _ _ _ _ n) ?_⟩
  simp only [List.length_range,List.drop_length,List.append_nil]at hX
  rw [←hX,set_same hi]
  exact Evt.cfalse (decide_eq_false (by simp)) .pure
 | cons e r ih =>
  intro d c o X hd hi hX hf
  obtain⟨rfl,hlt⟩:=range_at hd
  have hx:gdI (row.getD d.length zI):=hg _ (getI_mem hlt)
  obtain⟨v,gv,hv,hev⟩:=subI_ev (b:=c) (i:=unI i d.length) (k':=row.getD d.length zI) ⟨(unI_iv _ _).1,(unI_iv _ _).2.1⟩ hx
  have hst:=Flag.step (e:=d.length) (v:=v) hf hv
  have hol:=hf.1
  have edrop:row.drop d.length=row.getD d.length zI::row.drop (d.length+1):=by
   rw [List.getD_eq_getElem?_getD,List.getElem?_eq_getElem hlt]
   exact List.drop_eq_getElem_cons hlt
  have hset:(X.getD i []).set d.length v=(o ++ [v])++row.drop (d.length+1):=by
   rw [hX,edrop,←hol]
   simp
  obtain⟨c',o',q1,q2⟩:=ih (d ++ [d.length]) _ _ (X.set i ((X.getD i []).set d.length v)) (by simpa using hd) (by simp;exact hi) (by
   rw [hset]
   simp [List.getD_eq_getElem?_getD,hi]) hst
  refine⟨c',o',q1,Evt.step (fun k n=>impl_remainderTable_L522854.eq_2 k _ _ _ _ _ _ _ _ _ n) ?_⟩
  rw [←len_next (r:=r) (by rw [hd];simp [lenB];omega),List.set_set]at q2
  have hXl:(X.getD i []).length=row.length:=by rw [hX];simp;omega
  have e1:Int.toNat (d.length:Int)=d.length:=by omega
  have e3:(X.getD i []).getD d.length ((0,0),0,0)=row.getD d.length zI:=by
   rw [hX,edrop,←hol]
   simp [List.getD_eq_getElem?_getD]
  refine Evt.ctrue (decide_eq_true (by omega)) (Evt.inr (y:=((),i,X,c,(i:Int),(d.length:Int),unI i d.length,x46,x47,(row.length:Int),(d.length:Int),())) (Evt.const ?_) ?_)
  ·by_cases h:i=d.length
   ·subst h
    simp [unI,impl_integer,impl_single]
   ·have h1:((i:Int)==(d.length:Int))=false:=by simp;omega
    rw [h1]
    unfold unI
    rw [if_neg h]
    rfl
  ·simp only
   rw [e1,e3]
   exact Evt.ctrue mid_ge (Evt.ctrue (decide_eq_true (by omega)) (Evt.bind hev (Evt.ctrue mid_ge (Evt.ctrue (decide_eq_true (by omega)) q2))))
theorem impl_rest_ev{P:List (List Iv)}(hP:P.length≤3)(hr:∀r∈P,r.length≤3∧∀x∈r,gdI x):∀(r d:List Nat) (c:Bool) (o:List (List Iv)),d++r=List.range P.length→Flag (rsR P) [] true d c o →
  ∃c' o',Flag (rsR P) [] true (List.range P.length) c' o'∧Evt (fun k n=>impl_remainderTable_L2042 k n () (o++P.drop d.length) c (P.length:Int) d.length) (.inr (o',c',())):=by
 intro r
 induction r with
 | nil =>
  intro d c o hd hf
  rw [List.append_nil]at hd
  subst hd
  refine⟨c,o,hf,Evt.step (fun k n=>impl_remainderTable_L2042.eq_2 k _ _ _ _ _ n) ?_⟩
  simp only [List.length_range,List.drop_length,List.append_nil]
  exact Evt.cfalse (decide_eq_false (by simp)) .pure
 | cons e r ih =>
  intro d c o hd hf
  obtain⟨rfl,hlt⟩:=range_at hd
  have hol:=hf.1
  obtain⟨h1,h2⟩:=hr _ (getR_mem hlt)
  have edrop:P.drop d.length=P.getD d.length []::P.drop (d.length+1):=by
   rw [List.getD_eq_getElem?_getD,List.getElem?_eq_getElem hlt]
   exact List.drop_eq_getElem_cons hlt
  have hXl:(o++P.drop d.length).length=P.length:=by simp;omega
  have hX:(o++P.drop d.length).getD d.length []=P.getD d.length []:=by
   rw [edrop,←hol]
   simp [List.getD_eq_getElem?_getD]
  obtain⟨c1,o1,⟨f1,f2,f3⟩,q0⟩:=impl_rest_in (i:=d.length) h1 h2 (P.length:Int) (d.length:Int) c (List.range (P.getD d.length []).length) [] c [] (o++P.drop d.length) rfl (by omega) (by rw [hX];rfl) Flag.nil
  have hset:(o++P.drop d.length).set d.length o1=(o ++ [o1])++P.drop (d.length+1):=by
   rw [edrop,←hol]
   simp
  rw [hset]at q0
  have e2:rsR P d.length=allO (rsE d.length (P.getD d.length [])) zI (List.range (P.getD d.length []).length):=rfl
  have hst:=Flag.step (e:=d.length) (v:=o1) hf (by
   intro hc hs
   subst hc
   rw [e2]at hs ⊢
   unfold allO at hs ⊢
   split at hs
   ·rename_i hall
    rw [if_pos hall,←f3 (by rw [f2,hall];rfl)]
   ·cases hs)
  have e3:(c&&(rsR P d.length).isSome)=c1:=by
   rw [f2,e2]
   unfold allO
   cases (List.range (P.getD d.length []).length).all fun j=>(rsE d.length (P.getD d.length []) j).isSome <;> rfl
  rw [e3]at hst
  obtain⟨c',o',q1,q2⟩:=ih (d ++ [d.length]) c1 (o ++ [o1]) (by simpa using hd) hst
  refine⟨c',o',q1,Evt.step (fun k n=>impl_remainderTable_L2042.eq_2 k _ _ _ _ _ n) ?_⟩
  rw [←len_next (r:=r) (by rw [hd];simp [lenB];omega)]at q2
  have e1:Int.toNat (d.length:Int)=d.length:=by omega
  have e4:(d ++ [d.length]).length=d.length+1:=by simp
  rw [e4]at q2
  refine Evt.ctrue (decide_eq_true (by omega)) (Evt.ctrue mid_ge (Evt.ctrue (decide_eq_true (by omega)) ?_))
  rw [e1,hX]
  simp only [List.length_nil]at q0
  exact Evt.inr (Evt.diag q0) q2
end Go.Ev.G

namespace Go.Ev.G
open Go Go.Ev
set_option maxRecDepth 100000

theorem stT_iv{s y t:Iv}{x:Int×Int}(hs:ivGd s)(h:stT (some s) x y=some t):ivGd t:=by
 rw [stT_some]at h
 cases hm:mulO (x,x) y with
 | none=>rw [hm]at h;cases h
 | some p =>
  rw [hm]at h
  exact addO_iv hs (mulO_iv hm) h
theorem foldT_iv:∀(xs:Pt) (ys:List Iv) (s t:Iv),ivGd s→foldT (some s) xs ys=some t→ivGd t
 | [],ys,s,t,hs,h=>by
  have:foldT (some s) [] ys=some s:=by cases ys <;> rfl
  rw [this]at h
  cases h
  exact hs
 | x::xs,[],s,t,hs,h=>by
  cases h
  exact hs
 | x::xs,y::ys,s,t,hs,h=>by
  rw [foldT]at h
  cases ho:stT (some s) x y with
  | none=>rw [ho,foldT_none]at h;cases h
  | some u =>
   rw [ho]at h
   exact foldT_iv xs ys u t (stT_iv hs ho) h
theorem prod_ok{n:Nat}{J:List (List Iv)}{Y:List Pt}{P:List (List Iv)}(hJ:sq ivGd (n+1) J)(hY:sq gd (n+1) Y)(h:allO (rowI J) [] Y=some P):sq ivGd (n+1) P:=by
 refine⟨by rw [allO_len h,hY.1],fun r hr => ?_⟩
 obtain⟨x,hx,hg⟩:=allO_mem h r hr
 have hg:allO (inI x) zI (colsI J)=some r:=hg
 refine⟨by rw [allO_len hg,colsI_len,hJ.1],fun y hy => ?_⟩
 obtain⟨c,hc,hi⟩:=allO_mem hg y hy
 exact foldT_iv x c zI y (unI_iv 0 1) hi
theorem rsO_ok{n:Nat}{P R:List (List Iv)}(hP:sq ivGd (n+1) P)(h:rsO P=some R):sq ivGd (n+1) R:=by
 refine⟨by rw [allO_len h,List.length_range,hP.1],fun r hr => ?_⟩
 obtain⟨i,hi,hg⟩:=allO_mem h r hr
 have hg:allO (rsE i (P.getD i [])) zI (List.range (P.getD i []).length)=some r:=hg
 have hil:=List.mem_range.1 hi
 obtain⟨h1,h2⟩:=hP.2 _ (getR_mem hil)
 refine⟨by rw [allO_len hg,List.length_range,h1],fun y hy => ?_⟩
 obtain⟨k,hk,hs⟩:=allO_mem hg y hy
 have hkl:=List.mem_range.1 hk
 exact subO_iv (unI_iv _ _) (h2 _ (getI_mem hkl)) hs
def rtO(sides:List Iv)(s:List (List Tm)):Option (List (List Iv)):=(jyO sides s).bind fun q=>(allO (rowI q.1) [] q.2).bind rsO
theorem rtO_ok{s:List (List Tm)}{m:Nat}{lo hi:List Int}(h:NwOk s m lo hi){R:List (List Iv)}(hR:rtO (sidesB m lo hi) s=some R):sq ivGd (lo.length - 1+1) R:=by
 unfold rtO at hR
 cases hq:jyO (sidesB m lo hi) s with
 | none=>rw [hq]at hR;cases hR
 | some q =>
  obtain⟨J,Y⟩:=q
  rw [hq]at hR
  simp only [Option.bind_some]at hR
  obtain⟨g1,g2⟩:=jyO_ok h hq
  cases hp:allO (rowI J) [] Y with
  | none=>rw [hp]at hR;cases hR
  | some P =>
   rw [hp]at hR
   exact rsO_ok (prod_ok g1 g2 hp) hR
theorem jyO_ja{sides:List Iv}{s:List (List Tm)}{J:List (List Iv)}{Y:List Pt}(h:jyO sides s=some (J,Y)):jaO sides s=some J:=by
 unfold jyO at h
 cases hj:jaO sides s with
 | none=>rw [hj]at h;cases h
 | some J' =>
  rw [hj]at h
  simp only [Option.bind_some]at h
  cases hM:miO J' with
  | none=>rw [hM]at h;cases h
  | some M =>
   rw [hM]at h
   simp only [Option.bind_some]at h
   cases hY:invO (sides.length - 1) M 8 with
   | none=>rw [hY]at h;cases h
   | some Y'=>rw [hY]at h;cases h;rfl
theorem small_sq{n:Nat}{P:List (List Iv)}(hn:n≤2)(h:sq ivGd (n+1) P):P.length≤3∧∀r∈P,r.length≤3∧∀x∈r,gdI x :=
 ⟨by rw [h.1];omega,fun r hr=>⟨by rw [(h.2 r hr).1];omega,fun x hx=>((h.2 r hr).2 x hx).gdI⟩⟩

theorem impl_remainderTable_ev{s:List (List Tm)}{m:Nat}{lo hi:List Int}(h:NwOk s m lo hi):Evt (fun k _=>impl_remainderTable k s ((m:Int),lo,hi)) (oL (rtO (sidesB m lo hi) s)):=by
 have hn:=h.n1
 refine Evt.eq (f:=fun k q=>_) ?_ (fun k q=>by rw [impl_remainderTable])
 obtain⟨r,hr,hr2⟩:=inverseJ_ev h
 have hja:=jacobianOver_ev h
 refine Evt.bind hr (Evt.bind hja ?_)
 unfold rtO
 cases hq:jyO (sidesB m lo hi) s with
 | none =>
  rw [hq]at hr2
  simp only at hr2
  rw [hr2]
  exact Evt.ctrue rfl .pure
 | some q =>
  obtain⟨J,Y⟩:=q
  rw [hq]at hr2
  simp only at hr2
  subst hr2
  rw [jyO_ja hq]
  obtain⟨g1,g2⟩:=jyO_ok h hq
  have h1:=timesIn_ev (a:=Y) (m:=J) (by rw [g2.1];simp only [lenB];omega) (fun r hr=>by rw [(g2.2 r hr).1];simp only [lenB];omega) (by rw [g1.1];simp only [lenB];omega) (fun r hr=>by rw [(g1.2 r hr).1];simp only [lenB];omega) (tab_of_sq (by omega) g2) (tab_of_sq (by omega) g1) (by rw [g2.1,g1.1])
  rw [allO_dec]at h1
  refine Evt.cfalse rfl (Evt.cfalse rfl (Evt.bind h1 ?_))
  simp only [Option.bind_some]
  cases hp:allO (rowI J) [] Y with
  | none=>exact Evt.ctrue rfl .pure
  | some P =>
   obtain⟨p1,p2⟩:=small_sq (by omega) (prod_ok g1 g2 hp)
   obtain⟨c',o',⟨f1,f2,f3⟩,q2⟩:=impl_rest_ev p1 p2 (List.range P.length) [] true [] rfl Flag.nil
   simp only [List.nil_append,List.length_nil,List.drop_zero]at q2
   rw [Bool.true_and]at f2
   refine Evt.cfalse rfl (Evt.inr (Evt.diag q2) ?_)
   simp only [Option.bind_some]
   unfold rsO allO
   rw [←f2]
   cases c' with
   | true=>rw [←f3 rfl];exact Evt.cfalse rfl .pure
   | false=>exact Evt.ctrue rfl .pure
def rtV(s:List (List Tm))(b:Bx):List (List Iv)×Bool:=if nwV s b then oL (rtO (sidesB b.1.toNat b.2.1 b.2.2) s)else([],false)
theorem spec_remainder_ev{s:List (List Tm)}{b:Bx}(hb:s.length<lenB)(hm:∀r∈s,r.length<lenB)(hx:b.2.1.length<lenB):Evt (fun k _=>spec_RemainderTable k s b) (rtV s b):=by
 refine Evt.eq (f:=fun k q=>_) ?_ (fun k q=>by rw [spec_RemainderTable])
 refine Evt.bind (nwGood_ev hb hm hx) ?_
 unfold rtV
 cases hv:nwV s b with
 | false=>exact Evt.ctrue rfl .pure
 | true =>
  obtain⟨m,hbm,hN⟩:=nwV_form hv
  have e1:b.1.toNat=m:=by rw [hbm];exact Int.toNat_natCast m
  have hn:=hN.n1
  refine Evt.cfalse rfl ?_
  rw [if_pos rfl,e1]
  obtain⟨r,hr,hr2⟩:=nwInverse_ev hN
  rw [←hbm]at hr
  refine Evt.bind hr ?_
  unfold rtO
  cases hq:jyO (sidesB m b.2.1 b.2.2) s with
  | none =>
   rw [hq]at hr2
   simp only at hr2
   rw [hr2]
   exact Evt.ctrue rfl .pure
  | some q =>
   obtain⟨J,Y⟩:=q
   rw [hq]at hr2
   simp only at hr2
   subst hr2
   obtain⟨g1,g2⟩:=jyO_ok hN hq
   exact Evt.cfalse rfl (Evt.bind (nwRest_ev (by omega) g1 g2 (fun P hp=>small_sq (by omega) (prod_ok g1 g2 hp))) .pure)
theorem impl_remainder_ev{s:List (List Tm)}{b:Bx}(hb:s.length<lenB)(hm:∀r∈s,r.length<lenB)(hx:b.2.1.length<lenB):Evt (fun k _=>impl_RemainderTable k s b) (rtV s b):=by
 refine Evt.eq (f:=fun k q=>_) ?_ (fun k q=>by rw [impl_RemainderTable])
 refine Evt.bind (newtonFits_ev hb hm hx) ?_
 unfold rtV
 cases hv:nwV s b with
 | false=>exact Evt.ctrue rfl .pure
 | true =>
  obtain⟨m,hbm,hN⟩:=nwV_form hv
  have e1:b.1.toNat=m:=by rw [hbm];exact Int.toNat_natCast m
  have hrt:=impl_remainderTable_ev hN
  rw [←hbm]at hrt
  rw [if_pos rfl,e1]
  exact Evt.cfalse rfl (Evt.bind hrt .pure)
def smallI(t:List (List Iv)):Prop:=t.length≤3∧∀r∈t,r.length≤3
theorem rtV_small(s:List (List Tm))(b:Bx):smallI (rtV s b).1:=by
 unfold rtV
 split
 ·rename_i hv
  obtain⟨m,hbm,hN⟩:=nwV_form hv
  have e1:b.1.toNat=m:=by rw [hbm];exact Int.toNat_natCast m
  have hn:=hN.n1
  rw [e1]
  cases hR:rtO (sidesB m b.2.1 b.2.2) s with
  | none=>exact⟨by simp [oL],by simp [oL]⟩
  | some R =>
   have g:=small_sq (by omega) (rtO_ok hN hR)
   exact⟨g.1,fun r hr=>(g.2 r hr).1⟩
 ·exact⟨by simp,by simp⟩
end Go.Ev.G

namespace Go.Ev.G
open Go Go.Ev
set_option maxRecDepth 100000

def icV(s:List (List Tm))(b:Bx):Bool×Bool:=if (rtV s b).2 then shV (rtV s b).1 else(false,false)
theorem rtV_sq{s:List (List Tm)}{b:Bx}(h:(rtV s b).2=true):∃n,n≤2∧sq ivGd (n+1) (rtV s b).1:=by
 unfold rtV at h ⊢
 split at h
 ·rename_i hv
  rw [if_pos hv]
  obtain⟨m,hbm,hN⟩:=nwV_form hv
  have e1:b.1.toNat=m:=by rw [hbm];exact Int.toNat_natCast m
  have hn:=hN.n1
  rw [e1]at h ⊢
  cases hR:rtO (sidesB m b.2.1 b.2.2) s with
  | none=>rw [hR]at h;cases h
  | some R=>exact⟨_,by omega,rtO_ok hN hR⟩
 ·cases h
theorem impl_contracting_ev{s:List (List Tm)}{b:Bx}(hb:s.length<lenB)(hm:∀r∈s,r.length<lenB)(hx:b.2.1.length<lenB):Evt (fun k _=>impl_IsContracting k s b) (icV s b):=by
 refine Evt.eq (f:=fun k q=>_) ?_ (fun k q=>by rw [impl_IsContracting])
 refine Evt.bind (newtonFits_ev hb hm hx) ?_
 have hr:nwV s b=true→Evt (fun k _=>impl_remainderTable k s b) (rtV s b):=by
  intro hv
  obtain⟨m,hbm,hN⟩:=nwV_form hv
  have e1:b.1.toNat=m:=by rw [hbm];exact Int.toNat_natCast m
  have hrt:=impl_remainderTable_ev hN
  rw [←hbm]at hrt
  unfold rtV
  rw [if_pos hv,e1]
  exact hrt
 unfold icV
 cases hv:nwV s b with
 | false =>
  have:(rtV s b).2=false:=by unfold rtV;rw [hv];rfl
  rw [this]
  exact Evt.ctrue rfl .pure
 | true =>
  refine Evt.cfalse rfl (Evt.bind (hr hv) ?_)
  cases h2:(rtV s b).2 with
  | false=>exact Evt.ctrue rfl .pure
  | true =>
   obtain⟨n,hn,hsq⟩:=rtV_sq h2
   exact Evt.cfalse rfl (Evt.bind (impl_isShrinking_ev (tab_of_sq hn hsq)) .pure)
end Go.Ev.G

namespace Go.Ev.G
open Go Go.Ev
set_option maxRecDepth 100000

theorem midB_snoc{m:Nat}{d d2:List Int}{e f:Int}(hl:d.length=d2.length):midB m (d ++ [e]) (d2 ++ [f])=midB m d d2 ++ [(mkD (e+f) (m+1)).1]:=by
 unfold midB
 rw [List.zip_append hl,List.map_append]
 rfl
theorem nw_zip{s:List (List Tm)}{m:Nat}{lo hi d r d2 r2:List Int}{e f:Int}(h:NwOk s m lo hi)(hd:d++e::r=lo)(hd2:d2++f::r2=hi)(hl:d.length=d2.length) : -128≤e∧e<f∧f≤128:=by
 have hmem:(e,f)∈lo.zip hi:=by
  rw [←hd,←hd2,List.zip_append hl]
  exact List.mem_append.2 (.inr (by simp))
 exact h.bd _ hmem
theorem bxMiddle_ev{s:List (List Tm)}{m:Nat}{lo hi:List Int}(h:NwOk s m lo hi):Evt (fun k _=>spec_bxMiddle k ((m:Int),lo,hi)) (midB m lo hi):=by
 refine Evt.eq (f:=fun k q=>_) ?_ (fun k q=>by rw [spec_bxMiddle])
 have hm4:=h.m4
 have key:∀(r d r2 d2:List Int),d++r=lo→d2++r2=hi→d.length=d2.length→Evt (fun k n=>spec_bxMiddle_L58 k n ((m:Int),lo,hi) (midB m d d2) lo (lo.length:Int) d.length) (.inr (midB m lo hi,())):=by
  intro r
  induction r with
  | nil =>
   intro d r2 d2 hd hd2 hl
   refine Evt.step (fun k n=>spec_bxMiddle_L58.eq_2 k _ _ _ _ _ n) ?_
   rw [List.append_nil]at hd
   subst hd
   have hn:r2 = []:=by
    have h1:=congrArg List.length hd2
    have h2:=h.hl
    simp at h1
    exact List.eq_nil_of_length_eq_zero (by omega)
   subst hn
   rw [List.append_nil]at hd2
   subst hd2
   exact Evt.cfalse (by simp) .pure
  | cons e r ih =>
   intro d r2 d2 hd hd2 hl
   have hxl:=congrArg List.length hd
   have hyl:=congrArg List.length hd2
   have hh:=h.hl
   have hn:=h.n1
   simp at hxl hyl
   cases r2 with
   | nil=>simp at hyl;omega
   | cons f r2 =>
   have ih:=ih (d ++ [e]) r2 (d2 ++ [f]) (by simpa using hd) (by simpa using hd2) (by simp [hl])
   rw [←len_next (r:=r) (by rw [hd];simp only [lenB];omega),midB_snoc hl]at ih
   obtain⟨b1,b2,b3⟩:=nw_zip h hd hd2 hl
   have g1:lo.getD (Int.toNat (d.length:Int)) 0=e:=by rw [←hd];exact mid_get
   have g2:hi.getD (Int.toNat (d.length:Int)) 0=f:=by rw [←hd2,hl];exact mid_get
   have hsl:(midB m d d2).length≤3:=by simp [midB];omega
   refine Evt.step (fun k n=>spec_bxMiddle_L58.eq_2 k _ _ _ _ _ n) ?_
   simp only [g1,g2]
   rw [w64 (n:=e+f) (by omega) (by omega),w64_next (m:=m) (by simp only [lenB];omega)]
   have hb:Evt (fun k _=>spec_bxNumber k (e+f) ((m+1:Nat):Int)) (mkD (e+f) (m+1)).1:=by
    refine Evt.eq (f:=fun k q=>_) ?_ (fun k q=>by rw [spec_bxNumber])
    exact Evt.bind (dyMake_ev (n:=e+f) (m:=m+1) (by omega) (by omega) (by omega)) .pure
   exact Evt.ctrue (decide_eq_true (by omega)) (Evt.ctrue mid_ge (Evt.ctrue (decide_eq_true (by omega)) (Evt.ctrue mid_ge (Evt.ctrue (decide_eq_true (by omega)) (Evt.bind hb (Evt.ctrue (decide_eq_true (by simp;omega)) ih))))))
 exact Evt.inr (Evt.diag (key lo [] hi [] rfl rfl rfl)) .pure
theorem boxMiddle_ev{s:List (List Tm)}{m:Nat}{lo hi:List Int}(h:NwOk s m lo hi):Evt (fun k _=>impl_Box_middle k ((m:Int),lo,hi)) (midB m lo hi):=by
 refine Evt.eq (f:=fun k q=>_) ?_ (fun k q=>by rw [impl_Box_middle])
 have hm4:=h.m4
 have key:∀(r d r2 d2:List Int),d++r=lo→d2++r2=hi→d.length=d2.length→Evt (fun k n=>impl_Box_middle_L58 k n ((m:Int),lo,hi) (midB m d d2) (lo.length:Int) d.length) (.inr (midB m lo hi,())):=by
  intro r
  induction r with
  | nil =>
   intro d r2 d2 hd hd2 hl
   refine Evt.step (fun k n=>impl_Box_middle_L58.eq_2 k _ _ _ _ n) ?_
   rw [List.append_nil]at hd
   subst hd
   have hn:r2 = []:=by
    have h1:=congrArg List.length hd2
    have h2:=h.hl
    simp at h1
    exact List.eq_nil_of_length_eq_zero (by omega)
   subst hn
   rw [List.append_nil]at hd2
   subst hd2
   exact Evt.cfalse (by simp) .pure
  | cons e r ih =>
   intro d r2 d2 hd hd2 hl
   have hxl:=congrArg List.length hd
   have hyl:=congrArg List.length hd2
   have hh:=h.hl
   have hn:=h.n1
   simp at hxl hyl
   cases r2 with
   | nil=>simp at hyl;omega
   | cons f r2 =>
   have ih:=ih (d ++ [e]) r2 (d2 ++ [f]) (by simpa using hd) (by simpa using hd2) (by simp [hl])
   rw [←len_next (r:=r) (by rw [hd];simp only [lenB];omega),midB_snoc hl]at ih
   obtain⟨b1,b2,b3⟩:=nw_zip h hd hd2 hl
   have g1:lo.getD (Int.toNat (d.length:Int)) 0=e:=by rw [←hd];exact mid_get
   have g2:hi.getD (Int.toNat (d.length:Int)) 0=f:=by rw [←hd2,hl];exact mid_get
   have hsl:(midB m d d2).length≤3:=by simp [midB];omega
   refine Evt.step (fun k n=>impl_Box_middle_L58.eq_2 k _ _ _ _ n) ?_
   simp only [g1,g2]
   rw [w64 (n:=e+f) (by omega) (by omega),w64_next (m:=m) (by simp only [lenB];omega)]
   exact Evt.ctrue (decide_eq_true (by omega)) (Evt.ctrue mid_ge (Evt.ctrue (decide_eq_true (by omega)) (Evt.ctrue mid_ge (Evt.ctrue (decide_eq_true (by omega)) (Evt.bind (.const (wideOf_eq (by omega) (by omega))) (Evt.bind (fitD_ev (n:=e+f) (p:=m+1) (by omega) (by omega) (by omega)) (Evt.ctrue (decide_eq_true (by simp;omega)) ih)))))))
 exact Evt.inr (Evt.diag (key lo [] hi [] rfl rfl rfl)) .pure

theorem scV_lt{pt:List (Int×Int)}{p:List Tm}(hp:ptS pt)(hl:p.length≤20)(ht:∀t∈p,tmS pt.length t):(scV p pt).natAbs≤5629499534213120000:=by
 have:=scV_bd hp ht
 have h2:p.length*281474976710656000≤20*281474976710656000:=Nat.mul_le_mul_right _ hl
 omega
theorem valueAt_ev{M:Nat}{p:List Tm}{pt:List (Int×Int)}(hM:M≤9)(hl:p.length≤20)(ht:∀t∈p,tmS pt.length t)(hp:ptV M pt):Evt (fun k _=>impl_valueAt k p pt) (mkD (scV p pt) 36):=by
 have hS:=ptV_S hM hp
 have hb:=scV_lt hS hl ht
 refine Evt.eq (f:=fun k q=>_) ?_ (fun k q=>by rw [impl_valueAt])
 exact Evt.bind (scaledAt_ev hl ht hS) (Evt.bind (.const (wideOf_eq (by omega) (by omega))) (Evt.bind (fitD_ev (n:=scV p pt) (p:=36) (by omega) (by omega) (by omega)) .pure))
theorem vaAt_ev{M:Nat}{p:List Tm}{pt:List (Int×Int)}(hM:M≤9)(hl:p.length≤20)(hn:1≤pt.length∧pt.length≤3)(ht:∀t∈p,tmS pt.length t)(hp:ptV M pt)(hk:kMax pt=M):Evt (fun k _=>spec_vaAt k p pt) (mkD (scV p pt) 36):=by
 have hb:=scV_lt (ptV_S hM hp) hl ht
 have e:=scV_va hM hn ht hp
 have hpos:1≤(2 ^ (9 - M)) ^ 4:=Nat.pow_pos (Nat.pow_pos (by decide))
 have hb2:((p.map (vaT M pt)).sum).natAbs≤5629499534213120000:=by
  rw [e,Int.natAbs_mul]at hb
  have h3:(((2:Int) ^ (9 - M)) ^ 4).natAbs=(2 ^ (9 - M)) ^ 4:=by rw [Int.natAbs_pow,Int.natAbs_pow];rfl
  rw [h3]at hb
  exact Nat.le_trans (Nat.le_mul_of_pos_right _ hpos) hb
 refine Evt.eq (f:=fun k q=>_) ?_ (fun k q=>by rw [spec_vaAt])
 refine Evt.bind (vaSum_ev hM hl hn.2 ht hp hk) ?_
 have e2:4*(M:Int)=((4*M:Nat):Int):=by simp
 simp only [e2]
 rw [←vaO_eq hM hn ht hp]
 exact Evt.bind (dyMake_ev (by omega) (by omega) (by omega)) .pure

theorem keep_gd(c:Bool){x:Int×Int}(hx:gd x)(ok:Bool):∃v,gd v∧impl_reckoner_keep c x ok=some (v,c&&ok)∧(c=true→ok=true→v=x):=by
 cases c with
 | false=>exact⟨(0,0),by decide,rfl,fun h=>by cases h⟩
 | true =>
  cases ok with
  | false=>exact⟨(0,0),by decide,rfl,fun _ h=>by cases h⟩
  | true=>exact⟨x,hx,rfl,fun _ _=>rfl⟩
def valsO(pt:Pt)(s:List (List Tm)):Option Pt:=allO (vaO pt) (0,0) s
def sbE(pt st:Pt)(i:Nat):Option (Int×Int):=smO (pt.getD i (0,0)) (ng (st.getD i (0,0)))
def npO(pt:Pt)(s:List (List Tm))(Y:List Pt):Option Pt:=(valsO pt s).bind fun V=>(allO (fun r=>inn r V) (0,0) Y).bind fun st=>allO (sbE pt st) (0,0) (List.range pt.length)
structure MidOk(s:List (List Tm))(pt:Pt):Prop where
 n:1≤pt.length∧pt.length≤3
 gds:∀x∈pt,gd x
 sl:s.length=pt.length
 V:∃M:Nat,M≤8∧kMax pt=M∧ptV M pt
 tm:∀p∈s,p.length≤20∧∀t∈p,tmS pt.length t
theorem mid_ok{s:List (List Tm)}{m:Nat}{lo hi:List Int}(h:NwOk s m lo hi):MidOk s (midB m lo hi):=by
 have hl:=midB_len h
 have hn:=h.n1
 refine⟨by omega,midB_gd,by rw [h.sl,hl],numS_V (midB_S h),fun p hp => ?_⟩
 rw [hl]
 exact nw_tmS h hp
theorem smO_gd{a b t:Int×Int}(h:smO a b=some t):gd t:=by
 unfold smO at h
 split at h
 ·cases h
  exact sumD_gd _ _
 ·cases h

theorem nwPoint_ev{s:List (List Tm)}{m:Nat}{lo hi:List Int}{Y:List Pt}(h:NwOk s m lo hi)(hY:sq gd (lo.length - 1+1) Y):Evt (fun k _=>spec_nwPoint k s ((m:Int),lo,hi) Y) (oL (npO (midB m lo hi) s Y)):=by
 have hn:=h.n1
 have ok:=mid_ok h
 have hml:=midB_len h
 refine Evt.eq (f:=fun k q=>_) ?_ (fun k q=>by rw [spec_nwPoint])
 refine Evt.bind (bxMiddle_ev h) ?_
 generalize midB m lo hi=pt at ok hml
 obtain⟨M,hM,hk,hV⟩:=ok.V
 have hsl:=ok.sl
 have vals:∀(r d:List (List Tm)),d++r=s→Evt (fun k n=>spec_nwPoint_L122 k n Y pt (d.map fun p=>(vaO pt p).getD (0,0)) s (s.length:Int) d.length) (if (r.all fun p=>(vaO pt p).isSome)then .inr (Y,pt,s.map fun p=>(vaO pt p).getD (0,0),())else .inl ([],false)):=by
  intro r
  induction r with
  | nil =>
   intro d hd
   refine Evt.step (fun k n=>spec_nwPoint_L122.eq_2 k _ _ _ _ _ _ n) ?_
   rw [List.append_nil]at hd
   subst hd
   exact Evt.cfalse (by simp) .pure
  | cons e r ih =>
   intro d hd
   have hxl:=congrArg List.length hd
   simp at hxl
   have ih:=ih (d ++ [e]) (by simpa using hd)
   rw [←len_next (r:=r) (by rw [hd];simp only [lenB];omega),List.map_append]at ih
   obtain⟨t1,t2⟩:=ok.tm e (by rw [←hd];simp)
   have g:s.getD (Int.toNat (d.length:Int)) []=e:=by rw [←hd];exact mid_get
   refine Evt.step (fun k n=>spec_nwPoint_L122.eq_2 k _ _ _ _ _ _ n) ?_
   rw [g]
   refine Evt.ctrue (decide_eq_true (by omega)) (Evt.ctrue mid_ge (Evt.ctrue (decide_eq_true (by omega)) (Evt.bind (vaAt_ev (by omega) t1 ok.n t2 hV hk) ?_)))
   have e2:vaO pt e=if (mkD (scV e pt) 36).2 then some (mkD (scV e pt) 36).1 else none:=rfl
   cases hf:(mkD (scV e pt) 36).2 with
   | false =>
    rw [hf]at e2
    simp only [Bool.false_eq_true,if_false]at e2
    simp only [List.all_cons,e2,Option.isSome_none,Bool.false_and]
    exact Evt.ctrue rfl .pure
   | true =>
    rw [hf]at e2
    simp only [if_true]at e2
    simp only [List.map_cons,List.map_nil,e2]at ih
    simp only [List.all_cons,e2,Option.isSome_some,Bool.true_and]
    exact Evt.cfalse rfl (Evt.ctrue (decide_eq_true (by simp;omega)) ih)
 have h0:=vals s [] rfl
 simp only [List.map_nil,List.length_nil]at h0
 unfold npO valsO
 have ea:allO (vaO pt) (0,0) s=if (s.all fun x=>(vaO pt x).isSome)then some (s.map fun x=>(vaO pt x).getD (0,0))else none:=rfl
 cases ha:s.all fun p=>(vaO pt p).isSome with
 | false =>
  rw [ha]at h0 ea
  rw [ea]
  exact Evt.inl (Evt.diag h0) .pure
 | true =>
  rw [ha]at h0 ea
  simp only [if_true]at ea
  rw [ea]
  refine Evt.inr (Evt.diag h0) ?_
  simp only [Option.bind_some]
  have hVg:∀x∈s.map fun p=>(vaO pt p).getD (0,0),gd x:=by
   intro x hx
   obtain⟨p,hp,rfl⟩:=List.mem_map.1 hx
   have:=List.all_eq_true.1 ha p hp
   unfold vaO at this ⊢
   simp only at this ⊢
   split
   ·exact mkD_gd _ _
   ·decide
  have hVl:(s.map fun p=>(vaO pt p).getD (0,0)).length=pt.length:=by simp [hsl]
  generalize (s.map fun p=>(vaO pt p).getD (0,0))=V at hVg hVl
  have h1:=mxTimes_ev (m:=Y) (p:=V) (by rw [hY.1];omega) (fun r hr=>by rw [(hY.2 r hr).1];simp only [lenB];omega) (by simp only [lenB];omega) (tab_of_sq (by omega) hY) ⟨hVg,by rw [hY.1];omega⟩
  rw [allO_dec]at h1
  refine Evt.bind h1 ?_
  cases hst:allO (fun r=>inn r V) (0,0) Y with
  | none=>exact Evt.ctrue rfl .pure
  | some st =>
   have stl:st.length=pt.length:=by rw [allO_len hst,hY.1];omega
   have stg:∀x∈st,gd x:=by
    intro x hx
    obtain⟨r,_,hi⟩:=allO_mem hst x hx
    simp only [inn]at hi
    split at hi
    ·exact osum_gd _ _ _ (by decide) hi
    ·cases hi
   refine Evt.cfalse rfl ?_
   simp only [Option.bind_some,oL]
   have subs:∀(r d:List Nat),d++r=List.range pt.length→Evt (fun k n=>spec_nwPoint_L2042 k n st (d.map fun i=>(sbE pt st i).getD (0,0)) pt (pt.length:Int) d.length) (if (r.all fun i=>(sbE pt st i).isSome)then .inr ((List.range pt.length).map fun i=>(sbE pt st i).getD (0,0),())else .inl ([],false)):=by
    intro r
    induction r with
    | nil =>
     intro d hd
     refine Evt.step (fun k n=>spec_nwPoint_L2042.eq_2 k _ _ _ _ _ n) ?_
     rw [List.append_nil]at hd
     have:=congrArg List.length hd
     simp at this
     rw [hd]
     exact Evt.cfalse (decide_eq_false (by simp)) .pure
    | cons e r ih =>
     intro d hd
     obtain⟨rfl,hlt⟩:=range_at hd
     have ih:=ih (d ++ [d.length]) (by simpa using hd)
     have hn3:=ok.n
     rw [←len_next (r:=r) (by rw [hd];simp [lenB];omega),List.map_append]at ih
     have g1:gd (pt.getD d.length (0,0)):=ok.gds _ (getD_mem hlt)
     have g2:gd (st.getD d.length (0,0)):=stg _ (getD_mem (by omega))
     have e1:Int.toNat (d.length:Int)=d.length:=by omega
     have hs:Evt (fun k _=>spec_dySub k (pt.getD d.length (0,0)) (st.getD d.length (0,0))) (sumD (pt.getD d.length (0,0)) (ng (st.getD d.length (0,0)))):=by
      refine Evt.eq (f:=fun k q=>_) ?_ (fun k q=>by rw [spec_dySub])
      exact Evt.bind (.const (dyMinus_eq g2)) (Evt.bind (dyAdd_ev g1 (gd_neg g2)) .pure)
     refine Evt.step (fun k n=>spec_nwPoint_L2042.eq_2 k _ _ _ _ _ n) ?_
     rw [e1]
     refine Evt.ctrue (decide_eq_true (by omega)) (Evt.ctrue mid_ge (Evt.ctrue (decide_eq_true (by omega)) (Evt.ctrue mid_ge (Evt.ctrue (decide_eq_true (by omega)) (Evt.bind hs ?_)))))
     have e2:sbE pt st d.length=if (sumD (pt.getD d.length (0,0)) (ng (st.getD d.length (0,0)))).2 then some (sumD (pt.getD d.length (0,0)) (ng (st.getD d.length (0,0)))).1 else none:=rfl
     cases hf:(sumD (pt.getD d.length (0,0)) (ng (st.getD d.length (0,0)))).2 with
     | false =>
      rw [hf]at e2
      simp only [Bool.false_eq_true,if_false]at e2
      simp only [List.all_cons,e2,Option.isSome_none,Bool.false_and]
      exact Evt.ctrue rfl .pure
     | true =>
      rw [hf]at e2
      simp only [if_true]at e2
      simp only [List.map_cons,List.map_nil,e2]at ih
      simp only [List.all_cons,e2,Option.isSome_some,Bool.true_and]
      exact Evt.cfalse rfl (Evt.ctrue (decide_eq_true (by simp;omega)) ih)
   have h2:=subs (List.range pt.length) [] rfl
   simp only [List.map_nil,List.length_nil]at h2
   unfold allO
   cases hb:(List.range pt.length).all fun i=>(sbE pt st i).isSome with
   | true=>rw [hb]at h2;exact Evt.inr (Evt.diag h2) .pure
   | false=>rw [hb]at h2;exact Evt.inl (Evt.diag h2) .pure

theorem newtonPoint_ev{s:List (List Tm)}{m:Nat}{lo hi:List Int}(h:NwOk s m lo hi):Evt (fun k _=>impl_newtonPoint k s ((m:Int),lo,hi)) (oL ((jyO (sidesB m lo hi) s).bind fun q=>npO (midB m lo hi) s q.2)):=by
 have hn:=h.n1
 have ok:=mid_ok h
 have hml:=midB_len h
 have hmid:=boxMiddle_ev h
 refine Evt.eq (f:=fun k q=>_) ?_ (fun k q=>by rw [impl_newtonPoint])
 obtain⟨r,hr,hr2⟩:=inverseJ_ev h
 refine Evt.bind hr ?_
 cases hq:jyO (sidesB m lo hi) s with
 | none =>
  rw [hq]at hr2
  simp only at hr2
  rw [hr2]
  exact Evt.ctrue rfl .pure
 | some q =>
  obtain⟨J,Y⟩:=q
  rw [hq]at hr2
  simp only at hr2
  subst hr2
  obtain⟨_,hY⟩:=jyO_ok h hq
  refine Evt.cfalse rfl (Evt.bind hmid ?_)
  simp only [Option.bind_some]
  generalize midB m lo hi=pt at ok hml
  obtain⟨M,hM,hk,hV⟩:=ok.V
  have hsl:=ok.sl
  have vals:∀(r d:List (List Tm)) (c:Bool) (o:Pt),d++r=s→(∀x∈o,gd x)→Flag (vaO pt) (0,0) true d c o →
    ∃c' o',(∀x∈o',gd x)∧Flag (vaO pt) (0,0) true s c' o'∧Evt (fun k n=>impl_newtonPoint_L1018 k n Y pt c o s (s.length:Int) d.length) (.inr (Y,pt,c',o',())):=by
   intro r
   induction r with
   | nil =>
    intro d c o hd hg hf
    rw [List.append_nil]at hd
    subst hd
    exact⟨c,o,hg,hf,Evt.step (fun k n=>impl_newtonPoint_L1018.eq_2 k _ _ _ _ _ _ _ n) (Evt.cfalse (by simp) .pure)⟩
   | cons e r ih =>
    intro d c o hd hg hf
    have hxl:=congrArg List.length hd
    simp at hxl
    obtain⟨t1,t2⟩:=ok.tm e (by rw [←hd];simp)
    have g:s.getD (Int.toNat (d.length:Int)) []=e:=by rw [←hd];exact mid_get
    obtain⟨v,gv,hv,hvx⟩:=keep_gd c (mkD_gd (scV e pt) 36) (mkD (scV e pt) 36).2
    have e2:vaO pt e=if (mkD (scV e pt) 36).2 then some (mkD (scV e pt) 36).1 else none:=rfl
    have e1:(vaO pt e).isSome=(mkD (scV e pt) 36).2:=by rw [e2];cases (mkD (scV e pt) 36).2 <;> rfl
    have hst:=Flag.step (e:=e) (v:=v) hf (by
     intro hc hs
     rw [e1]at hs
     rw [hvx hc hs,e2,if_pos hs])
    rw [e1]at hst
    obtain⟨c',o',q0,q1,q2⟩:=ih (d ++ [e]) _ _ (by simpa using hd) (by
     intro x hx
     rcases List.mem_append.1 hx with hx | hx
     ·exact hg x hx
     ·rw [List.mem_singleton.1 hx];exact gv) hst
    refine⟨c',o',q0,q1,Evt.step (fun k n=>impl_newtonPoint_L1018.eq_2 k _ _ _ _ _ _ _ n) ?_⟩
    rw [←len_next (r:=r) (by rw [hd];simp only [lenB];omega)]at q2
    have hol:=hf.1
    have hn3:=ok.n
    rw [g]
    exact Evt.ctrue (decide_eq_true (by omega)) (Evt.ctrue mid_ge (Evt.ctrue (decide_eq_true (by omega)) (Evt.bind (valueAt_ev (by omega) t1 t2 hV) (Evt.bind (.const hv) (Evt.ctrue (decide_eq_true (by simp;omega)) q2)))))
  obtain⟨c',V,hVg,⟨f1,f2,f3⟩,q2⟩:=vals s [] true [] rfl (by simp) Flag.nil
  rw [Bool.true_and]at f2
  simp only [List.length_nil]at q2
  have hn3:=ok.n
  have h1:=timesPt_ev (m:=Y) (p:=V) (by rw [hY.1];simp only [lenB];omega) (fun r hr=>by rw [(hY.2 r hr).1];simp only [lenB];omega) (by simp only [lenB];omega) (tab_of_sq (by omega) hY) hVg (by rw [hY.1];omega)
  rw [allO_dec]at h1
  refine Evt.inr (Evt.diag q2) (Evt.bind h1 ?_)
  unfold npO valsO
  have ea:allO (vaO pt) (0,0) s=if (s.all fun x=>(vaO pt x).isSome)then some (s.map fun x=>(vaO pt x).getD (0,0))else none:=rfl
  rw [←f2]at ea
  cases c' with
  | false =>
   rw [ea]
   exact Evt.ctrue rfl .pure
  | true =>
   rw [if_pos rfl,←f3 rfl]at ea
   rw [ea]
   refine Evt.cfalse rfl ?_
   simp only [Option.bind_some]
   cases hst:allO (fun r=>inn r V) (0,0) Y with
   | none=>exact Evt.ctrue rfl .pure
   | some st =>
    have stl:st.length=pt.length:=by rw [allO_len hst,hY.1];omega
    have stg:∀x∈st,gd x:=by
     intro x hx
     obtain⟨r,_,hi⟩:=allO_mem hst x hx
     simp only [inn]at hi
     split at hi
     ·exact osum_gd _ _ _ (by decide) hi
     ·cases hi
    refine Evt.cfalse rfl ?_
    simp only [Option.bind_some,oL]
    have subs:∀(r d:List Nat) (c:Bool) (o:Pt),d++r=List.range pt.length→Flag (sbE pt st) (0,0) true d c o →
      ∃c' o',Flag (sbE pt st) (0,0) true (List.range pt.length) c' o'∧Evt (fun k n=>impl_newtonPoint_L16378 k n c st o pt (pt.length:Int) d.length) (.inr (c',o',())):=by
     intro r
     induction r with
     | nil =>
      intro d c o hd hf
      rw [List.append_nil]at hd
      subst hd
      refine⟨c,o,hf,Evt.step (fun k n=>impl_newtonPoint_L16378.eq_2 k _ _ _ _ _ _ n) ?_⟩
      exact Evt.cfalse (decide_eq_false (by simp)) .pure
     | cons e r ih =>
      intro d c o hd hf
      obtain⟨rfl,hlt⟩:=range_at hd
      have g1:gd (pt.getD d.length (0,0)):=ok.gds _ (getD_mem hlt)
      have g2:gd (st.getD d.length (0,0)):=stg _ (getD_mem (by omega))
      have e1:Int.toNat (d.length:Int)=d.length:=by omega
      have hs:=reckoner_sum_ev (b:=c) g1 (gd_neg g2)
      have e2:sbE pt st d.length=if (sumD (pt.getD d.length (0,0)) (ng (st.getD d.length (0,0)))).2 then some (sumD (pt.getD d.length (0,0)) (ng (st.getD d.length (0,0)))).1 else none:=rfl
      have hst:=Flag.step (e:=d.length) (v:=(if c then sumD (pt.getD d.length (0,0)) (ng (st.getD d.length (0,0)))else((0,0),false)).1) hf (by
       intro hc hs
       rw [e2]at hs ⊢
       rw [if_pos hc]
       split at hs
       ·rename_i hh
        rw [if_pos hh]
       ·cases hs)
      have e3:(c&&(sbE pt st d.length).isSome)=(if c then sumD (pt.getD d.length (0,0)) (ng (st.getD d.length (0,0)))else((0,0),false)).2:=by
       rw [e2]
       cases c with
       | false=>rfl
       | true =>
        rw [if_pos rfl,Bool.true_and]
        by_cases hb:(sumD (pt.getD d.length (0,0)) (ng (st.getD d.length (0,0)))).2=true
        ·rw [if_pos hb,hb]
         rfl
        ·rw [if_neg hb]
         simp only [Bool.not_eq_true]at hb
         rw [hb]
         rfl
      rw [e3]at hst
      obtain⟨c',o',q1,q2⟩:=ih (d ++ [d.length]) _ _ (by simpa using hd) hst
      refine⟨c',o',q1,Evt.step (fun k n=>impl_newtonPoint_L16378.eq_2 k _ _ _ _ _ _ n) ?_⟩
      rw [←len_next (r:=r) (by rw [hd];simp [lenB];omega)]at q2
      have hol:=hf.1
      rw [e1]
      exact Evt.ctrue (decide_eq_true (by omega)) (Evt.ctrue mid_ge (Evt.ctrue (decide_eq_true (by omega)) (Evt.ctrue mid_ge (Evt.ctrue (decide_eq_true (by omega)) (Evt.bind (.const (minus_eq g2)) (Evt.bind hs (Evt.ctrue (decide_eq_true (by simp;omega)) q2)))))))
    obtain⟨c'',o'',⟨u1,u2,u3⟩,q3⟩:=subs (List.range pt.length) [] true [] rfl Flag.nil
    rw [Bool.true_and]at u2
    simp only [List.length_nil]at q3
    refine Evt.inr (Evt.diag q3) ?_
    unfold allO
    rw [←u2]
    cases c'' with
    | true=>rw [←u3 rfl];exact Evt.cfalse rfl .pure
    | false=>exact Evt.ctrue rfl .pure

def ptO(b:Bx)(s:List (List Tm)):Option Pt:=(jyO (sidesB b.1.toNat b.2.1 b.2.2) s).bind fun q=>npO (midB b.1.toNat b.2.1 b.2.2) s q.2
def ptR(s:List (List Tm))(b:Bx):Pt×Bool:=if nwV s b then oL (ptO b s)else([],false)
theorem spec_newtonPoint_ev{s:List (List Tm)}{b:Bx}(hb:s.length<lenB)(hm:∀r∈s,r.length<lenB)(hx:b.2.1.length<lenB):Evt (fun k _=>spec_NewtonPoint k s b) (ptR s b):=by
 refine Evt.eq (f:=fun k q=>_) ?_ (fun k q=>by rw [spec_NewtonPoint])
 refine Evt.bind (nwGood_ev hb hm hx) ?_
 unfold ptR ptO
 cases hv:nwV s b with
 | false=>exact Evt.ctrue rfl .pure
 | true =>
  obtain⟨m,hbm,hN⟩:=nwV_form hv
  have e1:b.1.toNat=m:=by rw [hbm];exact Int.toNat_natCast m
  have hn:=hN.n1
  refine Evt.cfalse rfl ?_
  rw [if_pos rfl,e1]
  obtain⟨r,hr,hr2⟩:=nwInverse_ev hN
  rw [←hbm]at hr
  refine Evt.bind hr ?_
  cases hq:jyO (sidesB m b.2.1 b.2.2) s with
  | none =>
   rw [hq]at hr2
   simp only at hr2
   rw [hr2]
   exact Evt.ctrue rfl .pure
  | some q =>
   obtain⟨J,Y⟩:=q
   rw [hq]at hr2
   simp only at hr2
   subst hr2
   obtain⟨_,g2⟩:=jyO_ok hN hq
   have hp:=nwPoint_ev hN g2
   rw [←hbm]at hp
   exact Evt.cfalse rfl (Evt.bind hp .pure)
theorem impl_newtonPoint_ev{s:List (List Tm)}{b:Bx}(hb:s.length<lenB)(hm:∀r∈s,r.length<lenB)(hx:b.2.1.length<lenB):Evt (fun k _=>impl_NewtonPoint k s b) (ptR s b):=by
 refine Evt.eq (f:=fun k q=>_) ?_ (fun k q=>by rw [impl_NewtonPoint])
 refine Evt.bind (newtonFits_ev hb hm hx) ?_
 unfold ptR ptO
 cases hv:nwV s b with
 | false=>exact Evt.ctrue rfl .pure
 | true =>
  obtain⟨m,hbm,hN⟩:=nwV_form hv
  have e1:b.1.toNat=m:=by rw [hbm];exact Int.toNat_natCast m
  have hrt:=newtonPoint_ev hN
  rw [←hbm]at hrt
  rw [if_pos rfl,e1]
  exact Evt.cfalse rfl (Evt.bind hrt .pure)
theorem npO_gd{pt:Pt}{s:List (List Tm)}{Y:List Pt}{np:Pt}(h:npO pt s Y=some np):np.length=pt.length∧∀x∈np,gd x:=by
 unfold npO at h
 cases hv:valsO pt s with
 | none=>rw [hv]at h;cases h
 | some V =>
  rw [hv]at h
  simp only [Option.bind_some]at h
  cases hst:allO (fun r=>inn r V) (0,0) Y with
  | none=>rw [hst]at h;cases h
  | some st =>
   rw [hst]at h
   simp only [Option.bind_some]at h
   refine⟨by rw [allO_len h,List.length_range],fun x hx => ?_⟩
   obtain⟨i,_,hi⟩:=allO_mem h x hx
   exact smO_gd hi
theorem ptR_len{s:List (List Tm)}{b:Bx}:(ptR s b).1.length≤3:=by
 unfold ptR ptO
 split
 ·rename_i hv
  obtain⟨m,hbm,hN⟩:=nwV_form hv
  have e1:b.1.toNat=m:=by rw [hbm];exact Int.toNat_natCast m
  have hn:=hN.n1
  rw [e1]
  cases hq:jyO (sidesB m b.2.1 b.2.2) s with
  | none=>simp [oL]
  | some q =>
   simp only [Option.bind_some]
   cases hp:npO (midB m b.2.1 b.2.2) s q.2 with
   | none=>simp [oL]
   | some np =>
    have:=(npO_gd hp).1
    rw [midB_len hN]at this
    simp only [oL]
    omega
 ·simp
end Go.Ev.G

namespace Go.Ev.G
open Go Go.Ev
set_option maxRecDepth 100000

def small4(T:List Pt):Prop:=T.length≤4∧∀r∈T,r.length≤4
end Go.Ev.G

namespace Go.Ev.G
open Go Go.Ev
set_option maxRecDepth 100000

structure Sm(m:List Pt):Prop where
 l:m.length≤1000
 r:∀r∈m,r.length≤1000
theorem Sm.of{m:List Pt}(h:small4 m):Sm m:=⟨by have:=h.1;omega,fun r hr=>by have:=h.2 r hr;omega⟩
theorem Sm.lb{m:List Pt}(h:Sm m):m.length<lenB:=by have:=h.l;simp only [lenB];omega
theorem Sm.lr{m:List Pt}(h:Sm m):∀r∈m,r.length<lenB:=fun r hr=>by have:=h.r r hr;simp only [lenB];omega
theorem Sm.mt(a b:List Pt):Sm (mtV a b).1:=by
 obtain⟨l1,l2⟩:=mtV_len (a:=a) (b:=b)
 exact⟨by omega,fun r hr=>by have:=l2 r hr;omega⟩
theorem bytes_of{a:List Int}(h:WfT (.sl (.int .u8)) a):bytesOk a:=by
 intro x hx
 have h2:(decide (IntKind.u8.min≤x)&&decide (x≤IntKind.u8.max))=true:=h.2 x hx
 rw [Bool.and_eq_true]at h2
 have h3:=of_decide_eq_true h2.1
 have h4:=of_decide_eq_true h2.2
 have e1:IntKind.u8.min=0:=rfl
 have e2:IntKind.u8.max=255:=rfl
 rw [e1]at h3
 rw [e2]at h4
 exact⟨h3,h4⟩
end Go.Ev.G

namespace Go.Ev.G
open Go Go.Ev
set_option maxRecDepth 100000

theorem dyTwo_eq(a b:Int×Int):spec_dyTwo a b=some (decide (gd a∧gd b)):=by
 unfold spec_dyTwo
 rw [dyGood_eq,Option.bind_some]
 by_cases ha:gd a
 ·rw [decide_eq_true ha,cond_true,dyGood_eq]
  simp [ha]
 ·rw [decide_eq_false ha,cond_false]
  simp [ha]
theorem compDy_ev{a b:Int×Int}(ha:gd a)(hb:gd b):Evt (fun k _=>spec_CompareDyadic k a b) (cmpI (sv a) (sv b),true):=by
 refine Evt.eq (f:=fun k q=>_) ?_ (fun k q=>by rw [spec_CompareDyadic])
 exact Evt.bind (.const (dyTwo_eq a b)) (Evt.cfalse (by rw [decide_eq_true ⟨ha,hb⟩];rfl) (Evt.bind (dyCmp_ev ha hb) .pure))
theorem qUp_ev{a b:Int×Int}(ha:gd a)(hb:gd b):Evt (fun k _=>laws_qUp k a b) (cmpI (sv a) (sv b)):=by
 refine Evt.eq (f:=fun k q=>_) ?_ (fun k q=>by rw [laws_qUp])
 exact Evt.bind (compDy_ev ha hb) .pure
theorem qIn_ev{i:Iv}{a:Int×Int}(hi:gdI i)(ha:gd a)(h1:sv i.1≤sv a)(h2:sv a≤sv i.2):Evt (fun k _=>laws_qIn k i a) true:=by
 refine Evt.eq (f:=fun k q=>_) ?_ (fun k q=>by rw [laws_qIn])
 refine Evt.bind (qUp_ev hi.1 ha) (Evt.ctrue (by rw [cmpI_le];exact decide_eq_true h1) (Evt.bind (qUp_ev ha hi.2) ?_))
 rw [cmpI_le,decide_eq_true h2]
 exact .pure
theorem same_all{α:Type}{L:Nat→Nat→Int→Option (Bool ⊕ Unit)}{xs:List α}{z:α}{e:Nat→α→Option Bool}(hb:xs.length<lenB)(he:∀x∈xs,Evt (fun k _=>e k x) true)
  (hL:∀k n i,L k (n+1) i=(bif (decide (i<(xs.length:Int)))then(bif (decide (0≤i))then(bif (decide (i<(xs.length:Int)))then(bif (decide (0≤i))then(bif (decide (i<(xs.length:Int)))then(Option.bind (e k (xs.getD (Int.toNat i) z)) fun r=>(bif (!r)then some (Sum.inl false)else L k n (IntKind.wrap .i64 (i+1))))else none)else none)else none)else none)else some (.inr ()))) :
  Evt (fun k n=>L k n 0) (.inr ()):=by
 have key:∀(r d:List α),d++r=xs→Evt (fun k n=>L k n d.length) (.inr ()):=by
  intro r
  induction r with
  | nil =>
   intro d h
   rw [List.append_nil]at h
   subst h
   refine Evt.step (fun k n=>hL k n _) ?_
   rw [mid_end]
   exact Evt.cfalse rfl .pure
  | cons x r ih =>
   intro d h
   subst h
   refine Evt.step (fun k n=>hL k n _) (Evt.ctrue mid_lt (Evt.ctrue mid_ge (Evt.ctrue mid_lt (Evt.ctrue mid_ge (Evt.ctrue mid_lt ?_)))))
   rw [mid_get]
   refine Evt.bind (he x (by simp)) (Evt.cfalse rfl ?_)
   rw [len_next hb]
   exact ih (d ++ [x]) (by simp)
 exact key xs [] rfl
theorem qNumbers_ev{x:Pt}(hb:x.length<lenB):Evt (fun k _=>laws_qNumbers k x x) true:=by
 refine Evt.eq (f:=fun k q=>_) ?_ (fun k q=>by rw [laws_qNumbers])
 refine Evt.cfalse (by simp) (Evt.inr (Evt.diag (same_all (L:=fun k n i=>laws_qNumbers_L58 k n x x (x.length:Int) i) (z:=(0,0)) (e:=fun _ y=>some ((y.1==y.1)&&((y.2==y.2)&&true))) hb (fun y _ => .const (by simp)) (fun k n i=>by rw [laws_qNumbers_L58.eq_2];rfl))) .pure)
theorem qDyadics_ev{x:List Pt}(hb:x.length<lenB)(hr:∀r∈x,r.length<lenB):Evt (fun k _=>laws_qDyadics k x x) true:=by
 refine Evt.eq (f:=fun k q=>_) ?_ (fun k q=>by rw [laws_qDyadics])
 exact Evt.cfalse (by simp) (Evt.inr (Evt.diag (same_all (L:=fun k n i=>laws_qDyadics_L58 k n x x (x.length:Int) i) (z := []) (e:=fun k y=>laws_qNumbers k y y) hb (fun y hy=>qNumbers_ev (hr y hy)) (fun k n i=>by rw [laws_qDyadics_L58.eq_2]))) .pure)
theorem qIntervals_ev{x:List Iv}(hb:x.length<lenB):Evt (fun k _=>laws_qIntervals k x x) true:=by
 refine Evt.eq (f:=fun k q=>_) ?_ (fun k q=>by rw [laws_qIntervals])
 exact Evt.cfalse (by simp) (Evt.inr (Evt.diag (same_all (L:=fun k n i=>laws_qIntervals_L58 k n x x (x.length:Int) i) (z:=((0,0),0,0)) (e:=fun _ y=>some (((y.1.1==y.1.1)&&((y.1.2==y.1.2)&&true))&&(((y.2.1==y.2.1)&&((y.2.2==y.2.2)&&true))&&true))) hb (fun y _ => .const (by simp)) (fun k n i=>by rw [laws_qIntervals_L58.eq_2];rfl))) .pure)
theorem qTable_ev{x:List (List Iv)}(hb:x.length<lenB)(hr:∀r∈x,r.length<lenB):Evt (fun k _=>laws_qTable k x x) true:=by
 refine Evt.eq (f:=fun k q=>_) ?_ (fun k q=>by rw [laws_qTable])
 exact Evt.cfalse (by simp) (Evt.inr (Evt.diag (same_all (L:=fun k n i=>laws_qTable_L58 k n x x (x.length:Int) i) (z := []) (e:=fun k y=>laws_qIntervals k y y) hb (fun y hy=>qIntervals_ev (hr y hy)) (fun k n i=>by rw [laws_qTable_L58.eq_2]))) .pure)
theorem halfD_sv{a b:Int×Int}(ha:gd a)(hb:gd b)(h:(halfD a b).2=true):2*sv (halfD a b).1=sv a+sv b:=by
 have h1:=sv_mkD h
 have ka:=gd_k ha
 have kb:=gd_k hb
 have hp:(0:Int)<2 ^ exA a b:=Int.pow_pos (by omega)
 have h1:sv (halfD a b).1*2 ^ (exA a b+1)=sumN a b*2 ^ 24:=h1
 refine Int.eq_of_mul_eq_mul_right (Int.ne_of_gt hp) ?_
 have e0:2*sv (halfD a b).1*2 ^ exA a b=sv (halfD a b).1*2 ^ (exA a b+1):=by
  rw [Int.pow_succ]
  grind
 rw [e0,h1]
 have ea:(2:Int) ^ (exA a b - a.2.toNat)*2 ^ 24=2 ^ (24 - a.2.toNat)*2 ^ exA a b:=by
  rw [←Int.pow_add,←Int.pow_add]
  congr 1
  unfold exA
  omega
 have eb:(2:Int) ^ (exA a b - b.2.toNat)*2 ^ 24=2 ^ (24 - b.2.toNat)*2 ^ exA a b:=by
  rw [←Int.pow_add,←Int.pow_add]
  congr 1
  unfold exA
  omega
 unfold sumN sv
 rw [Int.add_mul,Int.add_mul,Int.mul_assoc,Int.mul_assoc,ea,eb,Int.mul_assoc,Int.mul_assoc]

theorem inner_in{J:List (List Iv)}{M:List Pt}{i:Nat}{row:Pt}(hrow:M.getD i []=row)(hi:i<J.length)(hr:row.length<100)(h:∀k,k<row.length→k<(J.getD i []).length∧Evt (fun q _=>laws_qIn q ((J.getD i []).getD k ((0,0),0,0)) (row.getD k (0,0))) true)(x5:List (List Tm))(x6:Bx)(x7:List Pt)(x12:Bool)(x13:List Pt)(x19:List (List Iv))(x20:Bool)(x201 x202:Int):∀(j k:Nat),k+j=row.length →
  Evt (fun q n=>laws_FnInverses_L2147462758 q n x5 x6 x7 x12 x13 x19 x20 J (i:Int) M x201 x202 row (row.length:Int) k) (.inr (x5,x6,x7,x12,x13,x19,x20,J,M,x201,x202,()))
 | 0,k,hk=>Evt.step (fun q n=>laws_FnInverses_L2147462758.eq_2 q _ _ _ _ _ _ _ _ _ _ _ _ _ _ _ n) (Evt.cfalse (decide_eq_false (by omega)) .pure)
 | j+1,k,hk=>by
  obtain⟨h1,h2⟩:=h k (by omega)
  refine Evt.step (fun q n=>laws_FnInverses_L2147462758.eq_2 q _ _ _ _ _ _ _ _ _ _ _ _ _ _ _ n) ?_
  simp only [Int.toNat_natCast]
  refine Evt.ctrue (decide_eq_true (by omega)) (Evt.ctrue (decide_eq_true (by omega)) (Evt.ctrue (decide_eq_true (by omega)) (Evt.ctrue (decide_eq_true (by omega)) (Evt.ctrue (decide_eq_true (by omega)) (Evt.ctrue (decide_eq_true (by omega)) (Evt.ctrue (decide_eq_true (by omega)) ?_))))))
  refine Evt.bind h2 (Evt.cfalse rfl ?_)
  rw [w64_next (m:=k) (by simp only [lenB];omega)]
  exact inner_in hrow hi hr h x5 x6 x7 x12 x13 x19 x20 x201 x202 j (k+1) (by omega)
theorem outer_in{J:List (List Iv)}{M:List Pt}(hM:M.length<100)(h0:∀i,i<M.length→i<J.length∧(M.getD i []).length<100)(h:∀i,i<M.length→∀k,k<(M.getD i []).length→k<(J.getD i []).length∧Evt (fun q _=>laws_qIn q ((J.getD i []).getD k ((0,0),0,0)) ((M.getD i []).getD k (0,0))) true)(x5:List (List Tm))(x6:Bx)(x7:List Pt)(x12:Bool)(x13:List Pt)(x19:List (List Iv))(x20:Bool):∀(j i:Nat),i+j=M.length →
  Evt (fun q n=>laws_FnInverses_L8388526 q n x5 x6 x7 x12 x13 x19 x20 J M (M.length:Int) i) (.inr (x5,x6,x7,x12,x13,x19,x20,()))
 | 0,i,hi=>Evt.step (fun q n=>laws_FnInverses_L8388526.eq_2 q _ _ _ _ _ _ _ _ _ _ _ n) (Evt.cfalse (decide_eq_false (by omega)) .pure)
 | j+1,i,hi=>by
  have hlt:i<M.length:=by omega
  refine Evt.step (fun q n=>laws_FnInverses_L8388526.eq_2 q _ _ _ _ _ _ _ _ _ _ _ n) (Evt.ctrue (decide_eq_true (by omega)) (Evt.ctrue (decide_eq_true (by omega)) (Evt.ctrue (decide_eq_true (by omega)) ?_)))
  rw [Int.toNat_natCast]
  have hin:=inner_in (J:=J) (M:=M) (i:=i) rfl (h0 i hlt).1 (h0 i hlt).2 (h i hlt) x5 x6 x7 x12 x13 x19 x20 (M.length:Int) (i:Int) (M.getD i []).length 0 (by omega)
  refine Evt.inr (Evt.diag hin) ?_
  simp only [w64_next (show i<lenB by simp only [lenB];omega)]
  exact outer_in hM h0 h x5 x6 x7 x12 x13 x19 x20 j (i+1) (by omega)
end Go.Ev.G

namespace Go.Ev.G
open Go Go.Ev
set_option maxRecDepth 100000

theorem nw_len{s:List (List Tm)}{b:Bx}(h:nwV s b=true):(sidesB b.1.toNat b.2.1 b.2.2).length=b.2.1.length:=by
 obtain⟨m,hb,hN⟩:=nwV_form h
 have hm:b.1.toNat=m:=by rw [hb];simp
 rw [hm]
 exact sidesB_len hN
theorem jy_ij{s:List (List Tm)}{b:Bx}(h:nwV s b=true)(hj:(jyO (sidesB b.1.toNat b.2.1 b.2.2) s).isSome=true):(ijV s b).2=true:=by
 obtain⟨q,hq⟩:=Option.isSome_iff_exists.1 hj
 unfold jyO at hq
 obtain⟨J,hJ,hq⟩:=Option.bind_eq_some_iff.1 hq
 obtain⟨M,hM,hq⟩:=Option.bind_eq_some_iff.1 hq
 obtain⟨Y,hY,_⟩:=Option.map_eq_some_iff.1 hq
 rw [nw_len h]at hY
 unfold ijV
 rw [if_pos h,hJ,Option.bind_some,hM]
 show(invV (b.2.1.length - 1) M 8).2=true
 rw [invV_oL,hY]
 rfl
theorem pt_ij{s:List (List Tm)}{b:Bx}(h:(ptR s b).2=true):(ijV s b).2=true:=by
 unfold ptR at h
 split at h
 ·rename_i hn
  refine jy_ij hn ?_
  unfold ptO at h
  cases hj:jyO (sidesB b.1.toNat b.2.1 b.2.2) s with
  | none=>rw [hj]at h;cases h
  | some q=>rfl
 ·cases h
theorem rt_ij{s:List (List Tm)}{b:Bx}(h:(rtV s b).2=true):(ijV s b).2=true:=by
 unfold rtV at h
 split at h
 ·rename_i hn
  refine jy_ij hn ?_
  unfold rtO at h
  cases hj:jyO (sidesB b.1.toNat b.2.1 b.2.2) s with
  | none=>rw [hj]at h;cases h
  | some q=>rfl
 ·cases h
theorem ij_mj{s:List (List Tm)}{b:Bx}(h:(ijV s b).2=true):nwV s b=true∧∃J M,jaO (sidesB b.1.toNat b.2.1 b.2.2) s=some J∧miO J=some M∧mjV s b=(M,true)∧ijV s b=invV (b.2.1.length - 1) M 8:=by
 unfold ijV at h ⊢
 split at h
 ·rename_i hn
  refine⟨hn,?_⟩
  split at h
  ·rename_i M hM
   obtain⟨J,hJ,hM2⟩:=Option.bind_eq_some_iff.1 hM
   refine⟨J,M,hJ,hM2,?_,?_⟩
   ·unfold mjV
    rw [if_pos hn,hM]
    rfl
   ·rw [if_pos hn]
  ·cases h
 ·cases h
theorem mj_some{s:List (List Tm)}{b:Bx}(h:(mjV s b).2=true):nwV s b=true∧∃J,jaO (sidesB b.1.toNat b.2.1 b.2.2) s=some J∧miO J=some (mjV s b).1:=by
 unfold mjV at h ⊢
 split at h
 ·rename_i hn
  rw [if_pos hn]
  refine⟨hn,?_⟩
  cases hM:(jaO (sidesB b.1.toNat b.2.1 b.2.2) s).bind miO with
  | none=>rw [hM]at h;cases h
  | some M =>
   obtain⟨J,hJ,hM2⟩:=Option.bind_eq_some_iff.1 hM
   exact⟨J,hJ,by rw [hM2];rfl⟩
 ·cases h
theorem jacOver_ev{s:List (List Tm)}{b:Bx}{J:List (List Iv)}(hb:s.length<lenB)(hm:∀r∈s,r.length<lenB)(hx:b.2.1.length<lenB)(h:nwV s b=true)(hJ:jaO (sidesB b.1.toNat b.2.1 b.2.2) s=some J):Evt (fun k _=>spec_JacobianOver k s b) (J,true):=by
 obtain⟨m,hbm,hN⟩:=nwV_form h
 have hmm:b.1.toNat=m:=by rw [hbm];simp
 rw [hmm]at hJ
 refine Evt.eq (f:=fun k q=>_) ?_ (fun k q=>by rw [spec_JacobianOver,spec_vaBoth])
 unfold nwV at h
 simp only [Bool.and_eq_true]at h
 have h1:=poSystem_ev hb hm
 have h2:=bxGood_ev hx
 rw [h.1]at h1
 rw [h.2.1]at h2
 have hv:Evt (fun k _=>(Option.bind (spec_poSystem k s) fun r1=>(bif r1 then(Option.bind (spec_bxGood k b) fun r2=>(bif r2 then some ((s.length:Int)==(b.2.1.length:Int))else some false))else some false))) true:=by
  have e:=h.2.2.1
  refine Evt.bind h1 (Evt.ctrue rfl (Evt.bind h2 (Evt.ctrue rfl ?_)))
  rw [e]
  exact .pure
 have hj:=vaJacobian_ev hN
 rw [hJ,←hbm]at hj
 exact Evt.bind hv (Evt.cfalse rfl (Evt.bind hj .pure))
theorem allO_get{α β:Type}{g:α→Option β}{z:β}{z0:α}{l:List α}{m:List β}(h:allO g z l=some m){i:Nat}(hi:i<m.length):i<l.length∧g (l.getD i z0)=some (m.getD i z):=by
 obtain⟨h1,h2⟩:=allO_some h
 have hl:i<l.length:=by rw [h1]at hi;simpa using hi
 refine⟨hl,?_⟩
 have e1:l.getD i z0=l[i]:=by rw [List.getD_eq_getElem?_getD,List.getElem?_eq_getElem hl];rfl
 have e2:m.getD i z=(g l[i]).getD z:=by rw [h1,List.getD_eq_getElem?_getD,List.getElem?_map,List.getElem?_eq_getElem hl];rfl
 rw [e1,e2]
 obtain⟨v,hv⟩:=Option.isSome_iff_exists.1 (h2 l[i] (List.getElem_mem hl))
 rw [hv];rfl
theorem mid_in{s:List (List Tm)}{b:Bx}{J:List (List Iv)}{M:List Pt}(h:nwV s b=true)(hJ:jaO (sidesB b.1.toNat b.2.1 b.2.2) s=some J)(hM:miO J=some M):M.length<100∧(∀i,i<M.length→i<J.length∧(M.getD i []).length<100) ∧
  ∀i,i<M.length→∀k,k<(M.getD i []).length→k<(J.getD i []).length∧Evt (fun q _=>laws_qIn q ((J.getD i []).getD k ((0,0),0,0)) ((M.getD i []).getD k (0,0))) true:=by
 obtain⟨m,hbm,hN⟩:=nwV_form h
 have hmm:b.1.toNat=m:=by rw [hbm];simp
 rw [hmm]at hJ
 obtain⟨jl,jr⟩:=jaO_ok hN hJ
 have n3:=hN.n1
 have hl:=allO_len hM
 have row:∀i,i<M.length→i<J.length∧rmO (J.getD i [])=some (M.getD i [])∧(J.getD i []).length=b.2.1.length∧∀x∈J.getD i [],ivGd x:=by
  intro i hi
  obtain⟨h1,h2⟩:=allO_get (z0 := []) hM hi
  have hmem:J.getD i []∈J:=getD_in h1
  exact⟨h1,h2,(jr _ hmem).1,(jr _ hmem).2⟩
 refine⟨by omega,fun i hi => ?_,fun i hi k hk => ?_⟩
 ·obtain⟨h1,h2,h3,_⟩:=row i hi
  have:=allO_len h2
  exact⟨h1,by omega⟩
 ·obtain⟨h1,h2,h3,h4⟩:=row i hi
  obtain⟨k1,k2⟩:=allO_get (z0:=((0,0),0,0)) h2 hk
  refine⟨k1,?_⟩
  have giv:=h4 _ (getD_in (z:=((0,0),0,0)) k1)
  generalize (J.getD i []).getD k ((0,0),0,0)=iv at k2 giv
  generalize (M.getD i []).getD k (0,0)=x at k2
  unfold hfO at k2
  split at k2
  ·rename_i hh
   cases k2
   have e:=halfD_sv giv.1 giv.2.1 hh
   exact qIn_ev ⟨giv.1,giv.2.1⟩ (halfD_gd _ _) (by have:=giv.2.2;omega) (by have:=giv.2.2;omega)
  ·cases k2
theorem roundedI_ev{m:List Pt}(hs:Sm m)(p:Nat)(hp:p≤24)(ht:tab gd m=true):Evt (fun k _=>impl_RoundedInverse k m (p:Int)) (invV (m.length - 1) m p):=by
 refine Evt.eq (f:=fun k q=>_) ?_ (fun k q=>by rw [impl_RoundedInverse])
 refine Evt.bind (isTable_ev hs.lb hs.lr) (Evt.cfalse (by rw [ht];rfl) ?_)
 have hpl:impl_isPlaces (p:Int)=some true:=by
  unfold impl_isPlaces impl_inside
  rw [decide_eq_true (show(p:Int)≥0 by omega)]
  simp only [cond_true,Option.bind_some]
  rw [decide_eq_true (show(p:Int)≤24 by omega)]
 refine Evt.bind (.const hpl) (Evt.cfalse rfl ?_)
 have hsq:=(tab_iff ht)
 obtain⟨n,hn⟩:∃n,m.length=n+1:=⟨m.length - 1,by omega⟩
 have hsq2:sq gd (n+1) m:=⟨hn,fun r hr=>by
  have:=tab_all ht r hr
  exact⟨by rw [this.1.1,hn],this.2⟩⟩
 rw [hn]
 exact Evt.bind (roundedInverse_ev (by omega) hsq2 hp) .pure
theorem implShr_ev{m:List (List Iv)}(hl:m.length≤3)(hr:∀r∈m,r.length≤3)(ht:tab ivGd m=true):Evt (fun k _=>impl_IsShrinking k m) (shV m):=by
 refine Evt.eq (f:=fun k q=>_) ?_ (fun k q=>by rw [impl_IsShrinking])
 exact Evt.bind (isIntervalTable_ev (by simp only [lenB];omega) (fun r h=>by have:=hr r h;simp only [lenB];omega)) (Evt.cfalse (by rw [ht];rfl) (Evt.bind (impl_isShrinking_ev ht) .pure))
theorem drawInverseO{ks:List Int}(hk:bytesOk ks):Ok (fun k _=>spec_DrawInverseJacobian k ks) (fun r=>syS r.1∧bxS r.2):=by
 refine Ok.eq (fun k q=>by rw [spec_DrawInverseJacobian]) ?_
 exact Ok.bind (drawMiddleO hk) fun r1 h1 => .pure h1
theorem drawNewtonPointO{ks:List Int}(hk:bytesOk ks):Ok (fun k _=>spec_DrawNewtonPoint k ks) (fun r=>syS r.1∧bxS r.2):=by
 refine Ok.eq (fun k q=>by rw [spec_DrawNewtonPoint]) ?_
 exact Ok.bind (drawMiddleO hk) fun r1 h1 => .pure h1
theorem fnInverses_law(a b:List Int)(ha:bytesOk a)(hb:bytesOk b):∃k,laws_FnInverses k a b=some true:=by
 refine Evt.get (Evt.eq (f:=fun k q=>_) ?_ (fun k q=>by rw [laws_FnInverses]))
 refine Evt.ite (fun _ => .pure) (fun _ => ?_)
 obtain⟨⟨s,bx⟩,e1,hs,hbx⟩:=drawInverseO ha
 obtain⟨⟨s2,bx2⟩,e2,hs2,hbx2⟩:=drawNewtonPointO hb
 simp only at hs hbx hs2 hbx2
 have sl:s.length<lenB:=by have:=hs.1;simp only [lenB];omega
 have sl0:s.length<274877906944:=by have:=hs.1;omega
 have sr:∀r∈s,r.length<lenB:=fun r hr=>by have:=hs.2 r hr;simp only [lenB];omega
 have bl:bx.2.1.length<lenB:=by have:=hbx.1;simp only [lenB];omega
 have sl2:s2.length<lenB:=by have:=hs2.1;simp only [lenB];omega
 have sr2:∀r∈s2,r.length<lenB:=fun r hr=>by have:=hs2.2 r hr;simp only [lenB];omega
 have bl2:bx2.2.1.length<lenB:=by have:=hbx2.1;simp only [lenB];omega
 have s3:∀ {t:List Pt},small3 t→t.length<lenB∧∀r∈t,r.length<lenB:=fun h=>⟨by have:=h.1;simp only [lenB];omega,fun r hr=>by have:=h.2 r hr;simp only [lenB];omega⟩
 have mS:=s3 (mjV_small s bx)
 have iS:=s3 (ijV_small s bx)
 have pL:(ptR s bx).1.length<lenB:=by have:=ptR_len (s:=s) (b:=bx);simp only [lenB];omega
 have pL2:(ptR s2 bx2).1.length<lenB:=by have:=ptR_len (s:=s2) (b:=bx2);simp only [lenB];omega
 have rS:=rtV_small s bx
 have rL:(rtV s bx).1.length<lenB:=by have:=rS.1;simp only [lenB];omega
 have rR:∀r∈(rtV s bx).1,r.length<lenB:=fun r hr=>by have:=rS.2 r hr;simp only [lenB];omega
 refine Evt.bind e1 (Evt.bind (impl_middleJacobian_ev sl sr bl) (Evt.bind (spec_middleJacobian_ev sl sr bl) (Evt.bind (impl_inverseJacobian_ev sl sr bl) (Evt.bind (spec_inverseJacobian_ev sl sr bl) (Evt.bind (impl_newtonPoint_ev sl sr bl) (Evt.bind (spec_newtonPoint_ev sl sr bl) (Evt.bind (impl_remainder_ev sl sr bl) (Evt.bind (spec_remainder_ev sl sr bl) (Evt.bind e2 (Evt.bind (impl_newtonPoint_ev sl2 sr2 bl2) (Evt.bind (spec_newtonPoint_ev sl2 sr2 bl2) ?_)))))))))))
  -- what is told is the same
 refine Evt.inr (y:=(s,bx,(mjV s bx).1,(mjV s bx).2,(mjV s bx).1,(ijV s bx).2,(ijV s bx).1,(rtV s bx).1,(rtV s bx).2,())) ?_ ?_
 ·refine Evt.cfalse (by simp) (Evt.bind (qDyadics_ev mS.1 mS.2) (Evt.cfalse rfl (Evt.cfalse (by simp) (Evt.bind (qDyadics_ev iS.1 iS.2) (Evt.cfalse rfl (Evt.cfalse (by simp) (Evt.bind (qNumbers_ev pL) (Evt.cfalse rfl (Evt.cfalse (by simp) (Evt.bind (qTable_ev rL rR) (Evt.cfalse rfl (Evt.cfalse (by simp) (Evt.bind (qNumbers_ev pL2) (Evt.cfalse rfl ?_))))))))))))))
  have i1:(ijV s bx).2=true→(mjV s bx).2=true:=fun h=>by
   obtain⟨_,J,M,_,_,e,_⟩:=ij_mj h
   rw [e]
  have i2:(ptR s bx).2=true→(ijV s bx).2=true:=pt_ij
  have i3:(rtV s bx).2=true→(ijV s bx).2=true:=rt_ij
  refine Evt.ite (fun hi => ?_) (fun hi => ?_)
  ·refine Evt.cfalse (by rw [i1 hi];rfl) (Evt.ite (fun _=>Evt.cfalse (by rw [hi];rfl) (Evt.ite (fun _=>Evt.cfalse (by rw [hi];rfl) .pure) (fun _ => .pure))) (fun _=>Evt.ite (fun _=>Evt.cfalse (by rw [hi];rfl) .pure) (fun _ => .pure)))
  ·refine Evt.ite (fun hp => ?_) (fun _=>Evt.ite (fun hr => ?_) (fun _ => .pure))
   ·have:=i2 hp;rw [this]at hi;cases hi
   ·have:=i3 hr;rw [this]at hi;cases hi
  -- the middles lie in the derivatives
 refine Evt.inr (y:=(s,bx,(mjV s bx).1,(ijV s bx).2,(ijV s bx).1,(rtV s bx).1,(rtV s bx).2,())) ?_ ?_
 ·refine Evt.ite (fun hm => ?_) (fun _ => .pure)
  obtain⟨hn,J,hJ,hM⟩:=mj_some hm
  obtain⟨hM1,hM2,hM3⟩:=mid_in hn hJ hM
  refine Evt.bind (jacOver_ev sl sr bl hn hJ) (Evt.cfalse rfl ?_)
  exact Evt.inr (Evt.diag (outer_in hM1 hM2 hM3 s bx (mjV s bx).1 (ijV s bx).2 (ijV s bx).1 (rtV s bx).1 (rtV s bx).2 (mjV s bx).1.length 0 (by omega))) .pure
  -- the inverse is that of the middles
 refine Evt.inr (y:=(s,bx,(rtV s bx).1,(rtV s bx).2,())) ?_ ?_
 ·refine Evt.ite (fun hi => ?_) (fun _ => .pure)
  have hi:(ijV s bx).2=true:=hi
  obtain⟨hn,J,M,hJ,hM,e3,e4⟩:=ij_mj hi
  obtain⟨m,hbm,hN⟩:=nwV_form hn
  have hmm:bx.1.toNat=m:=by rw [hbm];simp
  rw [hmm]at hJ
  have hsq:=miO_sq hN hJ hM
  have n3:=hN.n1
  have htab:=tab_of_sq (by omega) hsq
  have hsm:Sm M:=⟨by have:=hsq.1;omega,fun r hr=>by have:=(hsq.2 r hr).1;omega⟩
  have hr:=roundedI_ev hsm 8 (by omega) htab
  have hl:M.length - 1=bx.2.1.length - 1:=by have:=hsq.1;omega
  rw [hl,←e4]at hr
  rw [e3]
  refine Evt.bind hr (Evt.cfalse (by rw [hi];rfl) (Evt.bind (qDyadics_ev iS.1 iS.2) (Evt.cfalse rfl .pure)))
  -- whether it contracts
 refine Evt.ite (fun hr => ?_) (fun _ => .pure)
 obtain⟨n,hn,hsq⟩:=rtV_sq hr
 have ht:=tab_of_sq (by omega) hsq
 have hic:icV s bx=shV (rtV s bx).1:=by unfold icV;rw [if_pos hr]
 have hc:=impl_contracting_ev sl sr bl
 rw [hic]at hc
 refine Evt.bind (implShr_ev rS.1 rS.2 ht) (Evt.bind hc (Evt.ctrue (by simp) ?_))
 simp only [BEq.rfl]
 exact .pure
theorem fnInverses_row(a b:List Int)(h:WfT (.sl (.int .u8)) a)(h':WfT (.sl (.int .u8)) b):∃k,laws_FnInverses k a b=some true:=fnInverses_law a b (bytes_of h) (bytes_of h')
end Go.Ev.G

