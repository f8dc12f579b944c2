/- What the plain functions of the law compute, for all inputs within the sizes that the theorems name. -/
import Derived.Test.YtbbbcdmgjjechaaPFaceSigns1
import Derived.Test.YtbbbcdmgjjechaaAFaceSigns1
set_option linter.unusedVariables false
namespace Go.Ev.G
open Go Go.Ev
set_option maxRecDepth 100000

def N3(d0 d1 d2:Nat)(f:Nat→Nat→Nat→Nat):Nat:=sN (d0+1) fun a=>sN (d1+1) fun b=>sN (d2+1) fun c=>f a b c
theorem N3_le{d0 d1 d2:Nat}{f g:Nat→Nat→Nat→Nat}(h:∀a b c,a≤d0→b≤d1→c≤d2→f a b c≤g a b c):N3 d0 d1 d2 f≤N3 d0 d1 d2 g :=
 sN_le fun a ha=>sN_le fun b hb=>sN_le fun c hc=>h a b c (by omega) (by omega) (by omega)
theorem S3_abs{d0 d1 d2:Nat}{f:Nat→Nat→Nat→Int}:(S3 d0 d1 d2 f).natAbs≤N3 d0 d1 d2 fun a b c=>(f a b c).natAbs :=
 Nat.le_trans sm_abs (sN_le fun _ _=>Nat.le_trans sm_abs (sN_le fun _ _=>sm_abs))
theorem N3_mul{d0 d1 d2 k:Nat}{f:Nat→Nat→Nat→Nat}:(N3 d0 d1 d2 fun a b c=>k*f a b c)=k*N3 d0 d1 d2 f:=by
 unfold N3
 simp only [sN_mul]
theorem N3_sum{d0 d1 d2:Nat}{g:Tm→Nat→Nat→Nat→Nat}:∀(p:List Tm),(N3 d0 d1 d2 fun a b c=>(p.map fun t=>g t a b c).sum)=(p.map fun t=>N3 d0 d1 d2 (g t)).sum
 | []=>by
  have:(N3 d0 d1 d2 fun a b c=>0*0)=0*N3 d0 d1 d2 (fun _ _ _=>0):=N3_mul
  simpa using this
 | t::p=>by
  have ih:=N3_sum (d0:=d0) (d1:=d1) (d2:=d2) (g:=g) p
  simp only [List.map_cons,List.sum_cons]
  rw [←ih]
  unfold N3
  simp only [sN_add]
theorem N3_prod{d0 d1 d2 k:Nat}{f g h:Nat→Nat}:(N3 d0 d1 d2 fun a b c=>k*f a*g b*h c)=k*sN (d0+1) f*sN (d1+1) g*sN (d2+1) h:=by
 unfold N3
 simp only [sN_mul]
 have e1:(fun a=>sN (d1+1) fun b=>k*f a*g b*sN (d2+1) h)=fun a=>(sN (d2+1) h*sN (d1+1) g*k)*f a:=by
  funext a
  rw [show(fun b=>k*f a*g b*sN (d2+1) h)=fun b=>(k*f a*sN (d2+1) h)*g b by funext b;ac_rfl,sN_mul]
  ac_rfl
 rw [e1,sN_mul]
 ac_rfl
theorem abs_sum{α:Type}(f:α→Int):∀(l:List α),((l.map f).sum).natAbs≤(l.map fun x=>(f x).natAbs).sum
 | []=>by simp
 | x::l=>by
  have:=abs_sum f l
  simp only [List.map_cons,List.sum_cons]
  omega
theorem sum_bd{α:Type}{f:α→Nat}{B:Nat}:∀(l:List α),(∀x∈l,f x≤B)→(l.map f).sum≤l.length*B
 | [],_=>by simp
 | x::l,h=>by
  have h1:=h x (by simp)
  have h2:=sum_bd l (fun y hy=>h y (by simp [hy]))
  simp only [List.map_cons,List.sum_cons,List.length_cons,Nat.add_mul]
  omega
theorem sN_mono{n m:Nat}(h:n≤m)(f:Nat→Nat):sN n f≤sN m f:=by
 obtain⟨k,rfl⟩:=Nat.le.dest h
 induction k with
 | zero=>exact Nat.le_refl _
 | succ k ih =>
  rw [←Nat.add_assoc,sN_succ]
  have:=ih (by omega)
  omega
theorem pt_bd{l w:Int}{e j:Nat}(hl:l.natAbs≤128)(hw:w.natAbs≤256):(pt l w e j).natAbs≤chN e j*128 ^ (e - j)*256 ^ j:=by
 unfold pt
 rw [Int.natAbs_mul,Int.natAbs_mul,Int.natAbs_pow,Int.natAbs_pow]
 exact Nat.mul_le_mul (Nat.mul_le_mul (by simp) (Nat.pow_le_pow_left hl _)) (Nat.pow_le_pow_left hw _)
theorem pt_sum{l w:Int}{e d:Nat}(he:e≤4)(hd:d≤4)(hl:l.natAbs≤128)(hw:w.natAbs≤256):(sN (d+1) fun j=>(pt l w e j).natAbs)≤384 ^ e:=by
 refine Nat.le_trans (sN_le fun j _=>pt_bd hl hw) (Nat.le_trans (sN_mono (show d+1≤5 by omega) _) ?_)
 rcases(by omega:e=0∨e=1∨e=2∨e=3∨e=4)with rfl | rfl | rfl | rfl | rfl <;> decide
theorem Fc.wd{p:List Tm}{K:Nat}{lo hi:List Int}{q:Nat}(h:Fc p K lo hi q)(i:Nat):(hi.getD i 0 - lo.getD i 0).natAbs≤256:=by
 have:=h.bl i
 have:=h.bh i
 omega
theorem term_bd{p:List Tm}{K:Nat}{lo hi:List Int}{q:Nat}(h:Fc p K lo hi q){t:Tm}(ht:t∈p):(N3 (mxE p 0) (mxE p 1) (mxE p 2) fun a b c=>(av (fun i=>lo.getD i 0) (fun i=>hi.getD i 0) t (Ct K (dgN p) t) a b c).natAbs)≤21743271936000:=by
 have hg:=h.gd t ht
 have hdl:=eN_deg hg
 have hdg:=(dgF_ge p (-1)).2 t ht
 have hd4:=dgF_le p (-1) (by omega) h.gd
 have hn:degN t≤dgN p∧dgN p≤4:=by unfold dgN;omega
 have hD:∀i,mxE p i≤4:=fun i=>(mxE_le h.gd i).1
 have e:(fun a b c=>(av (fun i=>lo.getD i 0) (fun i=>hi.getD i 0) t (Ct K (dgN p) t) a b c).natAbs)=fun a b c=>(Ct K (dgN p) t).natAbs*(prt (fun i=>lo.getD i 0) (fun i=>hi.getD i 0) t 0 a).natAbs*(prt (fun i=>lo.getD i 0) (fun i=>hi.getD i 0) t 1 b).natAbs*(prt (fun i=>lo.getD i 0) (fun i=>hi.getD i 0) t 2 c).natAbs:=by
  funext a b c
  unfold av
  rw [Int.natAbs_mul,Int.natAbs_mul,Int.natAbs_mul]
 rw [e,N3_prod]
 have p0:=pt_sum (l:=lo.getD 0 0) (w:=hi.getD 0 0 - lo.getD 0 0) (eN_pw hg 0).2 (hD 0) (h.bl 0) (h.wd 0)
 have p1:=pt_sum (l:=lo.getD 1 0) (w:=hi.getD 1 0 - lo.getD 1 0) (eN_pw hg 1).2 (hD 1) (h.bl 1) (h.wd 1)
 have p2:=pt_sum (l:=lo.getD 2 0) (w:=hi.getD 2 0 - lo.getD 2 0) (eN_pw hg 2).2 (hD 2) (h.bl 2) (h.wd 2)
 have hc:(Ct K (dgN p) t).natAbs≤1000*384 ^ (dgN p - degN t):=by
  unfold Ct
  rw [Int.natAbs_mul,Int.natAbs_pow,Int.natAbs_natCast]
  have h1:t.1.natAbs≤1000:=by have:=hg.1;omega
  have h2:2 ^ K≤384:=Nat.le_trans (Nat.pow_le_pow_right (by decide) h.k4) (by decide)
  exact Nat.mul_le_mul h1 (Nat.pow_le_pow_left h2 _)
 refine Nat.le_trans (Nat.mul_le_mul (Nat.mul_le_mul (Nat.mul_le_mul hc p0) p1) p2) ?_
 have e2:1000*384 ^ (dgN p - degN t)*384 ^ eN t 0*384 ^ eN t 1*384 ^ eN t 2=1000*384 ^ dgN p:=by
  rw [Nat.mul_assoc,Nat.mul_assoc,Nat.mul_assoc,←Nat.pow_add,←Nat.pow_add,←Nat.pow_add]
  have:dgN p - degN t+(eN t 0+(eN t 1+eN t 2))=dgN p:=by
   have h1:=hn.1
   unfold degN at h1 ⊢
   omega
  rw [this]
 rw [e2]
 have h4:384 ^ dgN p≤384 ^ 4:=Nat.pow_le_pow_right (by decide) hn.2
 have:(384:Nat) ^ 4=21743271936:=by decide
 omega
theorem B3_bd{p:List Tm}{K:Nat}{lo hi:List Int}{q:Nat}(h:Fc p K lo hi q){x y z:Nat}(hx:x≤mxE p 0)(hy:y≤mxE p 1)(hz:z≤mxE p 2):(B3 (mxE p 0) (mxE p 1) (mxE p 2) (AA p K lo hi) x y z).natAbs≤751447478108160000:=by
 have hD:∀i,mxE p i≤4:=fun i=>(mxE_le h.gd i).1
 have hf:∀d,d≤4→fac d≤12:=by
  intro d hd
  rcases(by omega:d=0∨d=1∨d=2∨d=3∨d=4)with rfl | rfl | rfl | rfl | rfl <;> decide
 unfold B3
 refine Nat.le_trans S3_abs ?_
 refine Nat.le_trans (N3_le (g:=fun a b c=>1728*(p.map fun t=>(av (fun i=>lo.getD i 0) (fun i=>hi.getD i 0) t (Ct K (dgN p) t) a b c).natAbs).sum) fun a b c ha hb hc => ?_) ?_
 ·rw [Int.natAbs_mul,Nat.mul_comm]
  refine Nat.mul_le_mul ?_ (abs_sum _ p)
  have w0:=wt_bd (hD 0) hx ha
  have w1:=wt_bd (hD 1) hy hb
  have w2:=wt_bd (hD 2) hz hc
  have f0:=hf _ (hD 0)
  have f1:=hf _ (hD 1)
  have f2:=hf _ (hD 2)
  rw [Int.natAbs_mul,Int.natAbs_mul]
  exact Nat.mul_le_mul (Nat.mul_le_mul (show _≤12 by omega) (show _≤12 by omega)) (show _≤12 by omega)
 ·rw [N3_mul,N3_sum]
  have:=sum_bd p (fun t ht=>term_bd h ht)
  have hl:=h.len
  have h2:p.length*21743271936000≤20*21743271936000:=Nat.mul_le_mul_right _ hl
  omega

def sgnL(l:List Int):Int:=if l.all (fun v=>decide (0<v))then 1 else if l.all (fun v=>decide (v<0))then -1 else 0
theorem fac_pos{d:Nat}(h:d≤4):1≤fac d:=by
 rcases(by omega:d=0∨d=1∨d=2∨d=3∨d=4)with rfl | rfl | rfl | rfl | rfl <;> decide
theorem sgn_same{p:List Tm}{K:Nat}{lo hi:List Int}{q:Nat}(h:Fc p K lo hi q):sgnL (gr (Dg p lo hi 0+1) (Dg p lo hi 1+1) (Dg p lo hi 2+1) (TC (Dg p lo hi) (TB (Dg p lo hi) (TA (Dg p lo hi) fun x y z=>IntKind.wrap .i64 (AA p K lo hi x y z)))))=sgnL (bsV3 p K lo hi):=by
 have hD:∀i,mxE p i≤4:=fun i=>(mxE_le h.gd i).1
 obtain⟨_,_,o3⟩:=plO_ok hD lo.length
 have hDl:∀i,i<3→Dg p lo hi i≤mxE p i:=fun i h3=>by rw [h.D i h3];split <;> omega
 have hF:=fac_pos (hD q)
  -- the numbers of both lists
 have hS:∀x y z,x≤Dg p lo hi 0→y≤Dg p lo hi 1→z≤Dg p lo hi 2→∃l∈plO (mxE p) lo.length,jn l 0=x∧jn l 1=y∧jn l 2=z∧B3 (mxE p 0) (mxE p 1) (mxE p 2) (AA p K lo hi) x y z=fac (mxE p q)*B3 (Dg p lo hi 0) (Dg p lo hi 1) (Dg p lo hi 2) (AA p K lo hi) x y z:=by
  intro x y z hx hy hz
  have d0:=hDl 0 (by omega)
  have d1:=hDl 1 (by omega)
  have d2:=hDl 2 (by omega)
  obtain⟨l,hl,j0,j1,j2⟩:=plO_has h.sz.1 h.sz.2 h.mz (x:=x) (y:=y) (z:=z) (by omega) (by omega) (by omega)
  refine⟨l,hl,j0,j1,j2,?_⟩
  have hb:=B3_flat h x y z
  have e0:∀i x,i<3→x≤Dg p lo hi i→zq q i x=x:=by
   intro i x h3 hx
   unfold zq
   rw [h.D i h3]at hx
   split
   ·rename_i hh
    rw [if_pos hh]at hx
    omega
   ·rfl
  rw [e0 0 x (by omega) hx,e0 1 y (by omega) hy,e0 2 z (by omega) hz]at hb
  exact hb
 have hI:∀is∈plO (mxE p) lo.length,(jn is 0≤mxE p 0∧jn is 1≤mxE p 1∧jn is 2≤mxE p 2):=by
  intro is his
  obtain⟨e,g⟩:=o3 is his
  have one:∀i,jn is i≤mxE p i:=by
   intro i
   by_cases hi:i<lo.length
   ·have:=g i hi
    unfold jn
    omega
   ·rw [jn_out (by omega)]
    omega
  exact⟨one 0,one 1,one 2⟩
 have hZ:∀i x,i<3→x≤mxE p i→zq q i x≤Dg p lo hi i:=by
  intro i x h3 hx
  unfold zq
  rw [h.D i h3]
  split <;> omega
 have w:∀v:Int,v.natAbs≤751447478108160000→IntKind.wrap .i64 v=v:=fun v hv=>w64 (by omega) (by omega)
 have small:∀(F B:Int),1≤F→(F*B).natAbs≤751447478108160000→B.natAbs≤751447478108160000:=by
  intro F B hF hB
  rw [Int.natAbs_mul]at hB
  exact Nat.le_trans (Nat.le_mul_of_pos_left _ (by omega)) hB
 have all_iff:∀(P:Int→Prop) [DecidablePred P],(∀F B:Int,1≤F→(P (F*B)↔P B))→((gr (Dg p lo hi 0+1) (Dg p lo hi 1+1) (Dg p lo hi 2+1) (TC (Dg p lo hi) (TB (Dg p lo hi) (TA (Dg p lo hi) fun x y z=>IntKind.wrap .i64 (AA p K lo hi x y z))))).all (fun v=>decide (P v))=(bsV3 p K lo hi).all fun v=>decide (P v)):=by
  intro P _ hP
  rw [Bool.eq_iff_iff,List.all_eq_true,List.all_eq_true]
  simp only [decide_eq_true_eq]
  constructor
  ·intro ha v hv
   rw [impl_B3 h]at hv
   obtain⟨is,his,rfl⟩:=List.mem_map.1 hv
   obtain⟨i0,i1,i2⟩:=hI is his
   have hb:=B3_flat h (jn is 0) (jn is 1) (jn is 2)
   have hbd:=B3_bd h i0 i1 i2
   rw [w _ hbd,hb,hP _ _ hF]
   rw [hb]at hbd
   have hm:=ha _ (mem_gr (f:=TC (Dg p lo hi) (TB (Dg p lo hi) (TA (Dg p lo hi) fun x y z=>IntKind.wrap .i64 (AA p K lo hi x y z)))) (Nat.lt_succ_of_le (hZ 0 _ (by omega) i0)) (Nat.lt_succ_of_le (hZ 1 _ (by omega) i1)) (Nat.lt_succ_of_le (hZ 2 _ (by omega) i2)))
   rw [spec_B3 (hZ 0 _ (by omega) i0) (hZ 1 _ (by omega) i1) (hZ 2 _ (by omega) i2),w _ (small _ _ hF hbd)]at hm
   exact hm
  ·intro ha v hv
   obtain⟨x,y,z,hx,hy,hz,rfl⟩:=gr_mem hv
   obtain⟨l,hl,j0,j1,j2,hb⟩:=hS x y z (by omega) (by omega) (by omega)
   obtain⟨i0,i1,i2⟩:=hI l hl
   rw [j0]at i0
   rw [j1]at i1
   rw [j2]at i2
   have hbd:=B3_bd h i0 i1 i2
   have hm:=ha (IntKind.wrap .i64 (B3 (mxE p 0) (mxE p 1) (mxE p 2) (AA p K lo hi) x y z)) (by
    rw [impl_B3 h]
    refine List.mem_map.2 ⟨l,hl,?_⟩
    rw [j0,j1,j2])
   rw [w _ hbd,hb,hP _ _ hF]at hm
   rw [hb]at hbd
   rw [spec_B3 (by omega) (by omega) (by omega),w _ (small _ _ hF hbd)]
   exact hm
 unfold sgnL
 rw [all_iff (fun v=>0<v) (fun F B hF=>⟨fun hh=>by
  rcases Int.lt_or_le 0 B with h1 | h1
  ·exact h1
  ·have:=Int.mul_le_mul_of_nonneg_left h1 (show 0≤F by omega)
   rw [Int.mul_zero]at this
   omega,fun hh=>Int.mul_pos (by omega) hh⟩),all_iff (fun v=>v<0) (fun F B hF=>⟨fun hh=>by
  rcases Int.lt_or_le B 0 with h1 | h1
  ·exact h1
  ·have:=Int.mul_nonneg (show 0≤F by omega) h1
   omega,fun hh=>Int.mul_neg_of_pos_of_neg (by omega) hh⟩)]
end Go.Ev.G

namespace Go.Ev.G
open Go Go.Ev
set_option maxRecDepth 100000

theorem polyV_len{p:List Tm}(h:polyV p=true):p.length≤20:=by
 unfold polyV at h
 rw [Bool.and_eq_true,decide_eq_true_eq]at h
 omega
end Go.Ev.G

namespace Go.Ev.G
open Go Go.Ev
set_option maxRecDepth 100000

theorem beSign_ev{l0:Int}{ls:List Int}(hb:(l0::ls).length<lenB):Evt (fun k _=>spec_beSign k (l0::ls)) (sgnL (l0::ls)):=by
 refine Evt.eq (f:=fun k q=>_) ?_ (fun k q=>by rw [spec_beSign])
 have key:∀(s:Int) (r d:List Int),d++r=l0::ls→Evt (fun k n=>spec_beSign_L58 k n s (l0::ls) ((l0::ls).length:Int) d.length) (if r.all (fun v=>cmpI v 0==s)then .inr (s,())else .inl 0):=by
  intro s r
  induction r with
  | nil =>
   intro d h
   rw [List.append_nil]at h
   refine Evt.step (fun k n=>spec_beSign_L58.eq_2 k _ _ _ _ n) ?_
   rw [←h]
   exact Evt.cfalse (by simp) .pure
  | cons e r ih =>
   intro d h
   have hxl:=congrArg List.length h
   simp at hxl
   have ih:=ih (d ++ [e]) (by simpa using h)
   rw [←len_next (r:=r) (by rw [h];exact hb)]at ih
   have g:(l0::ls).getD (Int.toNat (d.length:Int)) 0=e:=by rw [←h];exact mid_get
   refine Evt.step (fun k n=>spec_beSign_L58.eq_2 k _ _ _ _ n) ?_
   rw [g]
   refine Evt.ctrue (by rw [←h];exact mid_lt) (Evt.ctrue mid_ge (Evt.ctrue (by rw [←h];exact mid_lt) (Evt.bind (.const (sign_eq _)) ?_)))
   rw [List.all_cons]
   cases hs:cmpI e 0==s with
   | true =>
    rw [Bool.true_and]
    exact Evt.cfalse (by rw [bne,hs];rfl) ih
   | false =>
    rw [Bool.false_and]
    exact Evt.ctrue (by rw [bne,hs];rfl) .pure
 have h0:=key (cmpI l0 0) (l0::ls) [] rfl
 refine Evt.ctrue (by simp <;> omega) (Evt.bind (.const (sign_eq _)) ?_)
 have e1:(if (l0::ls).all (fun v=>cmpI v 0==cmpI l0 0)then cmpI l0 0 else 0)=sgnL (l0::ls):=by
  unfold sgnL
  have c1:∀v:Int,(cmpI v 0==1)=decide (0<v):=fun v=>by
   unfold cmpI
   by_cases h:v<0
   ·rw [if_pos h,decide_eq_false (by omega)];rfl
   ·rw [if_neg h]
    by_cases h2:0<v
    ·rw [if_pos h2,decide_eq_true h2];rfl
    ·rw [if_neg h2,decide_eq_false h2];rfl
  have c2:∀v:Int,(cmpI v 0 == -1)=decide (v<0):=fun v=>by
   unfold cmpI
   by_cases h:v<0
   ·rw [if_pos h,decide_eq_true h];rfl
   ·rw [if_neg h,decide_eq_false h]
    by_cases h2:0<v
    ·rw [if_pos h2];rfl
    ·rw [if_neg h2];rfl
  rcases(by omega:0<l0∨l0<0∨l0=0)with h | h | h
  ·have e:cmpI l0 0=1:=by unfold cmpI;rw [if_neg (by omega),if_pos h]
   have n:(l0::ls).all (fun v=>decide (v<0))=false:=by rw [List.all_cons,decide_eq_false (by omega),Bool.false_and]
   rw [e,n]
   simp only [c1]
   split <;> simp
  ·have e:cmpI l0 0 = -1:=by unfold cmpI;rw [if_pos h]
   have n:(l0::ls).all (fun v=>decide (0<v))=false:=by rw [List.all_cons,decide_eq_false (by omega),Bool.false_and]
   rw [e,n]
   simp only [c2]
   simp
  ·have e:cmpI l0 0=0:=by unfold cmpI;rw [if_neg (by omega),if_neg (by omega)]
   have n1:(l0::ls).all (fun v=>decide (v<0))=false:=by rw [List.all_cons,decide_eq_false (by omega),Bool.false_and]
   have n2:(l0::ls).all (fun v=>decide (0<v))=false:=by rw [List.all_cons,decide_eq_false (by omega),Bool.false_and]
   rw [e,n1,n2]
   simp
 rw [←e1]
 cases ha:(l0::ls).all fun v=>cmpI v 0==cmpI l0 0 with
 | true=>rw [ha]at h0;exact Evt.inr (Evt.diag h0) .pure
 | false=>rw [ha]at h0;exact Evt.inl (Evt.diag h0) .pure
def mnF:Int→List Int→Int
 | m,[]=>m
 | m,v::r=>mnF (if v<m then v else m) r
def mxF:Int→List Int→Int
 | m,[]=>m
 | m,v::r=>mxF (if m<v then v else m) r
theorem mnF_pos:∀(r:List Int) (m:Int),decide (0<mnF m r)=(decide (0<m)&&r.all fun v=>decide (0<v))
 | [],m=>by rw [mnF,List.all_nil,Bool.and_true]
 | v::r,m=>by
  rw [mnF,mnF_pos r,List.all_cons,←Bool.and_assoc]
  congr 1
  rw [Bool.eq_iff_iff,Bool.and_eq_true,decide_eq_true_eq,decide_eq_true_eq,decide_eq_true_eq]
  split <;> omega
theorem mxF_neg:∀(r:List Int) (m:Int),decide (mxF m r<0)=(decide (m<0)&&r.all fun v=>decide (v<0))
 | [],m=>by rw [mxF,List.all_nil,Bool.and_true]
 | v::r,m=>by
  rw [mxF,mxF_neg r,List.all_cons,←Bool.and_assoc]
  congr 1
  rw [Bool.eq_iff_iff,Bool.and_eq_true,decide_eq_true_eq,decide_eq_true_eq,decide_eq_true_eq]
  split <;> omega
theorem minL_ev{l0:Int}{ls:List Int}(hb:(l0::ls).length<lenB):Evt (fun k _=>slices_Min_int_int k (l0::ls)) (mnF l0 ls):=by
 refine Evt.eq (f:=fun k q=>_) ?_ (fun k q=>by rw [slices_Min_int_int])
 have key:∀(r d:List Int) (m:Int),d++r=l0::ls→Evt (fun k n=>slices_Min_int_int_L122 k n (l0::ls) m d.length) (.inr (mnF m r,())):=by
  intro r
  induction r with
  | nil =>
   intro d m h
   rw [List.append_nil]at h
   refine Evt.step (fun k n=>slices_Min_int_int_L122.eq_2 k _ _ _ n) ?_
   rw [←h]
   exact Evt.cfalse (by simp) .pure
  | cons e r ih =>
   intro d m h
   have ih:=ih (d ++ [e]) (if e<m then e else m) (by simpa using h)
   rw [←len_next (r:=r) (by rw [h];exact hb)]at ih
   have g:(l0::ls).getD (Int.toNat (d.length:Int)) 0=e:=by rw [←h];exact mid_get
   refine Evt.step (fun k n=>slices_Min_int_int_L122.eq_2 k _ _ _ n) ?_
   rw [g]
   exact Evt.ctrue (by rw [←h];exact mid_lt) (Evt.ctrue mid_ge (Evt.ctrue (by rw [←h];exact mid_lt) ih))
 have h0:=key ls [l0] l0 rfl
 exact Evt.cfalse (by simp <;> omega) (Evt.ctrue (by simp <;> omega) (Evt.inr (Evt.diag h0) .pure))
theorem maxL_ev{l0:Int}{ls:List Int}(hb:(l0::ls).length<lenB):Evt (fun k _=>slices_Max_int_int k (l0::ls)) (mxF l0 ls):=by
 refine Evt.eq (f:=fun k q=>_) ?_ (fun k q=>by rw [slices_Max_int_int])
 have key:∀(r d:List Int) (m:Int),d++r=l0::ls→Evt (fun k n=>slices_Max_int_int_L122 k n (l0::ls) m d.length) (.inr (mxF m r,())):=by
  intro r
  induction r with
  | nil =>
   intro d m h
   rw [List.append_nil]at h
   refine Evt.step (fun k n=>slices_Max_int_int_L122.eq_2 k _ _ _ n) ?_
   rw [←h]
   exact Evt.cfalse (by simp) .pure
  | cons e r ih =>
   intro d m h
   have ih:=ih (d ++ [e]) (if m<e then e else m) (by simpa using h)
   rw [←len_next (r:=r) (by rw [h];exact hb)]at ih
   have g:(l0::ls).getD (Int.toNat (d.length:Int)) 0=e:=by rw [←h];exact mid_get
   refine Evt.step (fun k n=>slices_Max_int_int_L122.eq_2 k _ _ _ n) ?_
   rw [g]
   exact Evt.ctrue (by rw [←h];exact mid_lt) (Evt.ctrue mid_ge (Evt.ctrue (by rw [←h];exact mid_lt) ih))
 have h0:=key ls [l0] l0 rfl
 exact Evt.cfalse (by simp <;> omega) (Evt.ctrue (by simp <;> omega) (Evt.inr (Evt.diag h0) .pure))
theorem commonSign_ev{l:List Int}(h1:1≤l.length)(hb:l.length<lenB):Evt (fun k _=>impl_commonSign k l) (sgnL l):=by
 obtain⟨l0,ls,rfl⟩:=List.exists_cons_of_length_pos h1
 refine Evt.eq (f:=fun k q=>_) ?_ (fun k q=>by rw [impl_commonSign])
 have e1:decide (mnF l0 ls>0)=(l0::ls).all fun v=>decide (0<v):=by rw [List.all_cons,←mnF_pos]
 have e2:decide (mxF l0 ls<0)=(l0::ls).all fun v=>decide (v<0):=by rw [List.all_cons,←mxF_neg]
 refine Evt.bind (minL_ev hb) ?_
 rw [e1]
 unfold sgnL
 cases (l0::ls).all fun v=>decide (0<v)with
 | true=>exact Evt.ctrue rfl .pure
 | false =>
  refine Evt.cfalse rfl (Evt.bind (maxL_ev hb) ?_)
  rw [e2]
  cases (l0::ls).all fun v=>decide (v<0)with
  | true=>exact Evt.ctrue rfl .pure
  | false=>exact Evt.cfalse rfl .pure

def flo(lo hi:List Int)(q:Nat)(u:Bool):List Int:=if u then lo.set q (hi.getD q 0)else lo
def fhi(lo hi:List Int)(q:Nat)(u:Bool):List Int:=if u then hi else hi.set q (lo.getD q 0)
structure Bo(p:List Tm)(m:Nat)(lo hi:List Int):Prop where
 po:polyV p=true
 nd:needs lo.length p=false
 n1:1≤lo.length∧lo.length≤3
 hl:hi.length=lo.length
 m4:m≤4
 bd:∀i,i<lo.length → -128≤lo.getD i 0∧lo.getD i 0<hi.getD i 0∧hi.getD i 0≤128
theorem set_getD{l:List Int}{q i:Nat}{v:Int}(hq:q<l.length):(l.set q v).getD i 0=if i=q then v else l.getD i 0:=by
 rw [List.getD_eq_getElem?_getD,List.getElem?_set,List.getD_eq_getElem?_getD]
 by_cases h:i=q
 ·subst h
  rw [if_pos rfl,if_pos hq,if_pos rfl]
  rfl
 ·rw [if_neg (fun e=>h e.symm),if_neg h]
theorem Bo.fc{p:List Tm}{m:Nat}{lo hi:List Int}(h:Bo p m lo hi){q:Nat}(hq:q<lo.length)(u:Bool):Fc p m (flo lo hi q u) (fhi lo hi q u) q:=by
 have hhl:=h.hl
 have hg:∀t∈p,tmGd t:=polyV_gd h.po
 have e1:∀i,(flo lo hi q u).getD i 0=if i=q∧u=true then hi.getD i 0 else lo.getD i 0:=by
  intro i
  cases u with
  | false=>simp [flo]
  | true =>
   show(lo.set q (hi.getD q 0)).getD i 0=_
   rw [set_getD hq]
   by_cases hi2:i=q
   ·rw [if_pos hi2,if_pos ⟨hi2,rfl⟩,hi2]
   ·rw [if_neg hi2,if_neg (fun e=>hi2 e.1)]
 have e2:∀i,(fhi lo hi q u).getD i 0=if i=q∧u=false then lo.getD i 0 else hi.getD i 0:=by
  intro i
  cases u with
  | true=>simp [fhi]
  | false =>
   show(hi.set q (lo.getD q 0)).getD i 0=_
   rw [set_getD (by omega)]
   by_cases hi2:i=q
   ·rw [if_pos hi2,if_pos ⟨hi2,rfl⟩,hi2]
   ·rw [if_neg hi2,if_neg (fun e=>hi2 e.1)]
 have l1:(flo lo hi q u).length=lo.length:=by cases u <;> simp [flo]
 have l2:(fhi lo hi q u).length=lo.length:=by cases u <;> simp [fhi,hhl]
 have bb:∀i,(lo.getD i 0).natAbs≤128∧(hi.getD i 0).natAbs≤128:=by
  intro i
  by_cases hi2:i<lo.length
  ·have:=h.bd i hi2
   omega
  ·rw [getD_out (l:=lo) (by omega),getD_out (l:=hi) (by omega)]
   decide
 refine⟨by rw [l1];exact h.n1,by rw [l1,l2],h.m4,polyV_len h.po,hg,?_,by rw [l1];exact hq,?_,?_,?_,?_⟩
 ·intro t ht i hi2 h3
  rw [l1]at hi2
  have hz:=h.nd
  rw [needs_any,List.any_eq_false]at hz
  have hz:=hz t ht
  simp only [needsT,Bool.or_eq_true,Bool.and_eq_true,decide_eq_true_eq]at hz
  obtain⟨_,g1,g2,g3,_⟩:=hg t ht
  have hn:=h.n1
  unfold eN pw
  split
  ·omega
  ·split <;> omega
 ·rw [e1,e2]
  cases u <;> simp
 ·intro i hi2 hne
  rw [l1]at hi2
  rw [e1,e2,if_neg (fun e=>hne e.1),if_neg (fun e=>hne e.1)]
  exact(h.bd i hi2).2.1
 ·intro i
  rw [e1]
  split
  ·exact(bb i).2
  ·exact(bb i).1
 ·intro i
  rw [e2]
  split
  ·exact(bb i).1
  ·exact(bb i).2
def faceV(p:List Tm)(m:Nat)(lo hi:List Int)(q:Nat)(u:Bool):Int:=sgnL (bsV3 p m (flo lo hi q u) (fhi lo hi q u))
theorem miFace_ev{p:List Tm}{m:Nat}{lo hi:List Int}(h:Bo p m lo hi){q:Nat}(hq:q<lo.length)(u:Bool):Evt (fun k _=>spec_miFace k p ((m:Int),lo,hi) (q:Int) u) (faceV p m lo hi q u):=by
 have hF:=h.fc hq u
 have hhl:=h.hl
 have hn:=h.n1
 have hlen:=polyV_len h.po
 have hl:=beList_ev (p:=p) (K:=m) h.m4 (by simp only [lenB];omega) hF.gd hF.hl hF.sz.2 hF.gc
 refine Evt.eq (f:=fun k q=>_) ?_ (fun k q=>by rw [spec_miFace])
 have o1:spec_l1Own lo=some lo:=by unfold spec_l1Own;rw [decide_eq_true (by simp;omega)];rfl
 have o2:spec_l1Own hi=some hi:=by unfold spec_l1Own;rw [decide_eq_true (by simp;omega)];rfl
 refine Evt.bind (.const o1) (Evt.bind (.const o2) ?_)
 rw [Int.toNat_natCast]
 refine Evt.inr (y:=(p,(q:Int),((m:Int),lo,hi),flo lo hi q u,hi,())) ?_ ?_
 ·cases u with
  | true=>exact Evt.ctrue rfl (Evt.ctrue mid_ge (Evt.ctrue (decide_eq_true (by omega)) (Evt.ctrue mid_ge (Evt.ctrue (decide_eq_true (by omega)) .pure))))
  | false=>exact Evt.cfalse rfl .pure
 ·simp only
  have l1:(flo lo hi q u).length=lo.length:=by cases u <;> simp [flo]
  have e1:hi.set q ((flo lo hi q u).getD q 0)=fhi lo hi q u:=by
   cases u with
   | false=>rfl
   | true =>
    show hi.set q ((lo.set q (hi.getD q 0)).getD q 0)=hi
    rw [set_getD hq,if_pos rfl,List.getD_eq_getElem?_getD,List.getElem?_eq_getElem (by omega)]
    simp
  rw [Int.toNat_natCast,e1]
  have hv:=vol_le hF.gc.d
  have hne:∃l0 ls,gr (Dg p (flo lo hi q u) (fhi lo hi q u) 0+1) (Dg p (flo lo hi q u) (fhi lo hi q u) 1+1) (Dg p (flo lo hi q u) (fhi lo hi q u) 2+1) (TC (Dg p (flo lo hi q u) (fhi lo hi q u)) (TB (Dg p (flo lo hi q u) (fhi lo hi q u)) (TA (Dg p (flo lo hi q u) (fhi lo hi q u)) fun x y z=>IntKind.wrap .i64 (AA p m (flo lo hi q u) (fhi lo hi q u) x y z))))=l0::ls:=by
   apply List.exists_cons_of_length_pos
   rw [gr_len]
   exact Nat.mul_pos (Nat.mul_pos (by omega) (by omega)) (by omega)
  obtain⟨l0,ls,hc⟩:=hne
  have hs:=sgn_same hF
  rw [hc]at hs
  have hll:=congrArg List.length hc
  rw [gr_len]at hll
  have hsg:=beSign_ev (l0:=l0) (ls:=ls) (by simp only [lenB];omega)
  rw [hs]at hsg
  have hl2:Evt (fun k _=>spec_beList k p (flo lo hi q u) (fhi lo hi q u) (m:Int)) (l0::ls,lst3 fun i=>(Dg p (flo lo hi q u) (fhi lo hi q u) i:Int)):=by
   rw [←hc]
   exact hl
  exact Evt.ctrue mid_ge (Evt.ctrue (decide_eq_true (by omega)) (Evt.ctrue mid_ge (Evt.ctrue (decide_eq_true (by omega)) (Evt.bind hl2 (Evt.bind hsg .pure)))))
theorem faceSign_ev{p:List Tm}{m:Nat}{lo hi:List Int}(h:Bo p m lo hi){q:Nat}(hq:q<lo.length)(u:Bool):Evt (fun k _=>impl_faceSign k p ((m:Int),lo,hi) (q:Int) u) (faceV p m lo hi q u):=by
 have hF:=h.fc hq u
 have hhl:=h.hl
 have hn:=h.n1
 have hlen:=polyV_len h.po
 have hl:=bernstein_ev (p:=p) (K:=m) hF.sz.2 hF.hl (by simp only [lenB];omega) hF.gd h.m4
 refine Evt.eq (f:=fun k q=>_) ?_ (fun k q=>by rw [impl_faceSign])
 have o1:slices_Clone_int_int lo=some lo:=by unfold slices_Clone_int_int;rw [decide_eq_true (by simp;omega)];rfl
 have o2:slices_Clone_int_int hi=some hi:=by unfold slices_Clone_int_int;rw [decide_eq_true (by simp;omega)];rfl
 refine Evt.bind (.const o1) (Evt.bind (.const o2) ?_)
 rw [Int.toNat_natCast]
 refine Evt.inr (y:=(p,((m:Int),lo,hi),flo lo hi q u,fhi lo hi q u,())) ?_ ?_
 ·cases u with
  | true=>exact Evt.ctrue rfl (Evt.ctrue mid_ge (Evt.ctrue (decide_eq_true (by omega)) (Evt.ctrue mid_ge (Evt.ctrue (decide_eq_true (by omega)) .pure))))
  | false=>exact Evt.cfalse rfl (Evt.ctrue mid_ge (Evt.ctrue (decide_eq_true (by omega)) (Evt.ctrue mid_ge (Evt.ctrue (decide_eq_true (by omega)) .pure))))
 ·simp only
  have hD:∀i,mxE p i≤4:=fun i=>(mxE_le hF.gd i).1
  obtain⟨o1,o2,_⟩:=plO_ok hD (flo lo hi q u).length
  have l1:(flo lo hi q u).length=lo.length:=by cases u <;> simp [flo]
  have h5:5 ^ (flo lo hi q u).length≤5 ^ 3:=Nat.pow_le_pow_right (by decide) (by omega)
  have bl:(bsV3 p m (flo lo hi q u) (fhi lo hi q u)).length=(plO (mxE p) (flo lo hi q u).length).length:=by simp [bsV3]
  exact Evt.bind hl (Evt.bind (commonSign_ev (by omega) (by simp only [lenB];omega)) .pure)
end Go.Ev.G

namespace Go.Ev.G
open Go Go.Ev
set_option maxRecDepth 100000

theorem eqIntSS_ev{x:List (List Int)}(h:x.length<lenB)(hm:∀y∈x,y.length<lenB):Evt (fun k _=>laws_eqIntSS k x x) true :=
 eq_all (d0 := []) (Q:=fun k a b=>laws_eqIntS k a b) (L:=laws_eqIntSS_L58) (E:=laws_eqIntSS) (fun k n x0 x1 x5=>rfl) (fun _ _ _=>rfl) h (fun z hz=>eqIntS_ev (hm z hz))
end Go.Ev.G

namespace Go.Ev.G
open Go Go.Ev
set_option maxRecDepth 100000

theorem zip_bd{P:Int→Int→Prop}{lo hi:List Int}(hl:hi.length=lo.length)(h:∀p∈lo.zip hi,P p.1 p.2):∀i,i<lo.length→P (lo.getD i 0) (hi.getD i 0):=by
 intro i hi2
 have hz:i<(lo.zip hi).length:=by simp;omega
 have:=h _ (List.getElem_mem hz)
 rw [List.getElem_zip]at this
 rw [List.getD_eq_getElem?_getD,List.getD_eq_getElem?_getD,List.getElem?_eq_getElem hi2,List.getElem?_eq_getElem (by omega)]
 exact this
end Go.Ev.G

namespace Go.Ev.G
open Go Go.Ev
set_option maxRecDepth 100000

def halfD(a b:Int×Int):(Int×Int)×Bool:=mkD (sumN a b) (exA a b+1)
theorem halfD_gd(a b:Int×Int):gd (halfD a b).1:=mkD_gd _ _
theorem EdOk.left{e:Ed}(h:EdOk e):EdOk (e.1,e.2.1,e.2.2.1,(halfD e.2.2.1 e.2.2.2).1):=⟨h.sd,h.a,h.f,halfD_gd _ _⟩
theorem EdOk.right{e:Ed}(h:EdOk e):EdOk (e.1,e.2.1,(halfD e.2.2.1 e.2.2.2).1,e.2.2.2):=⟨h.sd,h.a,halfD_gd _ _,h.t⟩
end Go.Ev.G

namespace Go.Ev.G
open Go Go.Ev
set_option maxRecDepth 100000

def nwV(s:List (List Tm))(b:Bx):Bool:=sysV s&&(bxV b&&(((s.length:Int)==(b.2.1.length:Int))&&decide (b.1≤4)))
structure NwOk(s:List (List Tm))(m:Nat)(lo hi:List Int):Prop where
 po:∀p∈s,polyV p=true
 n1:1≤lo.length∧lo.length≤3
 sl:s.length=lo.length
 hl:hi.length=lo.length
 m4:m≤4
 bd:∀p∈lo.zip hi,-128≤p.1∧p.1<p.2∧p.2≤128
 nd:∀p∈s,needs s.length p=false
 b8:∀p∈lo.zip hi,-(8*2 ^ m)≤p.1∧p.2≤8*2 ^ m
theorem nwV_form{s:List (List Tm)}{b:Bx}(h:nwV s b=true):∃m:Nat,b=((m:Int),b.2.1,b.2.2)∧NwOk s m b.2.1 b.2.2:=by
 obtain⟨d8,los,his⟩:=b
 unfold nwV bxV sysV at h
 simp only [Bool.and_eq_true,decide_eq_true_eq,beq_iff_eq,List.all_eq_true]at h
 obtain⟨⟨p1,p2⟩,⟨g1,g2,g3,g4,_⟩,g5,g6⟩:=h
 refine⟨d8.toNat,by rw [Int.toNat_of_nonneg g1.1],?_⟩
 show NwOk s d8.toNat los his
 have g2:1≤(los.length:Int)∧(los.length:Int)≤3:=g2
 have g5:(s.length:Int)=(los.length:Int):=g5
 refine⟨fun p hp=>(p1 p hp).1,by omega,by omega,g3,by omega,fun p hp => ?_,fun p hp=>by simpa using (p1 p hp).2,fun p hp=>by
  have hq:=g4 p hp
  unfold sideOk at hq
  have hq:=of_decide_eq_true hq
  exact⟨hq.1.1,hq.2.1.2⟩⟩
 have hq:=g4 p hp
 unfold sideOk at hq
 have hq:=of_decide_eq_true hq
 have hp:(8:Int)*2 ^ d8.toNat≤128:=by
  have h1:(2:Nat) ^ d8.toNat≤2 ^ 4:=Nat.pow_le_pow_right (by omega) (by omega)
  have h2:((2:Int) ^ d8.toNat)=((2 ^ d8.toNat:Nat):Int):=by simp
  have:(2:Nat) ^ 4=16:=by decide
  rw [h2]
  omega
 omega

end Go.Ev.G

namespace Go.Ev.G
open Go Go.Ev
set_option maxRecDepth 100000

theorem frame_any{α W:Type}{a:List (List Tm)}{b:Bx}{eqv:Nat→α→α→Option Bool}{mark:Nat→α→Int→Option (Int×W)}{held:Nat→W→Int→Option Int}{S I:Nat→List (List Tm)→Bx→Option (α×Bool)}{v:α×Bool}{w:W}{N:Nat}(ha:a.length≤maxLen)(hm:∀x∈a,x.length≤maxLen)(h1:b.2.1.length≤maxLen)(h2:b.2.2.length≤maxLen)
  (eqs:Evt (fun k _=>eqv k v.1 v.1) true) (hy1:Evt (fun k _=>mark k v.1 101) ((N:Int),w)) (hy2:Evt (fun k _=>held k w 101) (N:Int))
  (hS:a.length<274877906944→(∀r∈a,r.length<lenB)→b.2.1.length<lenB→Evt (fun k _=>S k a b) v) (hI:a.length<lenB→(∀r∈a,r.length<lenB)→b.2.1.length<lenB→Evt (fun k _=>I k a b) v) :
  Evt (fun k _=>(Option.bind (laws_szTermSS k a 1000000) fun r1=>(bif (decide (r1<0))then some true else(Option.bind (laws_szBox b r1) fun r2=>(bif (decide (r2<0))then some true else(Option.bind (laws_toTermSS k a false) fun r3=>(Option.bind (laws_toBox k b false) fun r4=>(Option.bind (S k (r3.1.map fun z=>z.1) (r4.1,r4.2.1.1,r4.2.2.1)) fun r5=>(Option.bind (laws_toTermSS k a false) fun r6=>(Option.bind (laws_toBox k b false) fun r7=>(Option.bind (I k (r6.1.map fun z=>z.1) (r7.1,r7.2.1.1,r7.2.2.1)) fun r8=>(Option.bind (eqv k r8.1 r5.1) fun r9=>(bif (!r9)then some false else(bif (!(r8.2==r5.2))then some false else(Option.bind (laws_toTermSS k a false) fun r10=>(Option.bind (laws_intactTermSS k r6 r10) fun r11=>(bif (!r11)then some false else(Option.bind (laws_toBox k b false) fun r12=>(Option.bind (laws_intactBox k r7 r12) fun r13=>(bif (!r13)then some false else
   (Option.bind (laws_markTermSS k (r6.1.map fun z=>z.1) 101) fun r14=>(Option.bind (laws_markBox k (r7.1,r7.2.1.1,r7.2.2.1) r14.1) fun r15=>(bif (decide (r15<0))then some false else(Option.bind (eqv k r8.1 r5.1) fun r16=>(bif (!r16)then some false else(bif (!(r8.2==r5.2))then some false else(Option.bind (mark k r8.1 101) fun r17=>(Option.bind (held k r17.2 101) fun r18=>(bif (decide (r18<0))then some false else(bif (r18 != r17.1)then some false else(Option.bind (laws_toTermSS k a true) fun r19=>(Option.bind (laws_toBox k b true) fun r20=>(Option.bind (I k (r19.1.map fun z=>z.1) (r20.1,r20.2.1.1,r20.2.2.1)) fun r21=>(Option.bind (eqv k r21.1 r5.1) fun r22=>(bif (!r22)then some false else(bif (!(r21.2==r5.2))then some false else(Option.bind (held k r17.2 101) fun r23=>(bif (decide (r23<0))then some false else(bif (r23 != r17.1)then some false else some true))))))))))))))))))))))))))))))))))))))) true :=
 frame_sbl (S:=S) (I:=I) (C:=fun k r5 r8 x=>(Option.bind (eqv k r8.1 r5.1) fun r9=>(bif (!r9)then some false else(bif (!(r8.2==r5.2))then some false else x)))) (W:=Int×W) (M:=fun k r8 f=>Option.bind (mark k r8.1 101) fun r17=>f r17) (H:=fun k w x=>(Option.bind (held k w.2 101) fun r18=>(bif (decide (r18<0))then some false else(bif (r18 != w.1)then some false else x)))) (v:=v) (w:=((N:Int),w)) ha hm h1 h2
  (fun hf=>Evt.bind eqs (Evt.cfalse rfl (Evt.cfalse (by simp) hf))) (fun hf=>Evt.bind hy1 hf) (fun hf=>Evt.bind hy2 (Evt.cfalse (by simp <;> omega) (Evt.cfalse (by simp) hf))) hS hI

end Go.Ev.G

namespace Go.Ev.G
open Go Go.Ev
set_option maxRecDepth 100000

def fsR(p:List Tm)(m:Nat)(lo hi:List Int):Nat→List Int
 | 0 => []
 | i+1=>fsR p m lo hi i ++ [faceV p m lo hi i false,faceV p m lo hi i true]
theorem fsR_len{p:List Tm}{m:Nat}{lo hi:List Int}:∀(i:Nat),(fsR p m lo hi i).length=2*i
 | 0=>rfl
 | i+1=>by rw [fsR,List.length_append,fsR_len i];simp;omega
theorem nw_bo{s:List (List Tm)}{m:Nat}{lo hi:List Int}(h:NwOk s m lo hi){p:List Tm}(hp:p∈s):Bo p m lo hi :=
 ⟨h.po p hp,by rw [←h.sl];exact h.nd p hp,h.n1,h.hl,h.m4,zip_bd (P:=fun x y => -128≤x∧x<y∧y≤128) h.hl h.bd⟩
theorem spec_fs_in{p:List Tm}{m nn:Nat}{lo hi:List Int}(h:Bo p m lo hi)(hnn:nn=lo.length)(x0:List (List Tm))(x6:List (List Int))(x15:List (List Tm))(x16 x17:Int):∀(r i:Nat),i+r=lo.length →
  Evt (fun k n=>spec_FaceSigns_L125338 k n x0 ((m:Int),lo,hi) x6 p (fsR p m lo hi i) x15 x16 x17 (nn:Int) (i:Int)) (.inr (x0,((m:Int),lo,hi),x6,fsR p m lo hi lo.length,x15,x16,x17,())):=by
 intro r
 have hn:=h.n1
 induction r with
 | zero =>
  intro i hi2
  refine Evt.step (fun k n=>spec_FaceSigns_L125338.eq_2 k _ _ _ _ _ _ _ _ _ _ n) ?_
  have:i=lo.length:=by omega
  subst this
  exact Evt.cfalse (decide_eq_false (by omega)) .pure
 | succ r ih =>
  intro i hi2
  have ih:=ih (i+1) (by omega)
  have hl:=fsR_len (p:=p) (m:=m) (lo:=lo) (hi:=hi) i
  rw [←w64_next (m:=i) (by simp only [lenB];omega),fsR]at ih
  refine Evt.step (fun k n=>spec_FaceSigns_L125338.eq_2 k _ _ _ _ _ _ _ _ _ _ n) (Evt.ctrue (decide_eq_true (by omega)) (Evt.bind (miFace_ev h (by omega) false) (Evt.bind (miFace_ev h (by omega) true) ?_)))
  exact Evt.ctrue (decide_eq_true (by simp;omega)) ih
theorem impl_fs_in{p:List Tm}{m:Nat}{lo hi:List Int}(h:Bo p m lo hi)(x6:List (List Int))(x15:List (List Tm))(x16 x17:Int):∀(r i:Nat),i+r=lo.length →
  Evt (fun k n=>impl_FaceSigns_L125338 k n ((m:Int),lo,hi) x6 p (fsR p m lo hi i) x15 x16 x17 (lo.length:Int) (i:Int)) (.inr (((m:Int),lo,hi),x6,fsR p m lo hi lo.length,x15,x16,x17,())):=by
 intro r
 have hn:=h.n1
 induction r with
 | zero =>
  intro i hi2
  refine Evt.step (fun k n=>impl_FaceSigns_L125338.eq_2 k _ _ _ _ _ _ _ _ _ n) ?_
  have:i=lo.length:=by omega
  subst this
  exact Evt.cfalse (decide_eq_false (by omega)) .pure
 | succ r ih =>
  intro i hi2
  have ih:=ih (i+1) (by omega)
  have hl:=fsR_len (p:=p) (m:=m) (lo:=lo) (hi:=hi) i
  rw [←w64_next (m:=i) (by simp only [lenB];omega),fsR]at ih
  refine Evt.step (fun k n=>impl_FaceSigns_L125338.eq_2 k _ _ _ _ _ _ _ _ _ n) (Evt.ctrue (decide_eq_true (by omega)) (Evt.bind (faceSign_ev h (by omega) false) (Evt.bind (faceSign_ev h (by omega) true) ?_)))
  exact Evt.ctrue (decide_eq_true (by simp;omega)) ih
theorem spec_fs_out{s:List (List Tm)}{m:Nat}{lo hi:List Int}(h:NwOk s m lo hi):∀(r d:List (List Tm)),d++r=s →
  Evt (fun k n=>spec_FaceSigns_L122 k n s ((m:Int),lo,hi) (d.map fun p=>fsR p m lo hi lo.length) s (s.length:Int) d.length) (.inr (s.map (fun p=>fsR p m lo hi lo.length),())):=by
 intro r
 have hn:=h.n1
 have hsl:=h.sl
 induction r with
 | nil =>
  intro d hd
  rw [List.append_nil]at hd
  subst hd
  refine Evt.step (fun k n=>spec_FaceSigns_L122.eq_2 k _ _ _ _ _ _ n) ?_
  exact Evt.cfalse (by simp) .pure
 | cons e r ih =>
  intro d hd
  have hxl:=congrArg List.length hd
  simp at hxl
  have ih:=ih (d ++ [e]) (by simpa using hd)
  rw [←len_next (r:=r) (by rw [hd];simp only [lenB];omega),List.map_append]at ih
  have hi2:=spec_fs_in (nw_bo h (p:=e) (by rw [←hd];simp)) hsl s (d.map fun p=>fsR p m lo hi lo.length) s (s.length:Int) (d.length:Int) lo.length 0 (by omega)
  have g:s.getD (Int.toNat (d.length:Int)) []=e:=by rw [←hd];exact mid_get
  refine Evt.step (fun k n=>spec_FaceSigns_L122.eq_2 k _ _ _ _ _ _ n) ?_
  rw [g]
  refine Evt.ctrue (decide_eq_true (by omega)) (Evt.ctrue mid_ge (Evt.ctrue (decide_eq_true (by omega)) (Evt.inr (Evt.diag hi2) ?_)))
  simp only
  exact Evt.ctrue (decide_eq_true (by simp;omega)) ih
theorem impl_fs_out{s:List (List Tm)}{m:Nat}{lo hi:List Int}(h:NwOk s m lo hi):∀(r d:List (List Tm)),d++r=s →
  Evt (fun k n=>impl_FaceSigns_L122 k n ((m:Int),lo,hi) (d.map fun p=>fsR p m lo hi lo.length) s (s.length:Int) d.length) (.inr (s.map (fun p=>fsR p m lo hi lo.length),())):=by
 intro r
 have hn:=h.n1
 have hsl:=h.sl
 induction r with
 | nil =>
  intro d hd
  rw [List.append_nil]at hd
  subst hd
  refine Evt.step (fun k n=>impl_FaceSigns_L122.eq_2 k _ _ _ _ _ n) ?_
  exact Evt.cfalse (by simp) .pure
 | cons e r ih =>
  intro d hd
  have hxl:=congrArg List.length hd
  simp at hxl
  have ih:=ih (d ++ [e]) (by simpa using hd)
  rw [←len_next (r:=r) (by rw [hd];simp only [lenB];omega),List.map_append]at ih
  have hi2:=impl_fs_in (nw_bo h (p:=e) (by rw [←hd];simp)) (d.map fun p=>fsR p m lo hi lo.length) s (s.length:Int) (d.length:Int) lo.length 0 (by omega)
  have g:s.getD (Int.toNat (d.length:Int)) []=e:=by rw [←hd];exact mid_get
  refine Evt.step (fun k n=>impl_FaceSigns_L122.eq_2 k _ _ _ _ _ n) ?_
  rw [g]
  refine Evt.ctrue (decide_eq_true (by omega)) (Evt.ctrue mid_ge (Evt.ctrue (decide_eq_true (by omega)) (Evt.inr (Evt.diag hi2) ?_)))
  simp only
  exact Evt.ctrue (decide_eq_true (by simp;omega)) ih
def fssV(s:List (List Tm))(b:Bx):List (List Int)×Bool:=if nwV s b then(s.map fun p=>fsR p b.1.toNat b.2.1 b.2.2 b.2.1.length,true)else([],false)
theorem miAsked_ev{s:List (List Tm)}{b:Bx}(hb:s.length<lenB)(hm:∀r∈s,r.length<lenB)(hx:b.2.1.length<lenB):Evt (fun k _=>spec_miAsked k s b) (nwV s b):=by
 refine Evt.eq (f:=fun k q=>_) ?_ (fun k q=>by rw [spec_miAsked])
 unfold nwV
 refine Evt.bind (poSystem_ev hb hm) ?_
 cases sysV s with
 | false=>exact Evt.cfalse rfl .pure
 | true =>
  refine Evt.ctrue rfl (Evt.bind (bxGood_ev hx) ?_)
  cases bxV b with
  | false=>exact Evt.cfalse rfl .pure
  | true =>
   refine Evt.ctrue rfl ?_
   by_cases h4:b.1≤4
   ·rw [decide_eq_true h4,Bool.and_true,Bool.true_and,Bool.true_and]
    exact Evt.ctrue rfl .pure
   ·rw [decide_eq_false h4,Bool.and_false,Bool.and_false,Bool.and_false]
    exact Evt.cfalse rfl .pure
theorem spec_faceSigns_ev{s:List (List Tm)}{b:Bx}(hb:s.length<lenB)(hm:∀r∈s,r.length<lenB)(hx:b.2.1.length<lenB):Evt (fun k _=>spec_FaceSigns k s b) (fssV s b):=by
 refine Evt.eq (f:=fun k q=>_) ?_ (fun k q=>by rw [spec_FaceSigns])
 refine Evt.bind (miAsked_ev hb hm hx) ?_
 unfold fssV
 cases hv:nwV s b with
 | false=>exact Evt.ctrue rfl .pure
 | true =>
  obtain⟨m,hbm,hN⟩:=nwV_form hv
  have e1:b.1.toNat=m:=by rw [hbm];exact Int.toNat_natCast m
  have hl:=spec_fs_out hN s [] rfl
  rw [←hbm]at hl
  simp only [List.map_nil,List.length_nil]at hl
  rw [if_pos rfl,e1]
  exact Evt.cfalse rfl (Evt.inr (Evt.diag hl) .pure)
theorem impl_faceSigns_ev{s:List (List Tm)}{b:Bx}(hb:s.length<lenB)(hm:∀r∈s,r.length<lenB)(hx:b.2.1.length<lenB):Evt (fun k _=>impl_FaceSigns k s b) (fssV s b):=by
 refine Evt.eq (f:=fun k q=>_) ?_ (fun k q=>by rw [impl_FaceSigns,impl_systemOver])
 unfold fssV
 have h1:=isSystem_ev hb hm
 have h2:=isBox_ev hx
 have e0:nwV s b=(sysV s&&(bxV b&&(((s.length:Int)==(b.2.1.length:Int))&&decide (b.1≤4)))):=rfl
 cases hv:nwV s b with
 | false =>
  rw [hv]at e0
  cases hs:sysV s with
  | false =>
   rw [hs]at h1
   exact Evt.bind (Evt.bind h1 (Evt.cfalse rfl .pure)) (Evt.ctrue rfl .pure)
  | true =>
   rw [hs]at h1 e0
   cases hx2:bxV b with
   | false =>
    rw [hx2]at h2
    exact Evt.bind (Evt.bind h1 (Evt.ctrue rfl (Evt.bind h2 (Evt.cfalse rfl .pure)))) (Evt.ctrue rfl .pure)
   | true =>
    rw [hx2]at h2 e0
    refine Evt.bind (Evt.bind h1 (Evt.ctrue rfl (Evt.bind h2 (Evt.ctrue rfl .pure)))) ?_
    cases hl:(s.length:Int)==(b.2.1.length:Int)with
    | false=>exact Evt.ctrue rfl .pure
    | true =>
     rw [hl]at e0
     simp only [Bool.true_and]at e0
     have : ¬ b.1≤4:=fun h=>by rw [decide_eq_true h]at e0;cases e0
     exact Evt.cfalse rfl (Evt.ctrue (decide_eq_true (by omega)) .pure)
 | true =>
  obtain⟨m,hbm,hN⟩:=nwV_form hv
  have e1:b.1.toNat=m:=by rw [hbm];exact Int.toNat_natCast m
  have hl:=impl_fs_out hN s [] rfl
  rw [←hbm]at hl
  simp only [List.map_nil,List.length_nil]at hl
  rw [hv]at e0
  have e0:=e0.symm
  simp only [Bool.and_eq_true,decide_eq_true_eq]at e0
  rw [e0.1]at h1
  rw [e0.2.1]at h2
  rw [if_pos rfl,e1]
  refine Evt.bind (Evt.bind h1 (Evt.ctrue rfl (Evt.bind h2 (Evt.ctrue rfl .pure)))) ?_
  rw [e0.2.2.1]
  exact Evt.cfalse rfl (Evt.cfalse (decide_eq_false (by have:=e0.2.2.2;omega)) (Evt.inr (Evt.diag hl) .pure))
theorem markIntSS_ev2{x:List (List Int)}{a:Nat}(hx:x.length<lenB)(ha:a+(x.map fun r=>1*r.length).sum<lenB):∃y,Evt (fun k _=>laws_markIntSS k x a) (((a+(x.map fun r=>1*r.length).sum:Nat):Int),y)∧Evt (fun k _=>laws_heldIntSS k y a) ((a+(x.map fun r=>1*r.length).sum:Nat):Int) :=
 mark_rows_all (M:=laws_markIntSS_L26) (H:=laws_heldIntSS_L26) markIntS_ok (fun _ _ _ _ _=>rfl) (fun _ _ _ _ _=>rfl) (fun _ _ _=>rfl) (fun _ _ _=>rfl) hx ha
theorem faceSigns_row(a:List (List Tm))(b:Bx)(h:WfT (.sl (.sl tTerm)) a)(hb:WfT tBox b):∃k,laws_FnExactFaceSigns k a b=some true:=by
 have hl:(fssV a b).1.length≤3∧∀r∈(fssV a b).1,r.length≤6:=by
  unfold fssV
  split
  ·rename_i hv
   obtain⟨m,hbm,hN⟩:=nwV_form hv
   have hn:=hN.n1
   have hsl:=hN.sl
   refine⟨by simp;omega,fun r hr => ?_⟩
   obtain⟨p,_,rfl⟩:=List.mem_map.1 hr
   rw [fsR_len]
   omega
  ·exact⟨by simp,by simp⟩
 obtain⟨l1,l2⟩:=hl
 have hrs:((fssV a b).1.map fun r=>1*r.length).sum≤18:=by
  have:∀(l:List (List Int)),(∀r∈l,r.length≤6)→(l.map fun r=>1*r.length).sum≤6*l.length:=by
   intro l
   induction l with
   | nil=>intro _;simp
   | cons x l ih =>
    intro h
    have h1:=h x (by simp)
    have h2:=ih (fun r hr=>h r (by simp [hr]))
    simp only [List.map_cons,List.sum_cons,List.length_cons]
    omega
  have:=this _ l2
  omega
 obtain⟨y,hy1,hy2⟩:=markIntSS_ev2 (x:=(fssV a b).1) (a:=101) (by simp only [lenB];omega) (by simp only [lenB];omega)
 have eqs:Evt (fun k _=>laws_eqIntSS k (fssV a b).1 (fssV a b).1) true:=eqIntSS_ev (by simp only [lenB];omega) (fun y hy=>by have:=l2 y hy;simp only [lenB];omega)
 exact Evt.get (Evt.eq (frame_any (S:=fun k a b=>spec_FaceSigns k a b) (I:=fun k a b=>impl_FaceSigns k a b) (v:=fssV a b) h.1 (fun x hx=>(h.2 x hx).1) hb.2.1.1 hb.2.2.1 eqs hy1 hy2
  (fun h1 h2 h3=>spec_faceSigns_ev (by simp only [lenB];omega) h2 h3) (fun h1 h2 h3=>impl_faceSigns_ev h1 h2 h3)) (fun k _=>rfl))
end Go.Ev.G

