/- What the plain functions of the law compute, for all inputs within the sizes that the theorems name. -/
import Derived.Test.YtmlkiaicppkigaaGreatPDegreesOfParts1
import Derived.Test.YtmlkiaicppkigaaGreatADegreesOfParts1
set_option linter.unusedVariables false
namespace Go.Ev.G
open Go Go.Ev
set_option maxRecDepth 100000

abbrev Bx:=Int×List Int×List Int
def plV(b:Bx):Bool:=bxV b&&(((b.2.1.length:Int)==2)&&decide (b.1≤3))
theorem imBox_ev{b:Bx}(hb:b.2.1.length<lenB):Evt (fun k _=>spec_imBox k b) (plV b):=by
 refine Evt.eq (f:=fun k q=>_) ?_ (fun k q=>by rw [spec_imBox])
 refine Evt.bind (bxGood_ev hb) ?_
 unfold plV
 cases bxV b with
 | false=>exact Evt.cfalse rfl .pure
 | true =>
  refine Evt.ctrue rfl ?_
  cases ((b.2.1.length:Int)==2)with
  | false=>exact Evt.cfalse rfl .pure
  | true=>exact Evt.ctrue rfl .pure
theorem isPlaneBox_ev{b:Bx}(hb:b.2.1.length<lenB):Evt (fun k _=>impl_isPlaneBox k b) (plV b):=by
 refine Evt.eq (f:=fun k q=>_) ?_ (fun k q=>by rw [impl_isPlaneBox])
 refine Evt.bind (isBox_ev hb) ?_
 unfold plV
 cases bxV b with
 | false=>exact Evt.cfalse rfl .pure
 | true =>
  refine Evt.ctrue rfl ?_
  cases ((b.2.1.length:Int)==2)with
  | false=>exact Evt.cfalse rfl .pure
  | true=>exact Evt.ctrue rfl .pure
def planeV(m:List (List Tm))(b:Bx):Bool:=twoV m&&plV b
theorem imGood_ev{m:List (List Tm)}{b:Bx}(hb:m.length<lenB)(hm:∀r∈m,r.length<lenB)(hx:b.2.1.length<lenB):Evt (fun k _=>spec_imGood k m b) (planeV m b):=by
 refine Evt.eq (f:=fun k q=>_) ?_ (fun k q=>by rw [spec_imGood])
 refine Evt.bind (poSystem_ev hb hm) ?_
 unfold planeV twoV
 cases sysV m with
 | false=>exact Evt.cfalse rfl .pure
 | true =>
  refine Evt.ctrue rfl ?_
  cases ((m.length:Int)==2)with
  | false=>exact Evt.cfalse rfl .pure
  | true=>exact Evt.ctrue rfl (Evt.bind (imBox_ev hx) .pure)
theorem isPlane_ev{m:List (List Tm)}{b:Bx}(hb:m.length<lenB)(hm:∀r∈m,r.length<lenB)(hx:b.2.1.length<lenB):Evt (fun k _=>impl_isPlane k m b) (planeV m b):=by
 refine Evt.eq (f:=fun k q=>_) ?_ (fun k q=>by rw [impl_isPlane])
 refine Evt.bind (isTwo_ev hb hm) ?_
 unfold planeV
 cases twoV m with
 | false=>exact Evt.cfalse rfl .pure
 | true=>exact Evt.ctrue rfl (Evt.bind (isPlaneBox_ev hx) .pure)
theorem plV_form{b:Bx}(h:plV b=true):∃(m:Nat) (l0 l1 h0 h1:Int),b=((m:Int),[l0,l1],[h0,h1])∧m≤3∧(-64≤l0∧l0<h0∧h0≤64)∧(-64≤l1∧l1<h1∧h1≤64):=by
 obtain⟨d8,los,his⟩:=b
 unfold plV bxV at h
 simp only [Bool.and_eq_true,decide_eq_true_eq,beq_iff_eq]at h
 obtain⟨⟨g1,g2,g3,g4,_⟩,g5,g6⟩:=h
 match los,his,g3,g5,g4 with
 | [l0,l1],[h0,h1],_,_,g4 =>
  refine⟨d8.toNat,l0,l1,h0,h1,by rw [Int.toNat_of_nonneg g1.1],by omega,?_⟩
  have hp:(8:Int)*2 ^ d8.toNat≤64:=by
   have h1:(2:Nat) ^ d8.toNat≤2 ^ 3:=Nat.pow_le_pow_right (by omega) (by omega)
   have h2:((2:Int) ^ d8.toNat)=((2 ^ d8.toNat:Nat):Int):=by simp
   rw [h2]
   have:(2:Nat) ^ 3=8:=by decide
   omega
  generalize (8:Int)*2 ^ d8.toNat=L at hp g4
  simp only [List.zip_cons_cons,List.zip_nil_left,List.all_cons,List.all_nil,Bool.and_true,Bool.and_eq_true,sideOk,decide_eq_true_eq]at g4
  omega

theorem strip_scale(k:Nat)(n:Int):∀D:Nat,strip (k+D) (n*2 ^ D)=strip k n
 | 0=>by simp
 | D+1=>by
  have e:n*2 ^ (D+1)=(n*2 ^ D)*2:=by rw [Int.pow_succ,Int.mul_assoc]
  rw [e,←Nat.add_assoc,strip,if_pos (by omega),Int.mul_ediv_cancel _ (by decide)]
  exact strip_scale k n D
theorem mkD_scale(k D:Nat)(n:Int):mkD (n*2 ^ D) (k+D)=mkD n k:=by
 unfold mkD
 rw [strip_scale]
theorem pow5{m:Nat}(h:m≤5):(1:Int)≤2 ^ m∧(2:Int) ^ m≤32:=by
 rcases(by omega:m=0∨m=1∨m=2∨m=3∨m=4∨m=5)with rfl | rfl | rfl | rfl | rfl | rfl <;> decide
def numV(m D:Nat)(l h x:Int):Int×Int:=(mkD (l*2 ^ D+x*(h - l)) (m+D)).1
theorem numV_gd(m D:Nat)(l h x:Int):gd (numV m D l h x):=mkD_gd _ _
theorem mul_range{a b A B:Int}(h1 : -A≤a)(h2:a≤A)(h3:0≤b)(h4:b≤B)(hA:0≤A) : -(A*B)≤a*b∧a*b≤A*B:=by
 have e1:a*b≤A*b:=Int.mul_le_mul_of_nonneg_right h2 h3
 have e2:A*b≤A*B:=Int.mul_le_mul_of_nonneg_left h4 hA
 have e3 : -A*b≤a*b:=Int.mul_le_mul_of_nonneg_right h1 h3
 rw [Int.neg_mul]at e3
 omega
theorem side_range{l h x:Int}{D:Nat}(hl : -64≤l∧l<h∧h≤64)(hD:D≤5)(hx:0≤x∧x≤64):(-2048≤l*2 ^ D∧l*2 ^ D≤2048)∧(-2048≤h*2 ^ D∧h*2 ^ D≤2048)∧(0≤x*(h - l)∧x*(h - l)≤8192):=by
 have hp:=pow5 hD
 have a:=mul_range (a:=l) (b:=2 ^ D) (A:=64) (B:=32) (by omega) (by omega) (by omega) (by omega) (by omega)
 have b:=mul_range (a:=h) (b:=2 ^ D) (A:=64) (B:=32) (by omega) (by omega) (by omega) (by omega) (by omega)
 have c:=mul_range (a:=x) (b:=h - l) (A:=64) (B:=128) (by omega) (by omega) (by omega) (by omega) (by omega)
 have d:0≤x*(h - l):=Int.mul_nonneg hx.1 (by omega)
 omega
theorem edges1_ev{m D:Nat}{b:Bx}{j:Nat}{l h x:Int}(hb1:b.1=m)(hj:j<b.2.1.length)(hj2:j<b.2.2.length)(e1:b.2.1.getD j 0=l)(e2:b.2.2.getD j 0=h)(hl : -64≤l∧l<h∧h≤64)(hm:m≤3)(hD:D≤5)(hx:0≤x∧x≤64) :
  Evt (fun k _=>impl_boundaryEdges_1 k j x b (2 ^ D) D) (numV m D l h x):=by
 have hr:=side_range hl hD hx
 refine Evt.eq (f:=fun k q=>_) ?_ (fun k q=>by rw [impl_boundaryEdges_1])
 refine Evt.ctrue (decide_eq_true (by omega)) (Evt.ctrue (decide_eq_true (by omega)) ?_)
 have el:impl_Box_length b j=some (h - l):=by
  unfold impl_Box_length
  rw [decide_eq_true (show(0:Int)≤(j:Int)by omega),decide_eq_true (show(j:Int)<(b.2.2.length:Int)by omega),decide_eq_true (show(j:Int)<(b.2.1.length:Int)by omega)]
  simp only [cond_true,Int.toNat_natCast,e1,e2]
  rw [w64 (by omega) (by omega)]
 refine Evt.bind (.const el) ?_
 simp only [Int.toNat_natCast,e1]
 rw [w64 (n:=l*2 ^ D) (by omega) (by omega),w64 (n:=x*(h - l)) (by omega) (by omega),w64 (by omega) (by omega),hb1,w64 (n:=(m:Int)+(D:Int)) (by omega) (by omega)]
 refine Evt.bind (.const (wideOf_eq (by omega) (by omega))) ?_
 have:=fitD_ev (n:=l*2 ^ D+x*(h - l)) (p:=m+D) (by omega) (by omega) (by omega)
 rw [Int.natCast_add]at this
 exact Evt.bind this .pure
def wayV(s:Int)(a:Int×Int)(g:Int→Int×Int)(c r:Nat):List Ed:=(List.range' c r).map fun i:Nat=>(s,a,g (i:Int),g ((i:Int)+1))
theorem imWay_ev{s:Int}{a:Int×Int}{u v:Int}{m D:Nat}{g:Int→Int×Int}(hu : -64≤u∧u≤64)(hv : -64≤v∧v≤64)(hm:m≤3)(hD:D≤5)(hg:∀x:Int,0≤x→x≤2 ^ D→g x=(mkD (u*2 ^ D+(v - u)*x) (m+D)).1) :
  Evt (fun k _=>spec_imWay k s a u v m D) (wayV s a g 0 (2 ^ D)):=by
 refine Evt.eq (f:=fun k q=>_) ?_ (fun k q=>by rw [spec_imWay])
 refine Evt.bind (.const (dyPower_eq (m:=D) (by omega))) ?_
 have hp:=pow5 hD
 have hN:((2 ^ D:Nat):Int)=2 ^ D:=by simp
 generalize hNN:2 ^ D=N at hN
 have num:∀x:Int,0≤x→x≤N→Evt (fun k _=>spec_bxNumber k (IntKind.wrap .i64 ((IntKind.wrap .i64 (u*(N:Int)))+(IntKind.wrap .i64 ((IntKind.wrap .i64 (v - u))*x)))) (IntKind.wrap .i64 ((m:Int)+(D:Int)))) (g x):=by
  intro x h1 h2
  have a1:=mul_range (a:=u) (b:=2 ^ D) (A:=64) (B:=32) (by omega) (by omega) (by omega) (by omega) (by omega)
  have a2:=mul_range (a:=v - u) (b:=x) (A:=128) (B:=32) (by omega) (by omega) (by omega) (by omega) (by omega)
  rw [hN,w64 (n:=v - u) (by omega) (by omega),w64 (n:=u*2 ^ D) (by omega) (by omega),w64 (n:=(v - u)*x) (by omega) (by omega),w64 (by omega) (by omega),w64 (n:=(m:Int)+D) (by omega) (by omega),hg x h1 (by omega)]
  refine Evt.eq (f:=fun k q=>_) ?_ (fun k q=>by rw [spec_bxNumber])
  have:=dyMake_ev (n:=u*2 ^ D+(v - u)*x) (m:=m+D) (by omega) (by omega) (by omega)
  rw [Int.natCast_add]at this
  exact Evt.bind this .pure
 have key:∀(r c:Nat) (acc:List Ed),c+r=N→acc.length+r≤1000→Evt (fun k n=>spec_imWay_L122 k n s u v m D a acc (N:Int) c) (.inr (acc++wayV s a g c r,())):=by
  intro r
  induction r with
  | zero =>
   intro c acc hc _
   refine Evt.step (fun k n=>spec_imWay_L122.eq_2 k _ _ _ _ _ _ _ _ _ n) (Evt.cfalse (decide_eq_false (by omega)) ?_)
   simp only [wayV,List.range'_zero,List.map_nil,List.append_nil]
   exact .pure
  | succ r ih =>
   intro c acc hc ha
   refine Evt.step (fun k n=>spec_imWay_L122.eq_2 k _ _ _ _ _ _ _ _ _ n) (Evt.ctrue (decide_eq_true (by omega)) ?_)
   refine Evt.bind (num c (by omega) (by omega)) ?_
   have w1:IntKind.wrap .i64 ((c:Int)+1)=(c:Int)+1:=by rw [w64 (by omega) (by omega)]
   rw [w1]
   refine Evt.bind (num ((c:Int)+1) (by omega) (by omega)) (Evt.ctrue (decide_eq_true (by simp only [List.length_cons,List.length_nil];omega)) ?_)
   have:=ih (c+1) (acc ++ [(s,a,g c,g ((c:Int)+1))]) (by omega) (by simp;omega)
   rw [Int.natCast_add]at this
   have e:acc ++ [(s,a,g c,g ((c:Int)+1))]++wayV s a g (c+1) r=acc++wayV s a g c (r+1):=by
    simp only [wayV,List.range'_succ,List.map_cons,List.append_assoc,List.singleton_append]
   rw [e]at this
   exact this
 have hNb:N≤32:=by omega
 have hk:=key N 0 [] (by omega) (by simp;omega)
 exact Evt.inr (Evt.diag hk) .pure
def edgesV(m D:Nat)(l0 l1 h0 h1:Int):List Ed :=
 wayV 1 (mkD l1 m).1 (numV m D l0 h0) 0 (2 ^ D)++wayV 0 (mkD h0 m).1 (numV m D l1 h1) 0 (2 ^ D)++wayV 1 (mkD h1 m).1 (fun x=>numV m D l0 h0 (2 ^ D - x)) 0 (2 ^ D)++wayV 0 (mkD l0 m).1 (fun x=>numV m D l1 h1 (2 ^ D - x)) 0 (2 ^ D)
theorem wayV_len(s:Int)(a:Int×Int)(g:Int→Int×Int)(c r:Nat):(wayV s a g c r).length=r:=by simp [wayV]
theorem edgesV_len(m D:Nat)(l0 l1 h0 h1:Int):(edgesV m D l0 l1 h0 h1).length=4*2 ^ D:=by
 simp only [edgesV,List.length_append,wayV_len];omega
theorem wayV_ok{s:Int}{a:Int×Int}{g:Int→Int×Int}{c r:Nat}(hs:s=0∨s=1)(ha:gd a)(hg:∀x,gd (g x)):∀e∈wayV s a g c r,EdOk e:=by
 intro e he
 simp only [wayV,List.mem_map]at he
 obtain⟨i,_,rfl⟩:=he
 exact⟨hs,ha,hg _,hg _⟩
theorem edgesV_ok{m D:Nat}{l0 l1 h0 h1:Int}:∀e∈edgesV m D l0 l1 h0 h1,EdOk e:=by
 intro e he
 simp only [edgesV,List.mem_append]at he
 rcases he with ((he | he) | he) | he
 ·exact wayV_ok (.inr rfl) (mkD_gd _ _) (fun x=>numV_gd _ _ _ _ _) e he
 ·exact wayV_ok (.inl rfl) (mkD_gd _ _) (fun x=>numV_gd _ _ _ _ _) e he
 ·exact wayV_ok (.inr rfl) (mkD_gd _ _) (fun x=>numV_gd _ _ _ _ _) e he
 ·exact wayV_ok (.inl rfl) (mkD_gd _ _) (fun x=>numV_gd _ _ _ _ _) e he
theorem imEdges_ev{m D:Nat}{l0 l1 h0 h1:Int}(hm:m≤3)(hD:D≤5)(g0 : -64≤l0∧l0<h0∧h0≤64)(g1 : -64≤l1∧l1<h1∧h1≤64):Evt (fun k _=>spec_imEdges k ((m:Int),[l0,l1],[h0,h1]) D) (edgesV m D l0 l1 h0 h1):=by
 refine Evt.eq (f:=fun k q=>_) ?_ (fun k q=>by rw [spec_imEdges])
 have hp:2 ^ D≤32:=by
  have:=Nat.pow_le_pow_right (n:=2) (by omega) hD
  simpa using this
 have num:∀x:Int,-64≤x∧x≤64→Evt (fun k _=>spec_bxNumber k x (m:Int)) (mkD x m).1:=by
  intro x hx
  refine Evt.eq (f:=fun k q=>_) ?_ (fun k q=>by rw [spec_bxNumber])
  exact Evt.bind (dyMake_ev (n:=x) (m:=m) (by omega) (by omega) (by omega)) .pure
 have fwd:∀(l h:Int) (x:Int),0≤x→x≤2 ^ D→numV m D l h x=(mkD (l*2 ^ D+(h - l)*x) (m+D)).1:=by
  intro l h x _ _
  rw [numV,Int.mul_comm x]
 have bwd:∀(l h:Int) (x:Int),0≤x→x≤2 ^ D→numV m D l h (2 ^ D - x)=(mkD (h*2 ^ D+(l - h)*x) (m+D)).1:=by
  intro l h x _ _
  have e:l*2 ^ D+(2 ^ D - x)*(h - l)=h*2 ^ D+(l - h)*x:=by
   simp only [Int.sub_mul,Int.mul_sub,Int.mul_comm (2 ^ D),Int.mul_comm x]
   omega
  rw [numV,e]
 refine Evt.ctrue rfl (Evt.ctrue rfl (Evt.ctrue rfl (Evt.ctrue rfl ?_)))
 refine Evt.bind (num l1 (by omega)) (Evt.bind (imWay_ev (u:=l0) (v:=h0) (g:=numV m D l0 h0) (by omega) (by omega) hm hD (fwd l0 h0)) ?_)
 refine Evt.bind (num h0 (by omega)) (Evt.bind (imWay_ev (u:=l1) (v:=h1) (g:=numV m D l1 h1) (by omega) (by omega) hm hD (fwd l1 h1)) ?_)
 refine Evt.ctrue (decide_eq_true (by simp only [wayV_len];omega)) ?_
 refine Evt.bind (num h1 (by omega)) (Evt.bind (imWay_ev (u:=h0) (v:=l0) (g:=fun x=>numV m D l0 h0 (2 ^ D - x)) (by omega) (by omega) hm hD (bwd l0 h0)) ?_)
 refine Evt.ctrue (decide_eq_true (by simp only [List.length_append,wayV_len];omega)) ?_
 refine Evt.bind (num l0 (by omega)) (Evt.bind (imWay_ev (u:=h1) (v:=l1) (g:=fun x=>numV m D l1 h1 (2 ^ D - x)) (by omega) (by omega) hm hD (bwd l1 h1)) ?_)
 exact Evt.ctrue (decide_eq_true (by simp only [List.length_append,wayV_len];omega)) .pure
end Go.Ev.G

namespace Go.Ev.G
open Go Go.Ev
set_option maxRecDepth 100000

theorem edges_inner{m D:Nat}{b:Bx}{j:Nat}{s kk x17:Int}{l h:Int}{a:Int×Int}(hb1:b.1=m)(hj:j<b.2.1.length)(hj2:j<b.2.2.length)(e1:b.2.1.getD j 0=l)(e2:b.2.2.getD j 0=h)(hl : -64≤l∧l<h∧h≤64)(hm:m≤3)(hD:D≤5)(hs:IntKind.wrap .i64 (1 - s)=(j:Int)) :
  ∀(r c:Nat) (acc:List Ed),c+r=2 ^ D→acc.length+r≤1000→Evt (fun k n=>impl_boundaryEdges_L512830 k n (2 ^ D) (b,2 ^ D,(D:Int),()) acc kk s a x17 (2 ^ D) c) (.inr (2 ^ D,(b,2 ^ D,(D:Int),()),acc++wayV s a (fun x=>numV m D l h (if kk≥2 then 2 ^ D - x else x)) c r,x17,()))
 | 0,c,acc,hc,_=>by
  have hN:((2 ^ D:Nat):Int)=2 ^ D:=by simp
  refine Evt.step (fun k n=>impl_boundaryEdges_L512830.eq_2 k _ _ _ _ _ _ _ _ _ n) (Evt.cfalse (decide_eq_false (by omega)) ?_)
  simp only [wayV,List.range'_zero,List.map_nil,List.append_nil]
  exact .pure
 | r+1,c,acc,hc,ha=>by
  have hN:((2 ^ D:Nat):Int)=2 ^ D:=by simp
  have hp:=pow5 hD
  refine Evt.step (fun k n=>impl_boundaryEdges_L512830.eq_2 k _ _ _ _ _ _ _ _ _ n) (Evt.ctrue (decide_eq_true (by omega)) ?_)
  let g:Int→Int×Int:=fun x=>numV m D l h (if kk≥2 then 2 ^ D - x else x)
  have num:∀x:Int,0≤x→x≤2 ^ D→Evt (fun k _=>impl_boundaryEdges_1 k (IntKind.wrap .i64 (1 - s)) x b (2 ^ D) D) (numV m D l h x):=by
   intro x h1 h2
   rw [hs]
   exact edges1_ev hb1 hj hj2 e1 e2 hl hm hD (by omega)
  have ih:=edges_inner (kk:=kk) (x17:=x17) (s:=s) (a:=a) hb1 hj hj2 e1 e2 hl hm hD hs r (c+1) (acc ++ [(s,a,g c,g ((c:Int)+1))]) (by omega) (by simp;omega)
  have w1:IntKind.wrap .i64 ((c:Int)+1)=((c+1:Nat):Int):=w64_next (by simp only [lenB];omega)
  have e:acc ++ [(s,a,g c,g ((c:Int)+1))]++wayV s a g (c+1) r=acc++wayV s a g c (r+1):=by
   simp only [wayV,List.range'_succ,List.map_cons,List.append_assoc,List.singleton_append]
  have ih2:Evt (fun k n=>impl_boundaryEdges_L512830 k n (2 ^ D) (b,2 ^ D,(D:Int),()) (acc ++ [(s,a,g c,g ((c:Int)+1))]) kk s a x17 (2 ^ D) ((c+1:Nat):Int)) (.inr (2 ^ D,(b,2 ^ D,(D:Int),()),acc++wayV s a g c (r+1),x17,())):=by
   rw [←e];exact ih
  by_cases hk:kk≥2
  ·have g1:g c=numV m D l h (2 ^ D - c):=by show numV m D l h (if kk≥2 then 2 ^ D - (c:Int)else c)=_;rw [if_pos hk]
   have g2:g ((c:Int)+1)=numV m D l h (2 ^ D - c - 1):=by
    show numV m D l h (if kk≥2 then 2 ^ D - ((c:Int)+1)else(c:Int)+1)=_
    rw [if_pos hk,show(2:Int) ^ D - (c+1)=2 ^ D - c - 1 by omega]
   refine Evt.inr (Evt.ctrue (decide_eq_true hk) .pure) ?_
   have w2:IntKind.wrap .i64 ((2:Int) ^ D - c)=2 ^ D - c:=w64 (by omega) (by omega)
   have w3:IntKind.wrap .i64 ((2:Int) ^ D - c - 1)=2 ^ D - c - 1:=w64 (by omega) (by omega)
   simp only [w2,w3,w1]
   rw [g1,g2]at ih2
   refine Evt.bind (num _ (by omega) (by omega)) (Evt.bind (num _ (by omega) (by omega)) (Evt.ctrue (decide_eq_true (by simp only [List.length_cons,List.length_nil];omega)) ?_))
   exact ih2
  ·have g1:g c=numV m D l h c:=by show numV m D l h (if kk≥2 then 2 ^ D - (c:Int)else c)=_;rw [if_neg hk]
   have g2:g ((c:Int)+1)=numV m D l h ((c:Int)+1):=by
    show numV m D l h (if kk≥2 then 2 ^ D - ((c:Int)+1)else(c:Int)+1)=_
    rw [if_neg hk]
   refine Evt.inr (Evt.cfalse (decide_eq_false hk) .pure) ?_
   have w2:IntKind.wrap .i64 ((c:Int)+1)=(c:Int)+1:=w64 (by omega) (by omega)
   simp only [w2]
   rw [g1,g2]at ih2
   refine Evt.bind (num _ (by omega) (by omega)) (Evt.bind (num _ (by omega) (by omega)) (Evt.ctrue (decide_eq_true (by simp only [List.length_cons,List.length_nil];omega)) ?_))
   exact ih2
theorem boundaryEdges_ev{m D:Nat}{l0 l1 h0 h1:Int}(hm:m≤3)(hD:D≤5)(g0 : -64≤l0∧l0<h0∧h0≤64)(g1 : -64≤l1∧l1<h1∧h1≤64):Evt (fun k _=>impl_boundaryEdges k ((m:Int),[l0,l1],[h0,h1]) D) (edgesV m D l0 l1 h0 h1):=by
 have hN:((2 ^ D:Nat):Int)=2 ^ D:=by simp
 have hp:=pow5 hD
 have hNb:2 ^ D≤32:=by omega
 let b:Bx:=((m:Int),[l0,l1],[h0,h1])
 refine Evt.eq (f:=fun k q=>_) ?_ (fun k q=>by rw [impl_boundaryEdges])
 refine Evt.cfalse (decide_eq_false (by omega)) ?_
 have hw:IntKind.wrap .i64 (1*2 ^ min (Int.toNat (D:Int)) (IntKind.bits .i64))=2 ^ D:=by
  rw [min64 (by omega),Int.one_mul,w64 (by omega) (by omega)]
 simp only [hw]
 have one:∀ {R:List Ed ⊕ (List Ed×Unit)} (kk s:Int) (j:Nat) (l h:Int) (a0 a:Int×Int) (acc:List Ed),0≤kk→kk<4→IntKind.wrap .i64 (1 - Int.tmod kk 2)=s→IntKind.wrap .i64 (1 - s)=(j:Int)→j<2→b.2.1.getD j 0=l→b.2.2.getD j 0=h→(-64≤l∧l<h∧h≤64) →
   Evt (fun k _=>impl_boundaryEdges_1 k s 0 b (2 ^ D) D) a0→(kk=1∨kk=2→Evt (fun k _=>impl_boundaryEdges_1 k s (2 ^ D) b (2 ^ D) D) a)→(¬(kk=1∨kk=2)→a0=a)→acc.length≤200 →
   Evt (fun k n=>impl_boundaryEdges_L250 k n (2 ^ D) (b,2 ^ D,(D:Int),()) (acc++wayV s a (fun x=>numV m D l h (if kk≥2 then 2 ^ D - x else x)) 0 (2 ^ D)) (IntKind.wrap .i64 (kk+1))) R→Evt (fun k n=>impl_boundaryEdges_L250 k n (2 ^ D) (b,2 ^ D,(D:Int),()) acc kk) R:=by
  intro R kk s j l h a0 a acc hk0 hk4 hs hj hj2 e1 e2 hl ha0 ha1 haa hacc hrest
  have hin:=edges_inner (kk:=kk) (x17:=kk) (s:=s) (a:=a) (b:=b) (j:=j) (m:=m) rfl (by simpa [b] using hj2) (by simpa [b] using hj2) e1 e2 hl hm hD hj (2 ^ D) 0 acc (by omega) (by omega)
  refine Evt.step (fun k n=>impl_boundaryEdges_L250.eq_2 k _ _ _ _ n) (Evt.ctrue (decide_eq_true hk4) ?_)
  simp only [hs]
  refine Evt.bind ha0 (Evt.inr (y:=(2 ^ D,(b,2 ^ D,(D:Int),()),acc,kk,s,a,kk,())) ?_ (Evt.inr (Evt.diag hin) hrest))
  by_cases c1:kk=1
  ·exact Evt.ctrue (by simp [c1]) (Evt.bind (ha1 (.inl c1)) .pure)
  ·refine Evt.cfalse (by simpa using c1) ?_
   by_cases c2:kk=2
   ·exact Evt.ctrue (by simp [c2]) (Evt.bind (ha1 (.inr c2)) .pure)
   ·refine Evt.cfalse (by simpa using c2) ?_
    rw [haa (by omega)]
    exact .pure
 have n0:∀ {j:Nat} {l h:Int},j<2→b.2.1.getD j 0=l→b.2.2.getD j 0=h→(-64≤l∧l<h∧h≤64)→Evt (fun k _=>impl_boundaryEdges_1 k j 0 b (2 ^ D) D) (mkD l m).1:=by
  intro j l h hj e1 e2 hl
  have:=edges1_ev (x:=0) (b:=b) (m:=m) rfl (by simpa [b] using hj) (by simpa [b] using hj) e1 e2 hl hm hD (by omega)
  rw [numV,Int.zero_mul,Int.add_zero,mkD_scale]at this
  exact this
 have n1:∀ {j:Nat} {l h:Int},j<2→b.2.1.getD j 0=l→b.2.2.getD j 0=h→(-64≤l∧l<h∧h≤64)→Evt (fun k _=>impl_boundaryEdges_1 k j (2 ^ D) b (2 ^ D) D) (mkD h m).1:=by
  intro j l h hj e1 e2 hl
  have:=edges1_ev (x:=2 ^ D) (b:=b) (m:=m) rfl (by simpa [b] using hj) (by simpa [b] using hj) e1 e2 hl hm hD (by omega)
  have e:l*2 ^ D+2 ^ D*(h - l)=h*2 ^ D:=by
   rw [Int.mul_sub,Int.mul_comm (2 ^ D) h,Int.mul_comm (2 ^ D) l];omega
  rw [numV,e,mkD_scale]at this
  exact this
 have fin:∀acc:List Ed,Evt (fun k n=>impl_boundaryEdges_L250 k n (2 ^ D) (b,2 ^ D,(D:Int),()) acc 4) (.inr (acc,())):=fun acc =>
  Evt.step (fun k n=>impl_boundaryEdges_L250.eq_2 k _ _ _ _ n) (Evt.cfalse rfl .pure)
 have w1:IntKind.wrap .i64 (0+1)=1:=by decide
 have w2:IntKind.wrap .i64 (1+1)=2:=by decide
 have w3:IntKind.wrap .i64 (2+1)=3:=by decide
 have w4:IntKind.wrap .i64 (3+1)=4:=by decide
 have all:Evt (fun k n=>impl_boundaryEdges_L250 k n (2 ^ D) (b,2 ^ D,(D:Int),()) [] 0) (.inr (edgesV m D l0 l1 h0 h1,())):=by
  refine one 0 1 0 l0 h0 (mkD l1 m).1 (mkD l1 m).1 [] (by omega) (by omega) (by decide) (by decide) (by omega) rfl rfl g0 (n0 (j:=1) (by omega) rfl rfl g1) (by omega) (fun _=>rfl) (by simp) ?_
  rw [w1]
  refine one 1 0 1 l1 h1 (mkD l0 m).1 (mkD h0 m).1 _ (by omega) (by omega) (by decide) (by decide) (by omega) rfl rfl g1 (n0 (j:=0) (by omega) rfl rfl g0) (fun _=>n1 (j:=0) (by omega) rfl rfl g0) (by omega) (by simp only [List.length_append,List.length_nil,wayV_len];omega) ?_
  rw [w2]
  refine one 2 1 0 l0 h0 (mkD l1 m).1 (mkD h1 m).1 _ (by omega) (by omega) (by decide) (by decide) (by omega) rfl rfl g0 (n0 (j:=1) (by omega) rfl rfl g1) (fun _=>n1 (j:=1) (by omega) rfl rfl g1) (by omega) (by simp only [List.length_append,List.length_nil,wayV_len];omega) ?_
  rw [w3]
  refine one 3 0 1 l1 h1 (mkD l0 m).1 (mkD l0 m).1 _ (by omega) (by omega) (by decide) (by decide) (by omega) rfl rfl g1 (n0 (j:=0) (by omega) rfl rfl g0) (by omega) (fun _=>rfl) (by simp only [List.length_append,List.length_nil,wayV_len];omega) ?_
  rw [w4]
  exact fin _
 exact Evt.inr (Evt.diag all) .pure

def edgesB(b:Bx)(D:Nat):List Ed:=edgesV b.1.toNat D (b.2.1.getD 0 0) (b.2.1.getD 1 0) (b.2.2.getD 0 0) (b.2.2.getD 1 0)
theorem edgesB_len(b:Bx)(D:Nat):(edgesB b D).length=4*2 ^ D:=edgesV_len _ _ _ _ _ _
theorem edgesB_ok{b:Bx}{D:Nat}:∀e∈edgesB b D,EdOk e:=edgesV_ok
theorem imEdgesB_ev{b:Bx}{D:Nat}(h:plV b=true)(hD:D≤5):Evt (fun k _=>spec_imEdges k b D) (edgesB b D):=by
 obtain⟨m,l0,l1,h0,h1,rfl,hm,g0,g1⟩:=plV_form h
 exact imEdges_ev hm hD g0 g1
theorem boundaryEdgesB_ev{b:Bx}{D:Nat}(h:plV b=true)(hD:D≤5):Evt (fun k _=>impl_boundaryEdges k b D) (edgesB b D):=by
 obtain⟨m,l0,l1,h0,h1,rfl,hm,g0,g1⟩:=plV_form h
 exact boundaryEdges_ev hm hD g0 g1
end Go.Ev.G

namespace Go.Ev.G
open Go Go.Ev
set_option maxRecDepth 100000

theorem concatZ_ev{a b:List Int}(ha:a.length<1000)(hb:b.length<1000):Evt (fun k _=>slices_Concat_int_int k [a,b]) (a++b):=by
 refine Evt.eq (f:=fun k q=>_) ?_ (fun k q=>by rw [slices_Concat_int_int])
 have w1:IntKind.wrap .i64 (0+1)=1:=by decide
 have w2:IntKind.wrap .i64 (1+1)=2:=by decide
 have wa:IntKind.wrap .i64 (0+(a.length:Int))=(a.length:Int):=by rw [w64 (by omega) (by omega)];omega
 have wb:IntKind.wrap .i64 ((a.length:Int)+(b.length:Int))=((a.length+b.length:Nat):Int):=by rw [w64 (by omega) (by omega)];omega
 have l1:Evt (fun k n=>slices_Concat_int_int_L58 k n [a,b] 0 [a,b] 2 0) (.inr ([a,b],((a.length+b.length:Nat):Int),())):=by
  refine Evt.step (fun k n=>slices_Concat_int_int_L58.eq_2 k _ _ _ _ _ n) (Evt.ctrue rfl (Evt.ctrue rfl (Evt.ctrue rfl ?_)))
  simp only [List.getD_cons_zero,show Int.toNat 0=0 from rfl,wa,w1]
  refine Evt.cfalse (decide_eq_false (by omega)) ?_
  refine Evt.step (fun k n=>slices_Concat_int_int_L58.eq_2 k _ _ _ _ _ n) (Evt.ctrue rfl (Evt.ctrue rfl (Evt.ctrue rfl ?_)))
  have e1 : [a,b].getD (Int.toNat 1) []=b:=rfl
  simp only [e1,wb,w2]
  refine Evt.cfalse (decide_eq_false (by omega)) ?_
  exact Evt.step (fun k n=>slices_Concat_int_int_L58.eq_2 k _ _ _ _ _ n) (Evt.cfalse rfl .pure)
 have grow:slices_Grow_int_int () ((a.length+b.length:Nat):Int)=some []:=by
  unfold slices_Grow_int_int
  have e:IntKind.wrap .i64 (((a.length+b.length:Nat):Int) - IntKind.wrap .i64 (0 - 0))=((a.length+b.length:Nat):Int):=by
   have:IntKind.wrap .i64 (0 - 0)=0:=by decide
   rw [this,w64 (by omega) (by omega)];omega
  rw [e,decide_eq_false (by omega),cond_false]
  by_cases h:a.length+b.length=0
  ·rw [h];rfl
  ·rw [decide_eq_true (by omega),decide_eq_true (by omega),decide_eq_true (by omega)]
   simp only [cond_true,List.take_zero]
   rw [decide_eq_true (by simp;omega)]
   rfl
 have l2:Evt (fun k n=>slices_Concat_int_int_L250 k n [] [a,b] 2 0) (.inr (a++b,())):=by
  refine Evt.step (fun k n=>slices_Concat_int_int_L250.eq_2 k _ _ _ _ n) (Evt.ctrue rfl (Evt.ctrue rfl (Evt.ctrue rfl ?_)))
  simp only [List.getD_cons_zero,show Int.toNat 0=0 from rfl,w1,List.nil_append,List.length_nil]
  refine Evt.ctrue (decide_eq_true (by omega)) ?_
  refine Evt.step (fun k n=>slices_Concat_int_int_L250.eq_2 k _ _ _ _ n) (Evt.ctrue rfl (Evt.ctrue rfl (Evt.ctrue rfl ?_)))
  have e1 : [a,b].getD (Int.toNat 1) []=b:=rfl
  simp only [e1,w2]
  refine Evt.ctrue (decide_eq_true (by omega)) ?_
  exact Evt.step (fun k n=>slices_Concat_int_int_L250.eq_2 k _ _ _ _ n) (Evt.cfalse rfl .pure)
 exact Evt.inr (Evt.diag l1) (Evt.bind (.const grow) (Evt.inr (Evt.diag l2) .pure))


theorem tmodN(a b:Nat):Int.tmod (a:Int) (b:Int)=((a % b:Nat):Int):=rfl

theorem turns2_ev{x:List Int}(h0:0<x.length)(hb:x.length≤128):∃(v:Int) (f:Bool),Evt (fun k _=>spec_imTurns k x) (v,f)∧Evt (fun k _=>impl_turnsOf k x) (if f then v else 0,f):=by
 have key:∀(r d:List Int) (t:Int),d++r=x→∃res:(Int×Bool) ⊕ (Int×Unit),(∀q,res = .inl q→q=(0,false))∧Evt (fun k n=>spec_imTurns_L58 k n x t x (x.length:Int) d.length) res∧Evt (fun k n=>impl_turnsOf_L58 k n x t x (x.length:Int) d.length) res:=by
  intro r
  induction r with
  | nil =>
   intro d t h
   rw [List.append_nil]at h
   refine⟨.inr (t,()),(fun q hq=>by cases hq),?_,?_⟩
   ·refine Evt.step (fun k n=>spec_imTurns_L58.eq_2 k _ _ _ _ _ n) ?_
    rw [h]
    exact Evt.rng0 .pure
   ·refine Evt.step (fun k n=>impl_turnsOf_L58.eq_2 k _ _ _ _ _ n) ?_
    rw [h]
    exact Evt.rng0 .pure
  | cons e r ih =>
   intro d t h
   have hl:=congrArg List.length h
   simp at hl
   have hnx:IntKind.wrap .i64 ((d.length:Int)+1)=((d ++ [e]).length:Int):=by rw [w64_next (by simp only [lenB];omega)];simp
   have hw:IntKind.wrap .i64 ((d.length:Int)+1)=((d.length+1:Nat):Int):=w64_next (by simp only [lenB];omega)
   have hmod:(d.length+1) % x.length<x.length:=Nat.mod_lt _ h0
   have e1:x.getD (Int.toNat (d.length:Int)) 0=e:=by rw [←h];exact mid_get
   generalize hD:Int.tmod (IntKind.wrap .i64 ((IntKind.wrap .i64 ((x.getD (Int.toNat (Int.tmod (IntKind.wrap .i64 ((d.length:Int)+1)) (x.length:Int))) 0) - (x.getD (Int.toNat (d.length:Int)) 0)))+4)) 4=D
   have g1:decide ((d.length:Int)<(x.length:Int))=true:=decide_eq_true (by omega)
   have g2:((x.length:Int)==0)=false:=by rw [beq_eq_false_iff_ne];omega
   have g3:decide (0≤Int.tmod (IntKind.wrap .i64 ((d.length:Int)+1)) (x.length:Int))=true:=by rw [hw,tmodN];exact decide_eq_true (Int.natCast_nonneg _)
   have g4:decide (Int.tmod (IntKind.wrap .i64 ((d.length:Int)+1)) (x.length:Int)<(x.length:Int))=true:=by rw [hw,tmodN];exact decide_eq_true (Int.ofNat_lt.2 hmod)
   have s1:∀ {res},Evt (fun k n=>(bif (D==1)then(spec_imTurns_L58 k n x (IntKind.wrap .i64 (t+1)) x (x.length:Int) (IntKind.wrap .i64 ((d.length:Int)+1)))else(bif (D==2)then some (Sum.inl (0,false))else(bif (D==3)then(spec_imTurns_L58 k n x (IntKind.wrap .i64 (t - 1)) x (x.length:Int) (IntKind.wrap .i64 ((d.length:Int)+1)))else(spec_imTurns_L58 k n x t x (x.length:Int) (IntKind.wrap .i64 ((d.length:Int)+1))))))) res→Evt (fun k n=>spec_imTurns_L58 k n x t x (x.length:Int) d.length) res:=by
    intro res hh
    refine Evt.step (fun k n=>spec_imTurns_L58.eq_2 k _ _ _ _ _ n) (Evt.ctrue g1 (Evt.ctrue mid_ge (Evt.ctrue g1 (Evt.cfalse g2 (Evt.ctrue g3 (Evt.ctrue g4 ?_))))))
    rw [hD]
    exact hh
   have s2:∀ {res},Evt (fun k n=>(bif (D==1)then(impl_turnsOf_L58 k n x (IntKind.wrap .i64 (t+1)) x (x.length:Int) (IntKind.wrap .i64 ((d.length:Int)+1)))else(bif (D==2)then some (Sum.inl (0,false))else(bif (D==3)then(impl_turnsOf_L58 k n x (IntKind.wrap .i64 (t - 1)) x (x.length:Int) (IntKind.wrap .i64 ((d.length:Int)+1)))else(impl_turnsOf_L58 k n x t x (x.length:Int) (IntKind.wrap .i64 ((d.length:Int)+1))))))) res→Evt (fun k n=>impl_turnsOf_L58 k n x t x (x.length:Int) d.length) res:=by
    intro res hh
    refine Evt.step (fun k n=>impl_turnsOf_L58.eq_2 k _ _ _ _ _ n) (Evt.ctrue g1 (Evt.ctrue mid_ge (Evt.ctrue g1 (Evt.cfalse g2 (Evt.ctrue g3 (Evt.ctrue g4 ?_))))))
    rw [hD]
    exact hh
   have ih:=fun t=>ih (d ++ [e]) t (by simpa using h)
   rw [←hnx]at ih
   cases h1:(D==1)with
   | true =>
    obtain⟨res,q0,q1,q2⟩:=ih (IntKind.wrap .i64 (t+1))
    exact⟨res,q0,s1 (Evt.ctrue h1 q1),s2 (Evt.ctrue h1 q2)⟩
   | false =>
   cases h2:(D==2)with
   | true=>exact⟨.inl (0,false),(fun q hq=>by cases hq;rfl),s1 (Evt.cfalse h1 (Evt.ctrue h2 .pure)),s2 (Evt.cfalse h1 (Evt.ctrue h2 .pure))⟩
   | false =>
   cases h3:(D==3)with
   | true =>
    obtain⟨res,q0,q1,q2⟩:=ih (IntKind.wrap .i64 (t - 1))
    exact⟨res,q0,s1 (Evt.cfalse h1 (Evt.cfalse h2 (Evt.ctrue h3 q1))),s2 (Evt.cfalse h1 (Evt.cfalse h2 (Evt.ctrue h3 q2)))⟩
   | false =>
    obtain⟨res,q0,q1,q2⟩:=ih t
    exact⟨res,q0,s1 (Evt.cfalse h1 (Evt.cfalse h2 (Evt.cfalse h3 q1))),s2 (Evt.cfalse h1 (Evt.cfalse h2 (Evt.cfalse h3 q2)))⟩
 obtain⟨res,q0,q1,q2⟩:=key x [] 0 rfl
 simp only [List.length_nil]at q1 q2
 cases res with
 | inl q =>
  have hf:=q0 _ rfl
  subst hf
  refine⟨0,false,?_,?_⟩
  ·refine Evt.eq (f:=fun k q=>_) ?_ (fun k q=>by rw [spec_imTurns])
   exact Evt.inl (Evt.diag q1) .pure
  ·refine Evt.eq (f:=fun k q=>_) ?_ (fun k q=>by rw [impl_turnsOf])
   exact Evt.inl (Evt.diag q2) .pure
 | inr y =>
  obtain⟨t,u⟩:=y
  refine⟨IntKind.wrap .i64 (Int.tdiv t 4),(Int.tmod t 4==0),?_,?_⟩
  ·refine Evt.eq (f:=fun k q=>_) ?_ (fun k q=>by rw [spec_imTurns])
   exact Evt.inr (Evt.diag q1) .pure
  ·refine Evt.eq (f:=fun k q=>_) ?_ (fun k q=>by rw [impl_turnsOf])
   cases ht:(Int.tmod t 4==0)with
   | true=>exact Evt.inr (Evt.diag q2) (Evt.cfalse (by unfold bne;rw [ht];rfl) .pure)
   | false=>exact Evt.inr (Evt.diag q2) (Evt.ctrue (by unfold bne;rw [ht];rfl) .pure)
end Go.Ev.G

namespace Go.Ev.G
open Go Go.Ev
set_option maxRecDepth 100000

theorem markBox_ev{b:Int×List Int×List Int}{a:Nat}(h:a+b.2.1.length+b.2.2.length<lenB):Evt (fun k _=>laws_markBox k b a) ((a+1*b.2.1.length+1*b.2.2.length:Nat):Int):=by
 refine Evt.eq (f:=fun k q=>_) ?_ (fun k q=>by rw [laws_markBox])
 obtain⟨y,hy,_⟩:=markIntS_only b.2.1 a (by show a+1*b.2.1.length<lenB;omega)
 obtain⟨z,hz,_⟩:=markIntS_only b.2.2 (a+1*b.2.1.length) (by show a+1*b.2.1.length+1*b.2.2.length<lenB;omega)
 exact Evt.bind hy (Evt.bind hz .pure)

end Go.Ev.G

namespace Go.Ev.G
open Go Go.Ev
set_option maxRecDepth 100000

theorem markIntS_ok:MarkOk laws_markIntS laws_heldIntS (fun x=>1*x.length) :=
 mark_all (M:=laws_markIntS_L26) (H:=laws_heldIntS_L26) (mv:=fun a=>(a:Int)) (by omega)
  (fun k n d r e a h1 h2=>by
   rw [laws_markIntS_L26]
   rw [mid_lt,mid_ge,mid_set,w64_next (m:=d.length) (by simp at h2;omega),w64_next (m:=a) (by omega)]
   rfl)
  (fun k n d a=>by rw [laws_markIntS_L26,mid_end];rfl)
  (fun k n d r a h1 h2=>by
   rw [laws_heldIntS_L26]
   simp only [mid_lt,mid_ge,mid_get,cond_true]
   rw [w64_next (m:=d.length) (by simp at h2;omega),w64_next (m:=a) (by omega)]
   simp only [bne_self_eq_false,cond_false])
  (fun k n d a=>by rw [laws_heldIntS_L26,mid_end];rfl)
  (fun _ _ _=>rfl) (fun _ _ _=>rfl)
theorem markTermS_only:MarkOk laws_markTermS (heldAny 4) (fun x=>4*x.length) :=
 mark_only (M:=laws_markTermS_L26) (mv:=fun a=>((a:Int),((a+1:Nat):Int),((a+2:Nat):Int),((a+3:Nat):Int))) (by omega)
  (fun k n d r e a h1 h2=>by
   rw [laws_markTermS_L26]
   simp only [mid_lt,mid_ge,mid_get,mid_set,cond_true]
   rw [w64_next (m:=d.length) (by simp at h2;omega),w64_next (m:=a) (by omega),w64_next (m:=a+1) (by omega),w64_next (m:=a+2) (by omega),w64_next (m:=a+3) (by omega)])
  (fun k n d a=>by rw [laws_markTermS_L26,mid_end];rfl)
  (fun _ _ _=>rfl)
def heldAnyL{γ:Type}(c:Nat)(k:Nat):Nat→List (List γ)→Int→Int→Option (Int ⊕ (Int×Unit))
 | 0,_,_,_=>none
 | n+1,x,a,i=>(bif (decide (i<(x.length:Int)))then(bif (decide (0≤i))then(bif (decide (i<(x.length:Int)))then(Option.bind (heldAny c k (x.getD (Int.toNat i) []) a) fun r=>bif (decide (r<0))then some (.inl (-1))else heldAnyL c k n x r (IntKind.wrap .i64 (i+1)))else none)else none)else some (.inr (a,())))
theorem markTermSS_ev{x:List (List Tm)}{a:Nat}(hx:x.length<lenB)(ha:a+(x.map fun r=>4*r.length).sum<lenB):∃y,Evt (fun k _=>laws_markTermSS k x a) (((a+(x.map fun r=>4*r.length).sum:Nat):Int),y):=by
 obtain⟨y,h1,_⟩:=mark_rows_all (M:=laws_markTermSS_L26) (H:=heldAnyL 4) (marks:=laws_markTermSS) (helds:=fun k x a=>both (R:=Int) (P:=Int×Unit) (heldAnyL 4 k k x a 0) (fun q=>some q) (fun y=>some y.1)) markTermS_only (fun _ _ _ _ _=>rfl) (fun _ _ _ _ _=>rfl) (fun _ _ _=>rfl) (fun _ _ _=>rfl) hx ha
 exact⟨y,h1⟩
theorem sum_four:∀(x:List (List Tm)),(x.map fun r=>4*r.length).sum=4*(x.map List.length).sum
 | []=>rfl
 | r::x=>by simp only [List.map_cons,List.sum_cons,sum_four x];omega
theorem Sized.marks4{a:List (List Tm)}(h:Sized a):101+(a.map fun r=>4*r.length).sum≤4000101:=by
 rw [sum_four];unfold Sized at h;omega

section
variable {V : Type}
theorem frame_sbl{W:Type}{a:List (List Tm)}{b:Bx}{S I:Nat→List (List Tm)→Bx→Option V}{C:Nat→V→V→Option Bool→Option Bool}{M:Nat→V→(W→Option Bool)→Option Bool}{H:Nat→W→Option Bool→Option Bool}{v:V}{w:W}(ha:a.length≤maxLen)(hm:∀x∈a,x.length≤maxLen)(h1:b.2.1.length≤maxLen)(h2:b.2.2.length≤maxLen)
  (hC:∀ {f:Nat→Nat→Option Bool} {r:Bool},Evt f r→Evt (fun k n=>C k v v (f k n)) r)
  (hM:∀ {f:Nat→Nat→W→Option Bool} {r:Bool},Evt (fun k n=>f k n w) r→Evt (fun k n=>M k v (f k n)) r) (hH:∀ {f:Nat→Nat→Option Bool} {r:Bool},Evt f r→Evt (fun k n=>H k w (f k n)) r)
  (hS:a.length<274877906944→(∀r∈a,r.length<lenB)→b.2.1.length<lenB→Evt (fun k _=>S k a b) v) (hI:a.length<lenB→(∀r∈a,r.length<lenB)→b.2.1.length<lenB→Evt (fun k _=>I k a b) v) :
  Evt (fun k _=>(Option.bind (laws_szTermSS k a 1000000) fun r1=>(bif (decide (r1<0))then some true else(Option.bind (laws_szBox b r1) fun r2=>(bif (decide (r2<0))then some true else(Option.bind (laws_toTermSS k a false) fun r3=>(Option.bind (laws_toBox k b false) fun r4=>(Option.bind (S k (r3.1.map fun z=>z.1) (r4.1,r4.2.1.1,r4.2.2.1)) fun r5=>(Option.bind (laws_toTermSS k a false) fun r6=>(Option.bind (laws_toBox k b false) fun r7=>(Option.bind (I k (r6.1.map fun z=>z.1) (r7.1,r7.2.1.1,r7.2.2.1)) fun r8=>C k r5 r8 (Option.bind (laws_toTermSS k a false) fun r10=>(Option.bind (laws_intactTermSS k r6 r10) fun r11=>(bif (!r11)then some false else(Option.bind (laws_toBox k b false) fun r12=>(Option.bind (laws_intactBox k r7 r12) fun r13=>(bif (!r13)then some false else
   (Option.bind (laws_markTermSS k (r6.1.map fun z=>z.1) 101) fun r14=>(Option.bind (laws_markBox k (r7.1,r7.2.1.1,r7.2.2.1) r14.1) fun r15=>(bif (decide (r15<0))then some false else C k r5 r8 (M k r8 fun w=>H k w (Option.bind (laws_toTermSS k a true) fun r19=>(Option.bind (laws_toBox k b true) fun r20=>(Option.bind (I k (r19.1.map fun z=>z.1) (r20.1,r20.2.1.1,r20.2.2.1)) fun r21=>C k r5 r21 (H k w (some true)))))))))))))))))))))))))) true:=by
 refine Evt.bind (szTermSS_ev (a:=1000000) ha hm (by omega)) ?_
 by_cases hz:a.length+(a.map List.length).sum≤1000000
 ·rw [if_pos hz]
  have hs:Sized a:=hz
  refine Evt.cfalse (by simp <;> omega) (Evt.bind (.const (szBox_eq h1 h2 (by omega))) ?_)
  by_cases hy:b.2.1.length+b.2.2.length≤1000000 - (a.length+(a.map List.length).sum)
  ·rw [if_pos hy]
   refine Evt.cfalse (by simp <;> omega) ?_
   have b1:b.2.1.length≤1000000:=by omega
   have b2:b.2.2.length≤1000000:=by omega
   have hr:∀r∈a,r.length<lenB:=fun r hr=>by have:=hs.row r hr;simp only [lenB];omega
   have hl:=hs.len
   have spec:=hS (by omega) hr (by simp only [lenB];omega)
   have impl:=hI (by simp only [lenB];omega) hr (by simp only [lenB];omega)
   have hm4:=hs.marks4
   obtain⟨y,hy1⟩:=markTermSS_ev (x:=a) (a:=101) (by simp only [lenB];omega) (by simp only [lenB];omega)
   have hb1:=markBox_ev (b:=b) (a:=101+(a.map fun r=>4*r.length).sum) (by simp only [lenB];omega)
   refine Evt.bind (toTermSS_ev hs.len hs.row) (Evt.bind (toBox_ev b1 b2) ?_)
   simp only [toV_rows,boxR_eq]
   refine Evt.bind spec (Evt.bind (toTermSS_ev hs.len hs.row) (Evt.bind (toBox_ev b1 b2) ?_))
   simp only [toV_rows,boxR_eq]
   refine Evt.bind impl (hC (Evt.bind (toTermSS_ev hs.len hs.row) (Evt.bind (intactT_ev hs) (Evt.cfalse rfl (Evt.bind (toBox_ev b1 b2) (Evt.bind (intactBox_ev b1 b2) (Evt.cfalse rfl ?_)))))))
   refine Evt.bind hy1 (Evt.bind hb1 (Evt.cfalse (by simp <;> omega) (hC (hM (hH (Evt.bind (toTermSS_ev hs.len hs.row) (Evt.bind (toBox_ev b1 b2) ?_)))))))
   simp only [toV_rows,boxR_eq]
   exact Evt.bind impl (hC (hH .pure))
  ·rw [if_neg hy]
   exact Evt.ctrue rfl .pure
 ·rw [if_neg hz]
  exact Evt.ctrue rfl .pure
end
theorem held_ints{m:Nat}{w:List Int}(hH:Evt (fun k _=>laws_heldIntS k w 101) (m:Int)){f:Nat→Nat→Option Bool}{r:Bool}(h:Evt f r):Evt (fun k n=>(Option.bind (laws_heldIntS k w 101) fun r18=>(bif (decide (r18<0))then some false else(bif (r18 != (m:Int))then some false else f k n)))) r:=Evt.bind hH (Evt.cfalse (by simp <;> omega) (Evt.cfalse (by simp) h))
theorem cmp_ints{v:List Int×Bool}(hl:v.1.length<lenB){f:Nat→Nat→Option Bool}{r:Bool}(h:Evt f r):Evt (fun k n=>(Option.bind (laws_eqIntS k v.1 v.1) fun r9=>(bif (!r9)then some false else(bif (!(v.2==v.2))then some false else f k n)))) r:=Evt.bind (eqIntS_ev hl) (Evt.cfalse rfl (Evt.cfalse (by simp) h))

def rsnsV(s:List (List Tm)):List Ed→List Int×Bool
 | []=>([],true)
 | e::r=>match rsn s e with
  | some j=>((j:Int)::(rsnsV s r).1,(rsnsV s r).2)
  | none=>([],false)
theorem rsnsV_len{s:List (List Tm)}:∀(es:List Ed),(rsnsV s es).1.length≤es.length∧((rsnsV s es).2=true↔(rsnsV s es).1.length=es.length)
 | []=>by simp [rsnsV]
 | e::r=>by
  have:=rsnsV_len (s:=s) r
  unfold rsnsV
  cases rsn s e with
  | none=>simp
  | some j =>
   simp only [List.length_cons]
   exact⟨by omega,by rw [this.2];omega⟩
structure Pl(s:List (List Tm)):Prop where
 ln:s.length=2
 tm:∀p∈s,∀t∈p,tmW t
 lp:∀p∈s,p.length<lenB
theorem twoV_pl{s:List (List Tm)}(h:twoV s=true)(hm:∀r∈s,r.length<lenB):Pl s:=⟨(twoV_len h).2,sysV_tm (twoV_len h).1,hm⟩
theorem Pl.sd{s:List (List Tm)}(h:Pl s){e:Ed}(he:EdOk e):Sd s (sidesE e):=Sd.edge h.tm h.lp he
theorem imReasons_loop{s:List (List Tm)}(hs:Pl s){es:List Ed}(he:∀e∈es,EdOk e)(hl:es.length≤1000):∀(r d:List Ed) (acc:List Int),d++r=es→acc.length=d.length →
  Evt (fun k n=>spec_imReasons_L58 k n s acc es (es.length:Int) d.length) (if (rsnsV s r).2 then .inr (acc++(rsnsV s r).1,())else .inl (acc++(rsnsV s r).1))
 | [],d,acc,hd,_=>by
  rw [List.append_nil]at hd
  subst hd
  refine Evt.step (fun k n=>spec_imReasons_L58.eq_2 k _ _ _ _ _ n) (Evt.rng0 ?_)
  simp only [rsnsV,if_true,List.append_nil]
  exact .pure
 | e::r,d,acc,hd,ha=>by
  have ge:=he e (by rw [←hd];simp)
  have hdl:=congrArg List.length hd
  simp only [List.length_append,List.length_cons]at hdl
  refine Evt.step (fun k n=>spec_imReasons_L58.eq_2 k _ _ _ _ _ n) ?_
  rw [←hd]
  refine Evt.ctrue mid_lt (Evt.ctrue mid_ge (Evt.ctrue mid_lt ?_))
  rw [mid_get,len_next (by rw [hd];simp only [lenB];omega)]
  have hre:=imReason_ev2 (hs.sd ge) hs.ln
  refine Evt.bind (imSides_ev ge) ?_
  unfold rsnsV
  cases hj:rsn s e with
  | none =>
   rw [hj]at hre
   refine Evt.bind hre (Evt.ctrue rfl ?_)
   simp only [Bool.false_eq_true,if_false,List.append_nil]
   exact .pure
  | some j =>
   rw [hj]at hre
   refine Evt.bind hre (Evt.cfalse rfl (Evt.ctrue (decide_eq_true (by simp only [List.length_cons,List.length_nil];omega)) ?_))
   have ih:=imReasons_loop hs he hl r (d ++ [e]) (acc ++ [(j:Int)]) (by simpa using hd) (by simp [ha])
   rw [←hd]at ih
   simp only [List.append_assoc,List.singleton_append]at ih ⊢
   exact ih
theorem boundaryReasons_loop{s:List (List Tm)}(hs:Pl s){es:List Ed}(he:∀e∈es,EdOk e)(hl:es.length≤1000):∀(r d:List Ed) (acc:List Int),d++r=es→acc.length=d.length →
  Evt (fun k n=>impl_boundaryReasons_L58 k n s acc es (es.length:Int) d.length) (if (rsnsV s r).2 then .inr (acc++(rsnsV s r).1,())else .inl ([],false))
 | [],d,acc,hd,_=>by
  rw [List.append_nil]at hd
  subst hd
  refine Evt.step (fun k n=>impl_boundaryReasons_L58.eq_2 k _ _ _ _ _ n) (Evt.rng0 ?_)
  simp only [rsnsV,if_true,List.append_nil]
  exact .pure
 | e::r,d,acc,hd,ha=>by
  have ge:=he e (by rw [←hd];simp)
  have hdl:=congrArg List.length hd
  simp only [List.length_append,List.length_cons]at hdl
  refine Evt.step (fun k n=>impl_boundaryReasons_L58.eq_2 k _ _ _ _ _ n) ?_
  rw [←hd]
  refine Evt.ctrue mid_lt (Evt.ctrue mid_ge (Evt.ctrue mid_lt ?_))
  rw [mid_get,len_next (by rw [hd];simp only [lenB];omega)]
  have hre:=edgeReason_ev (hs.sd ge) ge hs.ln
  unfold rsnsV
  cases hj:rsn s e with
  | none =>
   rw [hj]at hre
   refine Evt.bind hre (Evt.ctrue rfl ?_)
   simp only [Bool.false_eq_true,if_false]
   exact .pure
  | some j =>
   rw [hj]at hre
   refine Evt.bind hre (Evt.cfalse (decide_eq_false (show ¬ ((j:Int)<0)by omega)) (Evt.ctrue (decide_eq_true (by simp only [List.length_cons,List.length_nil];omega)) ?_))
   have ih:=boundaryReasons_loop hs he hl r (d ++ [e]) (acc ++ [(j:Int)]) (by simpa using hd) (by simp [ha])
   rw [←hd]at ih
   simp only [List.append_assoc,List.singleton_append]at ih ⊢
   exact ih
def allV(s:List (List Tm))(b:Bx)(D:Nat):List Int×Bool:=if (rsnsV s (edgesB b D)).2 then((rsnsV s (edgesB b D)).1,true)else([],false)
theorem pow2N5{D:Nat}(h:D≤5):1≤2 ^ D∧2 ^ D≤32:=by
 have:=pow5 h
 have e:((2 ^ D:Nat):Int)=2 ^ D:=by simp
 omega
theorem imReasons_ev{s:List (List Tm)}{b:Bx}{D:Nat}(hs:Pl s)(hb:plV b=true)(hD:D≤5):Evt (fun k _=>spec_imReasons k s b D) (rsnsV s (edgesB b D)).1:=by
 refine Evt.eq (f:=fun k q=>_) ?_ (fun k q=>by rw [spec_imReasons])
 have hp:=pow2N5 hD
 refine Evt.bind (imEdgesB_ev hb hD) ?_
 have h:=imReasons_loop hs (es:=edgesB b D) edgesB_ok (by rw [edgesB_len];omega) (edgesB b D) [] [] rfl rfl
 simp only [List.length_nil,List.nil_append]at h
 cases hf:(rsnsV s (edgesB b D)).2 with
 | true=>rw [hf,if_pos rfl]at h;exact Evt.inr (Evt.diag h) .pure
 | false=>rw [hf,if_neg (by simp)]at h;exact Evt.inl (Evt.diag h) .pure
theorem imAll_ev{s:List (List Tm)}{b:Bx}{D:Nat}(hs:Pl s)(hb:plV b=true)(hD:D≤5):Evt (fun k _=>spec_imAll k s b D) (allV s b D):=by
 refine Evt.eq (f:=fun k q=>_) ?_ (fun k q=>by rw [spec_imAll])
 have hp:=pow2N5 hD
 refine Evt.bind (imReasons_ev hs hb hD) (Evt.bind (.const (dyPower_eq (m:=D) (by omega))) ?_)
 have hl:=rsnsV_len (s:=s) (edgesB b D)
 rw [edgesB_len]at hl
 rw [w64 (by omega) (by omega)]
 unfold allV
 cases hf:(rsnsV s (edgesB b D)).2 with
 | true =>
  rw [if_pos rfl]
  have:=hl.2.1 hf
  exact Evt.cfalse (decide_eq_false (by omega)) .pure
 | false =>
  rw [if_neg (by simp)]
  have : ¬ (rsnsV s (edgesB b D)).1.length=4*2 ^ D:=fun h=>by rw [hl.2.2 h]at hf;cases hf
  exact Evt.ctrue (decide_eq_true (by omega)) .pure
theorem boundaryReasons_ev{s:List (List Tm)}{b:Bx}{D:Nat}(hs:Pl s)(hb:plV b=true)(hD:D≤5):Evt (fun k _=>impl_boundaryReasons k s b D) (allV s b D):=by
 refine Evt.eq (f:=fun k q=>_) ?_ (fun k q=>by rw [impl_boundaryReasons])
 have hp:=pow2N5 hD
 refine Evt.bind (boundaryEdgesB_ev hb hD) ?_
 have h:=boundaryReasons_loop hs (es:=edgesB b D) edgesB_ok (by rw [edgesB_len];omega) (edgesB b D) [] [] rfl rfl
 simp only [List.length_nil,List.nil_append]at h
 unfold allV
 cases hf:(rsnsV s (edgesB b D)).2 with
 | true=>rw [hf,if_pos rfl]at h;exact Evt.inr (Evt.diag h) .pure
 | false=>rw [hf,if_neg (by simp)]at h;exact Evt.inl (Evt.diag h) .pure
theorem allV_len{s:List (List Tm)}{b:Bx}{D:Nat}(hD:D≤5):(allV s b D).1.length≤128∧((allV s b D).2=true→0<(allV s b D).1.length):=by
 have hp:=pow2N5 hD
 have hl:=rsnsV_len (s:=s) (edgesB b D)
 rw [edgesB_len]at hl
 unfold allV
 split
 ·rename_i hf
  have:=hl.2.1 hf
  simp only
  exact⟨by omega,fun _=>by omega⟩
 ·simp
def askV(s:List (List Tm))(b:Bx)(d:Int):Bool:=planeV s b&&decide (0≤d∧d≤5)
theorem imAsked_ev{m:List (List Tm)}{b:Bx}{d:Int}(hb:m.length<lenB)(hm:∀r∈m,r.length<lenB)(hx:b.2.1.length<lenB):Evt (fun k _=>spec_imAsked k m b d) (askV m b d):=by
 refine Evt.eq (f:=fun k q=>_) ?_ (fun k q=>by rw [spec_imAsked])
 refine Evt.bind (imGood_ev hb hm hx) ?_
 unfold askV
 cases planeV m b with
 | false=>exact Evt.cfalse rfl .pure
 | true =>
  refine Evt.ctrue rfl (Evt.bind (.const (?_:spec_imDepth d=some (decide (0≤d∧d≤5)))) .pure)
  unfold spec_imDepth
  rw [l1In_eq];rfl
end Go.Ev.G

namespace Go.Ev.G
open Go Go.Ev
set_option maxRecDepth 100000

theorem spec_ask{V:Type}{s:List (List Tm)}{b:Bx}{d:Int}{z:V}{g:Nat→Option V}{v:V}(hb:s.length<lenB)(hm:∀r∈s,r.length<lenB)(hx:b.2.1.length<lenB)(hz:askV s b d=false→v=z)(hg:askV s b d=true→Evt (fun k _=>g k) v) :
  Evt (fun k _=>(Option.bind (spec_imAsked k s b d) fun r1=>(bif (!r1)then some z else g k))) v:=by
 refine Evt.bind (imAsked_ev hb hm hx) ?_
 cases hp:askV s b d with
 | false=>rw [hz hp];exact Evt.ctrue rfl .pure
 | true=>exact Evt.cfalse rfl (hg hp)

def ldV(s:List (List Tm))(b:Bx):Int×Bool:=if planeV s b then(match (List.range 6).find? (fun D=>(allV s b D).2)with | some j=>((j:Int),true) | none=>(0,false))else(0,false)
theorem planeV_form{s:List (List Tm)}{b:Bx}(h:planeV s b=true)(hm:∀r∈s,r.length<lenB):Pl s∧plV b=true:=by
 unfold planeV at h
 rw [Bool.and_eq_true]at h
 exact⟨twoV_pl h.1 hm,h.2⟩
theorem spec_leastDepth_ev{s:List (List Tm)}{b:Bx}(hb:s.length<lenB)(hm:∀r∈s,r.length<lenB)(hx:b.2.1.length<lenB):Evt (fun k _=>spec_LeastDepth k s b) (ldV s b):=by
 refine Evt.eq (f:=fun k q=>_) ?_ (fun k q=>by rw [spec_LeastDepth])
 refine Evt.bind (imGood_ev hb hm hx) ?_
 unfold ldV
 cases h:planeV s b with
 | false=>exact Evt.ctrue rfl .pure
 | true =>
  obtain⟨hs,hp⟩:=planeV_form h hm
  have:=find_loop (L:=fun k n i=>spec_LeastDepth_L58 k n s b i) (p:=fun k i=>Option.bind (spec_imAll k s b i) fun r=>some r.2) (out:=fun j=>((j:Int),true)) (N:=6) (P:=fun D=>(allV s b D).2) (by omega) (fun j hj=>Evt.bind (imAll_ev hs hp (by omega)) .pure)
   (fun k n i hi=>by rw [spec_LeastDepth_L58.eq_2,decide_eq_true (by omega)];cases spec_imAll k s b i <;> rfl) (fun k n=>by rw [spec_LeastDepth_L58.eq_2];rfl)
  refine Evt.cfalse rfl ?_
  rw [if_pos rfl]
  cases hf:(List.range 6).find? (fun D=>(allV s b D).2)with
  | none=>rw [hf]at this;exact Evt.inr (Evt.diag this) .pure
  | some j=>rw [hf]at this;exact Evt.inl (Evt.diag this) .pure
theorem leastDepth_ev{s:List (List Tm)}{b:Bx}(hs:Pl s)(hp:plV b=true):Evt (fun k _=>impl_leastDepth k s b) (match (List.range 6).find? (fun D=>(allV s b D).2)with | some j=>((j:Int),true) | none=>(0,false)):=by
 refine Evt.eq (f:=fun k q=>_) ?_ (fun k q=>by rw [impl_leastDepth])
 have:=find_loop (L:=fun k n i=>impl_leastDepth_L26 k n s b i) (p:=fun k i=>Option.bind (impl_boundaryReasons k s b i) fun r=>some r.2) (out:=fun j=>((j:Int),true)) (N:=6) (P:=fun D=>(allV s b D).2) (by omega) (fun j hj=>Evt.bind (boundaryReasons_ev hs hp (by omega)) .pure)
  (fun k n i hi=>by rw [impl_leastDepth_L26.eq_2,decide_eq_true (by omega)];cases impl_boundaryReasons k s b i <;> rfl) (fun k n=>by rw [impl_leastDepth_L26.eq_2];rfl)
 cases hf:(List.range 6).find? (fun D=>(allV s b D).2)with
 | none=>rw [hf]at this;exact Evt.inr (Evt.diag this) .pure
 | some j=>rw [hf]at this;exact Evt.inl (Evt.diag this) .pure
theorem winding_val(s:List (List Tm))(b:Bx){D:Nat}(hD:D≤5):∃v:Int×Bool,(Pl s→plV b=true→Evt (fun k _=>impl_windingOf k s b D) v) ∧
  (Pl s→plV b=true→Evt (fun k _=>(Option.bind (spec_imAll k s b D) fun r2=>(bif (!r2.2)then some (0,false)else(Option.bind (spec_imTurns k r2.1) fun r3=>(bif (!r3.2)then some (0,false)else some (r3.1,true)))))) v):=by
 have hl:=allV_len (s:=s) (b:=b) hD
 cases hf:(allV s b D).2 with
 | false =>
  refine⟨(0,false),fun hs hp => ?_,fun hs hp => ?_⟩
  ·refine Evt.eq (f:=fun k q=>_) ?_ (fun k q=>by rw [impl_windingOf])
   exact Evt.bind (boundaryReasons_ev hs hp hD) (Evt.ctrue (by rw [hf];rfl) .pure)
  ·exact Evt.bind (imAll_ev hs hp hD) (Evt.ctrue (by rw [hf];rfl) .pure)
 | true =>
  obtain⟨v,f,h1,h2⟩:=turns2_ev (hl.2 hf) hl.1
  refine⟨(if f then v else 0,f),fun hs hp => ?_,fun hs hp => ?_⟩
  ·refine Evt.eq (f:=fun k q=>_) ?_ (fun k q=>by rw [impl_windingOf])
   exact Evt.bind (boundaryReasons_ev hs hp hD) (Evt.cfalse (by rw [hf];rfl) (Evt.bind h2 .pure))
  ·refine Evt.bind (imAll_ev hs hp hD) (Evt.cfalse (by rw [hf];rfl) (Evt.bind h1 ?_))
   cases f with
   | true=>exact Evt.cfalse rfl .pure
   | false=>exact Evt.ctrue rfl .pure
end Go.Ev.G

namespace Go.Ev.G
open Go Go.Ev

theorem dgo_val(s:List (List Tm))(b:Bx)(h:planeV s b=true):∃v:Int×Bool,(Pl s→plV b=true→Evt (fun k _=>impl_degreeOver k s b) v)∧(s.length<lenB→(∀r∈s,r.length<lenB)→b.2.1.length<lenB→Evt (fun k _=>spec_dgPlane k s b) v):=by
 cases hf:(List.range 6).find? (fun D=>(allV s b D).2)with
 | none =>
  refine⟨(0,false),fun hs hp => ?_,fun hb hm hx => ?_⟩
  ·refine Evt.eq (f:=fun k q=>_) ?_ (fun k q=>by rw [impl_degreeOver])
   have:=leastDepth_ev hs hp
   rw [hf]at this
   exact Evt.bind this (Evt.ctrue rfl .pure)
  ·refine Evt.eq (f:=fun k q=>_) ?_ (fun k q=>by rw [spec_dgPlane])
   have:=spec_leastDepth_ev hb hm hx
   unfold ldV at this
   rw [if_pos h,hf]at this
   exact Evt.bind this (Evt.ctrue rfl .pure)
 | some j =>
  have hj:j≤5:=by
   have:=List.mem_range.1 (List.mem_of_find?_eq_some hf)
   omega
  obtain⟨v,h1,h2⟩:=winding_val s b hj
  refine⟨v,fun hs hp => ?_,fun hb hm hx => ?_⟩
  ·refine Evt.eq (f:=fun k q=>_) ?_ (fun k q=>by rw [impl_degreeOver])
   have:=leastDepth_ev hs hp
   rw [hf]at this
   exact Evt.bind this (Evt.cfalse rfl (Evt.bind (h1 hs hp) .pure))
  ·refine Evt.eq (f:=fun k q=>_) ?_ (fun k q=>by rw [spec_dgPlane])
   have:=spec_leastDepth_ev hb hm hx
   unfold ldV at this
   rw [if_pos h,hf]at this
   refine Evt.bind this (Evt.cfalse rfl (Evt.bind ?_ .pure))
   refine Evt.eq (f:=fun k q=>_) ?_ (fun k q=>by rw [spec_WindingOf])
   have ha:askV s b (j:Int)=true:=by
    unfold askV
    rw [h,decide_eq_true (by omega)]
    rfl
   refine spec_ask hb hm hx (fun h'=>by rw [ha]at h'; cases h') (fun _ => ?_)
   obtain⟨hs,hp⟩:=planeV_form h hm
   exact h2 hs hp
end Go.Ev.G

namespace Go.Ev.G
open Go Go.Ev
set_option maxRecDepth 100000

theorem two_set{d d' r:List Int}{e v:Int}(hl:d.length=d'.length):(d'++e::r).set (Int.toNat (d.length:Int)) v=d'++v::r:=by rw [hl];exact mid_set
theorem own_eq{l:List Int}(h:l.length<1000):spec_l1Own l=some l:=by
 unfold spec_l1Own
 rw [show decide (([]:List Int).length+l.length<274877906944)=true from decide_eq_true (by simp;omega)]
 rfl
theorem cloneZ_eq{l:List Int}(h:l.length<1000):slices_Clone_int_int l=some l:=by
 unfold slices_Clone_int_int
 rw [show decide (([]:List Int).length+l.length<274877906944)=true from decide_eq_true (by simp;omega)]
 rfl
theorem cons_len{r':List Int}{n:Nat}(h:n+1=r'.length):∃x y,r'=x::y:=by
 cases r' with
 | nil=>simp at h
 | cons x y=>exact⟨x,y,rfl⟩
theorem bxEven_ev{K:Int}{los his:List Int}(hl:los.length=his.length)(hb:los.length<1000):Evt (fun k _=>spec_bxEven k (K,los,his)) (!(los.zip his).any sideOdd):=by
 refine Evt.eq (f:=fun k q=>_) ?_ (fun k q=>by rw [spec_bxEven])
 have key:∀(r r' d d':List Int),d++r=los→d'++r'=his→d.length=d'.length→r.length=r'.length →
   Evt (fun k n=>spec_bxEven_L26 k n (K,los,his) los (los.length:Int) d.length) (if (r.zip r').any sideOdd then .inl false else .inr ()):=by
  intro r
  induction r with
  | nil =>
   intro r' d d' h h' _ _
   refine Evt.step (fun k n=>spec_bxEven_L26.eq_2 k _ _ _ _ n) ?_
   rw [List.append_nil]at h
   subst h
   simp only [List.zip_nil_left,List.any_nil]
   exact Evt.rng0 .pure
  | cons e r ih =>
   intro r' d d' h h' hd hr
   obtain⟨e',r',rfl⟩:=cons_len hr
   refine Evt.step (fun k n=>spec_bxEven_L26.eq_2 k _ _ _ _ n) ?_
   have ih:=ih r' (d ++ [e]) (d' ++ [e']) (by simpa using h) (by simpa using h') (by simp [hd]) (by simpa using hr)
   rw [←len_next (r:=r) (by rw [h];simp only [lenB];omega)]at ih
   subst h
   subst h'
   simp only
   refine Evt.ctrue mid_lt (Evt.ctrue mid_ge (Evt.ctrue mid_lt ?_))
   rw [mid_get]
   simp only [List.zip_cons_cons,List.any_cons]
   cases h4:(Int.tmod e 2 != 0)with
   | true=>refine Evt.ctrue rfl ?_;simp only [sideOdd,h4,Bool.true_or,if_true];exact .pure
   | false =>
    refine Evt.cfalse rfl (Evt.ctrue mid_ge (Evt.ctrue (two_lt (r:=r) hd) ?_))
    rw [two_get hd]
    cases h5:(Int.tmod e' 2 != 0)with
    | true=>refine Evt.ctrue rfl ?_;simp only [sideOdd,h4,h5,Bool.false_or,Bool.true_or,if_true];exact .pure
    | false=>refine Evt.cfalse rfl ?_;simp only [sideOdd,h4,h5,Bool.false_or];exact ih
 have h0:=key los his [] [] rfl rfl rfl hl
 cases hv:(los.zip his).any sideOdd with
 | true=>rw [hv]at h0;exact Evt.inl (Evt.diag h0) .pure
 | false=>rw [hv]at h0;exact Evt.inr (Evt.diag h0) .pure

def hf(x:Int):Int:=IntKind.wrap .i64 (Int.tdiv x 2)
theorem halve_loop{z:Bx}{K:Int}{n:Nat}(hn:n<1000):∀(r r' d d':List Int),d.length+r.length=n→d.length=d'.length→r.length=r'.length →
  Evt (fun k q=>spec_bxMake_L1814 k q z (K,d++r,d'++r') (n:Int) (d.length:Int)) (.inr (z,(K,d++r.map hf,d'++r'.map hf),()))
 | [],r',d,d',h,hd,hr=>by
  have:r' = []:=List.eq_nil_of_length_eq_zero (by simpa using hr.symm)
  subst this
  refine Evt.step (fun k q=>spec_bxMake_L1814.eq_2 k _ _ _ _ q) (Evt.cfalse (decide_eq_false (by simp at h;omega)) ?_)
  exact .pure
 | e::r,r',d,d',h,hd,hr=>by
  obtain⟨e',r',rfl⟩:=cons_len hr
  refine Evt.step (fun k q=>spec_bxMake_L1814.eq_2 k _ _ _ _ q) (Evt.ctrue (decide_eq_true (by simp at h;omega)) ?_)
  simp only
  refine Evt.ctrue mid_ge (Evt.ctrue mid_lt (Evt.ctrue mid_ge (Evt.ctrue mid_lt (Evt.ctrue mid_ge (Evt.ctrue (two_lt (r:=r) hd) (Evt.ctrue mid_ge (Evt.ctrue (two_lt (r:=r) hd) ?_)))))))
  rw [mid_get,mid_set,two_get hd,two_set hd,len_next (d:=d) (e:=e) (r:=r) (by simp only [lenB];simp at h ⊢; omega)]
  have:=halve_loop (z:=z) (K:=K) hn r r' (d ++ [hf e]) (d' ++ [hf e']) (by simp at h ⊢; omega) (by simp [hd]) (by simpa using hr)
  simpa [hf] using this

def rdN:Nat→List Int→List Int→Bx
 | 0,lo,hi=>(0,lo,hi)
 | j+1,lo,hi=>if (lo.zip hi).any sideOdd then(((j+1:Nat):Int),lo,hi)else rdN j (lo.map hf) (hi.map hf)
theorem rdN_len:∀(j:Nat) (lo hi:List Int),(rdN j lo hi).2.1.length=lo.length∧(rdN j lo hi).2.2.length=hi.length
 | 0,lo,hi=>⟨rfl,rfl⟩
 | j+1,lo,hi=>by
  unfold rdN
  split
  ·exact⟨rfl,rfl⟩
  ·have:=rdN_len j (lo.map hf) (hi.map hf)
   simpa using this
theorem make_loop{z:Bx}:∀(j:Nat) (lo hi:List Int),lo.length=hi.length→lo.length<1000→j<1000→Evt (fun k q=>spec_bxMake_L28 k q z ((j:Int),lo,hi)) (.inr (z,rdN j lo hi,()))
 | 0,lo,hi,hl,hb,hj=>Evt.step (fun k q=>spec_bxMake_L28.eq_2 k _ _ q) (Evt.cfalse (by simp) .pure)
 | j+1,lo,hi,hl,hb,hj=>by
  refine Evt.step (fun k q=>spec_bxMake_L28.eq_2 k _ _ q) (Evt.ctrue (decide_eq_true (by simp only;omega)) (Evt.bind (bxEven_ev hl hb) ?_))
  unfold rdN
  cases hv:(lo.zip hi).any sideOdd with
  | true=>exact Evt.cfalse rfl .pure
  | false =>
   refine Evt.ctrue rfl ?_
   have h0:=halve_loop (z:=z) (K:=(j:Int)) hb lo hi [] [] (by simp) rfl hl
   have hw:IntKind.wrap .i64 (((j+1:Nat):Int) - 1)=(j:Int):=by rw [w64] <;> omega
   rw [hw]
   exact Evt.inr (Evt.diag h0) (make_loop j (lo.map hf) (hi.map hf) (by simpa using hl) (by simpa using hb) (by omega))

def mkV(K:Nat)(lo hi:List Int):Bx×Bool:=if bxV (rdN K lo hi)then(rdN K lo hi,true)else((0,[],[]),false)
theorem bxMake_ev{K:Nat}{lo hi:List Int}(hl:lo.length=hi.length)(hb:lo.length<1000)(hK:K<1000):Evt (fun k _=>spec_bxMake k K lo hi) (mkV K lo hi):=by
 refine Evt.eq (f:=fun k q=>_) ?_ (fun k q=>by rw [spec_bxMake])
 refine Evt.bind (.const (own_eq hb)) (Evt.bind (.const (own_eq (by omega))) ?_)
 refine Evt.inr (Evt.diag (make_loop K lo hi hl hb hK)) ?_
 simp only
 refine Evt.bind (bxGood_ev (by rw [(rdN_len K lo hi).1];simp only [lenB];omega)) ?_
 unfold mkV
 cases bxV (rdN K lo hi)with
 | true=>exact Evt.cfalse rfl .pure
 | false=>exact Evt.ctrue rfl .pure

def db(x:Int):Int:=IntKind.wrap .i64 (2*x)
theorem bxFine_ev{K:Int}{los his:List Int}(hl:los.length=his.length)(hb:los.length<1000):Evt (fun k _=>spec_bxFine k (K,los,his)) (los.map db,his.map db):=by
 refine Evt.eq (f:=fun k q=>_) ?_ (fun k q=>by rw [spec_bxFine])
 have key:∀(r r' d d':List Int),d++r=los→d'++r'=his→d.length=d'.length→r.length=r'.length →
   Evt (fun k n=>spec_bxFine_L58 k n (K,los,his) (d.map db) (d'.map db) los (los.length:Int) d.length) (.inr (los.map db,his.map db,())):=by
  intro r
  induction r with
  | nil =>
   intro r' d d' h h' _ hr
   have:r' = []:=List.eq_nil_of_length_eq_zero (by simpa using hr.symm)
   subst this
   refine Evt.step (fun k n=>spec_bxFine_L58.eq_2 k _ _ _ _ _ _ n) ?_
   rw [List.append_nil]at h h'
   subst h
   subst h'
   exact Evt.rng0 .pure
  | cons e r ih =>
   intro r' d d' h h' hd hr
   obtain⟨e',r',rfl⟩:=cons_len hr
   refine Evt.step (fun k n=>spec_bxFine_L58.eq_2 k _ _ _ _ _ _ n) ?_
   have ih:=ih r' (d ++ [e]) (d' ++ [e']) (by simpa using h) (by simpa using h') (by simp [hd]) (by simpa using hr)
   have h1:=congrArg List.length h
   have h2:=congrArg List.length h'
   simp at h1 h2
   rw [←len_next (r:=r) (by rw [h];simp only [lenB];omega)]at ih
   subst h
   subst h'
   simp only
   refine Evt.ctrue mid_lt (Evt.ctrue mid_ge (Evt.ctrue mid_lt (Evt.ctrue (decide_eq_true (by simp;omega)) (Evt.ctrue mid_ge (Evt.ctrue (two_lt (r:=r) hd) (Evt.ctrue (decide_eq_true (by simp;omega)) ?_))))))
   rw [mid_get,two_get hd]
   simpa [db] using ih
 exact Evt.inr (Evt.diag (key los his [] [] rfl rfl rfl hl)) .pure
end Go.Ev.G

namespace Go.Ev.G
open Go Go.Ev
set_option maxRecDepth 100000

structure gB(n:Nat)(b:Bx):Prop where
 lo:b.2.1.length=n
 hi:b.2.2.length=n
 k0:0≤b.1
 k8:b.1≤8
 bd:∀x∈b.2.1,-2048≤x∧x≤2048
theorem mem_zip1{x:Int}:∀ {lo hi:List Int},lo.length=hi.length→x∈lo→∃y,(x,y)∈lo.zip hi
 | [],_,_,h=>by simp at h
 | a::lo,[],hl,h=>by simp at hl
 | a::lo,c::hi,hl,h=>by
  rcases List.mem_cons.1 h with rfl | h
  ·exact⟨c,by simp⟩
  ·obtain⟨y,hy⟩:=mem_zip1 (lo:=lo) (hi:=hi) (by simpa using hl) h
   exact⟨y,by simp [hy]⟩
theorem gB_of{b:Bx}{n:Nat}(h:bxV b=true)(hl:b.2.1.length=n):gB n b:=by
 obtain⟨K,lo,hi⟩:=b
 unfold bxV at h
 simp only [Bool.and_eq_true,decide_eq_true_eq]at h
 obtain⟨h1,h2,h3,h4,h5⟩:=h
 simp only at h1 h3 h4 hl
 have hp:=pow8 (n:=K.toNat) (by omega)
 refine⟨hl,by simp only;omega,h1.1,h1.2,fun x hx => ?_⟩
 obtain⟨y,hy⟩:=mem_zip1 h3.symm hx
 have:=List.all_eq_true.1 h4 _ hy
 unfold sideOk at this
 have:=of_decide_eq_true this
 simp only at this
 omega
theorem mkV_gB{K n:Nat}{lo hi:List Int}(h:(mkV K lo hi).2=true)(hl:lo.length=n):gB n (mkV K lo hi).1:=by
 unfold mkV at h ⊢
 split
 ·rename_i hb
  exact gB_of hb (by rw [(rdN_len K lo hi).1,hl])
 ·rename_i hb
  rw [if_neg hb]at h
  cases h

def hvV(b:Bx)(s:Nat):List Bx×Bool :=
 bif !(mkV (b.1.toNat+1) (b.2.1.map db) ((b.2.2.map db).set s (IntKind.wrap .i64 (b.2.1.getD s 0+b.2.2.getD s 0)))).2 then([],false)
 else bif !(mkV (b.1.toNat+1) ((b.2.1.map db).set s (IntKind.wrap .i64 (b.2.1.getD s 0+b.2.2.getD s 0))) (b.2.2.map db)).2 then([],false)
 else([(mkV (b.1.toNat+1) (b.2.1.map db) ((b.2.2.map db).set s (IntKind.wrap .i64 (b.2.1.getD s 0+b.2.2.getD s 0)))).1,(mkV (b.1.toNat+1) ((b.2.1.map db).set s (IntKind.wrap .i64 (b.2.1.getD s 0+b.2.2.getD s 0))) (b.2.2.map db)).1],true)
theorem hvV_form{b:Bx}{n:Nat}(hb:gB n b)(s:Nat):hvV b s=([],false)∨∃x y,hvV b s=([x,y],true)∧gB n x∧gB n y:=by
 unfold hvV
 generalize hX:mkV (b.1.toNat+1) (b.2.1.map db) ((b.2.2.map db).set s (IntKind.wrap .i64 (b.2.1.getD s 0+b.2.2.getD s 0)))=X
 generalize hY:mkV (b.1.toNat+1) ((b.2.1.map db).set s (IntKind.wrap .i64 (b.2.1.getD s 0+b.2.2.getD s 0))) (b.2.2.map db)=Y
 cases h1:X.2 with
 | false=>exact .inl rfl
 | true =>
  cases h2:Y.2 with
  | false=>exact .inl rfl
  | true =>
   refine .inr ⟨X.1,Y.1,rfl,?_,?_⟩
   ·rw [←hX]at h1 ⊢
    exact mkV_gB h1 (by simpa using hb.lo)
   ·rw [←hY]at h2 ⊢
    exact mkV_gB h2 (by simpa using hb.lo)
theorem bxHalves_ev{b:Bx}{n s:Nat}(hb:gB n b)(hs:s<n)(hn:n≤3):Evt (fun k _=>spec_bxHalves k b (s:Int)) (hvV b s):=by
 obtain⟨K,lo,hi⟩:=b
 have hlo:=hb.lo
 have hhi:=hb.hi
 have k0:=hb.k0
 have k8:=hb.k8
 simp only at hlo hhi k0 k8
 refine Evt.eq (f:=fun k q=>_) ?_ (fun k q=>by rw [spec_bxHalves])
 refine Evt.bind (bxFine_ev (by omega) (by omega)) ?_
 simp only
 refine Evt.ctrue mid_ge (Evt.ctrue (decide_eq_true (by omega)) (Evt.ctrue mid_ge (Evt.ctrue (decide_eq_true (by omega)) ?_)))
 refine Evt.bind (.const (own_eq (by simp;omega))) (Evt.bind (.const (own_eq (by simp;omega))) ?_)
 refine Evt.ctrue mid_ge (Evt.ctrue (decide_eq_true (by simp;omega)) (Evt.ctrue mid_ge (Evt.ctrue (decide_eq_true (by simp;omega)) ?_)))
 have hw:IntKind.wrap .i64 (K+1)=((K.toNat+1:Nat):Int):=by rw [w64] <;> omega
 rw [hw,Int.toNat_natCast]
 unfold hvV
 refine Evt.bind (bxMake_ev (by simp;omega) (by simp;omega) (by omega)) (Evt.bind (bxMake_ev (by simp;omega) (by simp;omega) (by omega)) ?_)
 simp only
 generalize mkV (K.toNat+1) (lo.map db) ((hi.map db).set s (IntKind.wrap .i64 (lo.getD s 0+hi.getD s 0)))=X
 generalize mkV (K.toNat+1) ((lo.map db).set s (IntKind.wrap .i64 (lo.getD s 0+hi.getD s 0))) (hi.map db)=Y
 cases X.2 with
 | false=>exact Evt.ctrue rfl .pure
 | true =>
  cases Y.2 with
  | false=>exact Evt.cfalse rfl (Evt.ctrue rfl .pure)
  | true=>exact Evt.cfalse rfl (Evt.cfalse rfl .pure)

def ptV:Nat→Bx→Nat→List Bx×Bool
 | 0,b,_=>([b],true)
 | j+1,b,s=>match hvV b s with
  | ([x,y],true)=>((ptV j x (s+1)).1++(ptV j y (s+1)).1,(ptV j x (s+1)).2&&(ptV j y (s+1)).2)
  | _=>([],false)
theorem ptV_ok{n:Nat}:∀(j s:Nat) (b:Bx),gB n b→(ptV j b s).1.length≤2 ^ j∧∀x∈(ptV j b s).1,gB n x
 | 0,s,b,h=>by
  refine⟨by simp [ptV],fun x hx => ?_⟩
  simp [ptV]at hx
  rw [hx];exact h
 | j+1,s,b,h=>by
  unfold ptV
  rcases hvV_form h s with e | ⟨x,y,e,hx,hy⟩
  ·rw [e];simp
  ·rw [e]
   have h1:=ptV_ok j (s+1) x hx
   have h2:=ptV_ok j (s+1) y hy
   simp only
   refine⟨by rw [List.length_append,Nat.pow_succ];omega,fun z hz => ?_⟩
   rcases List.mem_append.1 hz with hz | hz
   ·exact h1.2 z hz
   ·exact h2.2 z hz
theorem pow2_8{j:Nat}(h:j≤3):2 ^ j≤8:=by
 have:=Nat.pow_le_pow_right (n:=2) (by omega) h
 omega
theorem parts_two{n j s:Nat}{b:Bx}{rc:Nat→Nat→Bx→Int→Option (List Bx×Bool)}(hb:gB n b)(hn:n≤3)(hj:j+1+s=n)(hrc:∀x,gB n x→Evt (fun k m=>rc k m x ((s+1:Nat):Int)) (ptV j x (s+1))) :
  Evt (fun k m=>(Option.bind (spec_bxHalves k b (s:Int)) fun r1=>(bif (!r1.2)then some (([]:List (Int×(List Int)×List Int)),false)else(bif (decide (0<(r1.1.length:Int)))then(bif (Nat.beq 0 0)then(Option.bind (rc k m (r1.1.getD 0 (0,[],[])) (IntKind.wrap .i64 ((s:Int)+1))) fun r2=>(bif (decide (1<(r1.1.length:Int)))then(bif (Nat.beq 1 1)then(Option.bind (rc k m (r1.1.getD 1 (0,[],[])) (IntKind.wrap .i64 ((s:Int)+1))) fun r3=>(bif (decide (r2.1.length+r3.1.length<274877906944))then(bif r2.2 then some ((r2.1++r3.1),r3.2)else some ((r2.1++r3.1),false))else none))else none)else none))else none)else none)))) (ptV (j+1) b s):=by
 refine Evt.bind (bxHalves_ev hb (by omega) hn) ?_
 unfold ptV
 rcases hvV_form hb s with e | ⟨x,y,e,hx,hy⟩
 ·rw [e]
  exact Evt.ctrue rfl .pure
 ·rw [e,w64_next (m:=s) (by simp only [lenB];omega)]
  have h1:=(ptV_ok j (s+1) x hx).1
  have h2:=(ptV_ok j (s+1) y hy).1
  have h3:=pow2_8 (j:=j) (by omega)
  refine Evt.cfalse rfl (Evt.ctrue (by simp) (Evt.ctrue rfl (Evt.bind (hrc x hx) (Evt.ctrue (by simp) (Evt.ctrue rfl (Evt.bind (hrc y hy) (Evt.ctrue (decide_eq_true (by omega)) ?_)))))))
  by_cases hc:(ptV j x (s+1)).2=true
  ·refine Evt.ctrue hc ?_
   simp only [hc,Bool.true_and]
   exact .pure
  ·have hc:=Bool.eq_false_iff.2 hc
   refine Evt.cfalse hc ?_
   simp only [hc,Bool.false_and]
   exact .pure
theorem bxParts_R_ev{n:Nat}(hn:n≤3):∀(j s:Nat) (b:Bx),j+s=n→gB n b→Evt (fun k m=>spec_bxParts_R k m b (s:Int)) (ptV j b s)
 | 0,s,b,h,hb=>by
  refine Evt.step (fun k m=>spec_bxParts_R.eq_2 k _ _ m) (Evt.eq (f:=fun k q=>_) ?_ (fun k q=>by rw [spec_bxParts_B]))
  refine Evt.ctrue ?_ .pure
  rw [hb.lo,show s=n by omega]
  simp
 | j+1,s,b,h,hb=>by
  refine Evt.step (fun k m=>spec_bxParts_R.eq_2 k _ _ m) (Evt.eq (f:=fun k q=>_) ?_ (fun k q=>by rw [spec_bxParts_B]))
  refine Evt.cfalse ?_ (parts_two hb hn (by omega) (fun x hx=>bxParts_R_ev hn j (s+1) x (by omega) hx))
  rw [hb.lo,beq_eq_false_iff_ne]
  omega
theorem bxParts_ev{n j s:Nat}{b:Bx}(hn:n≤3)(h:j+s=n)(hb:gB n b):Evt (fun k _=>spec_bxParts k b (s:Int)) (ptV j b s) :=
 Evt.eq (Evt.diag (bxParts_R_ev hn j s b h hb)) (fun k q=>by rw [spec_bxParts])
theorem bxParts_s_ev{n:Nat}{b:Bx}(h1:1≤n)(hn:n≤3)(hb:gB n b):Evt (fun k _=>spec_bxParts_s k b 0) (ptV n b 0):=by
 obtain⟨j,rfl⟩:∃j,n=j+1:=⟨n - 1,by omega⟩
 refine Evt.eq (f:=fun k q=>_) ?_ (fun k q=>by rw [spec_bxParts_s])
 refine Evt.cfalse ?_ (parts_two (s:=0) (rc:=fun k _ x a=>spec_bxParts k x a) hb hn (by omega) (fun x hx=>bxParts_ev hn (by omega) hx))
 rw [hb.lo,beq_eq_false_iff_ne]
 omega

def allP(n:Nat):List Bx→List Bx×Bool
 | []=>([],true)
 | x::xs=>if (ptV n x 0).2 then(if (allP n xs).2 then((ptV n x 0).1++(allP n xs).1,true)else([],false))else([],false)
theorem allP_ok{n:Nat}(hn:n≤3):∀ {l:List Bx},(∀x∈l,gB n x)→(allP n l).1.length≤8*l.length∧∀x∈(allP n l).1,gB n x
 | [],_=>by simp [allP]
 | x::xs,h=>by
  have h1:=ptV_ok n 0 x (h x (by simp))
  have h2:=allP_ok hn (l:=xs) (fun y hy=>h y (by simp [hy]))
  have h3:=pow2_8 hn
  unfold allP
  split
  ·split
   ·refine⟨by simp;omega,fun y hy => ?_⟩
    rcases List.mem_append.1 hy with hy | hy
    ·exact h1.2 y hy
    ·exact h2.2 y hy
   ·simp
  ·simp
theorem allP_ev{n:Nat}{x1:Int}{l:List Bx}(h1:1≤n)(hn:n≤3)(hl:∀x∈l,gB n x)(hb:l.length≤1000):Evt (fun k _=>spec_PartsOf_L15434 k k x1 [] l (l.length:Int) 0) (if (allP n l).2 then .inr (x1,(allP n l).1,())else .inl ([],false)):=by
 have key:∀(r d:List Bx) (acc:List Bx),d++r=l→acc.length≤8*d.length→Evt (fun k q=>spec_PartsOf_L15434 k q x1 acc l (l.length:Int) d.length) (if (allP n r).2 then .inr (x1,acc++(allP n r).1,())else .inl ([],false)):=by
  intro r
  induction r with
  | nil =>
   intro d acc h ha
   rw [List.append_nil]at h
   refine Evt.step (fun k q=>spec_PartsOf_L15434.eq_2 k _ _ _ _ _ q) ?_
   rw [←h]
   simp only [allP,if_true,List.append_nil]
   exact Evt.rng0 .pure
  | cons e r ih =>
   intro d acc h ha
   have he:=hl e (by rw [←h];simp)
   have hlen:=congrArg List.length h
   simp at hlen
   have p1:=ptV_ok n 0 e he
   have p3:=pow2_8 hn
   refine Evt.step (fun k q=>spec_PartsOf_L15434.eq_2 k _ _ _ _ _ q) ?_
   have ih:=ih (d ++ [e]) (acc++(ptV n e 0).1) (by simpa using h) (by simp;omega)
   rw [←len_next (r:=r) (by rw [h];simp only [lenB];omega)]at ih
   rw [←h]
   refine Evt.ctrue mid_lt (Evt.ctrue mid_ge (Evt.ctrue mid_lt ?_))
   rw [mid_get]
   refine Evt.bind (bxParts_s_ev h1 hn he) ?_
   unfold allP
   cases hp:(ptV n e 0).2 with
   | false=>exact Evt.ctrue rfl .pure
   | true =>
    refine Evt.cfalse rfl (Evt.ctrue (decide_eq_true (by omega)) ?_)
    rw [h]
    simp only [if_true]
    cases hq:(allP n r).2 with
    | false=>rw [hq]at ih;simpa [hq] using ih
    | true=>rw [hq]at ih;simpa [hq] using ih
 exact Evt.diag (by simpa using key l [] [] rfl (by simp))

def itP(n:Nat):Nat→List Bx→List Bx×Bool
 | 0,l=>(l,true)
 | t+1,l=>if (allP n l).2 then itP n t (allP n l).1 else([],false)
theorem itP_ok{n:Nat}(hn:n≤3):∀ {t:Nat} {l:List Bx},(∀x∈l,gB n x)→(itP n t l).1.length≤8 ^ t*l.length∧∀x∈(itP n t l).1,gB n x
 | 0,l,h=>by simpa [itP] using h
 | t+1,l,h=>by
  unfold itP
  split
  ·have h1:=allP_ok hn h
   have h2:=itP_ok hn (t:=t) h1.2
   refine⟨?_,h2.2⟩
   refine Nat.le_trans h2.1 ?_
   rw [Nat.pow_succ,Nat.mul_assoc]
   exact Nat.mul_le_mul_left _ h1.1
  ·simp
theorem itP_ev{n:Nat}(h1:1≤n)(hn:n≤3):∀(t:Nat) (l:List Bx),t≤2→(∀x∈l,gB n x)→8 ^ t*l.length≤1000→Evt (fun k q=>spec_PartsOf_L60 k q (t:Int) l) (if (itP n t l).2 then .inr ((itP n t l).1,())else .inl ([],false))
 | 0,l,_,hl,hb=>Evt.step (fun k q=>spec_PartsOf_L60.eq_2 k _ _ q) (Evt.cfalse (by simp) (by simpa [itP] using .pure))
 | t+1,l,ht,hl,hb=>by
  refine Evt.step (fun k q=>spec_PartsOf_L60.eq_2 k _ _ q) (Evt.ctrue (decide_eq_true (by omega)) ?_)
  have p1:=allP_ok hn hl
  have hp:1≤8 ^ t:=Nat.pow_pos (by omega)
  have hll:8*l.length≤8 ^ (t+1)*l.length:=by
   rw [Nat.pow_succ,Nat.mul_assoc]
   exact Nat.le_mul_of_pos_left _ hp
  have h0:=allP_ev (x1:=((t+1:Nat):Int)) h1 hn hl (by omega)
  have hw:IntKind.wrap .i64 (((t+1:Nat):Int) - 1)=(t:Int):=by rw [w64] <;> omega
  unfold itP
  cases hq:(allP n l).2 with
  | false =>
   rw [hq]at h0
   exact Evt.inl h0 (by simpa using .pure)
  | true =>
   rw [hq]at h0
   refine Evt.inr h0 ?_
   simp only [hw,if_true]
   refine itP_ev h1 hn t _ (by omega) p1.2 (Nat.le_trans (Nat.mul_le_mul_left _ p1.1) ?_)
   rw [←Nat.mul_assoc,←Nat.pow_succ]
   exact hb
end Go.Ev.G

namespace Go.Ev.G
open Go Go.Ev
set_option maxRecDepth 100000

def cmB(K K':Nat)(x y:Int):Int:=cmpI (sv (mkD x K).1) (sv (mkD y K').1)
def befO(K K':Nat):List Int→List Int→Option Bool
 | x::xs,y::ys=>if cmB K K' x y != 0 then some (decide (cmB K K' x y<0))else befO K K' xs ys
 | _,_=>none
def befV(x y:Bx):Bool:=(befO x.1.toNat y.1.toNat x.2.1 y.2.1).getD false
theorem bxNum_ev{x:Int}{m:Nat}(hx : -2048≤x∧x≤2048)(hm:m≤8):Evt (fun k _=>spec_bxNumber k x (m:Int)) (mkD x m).1:=by
 refine Evt.eq (f:=fun k q=>_) ?_ (fun k q=>by rw [spec_bxNumber])
 exact Evt.bind (dyMake_ev (n:=x) (m:=m) (by omega) (by omega) (by omega)) .pure
theorem bxBefore_ev{n:Nat}{x y:Bx}(hx:gB n x)(hy:gB n y)(hn:n≤3):Evt (fun k _=>spec_bxBefore k x y) (befV x y):=by
 obtain⟨K,lo,hi⟩:=x
 obtain⟨K',lo',hi'⟩:=y
 have k0:=hx.k0
 have k8:=hx.k8
 have k0':=hy.k0
 have k8':=hy.k8
 have hlo:=hx.lo
 have hlo':=hy.lo
 have hb:=hx.bd
 have hb':=hy.bd
 simp only at k0 k8 k0' k8' hlo hlo' hb hb'
 obtain⟨m,rfl⟩:∃m:Nat,K=m:=⟨K.toNat,by omega⟩
 obtain⟨m',rfl⟩:∃m:Nat,K'=m:=⟨K'.toNat,by omega⟩
 refine Evt.eq (f:=fun k q=>_) ?_ (fun k q=>by rw [spec_bxBefore])
 have key:∀(r r' d d':List Int),d++r=lo→d'++r'=lo'→d.length=d'.length→r.length=r'.length →
   Evt (fun k q=>spec_bxBefore_L26 k q ((m:Int),lo,hi) ((m':Int),lo',hi') lo (lo.length:Int) d.length) (match befO m m' r r' with | some b => .inl b | none => .inr ()):=by
  intro r
  induction r with
  | nil =>
   intro r' d d' h h' _ _
   refine Evt.step (fun k q=>spec_bxBefore_L26.eq_2 k _ _ _ _ _ q) ?_
   rw [List.append_nil]at h
   rw [←h]
   simp only [befO]
   exact Evt.rng0 .pure
  | cons e r ih =>
   intro r' d d' h h' hd hr
   obtain⟨e',r',rfl⟩:=cons_len hr
   have be:=hb e (by rw [←h];simp)
   have be':=hb' e' (by rw [←h'];simp)
   refine Evt.step (fun k q=>spec_bxBefore_L26.eq_2 k _ _ _ _ _ q) ?_
   have ih:=ih r' (d ++ [e]) (d' ++ [e']) (by simpa using h) (by simpa using h') (by simp [hd]) (by simpa using hr)
   rw [←len_next (r:=r) (by rw [h];simp only [lenB];omega)]at ih
   rw [←h,←h']at ih ⊢
   simp only
   refine Evt.ctrue mid_lt (Evt.ctrue mid_ge (Evt.ctrue mid_lt ?_))
   rw [mid_get]
   refine Evt.bind (bxNum_ev (by omega) (by omega)) (Evt.ctrue mid_ge (Evt.ctrue (two_lt (r:=r) hd) ?_))
   rw [two_get hd]
   refine Evt.bind (bxNum_ev (by omega) (by omega)) (Evt.bind (dyCmp_ev (mkD_gd _ _) (mkD_gd _ _)) ?_)
   unfold befO
   have hcm:cmpI (sv (mkD e m).1) (sv (mkD e' m').1)=cmB m m' e e':=rfl
   rw [hcm]
   cases hc:(cmB m m' e e' != 0)with
   | true=>exact Evt.ctrue rfl (by simpa using .pure)
   | false=>exact Evt.cfalse rfl (by simpa using ih)
 have h0:=key lo lo' [] [] rfl rfl rfl (by omega)
 unfold befV
 simp only [Int.toNat_natCast]
 cases hv:befO m m' lo lo' with
 | some b=>rw [hv]at h0;exact Evt.inl (Evt.diag h0) .pure
 | none=>rw [hv]at h0;exact Evt.inr (Evt.diag h0) .pure

def psV(x:Bx)(out:List Bx):Nat→Nat
 | 0=>0
 | j+1=>if befV x (out.getD j (0,[],[]))then psV x out j else j+1
theorem psV_le{x:Bx}{out:List Bx}:∀ {j:Nat},psV x out j≤j
 | 0=>Nat.le_refl _
 | j+1=>by
  unfold psV
  split
  ·exact Nat.le_succ_of_le psV_le
  ·exact Nat.le_refl _
theorem place_ev{n:Nat}{x:Bx}{out:List Bx}{x56:List Bx×Nat}{x57 x58:Int}(hx:gB n x)(ho:∀y∈out,gB n y)(hn:n≤3):∀(j:Nat),j≤out.length→j≤100000 →
  Evt (fun k q=>spec_PartsOf_L259276 k q out x (j:Int) x56 x57 x58) (.inr (out,x,((psV x out j:Nat):Int),x56,x57,x58,()))
 | 0,_,_=>Evt.step (fun k q=>spec_PartsOf_L259276.eq_2 k _ _ _ _ _ _ q) (Evt.cfalse (by simp) .pure)
 | j+1,hj,hb=>by
  refine Evt.step (fun k q=>spec_PartsOf_L259276.eq_2 k _ _ _ _ _ _ q) (Evt.ctrue (decide_eq_true (by omega)) ?_)
  have hw:IntKind.wrap .i64 (((j+1:Nat):Int) - 1)=(j:Int):=by rw [w64] <;> omega
  rw [hw,Int.toNat_natCast]
  have hy:gB n (out.getD j (0,[],[])):=by
   rw [List.getD_eq_getElem?_getD,List.getElem?_eq_getElem (by omega)]
   exact ho _ (List.getElem_mem _)
  refine Evt.ctrue mid_ge (Evt.ctrue (decide_eq_true (by omega)) (Evt.bind (bxBefore_ev hx hy hn) ?_))
  unfold psV
  cases hc:befV x (out.getD j (0,[],[]))with
  | true=>exact Evt.ctrue rfl (by simpa using place_ev hx ho hn j (by omega) (by omega))
  | false=>exact Evt.cfalse rfl (by simpa using .pure)

def inV(out:List Bx)(x:Bx):List Bx:=out.take (psV x out out.length)++x::out.drop (psV x out out.length)
theorem inV_len{out:List Bx}{x:Bx}:(inV out x).length=out.length+1:=by
 have:=psV_le (x:=x) (out:=out) (j:=out.length)
 unfold inV
 simp
 omega
theorem inV_gB{n:Nat}{out:List Bx}{x:Bx}(ho:∀y∈out,gB n y)(hx:gB n x):∀y∈inV out x,gB n y:=by
 intro y hy
 unfold inV at hy
 rcases List.mem_append.1 hy with hy | hy
 ·exact ho y (List.mem_of_mem_take hy)
 ·rcases List.mem_cons.1 hy with rfl | hy
  ·exact hx
  ·exact ho y (List.mem_of_mem_drop hy)
theorem order_ev{n:Nat}{l:List Bx}(hl:∀x∈l,gB n x)(hn:n≤3)(hb:l.length≤1000):Evt (fun k _=>spec_PartsOf_L506 k k [] (l,0) (l.length:Int) 0) (.inr (l.foldl inV [],())):=by
 have key:∀(r d out:List Bx),d++r=l→out.length=d.length→(∀y∈out,gB n y)→Evt (fun k q=>spec_PartsOf_L506 k q out (l,d.length) (l.length:Int) d.length) (.inr (r.foldl inV out,())):=by
  intro r
  induction r with
  | nil =>
   intro d out h ho hg
   rw [List.append_nil]at h
   refine Evt.step (fun k q=>spec_PartsOf_L506.eq_2 k _ _ _ _ q) ?_
   rw [←h]
   exact Evt.rng0 .pure
  | cons e r ih =>
   intro d out h ho hg
   have he:=hl e (by rw [←h];simp)
   have hlen:=congrArg List.length h
   simp at hlen
   refine Evt.step (fun k q=>spec_PartsOf_L506.eq_2 k _ _ _ _ q) ?_
   have ih:=ih (d ++ [e]) (inV out e) (by simpa using h) (by rw [inV_len,ho];simp) (inV_gB hg he)
   have hnx:((d ++ [e]).length:Int)=IntKind.wrap .i64 ((d.length:Int)+1):=(len_next (r:=r) (by rw [h];simp only [lenB];omega)).symm
   rw [hnx,show(d ++ [e]).length=d.length+1 by simp]at ih
   rw [←h]
   simp only
   refine Evt.ctrue mid_lt (Evt.ctrue mid_ge (Evt.ctrue mid_lt (Evt.ctrue (by rw [Int.toNat_natCast];exact Nat.beq_refl _) ?_)))
   rw [mid_get]
   have hp:=psV_le (x:=e) (out:=out) (j:=out.length)
   refine Evt.inr (Evt.diag (place_ev he hg hn out.length (Nat.le_refl _) (by omega))) ?_
   simp only [Int.toNat_natCast]
   refine Evt.ctrue mid_ge (Evt.ctrue (decide_eq_true (by omega)) (Evt.ctrue (decide_eq_true (by simp;omega)) (Evt.ctrue (decide_eq_true (by simp;omega)) (Evt.ctrue mid_ge (Evt.ctrue (decide_eq_true (by omega)) (Evt.ctrue (Nat.beq_refl _) (Evt.ctrue (decide_eq_true (by simp;omega)) ?_)))))))
   rw [h]
   simpa [inV] using ih
 exact Evt.diag (by simpa using key l [] [] rfl rfl (by simp))

def poV(b:Bx)(t:Int):List Bx×Bool :=
 if bxV b=true∧0≤t∧t≤2 then(if (itP b.2.1.length t.toNat [b]).2 then((itP b.2.1.length t.toNat [b]).1.foldl inV [],true)else([],false))else([],false)
theorem bxV_len{b:Bx}(h:bxV b=true):1≤b.2.1.length∧b.2.1.length≤3:=by
 unfold bxV at h
 simp only [Bool.and_eq_true,decide_eq_true_eq]at h
 have:=h.2.1
 omega
theorem partsOf_ev{b:Bx}{t:Int}(hb:b.2.1.length<lenB):Evt (fun k _=>spec_PartsOf k b t) (poV b t):=by
 refine Evt.eq (f:=fun k q=>_) ?_ (fun k q=>by rw [spec_PartsOf])
 refine Evt.bind (bxGood_ev hb) ?_
 unfold poV
 cases hv:bxV b with
 | false=>exact Evt.ctrue rfl (by simpa using .pure)
 | true =>
  refine Evt.cfalse rfl (Evt.bind (.const (l1In_eq _ _ _)) ?_)
  by_cases ht:0≤t∧t≤2
  ·rw [if_pos ⟨rfl,ht⟩]
   have hl:=bxV_len hv
   have hg:=gB_of hv rfl
   have h8:8 ^ t.toNat≤64:=by
    have:=Nat.pow_le_pow_right (n:=8) (by omega) (show t.toNat≤2 by omega)
    omega
   have hgs:∀x ∈ [b],gB b.2.1.length x:=by
    intro x hx
    simp at hx
    rw [hx];exact hg
   refine Evt.cfalse (by rw [decide_eq_true ht];rfl) (Evt.bind (.const (own_eq (by omega))) (Evt.bind (.const (own_eq (by rw [hg.hi];omega))) ?_))
   have h0:=itP_ev hl.1 hl.2 t.toNat [b] (by omega) hgs (by simp;omega)
   have h1:=itP_ok hl.2 (t:=t.toNat) hgs
   rw [show((t.toNat:Nat):Int)=t by omega]at h0
   cases hq:(itP b.2.1.length t.toNat [b]).2 with
   | false =>
    rw [hq]at h0
    exact Evt.inl (Evt.diag h0) (by simpa using .pure)
   | true =>
    rw [hq]at h0
    refine Evt.inr (Evt.diag h0) ?_
    simp only [if_true]
    have hle:=h1.1
    rw [List.length_singleton]at hle
    exact Evt.inr (order_ev h1.2 hl.2 (by omega)) .pure
  ·rw [if_neg (fun h=>ht h.2)]
   exact Evt.ctrue (by rw [decide_eq_false ht];rfl) .pure
end Go.Ev.G

namespace Go.Ev.G
open Go Go.Ev
set_option maxRecDepth 100000

def oddI(x:Int):Bool:=Int.tmod x 2 != 0
theorem anyOdd_ev{l:List Int}(hb:l.length<2000):Evt (fun k _=>slices_ContainsFunc_int_int_impl_boxOf_1 k l ()) (l.any oddI):=by
 refine Evt.eq (f:=fun k q=>_) ?_ (fun k q=>by rw [slices_ContainsFunc_int_int_impl_boxOf_1,slices_IndexFunc_int_int_impl_boxOf_1])
 have key:∀(r d:List Int),d++r=l→Evt (fun k q=>slices_IndexFunc_int_int_impl_boxOf_1_L26 k q l () (l.length:Int) d.length) (match r.findIdx? oddI with | some j => .inl ((d.length+j:Nat):Int) | none => .inr ()):=by
  intro r
  induction r with
  | nil =>
   intro d h
   rw [List.append_nil]at h
   refine Evt.step (fun k q=>slices_IndexFunc_int_int_impl_boxOf_1_L26.eq_2 k _ _ _ _ q) ?_
   rw [←h]
   exact Evt.rng0 .pure
  | cons e r ih =>
   intro d h
   refine Evt.step (fun k q=>slices_IndexFunc_int_int_impl_boxOf_1_L26.eq_2 k _ _ _ _ q) ?_
   have ih:=ih (d ++ [e]) (by simpa using h)
   have hlen:=congrArg List.length h
   simp at hlen
   rw [←len_next (r:=r) (by rw [h];simp only [lenB];omega)]at ih
   rw [←h]at ih ⊢
   refine Evt.ctrue mid_lt (Evt.ctrue mid_ge (Evt.ctrue mid_lt ?_))
   rw [mid_get]
   refine Evt.bind (.const (show impl_boxOf_1 e=some (oddI e)from rfl)) ?_
   rw [List.findIdx?_cons]
   cases hP:oddI e with
   | true=>exact Evt.ctrue rfl .pure
   | false =>
    refine Evt.cfalse rfl ?_
    cases hr:r.findIdx? oddI with
    | none=>rw [hr]at ih;simpa using ih
    | some j =>
     rw [hr]at ih
     have e2:(d ++ [e]).length+j=d.length+(j+1):=by simp;omega
     simp only [e2]at ih
     exact ih
 have h0:=key l [] rfl
 rw [←findIdx?_any]
 cases hv:l.findIdx? oddI with
 | some j =>
  rw [hv]at h0
  refine Evt.bind (Evt.inl (Evt.diag h0) .pure) ?_
  exact .const (by simp)
 | none =>
  rw [hv]at h0
  refine Evt.bind (Evt.inr (Evt.diag h0) .pure) ?_
  exact .const (by simp)
theorem any_zip:∀ {lo hi:List Int},lo.length=hi.length→(lo++hi).any oddI=(lo.zip hi).any sideOdd
 | [],[],_=>rfl
 | [],_::_,h=>by simp at h
 | _::_,[],h=>by simp at h
 | a::lo,c::hi,h=>by
  have ih:=any_zip (lo:=lo) (hi:=hi) (by simpa using h)
  rw [List.any_append]at ih
  simp only [List.cons_append,List.any_cons,List.any_append,List.zip_cons_cons,←ih,sideOdd,oddI]
  cases (Int.tmod a 2 != 0) <;> cases (Int.tmod c 2 != 0) <;> cases lo.any oddI <;> rfl
theorem half0_loop{x6:Bx}{K x40 x41:Int}{hi:List Int}{n:Nat}(hn:n<1000):∀(r d:List Int),d.length+r.length=n →
  Evt (fun k q=>impl_boxOf_L464486 k q 0 () x6 (K,d++r,hi) x40 x41 (n:Int) (d.length:Int)) (.inr ((),x6,(K,d++r.map hf,hi),x40,x41,()))
 | [],d,h=>Evt.step (fun k q=>impl_boxOf_L464486.eq_2 k _ _ _ _ _ _ _ _ q) (Evt.ctrue rfl (Evt.cfalse (decide_eq_false (by simp at h;omega)) .pure))
 | e::r,d,h=>by
  refine Evt.step (fun k q=>impl_boxOf_L464486.eq_2 k _ _ _ _ _ _ _ _ q) (Evt.ctrue rfl (Evt.ctrue (decide_eq_true (by simp at h;omega)) ?_))
  simp only
  refine Evt.ctrue mid_ge (Evt.ctrue mid_lt (Evt.ctrue mid_ge (Evt.ctrue mid_lt ?_)))
  rw [mid_get,mid_set,len_next (d:=d) (e:=e) (r:=r) (by simp only [lenB];simp at h ⊢; omega)]
  have:=half0_loop (x6:=x6) (K:=K) (x40:=x40) (x41:=x41) (hi:=hi) hn r (d ++ [hf e]) (by simp at h ⊢; omega)
  simpa [hf] using this
theorem half1_loop{x6:Bx}{K x40 x41:Int}{lo:List Int}{n:Nat}(hn:n<1000):∀(r d:List Int),d.length+r.length=n →
  Evt (fun k q=>impl_boxOf_L464486 k q 1 () x6 (K,lo,d++r) x40 x41 (n:Int) (d.length:Int)) (.inr ((),x6,(K,lo,d++r.map hf),x40,x41,()))
 | [],d,h=>Evt.step (fun k q=>impl_boxOf_L464486.eq_2 k _ _ _ _ _ _ _ _ q) (Evt.cfalse rfl (Evt.ctrue rfl (Evt.cfalse (decide_eq_false (by simp at h;omega)) .pure)))
 | e::r,d,h=>by
  refine Evt.step (fun k q=>impl_boxOf_L464486.eq_2 k _ _ _ _ _ _ _ _ q) (Evt.cfalse rfl (Evt.ctrue rfl (Evt.ctrue (decide_eq_true (by simp at h;omega)) ?_)))
  simp only
  refine Evt.ctrue mid_ge (Evt.ctrue mid_lt (Evt.ctrue mid_ge (Evt.ctrue mid_lt ?_)))
  rw [mid_get,mid_set,len_next (d:=d) (e:=e) (r:=r) (by simp only [lenB];simp at h ⊢; omega)]
  have:=half1_loop (x6:=x6) (K:=K) (x40:=x40) (x41:=x41) (lo:=lo) hn r (d ++ [hf e]) (by simp at h ⊢; omega)
  simpa [hf] using this
theorem halves_ev{x6:Bx}{K:Int}{lo hi:List Int}(h1:lo.length<1000)(h2:hi.length<1000):Evt (fun k q=>impl_boxOf_L1814 k q () x6 (K,lo,hi) 2 0) (.inr (x6,(K,lo.map hf,hi.map hf),())):=by
 refine Evt.step (fun k q=>impl_boxOf_L1814.eq_2 k _ _ _ _ _ q) (Evt.ctrue rfl (Evt.ctrue rfl ?_))
 have a0:=half0_loop (x6:=x6) (K:=K) (x40:=2) (x41:=0) (hi:=hi) h1 lo [] (by simp)
 refine Evt.inr (Evt.diag a0) ?_
 simp only []
 refine Evt.step (fun k q=>impl_boxOf_L1814.eq_2 k _ _ _ _ _ q) (Evt.ctrue (by decide) (Evt.cfalse (by decide) (Evt.ctrue (by decide) ?_)))
 have a1:=half1_loop (x6:=x6) (K:=K) (x40:=2) (x41:=IntKind.wrap .i64 (0+1)) (lo:=lo.map hf) h2 hi [] (by simp)
 refine Evt.inr (Evt.diag a1) ?_
 simp only []
 exact Evt.step (fun k q=>impl_boxOf_L1814.eq_2 k _ _ _ _ _ q) (Evt.cfalse (by decide) .pure)
theorem least_loop{z:Bx}:∀(j:Nat) (lo hi:List Int),lo.length=hi.length→lo.length<1000→j<1000→Evt (fun k q=>impl_boxOf_L28 k q z ((j:Int),lo,hi)) (.inr (z,rdN j lo hi,()))
 | 0,lo,hi,hl,hb,hj=>Evt.step (fun k q=>impl_boxOf_L28.eq_2 k _ _ q) (Evt.cfalse (by simp) .pure)
 | j+1,lo,hi,hl,hb,hj=>by
  refine Evt.step (fun k q=>impl_boxOf_L28.eq_2 k _ _ q) (Evt.ctrue (decide_eq_true (by simp only;omega)) ?_)
  simp only []
  refine Evt.bind (concatZ_ev hb (by omega)) (Evt.bind (anyOdd_ev (by simp;omega)) ?_)
  rw [any_zip hl]
  unfold rdN
  cases hv:(lo.zip hi).any sideOdd with
  | true=>exact Evt.cfalse rfl .pure
  | false =>
   refine Evt.ctrue rfl ?_
   have hw:IntKind.wrap .i64 (((j+1:Nat):Int) - 1)=(j:Int):=by rw [w64] <;> omega
   rw [hw]
   exact Evt.inr (Evt.diag (halves_ev hb (by omega))) (least_loop j (lo.map hf) (hi.map hf) (by simpa using hl) (by simpa using hb) (by omega))
theorem boxOf_ev{K:Nat}{lo hi:List Int}(hl:lo.length=hi.length)(hb:lo.length<1000)(hK:K<1000):Evt (fun k _=>impl_boxOf k K lo hi) (mkV K lo hi):=by
 refine Evt.eq (f:=fun k q=>_) ?_ (fun k q=>by rw [impl_boxOf])
 refine Evt.bind (.const (cloneZ_eq hb)) (Evt.bind (.const (cloneZ_eq (by omega))) ?_)
 refine Evt.inr (Evt.diag (least_loop K lo hi hl hb hK)) ?_
 simp only
 refine Evt.bind (isBox_ev (by rw [(rdN_len K lo hi).1];simp only [lenB];omega)) ?_
 unfold mkV
 cases bxV (rdN K lo hi)with
 | true=>exact Evt.cfalse rfl .pure
 | false=>exact Evt.ctrue rfl .pure

theorem scaled_ev{l:List Int}{t:Nat}(ht:t≤64)(hb:l.length<1000):Evt (fun k _=>impl_scaled k l (t:Int)) (l.map fun x=>IntKind.wrap .i64 (x*2 ^ t)):=by
 refine Evt.eq (f:=fun k q=>_) ?_ (fun k q=>by rw [impl_scaled])
 have key:∀(r d:List Int),d++r=l→Evt (fun k q=>impl_scaled_L58 k q (t:Int) (d.map fun x=>IntKind.wrap .i64 (x*2 ^ t)) l (l.length:Int) d.length) (.inr (l.map fun x=>IntKind.wrap .i64 (x*2 ^ t),())):=by
  intro r
  induction r with
  | nil =>
   intro d h
   rw [List.append_nil]at h
   refine Evt.step (fun k q=>impl_scaled_L58.eq_2 k _ _ _ _ _ q) ?_
   rw [←h]
   exact Evt.rng0 .pure
  | cons e r ih =>
   intro d h
   refine Evt.step (fun k q=>impl_scaled_L58.eq_2 k _ _ _ _ _ q) ?_
   have ih:=ih (d ++ [e]) (by simpa using h)
   have hlen:=congrArg List.length h
   simp at hlen
   rw [←len_next (r:=r) (by rw [h];simp only [lenB];omega)]at ih
   rw [←h]at ih ⊢
   refine Evt.ctrue mid_lt (Evt.ctrue mid_ge (Evt.ctrue mid_lt (Evt.cfalse (decide_eq_false (by omega)) (Evt.ctrue (decide_eq_true (by simp;omega)) ?_))))
   rw [mid_get,min64 ht]
   simpa using ih
 exact Evt.inr (Evt.diag (key l [] rfl)) .pure
end Go.Ev.G

namespace Go.Ev.G
open Go Go.Ev
set_option maxRecDepth 100000

def lenI(b:Bx)(i:Nat):Int:=IntKind.wrap .i64 (b.2.2.getD i 0 - b.2.1.getD i 0)
theorem length_eq{b:Bx}{n i:Nat}(hb:gB n b)(hi:i<n):impl_Box_length b (i:Int)=some (lenI b i):=by
 have h1:=hb.lo
 have h2:=hb.hi
 unfold impl_Box_length
 rw [show decide ((0:Int)≤(i:Int))=true from mid_ge,show decide ((i:Int)<(b.2.2.length:Int))=true from decide_eq_true (by omega),show decide ((i:Int)<(b.2.1.length:Int))=true from decide_eq_true (by omega)]
 rfl
def prL(b:Bx)(i:Nat)(x:Bx)(p:Nat):List Int:=x.2.1.set i (IntKind.wrap .i64 (x.2.1.getD i 0+IntKind.wrap .i64 ((p:Int)*lenI b i)))
def prV(b:Bx)(i:Nat)(x:Bx)(p:Nat):Bx:=(0,prL b i x p,x.2.2.set i (IntKind.wrap .i64 ((prL b i x p).getD i 0+lenI b i)))
def bxL(n:Nat)(x:Bx):Prop:=x.2.1.length=n∧x.2.2.length=n
theorem prV_L{b x:Bx}{n i p:Nat}(h:bxL n x):bxL n (prV b i x p):=⟨by simp [prV,prL,h.1],by simp [prV,h.2]⟩
theorem pr_loop{b x:Bx}{n i P:Nat}{t x35 x36 x40 x41:Int}{x39:List Bx}(hb:gB n b)(hi:i<n)(hn:n≤3)(hx:bxL n x):∀(j p:Nat) (next:List Bx),p+j=P→next.length+j≤100000→p+j≤100000 →
  Evt (fun k q=>impl_Box_parts_L15309414 k q b t (i:Int) next x x35 x36 x39 x40 x41 (P:Int) (p:Int)) (.inr (b,t,(i:Int),next++(List.range' p j).map (prV b i x),x35,x36,x39,x40,x41,()))
 | 0,p,next,h,_,_=>Evt.step (fun k q=>impl_Box_parts_L15309414.eq_2 k _ _ _ _ _ _ _ _ _ _ _ _ q) (Evt.cfalse (decide_eq_false (by omega)) (by simpa using .pure))
 | j+1,p,next,h,hl,hp=>by
  have h1:=hx.1
  have h2:=hx.2
  refine Evt.step (fun k q=>impl_Box_parts_L15309414.eq_2 k _ _ _ _ _ _ _ _ _ _ _ _ q) ?_
  refine Evt.ctrue (decide_eq_true (by omega)) ?_
  refine Evt.bind (.const (cloneZ_eq (by omega))) (Evt.bind (.const (cloneZ_eq (by omega))) ?_)
  refine Evt.ctrue mid_ge (Evt.ctrue (decide_eq_true (by omega)) (Evt.bind (.const (length_eq hb hi)) ?_))
  refine Evt.ctrue mid_ge (Evt.ctrue (decide_eq_true (by omega)) (Evt.ctrue mid_ge (Evt.ctrue (decide_eq_true (by simp;omega)) (Evt.bind (.const (length_eq hb hi)) ?_))))
  refine Evt.ctrue mid_ge (Evt.ctrue (decide_eq_true (by omega)) (Evt.ctrue (decide_eq_true (by simp;omega)) ?_))
  rw [w64_next (m:=p) (by simp only [lenB];omega)]
  have:=pr_loop (P:=P) (t:=t) (x35:=x35) (x36:=x36) (x39:=x39) (x40:=x40) (x41:=x41) hb hi hn hx j (p+1) (next ++ [prV b i x p]) (by omega) (by simp;omega) (by omega)
  rw [List.range'_succ,List.map_cons]
  simpa [prV,prL] using this
def dmV(b:Bx)(P i:Nat)(l:List Bx):List Bx:=l.flatMap fun x=>(List.range' 0 P).map (prV b i x)
theorem dmV_L{b:Bx}{P i n:Nat}{l:List Bx}(h:∀x∈l,bxL n x):∀x∈dmV b P i l,bxL n x:=by
 intro x hx
 obtain⟨y,hy,hx⟩:=List.mem_flatMap.1 hx
 obtain⟨p,_,rfl⟩:=List.mem_map.1 hx
 exact prV_L (h y hy)
theorem dmV_len{b:Bx}{P i:Nat}:∀ {l:List Bx},(dmV b P i l).length=l.length*P
 | []=>by simp [dmV]
 | x::l=>by
  have:=dmV_len (b:=b) (P:=P) (i:=i) (l:=l)
  unfold dmV at this ⊢
  rw [List.flatMap_cons,List.length_append,this]
  simp [Nat.add_mul,Nat.add_comm]
theorem dim_ev{b:Bx}{n i t:Nat}{x35 x36:Int}{l:List Bx}(hb:gB n b)(hi:i<n)(hn:n≤3)(ht:t≤2)(hl:∀x∈l,bxL n x)(hll:l.length≤100) :
  Evt (fun k _=>impl_Box_parts_L59802 k k b (t:Int) (i:Int) [] x35 x36 l (l.length:Int) 0) (.inr (b,(t:Int),dmV b (2 ^ t) i l,x35,x36,())):=by
 have hP:2 ^ t≤4:=by
  have:=Nat.pow_le_pow_right (n:=2) (by omega) ht
  omega
 have key:∀(r d acc:List Bx),d++r=l→acc.length≤4*d.length→Evt (fun k q=>impl_Box_parts_L59802 k q b (t:Int) (i:Int) acc x35 x36 l (l.length:Int) d.length) (.inr (b,(t:Int),acc++dmV b (2 ^ t) i r,x35,x36,())):=by
  intro r
  induction r with
  | nil =>
   intro d acc h ha
   rw [List.append_nil]at h
   refine Evt.step (fun k q=>impl_Box_parts_L59802.eq_2 k _ _ _ _ _ _ _ _ _ q) ?_
   rw [←h]
   simp only [dmV,List.flatMap_nil,List.append_nil]
   exact Evt.rng0 .pure
  | cons e r ih =>
   intro d acc h ha
   have he:=hl e (by rw [←h];simp)
   have hlen:=congrArg List.length h
   simp at hlen
   refine Evt.step (fun k q=>impl_Box_parts_L59802.eq_2 k _ _ _ _ _ _ _ _ _ q) ?_
   have ih:=ih (d ++ [e]) (acc++(List.range' 0 (2 ^ t)).map (prV b i e)) (by simpa using h) (by simp;omega)
   rw [←len_next (r:=r) (by rw [h];simp only [lenB];omega)]at ih
   rw [←h]at ih ⊢
   refine Evt.ctrue mid_lt (Evt.ctrue mid_ge (Evt.ctrue mid_lt (Evt.cfalse (decide_eq_false (by omega)) ?_)))
   rw [mid_get,min64 (by omega)]
   have hw:IntKind.wrap .i64 (1*2 ^ t)=((2 ^ t:Nat):Int):=by
    have e2:((2:Int) ^ t)=((2 ^ t:Nat):Int):=by simp
    rw [e2,Int.one_mul]
    generalize (2:Nat) ^ t=q at hP
    rw [w64] <;> omega
   rw [hw]
   have h0:=pr_loop (P:=2 ^ t) (t:=(t:Int)) (x35:=x35) (x36:=x36) (x39:=d++e::r) (x40:=((d++e::r).length:Int)) (x41:=(d.length:Int)) hb hi hn he (2 ^ t) 0 acc (by omega) (by omega) (by omega)
   refine Evt.inr (Evt.diag h0) ?_
   simp only []
   rw [show dmV b (2 ^ t) i (e::r)=(List.range' 0 (2 ^ t)).map (prV b i e)++dmV b (2 ^ t) i r from by simp [dmV],←List.append_assoc]
   exact ih
 exact Evt.diag (by simpa using key l [] [] rfl (by simp))
theorem final_ev{b:Bx}{t:Nat}{l:List Bx}(hk:0≤b.1∧b.1≤8)(ht:t≤2)(hl:∀x∈l,x.2.1.length=x.2.2.length∧x.2.1.length<1000∧(mkV (b.1.toNat+t) x.2.1 x.2.2).2=true)(hll:l.length≤100000) :
  Evt (fun k _=>impl_Box_parts_L122 k k () b (t:Int) l (l.length:Int) 0) (.inr (l.map fun x=>(mkV (b.1.toNat+t) x.2.1 x.2.2).1,())):=by
 have hw:IntKind.wrap .i64 (b.1+(t:Int))=((b.1.toNat+t:Nat):Int):=by rw [w64] <;> omega
 have key:∀(r d:List Bx),d.length+r.length=l.length→(∀x∈r,x.2.1.length=x.2.2.length∧x.2.1.length<1000∧(mkV (b.1.toNat+t) x.2.1 x.2.2).2=true) →
   Evt (fun k q=>impl_Box_parts_L122 k q () b (t:Int) (d++r) (l.length:Int) d.length) (.inr (d++r.map fun x=>(mkV (b.1.toNat+t) x.2.1 x.2.2).1,())):=by
  intro r
  induction r with
  | nil =>
   intro d h _
   refine Evt.step (fun k q=>impl_Box_parts_L122.eq_2 k _ _ _ _ _ _ q) (Evt.cfalse (decide_eq_false (by simp at h;omega)) (by simpa using .pure))
  | cons e r ih =>
   intro d h hr
   obtain⟨e1,e2,e3⟩:=hr e (by simp)
   simp at h
   refine Evt.step (fun k q=>impl_Box_parts_L122.eq_2 k _ _ _ _ _ _ q) (Evt.ctrue (decide_eq_true (by omega)) (Evt.ctrue mid_ge (Evt.ctrue mid_lt ?_)))
   rw [mid_get,hw]
   refine Evt.bind (boxOf_ev e1 e2 (by omega)) (Evt.cfalse (by rw [e3];rfl) (Evt.ctrue mid_ge (Evt.ctrue mid_lt ?_)))
   rw [mid_set,len_next (d:=d) (e:=e) (r:=r) (by simp only [lenB];simp;omega)]
   have:=ih (d ++ [(mkV (b.1.toNat+t) e.2.1 e.2.2).1]) (by simp;omega) (fun x hx=>hr x (by simp [hx]))
   simpa using this
 exact Evt.diag (by simpa using key l [] (by simp) hl)
def piV(b:Bx)(t:Nat):List Bx:=dmV b (2 ^ t) 1 (dmV b (2 ^ t) 0 [(0,b.2.1.map fun x=>IntKind.wrap .i64 (x*2 ^ t),b.2.2.map fun x=>IntKind.wrap .i64 (x*2 ^ t))])
theorem parts_ev{b:Bx}{t:Nat}(hb:gB 2 b)(ht:t≤2)(hv:∀x∈piV b t,(mkV (b.1.toNat+t) x.2.1 x.2.2).2=true):Evt (fun k _=>impl_Box_parts k b (t:Int)) ((piV b t).map fun x=>(mkV (b.1.toNat+t) x.2.1 x.2.2).1,true):=by
 have h1:=hb.lo
 have h2:=hb.hi
 have hP:2 ^ t≤4:=by
  have:=Nat.pow_le_pow_right (n:=2) (by omega) ht
  omega
 refine Evt.eq (f:=fun k q=>_) ?_ (fun k q=>by rw [impl_Box_parts])
 refine Evt.bind (scaled_ev (by omega) (by omega)) (Evt.bind (scaled_ev (by omega) (by omega)) ?_)
 have hL0:∀x ∈ [((0:Int),b.2.1.map fun x=>IntKind.wrap .i64 (x*2 ^ t),b.2.2.map fun x=>IntKind.wrap .i64 (x*2 ^ t))],bxL 2 x:=by
  intro x hx
  simp at hx
  rw [hx]
  exact⟨by simpa using h1,by simpa using h2⟩
 have hL1:=dmV_L (b:=b) (P:=2 ^ t) (i:=0) hL0
 have hL2:=dmV_L (b:=b) (P:=2 ^ t) (i:=1) hL1
 have hl1:=dmV_len (b:=b) (P:=2 ^ t) (i:=0) (l := [((0:Int),b.2.1.map fun x=>IntKind.wrap .i64 (x*2 ^ t),b.2.2.map fun x=>IntKind.wrap .i64 (x*2 ^ t))])
 have hl2:=dmV_len (b:=b) (P:=2 ^ t) (i:=1) (l:=dmV b (2 ^ t) 0 [((0:Int),b.2.1.map fun x=>IntKind.wrap .i64 (x*2 ^ t),b.2.2.map fun x=>IntKind.wrap .i64 (x*2 ^ t))])
 rw [List.length_singleton,Nat.one_mul]at hl1
 rw [h1]
 have d0:=dim_ev (x35:=((2:Nat):Int)) (x36:=((0:Nat):Int)) hb (by omega:0<2) (by omega) ht hL0 (by simp)
 have d1:=dim_ev (x35:=((2:Nat):Int)) (x36:=((1:Nat):Int)) hb (by omega:1<2) (by omega) ht hL1 (by rw [hl1];omega)
 have w1:IntKind.wrap .i64 (((0:Nat):Int)+1)=((1:Nat):Int):=by rw [w64] <;> omega
 have w2:IntKind.wrap .i64 (((1:Nat):Int)+1)=((2:Nat):Int):=by rw [w64] <;> omega
 have key:Evt (fun k q=>impl_Box_parts_L58 k q b (t:Int) [((0:Int),b.2.1.map fun x=>IntKind.wrap .i64 (x*2 ^ t),b.2.2.map fun x=>IntKind.wrap .i64 (x*2 ^ t))] ((2:Nat):Int) ((0:Nat):Int)) (.inr (b,(t:Int),piV b t,())):=by
  refine Evt.step (fun k q=>impl_Box_parts_L58.eq_2 k _ _ _ _ _ q) (Evt.ctrue (decide_eq_true (by omega)) (Evt.inr d0 ?_))
  simp only []
  rw [w1]
  refine Evt.step (fun k q=>impl_Box_parts_L58.eq_2 k _ _ _ _ _ q) (Evt.ctrue (decide_eq_true (by omega)) (Evt.inr d1 ?_))
  simp only []
  rw [w2]
  exact Evt.step (fun k q=>impl_Box_parts_L58.eq_2 k _ _ _ _ _ q) (Evt.cfalse (decide_eq_false (by omega)) .pure)
 refine Evt.inr (Evt.diag key) ?_
 simp only []
 have hlen:(piV b t).length≤16:=by
  unfold piV
  rw [hl2,hl1]
  have:=Nat.mul_le_mul hP hP
  omega
 refine Evt.inr (final_ev ⟨hb.k0,hb.k8⟩ ht (fun x hx => ?_) (by omega)) .pure
 have:=hL2 x hx
 exact⟨by rw [this.1,this.2],by rw [this.1];omega,hv x hx⟩
end Go.Ev.G

namespace Go.Ev.G
open Go Go.Ev
set_option maxRecDepth 100000

def up:Nat→Int→Int
 | 0,a=>a
 | j+1,a=>2*up j a
theorem up_add:∀ {j:Nat} {a b:Int},up j (a+b)=up j a+up j b
 | 0,_,_=>rfl
 | j+1,a,b=>by simp only [up,up_add (j:=j),Int.mul_add]
theorem up_two:∀ {j:Nat} {a:Int},up j (2*a)=2*up j a
 | 0,_=>rfl
 | j+1,a=>by simp only [up,up_two (j:=j)]
theorem up_le:∀ {j:Nat} {a b:Int},up j a≤up j b↔a≤b
 | 0,_,_=>Iff.rfl
 | j+1,a,b=>by
  have:=up_le (j:=j) (a:=a) (b:=b)
  simp only [up]
  omega
theorem up_neg:∀ {j:Nat} {a:Int},up j (-a) = - up j a
 | 0,_=>rfl
 | j+1,a=>by simp only [up,up_neg (j:=j)];omega
theorem up_pow:∀ {j:Nat} {a:Int},up j a=a*2 ^ j
 | 0,a=>by simp [up]
 | j+1,a=>by
  simp only [up,up_pow (j:=j)]
  rw [Int.pow_succ,Int.mul_comm 2,Int.mul_assoc]
def sm(a:Int):Prop := -1099511627776≤a∧a≤1099511627776
theorem sm_up:∀ {j:Nat} {a:Int},sm (up j a)→sm a
 | 0,_,h=>h
 | j+1,a,h=>sm_up (j:=j) (by unfold sm at *; simp only [up]at h;omega)
theorem hf_two{a:Int}(h:sm a):hf (2*a)=a:=by
 unfold sm at h
 unfold hf
 rw [Int.mul_tdiv_cancel_left a (by decide),w64] <;> omega
theorem odd_two{a c:Int}:sideOdd (2*a,2*c)=false:=by
 unfold sideOdd
 simp
theorem even_half{a:Int}(h:(Int.tmod a 2 != 0)=false)(hs:sm a):a=2*hf a∧sm (hf a):=by
 have h0:Int.tmod a 2=0:=by simpa using h
 have h1:a=2*Int.tdiv a 2:=by
  have:=Int.mul_tdiv_add_tmod a 2
  omega
 unfold sm at *
 have h2:hf a=Int.tdiv a 2:=by
  unfold hf
  rw [w64] <;> omega
 rw [h2]
 omega
theorem rd_two{K:Nat}{a b c d:Int}(ha:sm a)(hb:sm b)(hc:sm c)(hd:sm d):rdN (K+1) [2*a,2*b] [2*c,2*d]=rdN K [a,b] [c,d]:=by
 rw [rdN]
 simp only [List.zip_cons_cons,List.zip_nil_left,List.any_cons,List.any_nil,odd_two,Bool.or_self,if_false,List.map_cons,List.map_nil,hf_two ha,hf_two hb,hf_two hc,hf_two hd]
 simp
theorem rd_up{K:Nat}{a b c d:Int}:∀(j:Nat),sm (up j a)→sm (up j b)→sm (up j c)→sm (up j d)→rdN (K+j) [up j a,up j b] [up j c,up j d]=rdN K [a,b] [c,d]
 | 0,_,_,_,_=>rfl
 | j+1,ha,hb,hc,hd=>by
  have e:∀ {x:Int},sm (up (j+1) x)→sm (up j x):=by
   intro x hx
   simp only [up]at hx
   unfold sm at *
   omega
  rw [←Nat.add_assoc]
  simp only [up]
  rw [rd_two (e ha) (e hb) (e hc) (e hd)]
  exact rd_up j (e ha) (e hb) (e hc) (e hd)
theorem rd_form:∀(K:Nat) (a b c d:Int),sm a→sm b→sm c→sm d→∃(j K':Nat) (a' b' c' d':Int),rdN K [a,b] [c,d]=((K':Int),[a',b'],[c',d'])∧K=K'+j∧a=up j a'∧b=up j b'∧c=up j c'∧d=up j d'∧(K'=0∨([a',b'].zip [c',d']).any sideOdd=true)
 | 0,a,b,c,d,_,_,_,_=>⟨0,0,a,b,c,d,rfl,rfl,rfl,rfl,rfl,rfl,.inl rfl⟩
 | K+1,a,b,c,d,ha,hb,hc,hd=>by
  cases hv:([a,b].zip [c,d]).any sideOdd with
  | true=>exact⟨0,K+1,a,b,c,d,by rw [rdN,if_pos hv],rfl,rfl,rfl,rfl,rfl,.inr hv⟩
  | false =>
   have hv2:=hv
   simp only [List.zip_cons_cons,List.zip_nil_left,List.any_cons,List.any_nil,sideOdd,Bool.or_false,Bool.or_eq_false_iff]at hv2
   obtain⟨a1,a2⟩:=even_half hv2.1.1 ha
   obtain⟨c1,c2⟩:=even_half hv2.1.2 hc
   obtain⟨b1,b2⟩:=even_half hv2.2.1 hb
   obtain⟨d1,d2⟩:=even_half hv2.2.2 hd
   obtain⟨j,K',a',b',c',d',e1,e2,e3,e4,e5,e6,e7⟩:=rd_form K (hf a) (hf b) (hf c) (hf d) a2 b2 c2 d2
   refine⟨j+1,K',a',b',c',d',?_,by omega,?_,?_,?_,?_,e7⟩
   ·rw [rdN,if_neg (by rw [hv];simp)]
    exact e1
   all_goals (simp only [up];omega)

structure Gd(K:Nat)(a b c d:Int):Prop where
 k8:K≤8
 x:a<c
 y:b<d
 a0 : -(8*2 ^ K)≤a
 b0 : -(8*2 ^ K)≤b
 c0:c≤8*2 ^ K
 d0:d≤8*2 ^ K
theorem Gd.sm{K:Nat}{a b c d:Int}(h:Gd K a b c d):sm a∧sm b∧sm c∧sm d∧sm (a+c)∧sm (b+d)∧sm (2*a)∧sm (2*b)∧sm (2*c)∧sm (2*d):=by
 have hp:=pow8 h.k8
 have h1:=h.x
 have h2:=h.y
 have h3:=h.a0
 have h4:=h.b0
 have h5:=h.c0
 have h6:=h.d0
 unfold G.sm
 generalize (8:Int)*2 ^ K=q at *
 omega
theorem rd_good{K:Nat}{a b c d:Int}(h:Gd K a b c d):bxV (rdN K [a,b] [c,d])=true:=by
 obtain⟨ha,hb,hc,hd,_⟩:=h.sm
 obtain⟨j,K',a',b',c',d',e1,e2,e3,e4,e5,e6,e7⟩:=rd_form K a b c d ha hb hc hd
 have hk:=h.k8
 have hq:(8:Int)*2 ^ K=up j (8*2 ^ K'):=by
  rw [up_pow,e2,Int.pow_add,Int.mul_assoc]
 have x1:a'<c':=by
  have:=h.x
  have h9:=up_le (j:=j) (a:=c') (b:=a')
  omega
 have x2:b'<d':=by
  have:=h.y
  have h9:=up_le (j:=j) (a:=d') (b:=b')
  omega
 have l1 : -(8*2 ^ K')≤a':=(up_le (j:=j)).1 (by rw [up_neg,←hq,←e3];exact h.a0)
 have l2 : -(8*2 ^ K')≤b':=(up_le (j:=j)).1 (by rw [up_neg,←hq,←e4];exact h.b0)
 have l3:c'≤8*2 ^ K':=(up_le (j:=j)).1 (by rw [←hq,←e5];exact h.c0)
 have l4:d'≤8*2 ^ K':=(up_le (j:=j)).1 (by rw [←hq,←e6];exact h.d0)
 rw [e1]
 unfold bxV
 simp only [Int.toNat_natCast]
 rw [Bool.and_eq_true,Bool.and_eq_true,Bool.and_eq_true,Bool.and_eq_true]
 refine⟨decide_eq_true (by omega),decide_eq_true (by simp),decide_eq_true rfl,?_,?_⟩
 ·simp only [List.zip_cons_cons,List.zip_nil_left,List.all_cons,List.all_nil,Bool.and_true,sideOk]
  generalize (8:Int)*2 ^ K'=q at *
  rw [Bool.and_eq_true]
  exact⟨decide_eq_true (by omega),decide_eq_true (by omega)⟩
 ·rcases e7 with e7 | e7
  ·subst e7;rfl
  ·rw [e7,Bool.or_true]
theorem mk_good{K:Nat}{a b c d:Int}(h:Gd K a b c d):mkV K [a,b] [c,d]=(rdN K [a,b] [c,d],true):=by
 unfold mkV
 rw [if_pos (rd_good h)]
theorem Gd.half0{K:Nat}{a b c d:Int}(h:Gd K a b c d)(hK:K+1≤8):Gd (K+1) (2*a) (2*b) (a+c) (2*d)∧Gd (K+1) (a+c) (2*b) (2*c) (2*d)∧Gd (K+1) (2*a) (2*b) (2*c) (b+d)∧Gd (K+1) (2*a) (b+d) (2*c) (2*d):=by
 have h1:=h.x
 have h2:=h.y
 have h3:=h.a0
 have h4:=h.b0
 have h5:=h.c0
 have h6:=h.d0
 have e:(8:Int)*2 ^ (K+1)=2*(8*2 ^ K):=by rw [Int.pow_succ,←Int.mul_assoc,Int.mul_comm]
 generalize (8:Int)*2 ^ K=q at *
 refine⟨⟨hK,?_,?_,?_,?_,?_,?_⟩,⟨hK,?_,?_,?_,?_,?_,?_⟩,⟨hK,?_,?_,?_,?_,?_,?_⟩,⟨hK,?_,?_,?_,?_,?_,?_⟩⟩ <;> (try rw [e]) <;> omega
theorem db_eq{a:Int}(h:sm a):db a=2*a:=by
 unfold sm at h
 unfold db
 rw [w64] <;> omega
theorem half0{K:Nat}{a b c d:Int}(h:Gd K a b c d)(hK:K+1≤8):hvV (rdN K [a,b] [c,d]) 0=([rdN (K+1) [2*a,2*b] [a+c,2*d],rdN (K+1) [a+c,2*b] [2*c,2*d]],true):=by
 obtain⟨ha,hb,hc,hd,hx,hy,sa,sb,sc,sd⟩:=h.sm
 obtain⟨g1,g2,_⟩:=h.half0 hK
 obtain⟨j,K',a',b',c',d',e1,e2,e3,e4,e5,e6,e7⟩:=rd_form K a b c d ha hb hc hd
 have ha':sm a':=sm_up (e3 ▸ ha)
 have hb':sm b':=sm_up (e4 ▸ hb)
 have hc':sm c':=sm_up (e5 ▸ hc)
 have hd':sm d':=sm_up (e6 ▸ hd)
 have hw:IntKind.wrap .i64 (a'+c')=a'+c':=by unfold sm at ha' hc'; rw [w64] <;> omega
 have r1:rdN (K'+1) [2*a',2*b'] [a'+c',2*d']=rdN (K+1) [2*a,2*b] [a+c,2*d]:=by
  have:=rd_up (K:=K'+1) (a:=2*a') (b:=2*b') (c:=a'+c') (d:=2*d') j
  rw [up_two,up_two,up_two,up_add,←e3,←e4,←e5,←e6]at this
  rw [←this sa sb hx sd,e2]
  congr 1
  omega
 have r2:rdN (K'+1) [a'+c',2*b'] [2*c',2*d']=rdN (K+1) [a+c,2*b] [2*c,2*d]:=by
  have:=rd_up (K:=K'+1) (a:=a'+c') (b:=2*b') (c:=2*c') (d:=2*d') j
  rw [up_two,up_two,up_two,up_add,←e3,←e4,←e5,←e6]at this
  rw [←this hx sb sc sd,e2]
  congr 1
  omega
 have m1:mkV (K'+1) [2*a',2*b'] [a'+c',2*d']=(rdN (K+1) [2*a,2*b] [a+c,2*d],true):=by
  unfold mkV
  rw [r1,if_pos (rd_good g1)]
 have m2:mkV (K'+1) [a'+c',2*b'] [2*c',2*d']=(rdN (K+1) [a+c,2*b] [2*c,2*d],true):=by
  unfold mkV
  rw [r2,if_pos (rd_good g2)]
 rw [e1]
 unfold hvV
 simp only [Int.toNat_natCast,List.map_cons,List.map_nil,List.getD_cons_zero,List.set_cons_zero,hw,db_eq ha',db_eq hb',db_eq hc',db_eq hd',m1,m2,Bool.not_true,cond_false]
theorem half1{K:Nat}{a b c d:Int}(h:Gd K a b c d)(hK:K+1≤8):hvV (rdN K [a,b] [c,d]) 1=([rdN (K+1) [2*a,2*b] [2*c,b+d],rdN (K+1) [2*a,b+d] [2*c,2*d]],true):=by
 obtain⟨ha,hb,hc,hd,hx,hy,sa,sb,sc,sd⟩:=h.sm
 obtain⟨_,_,g1,g2⟩:=h.half0 hK
 obtain⟨j,K',a',b',c',d',e1,e2,e3,e4,e5,e6,e7⟩:=rd_form K a b c d ha hb hc hd
 have ha':sm a':=sm_up (e3 ▸ ha)
 have hb':sm b':=sm_up (e4 ▸ hb)
 have hc':sm c':=sm_up (e5 ▸ hc)
 have hd':sm d':=sm_up (e6 ▸ hd)
 have hw:IntKind.wrap .i64 (b'+d')=b'+d':=by unfold sm at hb' hd'; rw [w64] <;> omega
 have r1:rdN (K'+1) [2*a',2*b'] [2*c',b'+d']=rdN (K+1) [2*a,2*b] [2*c,b+d]:=by
  have:=rd_up (K:=K'+1) (a:=2*a') (b:=2*b') (c:=2*c') (d:=b'+d') j
  rw [up_two,up_two,up_two,up_add,←e3,←e4,←e5,←e6]at this
  rw [←this sa sb sc hy,e2]
  congr 1
  omega
 have r2:rdN (K'+1) [2*a',b'+d'] [2*c',2*d']=rdN (K+1) [2*a,b+d] [2*c,2*d]:=by
  have:=rd_up (K:=K'+1) (a:=2*a') (b:=b'+d') (c:=2*c') (d:=2*d') j
  rw [up_two,up_two,up_two,up_add,←e3,←e4,←e5,←e6]at this
  rw [←this sa hy sc sd,e2]
  congr 1
  omega
 have m1:mkV (K'+1) [2*a',2*b'] [2*c',b'+d']=(rdN (K+1) [2*a,2*b] [2*c,b+d],true):=by
  unfold mkV
  rw [r1,if_pos (rd_good g1)]
 have m2:mkV (K'+1) [2*a',b'+d'] [2*c',2*d']=(rdN (K+1) [2*a,b+d] [2*c,2*d],true):=by
  unfold mkV
  rw [r2,if_pos (rd_good g2)]
 rw [e1]
 unfold hvV
 simp only [Int.toNat_natCast,List.map_cons,List.map_nil,List.getD_cons_zero,List.getD_cons_succ,List.set_cons_zero,List.set_cons_succ,hw,db_eq ha',db_eq hb',db_eq hc',db_eq hd',m1,m2,Bool.not_true,cond_false]
end Go.Ev.G

namespace Go.Ev.G
open Go Go.Ev
set_option maxRecDepth 100000

def cl(d0 d1:Int)(K:Nat)(x y:Int):Bx:=rdN K [x,y] [x+d0,y+d1]
def ce(d0 d1 A B:Int)(K:Nat)(p:Int×Int):Bx:=cl d0 d1 K (A+p.1*d0) (B+p.2*d1)
theorem parts_cl{d0 d1 x y:Int}{K:Nat}(h:Gd K x y (x+d0) (y+d1))(hK:K+2≤8) :
  ptV 2 (cl d0 d1 K x y) 0=([cl d0 d1 (K+1) (2*x) (2*y),cl d0 d1 (K+1) (2*x) (2*y+d1),cl d0 d1 (K+1) (2*x+d0) (2*y),cl d0 d1 (K+1) (2*x+d0) (2*y+d1)],true):=by
 obtain⟨g1,g2,_⟩:=h.half0 (by omega)
 obtain⟨_,_,s1,s2⟩:=g1.half0 (by omega)
 obtain⟨ha,hb,hc,hd,hx,hy,sa,sb,sc,sd⟩:=h.sm
 obtain⟨ga,gb,gc,gd,gx,gy,_⟩:=g1.sm
 obtain⟨ka,kb,kc,kd,kx,ky,_⟩:=g2.sm
 have e1:rdN (K+1+1) [2*(2*x),2*(2*y)] [2*(x+(x+d0)),2*y+2*(y+d1)]=cl d0 d1 (K+1) (2*x) (2*y):=by
  rw [show x+(x+d0)=2*x+d0 by omega,show 2*y+2*(y+d1)=2*(2*y+d1)by omega,rd_two ga gb (by unfold sm at *; omega) (by unfold sm at *; omega)]
  rfl
 have e2:rdN (K+1+1) [2*(2*x),2*y+2*(y+d1)] [2*(x+(x+d0)),2*(2*(y+d1))]=cl d0 d1 (K+1) (2*x) (2*y+d1):=by
  rw [show x+(x+d0)=2*x+d0 by omega,show 2*y+2*(y+d1)=2*(2*y+d1)by omega,rd_two ga (by unfold sm at *; omega) (by unfold sm at *; omega) gd]
  rw [show 2*(y+d1)=2*y+d1+d1 by omega]
  rfl
 have e3:rdN (K+1+1) [2*(x+(x+d0)),2*(2*y)] [2*(2*(x+d0)),2*y+2*(y+d1)]=cl d0 d1 (K+1) (2*x+d0) (2*y):=by
  rw [show x+(x+d0)=2*x+d0 by omega,show 2*y+2*(y+d1)=2*(2*y+d1)by omega,rd_two (by unfold sm at *; omega) gb kc (by unfold sm at *; omega)]
  rw [show 2*(x+d0)=2*x+d0+d0 by omega]
  rfl
 have e4:rdN (K+1+1) [2*(x+(x+d0)),2*y+2*(y+d1)] [2*(2*(x+d0)),2*(2*(y+d1))]=cl d0 d1 (K+1) (2*x+d0) (2*y+d1):=by
  rw [show x+(x+d0)=2*x+d0 by omega,show 2*y+2*(y+d1)=2*(2*y+d1)by omega,rd_two (by unfold sm at *; omega) (by unfold sm at *; omega) kc kd]
  rw [show 2*(x+d0)=2*x+d0+d0 by omega,show 2*(y+d1)=2*y+d1+d1 by omega]
  rfl
 have p1:=half1 g1 (by omega)
 have p2:=half1 g2 (by omega)
 rw [e1,e2]at p1
 rw [e3,e4]at p2
 rw [ptV,show cl d0 d1 K x y=rdN K [x,y] [x+d0,y+d1]from rfl,half0 h (by omega)]
 simp only [ptV,Nat.zero_add,p1,p2,List.cons_append,List.nil_append,Bool.and_self]

def kd(p:Int×Int):List (Int×Int) := [(2*p.1,2*p.2),(2*p.1,2*p.2+1),(2*p.1+1,2*p.2),(2*p.1+1,2*p.2+1)]
theorem parts_ce{d0 d1 A B:Int}{K:Nat}{p:Int×Int}(h:Gd K (A+p.1*d0) (B+p.2*d1) (A+p.1*d0+d0) (B+p.2*d1+d1))(hK:K+2≤8) :
  ptV 2 (ce d0 d1 A B K p) 0=((kd p).map (ce d0 d1 (2*A) (2*B) (K+1)),true):=by
 unfold ce
 rw [parts_cl h hK]
 have x0:2*(A+p.1*d0)=2*A+2*p.1*d0:=by rw [Int.mul_add,Int.mul_assoc]
 have y0:2*(B+p.2*d1)=2*B+2*p.2*d1:=by rw [Int.mul_add,Int.mul_assoc]
 have x1:2*(A+p.1*d0)+d0=2*A+(2*p.1+1)*d0:=by rw [x0,Int.add_mul,Int.one_mul];omega
 have y1:2*(B+p.2*d1)+d1=2*B+(2*p.2+1)*d1:=by rw [y0,Int.add_mul,Int.one_mul];omega
 simp only [kd,List.map_cons,List.map_nil]
 rw [x1,y1,x0,y0]
theorem allP_ce{d0 d1 A B:Int}{K:Nat}(hK:K+2≤8):∀ {I:List (Int×Int)},(∀p∈I,Gd K (A+p.1*d0) (B+p.2*d1) (A+p.1*d0+d0) (B+p.2*d1+d1)) →
  allP 2 (I.map (ce d0 d1 A B K))=((I.flatMap kd).map (ce d0 d1 (2*A) (2*B) (K+1)),true)
 | [],_=>rfl
 | p::I,h=>by
  rw [List.map_cons,allP,parts_ce (h p (by simp)) hK,allP_ce hK (fun q hq=>h q (by simp [hq]))]
  simp only [if_true,List.flatMap_cons,List.map_append]

theorem cm_rd{K j j' K' K'':Nat}{x y x' y':Int}(hK:K≤8)(e1:K=K'+j)(e2:K=K''+j')(hx:x=up j x')(hy:y=up j' y')(sx:sm x)(sy:sm y):cmB K' K'' x' y'=cmpI x y:=by
 have sx':sm x':=sm_up (hx ▸ sx)
 have sy':sm y':=sm_up (hy ▸ sy)
 have v1:=sv_mkD (mkD_ok (n:=x') (k:=K') sx'.1 sx'.2 (by omega))
 have v2:=sv_mkD (mkD_ok (n:=y') (k:=K'') sy'.1 sy'.2 (by omega))
 have w1:sv (mkD x' K').1*2 ^ K=x*2 ^ 24:=by
  rw [e1,Int.pow_add,←Int.mul_assoc,v1,hx,up_pow,Int.mul_assoc,Int.mul_comm (2 ^ 24),←Int.mul_assoc]
 have w2:sv (mkD y' K'').1*2 ^ K=y*2 ^ 24:=by
  rw [e2,Int.pow_add,←Int.mul_assoc,v2,hy,up_pow,Int.mul_assoc,Int.mul_comm (2 ^ 24),←Int.mul_assoc]
 unfold cmB
 generalize sv (mkD x' K').1=s at w1
 generalize sv (mkD y' K'').1=u at w2
 have hp:(0:Int)<2 ^ K:=Int.pow_pos (by decide)
 have hq:(0:Int)<2 ^ 24:=by decide
 have lt:∀ {s u x y:Int},s*2 ^ K=x*2 ^ 24→u*2 ^ K=y*2 ^ 24→(s<u↔x<y):=by
  intro s u x y w1 w2
  constructor
  ·intro h
   have h1:=Int.mul_lt_mul_of_pos_right h hp
   rw [w1,w2]at h1
   exact Int.lt_of_mul_lt_mul_right h1 (by decide)
  ·intro h
   have h1:=Int.mul_lt_mul_of_pos_right h hq
   rw [←w1,←w2]at h1
   exact Int.lt_of_mul_lt_mul_right h1 (Int.le_of_lt hp)
 have l1:=lt w1 w2
 have l2:=lt w2 w1
 unfold cmpI
 by_cases h1:s<u
 ·rw [if_pos h1,if_pos (l1.1 h1)]
 ·rw [if_neg h1,if_neg (fun h=>h1 (l1.2 h))]
  by_cases h2:u<s
  ·rw [if_pos h2,if_pos (l2.1 h2)]
  ·rw [if_neg h2,if_neg (fun h=>h2 (l2.2 h))]
theorem bef_rd{K:Nat}{x y a b u v c d:Int}(hK:K≤8)(sx:sm x)(sy:sm y)(sa:sm a)(sb:sm b)(su:sm u)(sv:sm v)(sc:sm c)(sd:sm d):befV (rdN K [x,y] [a,b]) (rdN K [u,v] [c,d])=decide (x<u∨x=u∧y<v):=by
 obtain⟨j,K',x',y',a',b',e1,e2,e3,e4,_⟩:=rd_form K x y a b sx sy sa sb
 obtain⟨j',K'',u',v',c',d',f1,f2,f3,f4,_⟩:=rd_form K u v c d su sv sc sd
 have c1:=cm_rd hK e2 f2 e3 f3 sx su
 have c2:=cm_rd hK e2 f2 e4 f4 sy sv
 rw [e1,f1]
 unfold befV
 simp only [Int.toNat_natCast,befO,c1,c2]
 unfold cmpI
 have T:∀h:x<u∨x=u∧y<v,decide (x<u∨x=u∧y<v)=true:=fun h=>decide_eq_true h
 have N:∀h : ¬ (x<u∨x=u∧y<v),decide (x<u∨x=u∧y<v)=false:=fun h=>decide_eq_false h
 by_cases h1:x<u
 ·rw [if_pos h1,T (.inl h1)]
  rfl
 ·by_cases h2:u<x
  ·rw [if_neg h1,if_pos h2,N (by omega)]
   rfl
  ·rw [if_neg h1,if_neg h2]
   by_cases h3:y<v
   ·rw [if_pos h3,T (.inr ⟨by omega,h3⟩)]
    rfl
   ·by_cases h4:v<y
    ·rw [if_neg h3,if_pos h4,N (by omega)]
     rfl
    ·rw [if_neg h3,if_neg h4,N (by omega)]
     rfl
def ltI(p q:Int×Int):Bool:=decide (p.1<q.1∨p.1=q.1∧p.2<q.2)
theorem grid_lt{A d i k:Int}(hd:0<d):A+i*d<A+k*d↔i<k:=by
 constructor
 ·intro h
  exact Int.lt_of_mul_lt_mul_right (show i*d<k*d by omega) (by omega)
 ·intro h
  have:=Int.mul_lt_mul_of_pos_right h hd
  omega
theorem bef_ce{d0 d1 A B:Int}{K:Nat}{p q:Int×Int}(h0:0<d0)(h1:0<d1)(hp:Gd K (A+p.1*d0) (B+p.2*d1) (A+p.1*d0+d0) (B+p.2*d1+d1))(hq:Gd K (A+q.1*d0) (B+q.2*d1) (A+q.1*d0+d0) (B+q.2*d1+d1)):befV (ce d0 d1 A B K p) (ce d0 d1 A B K q)=ltI p q:=by
 obtain⟨a1,a2,a3,a4,_⟩:=hp.sm
 obtain⟨b1,b2,b3,b4,_⟩:=hq.sm
 unfold ce cl
 rw [bef_rd hp.k8 a1 a2 a3 a4 b1 b2 b3 b4]
 unfold ltI
 have x1:=grid_lt (A:=A) (i:=p.1) (k:=q.1) h0
 have x2:=grid_lt (A:=A) (i:=q.1) (k:=p.1) h0
 have y1:=grid_lt (A:=B) (i:=p.2) (k:=q.2) h1
 congr 1
 apply propext
 generalize A+p.1*d0=X at *
 generalize A+q.1*d0=Y at *
 generalize B+p.2*d1=Z at *
 generalize B+q.2*d1=W at *
 omega

def psI(x:Int×Int)(out:List (Int×Int)):Nat→Nat
 | 0=>0
 | j+1=>if ltI x (out.getD j (0,0))then psI x out j else j+1
def inI(out:List (Int×Int))(x:Int×Int):List (Int×Int):=out.take (psI x out out.length)++x::out.drop (psI x out out.length)
theorem psV_map{f:Int×Int→Bx}{S:Int×Int→Prop}(hf:∀p q,S p→S q→befV (f p) (f q)=ltI p q){x:Int×Int}{out:List (Int×Int)}(hx:S x)(ho:∀p∈out,S p):∀(j:Nat),j≤out.length→psV (f x) (out.map f) j=psI x out j
 | 0,_=>rfl
 | j+1,hj=>by
  unfold psV psI
  have e1:(out.map f).getD j (0,[],[])=f out[j]:=by
   rw [List.getD_eq_getElem?_getD,List.getElem?_map,List.getElem?_eq_getElem (by omega)]
   rfl
  have e2:out.getD j (0,0)=out[j]:=by
   rw [List.getD_eq_getElem?_getD,List.getElem?_eq_getElem (by omega)]
   rfl
  rw [e1,e2,hf _ _ hx (ho _ (List.getElem_mem _)),psV_map hf hx ho j (by omega)]
theorem inV_map{f:Int×Int→Bx}{S:Int×Int→Prop}(hf:∀p q,S p→S q→befV (f p) (f q)=ltI p q){x:Int×Int}{out:List (Int×Int)}(hx:S x)(ho:∀p∈out,S p):inV (out.map f) (f x)=(inI out x).map f:=by
 unfold inV inI
 rw [List.length_map,psV_map hf hx ho _ (Nat.le_refl _)]
 simp only [List.map_append,List.map_cons,List.map_take,List.map_drop]
theorem foldV_map{f:Int×Int→Bx}{S:Int×Int→Prop}(hf:∀p q,S p→S q→befV (f p) (f q)=ltI p q):∀ {r out:List (Int×Int)},(∀p∈r,S p)→(∀p∈out,S p)→(r.map f).foldl inV (out.map f)=(r.foldl inI out).map f
 | [],out,_,_=>rfl
 | x::r,out,hr,ho=>by
  rw [List.map_cons,List.foldl_cons,List.foldl_cons,inV_map hf (hr x (by simp)) ho]
  refine foldV_map hf (fun p hp=>hr p (by simp [hp])) (fun p hp => ?_)
  unfold inI at hp
  rcases List.mem_append.1 hp with hp | hp
  ·exact ho p (List.mem_of_mem_take hp)
  ·rcases List.mem_cons.1 hp with rfl | hp
   ·exact hr _ (by simp)
   ·exact ho p (List.mem_of_mem_drop hp)
end Go.Ev.G

namespace Go.Ev.G
open Go Go.Ev
set_option maxRecDepth 100000

def lexN(P:Nat):List (Int×Int):=(List.range' 0 P).flatMap fun(i:Nat)=>(List.range' 0 P).map fun(j:Nat)=>((i:Int),(j:Int))
def zN:Nat→List (Int×Int)
 | 0 => [(0,0)]
 | t+1=>(zN t).flatMap kd
theorem sort0:(zN 0).foldl inI []=lexN (2 ^ 0):=by kernel_rfl
theorem sort1:(zN 1).foldl inI []=lexN (2 ^ 1):=by kernel_rfl
theorem sort2:(zN 2).foldl inI []=lexN (2 ^ 2):=by kernel_rfl
theorem sortN{t:Nat}(h:t≤2):(zN t).foldl inI []=lexN (2 ^ t):=by
 match t,h with
 | 0,_=>exact sort0
 | 1,_=>exact sort1
 | 2,_=>exact sort2
def inG(t:Nat)(p:Int×Int):Prop:=0≤p.1∧p.1<2 ^ t∧0≤p.2∧p.2<2 ^ t
theorem zN_in:∀ {t:Nat} {p:Int×Int},p∈zN t→inG t p
 | 0,p,h=>by
  simp only [zN,List.mem_singleton]at h
  rw [h]
  exact⟨by decide,by decide,by decide,by decide⟩
 | t+1,p,h=>by
  obtain⟨q,hq,hp⟩:=List.mem_flatMap.1 h
  obtain⟨h1,h2,h3,h4⟩:=zN_in hq
  unfold inG
  rw [Int.pow_succ]
  generalize (2:Int) ^ t=T at *
  simp only [kd,List.mem_cons,List.not_mem_nil,or_false]at hp
  rcases hp with rfl | rfl | rfl | rfl <;> simp only <;> omega
theorem lexN_in{t:Nat}{p:Int×Int}(h:p∈lexN (2 ^ t)):inG t p:=by
 obtain⟨i,hi,hp⟩:=List.mem_flatMap.1 h
 obtain⟨j,hj,rfl⟩:=List.mem_map.1 hp
 have e:((2:Int) ^ t)=((2 ^ t:Nat):Int):=by simp
 rw [List.mem_range']at hi hj
 obtain⟨i',hi,rfl⟩:=hi
 obtain⟨j',hj,rfl⟩:=hj
 unfold inG
 rw [e]
 simp only
 omega
theorem Gd.cell{m t:Nat}{a b d0 d1:Int}{p:Int×Int}(h:Gd m a b (a+d0) (b+d1))(ht:m+t≤8)(hp:inG t p) :
  Gd (m+t) (2 ^ t*a+p.1*d0) (2 ^ t*b+p.2*d1) (2 ^ t*a+p.1*d0+d0) (2 ^ t*b+p.2*d1+d1):=by
 obtain⟨p1,p2,p3,p4⟩:=hp
 have x0:0<d0:=by have:=h.x;omega
 have y0:0<d1:=by have:=h.y;omega
 have hT:(0:Int)<2 ^ t:=Int.pow_pos (by decide)
 have e:(8:Int)*2 ^ (m+t)=2 ^ t*(8*2 ^ m):=by rw [Int.pow_add,Int.mul_comm (2 ^ t),Int.mul_assoc]
 have q1:=Int.mul_nonneg p1 (Int.le_of_lt x0)
 have q2:=Int.mul_nonneg p3 (Int.le_of_lt y0)
 have q3:=Int.mul_le_mul_of_nonneg_right (show p.1+1≤2 ^ t by omega) (Int.le_of_lt x0)
 have q4:=Int.mul_le_mul_of_nonneg_right (show p.2+1≤2 ^ t by omega) (Int.le_of_lt y0)
 rw [Int.add_mul,Int.one_mul]at q3 q4
 have a1:=Int.mul_le_mul_of_nonneg_left h.a0 (Int.le_of_lt hT)
 have b1:=Int.mul_le_mul_of_nonneg_left h.b0 (Int.le_of_lt hT)
 have c1:=Int.mul_le_mul_of_nonneg_left h.c0 (Int.le_of_lt hT)
 have d2:=Int.mul_le_mul_of_nonneg_left h.d0 (Int.le_of_lt hT)
 rw [Int.mul_neg]at a1 b1
 rw [Int.mul_add]at c1 d2
 refine⟨ht,by omega,by omega,?_,?_,?_,?_⟩ <;> rw [e] <;> omega
theorem itP_ce{m:Nat}{a b d0 d1:Int}(h:Gd m a b (a+d0) (b+d1))(hm:m≤3):∀(t s:Nat),s+t≤2→itP 2 t ((zN s).map (ce d0 d1 (2 ^ s*a) (2 ^ s*b) (m+s)))=((zN (s+t)).map (ce d0 d1 (2 ^ (s+t)*a) (2 ^ (s+t)*b) (m+(s+t))),true)
 | 0,s,_=>rfl
 | t+1,s,hs=>by
  have e:∀x:Int,2*(2 ^ s*x)=2 ^ (s+1)*x:=by
   intro x
   rw [Int.pow_succ,Int.mul_comm _ 2,Int.mul_assoc]
  rw [itP,allP_ce (by omega) (fun p hp=>h.cell (by omega) (zN_in hp))]
  simp only [if_true,e]
  rw [show s+(t+1)=s+1+t by omega]
  exact itP_ce h hm t (s+1) (by omega)
theorem plane_form{b:Bx}(h:plV b=true):∃(m:Nat) (l0 l1 d0 d1:Int),b=((m:Int),[l0,l1],[l0+d0,l1+d1])∧rdN m [l0,l1] [l0+d0,l1+d1]=b∧m≤3∧Gd m l0 l1 (l0+d0) (l1+d1):=by
 obtain⟨K,los,his⟩:=b
 unfold plV bxV at h
 simp only [Bool.and_eq_true,decide_eq_true_eq,beq_iff_eq]at h
 obtain⟨⟨g1,g2,g3,g4,g7⟩,g5,g6⟩:=h
 match los,his,g3,g5,g4,g7 with
 | [l0,l1],[h0,h1],_,_,g4,g7 =>
  refine⟨K.toNat,l0,l1,h0 - l0,h1 - l1,?_,?_,by omega,?_⟩
  ·rw [Int.toNat_of_nonneg g1.1,show l0+(h0 - l0)=h0 by omega,show l1+(h1 - l1)=h1 by omega]
  ·rw [show l0+(h0 - l0)=h0 by omega,show l1+(h1 - l1)=h1 by omega]
   cases hk:K.toNat with
   | zero =>
    have:K=0:=by omega
    rw [this]
    rfl
   | succ j =>
    have hK:K=((j+1:Nat):Int):=by omega
    rw [rdN]
    rw [show(K==0)=false from by rw [beq_eq_false_iff_ne];omega,Bool.false_or]at g7
    rw [if_pos g7,hK]
  ·rw [show l0+(h0 - l0)=h0 by omega,show l1+(h1 - l1)=h1 by omega]
   simp only [List.zip_cons_cons,List.zip_nil_left,List.all_cons,List.all_nil,Bool.and_true,Bool.and_eq_true,sideOk,decide_eq_true_eq]at g4
   obtain⟨⟨x1,x2,x3⟩,y1,y2,y3⟩:=g4
   exact⟨by omega,x3,y3,x1.1,y1.1,x2.2,y2.2⟩
def paV(m:Nat)(l0 l1 d0 d1:Int)(t:Nat):List Bx:=(lexN (2 ^ t)).map (ce d0 d1 (2 ^ t*l0) (2 ^ t*l1) (m+t))
theorem poV_eq{b:Bx}{m t:Nat}{l0 l1 d0 d1:Int}(hv:bxV b=true)(hb:b=((m:Int),[l0,l1],[l0+d0,l1+d1]))(hr:rdN m [l0,l1] [l0+d0,l1+d1]=b)(hm:m≤3)(h:Gd m l0 l1 (l0+d0) (l1+d1))(ht:t≤2):poV b (t:Int)=(paV m l0 l1 d0 d1 t,true):=by
 have hl:b.2.1.length=2:=by rw [hb];rfl
 have h0:=itP_ce h hm t 0 (by omega)
 have e0:(zN 0).map (ce d0 d1 (2 ^ 0*l0) (2 ^ 0*l1) (m+0)) = [b]:=by
  have z0:2 ^ 0*l0+0*d0=l0:=by rw [Int.pow_zero];omega
  have z1:2 ^ 0*l1+0*d1=l1:=by rw [Int.pow_zero];omega
  simp only [zN,List.map_cons,List.map_nil,ce,cl,z0,z1,Nat.add_zero,hr]
 rw [e0,Nat.zero_add]at h0
 unfold poV
 rw [if_pos ⟨hv,by omega,by omega⟩,hl,Int.toNat_natCast,h0]
 simp only [if_true]
 congr 1
 have hf:∀p q,inG t p→inG t q→befV (ce d0 d1 (2 ^ t*l0) (2 ^ t*l1) (m+t) p) (ce d0 d1 (2 ^ t*l0) (2 ^ t*l1) (m+t) q)=ltI p q:=fun p q hp hq =>
  bef_ce (by have:=h.x;omega) (by have:=h.y;omega) (h.cell (by omega) hp) (h.cell (by omega) hq)
 have:=foldV_map hf (r:=zN t) (out := []) (fun p hp=>zN_in hp) (by simp)
 rw [List.map_nil]at this
 rw [this,sortN ht]
 rfl
theorem flatMap_eq{α β:Type}{f g:α→List β}:∀ {l:List α},(∀x∈l,f x=g x)→l.flatMap f=l.flatMap g
 | [],_=>rfl
 | x::l,h=>by
  rw [List.flatMap_cons,List.flatMap_cons,h x (by simp),flatMap_eq (fun y hy=>h y (by simp [hy]))]
def raw(d0 d1 A B:Int)(p:Int×Int):Bx:=(0,[A+p.1*d0,B+p.2*d1],[A+p.1*d0+d0,B+p.2*d1+d1])
theorem piV_eq{m t:Nat}{l0 l1 d0 d1:Int}(hm:m≤3)(h:Gd m l0 l1 (l0+d0) (l1+d1))(ht:t≤2):piV ((m:Int),[l0,l1],[l0+d0,l1+d1]) t=(lexN (2 ^ t)).map (raw d0 d1 (2 ^ t*l0) (2 ^ t*l1)):=by
 have hP:2 ^ t≤4:=by
  have:=Nat.pow_le_pow_right (n:=2) (by omega) ht
  omega
 obtain⟨T,hT,hT1,hT4⟩:∃T:Int,(2:Int) ^ t=T∧1≤T∧T≤4:=by
  match t,ht with
  | 0,_=>exact⟨1,rfl,by decide,by decide⟩
  | 1,_=>exact⟨2,rfl,by decide,by decide⟩
  | 2,_=>exact⟨4,rfl,by decide,by decide⟩
 obtain⟨b1,b2,b3,b4,x0,y0⟩ : -64≤l0 ∧ -64≤l1∧l0+d0≤64∧l1+d1≤64∧0<d0∧0<d1:=by
  have hq:(8:Int)*2 ^ m≤64:=by
   have h1:(2:Nat) ^ m≤2 ^ 3:=Nat.pow_le_pow_right (by omega) hm
   have h2:((2:Int) ^ m)=((2 ^ m:Nat):Int):=by simp
   rw [h2]
   omega
  have:=h.x
  have:=h.y
  have:=h.a0
  have:=h.b0
  have:=h.c0
  have:=h.d0
  omega
 have hn0:lenI ((m:Int),[l0,l1],[l0+d0,l1+d1]) 0=d0:=by
  show IntKind.wrap .i64 (l0+d0 - l0)=d0
  rw [w64] <;> omega
 have hn1:lenI ((m:Int),[l0,l1],[l0+d0,l1+d1]) 1=d1:=by
  show IntKind.wrap .i64 (l1+d1 - l1)=d1
  rw [w64] <;> omega
 have bd:∀ {l d:Int},-64≤l→l+d≤64→0<d→(-256≤T*l∧T*l≤256):=by
  intro l d h1 h2 h3
  rcases(show T=1∨T=2∨T=3∨T=4 by omega)with e | e | e | e <;> subst e <;> omega
 have pd:∀ {d:Int} {i:Nat},0<d→d≤128→i<2 ^ t→(0≤(i:Int)*d∧(i:Int)*d≤512):=by
  intro d i h1 h2 h3
  have:i=0∨i=1∨i=2∨i=3:=by omega
  rcases this with e | e | e | e <;> subst e <;> simp <;> omega
 have c0:=bd b1 b3 x0
 have c1:=bd b2 b4 y0
 have m0:IntKind.wrap .i64 (l0*T)=T*l0:=by rw [Int.mul_comm,w64] <;> omega
 have m1:IntKind.wrap .i64 (l1*T)=T*l1:=by rw [Int.mul_comm,w64] <;> omega
 unfold piV lexN
 rw [List.map_flatMap]
 unfold dmV
 rw [List.flatMap_singleton,List.flatMap_map]
 refine flatMap_eq fun i hi => ?_
 rw [List.map_map]
 refine List.map_congr_left fun j hj => ?_
 rw [List.mem_range']at hi hj
 obtain⟨i',hi,rfl⟩:=hi
 obtain⟨j',hj,rfl⟩:=hj
 simp only [Nat.zero_add,Nat.one_mul]at hi hj ⊢
 have p0:=pd (i:=i') x0 (by omega) hi
 have p1:=pd (i:=j') y0 (by omega) hj
 have w0:IntKind.wrap .i64 ((i':Int)*d0)=(i':Int)*d0:=by rw [w64] <;> omega
 have w1:IntKind.wrap .i64 ((j':Int)*d1)=(j':Int)*d1:=by rw [w64] <;> omega
 have v0:IntKind.wrap .i64 (T*l0+(i':Int)*d0)=T*l0+(i':Int)*d0:=by rw [w64] <;> omega
 have v1:IntKind.wrap .i64 (T*l1+(j':Int)*d1)=T*l1+(j':Int)*d1:=by rw [w64] <;> omega
 have u0:IntKind.wrap .i64 (T*l0+(i':Int)*d0+d0)=T*l0+(i':Int)*d0+d0:=by rw [w64] <;> omega
 have u1:IntKind.wrap .i64 (T*l1+(j':Int)*d1+d1)=T*l1+(j':Int)*d1+d1:=by rw [w64] <;> omega
 simp only [Function.comp,prV,prL,raw,hn0,hn1,List.map_cons,List.map_nil,List.getD_cons_zero,List.getD_cons_succ,List.set_cons_zero,List.set_cons_succ,m0,m1,w0,w1,v0,v1,u0,u1,hT]
theorem parts_eq{b:Bx}{m t:Nat}{l0 l1 d0 d1:Int}(hb:b=((m:Int),[l0,l1],[l0+d0,l1+d1]))(hm:m≤3)(h:Gd m l0 l1 (l0+d0) (l1+d1))(ht:t≤2) :
  (∀x∈piV b t,(mkV (b.1.toNat+t) x.2.1 x.2.2).2=true)∧(piV b t).map (fun x=>(mkV (b.1.toNat+t) x.2.1 x.2.2).1)=paV m l0 l1 d0 d1 t:=by
 subst hb
 rw [piV_eq hm h ht]
 simp only [Int.toNat_natCast]
 constructor
 ·intro x hx
  obtain⟨p,hp,rfl⟩:=List.mem_map.1 hx
  unfold raw
  rw [mk_good (h.cell (by omega) (lexN_in hp))]
 ·rw [List.map_map]
  refine List.map_congr_left fun p hp => ?_
  show(mkV (m+t) (raw d0 d1 (2 ^ t*l0) (2 ^ t*l1) p).2.1 (raw d0 d1 (2 ^ t*l0) (2 ^ t*l1) p).2.2).1=_
  unfold raw
  rw [mk_good (h.cell (by omega) (lexN_in hp))]
  rfl
theorem paV_len{m t:Nat}{l0 l1 d0 d1:Int}(ht:t≤2):(paV m l0 l1 d0 d1 t).length≤16:=by
 unfold paV
 rw [List.length_map]
 match t,ht with
 | 0,_=>decide
 | 1,_=>decide
 | 2,_=>decide
theorem paV_lo{m t:Nat}{l0 l1 d0 d1:Int}:∀x∈paV m l0 l1 d0 d1 t,x.2.1.length=2:=by
 intro x hx
 obtain⟨p,_,rfl⟩:=List.mem_map.1 hx
 exact(rdN_len _ _ _).1
end Go.Ev.G

namespace Go.Ev.G
open Go Go.Ev
set_option maxRecDepth 100000

theorem degs_loop{s:List (List Tm)}{L:List Bx}(hb:s.length<lenB)(hm:∀r∈s,r.length<lenB)(hL:∀x∈L,x.2.1.length<lenB)(hll:L.length≤1000) :
  ∃w:Option (List Int),(∀r,w=some r→r.length=L.length) ∧
   Evt (fun k _=>spec_DegreesOfParts_L250 k k s [] L (L.length:Int) 0) (match w with | some r => .inr (r,()) | none => .inl ([],false)) ∧
   Evt (fun k _=>impl_DegreesOfParts_L506 k k s L [] (L.length:Int) 0) (match w with | some r => .inr (r,()) | none => .inl ([],false)):=by
 have key:∀(r d:List Bx) (acc:List Int),d++r=L→acc.length=d.length→∃w:Option (List Int),(∀q,w=some q→q.length=L.length) ∧
   Evt (fun k n=>spec_DegreesOfParts_L250 k n s acc L (L.length:Int) d.length) (match w with | some r => .inr (r,()) | none => .inl ([],false)) ∧
   Evt (fun k n=>impl_DegreesOfParts_L506 k n s L acc (L.length:Int) d.length) (match w with | some r => .inr (r,()) | none => .inl ([],false)):=by
  intro r
  induction r with
  | nil =>
   intro d acc h ha
   rw [List.append_nil]at h
   refine⟨some acc,fun q hq=>by cases hq;rw [ha,h],?_,?_⟩
   ·refine Evt.step (fun k n=>spec_DegreesOfParts_L250.eq_2 k _ _ _ _ _ n) ?_
    rw [←h]
    exact Evt.rng0 .pure
   ·refine Evt.step (fun k n=>impl_DegreesOfParts_L506.eq_2 k _ _ _ _ _ n) ?_
    rw [←h]
    exact Evt.rng0 .pure
  | cons e r ih =>
   intro d acc h ha
   have he:=hL e (by rw [←h];simp)
   have hlen:=congrArg List.length h
   simp at hlen
   cases hp:planeV s e with
   | false =>
    refine⟨none,(fun q hq=>by cases hq),?_,?_⟩
    ·refine Evt.step (fun k n=>spec_DegreesOfParts_L250.eq_2 k _ _ _ _ _ n) ?_
     rw [←h]
     refine Evt.ctrue mid_lt (Evt.ctrue mid_ge (Evt.ctrue mid_lt ?_))
     rw [mid_get]
     have hS:Evt (fun k _=>spec_DegreeOver k s e) (0,false):=by
      refine Evt.eq (f:=fun k q=>_) ?_ (fun k q=>by rw [spec_DegreeOver])
      exact Evt.bind (imGood_ev hb hm he) (Evt.ctrue (by rw [hp];rfl) .pure)
     exact Evt.bind hS (Evt.ctrue rfl .pure)
    ·refine Evt.step (fun k n=>impl_DegreesOfParts_L506.eq_2 k _ _ _ _ _ n) ?_
     rw [←h]
     refine Evt.ctrue mid_lt (Evt.ctrue mid_ge (Evt.ctrue mid_lt ?_))
     rw [mid_get]
     exact Evt.bind (isPlane_ev hb hm he) (Evt.ctrue (by rw [hp];rfl) .pure)
   | true =>
    obtain⟨v,h1,h2⟩:=dgo_val s e hp
    obtain⟨hs,hpl⟩:=planeV_form hp hm
    have hI:=h1 hs hpl
    have hS:Evt (fun k _=>spec_DegreeOver k s e) v:=by
     refine Evt.eq (f:=fun k q=>_) ?_ (fun k q=>by rw [spec_DegreeOver])
     exact Evt.bind (imGood_ev hb hm he) (Evt.cfalse (by rw [hp];rfl) (Evt.bind (h2 hb hm he) .pure))
    obtain⟨n,ok⟩:=v
    cases ok with
    | false =>
     refine⟨none,(fun q hq=>by cases hq),?_,?_⟩
     ·refine Evt.step (fun k n=>spec_DegreesOfParts_L250.eq_2 k _ _ _ _ _ n) ?_
      rw [←h]
      refine Evt.ctrue mid_lt (Evt.ctrue mid_ge (Evt.ctrue mid_lt ?_))
      rw [mid_get]
      exact Evt.bind hS (Evt.ctrue rfl .pure)
     ·refine Evt.step (fun k n=>impl_DegreesOfParts_L506.eq_2 k _ _ _ _ _ n) ?_
      rw [←h]
      refine Evt.ctrue mid_lt (Evt.ctrue mid_ge (Evt.ctrue mid_lt ?_))
      rw [mid_get]
      exact Evt.bind (isPlane_ev hb hm he) (Evt.cfalse (by rw [hp];rfl) (Evt.ctrue mid_ge (Evt.ctrue mid_lt (Evt.bind hI (Evt.ctrue rfl .pure)))))
    | true =>
     obtain⟨w,g1,g2,g3⟩:=ih (d ++ [e]) (acc ++ [n]) (by simpa using h) (by simp [ha])
     rw [←len_next (r:=r) (by rw [h];simp only [lenB];omega)]at g2 g3
     refine⟨w,g1,?_,?_⟩
     ·refine Evt.step (fun k n=>spec_DegreesOfParts_L250.eq_2 k _ _ _ _ _ n) ?_
      rw [←h]at g2 ⊢
      refine Evt.ctrue mid_lt (Evt.ctrue mid_ge (Evt.ctrue mid_lt ?_))
      rw [mid_get]
      exact Evt.bind hS (Evt.cfalse rfl (Evt.ctrue (decide_eq_true (by simp;omega)) g2))
     ·refine Evt.step (fun k n=>impl_DegreesOfParts_L506.eq_2 k _ _ _ _ _ n) ?_
      rw [←h]at g3 ⊢
      refine Evt.ctrue mid_lt (Evt.ctrue mid_ge (Evt.ctrue mid_lt ?_))
      rw [mid_get]
      exact Evt.bind (isPlane_ev hb hm he) (Evt.cfalse (by rw [hp];rfl) (Evt.ctrue mid_ge (Evt.ctrue mid_lt (Evt.bind hI (Evt.cfalse rfl (Evt.ctrue (decide_eq_true (by simp;omega)) g3))))))
 obtain⟨w,h1,h2,h3⟩:=key L [] [] rfl rfl
 exact⟨w,h1,Evt.diag (by simpa using h2),Evt.diag (by simpa using h3)⟩
theorem degs_val(s:List (List Tm))(b:Bx)(t:Int)(hb:s.length<lenB)(hm:∀r∈s,r.length<lenB)(hx:b.2.1.length<lenB) :
  ∃v:List Int×Bool,v.1.length≤1000∧Evt (fun k _=>spec_DegreesOfParts k s b t) v∧Evt (fun k _=>impl_DegreesOfParts k s b t) v:=by
 cases hp:planeV s b with
 | false =>
  refine⟨([],false),by simp,?_,?_⟩
  ·refine Evt.eq (f:=fun k q=>_) ?_ (fun k q=>by rw [spec_DegreesOfParts])
   refine Evt.bind (partsOf_ev hx) ?_
   cases (poV b t).2 with
   | false=>exact Evt.ctrue rfl .pure
   | true=>exact Evt.cfalse rfl (Evt.bind (imGood_ev hb hm hx) (Evt.ctrue (by rw [hp];rfl) .pure))
  ·refine Evt.eq (f:=fun k q=>_) ?_ (fun k q=>by rw [impl_DegreesOfParts])
   exact Evt.bind (isPlane_ev hb hm hx) (Evt.ctrue (by rw [hp];rfl) .pure)
 | true =>
  by_cases ht:0≤t∧t≤2
  ·obtain⟨_,hpl⟩:=planeV_form hp hm
   have hv:bxV b=true:=by
    unfold plV at hpl
    rw [Bool.and_eq_true]at hpl
    exact hpl.1
   obtain⟨m,l0,l1,d0,d1,e1,e2,e3,e4⟩:=plane_form hpl
   obtain⟨n,rfl⟩:∃n:Nat,t=n:=⟨t.toNat,by omega⟩
   have hn:n≤2:=by omega
   have hpo:=poV_eq hv e1 e2 e3 e4 hn
   obtain⟨q1,q2⟩:=parts_eq e1 e3 e4 hn
   have hl:=paV_len (m:=m) (l0:=l0) (l1:=l1) (d0:=d0) (d1:=d1) hn
   have hg:gB 2 b:=gB_of hv (by rw [e1];rfl)
   have hpi:=parts_ev hg hn q1
   rw [q2]at hpi
   obtain⟨w,w1,w2,w3⟩:=degs_loop (L:=paV m l0 l1 d0 d1 n) hb hm (fun x hx=>by rw [paV_lo x hx];decide) (by omega)
   have hsp:=partsOf_ev (t:=(n:Int)) hx
   rw [hpo]at hsp
   cases w with
   | none =>
    refine⟨([],false),by simp,?_,?_⟩
    ·refine Evt.eq (f:=fun k q=>_) ?_ (fun k q=>by rw [spec_DegreesOfParts])
     exact Evt.bind hsp (Evt.cfalse rfl (Evt.bind (imGood_ev hb hm hx) (Evt.cfalse (by rw [hp];rfl) (Evt.inl w2 .pure))))
    ·refine Evt.eq (f:=fun k q=>_) ?_ (fun k q=>by rw [impl_DegreesOfParts])
     exact Evt.bind (isPlane_ev hb hm hx) (Evt.cfalse (by rw [hp];rfl) (Evt.bind (.const (inside_eq _ _ _)) (Evt.cfalse (by rw [decide_eq_true ht];rfl) (Evt.bind hpi (Evt.cfalse rfl (Evt.inl w3 .pure))))))
   | some r =>
    have:=w1 r rfl
    refine⟨(r,true),by simp only;omega,?_,?_⟩
    ·refine Evt.eq (f:=fun k q=>_) ?_ (fun k q=>by rw [spec_DegreesOfParts])
     exact Evt.bind hsp (Evt.cfalse rfl (Evt.bind (imGood_ev hb hm hx) (Evt.cfalse (by rw [hp];rfl) (Evt.inr w2 .pure))))
    ·refine Evt.eq (f:=fun k q=>_) ?_ (fun k q=>by rw [impl_DegreesOfParts])
     exact Evt.bind (isPlane_ev hb hm hx) (Evt.cfalse (by rw [hp];rfl) (Evt.bind (.const (inside_eq _ _ _)) (Evt.cfalse (by rw [decide_eq_true ht];rfl) (Evt.bind hpi (Evt.cfalse rfl (Evt.inr w3 .pure))))))
  ·have hpo:poV b t=([],false):=by
    unfold poV
    rw [if_neg (fun h=>ht h.2)]
   refine⟨([],false),by simp,?_,?_⟩
   ·refine Evt.eq (f:=fun k q=>_) ?_ (fun k q=>by rw [spec_DegreesOfParts])
    refine Evt.bind (partsOf_ev hx) ?_
    rw [hpo]
    exact Evt.ctrue rfl .pure
   ·refine Evt.eq (f:=fun k q=>_) ?_ (fun k q=>by rw [impl_DegreesOfParts])
    exact Evt.bind (isPlane_ev hb hm hx) (Evt.cfalse (by rw [hp];rfl) (Evt.bind (.const (inside_eq _ _ _)) (Evt.ctrue (by rw [decide_eq_false ht];rfl) .pure)))
theorem degs_val'(s:List (List Tm))(b:Bx)(t:Int):∃v:List Int×Bool,v.1.length≤1000∧(s.length<lenB→(∀r∈s,r.length<lenB)→b.2.1.length<lenB→Evt (fun k _=>spec_DegreesOfParts k s b t) v)∧(s.length<lenB→(∀r∈s,r.length<lenB)→b.2.1.length<lenB→Evt (fun k _=>impl_DegreesOfParts k s b t) v):=by
 by_cases hc:s.length<lenB∧(∀r∈s,r.length<lenB)∧b.2.1.length<lenB
 ·obtain⟨v,hl,h1,h2⟩:=degs_val s b t hc.1 hc.2.1 hc.2.2
  exact⟨v,hl,fun _ _ _=>h1,fun _ _ _=>h2⟩
 ·exact⟨([],false),by simp,fun h1 h2 h3=>absurd ⟨h1,h2,h3⟩ hc,fun h1 h2 h3=>absurd ⟨h1,h2,h3⟩ hc⟩
theorem degreesOfParts_row(a:List (List Tm))(b:Bx)(d:Int)(h:WfT (.sl (.sl tTerm)) a)(hb:WfT tBox b)(_:WfT (.int .i64) d):∃k,laws_FnExactDegreesOfParts k a b d=some true:=by
 obtain⟨v,hl,hS,hI⟩:=degs_val' a b d
 obtain⟨y,hy1,hy2,_⟩:=markIntS_ok v.1 101 (by simp only [lenB];omega)
 exact Evt.get (Evt.eq (frame_sbl (S:=fun k a b=>spec_DegreesOfParts k a b d) (I:=fun k a b=>impl_DegreesOfParts k a b d) (C:=fun k r5 r8 x=>(Option.bind (laws_eqIntS k r8.1 r5.1) fun r9=>(bif (!r9)then some false else(bif (!(r8.2==r5.2))then some false else x)))) (W:=Int×List Int) (M:=fun k r8 f=>Option.bind (laws_markIntS k r8.1 101) fun r17=>f r17) (H:=fun k w x=>(Option.bind (laws_heldIntS k w.2 101) fun r18=>(bif (decide (r18<0))then some false else(bif (r18 != w.1)then some false else x)))) (v:=v) (w:=(((101+1*v.1.length:Nat):Int),y)) h.1 (fun x hx=>(h.2 x hx).1) hb.2.1.1 hb.2.2.1 (cmp_ints (by simp only [lenB];omega)) (fun hf=>Evt.bind hy1 hf) (fun hf=>held_ints hy2 hf)
  (fun h1 h2 h3=>hS (by simp only [lenB];omega) h2 h3) (fun h1 h2 h3=>hI h1 h2 h3)) (fun k _=>rfl))
end Go.Ev.G

