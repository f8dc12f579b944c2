/- What the plain functions of the law compute, for all inputs within the sizes that the theorems name. -/
import Derived.Test.YtiglamoomghakaaGreatPZeroSides2
import Derived.Test.YtiglamoomghakaaGreatAZeroSides1
set_option linter.unusedVariables false
namespace Go.Ev.G
open Go Go.Ev
set_option maxRecDepth 100000

abbrev Iv:=(Int×Int)×Int×Int
def gdI(x:Iv):Prop:=gd x.1∧gd x.2

theorem sv_inj{a b:Int×Int}(ha:gd a)(hb:gd b)(h:sv a=sv b):a=b:=by
 have key:∀ {n m:Int} {j i:Nat},j<i→i≤24→(i=0∨m % 2≠0)→n*2 ^ (24 - j)=m*2 ^ (24 - i)→False:=by
  intro n m j i hji hi hodd e
  have e1:(24 - j)=(i - j)+(24 - i):=by omega
  rw [e1,Int.pow_add,←Int.mul_assoc]at e
  have hp:(2:Int) ^ (24 - i)≠0:=Int.ne_of_gt (Int.pow_pos (by omega))
  have e2:=Int.eq_of_mul_eq_mul_right hp e
  have e3:i - j=(i - j - 1)+1:=by omega
  rw [e3,Int.pow_succ,←Int.mul_assoc]at e2
  omega
 obtain⟨n,j,rfl,hj,_,_,hn⟩:=gd_nat ha
 obtain⟨m,i,rfl,hi,_,_,hm⟩:=gd_nat hb
 unfold sv at h
 simp only [Int.toNat_natCast]at h
 rcases Nat.lt_trichotomy j i with hlt | rfl | hlt
 ·exact(key hlt hi hm h).elim
 ·have hp:(2:Int) ^ (24 - j)≠0:=Int.ne_of_gt (Int.pow_pos (by omega))
  rw [Int.eq_of_mul_eq_mul_right hp h]
 ·exact(key hlt hj hn h.symm).elim

def minD(a b:Int×Int):Int×Int:=if sv b<sv a then b else a
def maxD(a b:Int×Int):Int×Int:=if sv a<sv b then b else a
theorem minD_gd{a b:Int×Int}(ha:gd a)(hb:gd b):gd (minD a b):=by unfold minD;split;exact hb;exact ha
theorem maxD_gd{a b:Int×Int}(ha:gd a)(hb:gd b):gd (maxD a b):=by unfold maxD;split;exact hb;exact ha
theorem minD_sv(a b:Int×Int):sv (minD a b)=min (sv a) (sv b):=by unfold minD;split <;> omega
theorem maxD_sv(a b:Int×Int):sv (maxD a b)=max (sv a) (sv b):=by unfold maxD;split <;> omega
theorem lesser_ev{a b:Int×Int}(ha:gd a)(hb:gd b):Evt (fun k _=>impl_lesser k a b) (minD a b):=by
 refine Evt.eq (f:=fun k q=>_) ?_ (fun k q=>by rw [impl_lesser])
 refine Evt.bind (compareD_ev hb ha) ?_
 rw [cmpI_lt]
 unfold minD
 by_cases h:sv b<sv a
 ·rw [if_pos h];exact Evt.ctrue (decide_eq_true h) .pure
 ·rw [if_neg h];exact Evt.cfalse (decide_eq_false h) .pure
theorem greater_ev2{a b:Int×Int}(ha:gd a)(hb:gd b):Evt (fun k _=>impl_greater k a b) (maxD a b):=greater_ev ha hb

def rdD(p:Nat)(a:Int×Int):Int×Int:=if a.2≤p then a else(mkD (a.1 / ((2 ^ (a.2.toNat - p):Nat):Int)) p).1
theorem rdD_gd{p:Nat}{a:Int×Int}(h:gd a):gd (rdD p a):=by
 unfold rdD
 split
 ·exact h
 ·exact mkD_gd _ _
theorem div_bound{n:Int}{q:Nat}(hq:0<q)(h1 : -1099511627776≤n)(h2:n≤1099511627776) : -1099511627776≤n / (q:Int)∧n / (q:Int)≤1099511627776:=by
 constructor
 ·exact(Int.le_ediv_iff_mul_le (by omega)).2 (by
   have:(1099511627776:Int)*1≤1099511627776*q:=Int.mul_le_mul_of_nonneg_left (by omega) (by omega)
   rw [Int.neg_mul];omega)
 ·have h:=Int.ediv_le_ediv (a:=n) (b:=1099511627776) (c:=(q:Int)) (by omega) h2
  have h3:(1099511627776:Int) / (q:Int)≤1099511627776:=Int.ediv_le_self _ (by omega)
  omega
theorem dyRound_ev{p:Nat}{a:Int×Int}(ha:gd a)(hp:p≤24):Evt (fun k _=>spec_dyRound k a p) (rdD p a):=by
 refine Evt.eq (f:=fun k q=>_) ?_ (fun k q=>by rw [spec_dyRound])
 obtain⟨n,j,rfl,hj,h1,h2,hn⟩:=gd_nat ha
 unfold rdD
 simp only [Int.toNat_natCast]
 by_cases h:j≤p
 ·rw [if_pos (by omega)];exact Evt.ctrue (decide_eq_true (by omega)) .pure
 ·rw [if_neg (by omega)]
  refine Evt.cfalse (decide_eq_false (by omega)) ?_
  have e:IntKind.wrap .i64 ((j:Int) - (p:Int))=((j - p:Nat):Int):=by rw [w64 (by omega) (by omega)];omega
  rw [e]
  have hq:0<2 ^ (j - p):=Nat.pow_pos (by omega)
  have hb:=div_bound hq h1 h2
  exact Evt.bind (.const (dyPower_eq (by omega))) (Evt.bind (.const (dyDown_eq hq (by omega) (by omega))) (Evt.bind (dyMake_ev (by omega) (by omega) (by omega)) .pure))
theorem roundDown_ev{p:Nat}{a:Int×Int}(ha:gd a)(hp:p≤24):Evt (fun k _=>impl_roundDown k a p) (rdD p a):=by
 refine Evt.eq (f:=fun k q=>_) ?_ (fun k q=>by rw [impl_roundDown])
 obtain⟨n,j,rfl,hj,h1,h2,hn⟩:=gd_nat ha
 unfold rdD
 simp only [Int.toNat_natCast]
 by_cases h:j≤p
 ·rw [if_pos (by omega)];exact Evt.ctrue (decide_eq_true (by omega)) .pure
 ·rw [if_neg (by omega)]
  refine Evt.cfalse (decide_eq_false (by omega)) ?_
  have e:IntKind.wrap .i64 ((j:Int) - (p:Int))=((j - p:Nat):Int):=by rw [w64 (by omega) (by omega)];omega
  rw [e]
  have hq:0<2 ^ (j - p):=Nat.pow_pos (by omega)
  have hb:=div_bound hq h1 h2
  refine Evt.cfalse (decide_eq_false (by omega)) ?_
  have e2:Int.fdiv n (2 ^ min (Int.toNat ((j - p:Nat):Int)) (IntKind.bits .i64))=n / ((2 ^ (j - p):Nat):Int):=by
   rw [min64 (by omega)]
   have:(2:Int) ^ (j - p)=((2 ^ (j - p):Nat):Int):=by simp
   rw [this]
   exact Int.fdiv_eq_ediv_of_nonneg _ (by omega)
  rw [e2]
  exact Evt.bind (.const (wideOf_eq (by omega) (by omega))) (Evt.bind (fitD_ev (by omega) (by omega) (by omega)) .pure)

def ng(a:Int×Int):Int×Int:=(-a.1,a.2)
def rdI(p:Nat)(x:Iv):Iv:=(rdD p x.1,ng (rdD p (ng x.2)))
theorem rdI_gd{p:Nat}{x:Iv}(h:gdI x):gdI (rdI p x):=⟨rdD_gd h.1,gd_neg (rdD_gd (gd_neg h.2))⟩
theorem ivRound_ev{p:Nat}{x:Iv}(h:gdI x)(hp:p≤24):Evt (fun k _=>spec_ivRound k x p) (rdI p x):=by
 refine Evt.eq (f:=fun k q=>_) ?_ (fun k q=>by rw [spec_ivRound])
 have up:Evt (fun k _=>spec_ivUp k x.2 p) (ng (rdD p (ng x.2))):=by
  refine Evt.eq (f:=fun k q=>_) ?_ (fun k q=>by rw [spec_ivUp])
  exact Evt.bind (.const (dyMinus_eq h.2)) (Evt.bind (dyRound_ev (gd_neg h.2) hp) (Evt.bind (.const (dyMinus_eq (rdD_gd (gd_neg h.2)))) .pure))
 exact Evt.bind (dyRound_ev h.1 hp) (Evt.bind up .pure)
theorem roundOut_ev{p:Nat}{x:Iv}(h:gdI x)(hp:p≤24):Evt (fun k _=>impl_roundOut k x p) (rdI p x):=by
 refine Evt.eq (f:=fun k q=>_) ?_ (fun k q=>by rw [impl_roundOut])
 exact Evt.bind (roundDown_ev h.1 hp) (Evt.bind (.const (minus_eq h.2)) (Evt.bind (roundDown_ev (gd_neg h.2) hp) (Evt.bind (.const (minus_eq (rdD_gd (gd_neg h.2)))) .pure)))

def ends4(a b c d:Int×Int):Iv:=(minD (minD a b) (minD c d),maxD (maxD a b) (maxD c d))
theorem ends4_gd{a b c d:Int×Int}(ha:gd a)(hb:gd b)(hc:gd c)(hd:gd d):gdI (ends4 a b c d):=⟨minD_gd (minD_gd ha hb) (minD_gd hc hd),maxD_gd (maxD_gd ha hb) (maxD_gd hc hd)⟩
def foldE:Iv→List (Int×Int)→Iv
 | s,[]=>s
 | s,x::r=>foldE (minD s.1 x,maxD s.2 x) r
theorem ivEnds_ev{x:Int×Int}{xs:Pt}(hx:∀y∈x::xs,gd y)(hb:(x::xs).length<lenB):Evt (fun k _=>spec_ivEnds k (x::xs)) (foldE (x,x) (x::xs)):=by
 refine Evt.eq (f:=fun k q=>_) ?_ (fun k q=>by rw [spec_ivEnds])
 have key:∀(r d:Pt) (s z:Iv),d++r=x::xs→gdI s→Evt (fun k n=>spec_ivEnds_L58 k n z s (x::xs) ((x::xs).length:Int) d.length) (.inr (z,foldE s r,())):=by
  intro r
  induction r with
  | nil =>
   intro d s z h hs
   refine Evt.step (fun k n=>spec_ivEnds_L58.eq_2 k _ _ _ _ _ n) ?_
   rw [List.append_nil]at h
   rw [←h]
   exact Evt.rng0 .pure
  | cons e r ih =>
   intro d s z h hs
   have ge:gd e:=hx e (by rw [←h];simp)
   refine Evt.step (fun k n=>spec_ivEnds_L58.eq_2 k _ _ _ _ _ n) ?_
   have ih:=ih (d ++ [e]) (minD s.1 e,maxD s.2 e) z (by simpa using h) ⟨minD_gd hs.1 ge,maxD_gd hs.2 ge⟩
   rw [←len_next (r:=r) (by rw [h];exact hb)]at ih
   rw [←h]at ih ⊢
   refine Evt.ctrue mid_lt (Evt.ctrue mid_ge (Evt.ctrue mid_lt ?_))
   rw [mid_get]
   refine Evt.inr (y:=(z,(minD s.1 e,s.2),e,d++e::r,((d++e::r).length:Int),(d.length:Int),())) ?_ ?_
   ·refine Evt.bind (dyCmp_ev ge hs.1) ?_
    rw [cmpI_lt]
    unfold minD
    by_cases hh:sv e<sv s.1
    ·rw [if_pos hh];exact Evt.ctrue (decide_eq_true hh) .pure
    ·rw [if_neg hh];exact Evt.cfalse (decide_eq_false hh) .pure
   ·refine Evt.bind (dyCmp_ev hs.2 ge) ?_
    rw [cmpI_lt]
    rw [show foldE s (e::r)=foldE (minD s.1 e,maxD s.2 e) r from rfl]
    by_cases hh:sv s.2<sv e
    ·have hmx:maxD s.2 e=e:=if_pos hh
     rw [hmx]at ih ⊢; exact Evt.ctrue (decide_eq_true hh) ih
    ·have hmx:maxD s.2 e=s.2:=if_neg hh
     rw [hmx]at ih ⊢; exact Evt.cfalse (decide_eq_false hh) ih
 have gx:=hx x (by simp)
 refine Evt.ctrue (by simp <;> omega) (Evt.ctrue (by simp <;> omega) ?_)
 exact Evt.inr (Evt.diag (key (x::xs) [] (x,x) ((0,0),0,0) rfl ⟨gx,gx⟩)) .pure
theorem fold4{a b c d:Int×Int}(ha:gd a)(hb:gd b)(hc:gd c)(hd:gd d):foldE (a,a) [a,b,c,d]=ends4 a b c d:=by
 simp only [foldE,ends4]
 refine Prod.ext (sv_inj ?_ ?_ ?_) (sv_inj ?_ ?_ ?_)
 ·exact minD_gd (minD_gd (minD_gd (minD_gd ha ha) hb) hc) hd
 ·exact minD_gd (minD_gd ha hb) (minD_gd hc hd)
 ·simp only [minD_sv];omega
 ·exact maxD_gd (maxD_gd (maxD_gd (maxD_gd ha ha) hb) hc) hd
 ·exact maxD_gd (maxD_gd ha hb) (maxD_gd hc hd)
 ·simp only [maxD_sv];omega

def mulO(i k:Iv):Option Iv:=match prO (i.1,k.1),prO (i.1,k.2),prO (i.2,k.1),prO (i.2,k.2)with
 | some a,some b,some c,some d=>some (rdI 16 (ends4 a b c d))
 | _,_,_,_=>none
theorem prO_gd{p:(Int×Int)×Int×Int}{t:Int×Int}(h:prO p=some t):gd t:=by
 unfold prO at h
 split at h
 ·cases h;exact prodD_gd _ _
 ·cases h
theorem mulO_gd{i k t:Iv}(h:mulO i k=some t):gdI t:=by
 unfold mulO at h
 split at h
 ·rename_i h1 h2 h3 h4
  cases h
  exact rdI_gd (ends4_gd (prO_gd h1) (prO_gd h2) (prO_gd h3) (prO_gd h4))
 ·cases h
theorem mul1_ev{x y:Int×Int}(hx:gd x)(hy:gd y):Evt (fun k _=>spec_dyMul k x y) (match prO (x,y)with | some t=>(t,true) | none=>((0,0),false)):=by
 have:=dyMul_ev hx hy
 unfold prO
 cases h:(prodD x y).2 with
 | true=>rw [if_pos rfl];rw [show prodD x y=((prodD x y).1,true)from Prod.ext rfl h]at this;exact this
 | false=>rw [if_neg (by simp)];rw [show prodD x y=((0,0),false)from Prod.ext (mkD_false h) h]at this;exact this

theorem ivMul_ev{i k':Iv}(hi:gdI i)(hk:gdI k'):Evt (fun k _=>spec_ivMul k i k') (match mulO i k' with | some t=>(t,true) | none=>(((0,0),0,0),false)):=by
 refine Evt.eq (f:=fun k q=>_) ?_ (fun k q=>by rw [spec_ivMul])
 have w1:IntKind.wrap .i64 (0+1)=1:=by decide
 have w2:IntKind.wrap .i64 (1+1)=2:=by decide
 have row:∀(x:Int×Int) (z:Iv) (acc:Pt) (x17:Pt) (x18 x19:Int),gd x→acc.length≤2→Evt (fun k n=>spec_ivMul_L14950 k n k' z acc x x17 x18 x19 [k'.1,k'.2] 2 0) (match prO (x,k'.1),prO (x,k'.2)with | some a,some b => .inr (k',z,acc ++ [a] ++ [b],x17,x18,x19,()) | _,_ => .inl (((0,0),0,0),false)):=by
  intro x z acc x17 x18 x19 hx hacc
  refine Evt.step (fun k n=>spec_ivMul_L14950.eq_2 k _ _ _ _ _ _ _ _ _ _ n) (Evt.ctrue rfl (Evt.ctrue rfl (Evt.ctrue rfl (Evt.bind (mul1_ev (y:=k'.1) hx hk.1) ?_))))
  cases prO (x,k'.1)with
  | none=>exact Evt.ctrue rfl .pure
  | some a =>
   refine Evt.cfalse rfl (Evt.ctrue (by simp;omega) ?_)
   rw [w1]
   refine Evt.step (fun k n=>spec_ivMul_L14950.eq_2 k _ _ _ _ _ _ _ _ _ _ n) (Evt.ctrue rfl (Evt.ctrue rfl (Evt.ctrue rfl (Evt.bind (mul1_ev (y:=k'.2) hx hk.2) ?_))))
   cases prO (x,k'.2)with
   | none=>exact Evt.ctrue rfl .pure
   | some b =>
    refine Evt.cfalse rfl (Evt.ctrue (by simp;omega) ?_)
    rw [w2]
    exact Evt.step (fun k n=>spec_ivMul_L14950.eq_2 k _ _ _ _ _ _ _ _ _ _ n) (Evt.cfalse rfl .pure)
 unfold mulO
 have r1:=fun z=>row i.1 z [] [i.1,i.2] 2 0 hi.1 (by simp)
 have r2:=fun z a b=>row i.2 z [a,b] [i.1,i.2] 2 1 hi.2 (by simp)
 cases h1:prO (i.1,k'.1)with
 | none =>
  rw [h1]at r1
  exact Evt.inl (Evt.diag (f:=fun k n=>spec_ivMul_L58 k n k' ((0,0),0,0) [] [i.1,i.2] 2 0) (Evt.step (fun k n=>spec_ivMul_L58.eq_2 k _ _ _ _ _ _ n) (Evt.ctrue rfl (Evt.ctrue rfl (Evt.ctrue rfl (Evt.inl (Evt.diag (r1 _)) .pure)))))) .pure
 | some a =>
 cases h2:prO (i.1,k'.2)with
 | none =>
  rw [h1,h2]at r1
  exact Evt.inl (Evt.diag (f:=fun k n=>spec_ivMul_L58 k n k' ((0,0),0,0) [] [i.1,i.2] 2 0) (Evt.step (fun k n=>spec_ivMul_L58.eq_2 k _ _ _ _ _ _ n) (Evt.ctrue rfl (Evt.ctrue rfl (Evt.ctrue rfl (Evt.inl (Evt.diag (r1 _)) .pure)))))) .pure
 | some b =>
 rw [h1,h2]at r1
 have go:∀ {y:((Iv×Bool) ⊕ (Iv×Pt×Unit))},Evt (fun k n=>spec_ivMul_L58 k n k' ((0,0),0,0) [a,b] [i.1,i.2] 2 1) y→Evt (fun k _=>spec_ivMul_L58 k k k' ((0,0),0,0) [] [i.1,i.2] 2 0) y:=by
  intro y hy
  refine Evt.diag (f:=fun k n=>spec_ivMul_L58 k n k' ((0,0),0,0) [] [i.1,i.2] 2 0) (Evt.step (fun k n=>spec_ivMul_L58.eq_2 k _ _ _ _ _ _ n) (Evt.ctrue rfl (Evt.ctrue rfl (Evt.ctrue rfl (Evt.inr (Evt.diag (r1 _)) ?_)))))
  exact hy
 cases h3:prO (i.2,k'.1)with
 | none =>
  rw [h3]at r2
  exact Evt.inl (go (Evt.step (fun k n=>spec_ivMul_L58.eq_2 k _ _ _ _ _ _ n) (Evt.ctrue rfl (Evt.ctrue rfl (Evt.ctrue rfl (Evt.inl (Evt.diag (r2 _ a b)) .pure)))))) .pure
 | some c =>
 cases h4:prO (i.2,k'.2)with
 | none =>
  rw [h3,h4]at r2
  exact Evt.inl (go (Evt.step (fun k n=>spec_ivMul_L58.eq_2 k _ _ _ _ _ _ n) (Evt.ctrue rfl (Evt.ctrue rfl (Evt.ctrue rfl (Evt.inl (Evt.diag (r2 _ a b)) .pure)))))) .pure
 | some d =>
  rw [h3,h4]at r2
  have ga:=prO_gd h1
  have gb:=prO_gd h2
  have gc:=prO_gd h3
  have ge:=prO_gd h4
  refine Evt.inr (go (y := .inr (((0,0),0,0),[a,b,c,d],())) (Evt.step (fun k n=>spec_ivMul_L58.eq_2 k _ _ _ _ _ _ n) (Evt.ctrue rfl (Evt.ctrue rfl (Evt.ctrue rfl (Evt.inr (Evt.diag (r2 _ a b)) ?_)))))) ?_
  ·exact Evt.step (fun k n=>spec_ivMul_L58.eq_2 k _ _ _ _ _ _ n) (Evt.cfalse rfl .pure)
  ·refine Evt.bind (ivEnds_ev (x:=a) (xs := [b,c,d]) (by simp [ga,gb,gc,ge]) (by simp [lenB])) ?_
   rw [fold4 ga gb gc ge]
   exact Evt.bind (ivRound_ev (p:=16) (ends4_gd ga gb gc ge) (by omega)) .pure

theorem multiply_ev{b:Bool}{i k':Iv}(hi:gdI i)(hk:gdI k'):∃v,gdI v∧(b=true→(mulO i k').isSome=true→mulO i k'=some v)∧Evt (fun k _=>impl_reckoner_multiply k b i k') (v,b&&(mulO i k').isSome):=by
 let P (c:Bool) (x y:Int×Int):(Int×Int)×Bool:=if c then prodD x y else((0,0),false)
 have gP:∀c x y,gd (P c x y).1:=by
  intro c x y
  simp only [P]
  split
  ·exact prodD_gd _ _
  ·decide
 have eP:∀c x y,(P c x y).2=(c&&(prO (x,y)).isSome):=by
  intro c x y
  simp only [P]
  cases c with
  | false=>rfl
  | true =>
   unfold prO
   simp only [if_true,Bool.true_and]
   cases (prodD x y).2 <;> rfl
 let p1:=P b i.1 k'.1
 let p2:=P p1.2 i.1 k'.2
 let p3:=P p2.2 i.2 k'.1
 let p4:=P p3.2 i.2 k'.2
 have f4:p4.2=(b&&(mulO i k').isSome):=by
  simp only [p4,p3,p2,p1,eP]
  unfold mulO
  cases b with
  | false=>rfl
  | true =>
   cases prO (i.1,k'.1) <;> cases prO (i.1,k'.2) <;> cases prO (i.2,k'.1) <;> cases prO (i.2,k'.2) <;> rfl
 refine⟨rdI 16 (ends4 p1.1 p2.1 p3.1 p4.1),rdI_gd (ends4_gd (gP _ _ _) (gP _ _ _) (gP _ _ _) (gP _ _ _)),?_,?_⟩
 ·intro hb hs
  subst hb
  have hv:∀ {x y t},prO (x,y)=some t→(P true x y).1=t:=by
   intro x y t h
   simp only [P,if_true]
   unfold prO at h
   split at h
   ·cases h;rfl
   ·cases h
  unfold mulO at hs ⊢
  split at hs
  ·rename_i a b c d h1 h2 h3 h4
   try simp only [h1,h2,h3,h4]
   have q1:p1.1=a:=hv h1
   have t1:p1.2=true:=by simp only [p1,eP,h1];rfl
   have q2:p2.1=b:=by simp only [p2,t1];exact hv h2
   have t2:p2.2=true:=by simp only [p2,eP,t1,h2];rfl
   have q3:p3.1=c:=by simp only [p3,t2];exact hv h3
   have t3:p3.2=true:=by simp only [p3,eP,t2,h3];rfl
   have q4:p4.1=d:=by simp only [p4,t3];exact hv h4
   rw [q1,q2,q3,q4]
  ·cases hs
 ·rw [←f4]
  refine Evt.eq (f:=fun k q=>_) ?_ (fun k q=>by rw [impl_reckoner_multiply])
  have e1:Evt (fun k _=>impl_reckoner_product k b i.1 k'.1) p1:=reckoner_product_ev hi.1 hk.1
  have e2:Evt (fun k _=>impl_reckoner_product k p1.2 i.1 k'.2) p2:=reckoner_product_ev hi.1 hk.2
  have e3:Evt (fun k _=>impl_reckoner_product k p2.2 i.2 k'.1) p3:=reckoner_product_ev hi.2 hk.1
  have e4:Evt (fun k _=>impl_reckoner_product k p3.2 i.2 k'.2) p4:=reckoner_product_ev hi.2 hk.2
  refine Evt.bind e1 (Evt.bind e2 (Evt.bind e3 (Evt.bind e4 ?_)))
  refine Evt.bind (lesser_ev (gP _ _ _) (gP _ _ _)) (Evt.bind (lesser_ev (gP _ _ _) (gP _ _ _)) (Evt.bind (lesser_ev (minD_gd (gP _ _ _) (gP _ _ _)) (minD_gd (gP _ _ _) (gP _ _ _))) ?_))
  refine Evt.bind (greater_ev2 (gP _ _ _) (gP _ _ _)) (Evt.bind (greater_ev2 (gP _ _ _) (gP _ _ _)) (Evt.bind (greater_ev2 (maxD_gd (gP _ _ _) (gP _ _ _)) (maxD_gd (gP _ _ _) (gP _ _ _))) ?_))
  exact Evt.bind (roundOut_ev (p:=16) (ends4_gd (gP _ _ _) (gP _ _ _) (gP _ _ _) (gP _ _ _)) (by omega)) .pure

def smO(a b:Int×Int):Option (Int×Int):=if (sumD a b).2 then some (sumD a b).1 else none
def addO(i k:Iv):Option Iv:=match smO i.1 k.1,smO i.2 k.2 with
 | some a,some b=>some (a,b)
 | _,_=>none
def subO(i k:Iv):Option Iv:=addO i (ng k.2,ng k.1)
theorem addO_gd{i k t:Iv}(h:addO i k=some t):gdI t:=by
 unfold addO smO at h
 split at h
 ·rename_i h1 h2
  cases h
  split at h1
  ·cases h1
   split at h2
   ·cases h2;exact⟨sumD_gd _ _,sumD_gd _ _⟩
   ·cases h2
  ·cases h1
 ·cases h
theorem ivAdd_ev{i k':Iv}(hi:gdI i)(hk:gdI k'):Evt (fun k _=>spec_ivAdd k i k') (match addO i k' with | some t=>(t,true) | none=>(((0,0),0,0),false)):=by
 refine Evt.eq (f:=fun k q=>_) ?_ (fun k q=>by rw [spec_ivAdd])
 refine Evt.bind (dyAdd_ev hi.1 hk.1) (Evt.bind (dyAdd_ev hi.2 hk.2) (.const ?_))
 unfold spec_ivBoth addO smO
 cases (sumD i.1 k'.1).2 <;> cases (sumD i.2 k'.2).2 <;> rfl
theorem ivSub_ev{i k':Iv}(hi:gdI i)(hk:gdI k'):Evt (fun k _=>spec_ivSub k i k') (match subO i k' with | some t=>(t,true) | none=>(((0,0),0,0),false)):=by
 refine Evt.eq (f:=fun k q=>_) ?_ (fun k q=>by rw [spec_ivSub])
 have hmn:spec_ivMinus k'=some (ng k'.2,ng k'.1):=by
  unfold spec_ivMinus
  rw [dyMinus_eq hk.2,Option.bind_some,dyMinus_eq hk.1]
  rfl
 refine Evt.bind (.const hmn) (Evt.bind (ivAdd_ev hi (k':=(ng k'.2,ng k'.1)) ⟨gd_neg hk.2,gd_neg hk.1⟩) ?_)
 unfold subO
 exact .pure
theorem add_ev2{b:Bool}{i k':Iv}(hi:gdI i)(hk:gdI k'):∃v,gdI v∧(b=true→(addO i k').isSome=true→addO i k'=some v)∧(∀f:Nat→Option ((Int×Int)×Bool),True) ∧
  ∃r2 r4:(Int×Int)×Bool,v=(r2.1,r4.1)∧r4.2=(b&&(addO i k').isSome)∧Evt (fun k _=>impl_reckoner_sum k b i.1 k'.1) r2∧Evt (fun k _=>impl_reckoner_sum k r2.2 i.2 k'.2) r4:=by
 let S (c:Bool) (x y:Int×Int):(Int×Int)×Bool:=if c then sumD x y else((0,0),false)
 have gS:∀c x y,gd (S c x y).1:=by
  intro c x y
  simp only [S]
  split
  ·exact sumD_gd _ _
  ·decide
 have eS:∀c x y,(S c x y).2=(c&&(smO x y).isSome):=by
  intro c x y
  simp only [S]
  cases c with
  | false=>rfl
  | true =>
   unfold smO
   simp only [if_true,Bool.true_and]
   cases (sumD x y).2 <;> rfl
 refine⟨((S b i.1 k'.1).1,(S (S b i.1 k'.1).2 i.2 k'.2).1),⟨gS _ _ _,gS _ _ _⟩,?_,fun _=>trivial,S b i.1 k'.1,S (S b i.1 k'.1).2 i.2 k'.2,rfl,?_,reckoner_sum_ev hi.1 hk.1,reckoner_sum_ev hi.2 hk.2⟩
 ·intro hb hs
  subst hb
  have hv:∀ {x y t},smO x y=some t→(S true x y).1=t:=by
   intro x y t h
   simp only [S,if_true]
   unfold smO at h
   split at h
   ·cases h;rfl
   ·cases h
  unfold addO at hs ⊢
  split at hs
  ·rename_i a c h1 h2
   try simp only [h1,h2]
   have t1:(S true i.1 k'.1).2=true:=by rw [eS,h1];rfl
   rw [hv h1,t1,hv h2]
  ·cases hs
 ·simp only [eS]
  unfold addO
  cases b with
  | false=>rfl
  | true=>cases smO i.1 k'.1 <;> cases smO i.2 k'.2 <;> rfl
theorem addI_ev{b:Bool}{i k':Iv}(hi:gdI i)(hk:gdI k'):∃v,gdI v∧(b=true→(addO i k').isSome=true→addO i k'=some v)∧Evt (fun k _=>impl_reckoner_add k b i k') (v,b&&(addO i k').isSome):=by
 obtain⟨v,gv,hv,_,r2,r4,rfl,hf,e1,e2⟩:=add_ev2 (b:=b) hi hk
 refine⟨_,gv,hv,?_⟩
 rw [←hf]
 refine Evt.eq (f:=fun k q=>_) ?_ (fun k q=>by rw [impl_reckoner_add])
 exact Evt.bind e1 (Evt.bind e2 .pure)
theorem subI_ev{b:Bool}{i k':Iv}(hi:gdI i)(hk:gdI k'):∃v,gdI v∧(b=true→(subO i k').isSome=true→subO i k'=some v)∧Evt (fun k _=>impl_reckoner_subtract k b i k') (v,b&&(subO i k').isSome):=by
 obtain⟨v,gv,hv,_,r2,r4,rfl,hf,e1,e2⟩:=add_ev2 (b:=b) hi (k':=(ng k'.2,ng k'.1)) ⟨gd_neg hk.2,gd_neg hk.1⟩
 refine⟨_,gv,hv,?_⟩
 unfold subO
 rw [←hf]
 refine Evt.eq (f:=fun k q=>_) ?_ (fun k q=>by rw [impl_reckoner_subtract])
 exact Evt.bind (.const (minus_eq hk.2)) (Evt.bind e1 (Evt.bind (.const (minus_eq hk.1)) (Evt.bind e2 .pure)))
end Go.Ev.G

namespace Go.Ev.G
open Go Go.Ev
set_option maxRecDepth 100000

abbrev zI:Iv:=((0,0),0,0)
theorem zI_gd:gdI zI:=⟨by decide,by decide⟩
theorem addO_zero{p:Iv}(h:gdI p):addO zI p=some p:=by
 unfold addO smO
 rw [sumD_zero h.1,sumD_zero h.2]
 rfl
def oI(o:Option Iv):Iv×Bool:=match o with
 | some t=>(t,true)
 | none=>(zI,false)

theorem getI_mem{r:List Iv}{j:Nat}(h:j<r.length):r.getD j zI∈r:=by
 rw [List.getD_eq_getElem?_getD,List.getElem?_eq_getElem h]
 exact List.getElem_mem h

end Go.Ev.G

namespace Go.Ev.G
open Go Go.Ev
set_option maxRecDepth 100000

theorem sv_mkD{n:Int}{k:Nat}(h:(mkD n k).2=true):sv (mkD n k).1*2 ^ k=n*2 ^ 24:=by
 unfold mkD at h ⊢
 split at h
 ·rename_i hs
  rw [if_pos hs]
  have hv:=strip_val k n
  have hle:=strip_le k n
  generalize strip k n=s at hv hle hs
  unfold sv
  simp only [Int.toNat_natCast]
  rw [←hv,Int.mul_assoc,Int.mul_assoc,←Int.pow_add,←Int.pow_add]
  congr 2
  omega
 ·cases h
theorem prO_sv{a b t:Int×Int}(ha:gd a)(hb:gd b)(h:prO (a,b)=some t):sv t*2 ^ 24=sv a*sv b:=by
 obtain⟨n,j,rfl,hj,_,_,_⟩:=gd_nat ha
 obtain⟨m,i,rfl,hi,_,_,_⟩:=gd_nat hb
 unfold prO prodD at h
 simp only [Int.toNat_natCast]at h
 cases hc:(mkD (n*m) (j+i)).2 with
 | false=>rw [hc]at h;simp at h
 | true =>
  rw [hc,if_pos rfl]at h
  cases h
  have e:=sv_mkD hc
  have hpp:(0:Int)<2 ^ (j+i):=Int.pow_pos (by decide)
  refine Int.eq_of_mul_eq_mul_right (Int.ne_of_gt hpp) ?_
  rw [Int.mul_assoc,Int.mul_comm (2 ^ 24),←Int.mul_assoc,e]
  unfold sv
  simp only [Int.toNat_natCast]
  have e1:(2:Int) ^ 24*2 ^ 24=2 ^ (24 - j)*2 ^ (24 - i)*2 ^ (j+i):=by
   rw [←Int.pow_add,←Int.pow_add,←Int.pow_add];congr 1;omega
  have e2:n*2 ^ (24 - j)*(m*2 ^ (24 - i))*2 ^ (j+i)=n*m*(2 ^ (24 - j)*2 ^ (24 - i)*2 ^ (j+i)):=by
   simp only [Int.mul_assoc,Int.mul_left_comm,Int.mul_comm]
  rw [e2,←e1,Int.mul_assoc]

def rO(a:Int×Int):Nat→Option (Int×Int)
 | 0=>some (1,0)
 | n+1=>match rO a n with
  | some t=>prO (t,a)
  | none=>none
theorem rO_gd{a t:Int×Int}:∀ {n:Nat},rO a n=some t→gd t
 | 0,h=>by cases h;decide
 | n+1,h=>by
  unfold rO at h
  split at h
  ·exact prO_gd h
  ·cases h
theorem rO_sv{a:Int×Int}(ha:gd a):∀(n:Nat) (t:Int×Int),rO a n=some t→sv t*(2 ^ 24) ^ n=2 ^ 24*sv a ^ n
 | 0,t,h=>by cases h;simp [sv]
 | n+1,t,h=>by
  unfold rO at h
  split at h
  ·rename_i s hs
   have h1:=prO_sv (rO_gd hs) ha h
   have h2:=rO_sv ha n s hs
   rw [Int.pow_succ (2 ^ 24) n,Int.pow_succ (sv a) n,show sv t*((2 ^ 24) ^ n*2 ^ 24)=sv t*2 ^ 24*(2 ^ 24) ^ n by rw [Int.mul_comm ((2 ^ 24) ^ n),Int.mul_assoc],h1,←Int.mul_assoc,←h2]
   simp only [Int.mul_left_comm,Int.mul_comm]
  ·cases h
theorem prO_one{a:Int×Int}(h:gd a):prO ((1,0),a)=some a:=by
 unfold prO prodD
 have:=mkD_self h
 simp only [Int.one_mul,show Int.toNat (0:Int)=0 from rfl,Nat.zero_add,this,if_true]
theorem rO_one{a:Int×Int}(h:gd a):rO a 1=some a:=prO_one h
theorem cube_le{x y:Int}(h:x≤y):x*x*x≤y*y*y:=by
 have pos:∀ {x y:Int},0≤x→x≤y→x*x*x≤y*y*y:=fun {x y} h0 h =>
  Int.mul_le_mul (Int.mul_le_mul h h h0 (by omega)) h h0 (Int.mul_nonneg (by omega) (by omega))
 have npos:∀ {x:Int},0≤x→0≤x*x*x:=fun h=>Int.mul_nonneg (Int.mul_nonneg h h) h
 have neg:∀(x:Int),(-x)*(-x)*(-x) = -(x*x*x):=fun x=>by simp [Int.neg_mul,Int.mul_neg]
 by_cases h0:0≤x
 ·exact pos h0 h
 ·have a1:=npos (x := -x) (by omega)
  rw [neg]at a1
  by_cases h1:0≤y
  ·have a2:=npos h1;omega
  ·have:=pos (x := -y) (y := -x) (by omega) (by omega)
   rw [neg,neg]at this
   omega
theorem rO_le{a b s t:Int×Int}(ha:gd a)(hb:gd b)(hab:sv a≤sv b){n:Nat}(hn:n=1∨n=3)(h:rO a n=some s)(h':rO b n=some t):sv s≤sv t:=by
 have h1:=rO_sv ha n s h
 have h2:=rO_sv hb n t h'
 have hp:sv a ^ n≤sv b ^ n:=by
  rcases hn with rfl | rfl
  ·rw [Int.pow_one,Int.pow_one];exact hab
  ·have:=cube_le hab
   simpa [Int.pow_succ] using this
 have hq:(0:Int)<(2 ^ 24) ^ n:=Int.pow_pos (by decide)
 have:sv s*(2 ^ 24) ^ n≤sv t*(2 ^ 24) ^ n:=by
  rw [h1,h2]
  exact Int.mul_le_mul_of_nonneg_left hp (by decide)
 exact Int.le_of_mul_le_mul_right this hq
theorem rO_nonneg{a s:Int×Int}(ha:gd a){n:Nat}(hn:n=2∨n=4)(h:rO a n=some s):0≤sv s:=by
 have h1:=rO_sv ha n s h
 have hp:0≤sv a ^ n:=by
  have h2:0≤sv a*sv a:=by
   rcases Int.le_total 0 (sv a)with h | h
   ·exact Int.mul_nonneg h h
   ·exact Int.mul_nonneg_of_nonpos_of_nonpos h h
  rcases hn with rfl | rfl
  ·simpa [Int.pow_succ] using h2
  ·have:=Int.mul_nonneg h2 h2
   simpa [Int.pow_succ,Int.mul_assoc] using this
 have hq:(0:Int)<(2 ^ 24) ^ n:=Int.pow_pos (by decide)
 have:0*(2 ^ 24) ^ n≤sv s*(2 ^ 24) ^ n:=by
  rw [h1,Int.zero_mul]
  exact Int.mul_nonneg (by decide) hp
 exact Int.le_of_mul_le_mul_right this hq
def zin(i:Iv):Bool:=decide (i.1.1≤0)&&decide (0≤i.2.1)
def powO(i:Iv)(n:Nat):Option Iv:=if n=0 then some ((1,0),1,0)else match rO i.1 n,rO i.2 n with
 | some l,some h=>some (rdI 16 (if n % 2=0 then(if zin i then(0,0)else minD l h,maxD l h)else(l,h)))
 | _,_=>none
theorem powO_gd{i v:Iv}{n:Nat}(h:powO i n=some v):gdI v:=by
 unfold powO at h
 split at h
 ·cases h;exact⟨one_gd,one_gd⟩
 ·split at h
  ·rename_i l h h1 h2
   cases h
   have g1:=rO_gd h1
   have g2:=rO_gd h2
   refine rdI_gd ?_
   split
   ·refine⟨?_,maxD_gd g1 g2⟩
    simp only
    split
    ·decide
    ·exact minD_gd g1 g2
   ·exact⟨g1,g2⟩
  ·cases h
theorem pow_ends{i:Iv}{l h:Int×Int}(hi:ivGd i){n:Nat}(hn:n≤4)(h0:n≠0)(h1:rO i.1 n=some l)(h2:rO i.2 n=some h) :
  foldE (l,l) (if n % 2=0∧zin i=true then [l,h,(0,0)]else [l,h])=(if n % 2=0 then(if zin i then(0,0)else minD l h,maxD l h)else(l,h)):=by
 have gl:=rO_gd h1
 have gh:=rO_gd h2
 have g0:gd (0,0):=by decide
 have m1:minD l l=l:=by unfold minD;split <;> rfl
 have m2:maxD l l=l:=by unfold maxD;split <;> rfl
 have s0:sv (0,0)=0:=by decide
 by_cases he:n % 2=0
 ·have c:=rO_nonneg hi.1 (n:=n) (by omega) h1
  have d:=rO_nonneg hi.2.1 (n:=n) (by omega) h2
  cases hz:zin i with
  | true =>
   simp only [he,true_and,if_true,foldE,m1,m2]
   refine Prod.ext (sv_inj ?_ g0 ?_) (sv_inj ?_ ?_ ?_)
   ·exact minD_gd (minD_gd gl gh) g0
   ·simp only [minD_sv,s0];omega
   ·exact maxD_gd (maxD_gd gl gh) g0
   ·exact maxD_gd gl gh
   ·simp only [maxD_sv,s0];omega
  | false=>simp [he,foldE,m1,m2]
 ·have c:=rO_le hi.1 hi.2.1 hi.2.2 (n:=n) (by omega) h1 h2
  simp only [he,false_and,if_false,foldE,m1,m2]
  refine Prod.ext (sv_inj (minD_gd gl gh) gl ?_) (sv_inj (maxD_gd gl gh) gh ?_)
  ·simp only [minD_sv];omega
  ·simp only [maxD_sv];omega
theorem rdI_one:rdI 16 ((1,0),1,0)=((1,0),1,0):=by decide

theorem mkD_ok{n:Int}{k:Nat}(h1 : -1099511627776≤n)(h2:n≤1099511627776)(hk:k≤24):(mkD n k).2=true:=by
 have a:=strip_le k n
 have b : -1099511627776≤(strip k n).1∧(strip k n).1≤1099511627776:=by
  rcases Int.le_total 0 n with h | h
  ·have:=strip_bound k n h;omega
  ·have:=strip_bound k (-n) (by omega)
   rw [strip_neg]at this
   simp only at this
   omega
 unfold mkD
 rw [if_pos ⟨b.1,b.2,by omega⟩]
theorem rdD_sv{p:Nat}{a:Int×Int}(ha:gd a)(hp:p≤24):sv (rdD p a)≤sv a:=by
 obtain⟨n,j,rfl,hj,h1,h2,hn⟩:=gd_nat ha
 unfold rdD
 simp only [Int.toNat_natCast]
 by_cases h:j≤p
 ·rw [if_pos (by omega)];exact Int.le_refl _
 ·rw [if_neg (by omega)]
  have hq:0<2 ^ (j - p):=Nat.pow_pos (by omega)
  have hb:=div_bound hq h1 h2
  have e:=sv_mkD (mkD_ok hb.1 hb.2 hp)
  generalize mkD (n / ((2 ^ (j - p):Nat):Int)) p=m at e
  have hpp:(0:Int)<2 ^ p:=Int.pow_pos (by decide)
  have hd:n / ((2 ^ (j - p):Nat):Int)*((2 ^ (j - p):Nat):Int)≤n:=Int.ediv_mul_le _ (by omega)
  have e2:sv (n,(j:Int))*2 ^ p=n*2 ^ (24 - (j - p)):=by
   unfold sv
   simp only [Int.toNat_natCast]
   rw [Int.mul_assoc,←Int.pow_add]
   congr 2
   omega
  have e3:n / ((2 ^ (j - p):Nat):Int)*2 ^ 24=n / ((2 ^ (j - p):Nat):Int)*((2 ^ (j - p):Nat):Int)*2 ^ (24 - (j - p)):=by
   rw [Int.natCast_pow,Int.mul_assoc]
   have:((2:Nat):Int)=2:=rfl
   rw [this,←Int.pow_add]
   congr 2
   omega
  have hh:sv m.1*2 ^ p≤sv (n,(j:Int))*2 ^ p:=by
   rw [e,e2,e3]
   exact Int.mul_le_mul_of_nonneg_right hd (Int.le_of_lt (Int.pow_pos (by decide)))
  exact Int.le_of_mul_le_mul_right hh hpp
theorem rdI_iv{p:Nat}{x:Iv}(h:gdI x)(hle:sv x.1≤sv x.2)(hp:p≤24):ivGd (rdI p x):=by
 have g:=rdI_gd (p:=p) h
 refine⟨g.1,g.2,?_⟩
 have a:=rdD_sv (p:=p) h.1 hp
 have b:=rdD_sv (p:=p) (gd_neg h.2) hp
 have c:sv (ng x.2) = - sv x.2:=sv_neg _
 have d:sv (ng (rdD p (ng x.2))) = - sv (rdD p (ng x.2)):=sv_neg _
 unfold rdI
 simp only [d]
 have e:sv (rdD p (-x.2.1,x.2.2))≤sv (-x.2.1,x.2.2):=b
 have f:sv (-x.2.1,x.2.2) = - sv x.2:=sv_neg _
 have k:sv (rdD p (ng x.2))=sv (rdD p (-x.2.1,x.2.2)):=rfl
 omega
theorem mulO_iv{i k t:Iv}(h:mulO i k=some t):ivGd t:=by
 unfold mulO at h
 split at h
 ·rename_i h1 h2 h3 h4
  cases h
  refine rdI_iv (ends4_gd (prO_gd h1) (prO_gd h2) (prO_gd h3) (prO_gd h4)) ?_ (by omega)
  simp only [ends4,minD_sv,maxD_sv]
  omega
 ·cases h
theorem sumD_sv{a b:Int×Int}(ha:gd a)(hb:gd b)(h:(sumD a b).2=true):sv (sumD a b).1=sv a+sv b:=by
 have e:=sv_mkD h
 unfold sumD at e ⊢
 generalize hm:mkD (sumN a b) (exA a b)=m at e
 unfold sumN at e
 obtain⟨n,j,rfl,hj,_⟩:=gd_nat ha
 obtain⟨o,i,rfl,hi,_⟩:=gd_nat hb
 have hK:exA (n,(j:Int)) (o,(i:Int))=max j i:=by simp [exA]
 rw [hK]at e
 simp only [Int.toNat_natCast]at e
 have hpp:(0:Int)<2 ^ max j i:=Int.pow_pos (by decide)
 have e1:∀(x:Int) (u:Nat),u≤max j i→u≤24→x*2 ^ (max j i - u)*2 ^ 24=x*2 ^ (24 - u)*2 ^ max j i:=by
  intro x u h1 h2
  rw [Int.mul_assoc,Int.mul_assoc,←Int.pow_add,←Int.pow_add]
  congr 2
  omega
 refine Int.eq_of_mul_eq_mul_right (Int.ne_of_gt hpp) ?_
 rw [e,Int.add_mul,Int.add_mul,e1 n j (by omega) hj,e1 o i (by omega) hi]
 rfl
theorem addO_iv{i k t:Iv}(hi:ivGd i)(hk:ivGd k)(h:addO i k=some t):ivGd t:=by
 have g:=addO_gd h
 refine⟨g.1,g.2,?_⟩
 unfold addO smO at h
 split at h
 ·rename_i h1 h2
  cases h
  split at h1
  ·rename_i c1
   cases h1
   split at h2
   ·rename_i c2
    cases h2
    simp only
    rw [sumD_sv hi.1 hk.1 c1,sumD_sv hi.2.1 hk.2.1 c2]
    have:=hi.2.2
    have:=hk.2.2
    omega
   ·cases h2
  ·cases h1
 ·cases h
end Go.Ev.G

namespace Go.Ev.G
open Go Go.Ev
set_option maxRecDepth 100000

theorem tmod2N(n:Nat):Int.tmod (n:Int) 2=((n % 2:Nat):Int):=rfl
theorem rO_none{a:Int×Int}{j:Nat}(h:rO a j=none):∀ {m:Nat},rO a (j+m)=none
 | 0=>h
 | m+1=>by
  have:=rO_none h (m:=m)
  rw [←Nat.add_assoc,rO,this]
theorem ivRaise_loop{a z:Int×Int}(ha:gd a){N:Nat}(hN:N≤4):∀(m j:Nat) (t:Int×Int),j+m=N→rO a j=some t→Evt (fun k n=>spec_ivRaise_L28 k n m a z t) (match rO a N with | some v => .inr (z,v,()) | none => .inl ((0,0),false))
 | 0,j,t,hj,ht=>by
  refine Evt.step (fun k n=>spec_ivRaise_L28.eq_2 k _ _ _ _ n) (Evt.cfalse rfl ?_)
  have:j=N:=by omega
  rw [←this,ht]
  exact .pure
 | m+1,j,t,hj,ht=>by
  refine Evt.step (fun k n=>spec_ivRaise_L28.eq_2 k _ _ _ _ n) (Evt.ctrue (decide_eq_true (by omega)) ?_)
  refine Evt.bind (mul1_ev (rO_gd ht) ha) ?_
  have e:rO a (j+1)=prO (t,a):=by rw [rO,ht]
  cases h:prO (t,a)with
  | none =>
   rw [h]at e
   have:=rO_none e (m:=m)
   rw [show j+1+m=N by omega]at this
   rw [this]
   exact Evt.ctrue rfl .pure
  | some v =>
   rw [h]at e
   refine Evt.cfalse rfl ?_
   have w:IntKind.wrap .i64 (((m+1:Nat):Int) - 1)=(m:Int):=by rw [w64 (by omega) (by omega)];omega
   rw [w]
   exact ivRaise_loop ha hN m (j+1) v (by omega) e
theorem ivRaise_ev{a:Int×Int}{n:Nat}(ha:gd a)(hn:n≤4):Evt (fun k _=>spec_ivRaise k a n) (match rO a n with | some v=>(v,true) | none=>((0,0),false)):=by
 refine Evt.eq (f:=fun k q=>_) ?_ (fun k q=>by rw [spec_ivRaise])
 refine Evt.bind (.const rfl) ?_
 have h:=ivRaise_loop (z:=(0,0)) ha hn n 0 (1,0) (by omega) rfl
 cases hr:rO a n with
 | none=>rw [hr]at h;exact Evt.inl (Evt.diag h) .pure
 | some v=>rw [hr]at h;exact Evt.inr (Evt.diag h) .pure
theorem ivZero_eq(i:Iv):spec_ivZero i=some (zin i):=by
 unfold spec_ivZero zin
 cases h:decide (i.1.1≤0) <;> simp
theorem foldE_iv{x:Int×Int}:∀ {xs:Pt} {s:Iv},gdI s→(∀y∈xs,gd y)→gdI (foldE s xs)
 | [],s,hs,_=>hs
 | y::r,s,hs,h=>by
  unfold foldE
  exact foldE_iv (x:=x) ⟨minD_gd hs.1 (h y (by simp)),maxD_gd hs.2 (h y (by simp))⟩ (fun z hz=>h z (by simp [hz]))
theorem ivPower_ev{i:Iv}{n:Nat}(hi:ivGd i)(hn:n≤4):Evt (fun k _=>spec_ivPower k i n) (oI (powO i n)):=by
 refine Evt.eq (f:=fun k q=>_) ?_ (fun k q=>by rw [spec_ivPower])
 refine Evt.bind (ivRaise_ev hi.1 hn) (Evt.bind (ivRaise_ev hi.2.1 hn) ?_)
 by_cases h0:n=0
 ·subst h0
  refine Evt.cfalse rfl (Evt.cfalse rfl ?_)
  refine Evt.inr (y:=(((0,0),0,0),[(1,0),(1,0)],())) (Evt.cfalse rfl .pure) ?_
  refine Evt.bind (ivEnds_ev (x:=(1,0)) (xs := [(1,0)]) (by simp [one_gd]) (by simp [lenB])) ?_
  have e:foldE ((1,0),1,0) [(1,0),(1,0)]=((1,0),1,0):=by decide
  rw [e]
  refine Evt.bind (ivRound_ev (p:=16) ⟨one_gd,one_gd⟩ (by omega)) ?_
  rw [rdI_one]
  exact .pure
 ·unfold powO
  rw [if_neg h0]
  cases h1:rO i.1 n with
  | none=>exact Evt.ctrue rfl .pure
  | some l =>
   refine Evt.cfalse rfl ?_
   cases h2:rO i.2 n with
   | none=>exact Evt.ctrue rfl .pure
   | some h =>
    refine Evt.cfalse rfl ?_
    have gl:=rO_gd h1
    have gh:=rO_gd h2
    have g0:gd (0,0):=by decide
    have ends:=pow_ends hi hn h0 h1 h2
    have tm:Int.tmod (n:Int) 2=((n % 2:Nat):Int):=tmod2N n
    have fin:∀xs:Pt,(∀y∈l::xs,gd y)→(l::xs).length≤3→Evt (fun k _=>Option.bind (spec_ivEnds k (l::xs)) fun r6=>Option.bind (spec_ivRound k r6 16) fun r7=>some (r7,true)) (rdI 16 (foldE (l,l) (l::xs)),true):=by
     intro xs hx hlen
     refine Evt.bind (ivEnds_ev (x:=l) (xs:=xs) hx (by simp only [lenB];omega)) (Evt.bind (ivRound_ev (p:=16) (foldE_iv (x:=l) ⟨gl,gl⟩ hx) (by omega)) .pure)
    by_cases he:n % 2=0
    ·cases hz:zin i with
     | true =>
      refine Evt.inr (y:=(((0,0),0,0),[l,h,(0,0)],())) (Evt.ctrue (decide_eq_true (by omega)) (Evt.ctrue (by rw [tm,he];rfl) (Evt.bind (.const (ivZero_eq i)) ?_))) ?_
      ·rw [hz]
       exact Evt.ctrue rfl (Evt.bind (.const rfl) (Evt.ctrue rfl .pure))
      ·rw [if_pos ⟨he,hz⟩]at ends
       rw [hz]at ends
       have:=fin [h,(0,0)] (by simp [gl,gh,g0]) (by simp)
       rw [ends]at this
       exact this
     | false =>
      refine Evt.inr (y:=(((0,0),0,0),[l,h],())) (Evt.ctrue (decide_eq_true (by omega)) (Evt.ctrue (by rw [tm,he];rfl) (Evt.bind (.const (ivZero_eq i)) ?_))) ?_
      ·rw [hz]
       exact Evt.cfalse rfl .pure
      ·rw [if_neg (by simp [hz])]at ends
       rw [hz]at ends
       have:=fin [h] (by simp [gl,gh]) (by simp)
       rw [ends]at this
       exact this
    ·refine Evt.inr (y:=(((0,0),0,0),[l,h],())) (Evt.ctrue (decide_eq_true (by omega)) (Evt.cfalse ?_ .pure)) ?_
     ·rw [tm]
      have:n % 2=1:=by omega
      rw [this];rfl
     ·rw [if_neg (by simp [he])]at ends
      have:=fin [h] (by simp [gl,gh]) (by simp)
      rw [ends]at this
      exact this

def sgI(i:Iv):Int:=if 0<i.1.1 then 1 else if i.2.1<0 then -1 else 0
theorem signOf_eq(i:Iv):impl_signOf i=some (sgI i):=by
 unfold impl_signOf sgI
 by_cases h:0<i.1.1
 ·rw [decide_eq_true h,if_pos h];rfl
 ·rw [decide_eq_false h,if_neg h]
  by_cases h2:i.2.1<0
  ·rw [decide_eq_true h2,if_pos h2];rfl
  ·rw [decide_eq_false h2,if_neg h2];rfl
theorem sgI_zero(i:Iv):(sgI i==0)=zin i:=by
 unfold sgI zin
 by_cases h:0<i.1.1
 ·rw [if_pos h,decide_eq_false (by omega)];rfl
 ·rw [if_neg h,decide_eq_true (by omega)]
  by_cases h2:i.2.1<0
  ·rw [if_pos h2,decide_eq_false (by omega)];rfl
  ·rw [if_neg h2,decide_eq_true (by omega)];rfl
def bothP(i:Iv)(j:Nat):Bool:=(rO i.1 j).isSome&&(rO i.2 j).isSome
theorem prod_flag1{c:Bool}{s a:Int×Int}:(if c=true then prodD s a else((0,0),false)).2=(c&&(prO (s,a)).isSome):=by
 cases c with
 | false=>rfl
 | true =>
  unfold prO
  simp only [if_true,Bool.true_and]
  cases (prodD s a).2 <;> rfl
theorem prod_val1{c:Bool}{s a v:Int×Int}(hc:c=true)(h:prO (s,a)=some v):(if c=true then prodD s a else((0,0),false)).1=v:=by
 subst hc
 unfold prO at h
 simp only [if_true]
 split at h
 ·cases h;rfl
 ·cases h
theorem prod_gd1{c:Bool}{s a:Int×Int}:gd (if c=true then prodD s a else((0,0),false)).1:=by
 split
 ·exact prodD_gd _ _
 ·decide
theorem power_loop{b:Bool}{i z:Iv}{x2:Int}(hi:ivGd i){N:Nat}(hN:N≤3):∀(m j:Nat) (c:Bool) (l h:Int×Int),j+m=N→gd l→gd h→c=(b&&bothP i (j+1))→(c=true→rO i.1 (j+1)=some l∧rO i.2 (j+1)=some h) →
  ∃l' h',gd l'∧gd h'∧((b&&bothP i (N+1))=true→rO i.1 (N+1)=some l'∧rO i.2 (N+1)=some h')∧Evt (fun k n=>impl_reckoner_power_L122 k n c x2 i z l h N j) (.inr (x2,i,z,l',h',b&&bothP i (N+1),()))
 | 0,j,c,l,h,hj,gl,gh,hc,hv=>by
  have e:j=N:=by omega
  subst e
  refine⟨l,h,gl,gh,by rw [←hc];exact hv,?_⟩
  refine Evt.step (fun k n=>impl_reckoner_power_L122.eq_2 k _ _ _ _ _ _ _ _ n) (Evt.cfalse (decide_eq_false (by omega)) ?_)
  rw [hc]
  exact .pure
 | m+1,j,c,l,h,hj,gl,gh,hc,hv=>by
  have e1:=reckoner_product_ev (b:=c) gl hi.1
  have e2:=reckoner_product_ev (b:=(if c=true then prodD l i.1 else((0,0),false)).2) gh hi.2.1
  have hstep:∀(a:Int×Int) (s:Int×Int),rO a (j+1)=some s→rO a (j+1+1)=prO (s,a):=by
   intro a s hs
   rw [rO,hs]
  have hflag:(if (if c=true then prodD l i.1 else((0,0),false)).2=true then prodD h i.2 else((0,0),false)).2=(b&&bothP i (j+1+1)):=by
   rw [prod_flag1,prod_flag1]
   cases hcc:c with
   | true =>
    obtain⟨q1,q2⟩:=hv hcc
    rw [hcc]at hc
    have hb:b=true:=by cases b with | false=>cases hc | true=>rfl
    unfold bothP
    rw [hstep _ _ q1,hstep _ _ q2,hb]
    rfl
   | false =>
    rw [hcc]at hc
    cases b with
    | false=>rfl
    | true =>
     unfold bothP at hc ⊢
     cases q1:rO i.1 (j+1)with
     | none =>
      have:=rO_none q1 (m:=1)
      rw [this];rfl
     | some _ =>
      cases q2:rO i.2 (j+1)with
      | none =>
       have:=rO_none q2 (m:=1)
       rw [this];simp
      | some _=>rw [q1,q2]at hc;cases hc
  obtain⟨l',h',r1,r2,r3,r4⟩:=power_loop hi hN m (j+1) (b&&bothP i (j+1+1)) (if c=true then prodD l i.1 else((0,0),false)).1 (if (if c=true then prodD l i.1 else((0,0),false)).2=true then prodD h i.2 else((0,0),false)).1 (by omega) prod_gd1 prod_gd1 rfl (by
   intro hf
   rw [←hflag]at hf
   rw [prod_flag1]at hf
   have hf1:=hf
   rw [Bool.and_eq_true]at hf
   have hf2:=hf.1
   rw [prod_flag1,Bool.and_eq_true]at hf2
   obtain⟨q1,q2⟩:=hv hf2.1
   obtain⟨v1,w1⟩:=Option.isSome_iff_exists.1 hf2.2
   obtain⟨v2,w2⟩:=Option.isSome_iff_exists.1 hf.2
   rw [hstep _ _ q1,hstep _ _ q2,w1,w2,prod_val1 hf2.1 w1,prod_val1 hf.1 w2]
   exact⟨rfl,rfl⟩)
  refine⟨l',h',r1,r2,r3,?_⟩
  refine Evt.step (fun k n=>impl_reckoner_power_L122.eq_2 k _ _ _ _ _ _ _ _ n) (Evt.ctrue (decide_eq_true (by omega)) ?_)
  refine Evt.bind e1 (Evt.bind e2 ?_)
  have w:IntKind.wrap .i64 ((j:Int)+1)=((j+1:Nat):Int):=by rw [w64 (by omega) (by omega)];omega
  rw [w,hflag]
  exact r4
theorem power_ev{b:Bool}{i:Iv}{n:Nat}(hi:ivGd i)(hn:n≤4):∃v,gdI v∧(b=true→(powO i n).isSome=true→powO i n=some v)∧Evt (fun k _=>impl_reckoner_power k b i n) (v,b&&(powO i n).isSome):=by
 by_cases h0:n=0
 ·subst h0
  refine⟨((1,0),1,0),⟨one_gd,one_gd⟩,fun _ _=>rfl,?_⟩
  refine Evt.eq (f:=fun k q=>_) ?_ (fun k q=>by rw [impl_reckoner_power])
  rw [show(powO i 0).isSome=true from rfl,Bool.and_true]
  exact Evt.ctrue rfl (Evt.bind (.const rfl) (Evt.bind (.const rfl) .pure))
 ·obtain⟨N,rfl⟩:∃N,n=N+1:=⟨n - 1,by omega⟩
  have g0:gd (0,0):=by decide
  obtain⟨l,h,gl,gh,hv,hl⟩:=power_loop (b:=b) (z:=((0,0),0,0)) (x2:=((N+1:Nat):Int)) hi (N:=N) (by omega) N 0 b i.1 i.2 (by omega) hi.1 hi.2.1 (by unfold bothP;rw [rO_one hi.1,rO_one hi.2.1];simp) (fun _=>⟨rO_one hi.1,rO_one hi.2.1⟩)
  have hflag:(powO i (N+1)).isSome=bothP i (N+1):=by
   unfold powO bothP
   rw [if_neg h0]
   cases rO i.1 (N+1) <;> cases rO i.2 (N+1) <;> rfl
  have tm:Int.tmod ((N+1:Nat):Int) 2=(((N+1) % 2:Nat):Int):=tmod2N (N+1)
  let w:Iv:=if (N+1) % 2=0 then(if zin i then(0,0)else minD l h,maxD l h)else(l,h)
  have gw:gdI w:=by
   show gdI (if (N+1) % 2=0 then(if zin i then(0,0)else minD l h,maxD l h)else(l,h))
   split
   ·refine⟨?_,maxD_gd gl gh⟩
    simp only
    split
    ·exact g0
    ·exact minD_gd gl gh
   ·exact⟨gl,gh⟩
  refine⟨rdI 16 w,rdI_gd gw,?_,?_⟩
  ·intro hb hs
   rw [hflag]at hs
   obtain⟨q1,q2⟩:=hv (by rw [hb,hs];rfl)
   unfold powO
   rw [if_neg h0,q1,q2]
  ·refine Evt.eq (f:=fun k q=>_) ?_ (fun k q=>by rw [impl_reckoner_power])
   refine Evt.cfalse (by simp;omega) ?_
   have wN:IntKind.wrap .i64 (((N+1:Nat):Int) - 1)=(N:Int):=by rw [w64 (by omega) (by omega)];omega
   rw [wN,hflag]
   refine Evt.inr (Evt.diag hl) ?_
   refine Evt.inr (y:=(((0,0),0,0),w.1,w.2,b&&bothP i (N+1),())) ?_ ?_
   ·by_cases he:(N+1) % 2=0
    ·refine Evt.ctrue (by rw [tm,he];rfl) ?_
     refine Evt.bind (lesser_ev gl gh) (Evt.bind (greater_ev2 gl gh) (Evt.bind (.const (signOf_eq i)) ?_))
     rw [sgI_zero]
     have ew:w=(if zin i then(0,0)else minD l h,maxD l h):=if_pos he
     rw [ew]
     cases hz:zin i with
     | true=>exact Evt.ctrue rfl (Evt.bind (.const rfl) .pure)
     | false=>exact Evt.cfalse rfl .pure
    ·have ew:w=(l,h):=if_neg he
     rw [ew]
     refine Evt.cfalse ?_ .pure
     rw [tm]
     have:(N+1) % 2=1:=by omega
     rw [this];rfl
   ·exact Evt.bind (roundOut_ev (p:=16) gw (by omega)) .pure
end Go.Ev.G

namespace Go.Ev.G
open Go Go.Ev
set_option maxRecDepth 100000

def sideOk(L:Int)(p:Int×Int):Bool:=decide ((-L≤p.1∧p.1≤L)∧(-L≤p.2∧p.2≤L)∧p.1<p.2)
def sideOdd(p:Int×Int):Bool:=(Int.tmod p.1 2 != 0)||(Int.tmod p.2 2 != 0)
def bxV(b:Int×List Int×List Int):Bool :=
 decide (0≤b.1∧b.1≤8)&&(decide (1≤(b.2.1.length:Int)∧(b.2.1.length:Int)≤3)&&(decide (b.2.2.length=b.2.1.length)&&((b.2.1.zip b.2.2).all (sideOk (8*2 ^ b.1.toNat))&&(b.1==0||(b.2.1.zip b.2.2).any sideOdd))))

theorem bxGood_loop{k:Nat}{d8 L:Int}{los his:List Int}(hL:0≤L∧L≤1000000)(hb:los.length<lenB):∀(r r' d d':List Int) (b:Bool),d++r=los→d'++r'=his→d.length=d'.length→r.length=r'.length →
  Evt (fun k n=>spec_bxGood_L250 k n (d8,los,his) L b los (los.length:Int) d.length) (if (r.zip r').all (sideOk L)then .inr (b||(r.zip r').any sideOdd,())else .inl false):=by
 intro r
 induction r with
 | nil =>
  intro r' d d' b h h' hl hr
  refine Evt.step (fun k n=>spec_bxGood_L250.eq_2 k _ _ _ _ _ _ n) ?_
  rw [List.append_nil]at h
  subst h
  simp only [List.zip_nil_left,List.all_nil,List.any_nil,Bool.or_false,if_true]
  exact Evt.rng0 .pure
 | cons e r ih =>
  intro r' d d' b h h' hl hr
  obtain⟨e',r',rfl⟩:∃x y,r'=x::y:=by cases r' with
   | nil=>simp at hr
   | cons x y=>exact⟨x,y,rfl⟩
  refine Evt.step (fun k n=>spec_bxGood_L250.eq_2 k _ _ _ _ _ _ n) ?_
  have ih:=fun b=>ih r' (d ++ [e]) (d' ++ [e']) b (by simpa using h) (by simpa using h') (by simp [hl]) (by simpa using hr)
  rw [←len_next (r:=r) (by rw [h];exact hb)]at ih
  subst h
  subst h'
  simp only
  refine Evt.ctrue mid_lt (Evt.ctrue mid_ge (Evt.ctrue mid_lt (Evt.ctrue mid_ge (Evt.ctrue (two_lt (r:=r) hl) ?_))))
  rw [mid_get,two_get hl]
  have hw:IntKind.wrap .i64 (0 - L) = -L:=by rw [w64 (by omega) (by omega)];omega
  rw [hw]
  refine Evt.bind (.const (l1In_eq _ _ _)) ?_
  simp only [List.zip_cons_cons,List.all_cons,List.any_cons]
  by_cases h1 : -L≤e∧e≤L
  ·refine Evt.cfalse (by simp [h1]) (Evt.bind (.const (l1In_eq _ _ _)) ?_)
   by_cases h2 : -L≤e'∧e'≤L
   ·refine Evt.cfalse (by simp [h2]) ?_
    by_cases h3:e≥e'
    ·refine Evt.ctrue (decide_eq_true h3) ?_
     have:sideOk L (e,e')=false:=by unfold sideOk;exact decide_eq_false (by simp only;omega)
     simp only [this,Bool.false_and]
     exact .pure
    ·refine Evt.cfalse (decide_eq_false h3) ?_
     have:sideOk L (e,e')=true:=by unfold sideOk;exact decide_eq_true (by simp only;omega)
     simp only [this,Bool.true_and]
     cases b with
     | true=>exact Evt.ctrue rfl (by simpa using ih true)
     | false =>
      refine Evt.cfalse rfl ?_
      cases h4:(Int.tmod e 2 != 0)with
      | true=>refine Evt.ctrue rfl ?_;simp only [sideOdd,h4,Bool.true_or,Bool.or_true];simpa using ih true
      | false=>refine Evt.cfalse rfl ?_;simp only [sideOdd,h4,Bool.false_or];exact ih _
   ·refine Evt.ctrue (by rw [decide_eq_false h2];rfl) ?_
    have:sideOk L (e,e')=false:=by unfold sideOk;exact decide_eq_false (by simp only;omega)
    simp only [this,Bool.false_and]
    exact .pure
  ·refine Evt.ctrue (by rw [decide_eq_false h1];rfl) ?_
   have:sideOk L (e,e')=false:=by unfold sideOk;exact decide_eq_false (by simp only;omega)
   simp only [this,Bool.false_and]
   exact .pure

theorem isBox_loop{k:Nat}{d8 L:Int}{los his:List Int}(hL:0≤L∧L≤1000000)(hb:los.length<lenB):∀(r r' d d':List Int) (b:Bool),d++r=los→d'++r'=his→d.length=d'.length→r.length=r'.length →
  Evt (fun k n=>impl_isBox_L122 k n (d8,los,his) L b los (los.length:Int) d.length) (if (r.zip r').all (sideOk L)then .inr (b||(r.zip r').any sideOdd,())else .inl false):=by
 intro r
 induction r with
 | nil =>
  intro r' d d' b h h' hl hr
  refine Evt.step (fun k n=>impl_isBox_L122.eq_2 k _ _ _ _ _ _ n) ?_
  rw [List.append_nil]at h
  subst h
  simp only [List.zip_nil_left,List.all_nil,List.any_nil,Bool.or_false,if_true]
  exact Evt.rng0 .pure
 | cons e r ih =>
  intro r' d d' b h h' hl hr
  obtain⟨e',r',rfl⟩:∃x y,r'=x::y:=by cases r' with
   | nil=>simp at hr
   | cons x y=>exact⟨x,y,rfl⟩
  refine Evt.step (fun k n=>impl_isBox_L122.eq_2 k _ _ _ _ _ _ n) ?_
  have ih:=fun b=>ih r' (d ++ [e]) (d' ++ [e']) b (by simpa using h) (by simpa using h') (by simp [hl]) (by simpa using hr)
  rw [←len_next (r:=r) (by rw [h];exact hb)]at ih
  subst h
  subst h'
  simp only
  refine Evt.ctrue mid_lt (Evt.ctrue mid_ge (Evt.ctrue mid_lt ?_))
  rw [mid_get]
  have hw:IntKind.wrap .i64 (0 - L) = -L:=by rw [w64 (by omega) (by omega)];omega
  rw [hw]
  refine Evt.bind (.const (inside_eq _ _ _)) ?_
  simp only [List.zip_cons_cons,List.all_cons,List.any_cons]
  by_cases h1 : -L≤e∧e≤L
  ·refine Evt.cfalse (by simp [h1]) (Evt.ctrue mid_ge (Evt.ctrue (two_lt (r:=r) hl) ?_))
   rw [two_get hl,w64 (n:=e+1) (by omega) (by omega)]
   refine Evt.bind (.const (inside_eq _ _ _)) ?_
   by_cases h2:e+1≤e'∧e'≤L
   ·refine Evt.cfalse (by simp [h2]) ?_
    have:sideOk L (e,e')=true:=by unfold sideOk;exact decide_eq_true (by simp only;omega)
    simp only [this,Bool.true_and]
    cases b with
    | true=>exact Evt.ctrue rfl (by simpa using ih true)
    | false =>
     refine Evt.cfalse rfl ?_
     cases h4:(Int.tmod e 2 != 0)with
     | true=>refine Evt.ctrue rfl ?_;simp only [sideOdd,h4,Bool.true_or,Bool.or_true];simpa using ih true
     | false =>
      refine Evt.cfalse rfl (Evt.ctrue mid_ge (Evt.ctrue (two_lt (r:=r) hl) ?_))
      simp only [sideOdd,h4,Bool.false_or];exact ih _
   ·refine Evt.ctrue (by rw [decide_eq_false h2];rfl) ?_
    have:sideOk L (e,e')=false:=by unfold sideOk;exact decide_eq_false (by simp only;omega)
    simp only [this,Bool.false_and]
    exact .pure
  ·refine Evt.ctrue (by rw [decide_eq_false h1];rfl) ?_
   have:sideOk L (e,e')=false:=by unfold sideOk;exact decide_eq_false (by simp only;omega)
   simp only [this,Bool.false_and]
   exact .pure

theorem pow8{n:Nat}(h:n≤8):(0:Int)≤8*2 ^ n∧(8:Int)*2 ^ n≤2048:=by
 have h1:(2:Nat) ^ n≤2 ^ 8:=Nat.pow_le_pow_right (by omega) h
 have h2:((2:Int) ^ n)=((2 ^ n:Nat):Int):=by simp
 rw [h2]
 have h3:(2:Nat) ^ 8=256:=by decide
 rw [h3]at h1
 generalize (2:Nat) ^ n=q at h1
 omega

theorem bxGood_ev{b:Int×List Int×List Int}(hb:b.2.1.length<lenB):Evt (fun k _=>spec_bxGood k b) (bxV b):=by
 obtain⟨d8,los,his⟩:=b
 refine Evt.eq (f:=fun k q=>_) ?_ (fun k q=>by rw [spec_bxGood])
 unfold bxV
 simp only at hb ⊢
 refine Evt.bind (.const (l1In_eq _ _ _)) ?_
 by_cases h1:0≤d8∧d8≤8
 ·refine Evt.cfalse (by simp [h1]) (Evt.bind (.const (l1In_eq _ _ _)) ?_)
  rw [decide_eq_true h1,Bool.true_and]
  by_cases h2:1≤(los.length:Int)∧(los.length:Int)≤3
  ·refine Evt.cfalse (by rw [decide_eq_true h2];rfl) ?_
   rw [decide_eq_true h2,Bool.true_and]
   by_cases h3:his.length=los.length
   ·refine Evt.cfalse (by simp [h3]) ?_
    rw [decide_eq_true h3,Bool.true_and]
    obtain⟨m,rfl⟩:∃m:Nat,d8=m:=⟨d8.toNat,by omega⟩
    have hm:m≤8:=by omega
    have hp:=pow8 hm
    have e1:((2 ^ m:Nat):Int)=2 ^ m:=by simp
    refine Evt.bind (.const (dyPower_eq (by omega))) ?_
    rw [e1,w64 (by omega) (by omega)]
    have h0:=bxGood_loop (k:=0) (d8:=(m:Int)) (L:=8*2 ^ m) (los:=los) (his:=his) (by omega) hb los his [] [] ((m:Int)==0) rfl rfl rfl h3.symm
    simp only [List.length_nil,Int.toNat_natCast]at h0 ⊢
    cases hall:(los.zip his).all (sideOk (8*2 ^ m))with
    | true=>rw [hall]at h0;exact Evt.inr (Evt.diag h0) .pure
    | false=>rw [hall]at h0;exact Evt.inl (Evt.diag h0) .pure
   ·refine Evt.ctrue (by rw [bne_iff_ne];omega) ?_
    rw [decide_eq_false h3];exact .pure
  ·refine Evt.ctrue (by rw [decide_eq_false h2];rfl) ?_
   rw [decide_eq_false h2];exact .pure
 ·refine Evt.ctrue (by rw [decide_eq_false h1];rfl) ?_
  rw [decide_eq_false h1];exact .pure

theorem isBox_ev{b:Int×List Int×List Int}(hb:b.2.1.length<lenB):Evt (fun k _=>impl_isBox k b) (bxV b):=by
 obtain⟨d8,los,his⟩:=b
 refine Evt.eq (f:=fun k q=>_) ?_ (fun k q=>by rw [impl_isBox])
 unfold bxV
 simp only at hb ⊢
 refine Evt.bind (.const (inside_eq _ _ _)) ?_
 by_cases h1:0≤d8∧d8≤8
 ·refine Evt.cfalse (by simp [h1]) (Evt.bind (.const (inside_eq _ _ _)) ?_)
  rw [decide_eq_true h1,Bool.true_and]
  by_cases h2:1≤(los.length:Int)∧(los.length:Int)≤3
  ·refine Evt.cfalse (by rw [decide_eq_true h2];rfl) ?_
   rw [decide_eq_true h2,Bool.true_and]
   by_cases h3:his.length=los.length
   ·refine Evt.cfalse (by simp [h3]) ?_
    rw [decide_eq_true h3,Bool.true_and]
    obtain⟨m,rfl⟩:∃m:Nat,d8=m:=⟨d8.toNat,by omega⟩
    have hm:m≤8:=by omega
    have hp:=pow8 hm
    refine Evt.cfalse (by simp) ?_
    have e0:min (Int.toNat (m:Int)) (IntKind.bits .i64)=m:=by
     rw [Int.toNat_natCast];exact Nat.min_eq_left (by simp only [IntKind.bits];omega)
    rw [e0,w64 (by omega) (by omega)]
    have h0:=isBox_loop (k:=0) (d8:=(m:Int)) (L:=8*2 ^ m) (los:=los) (his:=his) (by omega) hb los his [] [] ((m:Int)==0) rfl rfl rfl h3.symm
    simp only [List.length_nil,Int.toNat_natCast]at h0 ⊢
    cases hall:(los.zip his).all (sideOk (8*2 ^ m))with
    | true=>rw [hall]at h0;exact Evt.inr (Evt.diag h0) .pure
    | false=>rw [hall]at h0;exact Evt.inl (Evt.diag h0) .pure
   ·refine Evt.ctrue (by rw [bne_iff_ne];omega) ?_
    rw [decide_eq_false h3];exact .pure
  ·refine Evt.ctrue (by rw [decide_eq_false h2];rfl) ?_
   rw [decide_eq_false h2];exact .pure
 ·refine Evt.ctrue (by rw [decide_eq_false h1];rfl) ?_
  rw [decide_eq_false h1];exact .pure

end Go.Ev.G

namespace Go.Ev.G
open Go Go.Ev
set_option maxRecDepth 100000

abbrev Tm:=Int×Int×Int×Int
def tmGd(t:Tm):Prop:=(-1000≤t.1∧t.1≤1000)∧(0≤t.2.1∧t.2.1≤4)∧(0≤t.2.2.1∧t.2.2.1≤4)∧(0≤t.2.2.2∧t.2.2.2≤4)∧t.2.1+t.2.2.1+t.2.2.2≤4
instance:DecidablePred tmGd:=fun x=>by unfold tmGd;exact inferInstance

theorem poTerm_eq(t:Tm):spec_poTerm t=some (decide (tmGd t)):=by
 unfold spec_poTerm
 simp only [l1In_eq,Option.bind_some]
 by_cases h1 : -1000≤t.1∧t.1≤1000
 ·rw [decide_eq_true h1,cond_true]
  by_cases h2:0≤t.2.1∧t.2.1≤4
  ·rw [decide_eq_true h2,cond_true]
   by_cases h3:0≤t.2.2.1∧t.2.2.1≤4
   ·rw [decide_eq_true h3,cond_true]
    by_cases h4:0≤t.2.2.2∧t.2.2.2≤4
    ·rw [decide_eq_true h4,cond_true,w64 (n:=t.2.1+t.2.2.1) (by omega) (by omega),w64 (by omega) (by omega)]
     congr 1
     rw [decide_eq_decide]
     exact⟨fun h=>⟨h1,h2,h3,h4,h⟩,fun h=>h.2.2.2.2⟩
    ·rw [decide_eq_false h4,decide_eq_false fun h:tmGd t=>h4 h.2.2.2.1];rfl
   ·rw [decide_eq_false h3,decide_eq_false fun h:tmGd t=>h3 h.2.2.1];rfl
  ·rw [decide_eq_false h2,decide_eq_false fun h:tmGd t=>h2 h.2.1];rfl
 ·rw [decide_eq_false h1,decide_eq_false fun h:tmGd t=>h1 h.1];rfl

theorem hasDegree_eq{t:Tm}(h1 : -1000≤t.1∧t.1≤1000):impl_hasDegree t=some (decide (tmGd t)):=by
 unfold impl_hasDegree impl_Term_degree
 simp only [inside_eq,Option.bind_some]
 by_cases h2:0≤t.2.1∧t.2.1≤4
 ·rw [decide_eq_true h2,cond_true]
  by_cases h3:0≤t.2.2.1∧t.2.2.1≤4
  ·rw [decide_eq_true h3,cond_true]
   by_cases h4:0≤t.2.2.2∧t.2.2.2≤4
   ·rw [decide_eq_true h4,cond_true,w64 (n:=t.2.1+t.2.2.1) (by omega) (by omega),w64 (by omega) (by omega)]
    congr 1
    rw [decide_eq_decide]
    exact⟨fun h=>⟨h1,h2,h3,h4,h⟩,fun h=>h.2.2.2.2⟩
   ·rw [decide_eq_false h4,decide_eq_false fun h:tmGd t=>h4 h.2.2.2.1];rfl
  ·rw [decide_eq_false h3,decide_eq_false fun h:tmGd t=>h3 h.2.2.1];rfl
 ·rw [decide_eq_false h2,decide_eq_false fun h:tmGd t=>h2 h.2.1];rfl

def lexI(a b:Tm):Int:=if a.2.1≠b.2.1 then cmpI a.2.1 b.2.1 else if a.2.2.1≠b.2.2.1 then cmpI a.2.2.1 b.2.2.1 else cmpI a.2.2.2 b.2.2.2
theorem cmpI_sub(a b:Int):cmpI (a - b) 0=cmpI a b:=by
 unfold cmpI
 split <;> split <;> (try split) <;> (try split) <;> omega
theorem poOrder_eq{a b:Tm}(ha:tmGd a)(hb:tmGd b):spec_poOrder a b=some (lexI a b):=by
 have a1:=ha.2
 have b1:=hb.2
 unfold spec_poOrder lexI
 rw [w64 (n:=a.2.1 - b.2.1) (by omega) (by omega),w64 (n:=a.2.2.1 - b.2.2.1) (by omega) (by omega),w64 (n:=a.2.2.2 - b.2.2.2) (by omega) (by omega)]
 simp only [sign_eq,Option.bind_some,cmpI_sub]
 by_cases h1:a.2.1=b.2.1
 ·rw [if_neg (by simpa using h1),show(a.2.1 != b.2.1)=false by simpa using h1,cond_false]
  by_cases h2:a.2.2.1=b.2.2.1
  ·rw [if_neg (by simpa using h2),show(a.2.2.1 != b.2.2.1)=false by simpa using h2,cond_false]
  ·rw [if_pos h2,show(a.2.2.1 != b.2.2.1)=true by simpa using h2,cond_true]
 ·rw [if_pos h1,show(a.2.1 != b.2.1)=true by simpa using h1,cond_true]

theorem cmpC_eq(a b:Int):cmp_Compare_int a b=some (cmpI a b):=by
 unfold cmp_Compare_int cmp_isNaN_int cmpI
 simp only [bne_self_eq_false,Option.bind_some,cond_false]
 by_cases h:a<b
 ·simp [h]
 ·by_cases h2:b<a
  ·simp [h,h2]
  ·simp [h,h2]

theorem or3_ev(x y z:Int):Evt (fun k _=>cmp_Or_int k [x,y,z]) (orI x (orI y z)):=by
 refine Evt.eq (f:=fun k q=>_) ?_ (fun k q=>by rw [cmp_Or_int])
 have w1:IntKind.wrap .i64 (0+1)=1:=by decide
 have w2:IntKind.wrap .i64 (1+1)=2:=by decide
 have w3:IntKind.wrap .i64 (2+1)=3:=by decide
 have l3:Evt (fun k n=>cmp_Or_int_L58 k n 0 [x,y,z] 3 3) (.inr (0,())):=Evt.step (fun k n=>cmp_Or_int_L58.eq_2 k _ _ _ _ n) (Evt.cfalse rfl .pure)
 have l2:Evt (fun k n=>cmp_Or_int_L58 k n 0 [x,y,z] 3 2) (if z != 0 then .inl z else .inr (0,())):=by
  refine Evt.step (fun k n=>cmp_Or_int_L58.eq_2 k _ _ _ _ n) (Evt.ctrue rfl (Evt.ctrue rfl (Evt.ctrue rfl ?_)))
  rw [w3]
  cases h:(z != 0)with
  | true=>exact Evt.ctrue h .pure
  | false=>exact Evt.cfalse h l3
 have l1:Evt (fun k n=>cmp_Or_int_L58 k n 0 [x,y,z] 3 1) (if y != 0 then .inl y else if z != 0 then .inl z else .inr (0,())):=by
  refine Evt.step (fun k n=>cmp_Or_int_L58.eq_2 k _ _ _ _ n) (Evt.ctrue rfl (Evt.ctrue rfl (Evt.ctrue rfl ?_)))
  rw [w2]
  cases h:(y != 0)with
  | true=>exact Evt.ctrue h .pure
  | false=>exact Evt.cfalse h l2
 have l0:Evt (fun k n=>cmp_Or_int_L58 k n 0 [x,y,z] (([x,y,z]:List Int).length:Int) 0) (if x != 0 then .inl x else if y != 0 then .inl y else if z != 0 then .inl z else .inr (0,())):=by
  refine Evt.step (fun k n=>cmp_Or_int_L58.eq_2 k _ _ _ _ n) (Evt.ctrue rfl (Evt.ctrue rfl (Evt.ctrue rfl ?_)))
  rw [w1]
  cases h:(x != 0)with
  | true=>exact Evt.ctrue h .pure
  | false=>exact Evt.cfalse h l1
 unfold orI
 cases hx:(x != 0)with
 | true =>
  rw [hx]at l0
  rw [show(x==0)=false by simpa using hx]
  exact Evt.inl (Evt.diag l0) .pure
 | false =>
  rw [hx]at l0
  rw [show(x==0)=true by simpa using hx,cond_true]
  cases hy:(y != 0)with
  | true =>
   rw [hy]at l0
   rw [show(y==0)=false by simpa using hy]
   exact Evt.inl (Evt.diag l0) .pure
  | false =>
   rw [hy]at l0
   rw [show(y==0)=true by simpa using hy,cond_true]
   cases hz:(z != 0)with
   | true=>rw [hz]at l0;exact Evt.inl (Evt.diag l0) .pure
   | false =>
    rw [hz]at l0
    have hz0:z=0:=by simpa using hz
    subst hz0
    exact Evt.inr (Evt.diag l0) .pure

theorem cmpI_zero(a b:Int):cmpI a b=0↔a=b:=by
 unfold cmpI
 split <;> (try split) <;> omega
theorem compareTerms_ev(a b:Tm):Evt (fun k _=>impl_compareTerms k a b) (lexI a b):=by
 refine Evt.eq (f:=fun k q=>_) ?_ (fun k q=>by rw [impl_compareTerms])
 refine Evt.bind (.const (cmpC_eq _ _)) (Evt.bind (.const (cmpC_eq _ _)) (Evt.bind (.const (cmpC_eq _ _)) (Evt.bind (or3_ev _ _ _) ?_)))
 have:orI (cmpI a.2.1 b.2.1) (orI (cmpI a.2.2.1 b.2.2.1) (cmpI a.2.2.2 b.2.2.2))=lexI a b:=by
  unfold lexI
  by_cases h1:a.2.1=b.2.1
  ·rw [(cmpI_zero _ _).2 h1,orI_z,if_neg (by simpa using h1)]
   by_cases h2:a.2.2.1=b.2.2.1
   ·rw [(cmpI_zero _ _).2 h2,orI_z,if_neg (by simpa using h2)]
   ·rw [orI_ne (fun h=>h2 ((cmpI_zero _ _).1 h)),if_pos h2]
  ·rw [orI_ne (fun h=>h1 ((cmpI_zero _ _).1 h)),if_pos h1]
 rw [this]
 exact .pure

def okFrom:Option Tm→List Tm→Bool
 | _,[]=>true
 | p,e::r=>(decide (tmGd e) && !(e.1==0))&&((match p with | none=>true | some q=>decide (lexI q e<0))&&okFrom (some e) r)
def lastO(d:List Tm):Option Tm:=d.getLast?
def polyV(xs:List Tm):Bool:=okFrom none xs&&decide ((xs.length:Int)≤20)

theorem okFrom_gd:∀(r:List Tm) (p:Option Tm),okFrom p r=true→∀t∈r,tmGd t
 | [],_,_=>by simp
 | e::r,p,h=>by
  unfold okFrom at h
  simp only [Bool.and_eq_true,decide_eq_true_eq]at h
  intro t ht
  rcases List.mem_cons.1 ht with rfl | ht
  ·exact h.1.1
  ·exact okFrom_gd r _ h.2.2 t ht
theorem polyV_gd{xs:List Tm}(h:polyV xs=true):∀t∈xs,tmGd t:=by
 unfold polyV at h
 rw [Bool.and_eq_true]at h
 exact okFrom_gd xs _ h.1

theorem last_get{d r:List Tm}{e q z:Tm}:(d ++ [q]++e::r).getD (Int.toNat (d.length:Int)) z=q:=by simp

theorem poGood_ev{xs:List Tm}(hb:xs.length<lenB):Evt (fun k _=>spec_poGood k xs) (polyV xs):=by
 refine Evt.eq (f:=fun k q=>_) ?_ (fun k q=>by rw [spec_poGood])
 have key:∀(r d:List Tm),d++r=xs→(∀q,lastO d=some q→tmGd q)→Evt (fun k n=>spec_poGood_L26 k n xs xs (xs.length:Int) d.length) (if okFrom (lastO d) r then .inr (xs,())else .inl false):=by
  intro r
  induction r with
  | nil =>
   intro d h hg
   refine Evt.step (fun k n=>spec_poGood_L26.eq_2 k _ _ _ _ n) ?_
   rw [List.append_nil]at h
   subst h
   exact Evt.rng0 .pure
  | cons e r ih =>
   intro d h hg
   refine Evt.step (fun k n=>spec_poGood_L26.eq_2 k _ _ _ _ n) ?_
   have ih:=ih (d ++ [e]) (by simpa using h)
   rw [←len_next (r:=r) (by rw [h];exact hb)]at ih
   rw [show lastO (d ++ [e])=some e by simp [lastO]]at ih
   subst h
   refine Evt.ctrue mid_lt (Evt.ctrue mid_ge (Evt.ctrue mid_lt ?_))
   rw [mid_get]
   refine Evt.bind (.const (poTerm_eq e)) ?_
   unfold okFrom
   by_cases h1:tmGd e
   ·simp only [decide_eq_true h1,Bool.true_and]
    refine Evt.cfalse rfl ?_
    have ih:=ih (fun q hq=>by cases hq;exact h1)
    cases h2:(e.1==0)with
    | true=>exact Evt.ctrue rfl .pure
    | false =>
     refine Evt.cfalse rfl ?_
     simp only [Bool.not_false,Bool.true_and]
     rcases List.eq_nil_or_concat d with rfl | ⟨d0,q,rfl⟩
     ·exact Evt.cfalse rfl (by simpa [lastO] using ih)
     ·simp only [List.concat_eq_append]at hg ih ⊢
      have hq:lastO (d0 ++ [q])=some q:=by simp [lastO]
      have hl:(((d0 ++ [q]).length:Nat):Int)=(d0.length:Int)+1:=by simp
      have hlb:d0.length<lenB:=by simp at hb;omega
      simp only [lenB]at hlb
      refine Evt.ctrue (by rw [hl];exact decide_eq_true (by omega)) ?_
      have hw:IntKind.wrap .i64 (((d0 ++ [q]).length:Int) - 1)=(d0.length:Int):=by rw [hl,w64 (by omega) (by omega)];omega
      rw [hw,last_get]
      refine Evt.ctrue (by simp) (Evt.ctrue (by simp <;> omega) (Evt.bind (.const (poOrder_eq (hg q hq) h1)) ?_))
      simp only [hq]
      by_cases h3:lexI q e<0
      ·simp only [decide_eq_true h3,Bool.true_and]
       exact Evt.cfalse (decide_eq_false (by omega)) ih
      ·simp only [decide_eq_false h3,Bool.false_and]
       exact Evt.ctrue (decide_eq_true (by omega)) .pure
   ·simp only [decide_eq_false h1,Bool.false_and]
    exact Evt.ctrue rfl .pure
 have h0:=key xs [] rfl (by intro q hq;cases hq)
 simp only [List.length_nil]at h0
 unfold polyV
 rw [show lastO []=none from rfl]at h0
 cases hall:okFrom none xs with
 | true=>rw [hall]at h0;exact Evt.inr (Evt.diag h0) .pure
 | false=>rw [hall]at h0;exact Evt.inl (Evt.diag h0) .pure

theorem isPoly_ev{xs:List Tm}(hb:xs.length<lenB):Evt (fun k _=>impl_isPoly k xs) (polyV xs):=by
 refine Evt.eq (f:=fun k q=>_) ?_ (fun k q=>by rw [impl_isPoly])
 have key:∀(r d:List Tm),d++r=xs→Evt (fun k n=>impl_isPoly_L26 k n xs xs (xs.length:Int) d.length) (if okFrom (lastO d) r then .inr (xs,())else .inl false):=by
  intro r
  induction r with
  | nil =>
   intro d h
   refine Evt.step (fun k n=>impl_isPoly_L26.eq_2 k _ _ _ _ n) ?_
   rw [List.append_nil]at h
   subst h
   exact Evt.rng0 .pure
  | cons e r ih =>
   intro d h
   refine Evt.step (fun k n=>impl_isPoly_L26.eq_2 k _ _ _ _ n) ?_
   have ih:=ih (d ++ [e]) (by simpa using h)
   rw [←len_next (r:=r) (by rw [h];exact hb)]at ih
   rw [show lastO (d ++ [e])=some e by simp [lastO]]at ih
   subst h
   refine Evt.ctrue mid_lt (Evt.ctrue mid_ge (Evt.ctrue mid_lt ?_))
   rw [mid_get]
   unfold okFrom
   cases h2:(e.1==0)with
   | true =>
    simp only [Bool.not_true,Bool.and_false,Bool.false_and]
    exact Evt.ctrue rfl .pure
   | false =>
   refine Evt.cfalse rfl (Evt.bind (.const (inside_eq _ _ _)) ?_)
   simp only [Bool.not_false,Bool.and_true]
   by_cases h0 : -1000≤e.1∧e.1≤1000
   ·refine Evt.cfalse (by rw [decide_eq_true h0];rfl) (Evt.bind (.const (hasDegree_eq h0)) ?_)
    by_cases h1:tmGd e
    ·simp only [decide_eq_true h1,Bool.true_and]
     refine Evt.cfalse rfl ?_
     rcases List.eq_nil_or_concat d with rfl | ⟨d0,q,rfl⟩
     ·exact Evt.cfalse rfl (by simpa [lastO] using ih)
     ·simp only [List.concat_eq_append]at ih ⊢
      have hq:lastO (d0 ++ [q])=some q:=by simp [lastO]
      have hl:(((d0 ++ [q]).length:Nat):Int)=(d0.length:Int)+1:=by simp
      have hlb:d0.length<lenB:=by simp at hb;omega
      simp only [lenB]at hlb
      refine Evt.ctrue (by rw [hl];exact decide_eq_true (by omega)) ?_
      have hw:IntKind.wrap .i64 (((d0 ++ [q]).length:Int) - 1)=(d0.length:Int):=by rw [hl,w64 (by omega) (by omega)];omega
      rw [hw,last_get]
      refine Evt.ctrue (by simp) (Evt.ctrue (by simp <;> omega) (Evt.bind (compareTerms_ev q e) ?_))
      simp only [hq]
      by_cases h3:lexI q e<0
      ·simp only [decide_eq_true h3,Bool.true_and]
       exact Evt.cfalse (decide_eq_false (by omega)) ih
      ·simp only [decide_eq_false h3,Bool.false_and]
       exact Evt.ctrue (decide_eq_true (by omega)) .pure
    ·simp only [decide_eq_false h1,Bool.false_and]
     exact Evt.ctrue rfl .pure
   ·simp only [decide_eq_false fun h:tmGd e=>h0 h.1,Bool.false_and]
    exact Evt.ctrue (by rw [decide_eq_false h0];rfl) .pure
 have h0:=key xs [] rfl
 simp only [List.length_nil]at h0
 unfold polyV
 rw [show lastO []=none from rfl]at h0
 cases hall:okFrom none xs with
 | true=>rw [hall]at h0;exact Evt.inr (Evt.diag h0) .pure
 | false=>rw [hall]at h0;exact Evt.inl (Evt.diag h0) .pure
end Go.Ev.G

namespace Go.Ev.G
open Go Go.Ev
set_option maxRecDepth 100000

def pw(t:Tm)(j:Nat):Int:=if j=0 then t.2.1 else if j=1 then t.2.2.1 else t.2.2.2
def big(xs:List Tm)(j:Nat):Bool:=xs.any fun t=>decide (pw t j>0)
def needs(n:Nat)(xs:List Tm):Bool:=(decide (n≤0)&&big xs 0)||((decide (n≤1)&&big xs 1)||(decide (n≤2)&&big xs 2))

theorem poPower_eq(t:Tm)(j:Nat):spec_poPower t j=some (pw t j):=by
 unfold spec_poPower pw
 by_cases h:j=0
 ·subst h;rfl
 ·rw [if_neg h,show((j:Int)==0)=false by simp;omega,cond_false]
  by_cases h1:j=1
  ·subst h1;rfl
  ·rw [if_neg h1,show((j:Int)==1)=false by simp;omega,cond_false]

def degV(j:Nat):Int→List Tm→Int
 | m,[]=>m
 | m,t::r=>degV j (max m (pw t j)) r
theorem degV_pos(j:Nat):∀(xs:List Tm) (m:Int),decide (degV j m xs>0)=(decide (m>0)||big xs j)
 | [],m=>by simp [degV,big]
 | t::r,m=>by
  rw [degV,degV_pos j r]
  unfold big
  rw [List.any_cons,←Bool.or_assoc]
  congr 1
  rw [Bool.eq_iff_iff]
  simp only [Bool.or_eq_true,decide_eq_true_eq]
  omega

theorem degreeIn_ev{xs:List Tm}{j:Nat}(hb:xs.length<lenB):Evt (fun k _=>spec_poDegreeIn k xs j) (degV j (-1) xs):=by
 refine Evt.eq (f:=fun k q=>_) ?_ (fun k q=>by rw [spec_poDegreeIn])
 have key:∀(r d:List Tm) (m:Int),d++r=xs→Evt (fun k n=>spec_poDegreeIn_L58 k n j m xs (xs.length:Int) d.length) (.inr (degV j m r,())):=by
  intro r
  induction r with
  | nil =>
   intro d m h
   refine Evt.step (fun k n=>spec_poDegreeIn_L58.eq_2 k _ _ _ _ _ n) ?_
   rw [List.append_nil]at h
   subst h
   exact Evt.rng0 .pure
  | cons e r ih =>
   intro d m h
   refine Evt.step (fun k n=>spec_poDegreeIn_L58.eq_2 k _ _ _ _ _ n) ?_
   have ih:=ih (d ++ [e]) (max m (pw e j)) (by simpa using h)
   rw [←len_next (r:=r) (by rw [h];exact hb)]at ih
   subst h
   refine Evt.ctrue mid_lt (Evt.ctrue mid_ge (Evt.ctrue mid_lt ?_))
   rw [mid_get]
   exact Evt.bind (.const (poPower_eq _ _)) (Evt.bind (.const (most_eq _ _)) ih)
 have h0:=key xs [] (-1) rfl
 simp only [List.length_nil]at h0
 exact Evt.inr (Evt.diag h0) .pure

theorem system_inner{n:Nat}{xs:List Tm}(hb:xs.length<lenB)(x0 x6:List (List Tm))(x7 x8:Int) :
  Evt (fun k m=>spec_poSystem_L13518 k m x0 xs (n:Int) x6 x7 x8) (if needs n xs then .inl false else .inr (x0,x6,x7,x8,())):=by
 have l3:∀j:Nat,3≤j→Evt (fun k m=>spec_poSystem_L13518 k m x0 xs (j:Int) x6 x7 x8) (.inr (x0,x6,x7,x8,())):=by
  intro j hj
  exact Evt.step (fun k m=>spec_poSystem_L13518.eq_2 k _ _ _ _ _ _ m) (Evt.cfalse (decide_eq_false (by omega)) .pure)
 have st:∀(j:Nat) (b:Bool),j<3→Evt (fun k m=>spec_poSystem_L13518 k m x0 xs ((j+1:Nat):Int) x6 x7 x8) (if b then .inl false else .inr (x0,x6,x7,x8,()))→Evt (fun k m=>spec_poSystem_L13518 k m x0 xs (j:Int) x6 x7 x8) (if (big xs j||b)then .inl false else .inr (x0,x6,x7,x8,())):=by
  intro j b hj h
  refine Evt.step (fun k m=>spec_poSystem_L13518.eq_2 k _ _ _ _ _ _ m) (Evt.ctrue (decide_eq_true (by omega)) (Evt.bind (degreeIn_ev hb) ?_))
  rw [degV_pos]
  rw [w64_next (by simp only [lenB];omega)]
  cases big xs j with
  | true=>exact Evt.ctrue rfl .pure
  | false=>exact Evt.cfalse rfl (by simpa using h)
 have l2:=st 2 false (by omega) (by simpa using l3 3 (by omega))
 have l1:=st 1 _ (by omega) l2
 have l0:=st 0 _ (by omega) l1
 match n with
 | 0=>simpa [needs] using l0
 | 1=>simpa [needs] using l1
 | 2=>simpa [needs] using l2
 | m+3 =>
  have:=l3 (m+3) (by omega)
  have e:needs (m+3) xs=false:=by simp [needs]
  rw [e]
  exact this

def sysV(m:List (List Tm)):Bool:=(m.all fun xs=>polyV xs && !needs m.length xs)&&decide (1≤(m.length:Int)∧(m.length:Int)≤3)

theorem poSystem_ev{m:List (List Tm)}(hb:m.length<lenB)(hm:∀r∈m,r.length<lenB):Evt (fun k _=>spec_poSystem k m) (sysV m):=by
 refine Evt.eq (f:=fun k q=>_) ?_ (fun k q=>by rw [spec_poSystem])
 have key:∀(r d:List (List Tm)),d++r=m→Evt (fun k n=>spec_poSystem_L26 k n m m (m.length:Int) d.length) (if (r.all fun xs=>polyV xs && !needs m.length xs)then .inr (m,())else .inl false):=by
  intro r
  induction r with
  | nil =>
   intro d h
   refine Evt.step (fun k n=>spec_poSystem_L26.eq_2 k _ _ _ _ n) ?_
   rw [List.append_nil]at h
   subst h
   exact Evt.rng0 .pure
  | cons e r ih =>
   intro d h
   refine Evt.step (fun k n=>spec_poSystem_L26.eq_2 k _ _ _ _ n) ?_
   have he:=hm e (by rw [←h];simp)
   have ih:=ih (d ++ [e]) (by simpa using h)
   rw [←len_next (r:=r) (by rw [h];exact hb)]at ih
   have hi:=system_inner (n:=m.length) he m m (m.length:Int) (d.length:Int)
   subst h
   refine Evt.ctrue mid_lt (Evt.ctrue mid_ge (Evt.ctrue mid_lt ?_))
   rw [mid_get]
   refine Evt.bind (poGood_ev he) ?_
   cases hp:polyV e with
   | false=>simp only [List.all_cons,hp,Bool.false_and];exact Evt.ctrue rfl .pure
   | true =>
    refine Evt.cfalse rfl ?_
    cases hn:needs (d++e::r).length e with
    | true=>rw [hn]at hi;simp only [List.all_cons,hp,hn,Bool.not_true,Bool.and_false,Bool.false_and];exact Evt.inl (Evt.diag hi) .pure
    | false=>rw [hn]at hi;simp only [List.all_cons,hp,hn,Bool.not_false,Bool.true_and];exact Evt.inr (Evt.diag hi) ih
 have h0:=key m [] rfl
 simp only [List.length_nil]at h0
 unfold sysV
 cases hall:(m.all fun xs=>polyV xs && !needs m.length xs)with
 | true=>rw [hall]at h0;exact Evt.inr (Evt.diag h0) (Evt.bind (.const (l1In_eq _ _ _)) .pure)
 | false=>rw [hall]at h0;exact Evt.inl (Evt.diag h0) .pure

def needsT(n:Nat)(t:Tm):Bool:=(decide (n≤0)&&decide (t.2.1>0))||((decide (n≤1)&&decide (t.2.2.1>0))||(decide (n≤2)&&decide (t.2.2.2>0)))
theorem needs_any(n:Nat)(xs:List Tm):needs n xs=xs.any (needsT n):=by
 rw [Bool.eq_iff_iff]
 simp only [needs,big,Bool.or_eq_true,Bool.and_eq_true,decide_eq_true_eq,List.any_eq_true,needsT,pw]
 constructor
 ·rintro(⟨h,t,ht,hp⟩ | ⟨h,t,ht,hp⟩ | ⟨h,t,ht,hp⟩)
  ·exact⟨t,ht,.inl ⟨h,by simpa using hp⟩⟩
  ·exact⟨t,ht,.inr (.inl ⟨h,by simpa using hp⟩)⟩
  ·exact⟨t,ht,.inr (.inr ⟨h,by simpa using hp⟩)⟩
 ·rintro⟨t,ht,⟨h,hp⟩ | ⟨h,hp⟩ | ⟨h,hp⟩⟩
  ·exact .inl ⟨h,t,ht,by simpa using hp⟩
  ·exact .inr (.inl ⟨h,t,ht,by simpa using hp⟩)
  ·exact .inr (.inr ⟨h,t,ht,by simpa using hp⟩)

theorem needs_inner(n:Nat)(t:Tm)(x9:List Tm)(x10 x11:Int) :
  Evt (fun k m=>impl_needsAtMost_L6758 k m (n:Int) x9 x10 x11 t.2 0) (if needsT n t then .inl false else .inr ((n:Int),x9,x10,x11,())):=by
 have w1:IntKind.wrap .i64 (0+1)=1:=by decide
 have w2:IntKind.wrap .i64 (1+1)=2:=by decide
 have w3:IntKind.wrap .i64 (2+1)=3:=by decide
 have l3:Evt (fun k m=>impl_needsAtMost_L6758 k m (n:Int) x9 x10 x11 t.2 3) (.inr ((n:Int),x9,x10,x11,())) :=
  Evt.step (fun k m=>impl_needsAtMost_L6758.eq_2 k _ _ _ _ _ _ m) (Evt.cfalse rfl .pure)
 have l2:Evt (fun k m=>impl_needsAtMost_L6758 k m (n:Int) x9 x10 x11 t.2 2) (if (decide (n≤2)&&decide (t.2.2.2>0))then .inl false else .inr ((n:Int),x9,x10,x11,())):=by
  refine Evt.step (fun k m=>impl_needsAtMost_L6758.eq_2 k _ _ _ _ _ _ m) (Evt.ctrue rfl (Evt.cfalse rfl (Evt.cfalse rfl (Evt.ctrue rfl ?_))))
  rw [w3]
  by_cases h:n≤2
  ·refine Evt.ctrue (decide_eq_true (by omega)) ?_
   simp only [decide_eq_true h,Bool.true_and]
   cases decide (t.2.2.2>0)with
   | true=>exact Evt.ctrue rfl .pure
   | false=>exact Evt.cfalse rfl l3
  ·simp only [decide_eq_false h,Bool.false_and]
   exact Evt.cfalse (decide_eq_false (by omega)) l3
 have l1:Evt (fun k m=>impl_needsAtMost_L6758 k m (n:Int) x9 x10 x11 t.2 1) (if ((decide (n≤1)&&decide (t.2.2.1>0))||(decide (n≤2)&&decide (t.2.2.2>0)))then .inl false else .inr ((n:Int),x9,x10,x11,())):=by
  refine Evt.step (fun k m=>impl_needsAtMost_L6758.eq_2 k _ _ _ _ _ _ m) (Evt.ctrue rfl (Evt.cfalse rfl (Evt.ctrue rfl ?_)))
  rw [w2]
  by_cases h:n≤1
  ·refine Evt.ctrue (decide_eq_true (by omega)) ?_
   simp only [decide_eq_true h,Bool.true_and]
   cases decide (t.2.2.1>0)with
   | true=>exact Evt.ctrue rfl .pure
   | false=>exact Evt.cfalse rfl l2
  ·simp only [decide_eq_false h,Bool.false_and,Bool.false_or]
   exact Evt.cfalse (decide_eq_false (by omega)) l2
 refine Evt.step (fun k m=>impl_needsAtMost_L6758.eq_2 k _ _ _ _ _ _ m) (Evt.ctrue rfl (Evt.ctrue rfl ?_))
 rw [w1]
 unfold needsT
 by_cases h:n≤0
 ·refine Evt.ctrue (decide_eq_true (by omega)) ?_
  simp only [decide_eq_true h,Bool.true_and]
  cases decide (t.2.1>0)with
  | true=>exact Evt.ctrue rfl .pure
  | false=>exact Evt.cfalse rfl l1
 ·simp only [decide_eq_false h,Bool.false_and,Bool.false_or]
  exact Evt.cfalse (decide_eq_false (by omega)) l1

theorem needsAtMost_ev{xs:List Tm}{n:Nat}(hb:xs.length<lenB):Evt (fun k _=>impl_needsAtMost k xs n) (!needs n xs):=by
 refine Evt.eq (f:=fun k q=>_) ?_ (fun k q=>by rw [impl_needsAtMost])
 rw [needs_any]
 have key:∀(r d:List Tm),d++r=xs→Evt (fun k m=>impl_needsAtMost_L26 k m n xs (xs.length:Int) d.length) (if r.any (needsT n)then .inl false else .inr ()):=by
  intro r
  induction r with
  | nil =>
   intro d h
   refine Evt.step (fun k m=>impl_needsAtMost_L26.eq_2 k _ _ _ _ m) ?_
   rw [List.append_nil]at h
   subst h
   exact Evt.rng0 .pure
  | cons e r ih =>
   intro d h
   refine Evt.step (fun k m=>impl_needsAtMost_L26.eq_2 k _ _ _ _ m) ?_
   have ih:=ih (d ++ [e]) (by simpa using h)
   rw [←len_next (r:=r) (by rw [h];exact hb)]at ih
   have hi:=needs_inner n e xs (xs.length:Int) (d.length:Int)
   subst h
   refine Evt.ctrue mid_lt (Evt.ctrue mid_ge (Evt.ctrue mid_lt ?_))
   rw [mid_get]
   refine Evt.bind (.const rfl) ?_
   cases hn:needsT n e with
   | true=>rw [hn]at hi;simp only [List.any_cons,hn,Bool.true_or];exact Evt.inl (Evt.diag hi) .pure
   | false=>rw [hn]at hi;simp only [List.any_cons,hn,Bool.false_or];exact Evt.inr (Evt.diag hi) ih
 have h0:=key xs [] rfl
 simp only [List.length_nil]at h0
 cases hall:xs.any (needsT n)with
 | true=>rw [hall]at h0;exact Evt.inl (Evt.diag h0) .pure
 | false=>rw [hall]at h0;exact Evt.inr (Evt.diag h0) .pure

theorem isSystem_ev{m:List (List Tm)}(hb:m.length<lenB)(hm:∀r∈m,r.length<lenB):Evt (fun k _=>impl_isSystem k m) (sysV m):=by
 refine Evt.eq (f:=fun k q=>_) ?_ (fun k q=>by rw [impl_isSystem])
 have key:∀(r d:List (List Tm)),d++r=m→Evt (fun k n=>impl_isSystem_L26 k n m m (m.length:Int) d.length) (if (r.all fun xs=>polyV xs && !needs m.length xs)then .inr (m,())else .inl false):=by
  intro r
  induction r with
  | nil =>
   intro d h
   refine Evt.step (fun k n=>impl_isSystem_L26.eq_2 k _ _ _ _ n) ?_
   rw [List.append_nil]at h
   subst h
   exact Evt.rng0 .pure
  | cons e r ih =>
   intro d h
   refine Evt.step (fun k n=>impl_isSystem_L26.eq_2 k _ _ _ _ n) ?_
   have he:=hm e (by rw [←h];simp)
   have ih:=ih (d ++ [e]) (by simpa using h)
   rw [←len_next (r:=r) (by rw [h];exact hb)]at ih
   subst h
   refine Evt.ctrue mid_lt (Evt.ctrue mid_ge (Evt.ctrue mid_lt ?_))
   rw [mid_get]
   refine Evt.bind (isPoly_ev he) ?_
   cases hp:polyV e with
   | false=>simp only [List.all_cons,hp,Bool.false_and];exact Evt.ctrue rfl .pure
   | true =>
    refine Evt.cfalse rfl (Evt.bind (needsAtMost_ev he) ?_)
    cases hn:needs (d++e::r).length e with
    | true=>simp only [List.all_cons,hp,hn,Bool.not_true,Bool.and_false,Bool.false_and];exact Evt.ctrue rfl .pure
    | false=>simp only [List.all_cons,hp,hn,Bool.not_false,Bool.true_and];exact Evt.cfalse rfl ih
 have h0:=key m [] rfl
 simp only [List.length_nil]at h0
 unfold sysV
 cases hall:(m.all fun xs=>polyV xs && !needs m.length xs)with
 | true=>rw [hall]at h0;exact Evt.inr (Evt.diag h0) (Evt.bind (.const (inside_eq _ _ _)) .pure)
 | false=>rw [hall]at h0;exact Evt.inl (Evt.diag h0) .pure

theorem szBox_eq{b:Int×List Int×List Int}(h1:b.2.1.length≤maxLen)(h2:b.2.2.length≤maxLen){a:Nat}(ha:a≤1000000) :
  laws_szBox b a=some (if b.2.1.length+b.2.2.length≤a then((a - (b.2.1.length+b.2.2.length):Nat):Int)else -1):=by
 unfold laws_szBox
 rw [szIntS_ev h1 ha]
 by_cases h3:b.2.1.length≤a
 ·rw [if_pos h3,Option.bind_some,decide_eq_false (by omega),cond_false,szIntS_ev h2 (by omega)]
  by_cases h4:b.2.2.length≤a - b.2.1.length
  ·rw [if_pos h4,if_pos (by omega),Option.bind_some,decide_eq_false (by omega),cond_false]
   congr 2
   omega
  ·rw [if_neg h4,if_neg (by omega)];rfl
 ·rw [if_neg h3,if_neg (by omega)];rfl
def boxR(b:Int×List Int×List Int)(f:Bool):Int×(List Int×List Int)×List Int×List Int:=(b.1,toV id fI b.2.1 f,toV id fI b.2.2 f)
theorem toBox_ev{b:Int×List Int×List Int}{f:Bool}(h1:b.2.1.length≤1000000)(h2:b.2.2.length≤1000000):Evt (fun k _=>laws_toBox k b f) (boxR b f):=by
 refine Evt.eq (f:=fun k q=>_) ?_ (fun k q=>by rw [laws_toBox])
 exact Evt.bind (toIntS_ev h1) (Evt.bind (toIntS_ev h2) .pure)
theorem boxR_eq(b:Int×List Int×List Int)(f:Bool):((boxR b f).1,(boxR b f).2.1.1,(boxR b f).2.2.1)=b:=by
 simp only [boxR,toV_fst]
theorem intactBox_ev{b:Int×List Int×List Int}(h1:b.2.1.length≤1000000)(h2:b.2.2.length≤1000000):Evt (fun k _=>laws_intactBox k (boxR b false) (boxR b false)) true:=by
 refine Evt.eq (f:=fun k q=>_) ?_ (fun k q=>by rw [laws_intactBox])
 exact Evt.cfalse (by simp) (Evt.bind (intactIntS_ev (room_toV h1)) (Evt.cfalse rfl (Evt.bind (intactIntS_ev (room_toV h2)) (Evt.cfalse rfl .pure))))
theorem intactT_ev{a:List (List Tm)}(h:Sized a):Evt (fun k _=>laws_intactTermSS k (toV (fun x=>toV id fT x false) ([fT],[]) a false) (toV (fun x=>toV id fT x false) ([fT],[]) a false)) true:=by
 refine intactTermSS_ev (room_toV h.len) ?_ ?_
 ·intro y hy
  simp [toV]at hy
  obtain⟨x,hx,rfl⟩:=hy
  exact⟨by simp,h.row x hx⟩
 ·intro y hy
  simp [toV]at hy
  rw [hy.2];simp [lenB]

abbrev tTerm:Ty := .pair (.int .i64) (.pair (.int .i64) (.pair (.int .i64) (.int .i64)))
abbrev tBox:Ty := .pair (.int .i64) (.pair (.sl (.int .i64)) (.sl (.int .i64)))
end Go.Ev.G

namespace Go.Ev.G
open Go Go.Ev
set_option maxRecDepth 100000

def tmW(t:Tm):Prop:=(-10000≤t.1∧t.1≤10000)∧(0≤t.2.1∧t.2.1≤4)∧(0≤t.2.2.1∧t.2.2.1≤4)∧(0≤t.2.2.2∧t.2.2.2≤4)
def sgl(a:Int×Int):Iv:=(a,a)
theorem sgl_iv{a:Int×Int}(h:gd a):ivGd (sgl a):=⟨h,h,Int.le_refl _⟩
def stepO(s:Iv)(e:Nat)(o:Option Iv):Option Iv:=o.bind fun a=>(powO s e).bind fun q=>mulO a q
def partF(t:Tm):Nat→Option Iv→List Iv→Option Iv
 | _,o,[]=>o
 | j,o,s::r=>partF t (j+1) (stepO s (pw t j).toNat o) r
def monO(t:Tm)(sides:List Iv):Option Iv:=partF t 0 (some (sgl (t.1,0))) sides
def accO(p o:Option Iv):Option Iv:=o.bind fun a=>p.bind fun q=>addO a q
def valF(sides:List Iv):Option Iv→List Tm→Option Iv
 | o,[]=>o
 | o,t::r=>valF sides (accO (monO t sides) o) r
def valO(p:List Tm)(sides:List Iv):Option Iv:=valF sides (some zI) p

theorem partF_none{t:Tm}:∀(r:List Iv) (j:Nat),partF t j none r=none
 | [],_=>rfl
 | _::r,j=>partF_none r (j+1)
theorem valF_none{sides:List Iv}:∀(r:List Tm),valF sides none r=none
 | []=>rfl
 | _::r=>valF_none r
theorem partF_iv{t:Tm}:∀(r:List Iv) (j:Nat) (o:Option Iv) (v:Iv),(∀a,o=some a→ivGd a)→partF t j o r=some v→ivGd v
 | [],_,o,v,ho,h=>ho v h
 | s::r,j,o,v,ho,h=>by
  refine partF_iv r (j+1) _ v ?_ h
  intro a ha
  unfold stepO at ha
  obtain⟨x,_,hx⟩:=Option.bind_eq_some_iff.1 ha
  obtain⟨q,_,hq⟩:=Option.bind_eq_some_iff.1 hx
  exact mulO_iv hq
theorem gd_int{n:Int}(h : -10000≤n∧n≤10000):gd (n,0):=⟨Int.le_refl _,by simp,by simp only;omega,by simp only;omega,.inl rfl⟩
theorem monO_iv{t:Tm}{sides:List Iv}{v:Iv}(ht:tmW t)(h:monO t sides=some v):ivGd v :=
 partF_iv sides 0 _ v (fun a ha=>by cases ha;exact sgl_iv (gd_int ht.1)) h
theorem valF_iv{sides:List Iv}:∀(r:List Tm) (o:Option Iv) (v:Iv),(∀t∈r,tmW t)→(∀a,o=some a→ivGd a)→valF sides o r=some v→ivGd v
 | [],o,v,_,ho,h=>ho v h
 | t::r,o,v,ht,ho,h=>by
  refine valF_iv r _ v (fun x hx=>ht x (by simp [hx])) ?_ h
  intro a ha
  unfold accO at ha
  obtain⟨x,hx0,hx⟩:=Option.bind_eq_some_iff.1 ha
  obtain⟨q,hq0,hq⟩:=Option.bind_eq_some_iff.1 hx
  exact addO_iv (ho x hx0) (monO_iv (ht t (by simp)) hq0) hq
theorem zI_iv:ivGd zI:=⟨by decide,by decide,Int.le_refl _⟩
theorem valO_iv{p:List Tm}{sides:List Iv}{v:Iv}(ht:∀t∈p,tmW t)(h:valO p sides=some v):ivGd v:=valF_iv p _ v ht (fun a ha=>by cases ha;exact zI_iv) h
theorem pw_nat{t:Tm}(ht:tmW t)(j:Nat):∃e:Nat,pw t j=e∧e≤4:=by
 obtain⟨_,h2,h3,h4⟩:=ht
 unfold pw
 split
 ·exact⟨t.2.1.toNat,by omega,by omega⟩
 ·split
  ·exact⟨t.2.2.1.toNat,by omega,by omega⟩
  ·exact⟨t.2.2.2.toNat,by omega,by omega⟩

theorem vaOver_inner{t:Tm}{sides:List Iv}(ht:tmW t)(hs:∀s∈sides,ivGd s)(hb:sides.length<lenB)(x1:List Iv)(x4 x6:Iv)(x20:List Tm)(x21 x22:Int) :
  ∀(r d:List Iv) (o:Iv),d++r=sides→gdI o→Evt (fun k n=>spec_vaOver_L59802 k n x1 x4 x6 t o x20 x21 x22 sides (sides.length:Int) d.length) (match partF t d.length (some o) r with | some v => .inr (x1,x4,x6,v,x20,x21,x22,()) | none => .inl (zI,false))
 | [],d,o,hd,ho=>by
  rw [List.append_nil]at hd
  subst hd
  refine Evt.step (fun k n=>spec_vaOver_L59802.eq_2 k _ _ _ _ _ _ _ _ _ _ _ n) (Evt.rng0 .pure)
 | s::r,d,o,hd,ho=>by
  refine Evt.step (fun k n=>spec_vaOver_L59802.eq_2 k _ _ _ _ _ _ _ _ _ _ _ n) ?_
  have gs:ivGd s:=hs s (by rw [←hd];simp)
  obtain⟨e,he,he4⟩:=pw_nat ht d.length
  rw [←hd]
  refine Evt.ctrue mid_lt (Evt.ctrue mid_ge (Evt.ctrue mid_lt ?_))
  rw [mid_get]
  refine Evt.bind (.const (poPower_eq t d.length)) ?_
  rw [he]
  refine Evt.bind (ivPower_ev gs he4) ?_
  have es:partF t d.length (some o) (s::r)=partF t (d.length+1) (stepO s e (some o)) r:=by rw [partF,he];rfl
  rw [es]
  unfold stepO
  rw [Option.bind_some]
  cases hp:powO s e with
  | none =>
   rw [Option.bind_none,partF_none]
   exact Evt.ctrue rfl .pure
  | some q =>
   refine Evt.cfalse rfl ?_
   rw [Option.bind_some]
   have hmul:=ivMul_ev ho (powO_gd hp)
   cases hm:mulO o q with
   | none =>
    rw [hm]at hmul
    rw [partF_none]
    exact Evt.bind hmul (Evt.ctrue rfl .pure)
   | some v =>
    rw [hm]at hmul
    refine Evt.bind hmul (Evt.cfalse rfl ?_)
    have ih:=vaOver_inner ht hs hb x1 x4 x6 x20 x21 x22 r (d ++ [s]) v (by simpa using hd) (mulO_gd hm)
    rw [←hd]at ih
    rw [len_next (by rw [hd];exact hb)]
    simpa using ih
theorem vaOver_ev{p:List Tm}{sides:List Iv}(ht:∀t∈p,tmW t)(hs:∀s∈sides,ivGd s)(hb:sides.length<lenB)(hp:p.length<lenB):Evt (fun k _=>spec_vaOver k p sides) (oI (valO p sides)):=by
 refine Evt.eq (f:=fun k q=>_) ?_ (fun k q=>by rw [spec_vaOver])
 refine Evt.bind (.const rfl) (Evt.bind (.const rfl) ?_)
 have key:∀(r d:List Tm) (o:Iv),d++r=p→gdI o→Evt (fun k n=>spec_vaOver_L58 k n sides zI o p (p.length:Int) d.length) (match valF sides (some o) r with | some v => .inr (zI,v,()) | none => .inl (zI,false)):=by
  intro r
  induction r with
  | nil =>
   intro d o hd ho
   rw [List.append_nil]at hd
   subst hd
   exact Evt.step (fun k n=>spec_vaOver_L58.eq_2 k _ _ _ _ _ _ n) (Evt.rng0 .pure)
  | cons t r ih =>
   intro d o hd ho
   refine Evt.step (fun k n=>spec_vaOver_L58.eq_2 k _ _ _ _ _ _ n) ?_
   have gt:=ht t (by rw [←hd];simp)
   rw [←hd]
   refine Evt.ctrue mid_lt (Evt.ctrue mid_ge (Evt.ctrue mid_lt ?_))
   rw [mid_get]
   refine Evt.bind (.const rfl) (Evt.bind (.const rfl) ?_)
   have hin:=vaOver_inner gt hs hb sides zI o (d++t::r) ((d++t::r).length:Int) (d.length:Int) sides [] (sgl (t.1,0)) rfl ⟨gd_int gt.1,gd_int gt.1⟩
   simp only [List.length_nil]at hin
   have es:valF sides (some o) (t::r)=valF sides (accO (monO t sides) (some o)) r:=rfl
   rw [es]
   unfold accO
   rw [Option.bind_some]
   have em:partF t 0 (some (sgl (t.1,0))) sides=monO t sides:=rfl
   rw [em]at hin
   cases hm:monO t sides with
   | none =>
    rw [hm]at hin
    rw [Option.bind_none,valF_none]
    exact Evt.inl (Evt.diag hin) .pure
   | some q =>
    rw [hm]at hin
    rw [Option.bind_some]
    refine Evt.inr (Evt.diag hin) ?_
    have gq:=monO_iv gt hm
    refine Evt.bind (ivAdd_ev ho ⟨gq.1,gq.2.1⟩) ?_
    cases ha:addO o q with
    | none =>
     rw [valF_none]
     exact Evt.ctrue rfl .pure
    | some v =>
     refine Evt.cfalse rfl ?_
     have ih:=ih (d ++ [t]) v (by simpa using hd) (addO_gd ha)
     rw [←hd]at ih
     simp only
     rw [len_next (by rw [hd];exact hp)]
     exact ih
 have hk:=key p [] zI rfl zI_gd
 simp only [List.length_nil]at hk
 unfold valO
 cases hv:valF sides (some zI) p with
 | none=>rw [hv]at hk;exact Evt.inl (Evt.diag hk) .pure
 | some v=>rw [hv]at hk;exact Evt.inr (Evt.diag hk) .pure

theorem step_flag{b c:Bool}{o:Option Iv}{s v v1:Iv}{e:Nat}(hc:c=(b&&o.isSome))(ho:c=true→o=some v)(h1:c=true→(powO s e).isSome=true→powO s e=some v1) :
  ((c&&(powO s e).isSome)&&(mulO v v1).isSome)=(b&&(stepO s e o).isSome):=by
 cases hcc:c with
 | false =>
  rw [hcc]at hc
  cases b with
  | false=>rfl
  | true =>
   cases o with
   | none=>rfl
   | some _=>cases hc
 | true =>
  have h2:=ho hcc
  subst h2
  have hb:b=true:=by rw [hcc]at hc;cases b with | false=>cases hc | true=>rfl
  rw [hb]
  unfold stepO
  rw [Option.bind_some]
  cases hp:powO s e with
  | none=>rfl
  | some q =>
   have:=h1 hcc (by rw [hp];rfl)
   rw [hp]at this
   cases this
   rw [Option.bind_some]
   rfl
theorem step_val{b c:Bool}{o:Option Iv}{s v v1 v2:Iv}{e:Nat}(ho:c=true→o=some v)(h1:c=true→(powO s e).isSome=true→powO s e=some v1)
  (h2:(c&&(powO s e).isSome)=true→(mulO v v1).isSome=true→mulO v v1=some v2) (h:((c&&(powO s e).isSome)&&(mulO v v1).isSome)=true):stepO s e o=some v2:=by
 rw [Bool.and_eq_true,Bool.and_eq_true]at h
 have q1:=ho h.1.1
 have q2:=h1 h.1.1 h.1.2
 have q3:=h2 (by rw [h.1.1,h.1.2];rfl) h.2
 rw [q1]
 unfold stepO
 rw [Option.bind_some,q2,Option.bind_some,q3]
theorem valueOver_inner{b:Bool}{t:Tm}{sides:List Iv}(ht:tmW t)(hs:∀s∈sides,ivGd s)(hb:sides.length≤3)(x1:List Iv)(x4 x7:Iv)(x16:List Tm)(x17 x18:Int) :
  ∀(r d:List Iv) (c:Bool) (v:Iv) (o:Option Iv),d++r=sides→gdI v→c=(b&&o.isSome)→(c=true→o=some v) →
   ∃v',gdI v'∧((b&&(partF t d.length o r).isSome)=true→partF t d.length o r=some v')∧Evt (fun k n=>impl_valueOver_L125338 k n x1 x4 c x7 t v x16 x17 x18 sides (sides.length:Int) d.length) (.inr (x1,x4,b&&(partF t d.length o r).isSome,x7,v',x16,x17,x18,()))
 | [],d,c,v,o,hd,gv,hc,ho=>by
  rw [List.append_nil]at hd
  subst hd
  refine⟨v,gv,fun h=>ho (by rw [hc];exact h),Evt.step (fun k n=>impl_valueOver_L125338.eq_2 k _ _ _ _ _ _ _ _ _ _ _ _ n) (Evt.rng0 ?_)⟩
  rw [hc]
  exact .pure
 | s::r,d,c,v,o,hd,gv,hc,ho=>by
  have gs:ivGd s:=hs s (by rw [←hd];simp)
  have hl:d.length≤2:=by
   have:=congrArg List.length hd
   simp at this;omega
  obtain⟨e,he,he4⟩:=pw_nat ht d.length
  obtain⟨v1,g1,q1,e1⟩:=power_ev (b:=c) gs he4
  obtain⟨v2,g2,q2,e2⟩:=multiply_ev (b:=(c&&(powO s e).isSome)) gv g1
  have es:partF t d.length o (s::r)=partF t (d.length+1) (stepO s e o) r:=by rw [partF,he];rfl
  have hf:=step_flag (s:=s) (v1:=v1) (e:=e) hc ho q1
  obtain⟨v',g',hv',hl'⟩:=valueOver_inner ht hs hb x1 x4 x7 x16 x17 x18 r (d ++ [s]) ((c&&(powO s e).isSome)&&(mulO v v1).isSome) v2 (stepO s e o) (by simpa using hd) g2 hf (step_val (b:=b) ho q1 q2)
  rw [show(d ++ [s]).length=d.length+1 by simp]at hv' hl'
  rw [es]
  refine⟨v',g',hv',Evt.step (fun k n=>impl_valueOver_L125338.eq_2 k _ _ _ _ _ _ _ _ _ _ _ _ n) ?_⟩
  rw [←hd]at hl' ⊢
  refine Evt.ctrue mid_lt (Evt.ctrue mid_ge (Evt.ctrue mid_lt ?_))
  rw [mid_get,len_next (by rw [hd];simp only [lenB];omega),show(d ++ [s]).length=d.length+1 by simp]
  refine Evt.bind (.const rfl) ?_
  have hj:d.length=0∨d.length=1∨d.length=2:=by omega
  rcases hj with hj | hj | hj
  ·have hpw:t.2.1=(e:Int):=by rw [←he,hj];rfl
   refine Evt.ctrue (by rw [hj];rfl) ?_
   simp only [hpw]
   exact Evt.bind e1 (Evt.bind e2 hl')
  ·have hpw:t.2.2.1=(e:Int):=by rw [←he,hj];rfl
   refine Evt.cfalse (by rw [hj];rfl) (Evt.ctrue (by rw [hj];rfl) ?_)
   simp only [hpw]
   exact Evt.bind e1 (Evt.bind e2 hl')
  ·have hpw:t.2.2.2=(e:Int):=by rw [←he,hj];rfl
   refine Evt.cfalse (by rw [hj];rfl) (Evt.cfalse (by rw [hj];rfl) (Evt.ctrue (by rw [hj];rfl) ?_))
   simp only [hpw]
   exact Evt.bind e1 (Evt.bind e2 hl')
theorem valueOver_ev{p:List Tm}{sides:List Iv}(ht:∀t∈p,tmW t)(hs:∀s∈sides,ivGd s)(hb:sides.length≤3)(hp:p.length<lenB):Evt (fun k _=>impl_valueOver k p sides) (oI (valO p sides)):=by
 refine Evt.eq (f:=fun k q=>_) ?_ (fun k q=>by rw [impl_valueOver])
 have key:∀(r d:List Tm) (c:Bool) (v:Iv) (o:Option Iv),d++r=p→gdI v→c=o.isSome→(c=true→o=some v) →
   ∃v',((valF sides o r).isSome=true→valF sides o r=some v')∧Evt (fun k n=>impl_valueOver_L122 k n sides zI c v p (p.length:Int) d.length) (.inr (zI,(valF sides o r).isSome,v',())):=by
  intro r
  induction r with
  | nil =>
   intro d c v o hd gv hc ho
   rw [List.append_nil]at hd
   subst hd
   refine⟨v,fun h=>ho (by rw [hc];exact h),Evt.step (fun k n=>impl_valueOver_L122.eq_2 k _ _ _ _ _ _ _ n) (Evt.rng0 ?_)⟩
   rw [hc]
   exact .pure
  | cons t r ih =>
   intro d c v o hd gv hc ho
   have gt:=ht t (by rw [←hd];simp)
   obtain⟨q,gq,hq,hin⟩:=valueOver_inner (b:=c) gt hs hb sides zI v (d++t::r) ((d++t::r).length:Int) (d.length:Int) sides [] c (sgl (t.1,0)) (some (sgl (t.1,0))) rfl ⟨gd_int gt.1,gd_int gt.1⟩ (by simp) (fun _=>rfl)
   simp only [List.length_nil]at hq hin
   have em:partF t 0 (some (sgl (t.1,0))) sides=monO t sides:=rfl
   rw [em]at hq hin
   obtain⟨w,gw,hw,ha⟩:=addI_ev (b:=(c&&(monO t sides).isSome)) gv gq
   have hf:((c&&(monO t sides).isSome)&&(addO v q).isSome)=(accO (monO t sides) o).isSome:=by
    cases hcc:c with
    | false =>
     rw [hcc]at hc
     cases o with
     | none=>rfl
     | some _=>cases hc
    | true =>
     have h2:=ho hcc
     subst h2
     unfold accO
     rw [Option.bind_some]
     cases hm:monO t sides with
     | none=>rfl
     | some q' =>
      have:=hq (by rw [hcc,hm];rfl)
      rw [hm]at this
      cases this
      rfl
   obtain⟨v',hv',hl'⟩:=ih (d ++ [t]) ((c&&(monO t sides).isSome)&&(addO v q).isSome) w (accO (monO t sides) o) (by simpa using hd) gw hf (by
    intro h
    rw [Bool.and_eq_true]at h
    have h1:=h.1
    rw [Bool.and_eq_true]at h1
    rw [ho h1.1,hq h.1]
    exact hw h.1 h.2)
   have es:valF sides o (t::r)=valF sides (accO (monO t sides) o) r:=rfl
   rw [es]
   refine⟨v',hv',Evt.step (fun k n=>impl_valueOver_L122.eq_2 k _ _ _ _ _ _ _ n) ?_⟩
   rw [←hd]at hl' ⊢
   refine Evt.ctrue mid_lt (Evt.ctrue mid_ge (Evt.ctrue mid_lt ?_))
   rw [mid_get]
   refine Evt.bind (.const rfl) (Evt.bind (.const rfl) (Evt.inr (Evt.diag hin) (Evt.bind ha ?_)))
   simp only
   rw [len_next (by rw [hd];exact hp)]
   exact hl'
 obtain⟨v',hv',hl'⟩:=key p [] true zI (some zI) rfl zI_gd rfl (fun _=>rfl)
 simp only [List.length_nil]at hl'
 refine Evt.inr (Evt.diag hl') ?_
 unfold impl_reckoner_result valO
 cases hv:(valF sides (some zI) p).isSome with
 | true =>
  rw [hv' hv]
  exact Evt.bind (.const rfl) .pure
 | false =>
  have:valF sides (some zI) p=none:=by simpa using hv
  rw [this]
  exact Evt.bind (.const rfl) .pure
end Go.Ev.G

namespace Go.Ev.G
open Go Go.Ev
set_option maxRecDepth 100000

def hV(m:Nat)(s:List (List Tm))(sides:List Iv)(r:Nat):Bool:=match valO (s.getD (r % m) []) sides with
 | some v=>sgI v==(if r<m then 1 else -1)
 | none=>false
structure Sd(s:List (List Tm))(sides:List Iv):Prop where
 sd:∀i∈sides,ivGd i
 ln:sides.length≤3
 tm:∀p∈s,∀t∈p,tmW t
 lp:∀p∈s,p.length<lenB
abbrev Ed:=Int×(Int×Int)×(Int×Int)×Int×Int
def sidesE(e:Ed):List Iv:=if e.1=0 then [sgl e.2.1,(minD e.2.2.1 e.2.2.2,maxD e.2.2.1 e.2.2.2)]else [(minD e.2.2.1 e.2.2.2,maxD e.2.2.1 e.2.2.2),sgl e.2.1]
structure EdOk(e:Ed):Prop where
 sd:e.1=0∨e.1=1
 a:gd e.2.1
 f:gd e.2.2.1
 t:gd e.2.2.2
theorem along_iv{a b:Int×Int}(ha:gd a)(hb:gd b):ivGd (minD a b,maxD a b):=⟨minD_gd ha hb,maxD_gd ha hb,by simp only [minD_sv,maxD_sv];omega⟩
theorem EdOk.sides{e:Ed}(h:EdOk e):∀i∈sidesE e,ivGd i:=by
 intro i hi
 have q:=along_iv h.f h.t
 have r:=sgl_iv h.a
 unfold sidesE at hi
 split at hi <;> (simp only [List.mem_cons,List.not_mem_nil,or_false]at hi;rcases hi with rfl | rfl <;> assumption)
theorem EdOk.len(e:Ed):(sidesE e).length=2:=by unfold sidesE;split <;> rfl
theorem Sd.edge{s:List (List Tm)}(h1:∀p∈s,∀t∈p,tmW t)(h2:∀p∈s,p.length<lenB){e:Ed}(h:EdOk e):Sd s (sidesE e):=⟨h.sides,by rw [EdOk.len];omega,h1,h2⟩
end Go.Ev.G

namespace Go.Ev.G
open Go Go.Ev
set_option maxRecDepth 100000

abbrev Bx:=Int×List Int×List Int
theorem strip_scale(k:Nat)(n:Int):∀D:Nat,strip (k+D) (n*2 ^ D)=strip k n
 | 0=>by simp
 | D+1=>by
  have e:n*2 ^ (D+1)=(n*2 ^ D)*2:=by rw [Int.pow_succ,Int.mul_assoc]
  rw [e,←Nat.add_assoc,strip,if_pos (by omega),Int.mul_ediv_cancel _ (by decide)]
  exact strip_scale k n D
theorem mkD_scale(k D:Nat)(n:Int):mkD (n*2 ^ D) (k+D)=mkD n k:=by
 unfold mkD
 rw [strip_scale]
end Go.Ev.G

namespace Go.Ev.G
open Go Go.Ev
set_option maxRecDepth 100000

def nnI(n d:Int):Int:=if d<0 then -n else n
def quotV(n d s:Int):Int:=(nnI n d*2 ^ s.toNat) / ((d.natAbs*2 ^ (-s).toNat:Nat):Int)

theorem wN_join{neg:Bool}{h x:Nat}(hx:x<B64):wN neg (h*B64+x)=(neg,(h:Int),(x:Int)):=by
 have hB:0<B64:=by decide
 unfold wN
 rw [Nat.mul_comm h B64,Nat.mul_add_div hB,Nat.div_eq_of_lt hx,Nat.add_zero,Nat.mul_add_mod,Nat.mod_eq_of_lt hx]

theorem quot_val{n d s:Int}(hd:d≠0):quotV n d s=wV (!(decide (n<0)==decide (d<0))) ((n.natAbs*2 ^ s.toNat) / (d.natAbs*2 ^ (-s).toNat)+(if (!(decide (n<0)==decide (d<0))) && !decide (d.natAbs*2 ^ (-s).toNat ∣ n.natAbs*2 ^ s.toNat)then 1 else 0)):=by
 unfold quotV
 have hD:0<d.natAbs*2 ^ (-s).toNat:=Nat.mul_pos (by omega) (Nat.pow_pos (by decide))
 generalize d.natAbs*2 ^ (-s).toNat=D at hD ⊢
 have hA:nnI n d*2 ^ s.toNat=if (!(decide (n<0)==decide (d<0)))=true then -((n.natAbs*2 ^ s.toNat:Nat):Int)else((n.natAbs*2 ^ s.toNat:Nat):Int):=by
  have e:((n.natAbs*2 ^ s.toNat:Nat):Int)=(n.natAbs:Int)*2 ^ s.toNat:=by simp
  rw [e]
  unfold nnI
  by_cases h1:n<0
  ·by_cases h2:d<0
   ·rw [if_pos h2,decide_eq_true h1,decide_eq_true h2]
    simp only [beq_self_eq_true,Bool.not_true,Bool.false_eq_true,if_false]
    congr 1
    omega
   ·rw [if_neg h2,decide_eq_true h1,decide_eq_false h2]
    rw [if_pos (by rfl),←Int.neg_mul]
    congr 1
    omega
  ·by_cases h2:d<0
   ·rw [if_pos h2,decide_eq_false h1,decide_eq_true h2]
    rw [if_pos (by rfl),←Int.neg_mul]
    congr 1
    omega
   ·rw [if_neg h2,decide_eq_false h1,decide_eq_false h2]
    simp only [beq_self_eq_true,Bool.not_true,Bool.false_eq_true,if_false]
    congr 1
    omega
 rw [hA]
 generalize n.natAbs*2 ^ s.toNat=A
 cases (!(decide (n<0)==decide (d<0)))with
 | false=>simp [wV]
 | true =>
  simp only [if_true,Bool.true_and,wV]
  rw [Int.neg_ediv]
  have hs:(D:Int).sign=1:=Int.sign_eq_one_of_pos (by omega)
  by_cases hdv:D ∣ A
  ·rw [if_pos (Int.natCast_dvd_natCast.2 hdv),decide_eq_true hdv]
   simp
  ·rw [if_neg (fun h=>hdv (Int.natCast_dvd_natCast.1 h)),decide_eq_false hdv,hs]
   simp only [Bool.not_false,if_true]
   have:((A / D+1:Nat):Int)=(A:Int) / (D:Int)+1:=by simp
   rw [this]
   omega

theorem quotientDown_ev{n k d:Int}{p:Nat}(h1 : -1099511627776≤n∧n≤1099511627776)(h2 : -1099511627776≤d∧d≤1099511627776)(hd:d≠0)(hk : -24≤k∧k≤24)(hp:p≤24) :
  Evt (fun kk _=>impl_quotientDown kk n k d (p:Int)) (mkD (quotV n d (k+p)) p):=by
 refine Evt.eq (f:=fun k q=>_) ?_ (fun k q=>by rw [impl_quotientDown])
 rw [quot_val hd]
 have hBd:(2:Nat) ^ 64=B64:=by decide
 have hD0:0<d.natAbs:=by omega
 have hDB:d.natAbs<B64:=Nat.lt_of_le_of_lt (show d.natAbs≤1099511627776 by omega) (by decide)
 have ws:IntKind.wrap .i64 (k+(p:Int))=k+p:=w64 (by omega) (by omega)
 have ws2:IntKind.wrap .i64 (IntKind.wrap .i64 (0 - k) - (p:Int)) = -(k+p):=by rw [w64 (n:=0 - k) (by omega) (by omega),w64 (by omega) (by omega)];omega
 have e1:(if k+(p:Int)<0 then 0 else k+(p:Int))=(((k+p).toNat:Nat):Int):=by split <;> omega
 have e2:(if -(k+(p:Int))<0 then 0 else -(k+(p:Int)))=(((-(k+p)).toNat:Nat):Int):=by split <;> omega
 have he:(k+(p:Int)).toNat≤48:=by omega
 have hj:(-(k+(p:Int))).toNat≤24:=by omega
 have hA:n.natAbs*2 ^ (k+(p:Int)).toNat≤1099511627776*2 ^ 48:=Nat.mul_le_mul (by omega) (Nat.pow_le_pow_right (by decide) he)
 have hAB:n.natAbs*2 ^ (k+(p:Int)).toNat<B64*B64:=Nat.lt_of_le_of_lt hA (by decide)
 simp only [ws,ws2,e1,e2]
 refine Evt.bind (.const (wideOf_eq (by omega) (by omega))) (Evt.bind (.const (shl_eq (by omega) hAB)) (Evt.bind (.const (size_eq (by omega) (by omega))) ?_))
 generalize hTe:n.natAbs*2 ^ (k+(p:Int)).toNat=T at hAB hA ⊢
 have d1:Evt (fun k _=>math_bits_Div64 k 0 ((T / B64:Nat):Int) (d.natAbs:Int)) (((T / B64 / d.natAbs:Nat):Int),((T / B64 % d.natAbs:Nat):Int)):=by
  have:=div64_ev (hi:=0) (lo:=T / B64) hD0 ((Nat.div_lt_iff_lt_mul (by decide)).2 hAB) hDB
  rw [Nat.zero_mul,Nat.zero_add]at this
  exact this
 refine Evt.bind d1 (Evt.bind (.const (size_eq (by omega) (by omega))) ?_)
 have hm:T / B64 % d.natAbs<d.natAbs:=Nat.mod_lt _ hD0
 have hl:T % B64<B64:=Nat.mod_lt _ (by decide)
 refine Evt.bind (div64_ev hm hl hDB) ?_
 have hjn:=kn_join (u:=0) (n1:=T / B64) (n0:=T % B64) (y:=d.natAbs) (B:=B64) hD0 hl
 rw [Nat.zero_mul,Nat.zero_add,Nat.div_add_mod']at hjn
 have hx:=kn_lt (B:=B64) hm hl
 rw [hjn.2]
 have hw:((!(decide (n<0)==decide (d<0))),((T / B64 / d.natAbs:Nat):Int),(((T / B64 % d.natAbs*B64+T % B64) / d.natAbs:Nat):Int))=wN (!(decide (n<0)==decide (d<0))) (T / d.natAbs):=by
  rw [←hjn.1,wN_join hx]
 dsimp only
 rw [hw]
 have hqB:T / d.natAbs<B64*B64:=Nat.lt_of_le_of_lt (Nat.div_le_self _ _) hAB
 have hneg:∀b:Bool,(b=(!(decide (n<0)==decide (d<0))))→True:=fun _ _=>trivial
 clear hneg
  -- the shift down
 have hsh:impl_wide_shift (wN (!(decide (n<0)==decide (d<0))) (T / d.natAbs)) (if 0<k+(p:Int)then 0 else k+(p:Int))=some (wN (!(decide (n<0)==decide (d<0))) (T / d.natAbs / 2 ^ (-(k+(p:Int))).toNat)):=by
  by_cases hz:k+(p:Int)<0
  ·rw [if_neg (by omega)]
   have e:k+(p:Int) = -(((-(k+(p:Int))).toNat:Nat):Int):=by omega
   conv=>lhs;rw [e]
   exact shr_eq (by omega) (by omega) hqB
  ·have e:(if 0<k+(p:Int)then 0 else k+(p:Int))=((0:Nat):Int):=by split <;> omega
   have e0:(-(k+(p:Int))).toNat=0:=by omega
   rw [e,e0,shl_eq (by omega) (by rw [Nat.pow_zero,Nat.mul_one];exact hqB)]
   rw [Nat.pow_zero,Nat.mul_one,Nat.div_one]
 refine Evt.bind (.const hsh) ?_
 generalize hjj:(-(k+(p:Int))).toNat=j at hj ⊢
 have hM:T / d.natAbs / 2 ^ j=T / (d.natAbs*2 ^ j):=Nat.div_div_eq_div_mul _ _ _
 have hMb:T / (d.natAbs*2 ^ j)≤1099511627776*2 ^ 48:=Nat.le_trans (Nat.div_le_self _ _) hA
 have hMB:T / (d.natAbs*2 ^ j)+1<B64*B64:=Nat.lt_of_le_of_lt (Nat.add_le_add_right hMb 1) (by decide)
  -- what is exact
 have hex:(d.natAbs*2 ^ j ∣ T)↔(T % d.natAbs=0∧T / d.natAbs / 2 ^ j*2 ^ j=T / d.natAbs):=by
  constructor
  ·rintro⟨c,hc⟩
   have e:T=d.natAbs*(2 ^ j*c):=by rw [hc,Nat.mul_assoc]
   have e3:T / d.natAbs=2 ^ j*c:=by rw [e,Nat.mul_div_cancel_left _ hD0]
   refine⟨by rw [e,Nat.mul_mod_right],?_⟩
   rw [e3,Nat.mul_div_cancel_left _ (Nat.pow_pos (by decide)),Nat.mul_comm]
  ·rintro⟨h1,h2⟩
   refine⟨T / d.natAbs / 2 ^ j,?_⟩
   rw [Nat.mul_assoc,Nat.mul_comm (2 ^ j),h2,Nat.mul_comm]
   exact(Nat.div_mul_cancel (Nat.dvd_of_mod_eq_zero h1)).symm
 have w1:impl_wideOf (-1)=some (wN true 1):=wideOf_eq (n := -1) (by omega) (by omega)
 rw [hM]
 generalize hng:(!(decide (n<0)==decide (d<0)))=neg
 have fin:∀(M:Nat),M<B64*B64→Evt (fun k _=>(Option.bind (impl_wide_fit k (wN neg M) (p:Int)) fun r13=>some (r13.1,r13.2))) (mkD (wV neg M) p):=fun M hM=>Evt.bind (fit_ev hM (by omega)) .pure
 by_cases hr:T % d.natAbs=0
 ·refine Evt.ctrue (by simp [hr]) ?_
  have hsh2:impl_wide_shift (wN neg (T / (d.natAbs*2 ^ j))) (j:Int)=some (wN neg (T / (d.natAbs*2 ^ j)*2 ^ j)):=shl_eq (by omega) (by
   rw [←hM]
   exact Nat.lt_of_le_of_lt (Nat.div_mul_le_self _ _) hqB)
  refine Evt.bind (.const hsh2) (Evt.bind (sizes_ev _ _ _ _) ?_)
  cases neg with
  | false =>
   simp only [Bool.false_and,Bool.false_eq_true,if_false,Nat.add_zero]
   exact Evt.inr (Evt.cfalse rfl .pure) (fin _ (by omega))
  | true =>
   by_cases hx2:d.natAbs*2 ^ j ∣ T
   ·have h3:=(hex.1 hx2).2
    rw [hM]at h3
    rw [decide_eq_true hx2]
    simp only [Bool.not_true,Bool.and_false,Bool.false_eq_true,if_false,Nat.add_zero]
    refine Evt.inr (Evt.ctrue rfl (Evt.cfalse ?_ .pure)) (fin _ (by omega))
    rw [h3,(cmpI_zero _ _).2 rfl]
    rfl
   ·rw [decide_eq_false hx2]
    simp only [Bool.not_false,Bool.and_true,if_true]
    refine Evt.inr (Evt.ctrue rfl (Evt.ctrue ?_ (Evt.bind (.const w1) (Evt.bind (Evt.eq Evt.pure (fun k _=>add_same hMB k)) .pure)))) (fin _ hMB)
    have:cmpI ((T / (d.natAbs*2 ^ j)*2 ^ j:Nat):Int) ((T / d.natAbs:Nat):Int)≠0:=by
     intro h
     have:=(cmpI_zero _ _).1 h
     exact hx2 (hex.2 ⟨hr,by rw [hM];omega⟩)
    simpa using this
 ·have hr2:(((T % d.natAbs:Nat):Int)==0)=false:=by
   generalize T % d.natAbs=t at hr ⊢
   rw [beq_eq_false_iff_ne]
   omega
  refine Evt.cfalse hr2 ?_
  have hx2 : ¬ d.natAbs*2 ^ j ∣ T:=fun h=>hr (hex.1 h).1
  rw [decide_eq_false hx2]
  cases neg with
  | false =>
   simp only [Bool.false_and,Bool.false_eq_true,if_false,Nat.add_zero]
   exact Evt.inr (Evt.cfalse rfl .pure) (fin _ (by omega))
  | true =>
   simp only [Bool.not_false,Bool.and_true,if_true]
   exact Evt.inr (Evt.ctrue rfl (Evt.bind (.const w1) (Evt.bind (Evt.eq Evt.pure (fun k _=>add_same hMB k)) .pure))) (fin _ hMB)
end Go.Ev.G

namespace Go.Ev.G
open Go Go.Ev
set_option maxRecDepth 100000

theorem two_step{x D g t:Nat}(h:x=D*g+t)(ht:t<D):(if D≤2*t then(2*x / D=2*g+1∧2*x % D=2*t - D)else(2*x / D=2*g∧2*x % D=2*t)):=by
 have hD:0<D:=by omega
 have e:2*x=D*(2*g)+2*t:=by rw [h,Nat.mul_add,Nat.mul_left_comm]
 split
 ·have e2:2*x=D*(2*g+1)+(2*t - D):=by rw [Nat.mul_add,Nat.mul_one];omega
  rw [e2]
  exact⟨by rw [Nat.mul_add_div hD,Nat.div_eq_of_lt (by omega),Nat.add_zero],by rw [Nat.mul_add_mod,Nat.mod_eq_of_lt (by omega)]⟩
 ·rw [e]
  exact⟨by rw [Nat.mul_add_div hD,Nat.div_eq_of_lt (by omega),Nat.add_zero],by rw [Nat.mul_add_mod,Nat.mod_eq_of_lt (by omega)]⟩

theorem digits1{q p:Int}{z:Int×Int}{r d s:Nat}(hr:r<d)(hd:d≤1099511627776)(hs:s≤48):∀(m i:Nat),i+m=s →
  Evt (fun k n=>spec_dyDigits_L58 k n q ((r*2 ^ i % d:Nat):Int) (d:Int) (s:Int) p z ((r*2 ^ i / d:Nat):Int) (i:Int)) (.inr (q,(s:Int),p,z,((r*2 ^ s / d:Nat):Int),())):=by
 intro m
 induction m with
 | zero =>
  intro i hi
  refine Evt.step (fun k n=>spec_dyDigits_L58.eq_2 k _ _ _ _ _ _ _ _ n) ?_
  rw [Nat.add_zero]at hi
  subst hi
  exact Evt.cfalse (decide_eq_false (by omega)) .pure
 | succ m ih =>
  intro i hi
  have ih:=ih (i+1) (by omega)
  have hst:=two_step (x:=r*2 ^ i) (D:=d) (Nat.div_add_mod _ _).symm (Nat.mod_lt _ (by omega))
  have e2:r*2 ^ (i+1)=2*(r*2 ^ i):=by rw [Nat.pow_succ,←Nat.mul_assoc,Nat.mul_comm]
  rw [e2]at ih
  have ht:r*2 ^ i % d<d:=Nat.mod_lt _ (by omega)
  have hg:r*2 ^ i / d<2 ^ i:=by
   rw [Nat.div_lt_iff_lt_mul (by omega)]
   exact(Nat.mul_comm d (2 ^ i)) ▸ Nat.mul_lt_mul_of_pos_right hr (Nat.pow_pos (by decide))
  have hp:2 ^ i≤2 ^ 48:=Nat.pow_le_pow_right (by decide) (by omega)
  have h48:(2:Nat) ^ 48=281474976710656:=by decide
  refine Evt.step (fun k n=>spec_dyDigits_L58.eq_2 k _ _ _ _ _ _ _ _ n) (Evt.ctrue (decide_eq_true (by omega)) ?_)
  generalize r*2 ^ i / d=g at hst hg ⊢
  generalize r*2 ^ i % d=t at hst ht ⊢
  have w1:IntKind.wrap .i64 ((t:Int)*2)=(t:Int)*2:=w64 (by omega) (by omega)
  have w2:IntKind.wrap .i64 ((g:Int)*2)=(g:Int)*2:=w64 (by omega) (by omega)
  have w3:IntKind.wrap .i64 ((t:Int)*2 - (d:Int))=(t:Int)*2 - (d:Int):=w64 (by omega) (by omega)
  have w4:IntKind.wrap .i64 ((g:Int)*2+1)=(g:Int)*2+1:=w64 (by omega) (by omega)
  have w5:IntKind.wrap .i64 ((i:Int)+1)=((i+1:Nat):Int):=by rw [w64 (by omega) (by omega)];rfl
  simp only [w1,w2,w3,w4,w5]
  by_cases hc:d≤2*t
  ·rw [if_pos hc]at hst
   rw [hst.1,hst.2]at ih
   have c1:((2*t - d:Nat):Int)=(t:Int)*2 - (d:Int):=by omega
   have c2:((2*g+1:Nat):Int)=(g:Int)*2+1:=by omega
   rw [c1,c2]at ih
   exact Evt.ctrue (decide_eq_true (by omega)) ih
  ·rw [if_neg hc]at hst
   rw [hst.1,hst.2]at ih
   have c1:((2*t:Nat):Int)=(t:Int)*2:=by omega
   have c2:((2*g:Nat):Int)=(g:Int)*2:=by omega
   rw [c1,c2]at ih
   exact Evt.cfalse (decide_eq_false (by omega)) ih

theorem mkD_two(n:Int)(k:Nat):mkD (2*n) (k+1)=mkD n k:=by
 have:=mkD_scale k 1 n
 rw [Int.pow_succ,Int.pow_zero,Int.one_mul,Int.mul_comm]at this
 exact this

theorem digits2{q:Int}{z:Int×Int}:∀(s p g:Nat),s≤48→p≤24→g<2 ^ s→∃s' p' g':Nat,s'≤s∧p'≤p∧g'<2 ^ s'∧(p'=0∨s'=0∨g' % 2=1)∧mkD (q*2 ^ s'+g') p'=mkD (q*2 ^ s+g) p ∧
  Evt (fun k n=>spec_dyDigits_L60 k n q (s:Int) (p:Int) z (g:Int)) (.inr (q,(s':Int),(p':Int),z,(g':Int),())):=by
 intro s
 induction s with
 | zero =>
  intro p g hs hp hg
  refine⟨0,p,g,by omega,by omega,hg,.inr (.inl rfl),rfl,Evt.step (fun k n=>spec_dyDigits_L60.eq_2 k _ _ _ _ _ n) ?_⟩
  by_cases hp0:p=0
  ·exact Evt.cfalse (decide_eq_false (by omega)) .pure
  ·exact Evt.ctrue (decide_eq_true (by omega)) (Evt.cfalse (decide_eq_false (by omega)) .pure)
 | succ s ih =>
  intro p g hs hp hg
  by_cases hp0:p=0
  ·subst hp0
   exact⟨s+1,0,g,by omega,by omega,hg,.inl rfl,rfl,Evt.step (fun k n=>spec_dyDigits_L60.eq_2 k _ _ _ _ _ n) (Evt.cfalse (decide_eq_false (by omega)) .pure)⟩
  ·have hm:Int.tmod (g:Int) 2=((g % 2:Nat):Int):=rfl
   by_cases hg2:g % 2=0
   ·have hgh:g / 2<2 ^ s:=by rw [Nat.pow_succ]at hg;omega
    obtain⟨s',p',g',a1,a2,a3,a4,a5,a6⟩:=ih (p - 1) (g / 2) (by omega) (by omega) hgh
    refine⟨s',p',g',by omega,by omega,a3,a4,?_,Evt.step (fun k n=>spec_dyDigits_L60.eq_2 k _ _ _ _ _ n) ?_⟩
    ·rw [a5]
     have e:q*2 ^ (s+1)+(g:Int)=2*(q*2 ^ s+((g / 2:Nat):Int)):=by
      rw [Int.pow_succ,Int.mul_add,←Int.mul_assoc,Int.mul_comm (q*2 ^ s) 2]
      omega
     have ep:p=(p - 1)+1:=by omega
     rw [e]
     conv=>rhs;rw [ep]
     rw [mkD_two]
    ·have w1:IntKind.wrap .i64 (((s+1:Nat):Int) - 1)=(s:Int):=by rw [w64 (by omega) (by omega)];omega
     have w2:IntKind.wrap .i64 ((p:Int) - 1)=((p - 1:Nat):Int):=by rw [w64 (by omega) (by omega)];omega
     have hgB:g<2 ^ 48:=Nat.lt_of_lt_of_le hg (Nat.pow_le_pow_right (by decide) hs)
     have h48:(2:Nat) ^ 48=281474976710656:=by decide
     have w3:IntKind.wrap .i64 (Int.tdiv (g:Int) 2)=((g / 2:Nat):Int):=by
      have:Int.tdiv (g:Int) 2=((g / 2:Nat):Int):=rfl
      rw [this,w64 (by omega) (by omega)]
     rw [w1,w2,w3,hm]
     exact Evt.ctrue (decide_eq_true (by omega)) (Evt.ctrue (decide_eq_true (by omega)) (Evt.ctrue (by rw [hg2];rfl) a6))
   ·refine⟨s+1,p,g,by omega,by omega,hg,.inr (.inr (by omega)),rfl,Evt.step (fun k n=>spec_dyDigits_L60.eq_2 k _ _ _ _ _ n) ?_⟩
    rw [hm]
    have hg1:g % 2=1:=by omega
    exact Evt.ctrue (decide_eq_true (by omega)) (Evt.ctrue (decide_eq_true (by omega)) (Evt.cfalse (by rw [hg1];rfl) .pure))

theorem mkD_large{n:Int}(h:n < -1099511627776∨1099511627776<n):mkD n 0=((0,0),false):=by
 unfold mkD strip
 rw [if_neg]
 simp only
 omega

theorem digits_ev{q:Int}{r d s p:Nat}(hq : -1099511627777≤q∧q≤1099511627777)(hr:r<d)(hd:d≤1099511627776)(hs:s≤48)(hp:p≤24) :
  Evt (fun k _=>spec_dyDigits k q (r:Int) (d:Int) (s:Int) (p:Int)) (mkD (q*2 ^ s+((r*2 ^ s / d:Nat):Int)) p):=by
 refine Evt.eq (f:=fun k q=>_) ?_ (fun k q=>by rw [spec_dyDigits])
 have h1:=digits1 (q:=q) (p:=(p:Int)) (z:=(0,0)) hr hd hs s 0 (by omega)
 have e0:r*2 ^ 0 % d=r:=by rw [Nat.pow_zero,Nat.mul_one,Nat.mod_eq_of_lt hr]
 have e1:r*2 ^ 0 / d=0:=by rw [Nat.pow_zero,Nat.mul_one,Nat.div_eq_of_lt hr]
 rw [e0,e1]at h1
 have hg:r*2 ^ s / d<2 ^ s:=by
  rw [Nat.div_lt_iff_lt_mul (by omega)]
  exact(Nat.mul_comm d (2 ^ s)) ▸ Nat.mul_lt_mul_of_pos_right hr (Nat.pow_pos (by decide))
 generalize r*2 ^ s / d=g at h1 hg ⊢
 obtain⟨s',p',g',a1,a2,a3,a4,a5,a6⟩:=digits2 (q:=q) (z:=(0,0)) s p g hs hp hg
 refine Evt.inr (Evt.diag h1) (Evt.inr (Evt.diag a6) ?_)
 rw [←a5]
 dsimp only
 have w1:IntKind.wrap .i64 (62 - (s':Int))=((62 - s':Nat):Int):=by rw [w64 (by omega) (by omega)];omega
 rw [w1]
 refine Evt.bind (.const (abs_eq (by omega) (by omega))) (Evt.bind (.const (dyPower_eq (by omega))) ?_)
 have hps:0<2 ^ s':=Nat.pow_pos (by decide)
 have h62:2 ^ (62 - s')*2 ^ s'=4611686018427387904:=by rw [←Nat.pow_add,show 62 - s'+s'=62 by omega]
 have hs48:2 ^ s'≤2 ^ 48:=Nat.pow_le_pow_right (by decide) (by omega)
 have h48:(2:Nat) ^ 48=281474976710656:=by decide
 have ep:((2 ^ s':Nat):Int)=(2:Int) ^ s':=by simp
 have eq1:q*2 ^ s'=q*((2 ^ s':Nat):Int):=by rw [ep]
 by_cases hc:2 ^ (62 - s')<q.natAbs
 ·refine Evt.ctrue (decide_eq_true (by omega)) ?_
  have hbig:(2 ^ (62 - s')+1)*2 ^ s'≤q.natAbs*2 ^ s':=Nat.mul_le_mul_right _ hc
  rw [Nat.add_mul,h62,Nat.one_mul]at hbig
  have hl:q*2 ^ s'+(g':Int) < -1099511627776∨1099511627776<q*2 ^ s'+(g':Int):=by
   have ea:((q.natAbs*2 ^ s':Nat):Int)=(q.natAbs:Int)*((2 ^ s':Nat):Int):=by simp
   rw [eq1]
   rcases Int.lt_or_le q 0 with h | h
   ·have:(q.natAbs:Int) = -q:=by omega
    rw [this,Int.neg_mul]at ea
    left
    omega
   ·have:(q.natAbs:Int)=q:=by omega
    rw [this]at ea
    right
    omega
  rcases a4 with rfl | rfl | h
  ·rw [mkD_large hl]
   exact .pure
  ·exfalso
   have:(2:Nat) ^ (62 - 0)=4611686018427387904:=by decide
   rw [this]at hc
   omega
  ·have hs0:s'≠0:=by
    intro h0
    subst h0
    rw [Nat.pow_zero]at a3
    omega
   obtain⟨t,rfl⟩:=Nat.exists_eq_succ_of_ne_zero hs0
   rw [mkD_odd (by rw [Int.pow_succ,←Int.mul_assoc];omega) hl]
   exact .pure
 ·refine Evt.cfalse (decide_eq_false (by omega)) (Evt.bind (.const (dyPower_eq (by omega))) ?_)
  have hsm:q.natAbs*2 ^ s'≤4611686018427387904:=by
   rw [←h62]
   exact Nat.mul_le_mul_right _ (by omega)
  have hb : -4611686018427387904≤q*((2 ^ s':Nat):Int)∧q*((2 ^ s':Nat):Int)≤4611686018427387904:=by
   have ea:((q.natAbs*2 ^ s':Nat):Int)=(q.natAbs:Int)*((2 ^ s':Nat):Int):=by simp
   rcases Int.lt_or_le q 0 with h | h
   ·have:(q.natAbs:Int) = -q:=by omega
    rw [this,Int.neg_mul]at ea
    omega
   ·have:(q.natAbs:Int)=q:=by omega
    rw [this]at ea
    omega
  rw [w64 (n:=q*((2 ^ s':Nat):Int)) (by omega) (by omega),w64 (by omega) (by omega),eq1]
  exact Evt.bind (dyMake_ev (by omega) (by omega) (by omega)) .pure

theorem dyDivide_ev{a b:Int×Int}{p:Nat}(ha:gd a)(hb:gd b)(hz:b.1≠0)(hp:p≤24):Evt (fun k _=>spec_dyDivide k a b (p:Int)) (mkD (quotV a.1 b.1 (b.2 - a.2+p)) p):=by
 refine Evt.eq (f:=fun k q=>_) ?_ (fun k q=>by rw [spec_dyDivide])
 have hbz:(b.1==0)=false:=beq_eq_false_iff_ne.2 hz
 obtain⟨a1,a2,a3,a4,_⟩:=ha
 obtain⟨b1,b2,b3,b4,_⟩:=hb
 have core:∀(n d:Int),-1099511627776≤n∧n≤1099511627776→0<d→d≤1099511627776→Evt (fun k _=>(Option.bind (spec_dyDown n d) fun r4=>(bif (decide ((IntKind.wrap .i64 ((IntKind.wrap .i64 (b.2+(p:Int))) - a.2))<0))then(Option.bind (spec_dyPower (IntKind.wrap .i64 (0 - (IntKind.wrap .i64 ((IntKind.wrap .i64 (b.2+(p:Int))) - a.2))))) fun r5=>(Option.bind (spec_dyDown r4 r5) fun r6=>(Option.bind (spec_dyMake k r6 (p:Int)) fun r7=>some (r7.1,r7.2))))else(Option.bind (spec_dyDigits k r4 (IntKind.wrap .i64 (n - (IntKind.wrap .i64 (r4*d)))) d (IntKind.wrap .i64 ((IntKind.wrap .i64 (b.2+(p:Int))) - a.2)) (p:Int)) fun r8=>some (r8.1,r8.2))))) (mkD ((n*2 ^ (b.2 - a.2+p).toNat) / ((d.natAbs*2 ^ (-(b.2 - a.2+p)).toNat:Nat):Int)) p):=by
  intro n d hn hd hd2
  have w1:IntKind.wrap .i64 ((IntKind.wrap .i64 (b.2+(p:Int))) - a.2)=b.2 - a.2+p:=by rw [w64 (n:=b.2+(p:Int)) (by omega) (by omega),w64 (by omega) (by omega)];omega
  simp only [w1]
  have hdn:((d.natAbs:Nat):Int)=d:=by omega
  have hdd:=dyDown_eq (n:=n) (p:=d.natAbs) (by omega) (by omega) (by omega)
  rw [hdn]at hdd
  have hq1 : -1099511627777≤n / d∧n / d≤1099511627777:=by
   have h1:=Int.mul_ediv_add_emod n d
   have h2:=Int.emod_nonneg n (show d≠0 by omega)
   have h3:=Int.emod_lt_of_pos n hd
   constructor
   ·rcases Int.lt_or_le (n / d) (-1099511627777)with h | h
    ·exfalso
     have:d*(n / d+1)≤1*(n / d+1):=Int.mul_le_mul_of_nonpos_right (show(1:Int)≤d by omega) (by omega)
     rw [Int.mul_add]at this
     omega
    ·exact h
   ·rcases Int.lt_or_le 1099511627777 (n / d)with h | h
    ·exfalso
     have:1*(n / d)≤d*(n / d):=Int.mul_le_mul_of_nonneg_right (show(1:Int)≤d by omega) (by omega)
     omega
    ·exact h
  refine Evt.bind (.const hdd) ?_
  by_cases hs:b.2 - a.2+(p:Int)<0
  ·refine Evt.ctrue (decide_eq_true hs) ?_
   have e0:(b.2 - a.2+(p:Int)).toNat=0:=by omega
   have wj:IntKind.wrap .i64 (0 - (b.2 - a.2+(p:Int)))=(((-(b.2 - a.2+(p:Int))).toNat:Nat):Int):=by rw [w64 (by omega) (by omega)];omega
   rw [e0,wj]
   generalize hj:(-(b.2 - a.2+(p:Int))).toNat=j
   refine Evt.bind (.const (dyPower_eq (by omega))) (Evt.bind (.const (dyDown_eq (Nat.pow_pos (by decide)) (by omega) (by omega))) ?_)
   have ev:n*2 ^ 0 / ((d.natAbs*2 ^ j:Nat):Int)=n / d / ((2 ^ j:Nat):Int):=by
    have ec:((d.natAbs*2 ^ j:Nat):Int)=d*((2 ^ j:Nat):Int):=by rw [Int.natCast_mul,hdn]
    rw [ec,Int.pow_zero,Int.mul_one,Int.ediv_ediv,if_neg (fun h=>by have:=h.1;omega),Int.sub_zero]
   rw [ev]
   have hb3:=div_bound (n:=n / d) (q:=2 ^ j)
   have hpos:(0:Int)<((2 ^ j:Nat):Int):=by have:=Nat.pow_pos (a:=2) (n:=j) (by decide);omega
   have hbd : -1099511627777≤n / d / ((2 ^ j:Nat):Int)∧n / d / ((2 ^ j:Nat):Int)≤1099511627777:=by
    have h1:=Int.mul_ediv_add_emod (n / d) ((2 ^ j:Nat):Int)
    have h2:=Int.emod_nonneg (n / d) (show((2 ^ j:Nat):Int)≠0 by omega)
    have h3:=Int.emod_lt_of_pos (n / d) hpos
    generalize n / d / ((2 ^ j:Nat):Int)=v at h1 ⊢
    generalize ((2 ^ j:Nat):Int)=w at h1 h2 h3 hpos
    constructor
    ·rcases Int.lt_or_le v (-1099511627777)with h | h
     ·exfalso
      have:w*(v+1)≤1*(v+1):=Int.mul_le_mul_of_nonpos_right (show(1:Int)≤w by omega) (by omega)
      rw [Int.mul_add]at this
      omega
     ·exact h
    ·rcases Int.lt_or_le 1099511627777 v with h | h
     ·exfalso
      have:1*v≤w*v:=Int.mul_le_mul_of_nonneg_right (show(1:Int)≤w by omega) (by omega)
      omega
     ·exact h
   exact Evt.bind (dyMake_ev (by omega) (by omega) (by omega)) .pure
  ·refine Evt.cfalse (decide_eq_false hs) ?_
   have e0:(-(b.2 - a.2+(p:Int))).toNat=0:=by omega
   have es:b.2 - a.2+(p:Int)=(((b.2 - a.2+(p:Int)).toNat:Nat):Int):=by omega
   rw [e0,Nat.pow_zero,Nat.mul_one,hdn]
   generalize hsn:(b.2 - a.2+(p:Int)).toNat=s at es ⊢
   rw [es]
   have h1:=Int.mul_ediv_add_emod n d
   have h2:=Int.emod_nonneg n (show d≠0 by omega)
   have h3:=Int.emod_lt_of_pos n hd
   have hm:n / d*d=n - n % d:=by rw [Int.mul_comm];omega
   have w2:IntKind.wrap .i64 (n - (IntKind.wrap .i64 (n / d*d)))=(((n % d).toNat:Nat):Int):=by rw [hm,w64 (n:=n - n % d) (by omega) (by omega),w64 (by omega) (by omega)];omega
   rw [w2]
   have hdig:=digits_ev (q:=n / d) (r:=(n % d).toNat) (d:=d.natAbs) (s:=s) (p:=p) (by omega) (by omega) (by omega) (by omega) hp
   rw [hdn]at hdig
   have ev:n*2 ^ s / d=n / d*2 ^ s+(((n % d).toNat*2 ^ s / d.natAbs:Nat):Int):=by
    have e1:(((n % d).toNat*2 ^ s / d.natAbs:Nat):Int)=(n % d*2 ^ s) / d:=by
     have e3:(((n % d).toNat:Nat):Int)=n % d:=by omega
     rw [Int.natCast_ediv,Int.natCast_mul,hdn,e3]
     simp
    rw [e1]
    have e2:n*2 ^ s=n % d*2 ^ s+n / d*2 ^ s*d:=by
     conv=>lhs;rw [←h1]
     rw [Int.add_mul,Int.add_comm,Int.mul_comm d,Int.mul_right_comm]
    rw [e2,Int.add_mul_ediv_right _ _ (show d≠0 by omega),Int.add_comm]
   rw [ev]
   exact Evt.bind hdig .pure
 refine Evt.cfalse hbz ?_
 unfold quotV nnI
 by_cases hneg:b.1<0
 ·have hc:=core (-a.1) (-b.1) (by omega) (by omega) (by omega)
  rw [Int.natAbs_neg]at hc
  rw [if_pos hneg]
  exact Evt.inr (Evt.ctrue (decide_eq_true hneg) (Evt.bind (.const (dyMinus_eq ⟨a1,a2,a3,a4,by assumption⟩)) (Evt.bind (.const (dyMinus_eq ⟨b1,b2,b3,b4,by assumption⟩)) .pure))) hc
 ·have hc:=core a.1 b.1 (by omega) (by omega) (by omega)
  rw [if_neg hneg]
  exact Evt.inr (Evt.cfalse (decide_eq_false hneg) .pure) hc
end Go.Ev.G

namespace Go.Ev.G
open Go Go.Ev
set_option maxRecDepth 100000

def keyT(t:Tm):Int:=25*t.2.1+5*t.2.2.1+t.2.2.2
def exOk(t:Tm):Prop:=(0≤t.2.1∧t.2.1≤4)∧(0≤t.2.2.1∧t.2.2.1≤4)∧(0≤t.2.2.2∧t.2.2.2≤4)
theorem lexI_lt{a b:Tm}(ha:exOk a)(hb:exOk b):lexI a b<0↔keyT a<keyT b:=by
 unfold lexI cmpI keyT
 obtain⟨⟨_,_⟩,⟨_,_⟩,_,_⟩:=ha
 obtain⟨⟨_,_⟩,⟨_,_⟩,_,_⟩:=hb
 split
 ·split
  ·omega
  ·split <;> omega
 ·split
  ·split
   ·omega
   ·split <;> omega
  ·split
   ·omega
   ·split <;> omega
theorem lexI_zero{a b:Tm}:lexI a b=0↔a.2=b.2:=by
 unfold lexI
 obtain⟨c,x,y,z⟩:=a
 obtain⟨c',x',y',z'⟩:=b
 simp only [Prod.mk.injEq]
 split
 ·rw [cmpI_zero];omega
 ·split
  ·rw [cmpI_zero];omega
  ·rw [cmpI_zero];omega
def srt(l:List Tm):Prop:=l.Pairwise fun a b=>keyT a≤keyT b

theorem ins_loop{x2 x8:Int}{e:Tm}{R:List Tm}(he:exOk e):∀(m:Nat) (P1 P2:List Tm),P1.length=m→(P1++e::P2++R).length<lenB→(∀t∈P1++P2,exOk t)→srt (P1++P2)→(∀p∈P2,keyT e≤keyT p) →
  ∃Y,Y.Perm (P1++e::P2)∧srt Y∧Evt (fun k n=>slices_insertionSortCmpFunc_Term_impl_compareTerms_L402 k n (P1++e::(P2++R)) 0 x2 () x8 P1.length) (.inr (Y++R,0,x2,(),x8,())):=by
 intro m
 induction m with
 | zero =>
  intro P1 P2 hm hb hx hs hp
  have hn:P1 = []:=List.eq_nil_of_length_eq_zero hm
  subst hn
  refine⟨e::P2,.refl _,List.pairwise_cons.2 ⟨hp,hs⟩,Evt.step (fun k n=>slices_insertionSortCmpFunc_Term_impl_compareTerms_L402.eq_2 k _ _ _ _ _ _ n) ?_⟩
  exact Evt.cfalse (by simp) .pure
 | succ m ih =>
  intro P1 P2 hm hb hx hs hp
  obtain⟨Q,p,hQ⟩:∃Q p,P1=Q ++ [p]:=⟨P1.dropLast,P1.getLast (by intro h;rw [h]at hm;simp at hm),(List.dropLast_concat_getLast _).symm⟩
  subst hQ
  have hQl:Q.length=m:=by simpa using hm
  have hpx:exOk p:=hx p (by simp)
  have e0:Q ++ [p]++e::(P2++R)=Q++p::e::(P2++R):=by simp
  have hlen:(Q ++ [p]++e::(P2++R)).length=Q.length+2+P2.length+R.length:=by simp;omega
  simp only [List.length_append,List.length_cons,List.length_nil,lenB]at hb
  have hj:IntKind.wrap .i64 (((Q ++ [p]).length:Int) - 1)=(Q.length:Int):=by rw [w64 (by simp <;> omega) (by simp <;> omega)];simp
  have g1:(Q ++ [p]++e::(P2++R)).getD (Int.toNat ((Q ++ [p]).length:Int)) (0,0,0,0)=e:=mid_get
  have g2:(Q ++ [p]++e::(P2++R)).getD (Int.toNat (Q.length:Int)) (0,0,0,0)=p:=by rw [e0];exact mid_get
  have s1:(Q ++ [p]++e::(P2++R)).set (Int.toNat ((Q ++ [p]).length:Int)) p=Q++p::(p::(P2++R)):=by rw [mid_set];simp
  have c1:decide (((Q ++ [p]).length:Int)<((Q ++ [p]++e::(P2++R)).length:Int))=true:=mid_lt
  have c2:decide ((Q.length:Int)<((Q ++ [p]++e::(P2++R)).length:Int))=true:=decide_eq_true (by rw [hlen];omega)
  have hstep:=fun(k n:Nat)=>slices_insertionSortCmpFunc_Term_impl_compareTerms_L402.eq_2 k (Q ++ [p]++e::(P2++R)) 0 x2 () x8 ((Q ++ [p]).length:Int) n
  simp only [hj,g1,g2,s1]at hstep
  by_cases hc:lexI e p<0
  ·obtain⟨Y,q1,q2,q3⟩:=ih Q (p::P2) hQl (by simp only [List.length_append,List.length_cons,lenB];omega) (by simpa using hx) (by simpa [srt] using hs) (by
    intro q hq
    have hep:=(lexI_lt he hpx).1 hc
    rcases List.mem_cons.1 hq with rfl | hq
    ·omega
    ·have h2:=(List.pairwise_append.1 hs).2.2 p (by simp) q hq
     omega)
   refine⟨Y,q1.trans ?_,q2,Evt.step (fun k n=>hstep k n) ?_⟩
   ·rw [List.append_assoc]
    exact List.Perm.append_left Q (List.Perm.swap p e P2)
   ·refine Evt.ctrue (decide_eq_true (by simp)) (Evt.ctrue mid_ge (Evt.ctrue c1 (Evt.ctrue mid_ge (Evt.ctrue c2 (Evt.bind (compareTerms_ev e p) (Evt.ctrue (decide_eq_true hc) (Evt.ctrue mid_ge (Evt.ctrue c2 (Evt.ctrue mid_ge (Evt.ctrue c1 (Evt.ctrue mid_ge (Evt.ctrue c1 (Evt.ctrue mid_ge (Evt.ctrue mid_lt ?_))))))))))))))
    rw [mid_set]
    exact q3
  ·refine⟨Q ++ [p]++e::P2,.refl _,?_,Evt.step (fun k n=>hstep k n) ?_⟩
   ·have hpe:keyT p≤keyT e:=by
     have:=mt (lexI_lt he hpx).2 hc
     omega
    refine List.pairwise_append.2 ⟨(List.pairwise_append.1 hs).1,List.pairwise_cons.2 ⟨hp,(List.pairwise_append.1 hs).2.1⟩,fun a ha b hb => ?_⟩
    have hap:keyT a≤keyT p:=by
     rcases List.mem_append.1 ha with ha | ha
     ·exact(List.pairwise_append.1 (List.pairwise_append.1 hs).1).2.2 a ha p (by simp)
     ·simp at ha;subst ha;exact Int.le_refl _
    rcases List.mem_cons.1 hb with rfl | hb
    ·omega
    ·have:=hp b hb
     omega
   ·refine Evt.ctrue (decide_eq_true (by simp)) (Evt.ctrue mid_ge (Evt.ctrue c1 (Evt.ctrue mid_ge (Evt.ctrue c2 (Evt.bind (compareTerms_ev e p) (Evt.cfalse (decide_eq_false hc) ?_))))))
    have:Q ++ [p]++e::(P2++R)=Q ++ [p]++e::P2++R:=by simp
    rw [this]
    exact .pure

theorem sort_loop:∀(r P:List Tm),(P++r).length<lenB→(∀t∈P++r,exOk t)→srt P →
  ∃Y,Y.Perm (P++r)∧srt Y∧Evt (fun k n=>slices_insertionSortCmpFunc_Term_impl_compareTerms_L6 k n (P++r) 0 ((P++r).length:Int) () P.length) (.inr (Y,())):=by
 intro r
 induction r with
 | nil =>
  intro P hb hx hs
  rw [List.append_nil]
  exact⟨P,.refl _,hs,Evt.step (fun k n=>slices_insertionSortCmpFunc_Term_impl_compareTerms_L6.eq_2 k _ _ _ _ _ n) (Evt.cfalse (by simp) .pure)⟩
 | cons e r ih =>
  intro P hb hx hs
  obtain⟨Y,q1,q2,q3⟩:=ins_loop (x2:=((P++e::r).length:Int)) (x8:=(P.length:Int)) (R:=r) (hx e (by simp)) P.length P [] rfl (by simpa using hb) (fun t ht=>hx t (by simp at ht;simp [ht])) (by simpa using hs) (by simp)
  have hl:=q1.length_eq
  have hl2:Y.length=P.length+1:=by simpa using hl
  have hmem:∀t∈Y++r,exOk t:=by
   intro t ht
   rcases List.mem_append.1 ht with ht | ht
   ·have:=q1.mem_iff.1 ht
    exact hx t (by simp at this;rcases this with h | h <;> simp [h])
   ·exact hx t (by simp [ht])
  have hlen:(Y++r).length=(P++e::r).length:=by simp;omega
  obtain⟨Z,z1,z2,z3⟩:=ih Y (by rw [hlen];exact hb) hmem q2
  refine⟨Z,z1.trans ?_,z2,Evt.step (fun k n=>slices_insertionSortCmpFunc_Term_impl_compareTerms_L6.eq_2 k _ _ _ _ _ n) ?_⟩
  ·have:=List.Perm.append_right r q1
   simpa using this
  ·refine Evt.ctrue mid_lt (Evt.inr (Evt.diag q3) ?_)
   rw [hlen,hl2]at z3
   have hb2:P.length<lenB:=by simp at hb;simp only [lenB]at hb ⊢; omega
   simp only [w64_next hb2]
   exact z3

theorem insSort_ev{l:List Tm}(hb:l.length<lenB)(hx:∀t∈l,exOk t):∃Y,Y.Perm l∧srt Y∧Evt (fun k _=>slices_insertionSortCmpFunc_Term_impl_compareTerms k l 0 (l.length:Int) ()) Y:=by
 cases l with
 | nil =>
  refine⟨[],.refl _,List.Pairwise.nil,Evt.eq (f:=fun k q=>_) ?_ (fun k q=>by rw [slices_insertionSortCmpFunc_Term_impl_compareTerms])⟩
  have h1:Evt (fun k n=>slices_insertionSortCmpFunc_Term_impl_compareTerms_L6 k n [] 0 (([]:List Tm).length:Int) () (IntKind.wrap .i64 (0+1))) (.inr ([],())):=Evt.step (fun k n=>slices_insertionSortCmpFunc_Term_impl_compareTerms_L6.eq_2 k _ _ _ _ _ n) (Evt.cfalse (by decide) .pure)
  exact Evt.inr (Evt.diag h1) .pure
 | cons a r =>
  obtain⟨Y,q1,q2,q3⟩:=sort_loop r [a] hb hx (List.pairwise_singleton _ _)
  refine⟨Y,q1,q2,Evt.eq (f:=fun k q=>_) ?_ (fun k q=>by rw [slices_insertionSortCmpFunc_Term_impl_compareTerms])⟩
  exact Evt.inr (Evt.diag q3) .pure
theorem insNone_ev{l:List Tm}{m:Nat}(hm:m<lenB):Evt (fun k _=>slices_insertionSortCmpFunc_Term_impl_compareTerms k l m m ()) l:=by
 refine Evt.eq (f:=fun k q=>_) ?_ (fun k q=>by rw [slices_insertionSortCmpFunc_Term_impl_compareTerms])
 have h1:Evt (fun k n=>slices_insertionSortCmpFunc_Term_impl_compareTerms_L6 k n l (m:Int) (m:Int) () (IntKind.wrap .i64 ((m:Int)+1))) (.inr (l,())):=by
  refine Evt.step (fun k n=>slices_insertionSortCmpFunc_Term_impl_compareTerms_L6.eq_2 k _ _ _ _ _ n) (Evt.cfalse (decide_eq_false ?_) .pure)
  rw [w64_next hm]
  omega
 exact Evt.inr (Evt.diag h1) .pure

theorem stable_ev{l:List Tm}(hb:l.length≤20)(hx:∀t∈l,exOk t):∃Y,Y.Perm l∧srt Y∧Evt (fun k _=>slices_SortStableFunc_Term_Term_impl_compareTerms k l ()) Y:=by
 obtain⟨Y,q1,q2,q3⟩:=insSort_ev (l:=l) (by simp only [lenB];omega) hx
 refine⟨Y,q1,q2,Evt.eq (f:=fun k q=>_) ?_ (fun k q=>by rw [slices_SortStableFunc_Term_Term_impl_compareTerms])⟩
 refine Evt.bind (a:=Y) ?_ .pure
 refine Evt.eq (f:=fun k q=>_) ?_ (fun k q=>by rw [slices_stableCmpFunc_Term_impl_compareTerms])
 have hend:Evt (fun k n=>slices_stableCmpFunc_Term_impl_compareTerms_L62 k n Y (l.length:Int) () 20) (.inr (Y,())) :=
  Evt.step (fun k n=>slices_stableCmpFunc_Term_impl_compareTerms_L62.eq_2 k _ _ _ _ n) (Evt.cfalse (decide_eq_false (by omega)) .pure)
 by_cases h20:l.length=20
 ·have hl:(l.length:Int)=20:=by omega
  have h1:Evt (fun k n=>slices_stableCmpFunc_Term_impl_compareTerms_L28 k n l (l.length:Int) () 20 0 20) (.inr (Y,(l.length:Int),(),20,20,())):=by
   refine Evt.step (fun k n=>slices_stableCmpFunc_Term_impl_compareTerms_L28.eq_2 k _ _ _ _ _ _ n) (Evt.ctrue (decide_eq_true (by omega)) ?_)
   rw [hl]at q3 ⊢
   refine Evt.bind q3 ?_
   exact Evt.step (fun k n=>slices_stableCmpFunc_Term_impl_compareTerms_L28.eq_2 k _ _ _ _ _ _ n) (Evt.cfalse (by decide) .pure)
  refine Evt.inr (Evt.diag h1) (Evt.bind (a:=Y) ?_ (Evt.inr (Evt.diag hend) .pure))
  rw [hl]
  exact insNone_ev (m:=20) (by simp only [lenB];omega)
 ·have h1:Evt (fun k n=>slices_stableCmpFunc_Term_impl_compareTerms_L28 k n l (l.length:Int) () 20 0 20) (.inr (l,(l.length:Int),(),20,0,())) :=
   Evt.step (fun k n=>slices_stableCmpFunc_Term_impl_compareTerms_L28.eq_2 k _ _ _ _ _ _ n) (Evt.cfalse (decide_eq_false (by omega)) .pure)
  exact Evt.inr (Evt.diag h1) (Evt.bind q3 (Evt.inr (Evt.diag hend) .pure))

def mgR:Option Tm→List Tm→List Tm
 | none,[] => []
 | none,t::r=>mgR (some t) r
 | some q,[] => [q]
 | some q,t::r=>if lexI q t=0 then mgR (some (q.1+t.1,q.2)) r else q::mgR (some t) r
theorem mgR_len:∀(r:List Tm) (o:Option Tm),(mgR o r).length≤r.length+1
 | [],none=>by simp [mgR]
 | [],some q=>by simp [mgR]
 | t::r,none=>by have:=mgR_len r (some t);simp [mgR];omega
 | t::r,some q=>by
  unfold mgR
  split
  ·have:=mgR_len r (some (q.1+t.1,q.2));simp;omega
  ·have:=mgR_len r (some t);simp;omega

theorem merge_loop{xs:List Tm}(hb:xs.length≤20):∀(r dd d:List Tm) (q:Tm),dd++r=xs→d.length≤dd.length→(∀t∈r,-4000≤t.1∧t.1≤4000) → -1000000+4000*(r.length:Int)≤q.1→q.1≤1000000 - 4000*(r.length:Int) →
  Evt (fun k n=>impl_collect_L250 k n (d ++ [q]) xs (xs.length:Int) dd.length) (.inr (d++mgR (some q) r,())):=by
 intro r
 induction r with
 | nil =>
  intro dd d q h _ _ _ _
  refine Evt.step (fun k n=>impl_collect_L250.eq_2 k _ _ _ _ n) ?_
  rw [List.append_nil]at h
  subst h
  exact Evt.cfalse (by simp) .pure
 | cons t r ih =>
  intro dd d q h hd ht h1 h2
  have hl:=congrArg List.length h
  simp at hl
  have hq1:=ht t (by simp)
  simp only [List.length_cons]at h1 h2
  have hw:IntKind.wrap .i64 (((d ++ [q]).length:Int) - 1)=(d.length:Int):=by rw [w64 (by simp <;> omega) (by simp <;> omega)];simp
  have g1:(d ++ [q]).getD (Int.toNat (d.length:Int)) (0,0,0,0)=q:=mid_get
  have g2:xs.getD (Int.toNat (dd.length:Int)) (0,0,0,0)=t:=by rw [←h];exact mid_get
  have hstep:=fun(k n:Nat)=>impl_collect_L250.eq_2 k (d ++ [q]) xs (xs.length:Int) (dd.length:Int) n
  simp only [hw,g1,g2]at hstep
  refine Evt.step (fun k n=>hstep k n) ?_
  have c0:decide ((dd.length:Int)<(xs.length:Int))=true:=by rw [←h];exact mid_lt
  have c1:decide ((d.length:Int)<((d ++ [q]).length:Int))=true:=mid_lt
  have hnx:=len_next (d:=dd) (r:=r) (e:=t) (by rw [h];simp only [lenB];omega)
  refine Evt.ctrue c0 (Evt.ctrue mid_ge (Evt.ctrue c0 (Evt.ctrue (decide_eq_true (by simp)) (Evt.ctrue mid_ge (Evt.ctrue c1 (Evt.bind (compareTerms_ev q t) ?_))))))
  rw [hnx]
  unfold mgR
  by_cases hz:lexI q t=0
  ·rw [if_pos hz]
   have ih:=ih (dd ++ [t]) d (q.1+t.1,q.2) (by simpa using h) (by simp;omega) (fun u hu=>ht u (by simp [hu])) (by simp only;omega) (by simp only;omega)
   refine Evt.ctrue (by simp [hz]) (Evt.ctrue mid_ge (Evt.ctrue c1 (Evt.ctrue mid_ge (Evt.ctrue c1 ?_))))
   rw [mid_set,w64 (n:=q.1+t.1) (by omega) (by omega)]
   exact ih
  ·rw [if_neg hz]
   have ih:=ih (dd ++ [t]) (d ++ [q]) t (by simpa using h) (by simp;omega) (fun u hu=>ht u (by simp [hu])) (by omega) (by omega)
   refine Evt.cfalse (by simpa using hz) (Evt.ctrue (decide_eq_true (by simp;omega)) ?_)
   rw [List.append_assoc d [q] (mgR _ _)]at ih
   exact ih
theorem merge_ev{xs:List Tm}(hb:xs.length≤20)(ht:∀t∈xs,-4000≤t.1∧t.1≤4000):Evt (fun k n=>impl_collect_L250 k n [] xs (xs.length:Int) 0) (.inr (mgR none xs,())):=by
 cases xs with
 | nil=>exact Evt.step (fun k n=>impl_collect_L250.eq_2 k _ _ _ _ n) (Evt.cfalse (by decide) .pure)
 | cons t r =>
  have ht1:=ht t (by simp)
  simp at hb
  have hm:=merge_loop (xs:=t::r) (by simpa using hb) r [t] [] t rfl (by simp) (fun u hu=>ht u (by simp [hu])) (by omega) (by omega)
  refine Evt.step (fun k n=>impl_collect_L250.eq_2 k _ _ _ _ n) ?_
  refine Evt.ctrue (decide_eq_true (by simp <;> omega)) (Evt.ctrue (by decide) (Evt.ctrue (decide_eq_true (by simp <;> omega)) (Evt.cfalse (by decide) (Evt.ctrue (decide_eq_true (by simp)) ?_))))
  exact hm

def nzT(t:Tm):Bool := !(t.1==0)
theorem index_ev{l:List Tm}(hb:l.length<lenB):(l.all nzT=true→Evt (fun k _=>slices_IndexFunc_Term_Term_impl_collect_1 k l ()) (-1))∧(l.all nzT=false→∃A b r,l=A++b::r∧A.all nzT=true∧nzT b=false∧Evt (fun k _=>slices_IndexFunc_Term_Term_impl_collect_1 k l ()) (A.length:Int)):=by
 have key:∀(r d:List Tm),d++r=l→d.all nzT=true→(r.all nzT=true→Evt (fun k n=>slices_IndexFunc_Term_Term_impl_collect_1_L26 k n l () (l.length:Int) d.length) (.inr ())) ∧
   (r.all nzT=false→∃A b r',l=A++b::r'∧A.all nzT=true∧nzT b=false∧Evt (fun k n=>slices_IndexFunc_Term_Term_impl_collect_1_L26 k n l () (l.length:Int) d.length) (.inl (A.length:Int))):=by
  intro r
  induction r with
  | nil =>
   intro d h hd
   refine⟨fun _=>Evt.step (fun k n=>slices_IndexFunc_Term_Term_impl_collect_1_L26.eq_2 k _ _ _ _ n) ?_,fun h=>by simp at h⟩
   rw [List.append_nil]at h
   subst h
   exact Evt.cfalse (by simp) .pure
  | cons e r ih =>
   intro d h hd
   have hnx:=len_next (d:=d) (r:=r) (e:=e) (by rw [h];exact hb)
   have g:l.getD (Int.toNat (d.length:Int)) (0,0,0,0)=e:=by rw [←h];exact mid_get
   have c0:decide ((d.length:Int)<(l.length:Int))=true:=by rw [←h];exact mid_lt
   have hstep:=fun(k n:Nat)=>slices_IndexFunc_Term_Term_impl_collect_1_L26.eq_2 k l () (l.length:Int) (d.length:Int) n
   simp only [g,hnx]at hstep
   cases he:nzT e with
   | true =>
    obtain⟨i1,i2⟩:=ih (d ++ [e]) (by simpa using h) (by simp only [List.all_append,hd,Bool.true_and,List.all_cons,he,List.all_nil])
    have hz:(e.1==0)=false:=by unfold nzT at he;simpa using he
    have st:∀v,Evt (fun k n=>slices_IndexFunc_Term_Term_impl_collect_1_L26 k n l () (l.length:Int) (d ++ [e]).length) v→Evt (fun k n=>slices_IndexFunc_Term_Term_impl_collect_1_L26 k n l () (l.length:Int) d.length) v:=fun v hv =>
     Evt.step (fun k n=>hstep k n) (Evt.ctrue c0 (Evt.ctrue mid_ge (Evt.ctrue c0 (Evt.bind (.const (r:=false) (by unfold impl_collect_1;rw [hz])) hv))))
    refine⟨fun ha=>st _ (i1 (by simpa [he] using ha)),fun ha => ?_⟩
    obtain⟨A,b,r',e1,e2,e3,e4⟩:=i2 (by simpa [he] using ha)
    exact⟨A,b,r',e1,e2,e3,st _ e4⟩
   | false =>
    have hz:(e.1==0)=true:=by unfold nzT at he;simpa using he
    refine⟨fun ha=>by simp [he]at ha,fun _=>⟨d,e,r,h.symm,hd,he,?_⟩⟩
    exact Evt.step (fun k n=>hstep k n) (Evt.ctrue c0 (Evt.ctrue mid_ge (Evt.ctrue c0 (Evt.bind (.const (r:=true) (by unfold impl_collect_1;rw [hz])) .pure))))
 obtain⟨k1,k2⟩:=key l [] rfl rfl
 refine⟨fun h=>Evt.eq (f:=fun k q=>_) ?_ (fun k q=>by rw [slices_IndexFunc_Term_Term_impl_collect_1]),fun h => ?_⟩
 ·exact Evt.inr (Evt.diag (k1 h)) .pure
 ·obtain⟨A,b,r',e1,e2,e3,e4⟩:=k2 h
  refine⟨A,b,r',e1,e2,e3,Evt.eq (f:=fun k q=>_) ?_ (fun k q=>by rw [slices_IndexFunc_Term_Term_impl_collect_1])⟩
  exact Evt.inl (Evt.diag e4) .pure

theorem delete_loop:∀(r A:List Tm) (b:Tm) (B:List Tm),(A++b::B++r).length<lenB→∃X,X.length=(A++b::B++r).length∧X.take (A++r.filter nzT).length=A++r.filter nzT ∧
  Evt (fun k n=>slices_DeleteFunc_Term_Term_impl_collect_1_L122 k n (A++b::(B++r)) () A.length ((A++b::B).length:Int)) (.inr (X,((A++r.filter nzT).length:Int),())):=by
 intro r
 induction r with
 | nil =>
  intro A b B hb
  refine⟨A++b::B,by simp,by simp,Evt.step (fun k n=>slices_DeleteFunc_Term_Term_impl_collect_1_L122.eq_2 k _ _ _ _ n) ?_⟩
  simp only [List.append_nil,List.filter_nil]
  exact Evt.cfalse (by simp) .pure
 | cons e r ih =>
  intro A b B hb
  have g:(A++b::(B++e::r)).getD (Int.toNat ((A++b::B).length:Int)) (0,0,0,0)=e:=by
   have:A++b::(B++e::r)=(A++b::B)++e::r:=by simp
   rw [this]
   exact mid_get
  have c0:decide (((A++b::B).length:Int)<((A++b::(B++e::r)).length:Int))=true:=decide_eq_true (by simp;omega)
  have c1:decide ((A.length:Int)<((A++b::(B++e::r)).length:Int))=true:=mid_lt
  have hlt:(A++b::B).length<lenB:=by simp at hb ⊢; simp only [lenB]at hb ⊢; omega
  have hlA:A.length<lenB:=by simp at hb ⊢; simp only [lenB]at hb ⊢; omega
  have hn1:=w64_next hlt
  have hn2:=w64_next hlA
  have hstep:=fun(k n:Nat)=>slices_DeleteFunc_Term_Term_impl_collect_1_L122.eq_2 k (A++b::(B++e::r)) () (A.length:Int) ((A++b::B).length:Int) n
  simp only [g,hn1,hn2]at hstep
  cases he:nzT e with
  | true =>
   have hz:(e.1==0)=false:=by unfold nzT at he;simpa using he
   cases B with
   | nil =>
    obtain⟨X,x1,x2,x3⟩:=ih (A ++ [e]) e [] (by simpa using hb)
    refine⟨X,by rw [x1];simp,by simpa [he] using x2,Evt.step (fun k n=>hstep k n) ?_⟩
    refine Evt.ctrue c0 (Evt.ctrue mid_ge (Evt.ctrue c0 (Evt.bind (.const (r:=false) (by unfold impl_collect_1;rw [hz])) (Evt.ctrue rfl (Evt.ctrue mid_ge (Evt.ctrue c1 ?_))))))
    rw [mid_set]
    have e3:A ++ [e]++e::([]++r)=A++e::([]++e::r):=by simp
    rw [e3]at x3
    have e4:A ++ [e]++r.filter nzT=A++(e::r).filter nzT:=by simp [he]
    have l1:(A ++ [e]).length=A.length+1:=by simp
    have l2:(A ++ [e]++e :: []).length=(A++b :: []).length+1:=by simp
    rw [e4,l1,l2]at x3
    exact x3
   | cons b' B =>
    obtain⟨X,x1,x2,x3⟩:=ih (A ++ [e]) b' (B ++ [e]) (by simp at hb ⊢; simp only [lenB]at hb ⊢; omega)
    refine⟨X,by rw [x1];simp,by simpa [he] using x2,Evt.step (fun k n=>hstep k n) ?_⟩
    refine Evt.ctrue c0 (Evt.ctrue mid_ge (Evt.ctrue c0 (Evt.bind (.const (r:=false) (by unfold impl_collect_1;rw [hz])) (Evt.ctrue rfl (Evt.ctrue mid_ge (Evt.ctrue c1 ?_))))))
    rw [mid_set]
    have e4:A ++ [e]++r.filter nzT=A++(e::r).filter nzT:=by simp [he]
    have l1:(A ++ [e]).length=A.length+1:=by simp
    have l2:(A ++ [e]++b'::(B ++ [e])).length=(A++b::b'::B).length+1:=by simp;omega
    have e3:A ++ [e]++b'::(B ++ [e]++r)=A++e::(b'::B++e::r):=by simp
    rw [e4,l1,l2,e3]at x3
    exact x3
  | false =>
   have hz:(e.1==0)=true:=by unfold nzT at he;simpa using he
   obtain⟨X,x1,x2,x3⟩:=ih A b (B ++ [e]) (by simpa using hb)
   refine⟨X,by rw [x1];simp,by simpa [he] using x2,Evt.step (fun k n=>hstep k n) ?_⟩
   refine Evt.ctrue c0 (Evt.ctrue mid_ge (Evt.ctrue c0 (Evt.bind (.const (r:=true) (by unfold impl_collect_1;rw [hz])) (Evt.cfalse rfl ?_))))
   have e4:A++r.filter nzT=A++(e::r).filter nzT:=by simp [he]
   have l2:(A++b::(B ++ [e])).length=(A++b::B).length+1:=by simp;omega
   have e3:A++b::(B ++ [e]++r)=A++b::(B++e::r):=by simp
   rw [e4,l2,e3]at x3
   exact x3

theorem delete_ev{l:List Tm}(hb:l.length<lenB):Evt (fun k _=>slices_DeleteFunc_Term_Term_impl_collect_1 k l ()) (l.filter nzT):=by
 refine Evt.eq (f:=fun k q=>_) ?_ (fun k q=>by rw [slices_DeleteFunc_Term_Term_impl_collect_1])
 obtain⟨i1,i2⟩:=index_ev hb
 cases ha:l.all nzT with
 | true =>
  have:l.filter nzT=l:=List.filter_eq_self.2 (List.all_eq_true.1 ha)
  rw [this]
  exact Evt.bind (i1 ha) (Evt.ctrue rfl .pure)
 | false =>
  obtain⟨A,b,r,rfl,hA,hbz,hev⟩:=i2 ha
  obtain⟨X,x1,x2,x3⟩:=delete_loop r A b [] (by simpa using hb)
  have hlA:A.length<lenB:=by simp at hb ⊢; simp only [lenB]at hb ⊢; omega
  have hn2:=w64_next hlA
  have e1:(A++b::r).filter nzT=A++r.filter nzT:=by rw [List.filter_append,List.filter_eq_self.2 (List.all_eq_true.1 hA),List.filter_cons,hbz];rfl
  rw [e1]
  have hle:(A++r.filter nzT).length<X.length:=by
   rw [x1]
   have:=List.length_filter_le nzT r
   simp
   omega
  refine Evt.bind hev (Evt.cfalse (by simp) ?_)
  have hx3:Evt (fun k n=>slices_DeleteFunc_Term_Term_impl_collect_1_L122 k n (A++b::r) () (A.length:Int) (IntKind.wrap .i64 ((A.length:Int)+1))) (.inr (X,((A++r.filter nzT).length:Int),())):=by
   rw [hn2]
   simpa using x3
  refine Evt.inr (Evt.diag hx3) ?_
  dsimp only
  generalize A++r.filter nzT=F at hle x2
  have hn:Int.toNat (F.length:Int)=F.length:=Int.toNat_natCast _
  have e2:(X.take F.length++List.replicate (X.length - F.length) ((0,0,0,0):Tm)).take F.length=F:=by
   rw [List.take_append_of_le_length (by rw [List.length_take];omega),List.take_take,Nat.min_self,x2]
  rw [hn]
  refine Evt.ctrue mid_ge (Evt.ctrue (decide_eq_true (by omega)) (Evt.ctrue mid_ge (Evt.ctrue (decide_eq_true (by rw [List.length_append,List.length_take,List.length_replicate,Nat.min_eq_left (Nat.le_of_lt hle)];omega)) ?_)))
  rw [e2]
  exact .pure

theorem mgR_filter:∀(r:List Tm) (q:Tm),(∀t∈q::r,exOk t)→srt (q::r)→((q::r).filter nzT).Pairwise (fun a b=>keyT a<keyT b)→(mgR (some q) r).filter nzT=(q::r).filter nzT
 | [],q,_,_,_=>rfl
 | t::r,q,hx,hs,hp=>by
  have hq:=hx q (by simp)
  have ht:=hx t (by simp)
  obtain⟨s1,s2⟩:=List.pairwise_cons.1 hs
  obtain⟨s3,s4⟩:=List.pairwise_cons.1 s2
  unfold mgR
  by_cases hz:lexI q t=0
  ·rw [if_pos hz]
   have h2:=lexI_zero.1 hz
   have hk:keyT q=keyT t:=by unfold keyT;rw [h2]
   by_cases hq0:q.1=0
   ·have e1:((q.1+t.1,q.2):Tm)=t:=by rw [hq0,h2,Int.zero_add]
    have nq:nzT q=false:=by unfold nzT;simp [hq0]
    rw [e1,List.filter_cons (x:=q),nq]
    rw [List.filter_cons (x:=q),nq]at hp
    exact mgR_filter r t (fun u hu=>hx u (by simp at hu ⊢; exact .inr hu)) s2 hp
   ·by_cases ht0:t.1=0
    ·have e1:((q.1+t.1,q.2):Tm)=q:=by rw [ht0,Int.add_zero]
     have nq:nzT q=true:=by unfold nzT;simp [hq0]
     have nt:nzT t=false:=by unfold nzT;simp [ht0]
     rw [e1,mgR_filter r q (fun u hu=>hx u (by simp at hu ⊢; rcases hu with h | h <;> simp [h])) (List.pairwise_cons.2 ⟨fun u hu=>s1 u (by simp [hu]),s4⟩) (by
      rw [List.filter_cons,if_pos nq,List.filter_cons,nt]at hp
      rw [List.filter_cons,if_pos nq]
      exact hp)]
     rw [List.filter_cons,List.filter_cons (x:=q),List.filter_cons (x:=t),nt,nq]
     rfl
    ·exfalso
     have nq:nzT q=true:=by unfold nzT;simp [hq0]
     have nt:nzT t=true:=by unfold nzT;simp [ht0]
     rw [List.filter_cons,if_pos nq,List.filter_cons,if_pos nt]at hp
     have:=(List.pairwise_cons.1 hp).1 t (by simp)
     omega
  ·rw [if_neg hz]
   have h2:((t::r).filter nzT).Pairwise (fun a b=>keyT a<keyT b):=by
    rw [List.filter_cons]at hp
    split at hp
    ·exact(List.pairwise_cons.1 hp).2
    ·exact hp
   have ih:=mgR_filter r t (fun u hu=>hx u (by simp at hu ⊢; exact .inr hu)) s2 h2
   rw [List.filter_cons,List.filter_cons (x:=q),ih]

theorem collect_ev{l:List Tm}(hb:l.length≤20)(hx:∀t∈l,exOk t)(hc:∀t∈l,-4000≤t.1∧t.1≤4000)(hp:(l.filter nzT).Pairwise fun a b=>keyT a<keyT b):Evt (fun k _=>impl_collect k l) (l.filter nzT):=by
 obtain⟨Y,q1,q2,q3⟩:=stable_ev hb hx
 refine Evt.eq (f:=fun k q=>_) ?_ (fun k q=>by rw [impl_collect])
 have hcl:slices_Clone_Term_Term l=some l:=by
  unfold slices_Clone_Term_Term
  rw [decide_eq_true (by simp;omega)]
  rfl
 have hl:=q1.length_eq
 have hm:=merge_ev (xs:=Y) (by omega) (fun t ht=>hc t (q1.mem_iff.1 ht))
 have hlen:(mgR none Y).length<lenB:=by
  have:=mgR_len Y none
  simp only [lenB];omega
 refine Evt.bind (.const hcl) (Evt.bind q3 (Evt.inr (Evt.diag hm) (Evt.bind (delete_ev hlen) ?_)))
 have hf:Y.filter nzT=l.filter nzT:=by
  refine List.Perm.eq_of_pairwise (le:=fun a b=>keyT a≤keyT b) ?_ (List.Pairwise.filter _ q2) (hp.imp (fun h=>Int.le_of_lt h)) (q1.filter _)
  intro a b ha hb' h1 h2
  have hk:keyT a=keyT b:=Int.le_antisymm h1 h2
  have ha':a∈l.filter nzT:=(q1.filter nzT).mem_iff.1 ha
  obtain⟨i,hi,rfl⟩:=List.getElem_of_mem ha'
  obtain⟨j,hj,rfl⟩:=List.getElem_of_mem hb'
  rcases Nat.lt_trichotomy i j with h | h | h
  ·have:=List.pairwise_iff_getElem.1 hp i j hi hj h;omega
  ·subst h;rfl
  ·have:=List.pairwise_iff_getElem.1 hp j i hj hi h;omega
 have hg:(mgR none Y).filter nzT=l.filter nzT:=by
  cases Y with
  | nil=>rw [←hf];rfl
  | cons t r =>
   rw [←hf]
   exact mgR_filter r t (fun u hu=>hx u (q1.mem_iff.1 hu)) q2 (by rw [hf];exact hp)
 rw [hg]
 exact .pure
end Go.Ev.G

namespace Go.Ev.G
open Go Go.Ev
set_option maxRecDepth 100000

def dn1(e:Int):Int:=if e - 1<0 then 0 else e - 1
def exI(i:Nat)(t:Tm):Int:=match i with
 | 0=>t.2.1
 | 1=>t.2.2.1
 | _=>t.2.2.2
def lw(i:Nat)(t:Tm):Tm:=match i with
 | 0=>(t.1*t.2.1,dn1 t.2.1,t.2.2)
 | 1=>(t.1*t.2.2.1,t.2.1,dn1 t.2.2.1,t.2.2.2)
 | _=>(t.1*t.2.2.2,t.2.1,t.2.2.1,dn1 t.2.2.2)
def dV(i:Nat)(p:List Tm):List Tm:=(p.filter fun t=>decide (0<exI i t)).map (lw i)

theorem mul_bd{c e:Int}(h1 : -1000≤c∧c≤1000)(h2:0≤e∧e≤4) : -4000≤c*e∧c*e≤4000:=by
 have:e=0∨e=1∨e=2∨e=3∨e=4:=by omega
 rcases this with h | h | h | h | h <;> subst h <;> omega
theorem tmGd_ex{t:Tm}(h:tmGd t):exOk t:=⟨h.2.1,h.2.2.1,h.2.2.2.1⟩
theorem exI_bd{i:Nat}{t:Tm}(h:tmGd t):0≤exI i t∧exI i t≤4:=by
 unfold exI
 split
 ·exact h.2.1
 ·exact h.2.2.1
 ·exact h.2.2.2.1
theorem dn1_bd{e:Int}(h:0≤e∧e≤4):0≤dn1 e∧dn1 e≤4:=by unfold dn1;split <;> omega
theorem lw_ex{i:Nat}{t:Tm}(h:tmGd t):exOk (lw i t):=by
 unfold lw
 split
 ·exact⟨dn1_bd h.2.1,h.2.2.1,h.2.2.2.1⟩
 ·exact⟨h.2.1,dn1_bd h.2.2.1,h.2.2.2.1⟩
 ·exact⟨h.2.1,h.2.2.1,dn1_bd h.2.2.2.1⟩
theorem lw_c(i:Nat)(t:Tm):(lw i t).1=t.1*exI i t:=by
 unfold lw exI
 split <;> rfl
theorem lw_bd{i:Nat}{t:Tm}(h:tmGd t) : -4000≤(lw i t).1∧(lw i t).1≤4000:=by
 rw [lw_c]
 exact mul_bd h.1 (exI_bd h)
def wI(i:Nat):Int:=match i with
 | 0=>25
 | 1=>5
 | _=>1
theorem lw_key{i:Nat}{t:Tm}(h:0<exI i t):keyT (lw i t)=keyT t - wI i:=by
 unfold exI at h
 unfold lw keyT wI dn1
 split
 ·simp only at h ⊢; rw [if_neg (by omega)];omega
 ·simp only at h ⊢; rw [if_neg (by omega)];omega
 ·rename_i h0 h1
  split at h
  ·exact absurd rfl h0
  ·exact absurd rfl h1
  ·simp only;rw [if_neg (by omega)];omega

theorem okFrom_pw:∀(r:List Tm) (o:Option Tm),okFrom o r=true→(∀q,o=some q→tmGd q)→r.Pairwise (fun a b=>keyT a<keyT b)∧∀q,o=some q→∀t∈r,keyT q<keyT t
 | [],_,_,_=>⟨.nil,fun _ _ t ht=>by simp at ht⟩
 | e::r,o,h,ho=>by
  have hg:=okFrom_gd (e::r) o h
  unfold okFrom at h
  simp only [Bool.and_eq_true,decide_eq_true_eq]at h
  obtain⟨i1,i2⟩:=okFrom_pw r (some e) h.2.2 (fun q hq=>by cases hq;exact h.1.1)
  refine⟨List.pairwise_cons.2 ⟨fun t ht=>i2 e rfl t ht,i1⟩,fun q hq t ht => ?_⟩
  subst hq
  have hlt:keyT q<keyT e:=(lexI_lt (tmGd_ex (ho q rfl)) (tmGd_ex h.1.1)).1 (by simpa using h.2.1)
  rcases List.mem_cons.1 ht with rfl | ht
  ·exact hlt
  ·have:=i2 e rfl t ht
   omega
theorem okFrom_nz:∀(r:List Tm) (o:Option Tm),okFrom o r=true→∀t∈r,t.1≠0
 | [],_,_=>by simp
 | e::r,o,h=>by
  unfold okFrom at h
  simp only [Bool.and_eq_true,decide_eq_true_eq]at h
  intro t ht
  rcases List.mem_cons.1 ht with rfl | ht
  ·have:=h.1.2
   simpa using this
  ·exact okFrom_nz r _ h.2.2 t ht
theorem polyV_len{p:List Tm}(h:polyV p=true):p.length≤20:=by
 unfold polyV at h
 rw [Bool.and_eq_true,decide_eq_true_eq]at h
 omega
theorem polyV_ok{p:List Tm}(h:polyV p=true):okFrom none p=true:=by
 unfold polyV at h
 rw [Bool.and_eq_true]at h
 exact h.1

theorem dV_filter{i:Nat}{p:List Tm}(h:polyV p=true):(p.map (lw i)).filter nzT=dV i p:=by
 rw [List.filter_map]
 unfold dV
 congr 1
 refine List.filter_congr fun t ht => ?_
 have hz:=okFrom_nz p none (polyV_ok h) t ht
 have hb:=exI_bd (i:=i) (polyV_gd h t ht)
 show(!((lw i t).1==0))=decide (0<exI i t)
 rw [lw_c]
 by_cases h0:exI i t=0
 ·simp [h0]
 ·have hm:t.1*exI i t≠0:=Int.mul_ne_zero hz h0
  rw [decide_eq_true (by omega)]
  simp [hm]
theorem dV_pw{i:Nat}{p:List Tm}(h:polyV p=true):(dV i p).Pairwise fun a b=>keyT a<keyT b:=by
 unfold dV
 rw [List.pairwise_map]
 have h1:=(okFrom_pw p none (polyV_ok h) (fun q hq=>by cases hq)).1
 rw [List.pairwise_filter]
 refine h1.imp fun {a b} hab ha hb => ?_
 rw [lw_key (of_decide_eq_true ha),lw_key (of_decide_eq_true hb)]
 omega

theorem derive_step{i:Nat}(hi:i<3)(k n:Nat)(x5 x10:List Tm)(x11 x12:Int){t:Tm}(hx:x10.getD (Int.toNat x12) (0,0,0,0)=t)(ht:tmGd t) :
  impl_derive_L58 k (n+1) (i:Int) x5 x10 x11 x12=(bif (decide (x12<x11))then(bif (decide (0≤x12))then(bif (decide (x12<(x10.length:Int)))then(bif (decide (x5.length+([lw i t]:List Tm).length<274877906944))then(impl_derive_L58 k n (i:Int) (x5 ++ [lw i t]) x10 x11 (IntKind.wrap .i64 (x12+1)))else none)else none)else none)else some (Sum.inr (x5,()))):=by
 have w1:∀e:Int,0≤e∧e≤4→IntKind.wrap .i64 (e - 1)=e - 1:=fun e he=>w64 (by omega) (by omega)
 have w2:∀e:Int,0≤e∧e≤4→IntKind.wrap .i64 (t.1*e)=t.1*e:=fun e he=>by have:=mul_bd ht.1 he;exact w64 (by omega) (by omega)
 rw [impl_derive_L58.eq_2,hx]
 have:i=0∨i=1∨i=2:=by omega
 rcases this with rfl | rfl | rfl
 ·simp only [impl_Term_exponents,impl_termOf,Option.bind_some,show((((0:Nat):Int))==0)=true from rfl,cond_true,w1 _ ht.2.1,w2 _ ht.2.1]
  rfl
 ·simp only [impl_Term_exponents,impl_termOf,Option.bind_some,show((((1:Nat):Int))==0)=false from rfl,show((((1:Nat):Int))==1)=true from rfl,cond_true,cond_false,w1 _ ht.2.2.1,w2 _ ht.2.2.1]
  rfl
 ·simp only [impl_Term_exponents,impl_termOf,Option.bind_some,show((((2:Nat):Int))==0)=false from rfl,show((((2:Nat):Int))==1)=false from rfl,show((((2:Nat):Int))==2)=true from rfl,cond_true,cond_false,w1 _ ht.2.2.2.1,w2 _ ht.2.2.2.1]
  rfl

theorem derive_ev{i:Nat}{p:List Tm}(hi:i<3)(h:polyV p=true):Evt (fun k _=>impl_derive k p (i:Int)) (dV i p):=by
 refine Evt.eq (f:=fun k q=>_) ?_ (fun k q=>by rw [impl_derive])
 have hl:=polyV_len h
 have hg:=polyV_gd h
 have key:∀(r d:List Tm),d++r=p→Evt (fun k n=>impl_derive_L58 k n (i:Int) (d.map (lw i)) p (p.length:Int) d.length) (.inr (p.map (lw i),())):=by
  intro r
  induction r with
  | nil =>
   intro d hd
   refine Evt.step (fun k n=>impl_derive_L58.eq_2 k _ _ _ _ _ n) ?_
   rw [List.append_nil]at hd
   subst hd
   exact Evt.cfalse (by simp) .pure
  | cons e r ih =>
   intro d hd
   have ih:=ih (d ++ [e]) (by simpa using hd)
   rw [←len_next (r:=r) (by rw [hd];simp only [lenB];omega),List.map_append]at ih
   refine Evt.step (fun k n=>derive_step hi k n _ _ _ _ (by rw [←hd];exact mid_get) (hg e (by rw [←hd];simp))) ?_
   have hll:=congrArg List.length hd
   simp at hll
   exact Evt.ctrue (by rw [←hd];exact mid_lt) (Evt.ctrue mid_ge (Evt.ctrue (by rw [←hd];exact mid_lt) (Evt.ctrue (decide_eq_true (by simp;omega)) ih)))
 have hc:=collect_ev (l:=p.map (lw i)) (by simpa using hl) (fun t ht=>by
   obtain⟨u,hu,rfl⟩:=List.mem_map.1 ht
   exact lw_ex (hg u hu)) (fun t ht=>by
   obtain⟨u,hu,rfl⟩:=List.mem_map.1 ht
   exact lw_bd (hg u hu)) (by rw [dV_filter h];exact dV_pw h)
 rw [dV_filter h]at hc
 exact Evt.inr (Evt.diag (key p [] rfl)) (Evt.bind hc .pure)

theorem poWith_eq{i:Nat}(hi:i<3){t:Tm}(h:0<exI i t):spec_poPower t (i:Int)=some (exI i t)∧spec_poWith t (i:Int) (exI i t - 1)=some (t.1,(lw i t).2):=by
 have:i=0∨i=1∨i=2:=by omega
 unfold lw dn1
 rcases this with rfl | rfl | rfl
 ·simp only [exI]at h ⊢
  rw [if_neg (by omega)]
  exact⟨rfl,rfl⟩
 ·simp only [exI]at h ⊢
  rw [if_neg (by omega)]
  exact⟨rfl,rfl⟩
 ·simp only [exI]at h ⊢
  rw [if_neg (by omega)]
  exact⟨rfl,rfl⟩
theorem poPower_eq3{i:Nat}(hi:i<3)(t:Tm):spec_poPower t (i:Int)=some (exI i t):=by
 have:i=0∨i=1∨i=2:=by omega
 rcases this with rfl | rfl | rfl <;> rfl

theorem poDerive_ev{i:Nat}{p:List Tm}(hi:i<3)(h:polyV p=true):Evt (fun k _=>spec_poDerive k p (i:Int)) (dV i p):=by
 refine Evt.eq (f:=fun k q=>_) ?_ (fun k q=>by rw [spec_poDerive])
 have hl:=polyV_len h
 have hg:=polyV_gd h
 have key:∀(r d:List Tm),d++r=p→Evt (fun k n=>spec_poDerive_L58 k n (i:Int) (dV i d) p (p.length:Int) d.length) (.inr (dV i p,())):=by
  intro r
  induction r with
  | nil =>
   intro d hd
   refine Evt.step (fun k n=>spec_poDerive_L58.eq_2 k _ _ _ _ _ n) ?_
   rw [List.append_nil]at hd
   subst hd
   exact Evt.cfalse (by simp) .pure
  | cons e r ih =>
   intro d hd
   have ih:=ih (d ++ [e]) (by simpa using hd)
   rw [←len_next (r:=r) (by rw [hd];simp only [lenB];omega)]at ih
   have he:=hg e (by rw [←hd];simp)
   have hb:=exI_bd (i:=i) he
   refine Evt.step (fun k n=>spec_poDerive_L58.eq_2 k _ _ _ _ _ n) ?_
   have hll:=congrArg List.length hd
   simp at hll
   have e1:p.getD (Int.toNat (d.length:Int)) (0,0,0,0)=e:=by rw [←hd];exact mid_get
   rw [e1]
   refine Evt.ctrue (by rw [←hd];exact mid_lt) (Evt.ctrue mid_ge (Evt.ctrue (by rw [←hd];exact mid_lt) (Evt.bind (.const (poPower_eq3 hi e)) ?_)))
   by_cases hz:0<exI i e
   ·have hm:=mul_bd he.1 hb
    refine Evt.ctrue (decide_eq_true hz) (Evt.bind (.const (r:=(e.1,(lw i e).2)) (by rw [w64 (by omega) (by omega)];exact(poWith_eq hi hz).2)) ?_)
    have hl2:(dV i d).length≤d.length:=by unfold dV;rw [List.length_map];exact List.length_filter_le _ _
    have e2:dV i (d ++ [e])=dV i d ++ [(e.1*exI i e,(lw i e).2)]:=by
     unfold dV
     rw [List.filter_append,List.map_append,List.filter_cons,if_pos (decide_eq_true hz),List.filter_nil,List.map_cons,List.map_nil]
     congr 2
     rw [←lw_c]
    rw [e2]at ih
    simp only
    rw [w64 (n:=e.1*exI i e) (by omega) (by omega)]
    exact Evt.ctrue (decide_eq_true (by simp;omega)) ih
   ·have e2:dV i (d ++ [e])=dV i d:=by
     unfold dV
     rw [List.filter_append,List.filter_cons,if_neg (by simpa using hz),List.filter_nil,List.append_nil]
    rw [e2]at ih
    exact Evt.cfalse (decide_eq_false hz) ih
 exact Evt.inr (Evt.diag (key p [] rfl)) .pure
end Go.Ev.G

namespace Go.Ev.G
open Go Go.Ev
set_option maxRecDepth 100000

theorem markBox_ev{b:Int×List Int×List Int}{a:Nat}(h:a+b.2.1.length+b.2.2.length<lenB):Evt (fun k _=>laws_markBox k b a) ((a+1*b.2.1.length+1*b.2.2.length:Nat):Int):=by
 refine Evt.eq (f:=fun k q=>_) ?_ (fun k q=>by rw [laws_markBox])
 obtain⟨y,hy,_⟩:=markIntS_only b.2.1 a (by show a+1*b.2.1.length<lenB;omega)
 obtain⟨z,hz,_⟩:=markIntS_only b.2.2 (a+1*b.2.1.length) (by show a+1*b.2.1.length+1*b.2.2.length<lenB;omega)
 exact Evt.bind hy (Evt.bind hz .pure)

end Go.Ev.G

namespace Go.Ev.G
open Go Go.Ev
set_option maxRecDepth 100000

theorem markTermS_only:MarkOk laws_markTermS (heldAny 4) (fun x=>4*x.length) :=
 mark_only (M:=laws_markTermS_L26) (mv:=fun a=>((a:Int),((a+1:Nat):Int),((a+2:Nat):Int),((a+3:Nat):Int))) (by omega)
  (fun k n d r e a h1 h2=>by
   rw [laws_markTermS_L26]
   simp only [mid_lt,mid_ge,mid_get,mid_set,cond_true]
   rw [w64_next (m:=d.length) (by simp at h2;omega),w64_next (m:=a) (by omega),w64_next (m:=a+1) (by omega),w64_next (m:=a+2) (by omega),w64_next (m:=a+3) (by omega)])
  (fun k n d a=>by rw [laws_markTermS_L26,mid_end];rfl)
  (fun _ _ _=>rfl)
def heldAnyL{γ:Type}(c:Nat)(k:Nat):Nat→List (List γ)→Int→Int→Option (Int ⊕ (Int×Unit))
 | 0,_,_,_=>none
 | n+1,x,a,i=>(bif (decide (i<(x.length:Int)))then(bif (decide (0≤i))then(bif (decide (i<(x.length:Int)))then(Option.bind (heldAny c k (x.getD (Int.toNat i) []) a) fun r=>bif (decide (r<0))then some (.inl (-1))else heldAnyL c k n x r (IntKind.wrap .i64 (i+1)))else none)else none)else some (.inr (a,())))
theorem markTermSS_ev{x:List (List Tm)}{a:Nat}(hx:x.length<lenB)(ha:a+(x.map fun r=>4*r.length).sum<lenB):∃y,Evt (fun k _=>laws_markTermSS k x a) (((a+(x.map fun r=>4*r.length).sum:Nat):Int),y):=by
 obtain⟨y,h1,_⟩:=mark_rows_all (M:=laws_markTermSS_L26) (H:=heldAnyL 4) (marks:=laws_markTermSS) (helds:=fun k x a=>both (R:=Int) (P:=Int×Unit) (heldAnyL 4 k k x a 0) (fun q=>some q) (fun y=>some y.1)) markTermS_only (fun _ _ _ _ _=>rfl) (fun _ _ _ _ _=>rfl) (fun _ _ _=>rfl) (fun _ _ _=>rfl) hx ha
 exact⟨y,h1⟩
theorem sum_four:∀(x:List (List Tm)),(x.map fun r=>4*r.length).sum=4*(x.map List.length).sum
 | []=>rfl
 | r::x=>by simp only [List.map_cons,List.sum_cons,sum_four x];omega
theorem Sized.marks4{a:List (List Tm)}(h:Sized a):101+(a.map fun r=>4*r.length).sum≤4000101:=by
 rw [sum_four];unfold Sized at h;omega

section
variable {V : Type}
theorem frame_sbl{W:Type}{a:List (List Tm)}{b:Bx}{S I:Nat→List (List Tm)→Bx→Option V}{C:Nat→V→V→Option Bool→Option Bool}{M:Nat→V→(W→Option Bool)→Option Bool}{H:Nat→W→Option Bool→Option Bool}{v:V}{w:W}(ha:a.length≤maxLen)(hm:∀x∈a,x.length≤maxLen)(h1:b.2.1.length≤maxLen)(h2:b.2.2.length≤maxLen)
  (hC:∀ {f:Nat→Nat→Option Bool} {r:Bool},Evt f r→Evt (fun k n=>C k v v (f k n)) r)
  (hM:∀ {f:Nat→Nat→W→Option Bool} {r:Bool},Evt (fun k n=>f k n w) r→Evt (fun k n=>M k v (f k n)) r) (hH:∀ {f:Nat→Nat→Option Bool} {r:Bool},Evt f r→Evt (fun k n=>H k w (f k n)) r)
  (hS:a.length<274877906944→(∀r∈a,r.length<lenB)→b.2.1.length<lenB→Evt (fun k _=>S k a b) v) (hI:a.length<lenB→(∀r∈a,r.length<lenB)→b.2.1.length<lenB→Evt (fun k _=>I k a b) v) :
  Evt (fun k _=>(Option.bind (laws_szTermSS k a 1000000) fun r1=>(bif (decide (r1<0))then some true else(Option.bind (laws_szBox b r1) fun r2=>(bif (decide (r2<0))then some true else(Option.bind (laws_toTermSS k a false) fun r3=>(Option.bind (laws_toBox k b false) fun r4=>(Option.bind (S k (r3.1.map fun z=>z.1) (r4.1,r4.2.1.1,r4.2.2.1)) fun r5=>(Option.bind (laws_toTermSS k a false) fun r6=>(Option.bind (laws_toBox k b false) fun r7=>(Option.bind (I k (r6.1.map fun z=>z.1) (r7.1,r7.2.1.1,r7.2.2.1)) fun r8=>C k r5 r8 (Option.bind (laws_toTermSS k a false) fun r10=>(Option.bind (laws_intactTermSS k r6 r10) fun r11=>(bif (!r11)then some false else(Option.bind (laws_toBox k b false) fun r12=>(Option.bind (laws_intactBox k r7 r12) fun r13=>(bif (!r13)then some false else
   (Option.bind (laws_markTermSS k (r6.1.map fun z=>z.1) 101) fun r14=>(Option.bind (laws_markBox k (r7.1,r7.2.1.1,r7.2.2.1) r14.1) fun r15=>(bif (decide (r15<0))then some false else C k r5 r8 (M k r8 fun w=>H k w (Option.bind (laws_toTermSS k a true) fun r19=>(Option.bind (laws_toBox k b true) fun r20=>(Option.bind (I k (r19.1.map fun z=>z.1) (r20.1,r20.2.1.1,r20.2.2.1)) fun r21=>C k r5 r21 (H k w (some true)))))))))))))))))))))))))) true:=by
 refine Evt.bind (szTermSS_ev (a:=1000000) ha hm (by omega)) ?_
 by_cases hz:a.length+(a.map List.length).sum≤1000000
 ·rw [if_pos hz]
  have hs:Sized a:=hz
  refine Evt.cfalse (by simp <;> omega) (Evt.bind (.const (szBox_eq h1 h2 (by omega))) ?_)
  by_cases hy:b.2.1.length+b.2.2.length≤1000000 - (a.length+(a.map List.length).sum)
  ·rw [if_pos hy]
   refine Evt.cfalse (by simp <;> omega) ?_
   have b1:b.2.1.length≤1000000:=by omega
   have b2:b.2.2.length≤1000000:=by omega
   have hr:∀r∈a,r.length<lenB:=fun r hr=>by have:=hs.row r hr;simp only [lenB];omega
   have hl:=hs.len
   have spec:=hS (by omega) hr (by simp only [lenB];omega)
   have impl:=hI (by simp only [lenB];omega) hr (by simp only [lenB];omega)
   have hm4:=hs.marks4
   obtain⟨y,hy1⟩:=markTermSS_ev (x:=a) (a:=101) (by simp only [lenB];omega) (by simp only [lenB];omega)
   have hb1:=markBox_ev (b:=b) (a:=101+(a.map fun r=>4*r.length).sum) (by simp only [lenB];omega)
   refine Evt.bind (toTermSS_ev hs.len hs.row) (Evt.bind (toBox_ev b1 b2) ?_)
   simp only [toV_rows,boxR_eq]
   refine Evt.bind spec (Evt.bind (toTermSS_ev hs.len hs.row) (Evt.bind (toBox_ev b1 b2) ?_))
   simp only [toV_rows,boxR_eq]
   refine Evt.bind impl (hC (Evt.bind (toTermSS_ev hs.len hs.row) (Evt.bind (intactT_ev hs) (Evt.cfalse rfl (Evt.bind (toBox_ev b1 b2) (Evt.bind (intactBox_ev b1 b2) (Evt.cfalse rfl ?_)))))))
   refine Evt.bind hy1 (Evt.bind hb1 (Evt.cfalse (by simp <;> omega) (hC (hM (hH (Evt.bind (toTermSS_ev hs.len hs.row) (Evt.bind (toBox_ev b1 b2) ?_)))))))
   simp only [toV_rows,boxR_eq]
   exact Evt.bind impl (hC (hH .pure))
  ·rw [if_neg hy]
   exact Evt.ctrue rfl .pure
 ·rw [if_neg hz]
  exact Evt.ctrue rfl .pure
end
structure Pl(s:List (List Tm)):Prop where
 ln:s.length=2
 tm:∀p∈s,∀t∈p,tmW t
 lp:∀p∈s,p.length<lenB
theorem Pl.sd{s:List (List Tm)}(h:Pl s){e:Ed}(he:EdOk e):Sd s (sidesE e):=Sd.edge h.tm h.lp he
end Go.Ev.G

namespace Go.Ev.G
open Go Go.Ev
set_option maxRecDepth 100000

def halfD(a b:Int×Int):(Int×Int)×Bool:=mkD (sumN a b) (exA a b+1)
theorem halfD_gd(a b:Int×Int):gd (halfD a b).1:=mkD_gd _ _
theorem dyHalf_ev{a b:Int×Int}(ha:gd a)(hb:gd b):Evt (fun k _=>spec_dyHalf k a b) (halfD a b):=by
 obtain⟨n,j⟩:=a
 obtain⟨m,i⟩:=b
 obtain⟨a1,a2,a3,a4,a5⟩:=ha
 obtain⟨b1,b2,b3,b4,b5⟩:=hb
 simp only at *
 obtain⟨j,rfl⟩:=Int.eq_ofNat_of_zero_le a1
 obtain⟨i,rfl⟩:=Int.eq_ofNat_of_zero_le b1
 refine Evt.eq (f:=fun k q=>_) ?_ (fun k q=>by rw [spec_dyHalf])
 refine Evt.bind (.const (most_eq _ _)) ?_
 have hmax:max ((j:Nat):Int) (i:Int)=((max j i:Nat):Int):=by omega
 simp only [hmax]
 have e:halfD (n,(j:Int)) (m,(i:Int))=mkD (n*2 ^ (max j i - j)+m*2 ^ (max j i - i)) (max j i+1):=by simp [halfD,sumN,exA]
 rw [e]
 refine Evt.bind (dyAt_ev (by omega) (by omega) (by omega) (by omega)) (Evt.bind (dyAt_ev (by omega) (by omega) (by omega) (by omega)) ?_)
 have hbn:=mul_pow_bound (n:=n) (m:=max j i - j) (by omega) (B:=1099511627776) (by omega) a3 a4
 have hbm:=mul_pow_bound (n:=m) (m:=max j i - i) (by omega) (B:=1099511627776) (by omega) b3 b4
 cases h1:(atV (max j i - j) n).2 with
 | false =>
  refine Evt.ctrue rfl ?_
  obtain⟨hpos,hl⟩:=atV_large _ _ h1
  have hij:max j i=i:=by omega
  have hodd:m % 2≠0:=by
   rcases b5 with h | h
   ·omega
   ·exact h
  have hev:=even_pow (n:=n) hpos
  rw [hij]at hl hev ⊢
  simp only [Nat.sub_self,Int.pow_zero,Int.mul_one]
  rw [mkD_odd (by omega) (by omega)]
  exact .pure
 | true =>
  refine Evt.cfalse rfl ?_
  cases h2:(atV (max j i - i) m).2 with
  | false =>
   refine Evt.ctrue rfl ?_
   obtain⟨hpos,hl⟩:=atV_large _ _ h2
   have hij:max j i=j:=by omega
   have hodd:n % 2≠0:=by
    rcases a5 with h | h
    ·omega
    ·exact h
   have hev:=even_pow (n:=m) hpos
   rw [hij]at hl hev ⊢
   simp only [Nat.sub_self,Int.pow_zero,Int.mul_one]
   rw [mkD_odd (by omega) (by omega)]
   exact .pure
  | true =>
   refine Evt.cfalse rfl ?_
   rw [atV_true _ _ h1,atV_true _ _ h2]
      -- neither is too large: the sum fits
   have hsum : -9223372036854775808<n*2 ^ (max j i - j)+m*2 ^ (max j i - i)∧n*2 ^ (max j i - j)+m*2 ^ (max j i - i)<9223372036854775808:=by
    have g1:∀(q:Nat) (z:Int),-1099511627776≤z→z≤1099511627776→(atV q z).2=true → -2305843009213693952≤z*2 ^ q∧z*2 ^ q≤2305843009213693952:=by
     intro q
     induction q with
     | zero=>intro z h1 h2 _;simp;omega
     | succ q ih =>
      intro z _ _ h
      have key:∀(q:Nat) (z:Int),(atV (q+1) z).2=true → -1152921504606846976≤z*2 ^ q∧z*2 ^ q≤1152921504606846976:=by
       intro q
       induction q with
       | zero =>
        intro z h
        unfold atV at h
        split at h
        ·rename_i hc;simpa using hc
        ·cases h
       | succ q ih =>
        intro z h
        unfold atV at h
        split at h
        ·have:=ih (z*2) h
         rw [show z*2 ^ (q+1)=z*2*2 ^ q by rw [Int.pow_succ,Int.mul_assoc,Int.mul_comm 2]]
         exact this
        ·cases h
      have:=key q z h
      rw [Int.pow_succ,←Int.mul_assoc]
      omega
    have u1:=g1 _ _ a3 a4 h1
    have u2:=g1 _ _ b3 b4 h2
    omega
   have hk:IntKind.wrap .i64 (((max j i:Nat):Int)+1)=((max j i+1:Nat):Int):=w64_next (by simp only [lenB];omega)
   rw [w64 (by omega) (by omega),hk]
   exact Evt.bind (dyMake_ev hsum.1 hsum.2 (by omega)) .pure

theorem middleOf_ev{a b:Int×Int}(ha:gd a)(hb:gd b):Evt (fun k _=>impl_middleOf k a b) (halfD a b):=by
 obtain⟨n,j,rfl,a1,a2,a3,a4⟩:=gd_nat ha
 obtain⟨m,i,rfl,b1,b2,b3,b4⟩:=gd_nat hb
 refine Evt.eq (f:=fun k q=>_) ?_ (fun k q=>by rw [impl_middleOf])
 simp only [max_if]
 have hmax:max ((j:Nat):Int) (i:Int)=((max j i:Nat):Int):=by omega
 simp only [hmax]
 obtain⟨u1,u2,u3,u4⟩:=wide_at (n:=n) (j:=j) (K:=max j i) (by omega) (by omega) a2 a3
 obtain⟨v1,v2,v3,v4⟩:=wide_at (n:=m) (j:=i) (K:=max j i) (by omega) (by omega) b2 b3
 refine Evt.bind (.const u1) (Evt.bind (.const u2) (Evt.bind (.const v1) (Evt.bind (.const v2) ?_)))
 obtain⟨neg,M,hM,hv,hev⟩:=add_ev (n1:=decide (n<0)) (n2:=decide (m<0)) (M1:=n.natAbs*2 ^ (max j i - j)) (M2:=m.natAbs*2 ^ (max j i - i)) (by simp only [B64]at *; omega)
 have hk:IntKind.wrap .i64 (((max j i:Nat):Int)+1)=((max j i+1:Nat):Int):=w64_next (by simp only [lenB];omega)
 rw [hk]
 refine Evt.bind hev (Evt.bind (fit_ev (by simp only [B64]at *; omega) (by omega)) ?_)
 rw [hv,u4,v4]
 have e:halfD (n,(j:Int)) (m,(i:Int))=mkD (n*2 ^ (max j i - j)+m*2 ^ (max j i - i)) (max j i+1):=by simp [halfD,sumN,exA]
 rw [e]
 exact .pure


theorem EdOk.left{e:Ed}(h:EdOk e):EdOk (e.1,e.2.1,e.2.2.1,(halfD e.2.2.1 e.2.2.2).1):=⟨h.sd,h.a,h.f,halfD_gd _ _⟩
theorem EdOk.right{e:Ed}(h:EdOk e):EdOk (e.1,e.2.1,(halfD e.2.2.1 e.2.2.2).1,e.2.2.2):=⟨h.sd,h.a,halfD_gd _ _,h.t⟩
end Go.Ev.G

namespace Go.Ev.G
open Go Go.Ev
set_option maxRecDepth 100000

def nwV(s:List (List Tm))(b:Bx):Bool:=sysV s&&(bxV b&&(((s.length:Int)==(b.2.1.length:Int))&&decide (b.1≤4)))
theorem nwGood_ev{s:List (List Tm)}{b:Bx}(hb:s.length<lenB)(hm:∀r∈s,r.length<lenB)(hx:b.2.1.length<lenB):Evt (fun k _=>spec_nwGood k s b) (nwV s b):=by
 refine Evt.eq (f:=fun k q=>_) ?_ (fun k q=>by rw [spec_nwGood,spec_vaBoth])
 unfold nwV
 have h1:=poSystem_ev hb hm
 have h2:=bxGood_ev hx
 cases hs:sysV s with
 | false =>
  rw [hs]at h1
  exact Evt.bind (Evt.bind h1 (Evt.cfalse rfl .pure)) (Evt.cfalse rfl .pure)
 | true =>
  rw [hs]at h1
  cases hv:bxV b with
  | false =>
   rw [hv]at h2
   exact Evt.bind (Evt.bind h1 (Evt.ctrue rfl (Evt.bind h2 (Evt.cfalse rfl .pure)))) (Evt.cfalse rfl .pure)
  | true =>
   rw [hv]at h2
   refine Evt.bind (Evt.bind h1 (Evt.ctrue rfl (Evt.bind h2 (Evt.ctrue rfl .pure)))) ?_
   cases hl:((s.length:Int)==(b.2.1.length:Int))with
   | false=>exact Evt.cfalse rfl .pure
   | true=>exact Evt.ctrue rfl .pure
theorem newtonFits_ev{s:List (List Tm)}{b:Bx}(hb:s.length<lenB)(hm:∀r∈s,r.length<lenB)(hx:b.2.1.length<lenB):Evt (fun k _=>impl_newtonFits k s b) (nwV s b):=by
 refine Evt.eq (f:=fun k q=>_) ?_ (fun k q=>by rw [impl_newtonFits,impl_systemOver])
 unfold nwV
 have h1:=isSystem_ev hb hm
 have h2:=isBox_ev hx
 cases hs:sysV s with
 | false =>
  rw [hs]at h1
  exact Evt.bind (Evt.bind h1 (Evt.cfalse rfl .pure)) (Evt.cfalse rfl .pure)
 | true =>
  rw [hs]at h1
  cases hv:bxV b with
  | false =>
   rw [hv]at h2
   exact Evt.bind (Evt.bind h1 (Evt.ctrue rfl (Evt.bind h2 (Evt.cfalse rfl .pure)))) (Evt.cfalse rfl .pure)
  | true =>
   rw [hv]at h2
   refine Evt.bind (Evt.bind h1 (Evt.ctrue rfl (Evt.bind h2 (Evt.ctrue rfl .pure)))) ?_
   cases hl:((s.length:Int)==(b.2.1.length:Int))with
   | false=>exact Evt.cfalse rfl .pure
   | true=>exact Evt.ctrue rfl .pure

structure NwOk(s:List (List Tm))(m:Nat)(lo hi:List Int):Prop where
 po:∀p∈s,polyV p=true
 n1:1≤lo.length∧lo.length≤3
 sl:s.length=lo.length
 hl:hi.length=lo.length
 m4:m≤4
 bd:∀p∈lo.zip hi,-128≤p.1∧p.1<p.2∧p.2≤128
 nd:∀p∈s,needs s.length p=false
 b8:∀p∈lo.zip hi,-(8*2 ^ m)≤p.1∧p.2≤8*2 ^ m
theorem nwV_form{s:List (List Tm)}{b:Bx}(h:nwV s b=true):∃m:Nat,b=((m:Int),b.2.1,b.2.2)∧NwOk s m b.2.1 b.2.2:=by
 obtain⟨d8,los,his⟩:=b
 unfold nwV bxV sysV at h
 simp only [Bool.and_eq_true,decide_eq_true_eq,beq_iff_eq,List.all_eq_true]at h
 obtain⟨⟨p1,p2⟩,⟨g1,g2,g3,g4,_⟩,g5,g6⟩:=h
 refine⟨d8.toNat,by rw [Int.toNat_of_nonneg g1.1],?_⟩
 show NwOk s d8.toNat los his
 have g2:1≤(los.length:Int)∧(los.length:Int)≤3:=g2
 have g5:(s.length:Int)=(los.length:Int):=g5
 refine⟨fun p hp=>(p1 p hp).1,by omega,by omega,g3,by omega,fun p hp => ?_,fun p hp=>by simpa using (p1 p hp).2,fun p hp=>by
  have hq:=g4 p hp
  unfold sideOk at hq
  have hq:=of_decide_eq_true hq
  exact⟨hq.1.1,hq.2.1.2⟩⟩
 have hq:=g4 p hp
 unfold sideOk at hq
 have hq:=of_decide_eq_true hq
 have hp:(8:Int)*2 ^ d8.toNat≤128:=by
  have h1:(2:Nat) ^ d8.toNat≤2 ^ 4:=Nat.pow_le_pow_right (by omega) (by omega)
  have h2:((2:Int) ^ d8.toNat)=((2 ^ d8.toNat:Nat):Int):=by simp
  have:(2:Nat) ^ 4=16:=by decide
  rw [h2]
  omega
 omega

def sidesB(m:Nat)(lo hi:List Int):List Iv:=(lo.zip hi).map fun p=>((mkD p.1 m).1,(mkD p.2 m).1)
theorem sidesB_len{s:List (List Tm)}{m:Nat}{lo hi:List Int}(h:NwOk s m lo hi):(sidesB m lo hi).length=lo.length:=by
 have:=h.hl
 simp [sidesB]
 omega
theorem sidesB_iv{s:List (List Tm)}{m:Nat}{lo hi:List Int}(h:NwOk s m lo hi):∀x∈sidesB m lo hi,ivGd x:=by
 intro x hx
 obtain⟨p,hp,rfl⟩:=List.mem_map.1 hx
 obtain⟨b1,b2,b3⟩:=h.bd p hp
 refine⟨mkD_gd _ _,mkD_gd _ _,?_⟩
 have e1:=sv_mkD (mkD_ok (n:=p.1) (k:=m) (by omega) (by omega) (by have:=h.m4;omega))
 have e2:=sv_mkD (mkD_ok (n:=p.2) (k:=m) (by omega) (by omega) (by have:=h.m4;omega))
 have hle:sv (mkD p.1 m).1*2 ^ m≤sv (mkD p.2 m).1*2 ^ m:=by
  rw [e1,e2]
  omega
 exact Int.le_of_mul_le_mul_right hle (Int.pow_pos (by decide))

theorem bxNumber_ev{x:Int}{m:Nat}(hx : -128≤x∧x≤128)(hm:m≤4):Evt (fun k _=>spec_bxNumber k x (m:Int)) (mkD x m).1:=by
 refine Evt.eq (f:=fun k q=>_) ?_ (fun k q=>by rw [spec_bxNumber])
 exact Evt.bind (dyMake_ev (n:=x) (m:=m) (by omega) (by omega) (by omega)) .pure
theorem boxDyadic_ev{x:Int}{m:Nat}{lo hi:List Int}(hx : -128≤x∧x≤128)(hm:m≤4):Evt (fun k _=>impl_Box_dyadic k ((m:Int),lo,hi) x) (mkD x m).1:=by
 refine Evt.eq (f:=fun k q=>_) ?_ (fun k q=>by rw [impl_Box_dyadic])
 exact Evt.bind (.const (wideOf_eq (by omega) (by omega))) (Evt.bind (fitD_ev (n:=x) (p:=m) (by omega) (by omega) (by omega)) .pure)

theorem vaSides_ev{s:List (List Tm)}{m:Nat}{lo hi:List Int}(h:NwOk s m lo hi):Evt (fun k _=>spec_vaSides k ((m:Int),lo,hi)) (sidesB m lo hi):=by
 refine Evt.eq (f:=fun k q=>_) ?_ (fun k q=>by rw [spec_vaSides])
 have key:∀(r d r2 d2:List Int),d++r=lo→d2++r2=hi→d.length=d2.length→Evt (fun k n=>spec_vaSides_L58 k n ((m:Int),lo,hi) (sidesB m d d2) lo (lo.length:Int) d.length) (.inr (sidesB m lo hi,())):=by
  intro r
  induction r with
  | nil =>
   intro d r2 d2 hd hd2 hl
   refine Evt.step (fun k n=>spec_vaSides_L58.eq_2 k _ _ _ _ _ n) ?_
   rw [List.append_nil]at hd
   subst hd
   have hn:r2 = []:=by
    have h1:=congrArg List.length hd2
    have h2:=h.hl
    simp at h1
    exact List.eq_nil_of_length_eq_zero (by omega)
   subst hn
   rw [List.append_nil]at hd2
   subst hd2
   exact Evt.cfalse (by simp) .pure
  | cons e r ih =>
   intro d r2 d2 hd hd2 hl
   have hxl:=congrArg List.length hd
   have hyl:=congrArg List.length hd2
   have hh:=h.hl
   have hn:=h.n1
   simp at hxl hyl
   cases r2 with
   | nil=>simp at hyl;omega
   | cons f r2 =>
   have ih:=ih (d ++ [e]) r2 (d2 ++ [f]) (by simpa using hd) (by simpa using hd2) (by simp [hl])
   rw [←len_next (r:=r) (by rw [hd];simp only [lenB];omega)]at ih
   have e2:sidesB m (d ++ [e]) (d2 ++ [f])=sidesB m d d2 ++ [((mkD e m).1,(mkD f m).1)]:=by
    unfold sidesB
    rw [List.zip_append hl,List.map_append]
    rfl
   rw [e2]at ih
   have hmem:(e,f)∈lo.zip hi:=by
    rw [←hd,←hd2,List.zip_append hl]
    exact List.mem_append.2 (.inr (by simp))
   obtain⟨b1,b2,b3⟩:=h.bd _ hmem
   simp only at b1 b2 b3
   have g1:lo.getD (Int.toNat (d.length:Int)) 0=e:=by rw [←hd];exact mid_get
   have g2:hi.getD (Int.toNat (d.length:Int)) 0=f:=by rw [←hd2,hl];exact mid_get
   have hsl:(sidesB m d d2).length≤3:=by simp [sidesB];omega
   refine Evt.step (fun k n=>spec_vaSides_L58.eq_2 k _ _ _ _ _ n) ?_
   simp only [g1,g2]
   exact Evt.ctrue (decide_eq_true (by omega)) (Evt.ctrue mid_ge (Evt.ctrue (decide_eq_true (by omega)) (Evt.bind (bxNumber_ev (by omega) h.m4) (Evt.ctrue mid_ge (Evt.ctrue (decide_eq_true (by omega)) (Evt.bind (bxNumber_ev (by omega) h.m4) (Evt.ctrue (decide_eq_true (by simp;omega)) ih)))))))
 exact Evt.inr (Evt.diag (key lo [] hi [] rfl rfl rfl)) .pure

theorem boxSide_ev{s:List (List Tm)}{m:Nat}{lo hi d r d2 r2:List Int}{e f:Int}(h:NwOk s m lo hi)(hd:d++e::r=lo)(hd2:d2++f::r2=hi)(hl:d.length=d2.length):Evt (fun k _=>impl_Box_side k ((m:Int),lo,hi) (d.length:Int)) ((mkD e m).1,(mkD f m).1):=by
 have hxl:=congrArg List.length hd
 have hyl:=congrArg List.length hd2
 simp at hxl hyl
 have hmem:(e,f)∈lo.zip hi:=by
  rw [←hd,←hd2,List.zip_append hl]
  exact List.mem_append.2 (.inr (by simp))
 obtain⟨b1,b2,b3⟩:=h.bd _ hmem
 simp only at b1 b2 b3
 have g1:lo.getD (Int.toNat (d.length:Int)) 0=e:=by rw [←hd];exact mid_get
 have g2:hi.getD (Int.toNat (d.length:Int)) 0=f:=by rw [←hd2,hl];exact mid_get
 refine Evt.eq (f:=fun k q=>_) ?_ (fun k q=>by rw [impl_Box_side])
 simp only [g1,g2]
 exact Evt.ctrue mid_ge (Evt.ctrue (decide_eq_true (by omega)) (Evt.bind (boxDyadic_ev (by omega) h.m4) (Evt.ctrue mid_ge (Evt.ctrue (decide_eq_true (by omega)) (Evt.bind (boxDyadic_ev (by omega) h.m4) .pure)))))
theorem boxSides_ev{s:List (List Tm)}{m:Nat}{lo hi:List Int}(h:NwOk s m lo hi):Evt (fun k _=>impl_Box_sides k ((m:Int),lo,hi)) (sidesB m lo hi):=by
 refine Evt.eq (f:=fun k q=>_) ?_ (fun k q=>by rw [impl_Box_sides])
 have key:∀(r d r2 d2:List Int),d++r=lo→d2++r2=hi→d.length=d2.length→Evt (fun k n=>impl_Box_sides_L58 k n ((m:Int),lo,hi) (sidesB m d d2) (lo.length:Int) d.length) (.inr (sidesB m lo hi,())):=by
  intro r
  induction r with
  | nil =>
   intro d r2 d2 hd hd2 hl
   refine Evt.step (fun k n=>impl_Box_sides_L58.eq_2 k _ _ _ _ n) ?_
   rw [List.append_nil]at hd
   subst hd
   have hn:r2 = []:=by
    have h1:=congrArg List.length hd2
    have h2:=h.hl
    simp at h1
    exact List.eq_nil_of_length_eq_zero (by omega)
   subst hn
   rw [List.append_nil]at hd2
   subst hd2
   exact Evt.cfalse (by simp) .pure
  | cons e r ih =>
   intro d r2 d2 hd hd2 hl
   have hxl:=congrArg List.length hd
   have hyl:=congrArg List.length hd2
   have hh:=h.hl
   have hn:=h.n1
   simp at hxl hyl
   cases r2 with
   | nil=>simp at hyl;omega
   | cons f r2 =>
   have ih:=ih (d ++ [e]) r2 (d2 ++ [f]) (by simpa using hd) (by simpa using hd2) (by simp [hl])
   rw [←len_next (r:=r) (by rw [hd];simp only [lenB];omega)]at ih
   have e2:sidesB m (d ++ [e]) (d2 ++ [f])=sidesB m d d2 ++ [((mkD e m).1,(mkD f m).1)]:=by
    unfold sidesB
    rw [List.zip_append hl,List.map_append]
    rfl
   rw [e2]at ih
   have hsl:(sidesB m d d2).length≤3:=by simp [sidesB];omega
   refine Evt.step (fun k n=>impl_Box_sides_L58.eq_2 k _ _ _ _ n) ?_
   exact Evt.ctrue (decide_eq_true (by omega)) (Evt.bind (boxSide_ev h hd hd2 hl) (Evt.ctrue (decide_eq_true (by simp;omega)) ih))
 exact Evt.inr (Evt.diag (key lo [] hi [] rfl rfl rfl)) .pure

theorem dV_W{i:Nat}{p:List Tm}(h:polyV p=true):∀t∈dV i p,tmW t:=by
 intro t ht
 obtain⟨u,hu,rfl⟩:=List.mem_map.1 ht
 have hu:=polyV_gd h u (List.mem_filter.1 hu).1
 have h1:=lw_bd (i:=i) hu
 have h2:=lw_ex (i:=i) hu
 exact⟨by omega,h2.1,h2.2.1,h2.2.2⟩
theorem dV_len{i:Nat}{p:List Tm}(h:polyV p=true):(dV i p).length<lenB:=by
 have:=polyV_len h
 have h2:(dV i p).length≤p.length:=by unfold dV;rw [List.length_map];exact List.length_filter_le _ _
 simp only [lenB];omega
def allO{α β:Type}(g:α→Option β)(z:β)(l:List α):Option (List β):=if (l.all fun x=>(g x).isSome)then some (l.map fun x=>(g x).getD z)else none
def grO(sides:List Iv)(p:List Tm):Option (List Iv):=allO (fun i=>valO (dV i p) sides) zI (List.range sides.length)
def jaO(sides:List Iv)(s:List (List Tm)):Option (List (List Iv)):=allO (grO sides) [] s
def oL{β:Type}(o:Option (List β)):List β×Bool:=match o with
 | some l=>(l,true)
 | none=>([],false)
theorem range_at{N:Nat}{d r:List Nat}{e:Nat}(h:d++e::r=List.range N):e=d.length∧d.length<N:=by
 have hl:=congrArg List.length h
 simp at hl
 have h1:d.length<N:=by omega
 have h2:(d++e::r)[d.length]? = some e:=by simp
 rw [h,List.getElem?_range h1]at h2
 simp only [Option.some.injEq]at h2
 exact⟨h2.symm,h1⟩

theorem vaGradient_ev{sides:List Iv}{p:List Tm}(h:polyV p=true)(hs:∀x∈sides,ivGd x)(hl:sides.length≤3):Evt (fun k _=>spec_vaGradient k p sides) (oL (grO sides p)):=by
 refine Evt.eq (f:=fun k q=>_) ?_ (fun k q=>by rw [spec_vaGradient])
 have key:∀(r d:List Nat),d++r=List.range sides.length→Evt (fun k n=>spec_vaGradient_L58 k n p sides (d.map fun i=>(valO (dV i p) sides).getD zI) (sides.length:Int) d.length) (if (r.all fun i=>(valO (dV i p) sides).isSome)then .inr ((List.range sides.length).map fun i=>(valO (dV i p) sides).getD zI,())else .inl ([],false)):=by
  intro r
  induction r with
  | nil =>
   intro d hd
   refine Evt.step (fun k n=>spec_vaGradient_L58.eq_2 k _ _ _ _ _ n) ?_
   rw [List.append_nil]at hd
   have:=congrArg List.length hd
   simp at this
   rw [hd]
   exact Evt.cfalse (decide_eq_false (by simp)) .pure
  | cons e r ih =>
   intro d hd
   obtain⟨rfl,hlt⟩:=range_at hd
   have ih:=ih (d ++ [d.length]) (by simpa using hd)
   rw [←len_next (r:=r) (by rw [hd];simp [lenB];omega),List.map_append]at ih
   refine Evt.step (fun k n=>spec_vaGradient_L58.eq_2 k _ _ _ _ _ n) (Evt.ctrue (decide_eq_true (by omega)) ?_)
   refine Evt.bind (poDerive_ev (by omega) h) (Evt.bind (vaOver_ev (dV_W h) hs (by simp only [lenB];omega) (dV_len h)) ?_)
   cases hv:valO (dV d.length p) sides with
   | none =>
    simp only [List.all_cons,hv,Option.isSome_none,Bool.false_and]
    exact Evt.ctrue rfl .pure
   | some v =>
    simp only [List.map_cons,List.map_nil,hv]at ih
    simp only [List.all_cons,hv,Option.isSome_some,Bool.true_and]
    exact Evt.cfalse rfl (Evt.ctrue (by simp;omega) ih)
 have h0:=key (List.range sides.length) [] rfl
 simp only [List.map_nil,List.length_nil]at h0
 unfold grO allO
 cases ha:(List.range sides.length).all fun i=>(valO (dV i p) sides).isSome with
 | true=>rw [ha]at h0;exact Evt.inr (Evt.diag h0) .pure
 | false=>rw [ha]at h0;exact Evt.inl (Evt.diag h0) .pure

theorem gradientOver_ev{s:List (List Tm)}{m:Nat}{lo hi:List Int}{p:List Tm}(hN:NwOk s m lo hi)(h:polyV p=true):Evt (fun k _=>impl_gradientOver k p ((m:Int),lo,hi)) (oL (grO (sidesB m lo hi) p)):=by
 refine Evt.eq (f:=fun k q=>_) ?_ (fun k q=>by rw [impl_gradientOver])
 have hsl:=sidesB_len hN
 have hn:=hN.n1
 have key:∀(r d:List Nat),d++r=List.range (sidesB m lo hi).length→Evt (fun k n=>impl_gradientOver_L58 k n p ((m:Int),lo,hi) (d.map fun i=>(valO (dV i p) (sidesB m lo hi)).getD zI) (lo.length:Int) d.length) (if (r.all fun i=>(valO (dV i p) (sidesB m lo hi)).isSome)then .inr ((List.range (sidesB m lo hi).length).map fun i=>(valO (dV i p) (sidesB m lo hi)).getD zI,())else .inl ([],false)):=by
  intro r
  induction r with
  | nil =>
   intro d hd
   refine Evt.step (fun k n=>impl_gradientOver_L58.eq_2 k _ _ _ _ _ n) ?_
   rw [List.append_nil]at hd
   have:=congrArg List.length hd
   simp at this
   rw [hd]
   exact Evt.cfalse (decide_eq_false (by simp;omega)) .pure
  | cons e r ih =>
   intro d hd
   obtain⟨rfl,hlt⟩:=range_at hd
   have ih:=ih (d ++ [d.length]) (by simpa using hd)
   rw [←len_next (r:=r) (by rw [hd];simp [lenB];omega),List.map_append]at ih
   refine Evt.step (fun k n=>impl_gradientOver_L58.eq_2 k _ _ _ _ _ n) (Evt.ctrue (decide_eq_true (by omega)) ?_)
   refine Evt.bind (derive_ev (by omega) h) (Evt.bind (boxSides_ev hN) (Evt.bind (valueOver_ev (dV_W h) (sidesB_iv hN) (by omega) (dV_len h)) ?_))
   cases hv:valO (dV d.length p) (sidesB m lo hi)with
   | none =>
    simp only [List.all_cons,hv,Option.isSome_none,Bool.false_and]
    exact Evt.ctrue rfl .pure
   | some v =>
    simp only [List.map_cons,List.map_nil,hv]at ih
    simp only [List.all_cons,hv,Option.isSome_some,Bool.true_and]
    exact Evt.cfalse rfl (Evt.ctrue (by simp;omega) ih)
 have h0:=key (List.range (sidesB m lo hi).length) [] rfl
 simp only [List.map_nil,List.length_nil]at h0
 unfold grO allO
 cases ha:(List.range (sidesB m lo hi).length).all fun i=>(valO (dV i p) (sidesB m lo hi)).isSome with
 | true=>rw [ha]at h0;exact Evt.inr (Evt.diag h0) .pure
 | false=>rw [ha]at h0;exact Evt.inl (Evt.diag h0) .pure

theorem vaJacobian_ev{s:List (List Tm)}{m:Nat}{lo hi:List Int}(h:NwOk s m lo hi):Evt (fun k _=>spec_vaJacobian k s ((m:Int),lo,hi)) (oL (jaO (sidesB m lo hi) s)):=by
 refine Evt.eq (f:=fun k q=>_) ?_ (fun k q=>by rw [spec_vaJacobian])
 have hsl:=sidesB_len h
 have hn:=h.n1
 have hss:=h.sl
 have key:∀(r d:List (List Tm)),d++r=s→Evt (fun k n=>spec_vaJacobian_L58 k n ((m:Int),lo,hi) (d.map fun p=>(grO (sidesB m lo hi) p).getD []) s (s.length:Int) d.length) (if (r.all fun p=>(grO (sidesB m lo hi) p).isSome)then .inr (s.map fun p=>(grO (sidesB m lo hi) p).getD [],())else .inl ([],false)):=by
  intro r
  induction r with
  | nil =>
   intro d hd
   refine Evt.step (fun k n=>spec_vaJacobian_L58.eq_2 k _ _ _ _ _ n) ?_
   rw [List.append_nil]at hd
   subst hd
   exact Evt.rng0 .pure
  | cons e r ih =>
   intro d hd
   have hxl:=congrArg List.length hd
   simp at hxl
   have ih:=ih (d ++ [e]) (by simpa using hd)
   rw [←len_next (r:=r) (by rw [hd];simp only [lenB];omega),List.map_append]at ih
   refine Evt.step (fun k n=>spec_vaJacobian_L58.eq_2 k _ _ _ _ _ n) ?_
   have g:s.getD (Int.toNat (d.length:Int)) []=e:=by rw [←hd];exact mid_get
   rw [g]
   refine Evt.ctrue (by rw [←hd];exact mid_lt) (Evt.ctrue mid_ge (Evt.ctrue (by rw [←hd];exact mid_lt) (Evt.bind (vaSides_ev h) (Evt.bind (vaGradient_ev (h.po e (by rw [←hd];simp)) (sidesB_iv h) (by omega)) ?_))))
   cases hv:grO (sidesB m lo hi) e with
   | none =>
    simp only [List.all_cons,hv,Option.isSome_none,Bool.false_and]
    exact Evt.ctrue rfl .pure
   | some v =>
    simp only [List.map_cons,List.map_nil,hv]at ih
    simp only [List.all_cons,hv,Option.isSome_some,Bool.true_and]
    exact Evt.cfalse rfl (Evt.ctrue (by simp;omega) ih)
 have h0:=key s [] rfl
 simp only [List.map_nil,List.length_nil]at h0
 unfold jaO allO
 cases ha:s.all fun p=>(grO (sidesB m lo hi) p).isSome with
 | true=>rw [ha]at h0;exact Evt.inr (Evt.diag h0) .pure
 | false=>rw [ha]at h0;exact Evt.inl (Evt.diag h0) .pure
theorem jacobianOver_ev{s:List (List Tm)}{m:Nat}{lo hi:List Int}(h:NwOk s m lo hi):Evt (fun k _=>impl_jacobianOver k s ((m:Int),lo,hi)) (oL (jaO (sidesB m lo hi) s)):=by
 refine Evt.eq (f:=fun k q=>_) ?_ (fun k q=>by rw [impl_jacobianOver])
 have hsl:=sidesB_len h
 have hn:=h.n1
 have hss:=h.sl
 have key:∀(r d:List (List Tm)),d++r=s→Evt (fun k n=>impl_jacobianOver_L58 k n ((m:Int),lo,hi) (d.map fun p=>(grO (sidesB m lo hi) p).getD []) s (s.length:Int) d.length) (if (r.all fun p=>(grO (sidesB m lo hi) p).isSome)then .inr (s.map fun p=>(grO (sidesB m lo hi) p).getD [],())else .inl ([],false)):=by
  intro r
  induction r with
  | nil =>
   intro d hd
   refine Evt.step (fun k n=>impl_jacobianOver_L58.eq_2 k _ _ _ _ _ n) ?_
   rw [List.append_nil]at hd
   subst hd
   exact Evt.rng0 .pure
  | cons e r ih =>
   intro d hd
   have hxl:=congrArg List.length hd
   simp at hxl
   have ih:=ih (d ++ [e]) (by simpa using hd)
   rw [←len_next (r:=r) (by rw [hd];simp only [lenB];omega),List.map_append]at ih
   refine Evt.step (fun k n=>impl_jacobianOver_L58.eq_2 k _ _ _ _ _ n) ?_
   have g:s.getD (Int.toNat (d.length:Int)) []=e:=by rw [←hd];exact mid_get
   rw [g]
   refine Evt.ctrue (by rw [←hd];exact mid_lt) (Evt.ctrue mid_ge (Evt.ctrue (by rw [←hd];exact mid_lt) (Evt.bind (gradientOver_ev h (h.po e (by rw [←hd];simp))) ?_)))
   cases hv:grO (sidesB m lo hi) e with
   | none =>
    simp only [List.all_cons,hv,Option.isSome_none,Bool.false_and]
    exact Evt.ctrue rfl .pure
   | some v =>
    simp only [List.map_cons,List.map_nil,hv]at ih
    simp only [List.all_cons,hv,Option.isSome_some,Bool.true_and]
    exact Evt.cfalse rfl (Evt.ctrue (by simp;omega) ih)
 have h0:=key s [] rfl
 simp only [List.map_nil,List.length_nil]at h0
 unfold jaO allO
 cases ha:s.all fun p=>(grO (sidesB m lo hi) p).isSome with
 | true=>rw [ha]at h0;exact Evt.inr (Evt.diag h0) .pure
 | false=>rw [ha]at h0;exact Evt.inl (Evt.diag h0) .pure
end Go.Ev.G

namespace Go.Ev.G
open Go Go.Ev
set_option maxRecDepth 100000

def hfO(i:Iv):Option (Int×Int):=if (halfD i.1 i.2).2 then some (halfD i.1 i.2).1 else none
def rmO(row:List Iv):Option Pt:=allO hfO (0,0) row
def miO(J:List (List Iv)):Option (List Pt):=allO rmO [] J
theorem allO_some{α β:Type}{g:α→Option β}{z:β}{l:List α}{m:List β}(h:allO g z l=some m):m=l.map (fun x=>(g x).getD z)∧∀x∈l,(g x).isSome=true:=by
 unfold allO at h
 split at h
 ·rename_i ha
  cases h
  exact⟨rfl,List.all_eq_true.1 ha⟩
 ·cases h
theorem allO_len{α β:Type}{g:α→Option β}{z:β}{l:List α}{m:List β}(h:allO g z l=some m):m.length=l.length:=by
 rw [(allO_some h).1,List.length_map]
theorem allO_mem{α β:Type}{g:α→Option β}{z:β}{l:List α}{m:List β}(h:allO g z l=some m):∀y∈m,∃x∈l,g x=some y:=by
 obtain⟨h1,h2⟩:=allO_some h
 subst h1
 intro y hy
 obtain⟨x,hx,rfl⟩:=List.mem_map.1 hy
 refine⟨x,hx,?_⟩
 have:=h2 x hx
 cases hg:g x with
 | none=>rw [hg]at this;cases this
 | some v=>rfl
theorem jaO_ok{s:List (List Tm)}{m:Nat}{lo hi:List Int}(h:NwOk s m lo hi){J:List (List Iv)}(hJ:jaO (sidesB m lo hi) s=some J):J.length=lo.length∧∀r∈J,r.length=lo.length∧∀x∈r,ivGd x:=by
 refine⟨by rw [allO_len hJ,h.sl],fun r hr => ?_⟩
 obtain⟨p,hp,hg⟩:=allO_mem hJ r hr
 refine⟨by rw [allO_len hg,List.length_range,sidesB_len h],fun x hx => ?_⟩
 obtain⟨i,_,hv⟩:=allO_mem hg x hx
 exact valO_iv (dV_W (h.po p hp)) hv

theorem nwMiddle_ev{J:List (List Iv)}(hJ:J.length≤3)(hr:∀r∈J,r.length≤3∧∀x∈r,ivGd x):Evt (fun k _=>spec_nwMiddle k J) (oL (miO J)):=by
 refine Evt.eq (f:=fun k q=>_) ?_ (fun k q=>by rw [spec_nwMiddle])
 have inner:∀(row:List Iv) (x4:List Pt) (x12:List (List Iv)) (x13 x14:Int),row.length≤3→(∀x∈row,ivGd x)→∀(r d:List Iv),d++r=row →
   Evt (fun k n=>spec_nwMiddle_L59802 k n x4 (d.map fun i=>(hfO i).getD (0,0)) x12 x13 x14 row (row.length:Int) d.length) (if (r.all fun i=>(hfO i).isSome)then .inr (x4,row.map fun i=>(hfO i).getD (0,0),x12,x13,x14,())else .inl ([],false)):=by
  intro row x4 x12 x13 x14 hl hg r
  induction r with
  | nil =>
   intro d h
   refine Evt.step (fun k n=>spec_nwMiddle_L59802.eq_2 k _ _ _ _ _ _ _ _ n) ?_
   rw [List.append_nil]at h
   subst h
   exact Evt.rng0 .pure
  | cons e r ih =>
   intro d h
   have hxl:=congrArg List.length h
   simp at hxl
   have ih:=ih (d ++ [e]) (by simpa using h)
   rw [←len_next (r:=r) (by rw [h];simp only [lenB];omega),List.map_append]at ih
   have he:=hg e (by rw [←h];simp)
   have g:row.getD (Int.toNat (d.length:Int)) ((0,0),0,0)=e:=by rw [←h];exact mid_get
   refine Evt.step (fun k n=>spec_nwMiddle_L59802.eq_2 k _ _ _ _ _ _ _ _ n) ?_
   rw [g]
   refine Evt.ctrue (by rw [←h];exact mid_lt) (Evt.ctrue mid_ge (Evt.ctrue (by rw [←h];exact mid_lt) (Evt.bind (dyHalf_ev he.1 he.2.1) ?_)))
   cases hh:(halfD e.1 e.2).2 with
   | false =>
    have ho:hfO e=none:=by unfold hfO;rw [hh];rfl
    simp only [List.all_cons,ho,Option.isSome_none,Bool.false_and]
    exact Evt.ctrue rfl .pure
   | true =>
    have ho:hfO e=some (halfD e.1 e.2).1:=by unfold hfO;rw [hh];rfl
    simp only [List.map_cons,List.map_nil,ho]at ih
    simp only [List.all_cons,ho,Option.isSome_some,Bool.true_and]
    exact Evt.cfalse rfl (Evt.ctrue (by simp;omega) ih)
 have key:∀(r d:List (List Iv)),d++r=J→Evt (fun k n=>spec_nwMiddle_L58 k n (d.map fun r=>(rmO r).getD []) J (J.length:Int) d.length) (if (r.all fun r=>(rmO r).isSome)then .inr (J.map fun r=>(rmO r).getD [],())else .inl ([],false)):=by
  intro r
  induction r with
  | nil =>
   intro d h
   refine Evt.step (fun k n=>spec_nwMiddle_L58.eq_2 k _ _ _ _ n) ?_
   rw [List.append_nil]at h
   subst h
   exact Evt.rng0 .pure
  | cons e r ih =>
   intro d h
   have hxl:=congrArg List.length h
   simp at hxl
   have ih:=ih (d ++ [e]) (by simpa using h)
   rw [←len_next (r:=r) (by rw [h];simp only [lenB];omega),List.map_append]at ih
   obtain⟨hel,heg⟩:=hr e (by rw [←h];simp)
   have g:J.getD (Int.toNat (d.length:Int)) []=e:=by rw [←h];exact mid_get
   refine Evt.step (fun k n=>spec_nwMiddle_L58.eq_2 k _ _ _ _ n) ?_
   rw [g]
   have hi:=inner e (d.map fun r=>(rmO r).getD []) J (J.length:Int) (d.length:Int) hel heg e [] rfl
   simp only [List.map_nil,List.length_nil]at hi
   refine Evt.ctrue (by rw [←h];exact mid_lt) (Evt.ctrue mid_ge (Evt.ctrue (by rw [←h];exact mid_lt) ?_))
   cases ha:e.all fun i=>(hfO i).isSome with
   | false =>
    have ho:rmO e=none:=by unfold rmO allO;rw [ha];rfl
    rw [ha]at hi
    simp only [List.all_cons,ho,Option.isSome_none,Bool.false_and]
    exact Evt.inl (Evt.diag hi) .pure
   | true =>
    have ho:rmO e=some (e.map fun i=>(hfO i).getD (0,0)):=by unfold rmO allO;rw [ha];rfl
    rw [ha]at hi
    simp only [List.map_cons,List.map_nil,ho]at ih
    simp only [List.all_cons,ho,Option.isSome_some,Bool.true_and]
    exact Evt.inr (Evt.diag hi) (Evt.ctrue (by simp;omega) ih)
 have h0:=key J [] rfl
 simp only [List.map_nil,List.length_nil]at h0
 unfold miO allO
 cases ha:J.all fun r=>(rmO r).isSome with
 | true=>rw [ha]at h0;exact Evt.inr (Evt.diag h0) .pure
 | false=>rw [ha]at h0;exact Evt.inl (Evt.diag h0) .pure

theorem keep_val(c:Bool)(x:Int×Int)(ok:Bool):∃v,impl_reckoner_keep c x ok=some (v,c&&ok)∧(c=true→ok=true→v=x):=by
 cases c with
 | false=>exact⟨(0,0),rfl,fun h=>by cases h⟩
 | true =>
  cases ok with
  | false=>exact⟨(0,0),rfl,fun _ h=>by cases h⟩
  | true=>exact⟨x,rfl,fun _ _=>rfl⟩

theorem middleJacobian_ev{s:List (List Tm)}{m:Nat}{lo hi:List Int}(h:NwOk s m lo hi):Evt (fun k _=>impl_middleJacobian k s ((m:Int),lo,hi)) (oL ((jaO (sidesB m lo hi) s).bind miO)):=by
 refine Evt.eq (f:=fun k q=>_) ?_ (fun k q=>by rw [impl_middleJacobian])
 refine Evt.bind (jacobianOver_ev h) ?_
 cases hj:jaO (sidesB m lo hi) s with
 | none=>exact Evt.ctrue rfl .pure
 | some J =>
 obtain⟨hJ,hr⟩:=jaO_ok h hj
 have hn:=h.n1
 refine Evt.cfalse rfl ?_
 simp only [oL,Option.bind_some]
 have inner:∀(row:List Iv) (x9:List Pt) (x25:List (List Iv)) (x26 x27:Int),row.length≤3→(∀x∈row,ivGd x)→∀(b0:Bool) (r d:List Iv) (c:Bool) (o:Pt),d++r=row→Flag hfO (0,0) b0 d c o →
   ∃c' o',Flag hfO (0,0) b0 row c' o'∧Evt (fun k n=>impl_middleJacobian_L518554 k n c x9 o x25 x26 x27 row (row.length:Int) d.length) (.inr (c',x9,o',x25,x26,x27,())):=by
  intro row x9 x25 x26 x27 hl hg b0 r
  induction r with
  | nil =>
   intro d c o h hf
   rw [List.append_nil]at h
   subst h
   exact⟨c,o,hf,Evt.step (fun k n=>impl_middleJacobian_L518554.eq_2 k _ _ _ _ _ _ _ _ _ n) (Evt.cfalse (by simp) .pure)⟩
  | cons e r ih =>
   intro d c o h hf
   have hxl:=congrArg List.length h
   simp at hxl
   have he:=hg e (by rw [←h];simp)
   obtain⟨v,hv,hvx⟩:=keep_val c (halfD e.1 e.2).1 (halfD e.1 e.2).2
   have e1:(hfO e).isSome=(halfD e.1 e.2).2:=by unfold hfO;cases (halfD e.1 e.2).2 <;> rfl
   have hst:=Flag.step (e:=e) (v:=v) hf (by
    intro hc hs
    rw [e1]at hs
    rw [hvx hc hs]
    unfold hfO
    rw [if_pos hs])
   rw [e1]at hst
   obtain⟨c',o',q1,q2⟩:=ih (d ++ [e]) _ _ (by simpa using h) hst
   refine⟨c',o',q1,Evt.step (fun k n=>impl_middleJacobian_L518554.eq_2 k _ _ _ _ _ _ _ _ _ n) ?_⟩
   rw [←len_next (r:=r) (by rw [h];simp only [lenB];omega)]at q2
   have g:row.getD (Int.toNat (d.length:Int)) ((0,0),0,0)=e:=by rw [←h];exact mid_get
   have hol:=hf.1
   rw [g]
   exact Evt.ctrue (by rw [←h];exact mid_lt) (Evt.ctrue mid_ge (Evt.ctrue (by rw [←h];exact mid_lt) (Evt.bind (middleOf_ev he.1 he.2.1) (Evt.bind (.const hv) (Evt.ctrue (by simp;omega) q2)))))
 have key:∀(r d:List (List Iv)) (c:Bool) (o:List Pt),d++r=J→Flag rmO [] true d c o →
   ∃c' o',Flag rmO [] true J c' o'∧Evt (fun k n=>impl_middleJacobian_L506 k n c o J (J.length:Int) d.length) (.inr (c',o',())):=by
  intro r
  induction r with
  | nil =>
   intro d c o h hf
   rw [List.append_nil]at h
   subst h
   exact⟨c,o,hf,Evt.step (fun k n=>impl_middleJacobian_L506.eq_2 k _ _ _ _ _ n) (Evt.cfalse (by simp) .pure)⟩
  | cons e r ih =>
   intro d c o h hf
   have hxl:=congrArg List.length h
   simp at hxl
   obtain⟨hel,heg⟩:=hr e (by rw [←h];simp)
   obtain⟨c1,o1,⟨f1,f2,f3⟩,q0⟩:=inner e o J (J.length:Int) (d.length:Int) (by omega) heg c e [] c [] rfl Flag.nil
   simp only [List.length_nil]at q0
   have hst:=Flag.step (e:=e) (v:=o1) hf (by
    intro hc hs
    subst hc
    unfold rmO allO at hs ⊢
    split at hs
    ·rename_i hall
     rw [if_pos hall,←f3 (by rw [f2,hall];rfl)]
    ·cases hs)
   have e2:(c&&(rmO e).isSome)=c1:=by
    rw [f2]
    unfold rmO allO
    cases e.all fun i=>(hfO i).isSome <;> rfl
   rw [e2]at hst
   obtain⟨c',o',q1,q2⟩:=ih (d ++ [e]) c1 (o ++ [o1]) (by simpa using h) hst
   refine⟨c',o',q1,Evt.step (fun k n=>impl_middleJacobian_L506.eq_2 k _ _ _ _ _ n) ?_⟩
   rw [←len_next (r:=r) (by rw [h];simp only [lenB];omega)]at q2
   have hol:=hf.1
   have g:J.getD (Int.toNat (d.length:Int)) []=e:=by rw [←h];exact mid_get
   rw [g]
   exact Evt.ctrue (by rw [←h];exact mid_lt) (Evt.ctrue mid_ge (Evt.ctrue (by rw [←h];exact mid_lt) (Evt.inr (Evt.diag q0) (Evt.ctrue (by simp;omega) q2))))
 obtain⟨c',o',⟨f1,f2,f3⟩,q2⟩:=key J [] true [] rfl Flag.nil
 rw [Bool.true_and]at f2
 simp only [List.length_nil]at q2
 refine Evt.inr (Evt.diag q2) ?_
 unfold miO allO
 rw [←f2]
 cases c' with
 | true=>rw [←f3 rfl];exact Evt.cfalse rfl .pure
 | false=>exact Evt.ctrue rfl .pure

end Go.Ev.G

namespace Go.Ev.G
open Go Go.Ev
set_option maxRecDepth 100000

def adW:Nat→List Pt→List Pt×Bool
 | 0,_=>([[(1,0)]],true)
 | n+1,m=>adjV n m
theorem spec_adW{n:Nat}{m:List Pt}(hn:n≤2)(h:sq gd (n+1) m):Evt (fun k _=>spec_mxAdjoint k m) (adW n m):=by
 cases n with
 | zero =>
  have h1:=h.1
  refine Evt.eq (f:=fun k q=>_) ?_ (fun k q=>by rw [spec_mxAdjoint])
  exact Evt.ctrue (by rw [h1];rfl) (Evt.bind (a:=(1,0)) (.const rfl) .pure)
 | succ n=>exact spec_adjoint_ev (by omega) h
theorem impl_adW{n:Nat}{m:List Pt}(hn:n≤2)(h:sq gd (n+1) m):Evt (fun k _=>impl_adjoint k m) (adW n m):=by
 cases n with
 | zero =>
  have h1:=h.1
  refine Evt.eq (f:=fun k q=>_) ?_ (fun k q=>by rw [impl_adjoint])
  exact Evt.ctrue (by rw [h1];rfl) (Evt.bind (a:=(1,0)) (.const rfl) .pure)
 | succ n=>exact impl_adjoint_ev (by omega) h
theorem adW_ok{n:Nat}{m:List Pt}(hn:n≤2)(h:sq gd (n+1) m):(adW n m).1.length≤3∧∀r∈(adW n m).1,r.length≤3∧∀x∈r,gd x:=by
 cases n with
 | zero =>
  refine⟨by simp [adW],fun r hr => ?_⟩
  simp only [adW,List.mem_singleton]at hr
  subst hr
  refine⟨by simp,fun x hx => ?_⟩
  simp only [List.mem_singleton]at hx
  subst hx
  exact gd_int (n:=1) (by omega)
 | succ n =>
  show(adjV n m).1.length≤3∧∀r∈(adjV n m).1,r.length≤3∧∀x∈r,gd x
  unfold adjV
  split
  ·rename_i hall
   refine⟨by simp;omega,fun r hr => ?_⟩
   obtain⟨i,hi,rfl⟩:=List.mem_map.1 hr
   have hs:=List.all_eq_true.1 hall i hi
   have hil:=List.mem_range.1 hi
   unfold adjRow at hs ⊢
   split at hs
   ·rename_i ha
    rw [if_pos ha]
    refine⟨by simp [adjT];omega,fun x hx => ?_⟩
    obtain⟨o,ho,rfl⟩:=List.mem_map.1 hx
    have hos:=List.all_eq_true.1 ha o ho
    unfold adjT at ho
    obtain⟨c,hc,rfl⟩:=List.mem_map.1 ho
    have hcl:=List.mem_range.1 hc
    cases hd:detO n (partV m c i)with
    | none=>rw [hd]at hos;cases hos
    | some t =>
     simp only [Option.map_some,Option.getD_some]
     exact ngD_gd (detO_gd n _ t (sq_part h (by omega) (by omega)) hd)
   ·cases hs
  ·exact⟨by simp,by simp⟩

def dvO(d:Int×Int)(p:Nat)(x:Int×Int):Option (Int×Int):=if (mkD (quotV x.1 d.1 (d.2 - x.2+p)) p).2 then some (mkD (quotV x.1 d.1 (d.2 - x.2+p)) p).1 else none
def rwO(d:Int×Int)(p:Nat)(row:Pt):Option Pt:=allO (dvO d p) (0,0) row
def invV(n:Nat)(m:List Pt)(p:Nat):List Pt×Bool:=match detO n m with
 | none=>([],false)
 | some d=>if (adW n m).2 then(if d.1=0 then([],false)else oL (allO (rwO d p) [] (adW n m).1))else([],false)

theorem mxInverse_ev{n:Nat}{m:List Pt}{p:Nat}(hn:n≤2)(h:sq gd (n+1) m)(hp:p≤24):Evt (fun k _=>spec_mxInverse k m (p:Int)) (invV n m p):=by
 refine Evt.eq (f:=fun k q=>_) ?_ (fun k q=>by rw [spec_mxInverse])
 refine Evt.bind (spec_det_ev hn h) (Evt.bind (spec_adW hn h) ?_)
 obtain⟨al,ar⟩:=adW_ok hn h
 unfold invV
 cases hd:detO n m with
 | none=>exact Evt.ctrue rfl .pure
 | some d =>
 have hdg:=detO_gd n m d h hd
 refine Evt.cfalse rfl ?_
 cases ha:(adW n m).2 with
 | false=>exact Evt.ctrue rfl .pure
 | true =>
 refine Evt.cfalse rfl ?_
 dsimp only
 rw [if_pos rfl]
 simp only [oV]
 by_cases hz:d.1=0
 ·rw [if_pos hz]
  exact Evt.ctrue (beq_iff_eq.2 hz) .pure
 ·rw [if_neg hz]
  refine Evt.cfalse (beq_eq_false_iff_ne.2 hz) ?_
  generalize (adW n m).1=a at al ar ⊢
  have inner:∀(row:Pt) (x10 x39:List Pt) (x40 x41:Int),row.length≤3→(∀x∈row,gd x)→∀(r e:Pt),e++r=row →
    Evt (fun k n=>spec_mxInverse_L518554 k n (p:Int) d x10 (e.map fun i=>(dvO d p i).getD (0,0)) x39 x40 x41 row (row.length:Int) e.length) (if (r.all fun i=>(dvO d p i).isSome)then .inr ((p:Int),d,x10,row.map fun i=>(dvO d p i).getD (0,0),x39,x40,x41,())else .inl ([],false)):=by
   intro row x10 x39 x40 x41 hl hg r
   induction r with
   | nil =>
    intro e h
    refine Evt.step (fun k n=>spec_mxInverse_L518554.eq_2 k _ _ _ _ _ _ _ _ _ _ n) ?_
    rw [List.append_nil]at h
    subst h
    exact Evt.rng0 .pure
   | cons x r ih =>
    intro e h
    have hxl:=congrArg List.length h
    simp at hxl
    have ih:=ih (e ++ [x]) (by simpa using h)
    rw [←len_next (r:=r) (by rw [h];simp only [lenB];omega),List.map_append]at ih
    have hx:=hg x (by rw [←h];simp)
    have g:row.getD (Int.toNat (e.length:Int)) (0,0)=x:=by rw [←h];exact mid_get
    refine Evt.step (fun k n=>spec_mxInverse_L518554.eq_2 k _ _ _ _ _ _ _ _ _ _ n) ?_
    rw [g]
    refine Evt.ctrue (by rw [←h];exact mid_lt) (Evt.ctrue mid_ge (Evt.ctrue (by rw [←h];exact mid_lt) (Evt.bind (dyDivide_ev hx hdg hz hp) ?_)))
    cases hh:(mkD (quotV x.1 d.1 (d.2 - x.2+p)) p).2 with
    | false =>
     have ho:dvO d p x=none:=by unfold dvO;rw [hh];rfl
     simp only [List.all_cons,ho,Option.isSome_none,Bool.false_and]
     exact Evt.ctrue rfl .pure
    | true =>
     have ho:dvO d p x=some (mkD (quotV x.1 d.1 (d.2 - x.2+p)) p).1:=by unfold dvO;rw [hh];rfl
     simp only [List.map_cons,List.map_nil,ho]at ih
     simp only [List.all_cons,ho,Option.isSome_some,Bool.true_and]
     exact Evt.cfalse rfl (Evt.ctrue (by simp;omega) ih)
  have key:∀(r e:List Pt),e++r=a→Evt (fun k n=>spec_mxInverse_L506 k n (p:Int) d (e.map fun r=>(rwO d p r).getD []) a (a.length:Int) e.length) (if (r.all fun r=>(rwO d p r).isSome)then .inr (a.map fun r=>(rwO d p r).getD [],())else .inl ([],false)):=by
   intro r
   induction r with
   | nil =>
    intro e h
    refine Evt.step (fun k n=>spec_mxInverse_L506.eq_2 k _ _ _ _ _ _ n) ?_
    rw [List.append_nil]at h
    subst h
    exact Evt.rng0 .pure
   | cons x r ih =>
    intro e h
    have hxl:=congrArg List.length h
    simp at hxl
    have ih:=ih (e ++ [x]) (by simpa using h)
    rw [←len_next (r:=r) (by rw [h];simp only [lenB];omega),List.map_append]at ih
    obtain⟨hel,heg⟩:=ar x (by rw [←h];simp)
    have g:a.getD (Int.toNat (e.length:Int)) []=x:=by rw [←h];exact mid_get
    refine Evt.step (fun k n=>spec_mxInverse_L506.eq_2 k _ _ _ _ _ _ n) ?_
    rw [g]
    have hi:=inner x (e.map fun r=>(rwO d p r).getD []) a (a.length:Int) (e.length:Int) hel heg x [] rfl
    simp only [List.map_nil,List.length_nil]at hi
    refine Evt.ctrue (by rw [←h];exact mid_lt) (Evt.ctrue mid_ge (Evt.ctrue (by rw [←h];exact mid_lt) ?_))
    cases hall:x.all fun i=>(dvO d p i).isSome with
    | false =>
     have ho:rwO d p x=none:=by unfold rwO allO;rw [hall];rfl
     rw [hall]at hi
     simp only [List.all_cons,ho,Option.isSome_none,Bool.false_and]
     exact Evt.inl (Evt.diag hi) .pure
    | true =>
     have ho:rwO d p x=some (x.map fun i=>(dvO d p i).getD (0,0)):=by unfold rwO allO;rw [hall];rfl
     rw [hall]at hi
     simp only [List.map_cons,List.map_nil,ho]at ih
     simp only [List.all_cons,ho,Option.isSome_some,Bool.true_and]
     exact Evt.inr (Evt.diag hi) (Evt.ctrue (by simp;omega) ih)
  have h0:=key a [] rfl
  simp only [List.map_nil,List.length_nil]at h0
  unfold allO
  cases hall:a.all fun r=>(rwO d p r).isSome with
  | true=>rw [hall]at h0;exact Evt.inr (Evt.diag h0) .pure
  | false=>rw [hall]at h0;exact Evt.inl (Evt.diag h0) .pure

theorem roundedInverse_ev{n:Nat}{m:List Pt}{p:Nat}(hn:n≤2)(h:sq gd (n+1) m)(hp:p≤24):Evt (fun k _=>impl_roundedInverse k m (p:Int)) (invV n m p):=by
 refine Evt.eq (f:=fun k q=>_) ?_ (fun k q=>by rw [impl_roundedInverse])
 obtain⟨v,hv1,hv2,hv3⟩:=impl_det_ev hn h true
 refine Evt.bind hv3 (Evt.bind (impl_adW hn h) ?_)
 obtain⟨al,ar⟩:=adW_ok hn h
 unfold invV
 cases hd:detO n m with
 | none=>exact Evt.ctrue rfl .pure
 | some d =>
 have hdg:=detO_gd n m d h hd
 have hvd:v=d:=by
  have:=hv2 rfl (by rw [hd];rfl)
  rw [hd]at this
  cases this
  rfl
 subst hvd
 refine Evt.cfalse rfl ?_
 cases ha:(adW n m).2 with
 | false=>exact Evt.ctrue rfl .pure
 | true =>
 refine Evt.cfalse rfl ?_
 dsimp only
 rw [if_pos rfl]
 by_cases hz:v.1=0
 ·rw [if_pos hz]
  exact Evt.ctrue (beq_iff_eq.2 hz) .pure
 ·rw [if_neg hz]
  refine Evt.cfalse (beq_eq_false_iff_ne.2 hz) ?_
  generalize (adW n m).1=a at al ar ⊢
  have inner:∀(row:Pt) (A R:List Pt) (x39 x40:Int),row.length≤3→(∀x∈row,gd x)→∀(b0:Bool) (r e:Pt) (c:Bool) (o:Pt),e++r=row→Flag (dvO v p) (0,0) b0 e c o →
    ∃c' o',Flag (dvO v p) (0,0) b0 row c' o'∧Evt (fun k n=>impl_roundedInverse_L129638 k n () () A.length (p:Int) c v (A++(o++r)::R) x39 x40 (row.length:Int) e.length) (.inr ((),(p:Int),c',v,A++o'::R,x39,x40,())):=by
   intro row A R x39 x40 hl hg b0 r
   induction r with
   | nil =>
    intro e c o h hf
    rw [List.append_nil]at h
    subst h
    refine⟨c,o,hf,Evt.step (fun k n=>impl_roundedInverse_L129638.eq_2 k _ _ _ _ _ _ _ _ _ _ _ n) ?_⟩
    rw [List.append_nil]
    exact Evt.cfalse (by simp) .pure
   | cons x r ih =>
    intro e c o h hf
    have hxl:=congrArg List.length h
    simp at hxl
    have hx:=hg x (by rw [←h];simp)
    have hol:=hf.1
    obtain⟨w,hw,hwx⟩:=keep_val c (mkD (quotV x.1 v.1 (v.2 - x.2+p)) p).1 (mkD (quotV x.1 v.1 (v.2 - x.2+p)) p).2
    have e1:(dvO v p x).isSome=(mkD (quotV x.1 v.1 (v.2 - x.2+p)) p).2:=by unfold dvO;cases (mkD (quotV x.1 v.1 (v.2 - x.2+p)) p).2 <;> rfl
    have hst:=Flag.step (e:=x) (v:=w) hf (by
     intro hc hs
     rw [e1]at hs
     rw [hwx hc hs]
     unfold dvO
     rw [if_pos hs])
    rw [e1]at hst
    obtain⟨c',o',q1,q2⟩:=ih (e ++ [x]) _ _ (by simpa using h) hst
    refine⟨c',o',q1,Evt.step (fun k n=>impl_roundedInverse_L129638.eq_2 k _ _ _ _ _ _ _ _ _ _ _ n) ?_⟩
    rw [←len_next (r:=r) (by rw [h];simp only [lenB];omega)]at q2
    have gr:(A++(o++x::r)::R).getD A.length []=o++x::r:=by simp
    have hoe:(e.length:Int)=(o.length:Int):=by omega
    have gx:(o++x::r).getD (Int.toNat (e.length:Int)) (0,0)=x:=by rw [hoe];exact mid_get
    have sx:(A++(o++x::r)::R).set A.length ((o++x::r).set (Int.toNat (e.length:Int)) w)=A++((o ++ [w])++r)::R:=by rw [hoe,mid_set];simp
    have lr:(o++x::r).length=row.length:=by simp;omega
    have wk:IntKind.wrap .i64 (v.2 - x.2)=v.2 - x.2:=by
     obtain⟨a1,a2,_⟩:=hdg
     obtain⟨b1,b2,_⟩:=hx
     exact w64 (by omega) (by omega)
    have hq:=quotientDown_ev (n:=x.1) (k:=v.2 - x.2) (d:=v.1) (p:=p) ⟨hx.2.2.1,hx.2.2.2.1⟩ ⟨hdg.2.2.1,hdg.2.2.2.1⟩ hz (by
     obtain⟨a1,a2,_⟩:=hdg
     obtain⟨b1,b2,_⟩:=hx
     omega) hp
    rw [gr,gx,lr,wk]
    have c0:decide ((e.length:Int)<(row.length:Int))=true:=decide_eq_true (by omega)
    refine Evt.ctrue c0 (Evt.ctrue mid_ge (Evt.ctrue c0 (Evt.bind hq (Evt.bind (.const hw) (Evt.ctrue mid_ge (Evt.ctrue c0 ?_))))))
    dsimp only
    rw [sx]
    exact q2
  have key:∀(r e:List Pt) (c:Bool) (o:List Pt),e++r=a→Flag (rwO v p) [] true e c o →
    ∃c' o',Flag (rwO v p) [] true a c' o'∧Evt (fun k n=>impl_roundedInverse_L506 k n () (p:Int) c v (o++r) (a.length:Int) e.length) (.inr (c',o',())):=by
   intro r
   induction r with
   | nil =>
    intro e c o h hf
    rw [List.append_nil]at h
    subst h
    refine⟨c,o,hf,Evt.step (fun k n=>impl_roundedInverse_L506.eq_2 k _ _ _ _ _ _ _ n) ?_⟩
    rw [List.append_nil]
    exact Evt.cfalse (by simp) .pure
   | cons x r ih =>
    intro e c o h hf
    have hxl:=congrArg List.length h
    simp at hxl
    obtain⟨hel,heg⟩:=ar x (by rw [←h];simp)
    have hol:=hf.1
    obtain⟨c1,o1,⟨f1,f2,f3⟩,q0⟩:=inner x o r (a.length:Int) (e.length:Int) (by omega) heg c x [] c [] rfl Flag.nil
    simp only [List.length_nil,List.nil_append]at q0
    have hst:=Flag.step (e:=x) (v:=o1) hf (by
     intro hc hs
     subst hc
     unfold rwO allO at hs ⊢
     split at hs
     ·rename_i hall
      rw [if_pos hall,←f3 (by rw [f2,hall];rfl)]
     ·cases hs)
    have e2:(c&&(rwO v p x).isSome)=c1:=by
     rw [f2]
     unfold rwO allO
     cases x.all fun i=>(dvO v p i).isSome <;> rfl
    rw [e2]at hst
    obtain⟨c',o',q1,q2⟩:=ih (e ++ [x]) c1 (o ++ [o1]) (by simpa using h) hst
    refine⟨c',o',q1,Evt.step (fun k n=>impl_roundedInverse_L506.eq_2 k _ _ _ _ _ _ _ n) ?_⟩
    rw [←len_next (r:=r) (by rw [h];simp only [lenB];omega)]at q2
    have hoe:(e.length:Int)=(o.length:Int):=by omega
    have gx:(o++x::r).getD (Int.toNat (e.length:Int)) []=x:=by rw [hoe];exact mid_get
    have hn2:Int.toNat (e.length:Int)=o.length:=by omega
    have lo:((o++x::r).length:Int)=(a.length:Int):=by simp;omega
    rw [gx]
    rw [hn2]
    have q3:o ++ [o1]++r=o++o1::r:=by simp
    rw [q3]at q2
    exact Evt.ctrue (decide_eq_true (by omega)) (Evt.ctrue mid_ge (Evt.ctrue (decide_eq_true (by omega)) (Evt.inr (Evt.diag q0) q2)))
  obtain⟨c',o',⟨f1,f2,f3⟩,q2⟩:=key a [] true [] rfl Flag.nil
  rw [Bool.true_and]at f2
  simp only [List.length_nil,List.nil_append]at q2
  refine Evt.inr (Evt.diag q2) ?_
  unfold allO
  rw [←f2]
  cases c' with
  | true=>rw [←f3 rfl];exact Evt.cfalse rfl .pure
  | false=>exact Evt.ctrue rfl .pure
end Go.Ev.G

namespace Go.Ev.G
open Go Go.Ev
set_option maxRecDepth 100000

theorem miO_sq{s:List (List Tm)}{m:Nat}{lo hi:List Int}(h:NwOk s m lo hi){J:List (List Iv)}{M:List Pt}(hJ:jaO (sidesB m lo hi) s=some J)(hM:miO J=some M):sq gd (lo.length - 1+1) M:=by
 obtain⟨j1,j2⟩:=jaO_ok h hJ
 have hn:=h.n1
 have e:lo.length - 1+1=lo.length:=by omega
 rw [e]
 refine⟨by rw [allO_len hM];exact j1,fun r hr => ?_⟩
 obtain⟨x,hx,hg⟩:=allO_mem hM r hr
 refine⟨by rw [allO_len hg];exact(j2 x hx).1,fun y hy => ?_⟩
 obtain⟨i,_,hi⟩:=allO_mem hg y hy
 unfold hfO at hi
 split at hi
 ·cases hi
  exact halfD_gd _ _
 ·cases hi
theorem inverseJacobian_ev{s:List (List Tm)}{m:Nat}{lo hi:List Int}(hN:NwOk s m lo hi):Evt (fun k _=>impl_inverseJacobian k s ((m:Int),lo,hi)) (match (jaO (sidesB m lo hi) s).bind miO with
 | some M=>invV (lo.length - 1) M 8
 | none=>([],false)):=by
 have hn:=hN.n1
 refine Evt.eq (f:=fun k q=>_) ?_ (fun k q=>by rw [impl_inverseJacobian])
 have hmid:=middleJacobian_ev hN
 cases hj:jaO (sidesB m lo hi) s with
 | none =>
  rw [hj]at hmid
  exact Evt.bind hmid (Evt.ctrue rfl .pure)
 | some J =>
  rw [hj]at hmid
  simp only [Option.bind_some]at hmid ⊢
  cases hM:miO J with
  | none =>
   rw [hM]at hmid
   exact Evt.bind hmid (Evt.ctrue rfl .pure)
  | some M =>
   rw [hM]at hmid
   have hinv:=roundedInverse_ev (p:=8) (show lo.length - 1≤2 by omega) (miO_sq hN hj hM) (by omega)
   exact Evt.bind hmid (Evt.cfalse rfl (Evt.bind hinv .pure))
end Go.Ev.G

