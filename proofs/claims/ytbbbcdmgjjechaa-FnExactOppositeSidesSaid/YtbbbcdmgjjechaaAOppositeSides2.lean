/- What the plain functions of the law compute, for all inputs within the sizes that the theorems name. -/
import Derived.Test.YtbbbcdmgjjechaaPOppositeSides1
import Derived.Test.YtbbbcdmgjjechaaAOppositeSides1
set_option linter.unusedVariables false
namespace Go.Ev.G
open Go Go.Ev
set_option maxRecDepth 100000

theorem zip_bd{P:Int→Int→Prop}{lo hi:List Int}(hl:hi.length=lo.length)(h:∀p∈lo.zip hi,P p.1 p.2):∀i,i<lo.length→P (lo.getD i 0) (hi.getD i 0):=by
 intro i hi2
 have hz:i<(lo.zip hi).length:=by simp;omega
 have:=h _ (List.getElem_mem hz)
 rw [List.getElem_zip]at this
 rw [List.getD_eq_getElem?_getD,List.getD_eq_getElem?_getD,List.getElem?_eq_getElem hi2,List.getElem?_eq_getElem (by omega)]
 exact this
def beV(p:List Tm)(b:Bx):Bool:=polyV p&&(bxV b&&(decide (b.1≤4) && !needs b.2.1.length p))
theorem needs_loop{p:List Tm}(hb:p.length<lenB):∀(r i:Nat),i+r=3→Evt (fun k n=>spec_beAsked_L58 k n p (i:Int)) (if needs i p then .inl false else .inr ()):=by
 intro r
 induction r with
 | zero =>
  intro i h
  have:i=3:=by omega
  subst this
  have e:needs 3 p=false:=by simp [needs]
  rw [e]
  refine Evt.step (fun k n=>spec_beAsked_L58.eq_2 k _ _ n) ?_
  exact Evt.cfalse (by decide) .pure
 | succ r ih =>
  intro i h
  have ih:=ih (i+1) (by omega)
  rw [←w64_next (m:=i) (by simp only [lenB];omega)]at ih
  have e:needs i p=(big p i||needs (i+1) p):=by
   rcases(by omega:i=0∨i=1∨i=2)with rfl | rfl | rfl <;> simp [needs]
  have e2:decide (degV i (-1) p>0)=big p i:=by rw [degV_pos];rfl
  refine Evt.step (fun k n=>spec_beAsked_L58.eq_2 k _ _ n) (Evt.ctrue (decide_eq_true (by omega)) (Evt.bind (degreeIn_ev hb) ?_))
  rw [e,e2]
  cases big p i with
  | true=>exact Evt.ctrue rfl .pure
  | false=>exact Evt.cfalse rfl ih
theorem bxV_n{b:Bx}(h:bxV b=true):1≤b.2.1.length∧b.2.1.length≤3:=by
 unfold bxV at h
 simp only [Bool.and_eq_true,decide_eq_true_eq]at h
 have:=h.2.1
 omega
theorem beAsked_ev{p:List Tm}{b:Bx}(hp:p.length<lenB)(hx:b.2.1.length<lenB):Evt (fun k _=>spec_beAsked k p b) (beV p b):=by
 refine Evt.eq (f:=fun k q=>_) ?_ (fun k q=>by rw [spec_beAsked])
 refine Evt.bind (poGood_ev hp) ?_
 unfold beV
 cases polyV p with
 | false=>exact Evt.ctrue rfl .pure
 | true =>
  refine Evt.cfalse rfl (Evt.bind (bxGood_ev hx) ?_)
  cases hv:bxV b with
  | false=>exact Evt.ctrue rfl .pure
  | true =>
   have hn:=bxV_n hv
   refine Evt.cfalse rfl ?_
   by_cases h4:b.1≤4
   ·rw [decide_eq_true h4]
    have hl:=needs_loop hp (3 - b.2.1.length) b.2.1.length (by omega)
    refine Evt.cfalse (decide_eq_false (by omega)) ?_
    cases hnd:needs b.2.1.length p with
    | true=>rw [hnd]at hl;exact Evt.inl (Evt.diag hl) .pure
    | false=>rw [hnd]at hl;exact Evt.inr (Evt.diag hl) .pure
   ·rw [decide_eq_false h4]
    exact Evt.ctrue (decide_eq_true (by omega)) .pure
theorem belongs_ev{p:List Tm}{b:Bx}(hp:p.length<lenB)(hx:b.2.1.length<lenB):Evt (fun k _=>impl_belongs k p b) (beV p b):=by
 refine Evt.eq (f:=fun k q=>_) ?_ (fun k q=>by rw [impl_belongs,impl_polyOver])
 unfold beV
 have h1:=isPoly_ev hp
 have h2:=isBox_ev hx
 have h3:=needsAtMost_ev (n:=b.2.1.length) hp
 cases hpv:polyV p with
 | false =>
  rw [hpv]at h1
  exact Evt.bind (Evt.bind h1 (Evt.cfalse rfl .pure)) (Evt.cfalse rfl .pure)
 | true =>
  rw [hpv]at h1
  cases hv:bxV b with
  | false =>
   rw [hv]at h2
   exact Evt.bind (Evt.bind h1 (Evt.ctrue rfl (Evt.bind h2 (Evt.cfalse rfl .pure)))) (Evt.cfalse rfl .pure)
  | true =>
   rw [hv]at h2
   refine Evt.bind (Evt.bind h1 (Evt.ctrue rfl (Evt.bind h2 (Evt.ctrue rfl (Evt.bind h3 .pure))))) ?_
   cases needs b.2.1.length p with
   | true =>
    rw [Bool.not_true,Bool.and_false]
    exact Evt.cfalse rfl .pure
   | false =>
    rw [Bool.not_false,Bool.and_true]
    exact Evt.ctrue rfl .pure
theorem box_form{b:Bx}(h:bxV b=true)(h4:b.1≤4):∃m:Nat,b=((m:Int),b.2.1,b.2.2)∧m≤4∧b.2.2.length=b.2.1.length∧∀i,i<b.2.1.length → -128≤b.2.1.getD i 0∧b.2.1.getD i 0<b.2.2.getD i 0∧b.2.2.getD i 0≤128:=by
 obtain⟨d8,los,his⟩:=b
 unfold bxV at h
 simp only [Bool.and_eq_true,decide_eq_true_eq,List.all_eq_true]at h
 obtain⟨g1,g2,g3,g4,_⟩:=h
 have h4:d8≤4:=h4
 refine⟨d8.toNat,by rw [Int.toNat_of_nonneg g1.1],by omega,g3,?_⟩
 refine zip_bd (P:=fun x y => -128≤x∧x<y∧y≤128) g3 (fun p hp => ?_)
 have hq:=g4 p hp
 unfold sideOk at hq
 have hq:=of_decide_eq_true hq
 have hp:(8:Int)*2 ^ d8.toNat≤128:=by
  have h1:(2:Nat) ^ d8.toNat≤2 ^ 4:=Nat.pow_le_pow_right (by omega) (by omega)
  have h2:((2:Int) ^ d8.toNat)=((2 ^ d8.toNat:Nat):Int):=by simp
  have:(2:Nat) ^ 4=16:=by decide
  rw [h2]
  omega
 omega
theorem beV_form{p:List Tm}{b:Bx}(h:beV p b=true):∃m:Nat,b=((m:Int),b.2.1,b.2.2)∧Bo p m b.2.1 b.2.2:=by
 unfold beV at h
 simp only [Bool.and_eq_true,decide_eq_true_eq,Bool.not_eq_true']at h
 obtain⟨h1,h2,h3,h4⟩:=h
 obtain⟨m,hb,hm,hl,hd⟩:=box_form h2 h3
 exact⟨m,hb,⟨h1,h4,bxV_n h2,hl,hm,hd⟩⟩
theorem szTermS_eq{x:List Tm}(hx:x.length≤maxLen){a:Nat}(ha:a≤1000000):laws_szTermS x a=some (if x.length≤a then((a - x.length:Nat):Int)else -1):=sz_one (fun _ _=>rfl) hx ha
end Go.Ev.G

namespace Go.Ev.G
open Go Go.Ev
set_option maxRecDepth 100000

def halfD(a b:Int×Int):(Int×Int)×Bool:=mkD (sumN a b) (exA a b+1)
theorem halfD_gd(a b:Int×Int):gd (halfD a b).1:=mkD_gd _ _
theorem EdOk.left{e:Ed}(h:EdOk e):EdOk (e.1,e.2.1,e.2.2.1,(halfD e.2.2.1 e.2.2.2).1):=⟨h.sd,h.a,h.f,halfD_gd _ _⟩
theorem EdOk.right{e:Ed}(h:EdOk e):EdOk (e.1,e.2.1,(halfD e.2.2.1 e.2.2.2).1,e.2.2.2):=⟨h.sd,h.a,halfD_gd _ _,h.t⟩
end Go.Ev.G

namespace Go.Ev.G
open Go Go.Ev
set_option maxRecDepth 100000

theorem markTermS_ev1{x:List Tm}{a:Nat}(h:a+4*x.length<lenB):∃y,Evt (fun k _=>laws_markTermS k x a) (((a+4*x.length:Nat):Int),y):=by
 obtain⟨y,h1,_⟩:=markTermS_only x a h
 exact⟨y,h1⟩
theorem frame_tbl{α W:Type}{a:List Tm}{b:Bx}{eqv:Nat→α→α→Option Bool}{mark:Nat→α→Int→Option (Int×W)}{held:Nat→W→Int→Option Int}{S I:Nat→List Tm→Bx→Option (α×Bool)}{v:α×Bool}{w:W}{N:Nat}(ha:a.length≤maxLen)(h1:b.2.1.length≤maxLen)(h2:b.2.2.length≤maxLen)
  (eqs:Evt (fun k _=>eqv k v.1 v.1) true) (hy1:Evt (fun k _=>mark k v.1 101) ((N:Int),w)) (hy2:Evt (fun k _=>held k w 101) (N:Int))
  (hS:a.length<lenB→b.2.1.length<lenB→Evt (fun k _=>S k a b) v) (hI:a.length<lenB→b.2.1.length<lenB→Evt (fun k _=>I k a b) v) :
  Evt (fun k _=>(Option.bind (laws_szTermS a 1000000) fun r1=>(bif (decide (r1<0))then some true else(Option.bind (laws_szBox b r1) fun r2=>(bif (decide (r2<0))then some true else(Option.bind (laws_toTermS k a false) fun r3=>(Option.bind (laws_toBox k b false) fun r4=>(Option.bind (S k r3.1 (r4.1,r4.2.1.1,r4.2.2.1)) fun r5=>(Option.bind (laws_toTermS k a false) fun r6=>(Option.bind (laws_toBox k b false) fun r7=>(Option.bind (I k r6.1 (r7.1,r7.2.1.1,r7.2.2.1)) fun r8=>(Option.bind (eqv k r8.1 r5.1) fun r9=>(bif (!r9)then some false else(bif (!(r8.2==r5.2))then some false else(Option.bind (laws_toTermS k a false) fun r10=>(Option.bind (laws_intactTermS k r6 r10) fun r11=>(bif (!r11)then some false else(Option.bind (laws_toBox k b false) fun r12=>(Option.bind (laws_intactBox k r7 r12) fun r13=>(bif (!r13)then some false else(Option.bind (laws_markTermS k r6.1 101) fun r14=>(Option.bind (laws_markBox k (r7.1,r7.2.1.1,r7.2.2.1) r14.1) fun r15=>(bif (decide (r15<0))then some false else(Option.bind (eqv k r8.1 r5.1) fun r16=>(bif (!r16)then some false else(bif (!(r8.2==r5.2))then some false else(Option.bind (mark k r8.1 101) fun r17=>(Option.bind (held k r17.2 101) fun r18=>(bif (decide (r18<0))then some false else(bif (r18 != r17.1)then some false else(Option.bind (laws_toTermS k a true) fun r19=>(Option.bind (laws_toBox k b true) fun r20=>(Option.bind (I k r19.1 (r20.1,r20.2.1.1,r20.2.2.1)) fun r21=>(Option.bind (eqv k r21.1 r5.1) fun r22=>(bif (!r22)then some false else(bif (!(r21.2==r5.2))then some false else(Option.bind (held k r17.2 101) fun r23=>(bif (decide (r23<0))then some false else(bif (r23 != r17.1)then some false else some true))))))))))))))))))))))))))))))))))))))) true:=by
 refine Evt.bind (.const (szTermS_eq (a:=1000000) ha (by omega))) ?_
 by_cases hz:a.length≤1000000
 ·rw [if_pos hz]
  refine Evt.cfalse (by simp <;> omega) (Evt.bind (.const (szBox_eq h1 h2 (by omega))) ?_)
  by_cases hy:b.2.1.length+b.2.2.length≤1000000 - a.length
  ·rw [if_pos hy]
   refine Evt.cfalse (by simp <;> omega) ?_
   have b1:b.2.1.length≤1000000:=by omega
   have b2:b.2.2.length≤1000000:=by omega
   have spec:=hS (by simp only [lenB];omega) (by simp only [lenB];omega)
   have impl:=hI (by simp only [lenB];omega) (by simp only [lenB];omega)
   obtain⟨z,hz1⟩:=markTermS_ev1 (x:=a) (a:=101) (by simp only [lenB];omega)
   have hb1:=markBox_ev (b:=b) (a:=101+4*a.length) (by simp only [lenB];omega)
   refine Evt.bind (toTermS_ev hz) (Evt.bind (toBox_ev b1 b2) ?_)
   simp only [toV_fst,boxR_eq]
   refine Evt.bind spec (Evt.bind (toTermS_ev hz) (Evt.bind (toBox_ev b1 b2) ?_))
   simp only [toV_fst,boxR_eq]
   refine Evt.bind impl (Evt.bind eqs (Evt.cfalse rfl (Evt.cfalse (by simp) (Evt.bind (toTermS_ev hz) (Evt.bind (intactTermS_ev (room_toV hz)) (Evt.cfalse rfl (Evt.bind (toBox_ev b1 b2) (Evt.bind (intactBox_ev b1 b2) (Evt.cfalse rfl (Evt.bind hz1 (Evt.bind hb1 (Evt.cfalse (by simp <;> omega) ?_))))))))))))
   refine Evt.bind eqs (Evt.cfalse rfl (Evt.cfalse (by simp) (Evt.bind hy1 (Evt.bind hy2 (Evt.cfalse (by simp <;> omega) (Evt.cfalse (by simp) (Evt.bind (toTermS_ev hz) (Evt.bind (toBox_ev b1 b2) ?_))))))))
   simp only [toV_fst,boxR_eq]
   exact Evt.bind impl (Evt.bind eqs (Evt.cfalse rfl (Evt.cfalse (by simp) (Evt.bind hy2 (Evt.cfalse (by simp <;> omega) (Evt.cfalse (by simp) .pure))))))
  ·rw [if_neg hy]
   exact Evt.ctrue rfl .pure
 ·rw [if_neg hz]
  exact Evt.ctrue rfl .pure

def opB(p:List Tm)(m:Nat)(lo hi:List Int)(i:Nat):Bool:=decide (faceV p m lo hi i false*faceV p m lo hi i true<0)
def opL(p:List Tm)(m:Nat)(lo hi:List Int):Nat→List Int
 | 0 => []
 | i+1=>if opB p m lo hi i then opL p m lo hi i ++ [(i:Int)]else opL p m lo hi i
theorem opL_len{p:List Tm}{m:Nat}{lo hi:List Int}:∀(i:Nat),(opL p m lo hi i).length≤i
 | 0=>by simp [opL]
 | i+1=>by
  have:=opL_len (p:=p) (m:=m) (lo:=lo) (hi:=hi) i
  rw [opL]
  split
  ·simp;omega
  ·omega
theorem face_mul{p:List Tm}{m:Nat}{lo hi:List Int}{i:Nat}:IntKind.wrap .i64 (faceV p m lo hi i false*faceV p m lo hi i true)=faceV p m lo hi i false*faceV p m lo hi i true:=by
 unfold faceV
 rcases sgnL_bd (bsV3 p m (flo lo hi i false) (fhi lo hi i false))with h | h | h <;> rcases sgnL_bd (bsV3 p m (flo lo hi i true) (fhi lo hi i true))with h' | h' | h' <;> rw [h,h'] <;> decide
theorem miOpposite_ev{p:List Tm}{m:Nat}{lo hi:List Int}(h:Bo p m lo hi){q:Nat}(hq:q<lo.length):Evt (fun k _=>spec_miOpposite k p ((m:Int),lo,hi) (q:Int)) (opB p m lo hi q):=by
 refine Evt.eq (f:=fun k q=>_) ?_ (fun k q=>by rw [spec_miOpposite])
 refine Evt.bind (miFace_ev h hq false) (Evt.bind (miFace_ev h hq true) ?_)
 rw [face_mul]
 exact .pure
theorem isOpposite_ev{p:List Tm}{m:Nat}{lo hi:List Int}(h:Bo p m lo hi){q:Nat}(hq:q<lo.length):Evt (fun k _=>impl_isOpposite k p ((m:Int),lo,hi) (q:Int)) (opB p m lo hi q):=by
 refine Evt.eq (f:=fun k q=>_) ?_ (fun k q=>by rw [impl_isOpposite])
 refine Evt.bind (faceSign_ev h hq false) (Evt.bind (faceSign_ev h hq true) ?_)
 rw [face_mul]
 exact .pure
theorem spec_opp_loop{p:List Tm}{m:Nat}{lo hi:List Int}(h:Bo p m lo hi):∀(r i:Nat),i+r=lo.length →
  Evt (fun k n=>spec_OppositeSides_L122 k n p ((m:Int),lo,hi) (opL p m lo hi i) (lo.length:Int) (i:Int)) (.inr (opL p m lo hi lo.length,())):=by
 intro r
 have hn:=h.n1
 induction r with
 | zero =>
  intro i hi2
  refine Evt.step (fun k n=>spec_OppositeSides_L122.eq_2 k _ _ _ _ _ n) ?_
  have:i=lo.length:=by omega
  subst this
  exact Evt.cfalse (decide_eq_false (by omega)) .pure
 | succ r ih =>
  intro i hi2
  have ih:=ih (i+1) (by omega)
  have hl:=opL_len (p:=p) (m:=m) (lo:=lo) (hi:=hi) i
  rw [←w64_next (m:=i) (by simp only [lenB];omega),opL]at ih
  refine Evt.step (fun k n=>spec_OppositeSides_L122.eq_2 k _ _ _ _ _ n) (Evt.ctrue (decide_eq_true (by omega)) (Evt.bind (miOpposite_ev h (by omega)) ?_))
  cases ho:opB p m lo hi i with
  | true =>
   rw [ho]at ih
   exact Evt.ctrue rfl (Evt.ctrue (decide_eq_true (by simp;omega)) ih)
  | false =>
   rw [ho]at ih
   exact Evt.cfalse rfl ih
theorem impl_opp_loop{p:List Tm}{m:Nat}{lo hi:List Int}(h:Bo p m lo hi):∀(r i:Nat),i+r=lo.length →
  Evt (fun k n=>impl_OppositeSides_L122 k n p ((m:Int),lo,hi) (opL p m lo hi i) (lo.length:Int) (i:Int)) (.inr (opL p m lo hi lo.length,())):=by
 intro r
 have hn:=h.n1
 induction r with
 | zero =>
  intro i hi2
  refine Evt.step (fun k n=>impl_OppositeSides_L122.eq_2 k _ _ _ _ _ n) ?_
  have:i=lo.length:=by omega
  subst this
  exact Evt.cfalse (decide_eq_false (by omega)) .pure
 | succ r ih =>
  intro i hi2
  have ih:=ih (i+1) (by omega)
  have hl:=opL_len (p:=p) (m:=m) (lo:=lo) (hi:=hi) i
  rw [←w64_next (m:=i) (by simp only [lenB];omega),opL]at ih
  refine Evt.step (fun k n=>impl_OppositeSides_L122.eq_2 k _ _ _ _ _ n) (Evt.ctrue (decide_eq_true (by omega)) (Evt.bind (isOpposite_ev h (by omega)) ?_))
  cases ho:opB p m lo hi i with
  | true =>
   rw [ho]at ih
   exact Evt.ctrue rfl (Evt.ctrue (decide_eq_true (by simp;omega)) ih)
  | false =>
   rw [ho]at ih
   exact Evt.cfalse rfl ih
def osV(p:List Tm)(b:Bx):List Int×Bool:=if beV p b then(opL p b.1.toNat b.2.1 b.2.2 b.2.1.length,true)else([],false)
theorem spec_opposite_ev{p:List Tm}{b:Bx}(hp:p.length<lenB)(hx:b.2.1.length<lenB):Evt (fun k _=>spec_OppositeSides k p b) (osV p b):=by
 refine Evt.eq (f:=fun k q=>_) ?_ (fun k q=>by rw [spec_OppositeSides])
 refine Evt.bind (beAsked_ev hp hx) ?_
 unfold osV
 cases hv:beV p b with
 | false=>exact Evt.ctrue rfl .pure
 | true =>
  obtain⟨m,hb,hB⟩:=beV_form hv
  have e1:b.1.toNat=m:=by rw [hb];exact Int.toNat_natCast m
  have hl:=spec_opp_loop hB b.2.1.length 0 (by omega)
  rw [←hb]at hl
  rw [if_pos rfl,e1]
  exact Evt.cfalse rfl (Evt.inr (Evt.diag hl) .pure)
theorem impl_opposite_ev{p:List Tm}{b:Bx}(hp:p.length<lenB)(hx:b.2.1.length<lenB):Evt (fun k _=>impl_OppositeSides k p b) (osV p b):=by
 refine Evt.eq (f:=fun k q=>_) ?_ (fun k q=>by rw [impl_OppositeSides])
 refine Evt.bind (belongs_ev hp hx) ?_
 unfold osV
 cases hv:beV p b with
 | false=>exact Evt.ctrue rfl .pure
 | true =>
  obtain⟨m,hb,hB⟩:=beV_form hv
  have e1:b.1.toNat=m:=by rw [hb];exact Int.toNat_natCast m
  have hl:=impl_opp_loop hB b.2.1.length 0 (by omega)
  rw [←hb]at hl
  rw [if_pos rfl,e1]
  exact Evt.cfalse rfl (Evt.inr (Evt.diag hl) .pure)
theorem oppositeSides_row(a:List Tm)(b:Bx)(h:WfT (.sl tTerm) a)(hb:WfT tBox b):∃k,laws_FnExactOppositeSides k a b=some true:=by
 have hl:(osV a b).1.length≤3:=by
  unfold osV
  split
  ·rename_i hv
   obtain⟨m,hbm,hB⟩:=beV_form hv
   have:=opL_len (p:=a) (m:=b.1.toNat) (lo:=b.2.1) (hi:=b.2.2) b.2.1.length
   have:=hB.n1
   show(opL a b.1.toNat b.2.1 b.2.2 b.2.1.length).length≤3
   omega
  ·simp
 obtain⟨y,hy1,hy2,_⟩:=markIntS_ok (osV a b).1 101 (by simp only [lenB];omega)
 exact Evt.get (Evt.eq (frame_tbl (eqv:=fun k=>laws_eqIntS k) (S:=fun k a b=>spec_OppositeSides k a b) (I:=fun k a b=>impl_OppositeSides k a b) (v:=osV a b) h.1 hb.2.1.1 hb.2.2.1 (eqIntS_ev (by simp only [lenB];omega)) hy1 hy2
  (fun h1 h2=>spec_opposite_ev h1 h2) (fun h1 h2=>impl_opposite_ev h1 h2)) (fun k _=>rfl))

end Go.Ev.G

