/- What the plain functions of the law compute, for all inputs within the sizes that the theorems name. -/
import Derived.Test.YthgmllplmpmmgaaGreatPCubeDegree1
import Derived.Test.YthgmllplmpmmgaaGreatACubeDegree1
set_option linter.unusedVariables false
namespace Go.Ev.G
open Go Go.Ev
set_option maxRecDepth 100000

abbrev CellSt:=(Int×(List Int)×List Int)×Int×(Int×Bool×Int×Int)×(List ((Int×Int)×Int×Int))×Int×Int×(Int×Int×Int)×Int×Unit
theorem piece_ev(x0:Int×(List Int)×List Int)(dep:Nat)(x5:Int×Bool×Int×Int)(x9:List ((Int×Int)×Int×Int))(x24:Int×Int×Int)(i:Int){l h x:Int}(hd:dep≤2)(hl : -64≤l∧l<h∧h≤64)(hx:0≤x∧x≤4)(hlen:impl_Box_length x0 i=some (h - l)) :
  Evt (fun k _=>((bif (i != x5.1)then(Option.bind (impl_Box_length x0 i) fun r3=>some (Sum.inr (x0,(dep:Int),x5,x9,(IntKind.wrap .i64 ((IntKind.wrap .i64 (l*2 ^ min (Int.toNat (dep:Int)) (IntKind.bits .i64)))+(IntKind.wrap .i64 (x*(h - l))))),(IntKind.wrap .i64 ((IntKind.wrap .i64 ((IntKind.wrap .i64 (l*2 ^ min (Int.toNat (dep:Int)) (IntKind.bits .i64)))+(IntKind.wrap .i64 (x*(h - l)))))+r3)),x24,i,())))else some (Sum.inr (x0,(dep:Int),x5,x9,(IntKind.wrap .i64 ((IntKind.wrap .i64 (l*2 ^ min (Int.toNat (dep:Int)) (IntKind.bits .i64)))+(IntKind.wrap .i64 (x*(h - l))))),(IntKind.wrap .i64 ((IntKind.wrap .i64 (l*2 ^ min (Int.toNat (dep:Int)) (IntKind.bits .i64)))+(IntKind.wrap .i64 (x*(h - l))))),x24,i,()))):Option (List ((Int×Int)×Int×Int) ⊕ CellSt))) (.inr (x0,(dep:Int),x5,x9,l*2 ^ dep+(h - l)*x,l*2 ^ dep+(h - l)*upV x5.1 i x,x24,i,())):=by
 have hp:=pow2 hd
 have hb:=side_bound (x:=x) hl (by omega) hp
 have hb2:=side_bound (x:=x+1) hl (by omega) hp
 have e2:(h - l)*(x+1)=(h - l)*x+(h - l):=by rw [Int.mul_add,Int.mul_one]
 rw [min64 (by omega),Int.mul_comm x,w64 (n:=l*2 ^ dep) (by omega) (by omega),w64 (n:=(h - l)*x) (by omega) (by omega),w64 (n:=l*2 ^ dep+(h - l)*x) (by omega) (by omega),hlen]
 unfold upV
 by_cases hi:i=x5.1
 ·rw [if_pos hi]
  exact Evt.cfalse (by simp [hi]) .pure
 ·rw [if_neg hi,e2]
  refine Evt.ctrue (by simpa using hi) (.const ?_)
  rw [Option.bind_some,w64 (by omega) (by omega),Int.add_assoc]

theorem impl_cellSides_ev{m dep:Nat}{l0 l1 l2 h0 h1 h2:Int}{c:Int×Bool×Int×Int}(hm:m≤3)(hd:dep≤2)(g0 : -64≤l0∧l0<h0∧h0≤64)(g1 : -64≤l1∧l1<h1∧h1≤64)(g2 : -64≤l2∧l2<h2∧h2≤64)
  (k1:0≤c.1∧c.1≤2) (hi:0≤c.2.2.1∧c.2.2.1≤4) (hj:0≤c.2.2.2∧c.2.2.2≤4) :
  Evt (fun k _=>impl_cellSides k ((m:Int),[l0,l1,l2],[h0,h1,h2]) (dep:Int) c) (cellSides m dep [l0,l1,l2] [h0,h1,h2] [(lowV c (2 ^ dep)).1,(lowV c (2 ^ dep)).2.1,(lowV c (2 ^ dep)).2.2] [upV c.1 0 (lowV c (2 ^ dep)).1,upV c.1 1 (lowV c (2 ^ dep)).2.1,upV c.1 2 (lowV c (2 ^ dep)).2.2]):=by
 have hp:=pow2 hd
 have hl:=lowV_le (c:=c) (s:=2 ^ dep) hi hj (by omega)
 have hu:∀j x:Int,0≤x∧x≤4→0≤upV c.1 j x∧upV c.1 j x≤5:=by
  intro j x hx
  unfold upV
  split <;> omega
 refine Evt.eq (f:=fun k q=>_) ?_ (fun k q=>by rw [impl_cellSides])
 obtain⟨z,hz⟩:=lowest_eq hd k1
 refine Evt.bind (.const hz) ?_
 obtain⟨hx,hy,hz⟩:=hl
 generalize lowV c (2 ^ dep)=low at hx hy hz ⊢
 obtain⟨x,y,z⟩:=low
 simp only at hx hy hz ⊢
 have w1:IntKind.wrap .i64 (0+1)=1:=by decide
 have w2:IntKind.wrap .i64 (1+1)=2:=by decide
 have w3:IntKind.wrap .i64 (2+1)=3:=by decide
 have hneg:decide ((dep:Int)<0)=false:=decide_eq_false (by omega)
 have wm:IntKind.wrap .i64 ((m:Int)+dep)=((m+dep:Nat):Int):=by rw [w64 (by omega) (by omega),Int.natCast_add]
 have q0:IntKind.wrap .i64 (h0 - l0)=h0 - l0:=w64 (by omega) (by omega)
 have q1:IntKind.wrap .i64 (h1 - l1)=h1 - l1:=w64 (by omega) (by omega)
 have q2:IntKind.wrap .i64 (h2 - l2)=h2 - l2:=w64 (by omega) (by omega)
 have len0:impl_Box_length ((m:Int),[l0,l1,l2],[h0,h1,h2]) 0=some (h0 - l0):=by rw [←q0];rfl
 have len1:impl_Box_length ((m:Int),[l0,l1,l2],[h0,h1,h2]) 1=some (h1 - l1):=by rw [←q1];rfl
 have len2:impl_Box_length ((m:Int),[l0,l1,l2],[h0,h1,h2]) 2=some (h2 - l2):=by rw [←q2];rfl
 have fit:∀ {l h x:Int},(-64≤l∧l<h∧h≤64)→(0≤x∧x≤5)→Evt (fun k _=>impl_wide_fit k (wN (decide (l*2 ^ dep+(h - l)*x<0)) (l*2 ^ dep+(h - l)*x).natAbs) (IntKind.wrap .i64 ((m:Int)+dep))) (mkD (l*2 ^ dep+(h - l)*x) (m+dep)):=by
  intro l h x g gx
  have hb:=side_bound g gx hp
  rw [wm]
  exact fitD_ev (by omega) (by omega) (by omega)
 have wide:∀ {l h x:Int},(-64≤l∧l<h∧h≤64)→(0≤x∧x≤5)→impl_wideOf (l*2 ^ dep+(h - l)*x)=some (wN (decide (l*2 ^ dep+(h - l)*x<0)) (l*2 ^ dep+(h - l)*x).natAbs):=by
  intro l h x g gx
  have hb:=side_bound g gx hp
  exact wideOf_eq (by omega) (by omega)
 refine Evt.inr (y:=(cellSides m dep [l0,l1,l2] [h0,h1,h2] [x,y,z] [upV c.1 0 x,upV c.1 1 y,upV c.1 2 z],())) (Evt.diag (f:=fun k n=>impl_cellSides_L122 k n ((m:Int),[l0,l1,l2],[h0,h1,h2]) (dep:Int) c [] (x,y,z) 0) ?_) .pure
 refine Evt.step (fun k n=>impl_cellSides_L122.eq_2 k _ _ _ _ _ _ n) (Evt.ctrue rfl (Evt.ctrue rfl (Evt.ctrue rfl (Evt.ctrue rfl (Evt.cfalse hneg (Evt.bind (.const len0) ?_))))))
 refine Evt.inr (piece_ev ((m:Int),[l0,l1,l2],[h0,h1,h2]) dep c _ (x,y,z) 0 (l:=l0) (h:=h0) (x:=x) hd g0 (by omega) len0) ?_
 refine Evt.bind (.const (wide g0 (by omega))) (Evt.bind (fit g0 (by omega)) (Evt.bind (.const (wide g0 (hu 0 x (by omega)))) (Evt.bind (fit g0 (hu 0 x (by omega))) (Evt.ctrue rfl ?_))))
 rw [show IntKind.wrap .i64 ((0:Int)+1)=1 by decide]
 refine Evt.step (fun k n=>impl_cellSides_L122.eq_2 k _ _ _ _ _ _ n) (Evt.ctrue rfl (Evt.cfalse rfl (Evt.ctrue rfl (Evt.ctrue rfl (Evt.ctrue rfl (Evt.cfalse hneg (Evt.bind (.const len1) ?_)))))))
 refine Evt.inr (piece_ev ((m:Int),[l0,l1,l2],[h0,h1,h2]) dep c _ (x,y,z) 1 (l:=l1) (h:=h1) (x:=y) hd g1 (by omega) len1) ?_
 refine Evt.bind (.const (wide g1 (by omega))) (Evt.bind (fit g1 (by omega)) (Evt.bind (.const (wide g1 (hu 1 y (by omega)))) (Evt.bind (fit g1 (hu 1 y (by omega))) (Evt.ctrue rfl ?_))))
 rw [show IntKind.wrap .i64 ((1:Int)+1)=2 by decide]
 refine Evt.step (fun k n=>impl_cellSides_L122.eq_2 k _ _ _ _ _ _ n) (Evt.ctrue rfl (Evt.cfalse rfl (Evt.cfalse rfl (Evt.ctrue rfl (Evt.ctrue rfl (Evt.ctrue rfl (Evt.cfalse hneg (Evt.bind (.const len2) ?_))))))))
 refine Evt.inr (piece_ev ((m:Int),[l0,l1,l2],[h0,h1,h2]) dep c _ (x,y,z) 2 (l:=l2) (h:=h2) (x:=z) hd g2 (by omega) len2) ?_
 refine Evt.bind (.const (wide g2 (by omega))) (Evt.bind (fit g2 (by omega)) (Evt.bind (.const (wide g2 (hu 2 z (by omega)))) (Evt.bind (fit g2 (hu 2 z (by omega))) (Evt.ctrue rfl ?_))))
 rw [show IntKind.wrap .i64 ((2:Int)+1)=3 by decide]
 exact Evt.step (fun k n=>impl_cellSides_L122.eq_2 k _ _ _ _ _ _ n) (Evt.cfalse rfl .pure)

def csV(b:Int×List Int×List Int)(dep:Int)(c:Int×Bool×Int×Int):List ((Int×Int)×Int×Int)×Bool :=
 if (cbV b&&cellV dep c)=true then(cellSides b.1.toNat dep.toNat b.2.1 b.2.2 [(lowV c (2 ^ dep.toNat)).1,(lowV c (2 ^ dep.toNat)).2.1,(lowV c (2 ^ dep.toNat)).2.2] [upV c.1 0 (lowV c (2 ^ dep.toNat)).1,upV c.1 1 (lowV c (2 ^ dep.toNat)).2.1,upV c.1 2 (lowV c (2 ^ dep.toNat)).2.2],true)else([],false)
theorem cellV_form{dep:Int}{c:Int×Bool×Int×Int}(h:cellV dep c=true):∃n:Nat,dep=n∧n≤2∧(0≤c.1∧c.1≤2)∧(0≤c.2.2.1∧c.2.2.1≤4)∧(0≤c.2.2.2∧c.2.2.2≤4):=by
 unfold cellV at h
 simp only [Bool.and_eq_true,decide_eq_true_eq]at h
 obtain⟨g1,g2,g3,g4⟩:=h
 have hp:=pow2 (m:=dep.toNat) (by omega)
 exact⟨dep.toNat,by omega,by omega,g2,by omega,by omega⟩
theorem csV_len(b:Int×List Int×List Int)(dep:Int)(c:Int×Bool×Int×Int):(csV b dep c).1.length≤3:=by
 unfold csV
 split
 ·unfold cellSides;split <;> simp
 ·simp

end Go.Ev.G

namespace Go.Ev.G
open Go Go.Ev
set_option maxRecDepth 100000

section
variable {V : Type}
theorem frame_sb{a:List (List Tm)}{b:Bx}{S I:Nat→List (List Tm)→Bx→Option V}{C:Nat→V→V→Option Bool→Option Bool}{v:V}(ha:a.length≤maxLen)(hm:∀x∈a,x.length≤maxLen)(h1:b.2.1.length≤maxLen)(h2:b.2.2.length≤maxLen)
  (hC:∀ {f:Nat→Nat→Option Bool} {r:Bool},Evt f r→Evt (fun k n=>C k v v (f k n)) r)
  (hS:a.length<274877906944→(∀r∈a,r.length<lenB)→b.2.1.length<lenB→Evt (fun k _=>S k a b) v) (hI:a.length<lenB→(∀r∈a,r.length<lenB)→b.2.1.length<lenB→Evt (fun k _=>I k a b) v) :
  Evt (fun k _=>(Option.bind (laws_szTermSS k a 1000000) fun r1=>(bif (decide (r1<0))then some true else(Option.bind (laws_szBox b r1) fun r2=>(bif (decide (r2<0))then some true else(Option.bind (laws_toTermSS k a false) fun r3=>(Option.bind (laws_toBox k b false) fun r4=>(Option.bind (S k (r3.1.map fun z=>z.1) (r4.1,r4.2.1.1,r4.2.2.1)) fun r5=>(Option.bind (laws_toTermSS k a false) fun r6=>(Option.bind (laws_toBox k b false) fun r7=>(Option.bind (I k (r6.1.map fun z=>z.1) (r7.1,r7.2.1.1,r7.2.2.1)) fun r8=>C k r5 r8 (Option.bind (laws_toTermSS k a false) fun r9=>(Option.bind (laws_intactTermSS k r6 r9) fun r10=>(bif (!r10)then some false else(Option.bind (laws_toBox k b false) fun r11=>(Option.bind (laws_intactBox k r7 r11) fun r12=>(bif (!r12)then some false else(Option.bind (laws_toTermSS k a true) fun r13=>(Option.bind (laws_toBox k b true) fun r14=>(Option.bind (I k (r13.1.map fun z=>z.1) (r14.1,r14.2.1.1,r14.2.2.1)) fun r15=>C k r5 r15 (some true))))))))))))))))))))) true:=by
 refine Evt.bind (szTermSS_ev (a:=1000000) ha hm (by omega)) ?_
 by_cases hz:a.length+(a.map List.length).sum≤1000000
 ·rw [if_pos hz]
  have hs:Sized a:=hz
  refine Evt.cfalse (by simp <;> omega) (Evt.bind (.const (szBox_eq h1 h2 (by omega))) ?_)
  by_cases hy:b.2.1.length+b.2.2.length≤1000000 - (a.length+(a.map List.length).sum)
  ·rw [if_pos hy]
   refine Evt.cfalse (by simp <;> omega) ?_
   have b1:b.2.1.length≤1000000:=by omega
   have b2:b.2.2.length≤1000000:=by omega
   have hr:∀r∈a,r.length<lenB:=fun r hr=>by have:=hs.row r hr;simp only [lenB];omega
   have hl:=hs.len
   have spec:=hS (by omega) hr (by simp only [lenB];omega)
   have impl:=hI (by simp only [lenB];omega) hr (by simp only [lenB];omega)
   refine Evt.bind (toTermSS_ev hs.len hs.row) (Evt.bind (toBox_ev b1 b2) ?_)
   simp only [toV_rows,boxR_eq]
   refine Evt.bind spec (Evt.bind (toTermSS_ev hs.len hs.row) (Evt.bind (toBox_ev b1 b2) ?_))
   simp only [toV_rows,boxR_eq]
   refine Evt.bind impl (hC (Evt.bind (toTermSS_ev hs.len hs.row) (Evt.bind (intactT_ev hs) (Evt.cfalse rfl (Evt.bind (toBox_ev b1 b2) (Evt.bind (intactBox_ev b1 b2) (Evt.cfalse rfl (Evt.bind (toTermSS_ev hs.len hs.row) (Evt.bind (toBox_ev b1 b2) ?_)))))))))
   simp only [toV_rows,boxR_eq]
   exact Evt.bind impl (hC .pure)
  ·rw [if_neg hy]
   exact Evt.ctrue rfl .pure
 ·rw [if_neg hz]
  exact Evt.ctrue rfl .pure
end
theorem cmp_int{v:Int×Bool}{f:Nat→Nat→Option Bool}{r:Bool}(h:Evt f r):Evt (fun k n=>(bif (v.1 != v.1)then some false else(bif (!(v.2==v.2))then some false else f k n))) r:=Evt.cfalse (by simp) (Evt.cfalse (by simp) h)
structure Pl(s:List (List Tm)):Prop where
 ln:s.length=2
 tm:∀p∈s,∀t∈p,tmW t
 lp:∀p∈s,p.length<lenB
theorem Pl.sd{s:List (List Tm)}(h:Pl s){e:Ed}(he:EdOk e):Sd s (sidesE e):=Sd.edge h.tm h.lp he
end Go.Ev.G

namespace Go.Ev.G
open Go Go.Ev
set_option maxRecDepth 100000

abbrev Cl:=Int×Bool×Int×Int
def cellsV(n:Nat):List Cl := [(0:Int),1,2].flatMap fun s => [false,true].flatMap fun u=>(List.range n).flatMap fun i:Nat=>(List.range n).map fun j:Nat=>(s,u,(i:Int),(j:Int))
theorem cbCells0(k:Nat):spec_cbCells (k+100) 0=some (cellsV 1):=by kernel_rfl
theorem cbCells1(k:Nat):spec_cbCells (k+100) 1=some (cellsV 2):=by kernel_rfl
theorem cbCells2(k:Nat):spec_cbCells (k+100) 2=some (cellsV 4):=by kernel_rfl
theorem surfaceCells0(k:Nat):impl_surfaceCells (k+100) 0=some (cellsV 1):=by kernel_rfl
theorem surfaceCells1(k:Nat):impl_surfaceCells (k+100) 1=some (cellsV 2):=by kernel_rfl
theorem surfaceCells2(k:Nat):impl_surfaceCells (k+100) 2=some (cellsV 4):=by kernel_rfl

theorem evt_100{α:Type}{f:Nat→Option α}{r:α}(h:∀k,f (k+100)=some r):Evt (fun k _=>f k) r:=⟨100,fun k n hk _=>by
 obtain⟨m,rfl⟩:∃m,k=m+100:=⟨k - 100,by omega⟩
 exact h m⟩
theorem cbCells_ev{n:Nat}(hn:n≤2):Evt (fun k _=>spec_cbCells k n) (cellsV (2 ^ n)):=by
 rcases(by omega:n=0∨n=1∨n=2)with rfl | rfl | rfl
 ·exact evt_100 cbCells0
 ·exact evt_100 cbCells1
 ·exact evt_100 cbCells2
theorem surfaceCells_ev{n:Nat}(hn:n≤2):Evt (fun k _=>impl_surfaceCells k n) (cellsV (2 ^ n)):=by
 rcases(by omega:n=0∨n=1∨n=2)with rfl | rfl | rfl
 ·exact evt_100 surfaceCells0
 ·exact evt_100 surfaceCells1
 ·exact evt_100 surfaceCells2
theorem cellsV_len{n:Nat}(hn:n≤2):(cellsV (2 ^ n)).length=6*2 ^ (2*n)∧2 ^ (2*n)≤16:=by
 rcases(by omega:n=0∨n=1∨n=2)with rfl | rfl | rfl <;> exact⟨rfl,by decide⟩
theorem cellsV_ok{n:Nat}(hn:n≤2):∀c∈cellsV (2 ^ n),cellV n c=true:=by
 rcases(by omega:n=0∨n=1∨n=2)with rfl | rfl | rfl <;> decide

theorem sideV_sv{m dep:Nat}{l h x y:Int}(hl : -64≤l∧l<h∧h≤64)(hx:0≤x∧x≤5)(hy:0≤y∧y≤5)(hd:dep≤2)(hm:m≤3)(hxy:x≤y):ivGd (sideV m dep l h x,sideV m dep l h y):=by
 have hp:=pow2 hd
 have b1:=side_bound (s:=2 ^ dep) hl hx hp
 have b2:=side_bound (s:=2 ^ dep) hl hy hp
 have hle:(h - l)*x≤(h - l)*y:=Int.mul_le_mul_of_nonneg_left hxy (by omega)
 have e1:=sv_mkD (mkD_ok (n:=l*2 ^ dep+(h - l)*x) (k:=m+dep) (by omega) (by omega) (by omega))
 have e2:=sv_mkD (mkD_ok (n:=l*2 ^ dep+(h - l)*y) (k:=m+dep) (by omega) (by omega) (by omega))
 refine⟨mkD_gd _ _,mkD_gd _ _,?_⟩
 unfold sideV
 have hq:(0:Int)<2 ^ (m+dep):=Int.pow_pos (by decide)
 have:sv (mkD (l*2 ^ dep+(h - l)*x) (m+dep)).1*2 ^ (m+dep)≤sv (mkD (l*2 ^ dep+(h - l)*y) (m+dep)).1*2 ^ (m+dep):=by
  rw [e1,e2]
  exact Int.mul_le_mul_of_nonneg_right (by omega) (by decide)
 exact Int.le_of_mul_le_mul_right this hq
structure Cb(s:List (List Tm)):Prop where
 ln:s.length=3
 tm:∀p∈s,∀t∈p,tmW t
 lp:∀p∈s,p.length<lenB
theorem low_bound{c:Cl}{n:Nat}(hn:n≤2)(k1:0≤c.1∧c.1≤2)(hi:0≤c.2.2.1∧c.2.2.1≤4)(hj:0≤c.2.2.2∧c.2.2.2≤4) :
  (0≤(lowV c (2 ^ n)).1∧(lowV c (2 ^ n)).1≤4)∧(0≤(lowV c (2 ^ n)).2.1∧(lowV c (2 ^ n)).2.1≤4)∧(0≤(lowV c (2 ^ n)).2.2∧(lowV c (2 ^ n)).2.2≤4):=by
 have hp:=pow2 hn
 exact lowV_le hi hj (by omega)
theorem up_bound(ax j:Int){x:Int}(h:0≤x∧x≤4):(0≤upV ax j x∧upV ax j x≤5)∧x≤upV ax j x:=by
 unfold upV;split <;> omega
theorem cell_sd{s:List (List Tm)}{b:Bx}{n:Nat}{c:Cl}(hs:Cb s)(hb:cbV b=true)(hc:cellV n c=true):Sd s (csV b n c).1:=by
 obtain⟨m,l0,l1,l2,h0,h1,h2,rfl,hm,g0,g1,g2⟩:=cbV_form hb
 obtain⟨n',hn',hn2,k1,k2,k3⟩:=cellV_form hc
 have:n'=n:=by omega
 subst this
 obtain⟨q0,q1,q2⟩:=low_bound hn2 k1 k2 k3
 have u0:=up_bound c.1 0 q0
 have u1:=up_bound c.1 1 q1
 have u2:=up_bound c.1 2 q2
 refine⟨?_,csV_len _ _ _,hs.tm,hs.lp⟩
 intro i hi
 unfold csV at hi
 rw [hb,hc,Bool.true_and,if_pos rfl]at hi
 simp only [Int.toNat_natCast,cellSides,List.mem_cons,List.not_mem_nil,or_false]at hi
 rcases hi with rfl | rfl | rfl
 ·exact sideV_sv g0 (by omega) u0.1 hn2 hm u0.2
 ·exact sideV_sv g1 (by omega) u1.1 hn2 hm u1.2
 ·exact sideV_sv g2 (by omega) u2.1 hn2 hm u2.2
theorem cbSidesB_ev{b:Bx}{n:Nat}{c:Cl}(hb:cbV b=true)(hc:cellV n c=true):Evt (fun k _=>spec_cbSides k b n c) (csV b n c).1:=by
 have hcs:(csV b n c).1=cellSides b.1.toNat n b.2.1 b.2.2 [(lowV c (2 ^ n)).1,(lowV c (2 ^ n)).2.1,(lowV c (2 ^ n)).2.2] [upV c.1 0 (lowV c (2 ^ n)).1,upV c.1 1 (lowV c (2 ^ n)).2.1,upV c.1 2 (lowV c (2 ^ n)).2.2]:=by
  unfold csV;rw [hb,hc,Bool.true_and,if_pos rfl];simp only [Int.toNat_natCast]
 rw [hcs]
 obtain⟨m,l0,l1,l2,h0,h1,h2,rfl,hm,g0,g1,g2⟩:=cbV_form hb
 obtain⟨n',hn',hn2,k1,k2,k3⟩:=cellV_form hc
 have:n'=n:=by omega
 subst this
 exact cbSides_ev hm hn2 g0 g1 g2 k1 k2 k3
theorem cellSidesB_ev{b:Bx}{n:Nat}{c:Cl}(hb:cbV b=true)(hc:cellV n c=true):Evt (fun k _=>impl_cellSides k b n c) (csV b n c).1:=by
 have hcs:(csV b n c).1=cellSides b.1.toNat n b.2.1 b.2.2 [(lowV c (2 ^ n)).1,(lowV c (2 ^ n)).2.1,(lowV c (2 ^ n)).2.2] [upV c.1 0 (lowV c (2 ^ n)).1,upV c.1 1 (lowV c (2 ^ n)).2.1,upV c.1 2 (lowV c (2 ^ n)).2.2]:=by
  unfold csV;rw [hb,hc,Bool.true_and,if_pos rfl];simp only [Int.toNat_natCast]
 rw [hcs]
 obtain⟨m,l0,l1,l2,h0,h1,h2,rfl,hm,g0,g1,g2⟩:=cbV_form hb
 obtain⟨n',hn',hn2,k1,k2,k3⟩:=cellV_form hc
 have:n'=n:=by omega
 subst this
 exact impl_cellSides_ev hm hn2 g0 g1 g2 k1 k2 k3

theorem cbHolds_ev{s:List (List Tm)}{sides:List Iv}(h:Sd s sides)(hl:s.length=3){r:Nat}(hr:r<6):Evt (fun k _=>spec_cbHolds k s sides r) (hV 3 s sides r):=by
 refine Evt.eq (f:=fun k q=>_) ?_ (fun k q=>by rw [spec_cbHolds])
 have e:Int.tmod (r:Int) 3=((r % 3:Nat):Int):=rfl
 rw [e]
 have hm:s.getD (r % 3) []∈s:=getD_in (by omega)
 refine Evt.ctrue (decide_eq_true (by omega)) (Evt.ctrue (decide_eq_true (by omega)) ?_)
 simp only [Int.toNat_natCast]
 refine Evt.bind (vaOver_ev (h.tm _ hm) h.sd (by have:=h.ln;simp only [lenB];omega) (h.lp _ hm)) ?_
 cases hv:valO (s.getD (r % 3) []) sides with
 | none =>
  have:hV 3 s sides r=false:=by unfold hV;rw [hv]
  rw [this]
  exact Evt.cfalse rfl .pure
 | some v =>
  refine Evt.ctrue rfl (Evt.bind (.const (ivSign_eq (valO_iv (h.tm _ hm) hv))) ?_)
  rw [beq_tail hv (x:=IntKind.wrap .i64 (1 - (IntKind.wrap .i64 (2*(IntKind.wrap .i64 (Int.tdiv (r:Int) 3)))))) (by
   have:r=0∨r=1∨r=2∨r=3∨r=4∨r=5:=by omega
   rcases this with rfl | rfl | rfl | rfl | rfl | rfl <;> decide)]
  exact .pure
theorem labelHolds_ev{s:List (List Tm)}{sides:List Iv}(h:Sd s sides)(hl:s.length=3){r:Nat}(hr:r<6):Evt (fun k _=>impl_labelHolds k s sides r) (hV 3 s sides r):=by
 refine Evt.eq (f:=fun k q=>_) ?_ (fun k q=>by rw [impl_labelHolds])
 have e:Int.tmod (r:Int) 3=((r % 3:Nat):Int):=rfl
 rw [e]
 have hm:s.getD (r % 3) []∈s:=getD_in (by omega)
 refine Evt.bind (.const (inside_eq _ _ _)) (Evt.cfalse (by rw [decide_eq_true (by omega)];rfl) ?_)
 refine Evt.ctrue (decide_eq_true (by omega)) (Evt.ctrue (decide_eq_true (by omega)) ?_)
 simp only [Int.toNat_natCast]
 refine Evt.bind (valueOver_ev (h.tm _ hm) h.sd h.ln (h.lp _ hm)) ?_
 cases hv:valO (s.getD (r % 3) []) sides with
 | none =>
  have:hV 3 s sides r=false:=by unfold hV;rw [hv]
  rw [this]
  exact Evt.cfalse rfl .pure
 | some v =>
  refine Evt.ctrue rfl (Evt.bind (.const (signOf_eq v)) ?_)
  rw [beq_tail hv (x:=IntKind.wrap .i64 (1 - (IntKind.wrap .i64 ((IntKind.wrap .i64 (Int.tdiv (r:Int) 3))*2)))) (by
   have:r=0∨r=1∨r=2∨r=3∨r=4∨r=5:=by omega
   rcases this with rfl | rfl | rfl | rfl | rfl | rfl <;> decide)]
  exact .pure
def lbl(s:List (List Tm))(b:Bx)(n:Nat)(c:Cl):Option Nat:=(List.range 6).find? (hV 3 s (csV b n c).1)
theorem lbl_lt{s:List (List Tm)}{b:Bx}{n:Nat}{c:Cl}{j:Nat}(h:lbl s b n c=some j):j<6:=by
 have:=List.mem_of_find?_eq_some h
 simpa using this
theorem cbLabel_ev{s:List (List Tm)}{b:Bx}{n:Nat}{c:Cl}(hs:Cb s)(hb:cbV b=true)(hc:cellV n c=true):Evt (fun k _=>spec_cbLabel k s (csV b n c).1) (match lbl s b n c with | some j=>((j:Int),true) | none=>(0,false)):=by
 refine Evt.eq (f:=fun k q=>_) ?_ (fun k q=>by rw [spec_cbLabel])
 have h:=cell_sd hs hb hc
 have:=find_loop (L:=fun k m i=>spec_cbLabel_L26 k m s (csV b n c).1 i) (p:=fun k i=>spec_cbHolds k s (csV b n c).1 i) (out:=fun j=>((j:Int),true)) (N:=6) (P:=hV 3 s (csV b n c).1) (by omega) (fun j hj=>cbHolds_ev h hs.ln hj)
  (fun k m i hi=>by rw [spec_cbLabel_L26.eq_2,decide_eq_true (by omega)];rfl) (fun k m=>by rw [spec_cbLabel_L26.eq_2];rfl)
 unfold lbl
 cases hf:(List.range 6).find? (hV 3 s (csV b n c).1)with
 | none=>rw [hf]at this;exact Evt.inr (Evt.diag this) .pure
 | some j=>rw [hf]at this;exact Evt.inl (Evt.diag this) .pure
theorem cellLabel_ev{s:List (List Tm)}{b:Bx}{n:Nat}{c:Cl}(hs:Cb s)(hb:cbV b=true)(hc:cellV n c=true):Evt (fun k _=>impl_cellLabel k s b n c) (match lbl s b n c with | some j=>(j:Int) | none => -1):=by
 refine Evt.eq (f:=fun k q=>_) ?_ (fun k q=>by rw [impl_cellLabel])
 have h:=cell_sd hs hb hc
 refine Evt.bind (cellSidesB_ev hb hc) ?_
 have:=find_loop (L:=fun k m i=>impl_cellLabel_L58 k m s (csV b n c).1 i) (p:=fun k i=>impl_labelHolds k s (csV b n c).1 i) (out:=fun j=>(j:Int)) (N:=6) (P:=hV 3 s (csV b n c).1) (by omega) (fun j hj=>labelHolds_ev h hs.ln hj)
  (fun k m i hi=>by rw [impl_cellLabel_L58.eq_2,decide_eq_true (by omega)];rfl) (fun k m=>by rw [impl_cellLabel_L58.eq_2];rfl)
 unfold lbl
 cases hf:(List.range 6).find? (hV 3 s (csV b n c).1)with
 | none=>rw [hf]at this;exact Evt.inr (Evt.diag this) .pure
 | some j=>rw [hf]at this;exact Evt.inl (Evt.diag this) .pure

def colV{α:Type}(f:α→Option Nat):List α→List Int×Bool
 | []=>([],true)
 | e::r=>match f e with
  | some j=>((j:Int)::(colV f r).1,(colV f r).2)
  | none=>([],false)
theorem colV_len{α:Type}{f:α→Option Nat}:∀(es:List α),(colV f es).1.length≤es.length∧((colV f es).2=true↔(colV f es).1.length=es.length)
 | []=>by simp [colV]
 | e::r=>by
  have:=colV_len (f:=f) r
  unfold colV
  cases f e with
  | none=>simp
  | some j =>
   simp only [List.length_cons]
   exact⟨by omega,by rw [this.2];omega⟩
theorem cbLabels_loop{s:List (List Tm)}{b:Bx}{n:Nat}(hs:Cb s)(hb:cbV b=true){es:List Cl}(he:∀c∈es,cellV n c=true)(hl:es.length≤1000):∀(r d:List Cl) (acc:List Int),d++r=es→acc.length=d.length →
  Evt (fun k m=>spec_cbLabels_L58 k m s n b acc es (es.length:Int) d.length) (if (colV (lbl s b n) r).2 then .inr (acc++(colV (lbl s b n) r).1,())else .inl (acc++(colV (lbl s b n) r).1))
 | [],d,acc,hd,_=>by
  rw [List.append_nil]at hd
  subst hd
  refine Evt.step (fun k m=>spec_cbLabels_L58.eq_2 k _ _ _ _ _ _ _ m) (Evt.rng0 ?_)
  simp only [colV,if_true,List.append_nil]
  exact .pure
 | e::r,d,acc,hd,ha=>by
  have ge:=he e (by rw [←hd];simp)
  have hdl:=congrArg List.length hd
  simp only [List.length_append,List.length_cons]at hdl
  refine Evt.step (fun k m=>spec_cbLabels_L58.eq_2 k _ _ _ _ _ _ _ m) ?_
  rw [←hd]
  refine Evt.ctrue mid_lt (Evt.ctrue mid_ge (Evt.ctrue mid_lt ?_))
  rw [mid_get,len_next (by rw [hd];simp only [lenB];omega)]
  have hre:=cbLabel_ev hs hb ge
  refine Evt.bind (cbSidesB_ev hb ge) ?_
  unfold colV
  cases hj:lbl s b n e with
  | none =>
   rw [hj]at hre
   refine Evt.bind hre (Evt.ctrue rfl ?_)
   simp only [Bool.false_eq_true,if_false,List.append_nil]
   exact .pure
  | some j =>
   rw [hj]at hre
   refine Evt.bind hre (Evt.cfalse rfl (Evt.ctrue (decide_eq_true (by simp only [List.length_cons,List.length_nil];omega)) ?_))
   have ih:=cbLabels_loop hs hb he hl r (d ++ [e]) (acc ++ [(j:Int)]) (by simpa using hd) (by simp [ha])
   rw [←hd]at ih
   simp only [List.append_assoc,List.singleton_append]at ih ⊢
   exact ih
theorem surfaceLabels_loop{s:List (List Tm)}{b:Bx}{n:Nat}(hs:Cb s)(hb:cbV b=true){es:List Cl}(he:∀c∈es,cellV n c=true)(hl:es.length≤1000):∀(r d:List Cl) (acc:List Int),d++r=es→acc.length=d.length →
  Evt (fun k m=>impl_surfaceLabels_L58 k m s b n acc es (es.length:Int) d.length) (if (colV (lbl s b n) r).2 then .inr (acc++(colV (lbl s b n) r).1,())else .inl ([],false))
 | [],d,acc,hd,_=>by
  rw [List.append_nil]at hd
  subst hd
  refine Evt.step (fun k m=>impl_surfaceLabels_L58.eq_2 k _ _ _ _ _ _ _ m) (Evt.rng0 ?_)
  simp only [colV,if_true,List.append_nil]
  exact .pure
 | e::r,d,acc,hd,ha=>by
  have ge:=he e (by rw [←hd];simp)
  have hdl:=congrArg List.length hd
  simp only [List.length_append,List.length_cons]at hdl
  refine Evt.step (fun k m=>impl_surfaceLabels_L58.eq_2 k _ _ _ _ _ _ _ m) ?_
  rw [←hd]
  refine Evt.ctrue mid_lt (Evt.ctrue mid_ge (Evt.ctrue mid_lt ?_))
  rw [mid_get,len_next (by rw [hd];simp only [lenB];omega)]
  have hre:=cellLabel_ev hs hb ge
  unfold colV
  cases hj:lbl s b n e with
  | none =>
   rw [hj]at hre
   refine Evt.bind hre (Evt.ctrue rfl ?_)
   simp only [Bool.false_eq_true,if_false]
   exact .pure
  | some j =>
   rw [hj]at hre
   refine Evt.bind hre (Evt.cfalse (decide_eq_false (show ¬ ((j:Int)<0)by omega)) (Evt.ctrue (decide_eq_true (by simp only [List.length_cons,List.length_nil];omega)) ?_))
   have ih:=surfaceLabels_loop hs hb he hl r (d ++ [e]) (acc ++ [(j:Int)]) (by simpa using hd) (by simp [ha])
   rw [←hd]at ih
   simp only [List.append_assoc,List.singleton_append]at ih ⊢
   exact ih
def lbsV(s:List (List Tm))(b:Bx)(n:Nat):List Int×Bool:=colV (lbl s b n) (cellsV (2 ^ n))
theorem cbLabels_ev{s:List (List Tm)}{b:Bx}{n:Nat}(hs:Cb s)(hb:cbV b=true)(hn:n≤2):Evt (fun k _=>spec_cbLabels k s b n) (lbsV s b n).1:=by
 refine Evt.eq (f:=fun k q=>_) ?_ (fun k q=>by rw [spec_cbLabels])
 refine Evt.bind (cbCells_ev hn) ?_
 have hc:=cellsV_len hn
 have h:=cbLabels_loop hs hb (es:=cellsV (2 ^ n)) (cellsV_ok hn) (by omega) (cellsV (2 ^ n)) [] [] rfl rfl
 simp only [List.length_nil,List.nil_append]at h
 unfold lbsV
 cases hf:(colV (lbl s b n) (cellsV (2 ^ n))).2 with
 | true=>rw [hf,if_pos rfl]at h;exact Evt.inr (Evt.diag h) .pure
 | false=>rw [hf,if_neg (by simp)]at h;exact Evt.inl (Evt.diag h) .pure
def allL(s:List (List Tm))(b:Bx)(n:Nat):List Int×Bool:=if (lbsV s b n).2 then((lbsV s b n).1,true)else([],false)
theorem surfaceLabels_ev{s:List (List Tm)}{b:Bx}{n:Nat}(hs:Cb s)(hb:cbV b=true)(hn:n≤2):Evt (fun k _=>impl_surfaceLabels k s b n) (allL s b n):=by
 refine Evt.eq (f:=fun k q=>_) ?_ (fun k q=>by rw [impl_surfaceLabels])
 refine Evt.bind (surfaceCells_ev hn) ?_
 have hc:=cellsV_len hn
 have h:=surfaceLabels_loop hs hb (es:=cellsV (2 ^ n)) (cellsV_ok hn) (by omega) (cellsV (2 ^ n)) [] [] rfl rfl
 simp only [List.length_nil,List.nil_append]at h
 unfold allL lbsV
 cases hf:(colV (lbl s b n) (cellsV (2 ^ n))).2 with
 | true=>rw [hf,if_pos rfl]at h;exact Evt.inr (Evt.diag h) .pure
 | false=>rw [hf,if_neg (by simp)]at h;exact Evt.inl (Evt.diag h) .pure
theorem cbCount_eq{n:Nat}(hn:n≤2):spec_cbCount n=some (((cellsV (2 ^ n)).length:Nat):Int):=by
 have hc:=cellsV_len hn
 unfold spec_cbCount
 have e:IntKind.wrap .i64 (2*(n:Int))=((2*n:Nat):Int):=by rw [w64 (by omega) (by omega)];omega
 rw [e,dyPower_eq (by omega),Option.bind_some,w64 (by omega) (by omega),hc.1]
 congr 1
def askC(s:List (List Tm))(b:Bx)(d:Int):Bool:=cubeV s b&&decide (0≤d∧d≤2)
theorem cbAsked_ev{m:List (List Tm)}{b:Bx}{d:Int}(hb:m.length<lenB)(hm:∀r∈m,r.length<lenB)(hx:b.2.1.length<lenB):Evt (fun k _=>spec_cbAsked k m b d) (askC m b d):=by
 refine Evt.eq (f:=fun k q=>_) ?_ (fun k q=>by rw [spec_cbAsked])
 refine Evt.bind (cbGood_ev hb hm hx) ?_
 unfold askC
 cases cubeV m b with
 | false=>exact Evt.cfalse rfl .pure
 | true =>
  refine Evt.ctrue rfl (Evt.bind (.const (?_:spec_cbDepth d=some (decide (0≤d∧d≤2)))) .pure)
  unfold spec_cbDepth
  rw [l1In_eq];rfl
theorem cubeV_form{m:List (List Tm)}{b:Bx}(h:cubeV m b=true)(hm:∀r∈m,r.length<lenB):Cb m∧cbV b=true:=by
 unfold cubeV at h
 simp only [Bool.and_eq_true]at h
 have:=h.2.1
 simp at this
 exact⟨⟨by omega,sysV_tm h.1,hm⟩,h.2.2⟩
theorem askC_form{m:List (List Tm)}{b:Bx}{d:Int}(h:askC m b d=true)(hm:∀r∈m,r.length<lenB):∃n:Nat,d=n∧n≤2∧Cb m∧cbV b=true:=by
 unfold askC at h
 simp only [Bool.and_eq_true]at h
 have hd:=of_decide_eq_true h.2
 have:=cubeV_form h.1 hm
 exact⟨d.toNat,by omega,by omega,this.1,this.2⟩
theorem implC_ask{V:Type}{s:List (List Tm)}{b:Bx}{d:Int}{z:V}{g:Nat→Option V}{v:V}(hb:s.length<lenB)(hm:∀r∈s,r.length<lenB)(hx:b.2.1.length<lenB)(hz:askC s b d=false→v=z)(hg:askC s b d=true→Evt (fun k _=>g k) v) :
  Evt (fun k _=>(Option.bind (impl_isCube k s b) fun r1=>(bif (!r1)then some z else(Option.bind (impl_inside d 0 2) fun r2=>(bif (!r2)then some z else g k))))) v:=by
 refine Evt.bind (isCube_ev hb hm hx) ?_
 unfold askC at hz hg
 cases hp:cubeV s b with
 | false =>
  rw [hp]at hz
  rw [hz rfl]
  exact Evt.ctrue rfl .pure
 | true =>
  rw [hp]at hz hg
  refine Evt.cfalse rfl (Evt.bind (.const (inside_eq d 0 2)) ?_)
  cases hd:decide (0≤d∧d≤2)with
  | false =>
   rw [hd]at hz
   rw [hz rfl]
   exact Evt.ctrue rfl .pure
  | true =>
   rw [hd]at hg
   exact Evt.cfalse rfl (hg rfl)
theorem specC_ask{V:Type}{s:List (List Tm)}{b:Bx}{d:Int}{z:V}{g:Nat→Option V}{v:V}(hb:s.length<lenB)(hm:∀r∈s,r.length<lenB)(hx:b.2.1.length<lenB)(hz:askC s b d=false→v=z)(hg:askC s b d=true→Evt (fun k _=>g k) v) :
  Evt (fun k _=>(Option.bind (spec_cbAsked k s b d) fun r1=>(bif (!r1)then some z else g k))) v:=by
 refine Evt.bind (cbAsked_ev hb hm hx) ?_
 cases hp:askC s b d with
 | false=>rw [hz hp];exact Evt.ctrue rfl .pure
 | true=>exact Evt.cfalse rfl (hg hp)
end Go.Ev.G

namespace Go.Ev.G
open Go Go.Ev
set_option maxRecDepth 100000

def cornX(n x:Nat):List (Int×Int×Int):=(List.range (n+1)).flatMap fun y:Nat=>(List.range (n+1)).map fun z:Nat=>((x:Int),(y:Int),(z:Int))
def ordV(d:Int)(n:Nat)(p:Int×Int×Int):List Int:=(impl_around 100 (cellsV n) d p).getD []
def idxV(n:Nat):List Int:=(List.range (6*n*n)).map fun i:Nat=>(i:Int)
def inner(n:Nat)(p:Int×Int×Int):Bool:=(Int.tmod p.1 n != 0)&&(Int.tmod p.2.1 n != 0)&&(Int.tmod p.2.2 n != 0)

theorem o0_0(k:Nat):(cornX 1 0).map (fun p=>impl_around (k+100) (cellsV 1) 0 p)=(cornX 1 0).map (fun p=>some (ordV 0 1 p)):=by kernel_rfl
theorem s0_0(k:Nat):(cornX 1 0).map (fun p=>bif inner 1 p then some []else spec_cbAround (k+100) (idxV 1) [p.1,p.2.1,p.2.2] 1 (cellsV 1))=(cornX 1 0).map (fun p=>some (ordV 0 1 p)):=by kernel_rfl
theorem b0_0:((cornX 1 0).all fun p=>(ordV 0 1 p).all fun i=>decide (0≤i)&&decide (i<6))=true:=by kernel_rfl
theorem l0_0:((cornX 1 0).all fun p=>Nat.ble (ordV 0 1 p).length 1000)=true:=by kernel_rfl
theorem o0_1(k:Nat):(cornX 1 1).map (fun p=>impl_around (k+100) (cellsV 1) 0 p)=(cornX 1 1).map (fun p=>some (ordV 0 1 p)):=by kernel_rfl
theorem s0_1(k:Nat):(cornX 1 1).map (fun p=>bif inner 1 p then some []else spec_cbAround (k+100) (idxV 1) [p.1,p.2.1,p.2.2] 1 (cellsV 1))=(cornX 1 1).map (fun p=>some (ordV 0 1 p)):=by kernel_rfl
theorem b0_1:((cornX 1 1).all fun p=>(ordV 0 1 p).all fun i=>decide (0≤i)&&decide (i<6))=true:=by kernel_rfl
theorem l0_1:((cornX 1 1).all fun p=>Nat.ble (ordV 0 1 p).length 1000)=true:=by kernel_rfl
theorem o1_0(k:Nat):(cornX 2 0).map (fun p=>impl_around (k+100) (cellsV 2) 1 p)=(cornX 2 0).map (fun p=>some (ordV 1 2 p)):=by kernel_rfl
theorem s1_0(k:Nat):(cornX 2 0).map (fun p=>bif inner 2 p then some []else spec_cbAround (k+100) (idxV 2) [p.1,p.2.1,p.2.2] 2 (cellsV 2))=(cornX 2 0).map (fun p=>some (ordV 1 2 p)):=by kernel_rfl
theorem b1_0:((cornX 2 0).all fun p=>(ordV 1 2 p).all fun i=>decide (0≤i)&&decide (i<24))=true:=by kernel_rfl
theorem l1_0:((cornX 2 0).all fun p=>Nat.ble (ordV 1 2 p).length 1000)=true:=by kernel_rfl
theorem o1_1(k:Nat):(cornX 2 1).map (fun p=>impl_around (k+100) (cellsV 2) 1 p)=(cornX 2 1).map (fun p=>some (ordV 1 2 p)):=by kernel_rfl
theorem s1_1(k:Nat):(cornX 2 1).map (fun p=>bif inner 2 p then some []else spec_cbAround (k+100) (idxV 2) [p.1,p.2.1,p.2.2] 2 (cellsV 2))=(cornX 2 1).map (fun p=>some (ordV 1 2 p)):=by kernel_rfl
theorem b1_1:((cornX 2 1).all fun p=>(ordV 1 2 p).all fun i=>decide (0≤i)&&decide (i<24))=true:=by kernel_rfl
theorem l1_1:((cornX 2 1).all fun p=>Nat.ble (ordV 1 2 p).length 1000)=true:=by kernel_rfl
theorem o1_2(k:Nat):(cornX 2 2).map (fun p=>impl_around (k+100) (cellsV 2) 1 p)=(cornX 2 2).map (fun p=>some (ordV 1 2 p)):=by kernel_rfl
theorem s1_2(k:Nat):(cornX 2 2).map (fun p=>bif inner 2 p then some []else spec_cbAround (k+100) (idxV 2) [p.1,p.2.1,p.2.2] 2 (cellsV 2))=(cornX 2 2).map (fun p=>some (ordV 1 2 p)):=by kernel_rfl
theorem b1_2:((cornX 2 2).all fun p=>(ordV 1 2 p).all fun i=>decide (0≤i)&&decide (i<24))=true:=by kernel_rfl
theorem l1_2:((cornX 2 2).all fun p=>Nat.ble (ordV 1 2 p).length 1000)=true:=by kernel_rfl
theorem o2_0(k:Nat):(cornX 4 0).map (fun p=>impl_around (k+100) (cellsV 4) 2 p)=(cornX 4 0).map (fun p=>some (ordV 2 4 p)):=by kernel_rfl
theorem s2_0(k:Nat):(cornX 4 0).map (fun p=>bif inner 4 p then some []else spec_cbAround (k+100) (idxV 4) [p.1,p.2.1,p.2.2] 4 (cellsV 4))=(cornX 4 0).map (fun p=>some (ordV 2 4 p)):=by kernel_rfl
theorem b2_0:((cornX 4 0).all fun p=>(ordV 2 4 p).all fun i=>decide (0≤i)&&decide (i<96))=true:=by kernel_rfl
theorem l2_0:((cornX 4 0).all fun p=>Nat.ble (ordV 2 4 p).length 1000)=true:=by kernel_rfl
theorem o2_1(k:Nat):(cornX 4 1).map (fun p=>impl_around (k+100) (cellsV 4) 2 p)=(cornX 4 1).map (fun p=>some (ordV 2 4 p)):=by kernel_rfl
theorem s2_1(k:Nat):(cornX 4 1).map (fun p=>bif inner 4 p then some []else spec_cbAround (k+100) (idxV 4) [p.1,p.2.1,p.2.2] 4 (cellsV 4))=(cornX 4 1).map (fun p=>some (ordV 2 4 p)):=by kernel_rfl
theorem b2_1:((cornX 4 1).all fun p=>(ordV 2 4 p).all fun i=>decide (0≤i)&&decide (i<96))=true:=by kernel_rfl
theorem l2_1:((cornX 4 1).all fun p=>Nat.ble (ordV 2 4 p).length 1000)=true:=by kernel_rfl
theorem o2_2(k:Nat):(cornX 4 2).map (fun p=>impl_around (k+100) (cellsV 4) 2 p)=(cornX 4 2).map (fun p=>some (ordV 2 4 p)):=by kernel_rfl
theorem s2_2(k:Nat):(cornX 4 2).map (fun p=>bif inner 4 p then some []else spec_cbAround (k+100) (idxV 4) [p.1,p.2.1,p.2.2] 4 (cellsV 4))=(cornX 4 2).map (fun p=>some (ordV 2 4 p)):=by kernel_rfl
theorem b2_2:((cornX 4 2).all fun p=>(ordV 2 4 p).all fun i=>decide (0≤i)&&decide (i<96))=true:=by kernel_rfl
theorem l2_2:((cornX 4 2).all fun p=>Nat.ble (ordV 2 4 p).length 1000)=true:=by kernel_rfl
theorem o2_3(k:Nat):(cornX 4 3).map (fun p=>impl_around (k+100) (cellsV 4) 2 p)=(cornX 4 3).map (fun p=>some (ordV 2 4 p)):=by kernel_rfl
theorem s2_3(k:Nat):(cornX 4 3).map (fun p=>bif inner 4 p then some []else spec_cbAround (k+100) (idxV 4) [p.1,p.2.1,p.2.2] 4 (cellsV 4))=(cornX 4 3).map (fun p=>some (ordV 2 4 p)):=by kernel_rfl
theorem b2_3:((cornX 4 3).all fun p=>(ordV 2 4 p).all fun i=>decide (0≤i)&&decide (i<96))=true:=by kernel_rfl
theorem l2_3:((cornX 4 3).all fun p=>Nat.ble (ordV 2 4 p).length 1000)=true:=by kernel_rfl
theorem o2_4(k:Nat):(cornX 4 4).map (fun p=>impl_around (k+100) (cellsV 4) 2 p)=(cornX 4 4).map (fun p=>some (ordV 2 4 p)):=by kernel_rfl
theorem s2_4(k:Nat):(cornX 4 4).map (fun p=>bif inner 4 p then some []else spec_cbAround (k+100) (idxV 4) [p.1,p.2.1,p.2.2] 4 (cellsV 4))=(cornX 4 4).map (fun p=>some (ordV 2 4 p)):=by kernel_rfl
theorem b2_4:((cornX 4 4).all fun p=>(ordV 2 4 p).all fun i=>decide (0≤i)&&decide (i<96))=true:=by kernel_rfl
theorem l2_4:((cornX 4 4).all fun p=>Nat.ble (ordV 2 4 p).length 1000)=true:=by kernel_rfl

theorem cornX_mem{n x:Nat}{y z:Int}(hy:0≤y)(hy2:y≤n)(hz:0≤z)(hz2:z≤n):((x:Int),y,z)∈cornX n x:=by
 unfold cornX
 rw [List.mem_flatMap]
 refine⟨y.toNat,by rw [List.mem_range];omega,?_⟩
 rw [List.mem_map]
 refine⟨z.toNat,by rw [List.mem_range];omega,?_⟩
 simp only [Prod.mk.injEq,true_and]
 omega

theorem map_at{α β:Type}{f g:α→β}{l:List α}(h:l.map f=l.map g){p:α}(hp:p∈l):f p=g p:=List.map_inj_left.1 h p hp

structure InB(d:Nat)(x y z:Int):Prop where
 hd:d≤2
 x0:0≤x
 x1:x≤(2 ^ d:Nat)
 y0:0≤y
 y1:y≤(2 ^ d:Nat)
 z0:0≤z
 z1:z≤(2 ^ d:Nat)

theorem around_ord{d:Nat}{x y z:Int}(h:InB d x y z)(k:Nat):impl_around (k+100) (cellsV (2 ^ d)) d (x,y,z)=some (ordV d (2 ^ d) (x,y,z)):=by
 obtain⟨hd,x0,x1,y0,y1,z0,z1⟩:=h
 have hd3:d=0∨d=1∨d=2:=by omega
 rcases hd3 with rfl | rfl | rfl
 ·have hx:x=0∨x=1:=by simp at x1;omega
  rcases hx with rfl | rfl
  ·exact map_at (o0_0 k) (cornX_mem (x:=0) y0 y1 z0 z1)
  ·exact map_at (o0_1 k) (cornX_mem (x:=1) y0 y1 z0 z1)
 ·have hx:x=0∨x=1∨x=2:=by simp at x1;omega
  rcases hx with rfl | rfl | rfl
  ·exact map_at (o1_0 k) (cornX_mem (x:=0) y0 y1 z0 z1)
  ·exact map_at (o1_1 k) (cornX_mem (x:=1) y0 y1 z0 z1)
  ·exact map_at (o1_2 k) (cornX_mem (x:=2) y0 y1 z0 z1)
 ·have hx:x=0∨x=1∨x=2∨x=3∨x=4:=by simp at x1;omega
  rcases hx with rfl | rfl | rfl | rfl | rfl
  ·exact map_at (o2_0 k) (cornX_mem (x:=0) y0 y1 z0 z1)
  ·exact map_at (o2_1 k) (cornX_mem (x:=1) y0 y1 z0 z1)
  ·exact map_at (o2_2 k) (cornX_mem (x:=2) y0 y1 z0 z1)
  ·exact map_at (o2_3 k) (cornX_mem (x:=3) y0 y1 z0 z1)
  ·exact map_at (o2_4 k) (cornX_mem (x:=4) y0 y1 z0 z1)
theorem saround_ord{d:Nat}{x y z:Int}(h:InB d x y z)(k:Nat):(bif inner (2 ^ d) (x,y,z)then some []else spec_cbAround (k+100) (idxV (2 ^ d)) [x,y,z] ((2 ^ d:Nat):Int) (cellsV (2 ^ d)))=some (ordV d (2 ^ d) (x,y,z)):=by
 obtain⟨hd,x0,x1,y0,y1,z0,z1⟩:=h
 have hd3:d=0∨d=1∨d=2:=by omega
 rcases hd3 with rfl | rfl | rfl
 ·have hx:x=0∨x=1:=by simp at x1;omega
  rcases hx with rfl | rfl
  ·exact map_at (s0_0 k) (cornX_mem (x:=0) y0 y1 z0 z1)
  ·exact map_at (s0_1 k) (cornX_mem (x:=1) y0 y1 z0 z1)
 ·have hx:x=0∨x=1∨x=2:=by simp at x1;omega
  rcases hx with rfl | rfl | rfl
  ·exact map_at (s1_0 k) (cornX_mem (x:=0) y0 y1 z0 z1)
  ·exact map_at (s1_1 k) (cornX_mem (x:=1) y0 y1 z0 z1)
  ·exact map_at (s1_2 k) (cornX_mem (x:=2) y0 y1 z0 z1)
 ·have hx:x=0∨x=1∨x=2∨x=3∨x=4:=by simp at x1;omega
  rcases hx with rfl | rfl | rfl | rfl | rfl
  ·exact map_at (s2_0 k) (cornX_mem (x:=0) y0 y1 z0 z1)
  ·exact map_at (s2_1 k) (cornX_mem (x:=1) y0 y1 z0 z1)
  ·exact map_at (s2_2 k) (cornX_mem (x:=2) y0 y1 z0 z1)
  ·exact map_at (s2_3 k) (cornX_mem (x:=3) y0 y1 z0 z1)
  ·exact map_at (s2_4 k) (cornX_mem (x:=4) y0 y1 z0 z1)
theorem all_at{l:List (Int×Int×Int)}{q:Int×Int×Int→List Int}{m:Int}(h:(l.all fun p=>(q p).all fun i=>decide (0≤i)&&decide (i<m))=true){p:Int×Int×Int}(hp:p∈l):∀i∈q p,0≤i∧i<m:=by
 intro i hi
 have h1:=List.all_eq_true.1 (List.all_eq_true.1 h p hp) i hi
 rw [Bool.and_eq_true]at h1
 exact⟨of_decide_eq_true h1.1,of_decide_eq_true h1.2⟩
theorem ord_bnd{d:Nat}{x y z:Int}(h:InB d x y z):∀i∈ordV d (2 ^ d) (x,y,z),0≤i∧i<((6*2 ^ d*2 ^ d:Nat):Int):=by
 obtain⟨hd,x0,x1,y0,y1,z0,z1⟩:=h
 have hd3:d=0∨d=1∨d=2:=by omega
 rcases hd3 with rfl | rfl | rfl
 ·have hx:x=0∨x=1:=by simp at x1;omega
  rcases hx with rfl | rfl
  ·exact all_at b0_0 (cornX_mem (x:=0) y0 y1 z0 z1)
  ·exact all_at b0_1 (cornX_mem (x:=1) y0 y1 z0 z1)
 ·have hx:x=0∨x=1∨x=2:=by simp at x1;omega
  rcases hx with rfl | rfl | rfl
  ·exact all_at b1_0 (cornX_mem (x:=0) y0 y1 z0 z1)
  ·exact all_at b1_1 (cornX_mem (x:=1) y0 y1 z0 z1)
  ·exact all_at b1_2 (cornX_mem (x:=2) y0 y1 z0 z1)
 ·have hx:x=0∨x=1∨x=2∨x=3∨x=4:=by simp at x1;omega
  rcases hx with rfl | rfl | rfl | rfl | rfl
  ·exact all_at b2_0 (cornX_mem (x:=0) y0 y1 z0 z1)
  ·exact all_at b2_1 (cornX_mem (x:=1) y0 y1 z0 z1)
  ·exact all_at b2_2 (cornX_mem (x:=2) y0 y1 z0 z1)
  ·exact all_at b2_3 (cornX_mem (x:=3) y0 y1 z0 z1)
  ·exact all_at b2_4 (cornX_mem (x:=4) y0 y1 z0 z1)
theorem len_at{l:List (Int×Int×Int)}{q:Int×Int×Int→List Int}(h:(l.all fun p=>Nat.ble (q p).length 1000)=true){p:Int×Int×Int}(hp:p∈l):(q p).length≤1000:=Nat.le_of_ble_eq_true (List.all_eq_true.1 h p hp)
theorem ordV_len{d:Nat}{x y z:Int}(h:InB d x y z):(ordV d (2 ^ d) (x,y,z)).length≤1000:=by
 obtain⟨hd,x0,x1,y0,y1,z0,z1⟩:=h
 have hd3:d=0∨d=1∨d=2:=by omega
 rcases hd3 with rfl | rfl | rfl
 ·have hx:x=0∨x=1:=by simp at x1;omega
  rcases hx with rfl | rfl
  ·exact len_at l0_0 (cornX_mem (x:=0) y0 y1 z0 z1)
  ·exact len_at l0_1 (cornX_mem (x:=1) y0 y1 z0 z1)
 ·have hx:x=0∨x=1∨x=2:=by simp at x1;omega
  rcases hx with rfl | rfl | rfl
  ·exact len_at l1_0 (cornX_mem (x:=0) y0 y1 z0 z1)
  ·exact len_at l1_1 (cornX_mem (x:=1) y0 y1 z0 z1)
  ·exact len_at l1_2 (cornX_mem (x:=2) y0 y1 z0 z1)
 ·have hx:x=0∨x=1∨x=2∨x=3∨x=4:=by simp at x1;omega
  rcases hx with rfl | rfl | rfl | rfl | rfl
  ·exact len_at l2_0 (cornX_mem (x:=0) y0 y1 z0 z1)
  ·exact len_at l2_1 (cornX_mem (x:=1) y0 y1 z0 z1)
  ·exact len_at l2_2 (cornX_mem (x:=2) y0 y1 z0 z1)
  ·exact len_at l2_3 (cornX_mem (x:=3) y0 y1 z0 z1)
  ·exact len_at l2_4 (cornX_mem (x:=4) y0 y1 z0 z1)
end Go.Ev.G

namespace Go.Ev.G
open Go Go.Ev
set_option maxRecDepth 100000

theorem cbAround_L58_nat(k:Nat)(A B x1:List Int)(x2:Int)(x3:List (Int×Bool×Int×Int))(x21:List Int)(x22:Int):∀(n:Nat) (x9:List Int) (x23:Int),
  spec_cbAround_L58 k n A x1 x2 x3 x9 x21 x22 x23=(spec_cbAround_L58 k n B x1 x2 x3 x9 x21 x22 x23).map (Sum.map id fun t=>(A,t.2))
 | 0,_,_=>rfl
 | n+1,x9,x23=>by
  rw [spec_cbAround_L58.eq_2,spec_cbAround_L58.eq_2]
  simp only [cbAround_L58_nat k A B x1 x2 x3 x21 x22 n]
  cases decide (x23<x22)
  ·rfl
  cases decide (0≤x23)
  ·rfl
  cases decide (x23<(x21.length:Int))
  ·rfl
  simp only [cond_true]
  cases (x21.getD (Int.toNat x23) 0==0)
  ·simp only [cond_false]
   cases (x21.getD (Int.toNat x23) 0==x2)
   ·rfl
   ·simp only [cond_true]
    cases decide (x23<(x9.length:Int)) <;> rfl
  ·simp only [cond_true]
   cases decide (x23<(x9.length:Int)) <;> rfl

def labF(A:List Int)(i:Int):Int:=A.getD i.toNat 0

theorem cbAround_L506_nat(k:Nat){A B:List Int}(hl:A.length=B.length)(hf:∀i:Nat,i<B.length→A.getD i 0=labF A (B.getD i 0))(x1:List Int)(x2:Int)(x9:List Int)(x41:List (Int×Bool×Int×Int))(x42:Int):∀(n:Nat) (x12:List (List Int)) (x13:List Int) (x43:Int),
  spec_cbAround_L506 k n A x1 x2 x9 x12 (x13.map (labF A)) x41 x42 x43=(spec_cbAround_L506 k n B x1 x2 x9 x12 x13 x41 x42 x43).map (Sum.map id fun t=>(t.1,t.2.1,t.2.2.1.map (labF A),()))
 | 0,_,_,_=>rfl
 | n+1,x12,x13,x43=>by
  rw [spec_cbAround_L506.eq_2,spec_cbAround_L506.eq_2]
  have ih:=cbAround_L506_nat k hl hf x1 x2 x9 x41 x42 n
  cases decide (x43<x42)
  ·rfl
  cases h0:decide (0≤x43)
  ·rfl
  cases decide (x43<(x41.length:Int))
  ·rfl
  simp only [cond_true]
  cases spec_cbOffset k (x41.getD (Int.toNat x43) (0,false,0,0)) x1 x2 with
  | none=>rfl
  | some r4 =>
   simp only [Option.bind_some]
   cases decide ((r4.length:Int)>0)
   ·simp only [cond_false]
    exact ih _ _ _
   ·simp only [cond_true]
    cases decide (x12.length+([r4]:List (List Int)).length<274877906944)
    ·rfl
    simp only [cond_true,hl,List.length_map]
    cases hb:decide (x43<(B.length:Int))
    ·rfl
    simp only [cond_true,List.length_cons,List.length_nil]
    cases decide (x13.length+(0+1)<274877906944)
    ·rfl
    simp only [cond_true]
    have h0:=of_decide_eq_true h0
    have hb:=of_decide_eq_true hb
    have e:x13.map (labF A) ++ [A.getD (Int.toNat x43) 0]=(x13 ++ [B.getD (Int.toNat x43) 0]).map (labF A):=by
     rw [List.map_append,hf _ (by omega)];rfl
    rw [e]
    exact ih _ _ _

theorem cbAround_L1047142_nat(k:Nat)(f:Int→Int)(x9:List Int)(x12:List (List Int))(x13 x17:List Int)(x18 x68 x69 x79:Int):∀(n:Nat) (x80:Int),
  spec_cbAround_L1047142 k n x9 x12 (x13.map f) (x17.map f) x18 x68 x69 x79 x80=(spec_cbAround_L1047142 k n x9 x12 x13 x17 x18 x68 x69 x79 x80).map (Sum.map id fun t=>(t.1,t.2.1,t.2.2.1.map f,t.2.2.2.1.map f,t.2.2.2.2))
 | 0,_=>rfl
 | n+1,x80=>by
  rw [spec_cbAround_L1047142.eq_2,spec_cbAround_L1047142.eq_2]
  simp only [cbAround_L1047142_nat k f x9 x12 x13 x17 x18 x68 x69 x79 n]
  cases decide (x80<x79)
  ·rfl
  cases decide (0≤x18)
  ·rfl
  cases decide (x18<(x12.length:Int))
  ·rfl
  cases decide (0≤x80)
  ·rfl
  cases decide (x80<(x12.length:Int))
  ·rfl
  simp only [cond_true]
  cases spec_cbTurn x9 (x12.getD (Int.toNat x18) []) (x12.getD (Int.toNat x80) [])with
  | none=>rfl
  | some r8 =>
   simp only [Option.bind_some]
   cases decide (r8>0) <;> rfl

theorem both_map{R P P' A:Type}(o:Option (R ⊕ P))(g:P→P')(f:R→Option A)(h:P'→Option A):both (o.map (Sum.map id g)) f h=both o f (fun y=>h (g y)):=by
 cases o with
 | none=>rfl
 | some s=>cases s <;> rfl

theorem map_both{R P A B:Type}(o:Option (R ⊕ P))(f:R→Option A)(h:P→Option A)(u:A→B):(both o f h).map u=both o (fun r=>(f r).map u) (fun y=>(h y).map u):=by
 cases o with
 | none=>rfl
 | some s=>cases s <;> rfl

theorem L1047142_inr(k:Nat)(x9:List Int)(x12:List (List Int))(x13 x17:List Int)(x18 x68 x69 x79:Int):∀(n:Nat) (x80:Int) (r:List Int),spec_cbAround_L1047142 k n x9 x12 x13 x17 x18 x68 x69 x79 x80≠some (.inl r)
 | 0,_,_=>by simp [spec_cbAround_L1047142]
 | n+1,x80,r=>by
  rw [spec_cbAround_L1047142.eq_2]
  have ih:=L1047142_inr k x9 x12 x13 x17 x18 x68 x69 x79 n
  cases decide (x80<x79)
  ·simp
  cases decide (0≤x18)
  ·simp
  cases decide (x18<(x12.length:Int))
  ·simp
  cases decide (0≤x80)
  ·simp
  cases decide (x80<(x12.length:Int))
  ·simp
  simp only [cond_true]
  cases spec_cbTurn x9 (x12.getD (Int.toNat x18) []) (x12.getD (Int.toNat x80) [])with
  | none=>simp
  | some r8 =>
   simp only [Option.bind_some]
   cases decide (r8>0)
   ·exact ih _ _
   ·simp

theorem cbAround_L4090_nat(k:Nat)(f:Int→Int)(hf0:f 0=f 0):∀(n:Nat) (x9:List Int) (x12:List (List Int)) (x13 x17:List Int) (x18 x68 x69:Int),
  spec_cbAround_L4090 k n x9 x12 (x13.map f) (x17.map f) x18 x68 x69=(spec_cbAround_L4090 k n x9 x12 x13 x17 x18 x68 x69).map (Sum.map (List.map f) fun t=>(t.1.map f,()))
 | 0,_,_,_,_,_,_,_=>rfl
 | n+1,x9,x12,x13,x17,x18,x68,x69=>by
  rw [spec_cbAround_L4090.eq_2,spec_cbAround_L4090.eq_2]
  have ih:=cbAround_L4090_nat k f hf0 n
  cases decide (x69<x68)
  ·rfl
  cases h0:decide (0≤x18)
  ·rfl
  simp only [cond_true,List.length_map]
  cases hb:decide (x18<(x13.length:Int))
  ·rfl
  simp only [cond_true,List.length_cons,List.length_nil]
  cases decide (x17.length+(0+1)<274877906944)
  ·rfl
  simp only [cond_true]
  have h0:=of_decide_eq_true h0
  have hb:=of_decide_eq_true hb
  have e:x17.map f ++ [(x13.map f).getD (Int.toNat x18) 0]=(x17 ++ [x13.getD (Int.toNat x18) 0]).map f:=by
   have hlt:Int.toNat x18<x13.length:=by omega
   rw [List.map_append,List.getD_eq_getElem?_getD,List.getD_eq_getElem?_getD,List.getElem?_map,List.getElem?_eq_getElem hlt]
   rfl
  rw [e,cbAround_L1047142_nat,both_map,map_both]
  cases hi:spec_cbAround_L1047142 k k x9 x12 x13 (x17 ++ [x13.getD (Int.toNat x18) 0]) x18 x68 x69 x12.length 0 with
  | none=>rfl
  | some s =>
   cases s with
   | inl r=>exact absurd hi (L1047142_inr k _ _ _ _ _ _ _ _ _ _ _)
   | inr y=>exact ih _ _ _ _ _ _ _

theorem L58_inr(k:Nat)(A x1:List Int)(x2:Int)(x3:List (Int×Bool×Int×Int))(x21:List Int)(x22:Int):∀(n:Nat) (x9:List Int) (x23:Int) (r:List Int),spec_cbAround_L58 k n A x1 x2 x3 x9 x21 x22 x23≠some (.inl r)
 | 0,_,_,_=>by simp [spec_cbAround_L58]
 | n+1,x9,x23,r=>by
  rw [spec_cbAround_L58.eq_2]
  have ih:=L58_inr k A x1 x2 x3 x21 x22 n
  cases decide (x23<x22)
  ·simp
  cases decide (0≤x23)
  ·simp
  cases decide (x23<(x21.length:Int))
  ·simp
  simp only [cond_true]
  cases (x21.getD (Int.toNat x23) 0==0)
  ·simp only [cond_false]
   cases (x21.getD (Int.toNat x23) 0==x2)
   ·exact ih _ _ _
   ·simp only [cond_true]
    cases decide (x23<(x9.length:Int))
    ·simp
    ·exact ih _ _ _
  ·simp only [cond_true]
   cases decide (x23<(x9.length:Int))
   ·simp
   ·exact ih _ _ _

theorem L506_inr(k:Nat)(A x1:List Int)(x2:Int)(x9:List Int)(x41:List (Int×Bool×Int×Int))(x42:Int):∀(n:Nat) (x12:List (List Int)) (x13:List Int) (x43:Int) (r:List Int),spec_cbAround_L506 k n A x1 x2 x9 x12 x13 x41 x42 x43≠some (.inl r)
 | 0,_,_,_,_=>by simp [spec_cbAround_L506]
 | n+1,x12,x13,x43,r=>by
  rw [spec_cbAround_L506.eq_2]
  have ih:=L506_inr k A x1 x2 x9 x41 x42 n
  cases decide (x43<x42)
  ·simp
  cases decide (0≤x43)
  ·simp
  cases decide (x43<(x41.length:Int))
  ·simp
  simp only [cond_true]
  cases spec_cbOffset k (x41.getD (Int.toNat x43) (0,false,0,0)) x1 x2 with
  | none=>simp
  | some r4 =>
   simp only [Option.bind_some]
   cases decide ((r4.length:Int)>0)
   ·exact ih _ _ _ _
   ·simp only [cond_true]
    cases decide (x12.length+([r4]:List (List Int)).length<274877906944)
    ·simp
    simp only [cond_true]
    cases decide (x43<(A.length:Int))
    ·simp
    simp only [cond_true]
    cases decide (x13.length+([(A.getD (Int.toNat x43) 0)]:List Int).length<274877906944)
    ·simp
    ·exact ih _ _ _ _

theorem cbAround_nat(k:Nat){A B:List Int}(hl:A.length=B.length)(hf:∀i:Nat,i<B.length→A.getD i 0=labF A (B.getD i 0))(p:List Int)(n:Int)(c:List (Int×Bool×Int×Int)){r:List Int}
  (h:spec_cbAround k B p n c=some r):spec_cbAround k A p n c=some (r.map (labF A)):=by
 unfold spec_cbAround at h ⊢
 rw [cbAround_L58_nat k A B,both_map]
 cases h1:spec_cbAround_L58 k k B p n c [0,0,0] p p.length 0 with
 | none=>rw [h1]at h;cases h
 | some s1 =>
  rw [h1]at h
  cases s1 with
  | inl r1=>exact absurd h1 (L58_inr k _ _ _ _ _ _ _ _ _ _)
  | inr y2 =>
   have hB:=cbAround_L58_nat k B B p n c p p.length k [0,0,0] 0
   rw [h1]at hB
   have hB:y2.1=B:=by
    simp only [Option.map_some,Sum.map_inr,Option.some.injEq,Sum.inr.injEq]at hB
    rw [hB]
   unfold both at h ⊢
   simp only [Option.bind_some,hB]at h ⊢
   have e0:([]:List Int)=([]:List Int).map (labF A):=rfl
   rw [show spec_cbAround_L506 k k A y2.2.1 y2.2.2.1 y2.2.2.2.2.1 [] [] y2.2.2.2.1 y2.2.2.2.1.length 0=spec_cbAround_L506 k k A y2.2.1 y2.2.2.1 y2.2.2.2.2.1 [] (([]:List Int).map (labF A)) y2.2.2.2.1 y2.2.2.2.1.length 0 from rfl,cbAround_L506_nat k hl hf]
   cases h2:spec_cbAround_L506 k k B y2.2.1 y2.2.2.1 y2.2.2.2.2.1 [] [] y2.2.2.2.1 y2.2.2.2.1.length 0 with
   | none=>rw [h2]at h;cases h
   | some s2 =>
    rw [h2]at h
    cases s2 with
    | inl r2=>exact absurd h2 (L506_inr k _ _ _ _ _ _ _ _ _ _ _)
    | inr y6 =>
     simp only [Option.map_some,Sum.map_inr,Option.bind_some]at h ⊢
     rw [show spec_cbAround_L4090 k k y6.1 y6.2.1 (y6.2.2.1.map (labF A)) [] 0 y6.2.1.length 0=spec_cbAround_L4090 k k y6.1 y6.2.1 (y6.2.2.1.map (labF A)) (([]:List Int).map (labF A)) 0 y6.2.1.length 0 from rfl,cbAround_L4090_nat k (labF A) rfl]
     cases h3:spec_cbAround_L4090 k k y6.1 y6.2.1 y6.2.2.1 [] 0 y6.2.1.length 0 with
     | none=>rw [h3]at h;cases h
     | some s3 =>
      rw [h3]at h
      cases s3 with
      | inl r3=>simp only [Option.bind_some,Option.some.injEq]at h;rw [←h];rfl
      | inr y13=>simp only [Option.bind_some,Option.some.injEq]at h;rw [←h];rfl
end Go.Ev.G

namespace Go.Ev.G
open Go Go.Ev
set_option maxRecDepth 100000

def isLab(a:Int):Prop:=0≤a∧a≤5
def opL(a:Int):Int:=Int.tmod (IntKind.wrap .i64 (a+3)) 6
def triV(a b c:Int):Int:=(impl_countOf a b c).getD 0
theorem isLab_cases{a:Int}(h:isLab a):a=0∨a=1∨a=2∨a=3∨a=4∨a=5:=by unfold isLab at h;omega
theorem opL_op{a:Int}(h:isLab a):opL (opL a)=a:=by
 rcases isLab_cases h with rfl | rfl | rfl | rfl | rfl | rfl <;> rfl
theorem opL_ne{a:Int}(h:isLab a):opL a≠a:=by
 rcases isLab_cases h with rfl | rfl | rfl | rfl | rfl | rfl <;> decide
theorem impl_tri(a b c:Int):impl_countOf a b c=some (triV a b c):=by
 have:∃v,impl_countOf a b c=some v:=by
  unfold impl_countOf both
  cases ((a==0)&&((b==1)&&((c==2)&&true)))
  ·cases ((a==1)&&((b==2)&&((c==0)&&true)))
   ·simp only [cond_false,Option.bind_some]
    cases ((a==2)&&((b==0)&&((c==1)&&true)))
    ·simp only [cond_false]
     cases ((a==0)&&((b==2)&&((c==1)&&true)))
     ·simp only [cond_false]
      cases ((a==2)&&((b==1)&&((c==0)&&true)))
      ·simp only [cond_false]
       cases ((a==1)&&((b==0)&&((c==2)&&true))) <;> exact⟨_,rfl⟩
      ·exact⟨_,rfl⟩
     ·exact⟨_,rfl⟩
    ·exact⟨_,rfl⟩
   ·exact⟨_,rfl⟩
  ·exact⟨_,rfl⟩
 obtain⟨v,hv⟩:=this
 unfold triV
 rw [hv];rfl
theorem tri_all:(List.range 6).map (fun a:Nat=>(List.range 6).map fun b:Nat=>(List.range 6).map fun c:Nat=>spec_cbTriple a b c)=(List.range 6).map (fun a:Nat=>(List.range 6).map fun b:Nat=>(List.range 6).map fun c:Nat=>some (triV a b c)):=by kernel_rfl
theorem spec_tri{a b c:Int}(ha:isLab a)(hb:isLab b)(hc:isLab c):spec_cbTriple a b c=some (triV a b c):=by
 obtain⟨a,rfl⟩:∃m:Nat,a=m:=⟨a.toNat,by unfold isLab at ha;omega⟩
 obtain⟨b,rfl⟩:∃m:Nat,b=m:=⟨b.toNat,by unfold isLab at hb;omega⟩
 obtain⟨c,rfl⟩:∃m:Nat,c=m:=⟨c.toNat,by unfold isLab at hc;omega⟩
 unfold isLab at ha hb hc
 have h1:=List.map_inj_left.1 tri_all a (by rw [List.mem_range];omega)
 have h2:=List.map_inj_left.1 h1 b (by rw [List.mem_range];omega)
 exact List.map_inj_left.1 h2 c (by rw [List.mem_range];omega)

theorem l1Has_ev{L:List Int}(v:Int)(hb:L.length<lenB):Evt (fun k _=>spec_l1Has k L v) (L.contains v):=by
 refine Evt.eq (f:=fun k q=>_) ?_ (fun k q=>by rw [spec_l1Has])
 have key:∀(r d:List Int),d++r=L→Evt (fun k n=>spec_l1Has_L26 k n v L (L.length:Int) d.length) (if r.contains v then .inl true else .inr ()):=by
  intro r
  induction r with
  | nil =>
   intro d h
   rw [List.append_nil]at h
   subst h
   refine Evt.step (fun k n=>spec_l1Has_L26.eq_2 k _ _ _ _ n) ?_
   rw [mid_end]
   exact Evt.cfalse rfl .pure
  | cons e r ih =>
   intro d h
   subst h
   refine Evt.step (fun k n=>spec_l1Has_L26.eq_2 k _ _ _ _ n) (Evt.ctrue mid_lt (Evt.ctrue mid_ge (Evt.ctrue mid_lt ?_)))
   rw [mid_get,List.contains_cons]
   cases he:(e==v)with
   | true =>
    have:(v==e)=true:=by rw [beq_iff_eq]at he ⊢; exact he.symm
    rw [this]
    exact Evt.ctrue rfl .pure
   | false =>
    have:(v==e)=false:=by rw [beq_eq_false_iff_ne]at he ⊢; exact fun h=>he h.symm
    rw [this,Bool.false_or]
    refine Evt.cfalse rfl ?_
    rw [w64_next (by simp at hb;omega)]
    have:=ih (d ++ [e]) (by simp)
    simpa using this
 have:=key L [] rfl
 cases hc:L.contains v with
 | true=>rw [hc]at this;exact Evt.inl (Evt.diag this) .pure
 | false=>rw [hc]at this;exact Evt.inr (Evt.diag this) .pure

theorem contains_find{v:Int}:∀(L:List Int),(match L.findIdx? (fun e=>v==e)with | some _=>true | none=>false)=L.contains v
 | []=>rfl
 | e::L=>by
  rw [List.findIdx?_cons,List.contains_cons]
  cases v==e with
  | true=>rfl
  | false =>
   have:=contains_find (v:=v) L
   simp only [Bool.false_or,←this,if_neg,Bool.false_eq_true]
   cases L.findIdx? (fun e=>v==e) <;> rfl
theorem contains_ev{L:List Int}(v:Int)(hb:L.length<lenB):Evt (fun k _=>slices_Contains_int_int k L v) (L.contains v):=by
 refine Evt.eq (f:=fun k q=>_) ?_ (fun k q=>by rw [slices_Contains_int_int])
 have h0:=index_all (d0:=(0:Int)) (L:=fun k m i=>slices_Index_int_int_L26 k m L v (L.length:Int) i) (xs:=L) (p:=fun _ e=>some (v==e)) (P:=fun e=>v==e) (fun _ _ => .pure) (fun _ _ _=>rfl) hb
 have h1:Evt (fun k _=>slices_Index_int_int k L v) (match L.findIdx? (fun e=>v==e)with | some j=>(j:Int) | none => -1):=by
  refine Evt.eq (f:=fun k q=>_) ?_ (fun k q=>by rw [slices_Index_int_int])
  cases hi:L.findIdx? (fun e=>v==e)with
  | none=>rw [hi]at h0;exact Evt.inr (Evt.diag h0) .pure
  | some j=>rw [hi]at h0;exact Evt.inl (Evt.diag h0) .pure
 refine Evt.bind h1 (.const ?_)
 rw [←contains_find]
 cases L.findIdx? (fun e=>v==e)with
 | none=>rfl
 | some j=>simp

def oppS(L:List Int):Bool:=L.any fun l=>L.contains (opL l)
def oppI:List Int→Bool
 | []=>false
 | l::r=>r.contains (opL l)||oppI r
theorem oppI_iff:∀ {L:List Int},(∀l∈L,isLab l)→(oppI L=true↔∃a∈L,opL a∈L)
 | [],_=>by simp [oppI]
 | l::r,h=>by
  have ih:=oppI_iff (L:=r) fun x hx=>h x (by simp [hx])
  have hl:=h l (by simp)
  simp only [oppI,Bool.or_eq_true,List.contains_iff_mem,ih]
  constructor
  ·rintro(h1 | ⟨a,ha,hb⟩)
   ·exact⟨l,by simp,by simp [h1]⟩
   ·exact⟨a,by simp [ha],by simp [hb]⟩
  ·rintro⟨a,ha,hb⟩
   rcases List.mem_cons.1 ha with rfl | ha
   ·rcases List.mem_cons.1 hb with hb | hb
    ·exact absurd hb (opL_ne hl)
    ·exact .inl hb
   ·rcases List.mem_cons.1 hb with hb | hb
    ·refine .inl ?_
     rw [←hb,opL_op (h a (by simp [ha]))]
     exact ha
    ·exact .inr ⟨a,ha,hb⟩
theorem opp_eq{L:List Int}(h:∀l∈L,isLab l):oppS L=oppI L:=by
 rw [Bool.eq_iff_iff,oppI_iff h]
 simp [oppS]

def sumL(a:Int):Int→List Int→Int→Int
 | _,[],s=>s
 | p,c::cs,s=>sumL a c cs (IntKind.wrap .i64 (s+triV a p c))
def sumC:List Int→Int→Int
 | a::b::cs,s=>sumL a b cs s
 | _,s=>s
theorem sumC_cases:∀(L:List Int),(L.length≤1∧∀s,sumC L s=s)∨∃a b cs,L=a::b::cs∧∀s,sumC L s=sumL a b cs s
 | [] => .inl ⟨by simp,fun _=>rfl⟩
 | [_] => .inl ⟨by simp,fun _=>rfl⟩
 | a::b::cs => .inr ⟨a,b,cs,rfl,fun _=>rfl⟩

section
variable {x0 : List Int} {x6 : Int} {x7 : List (Int × Bool × Int × Int)} {x9 x10 x11 : Int}
theorem specSum_ev{L:List Int}(hL:∀l∈L,isLab l)(hb:L.length<lenB)(x8:Int) :
  Evt (fun k n=>spec_cbDegree_L524887198 k n x0 x6 x7 x8 x9 x10 x11 L 2) (.inr (x0,x6,x7,sumC L x8,x9,x10,x11,())):=by
 have stop:∀(i x8:Int),(L.length:Int)≤i→Evt (fun k n=>spec_cbDegree_L524887198 k n x0 x6 x7 x8 x9 x10 x11 L i) (.inr (x0,x6,x7,x8,x9,x10,x11,())):=fun i x8 h =>
  Evt.step (fun k n=>spec_cbDegree_L524887198.eq_2 k _ _ _ _ _ _ _ _ _ n) (Evt.cfalse (decide_eq_false (by omega)) .pure)
 rcases sumC_cases L with ⟨h1,h2⟩ | ⟨a,b,cs,hL2,h2⟩
 ·rw [h2]
  exact stop 2 x8 (by omega)
 ·rw [h2]
  have key:∀(cs d:List Int) (p x8:Int),L=a::(d++p::cs)→Evt (fun k n=>spec_cbDegree_L524887198 k n x0 x6 x7 x8 x9 x10 x11 L ((d.length+2:Nat):Int)) (.inr (x0,x6,x7,sumL a p cs x8,x9,x10,x11,())):=by
   intro cs
   induction cs with
   | nil=>intro d p x8 h;exact stop _ _ (by rw [h];simp;omega)
   | cons c cs ih =>
    intro d p x8 h
    have hlen:L.length=d.length+3+cs.length:=by rw [h];simp;omega
    refine Evt.step (fun k n=>spec_cbDegree_L524887198.eq_2 k _ _ _ _ _ _ _ _ _ n) ?_
    have w:IntKind.wrap .i64 (((d.length+2:Nat):Int) - 1)=((d.length+1:Nat):Int):=by rw [w64] <;> simp only [lenB]at hb <;> omega
    rw [w]
    refine Evt.ctrue (decide_eq_true (by omega)) (Evt.ctrue (decide_eq_true (by omega)) (Evt.ctrue (decide_eq_true (by omega)) (Evt.ctrue (decide_eq_true (by omega)) (Evt.ctrue (decide_eq_true (by omega)) (Evt.ctrue (decide_eq_true (by omega)) ?_)))))
    have g0:L.getD 0 0=a:=by rw [h];rfl
    have g1:L.getD (Int.toNat ((d.length+1:Nat):Int)) 0=p:=by rw [h];simp
    have g2:L.getD (Int.toNat ((d.length+2:Nat):Int)) 0=c:=by rw [h,Int.toNat_natCast];simp
    rw [g0,g1,g2]
    refine Evt.bind (.const (spec_tri (hL a (by rw [h];simp)) (hL p (by rw [h];simp)) (hL c (by rw [h];simp)))) ?_
    rw [w64_next (by simp only [lenB]at hb ⊢; omega)]
    have:=ih (d ++ [p]) c (IntKind.wrap .i64 (x8+triV a p c)) (by rw [h];simp)
    simp only [List.length_append,List.length_cons,List.length_nil,Nat.zero_add]at this
    rw [show d.length+1+2=d.length+2+1 by omega]at this
    exact this
  exact key cs [] b x8 hL2
theorem specOpp_ev{L:List Int}(hb:L.length<lenB)(x8:Int) :
  Evt (fun k n=>spec_cbDegree_L524887194 k n x0 x6 x7 x8 x9 x10 x11 L L (L.length:Int) 0) (if oppS L then .inl (0,false)else .inr (x0,x6,x7,x8,x9,x10,x11,L,())):=by
 have key:∀(r d:List Int),d++r=L→Evt (fun k n=>spec_cbDegree_L524887194 k n x0 x6 x7 x8 x9 x10 x11 L L (L.length:Int) d.length) (if (r.any fun l=>L.contains (opL l))then .inl (0,false)else .inr (x0,x6,x7,x8,x9,x10,x11,L,())):=by
  intro r
  induction r with
  | nil =>
   intro d h
   rw [List.append_nil]at h
   subst h
   refine Evt.step (fun k n=>spec_cbDegree_L524887194.eq_2 k _ _ _ _ _ _ _ _ _ _ _ n) ?_
   rw [mid_end]
   exact Evt.cfalse rfl .pure
  | cons e r ih =>
   intro d h
   refine Evt.step (fun k n=>spec_cbDegree_L524887194.eq_2 k _ _ _ _ _ _ _ _ _ _ _ n) ?_
   have h1:decide ((d.length:Int)<(L.length:Int))=true:=by rw [←h];exact mid_lt
   have h2:L.getD (Int.toNat (d.length:Int)) 0=e:=by rw [←h];exact mid_get
   refine Evt.ctrue h1 (Evt.ctrue mid_ge (Evt.ctrue h1 ?_))
   rw [h2]
   refine Evt.bind (l1Has_ev _ hb) ?_
   rw [List.any_cons]
   show Evt (fun k n=>bif L.contains (opL e)then _ else _) _
   cases L.contains (opL e)with
   | true=>exact Evt.ctrue rfl .pure
   | false =>
    refine Evt.cfalse rfl ?_
    rw [w64_next (by rw [←h]at hb;simp at hb;omega),Bool.false_or]
    have:=ih (d ++ [e]) (by simpa using h)
    simpa using this
 exact key L [] rfl
end

section
variable {x0 : List Int} {x1 x6 : Int} {x6' : List (Int × Bool × Int × Int)} {x7 x9 x10 x23 x24 x28 x29 x33 x34 : Int}
theorem implSum_ev{L:List Int}(hb:L.length<lenB)(x8:Int) :
  Evt (fun k n=>impl_degreeOfLabels_L7838315326 k n x0 x1 x6' x7 x8 x9 x10 L 2 x23 x24 x28 x29 x33 x34) (.inr (x0,x1,x6',x7,sumC L x8,x9,x10,x23,x24,x28,x29,x33,x34,())):=by
 have stop:∀(i x8:Int),(L.length:Int)≤i→Evt (fun k n=>impl_degreeOfLabels_L7838315326 k n x0 x1 x6' x7 x8 x9 x10 L i x23 x24 x28 x29 x33 x34) (.inr (x0,x1,x6',x7,x8,x9,x10,x23,x24,x28,x29,x33,x34,())):=fun i x8 h =>
  Evt.step (fun k n=>impl_degreeOfLabels_L7838315326.eq_2 k _ _ _ _ _ _ _ _ _ _ _ _ _ _ _ n) (Evt.cfalse (decide_eq_false (by omega)) .pure)
 rcases sumC_cases L with ⟨h1,h2⟩ | ⟨a,b,cs,hL2,h2⟩
 ·rw [h2]
  exact stop 2 x8 (by omega)
 ·rw [h2]
  have key:∀(cs d:List Int) (p x8:Int),L=a::(d++p::cs)→Evt (fun k n=>impl_degreeOfLabels_L7838315326 k n x0 x1 x6' x7 x8 x9 x10 L ((d.length+2:Nat):Int) x23 x24 x28 x29 x33 x34) (.inr (x0,x1,x6',x7,sumL a p cs x8,x9,x10,x23,x24,x28,x29,x33,x34,())):=by
   intro cs
   induction cs with
   | nil=>intro d p x8 h;exact stop _ _ (by rw [h];simp;omega)
   | cons c cs ih =>
    intro d p x8 h
    have hlen:L.length=d.length+3+cs.length:=by rw [h];simp;omega
    refine Evt.step (fun k n=>impl_degreeOfLabels_L7838315326.eq_2 k _ _ _ _ _ _ _ _ _ _ _ _ _ _ _ n) ?_
    have w:IntKind.wrap .i64 (((d.length+2:Nat):Int) - 1)=((d.length+1:Nat):Int):=by rw [w64] <;> simp only [lenB]at hb <;> omega
    rw [w]
    refine Evt.ctrue (decide_eq_true (by omega)) (Evt.ctrue (decide_eq_true (by omega)) (Evt.ctrue (decide_eq_true (by omega)) (Evt.ctrue (decide_eq_true (by omega)) (Evt.ctrue (decide_eq_true (by omega)) (Evt.ctrue (decide_eq_true (by omega)) ?_)))))
    have g0:L.getD 0 0=a:=by rw [h];rfl
    have g1:L.getD (Int.toNat ((d.length+1:Nat):Int)) 0=p:=by rw [h];simp
    have g2:L.getD (Int.toNat ((d.length+2:Nat):Int)) 0=c:=by rw [h,Int.toNat_natCast];simp
    rw [g0,g1,g2]
    refine Evt.bind (.const (impl_tri a p c)) ?_
    rw [w64_next (by simp only [lenB]at hb ⊢; omega)]
    have:=ih (d ++ [p]) c (IntKind.wrap .i64 (x8+triV a p c)) (by rw [h];simp)
    simp only [List.length_append,List.length_cons,List.length_nil,Nat.zero_add]at this
    rw [show d.length+1+2=d.length+2+1 by omega]at this
    exact this
  exact key cs [] b x8 hL2
theorem implOpp_ev{L:List Int}(hb:L.length<lenB)(x8:Int) :
  Evt (fun k n=>impl_degreeOfLabels_L7838315322 k n x0 x1 x6' x7 x8 x9 x10 L x23 x24 x28 x29 x33 x34 L (L.length:Int) 0) (if oppI L then .inl (0,false)else .inr (x0,x1,x6',x7,x8,x9,x10,L,x23,x24,x28,x29,x33,x34,())):=by
 have key:∀(r d:List Int),d++r=L→Evt (fun k n=>impl_degreeOfLabels_L7838315322 k n x0 x1 x6' x7 x8 x9 x10 L x23 x24 x28 x29 x33 x34 L (L.length:Int) d.length) (if oppI r then .inl (0,false)else .inr (x0,x1,x6',x7,x8,x9,x10,L,x23,x24,x28,x29,x33,x34,())):=by
  intro r
  induction r with
  | nil =>
   intro d h
   rw [List.append_nil]at h
   subst h
   refine Evt.step (fun k n=>impl_degreeOfLabels_L7838315322.eq_2 k _ _ _ _ _ _ _ _ _ _ _ _ _ _ _ _ _ n) ?_
   rw [mid_end]
   exact Evt.cfalse rfl .pure
  | cons e r ih =>
   intro d h
   refine Evt.step (fun k n=>impl_degreeOfLabels_L7838315322.eq_2 k _ _ _ _ _ _ _ _ _ _ _ _ _ _ _ _ _ n) ?_
   have h1:decide ((d.length:Int)<(L.length:Int))=true:=by rw [←h];exact mid_lt
   have h2:L.getD (Int.toNat (d.length:Int)) 0=e:=by rw [←h];exact mid_get
   have hlen:L.length=d.length+1+r.length:=by rw [←h];simp;omega
   have w:IntKind.wrap .i64 ((d.length:Int)+1)=((d.length+1:Nat):Int):=w64_next (by omega)
   rw [w]
   refine Evt.ctrue h1 (Evt.ctrue mid_ge (Evt.ctrue h1 (Evt.ctrue mid_ge (Evt.ctrue (decide_eq_true (by omega)) ?_))))
   rw [h2]
   have hd:(L.take (Int.toNat (L.length:Int))).drop (Int.toNat ((d.length+1:Nat):Int))=r:=by
    rw [Int.toNat_natCast,Int.toNat_natCast,List.take_length,←h,show d.length+1=(d ++ [e]).length by simp,show d++e::r=(d ++ [e])++r by simp,List.drop_left]
   rw [hd]
   refine Evt.bind (contains_ev _ (by omega)) ?_
   show Evt (fun k n=>bif r.contains (opL e)then _ else _) (if (r.contains (opL e)||oppI r)=true then _ else _)
   cases r.contains (opL e)with
   | true=>exact Evt.ctrue rfl .pure
   | false =>
    refine Evt.cfalse rfl ?_
    rw [Bool.false_or]
    have:=ih (d ++ [e]) (by simpa using h)
    simpa using this
 exact key L [] rfl
theorem implMet_ev(f:Int→Int)(hf:∀i,f i=labF x0 i){o:List Int}(ho:∀i∈o,0≤i∧i<x0.length)(hb:o.length<274877906944)(x8:Int) :
  Evt (fun k n=>impl_degreeOfLabels_L3919157658 k n x0 x1 x6' x7 x8 x9 x10 [] x23 x24 x28 x29 x33 x34 o (o.length:Int) 0) (.inr (x0,x1,x6',x7,x8,x9,x10,o.map f,x23,x24,x28,x29,x33,x34,())):=by
 have key:∀(r d:List Int),d++r=o→Evt (fun k n=>impl_degreeOfLabels_L3919157658 k n x0 x1 x6' x7 x8 x9 x10 (d.map f) x23 x24 x28 x29 x33 x34 o (o.length:Int) d.length) (.inr (x0,x1,x6',x7,x8,x9,x10,o.map f,x23,x24,x28,x29,x33,x34,())):=by
  intro r
  induction r with
  | nil =>
   intro d h
   rw [List.append_nil]at h
   subst h
   refine Evt.step (fun k n=>impl_degreeOfLabels_L3919157658.eq_2 k _ _ _ _ _ _ _ _ _ _ _ _ _ _ _ _ _ n) ?_
   rw [mid_end]
   exact Evt.cfalse rfl .pure
  | cons e r ih =>
   intro d h
   refine Evt.step (fun k n=>impl_degreeOfLabels_L3919157658.eq_2 k _ _ _ _ _ _ _ _ _ _ _ _ _ _ _ _ _ n) ?_
   have h1:decide ((d.length:Int)<(o.length:Int))=true:=by rw [←h];exact mid_lt
   have h2:o.getD (Int.toNat (d.length:Int)) 0=e:=by rw [←h];exact mid_get
   have hlen:o.length=d.length+1+r.length:=by rw [←h];simp;omega
   have he:=ho e (by rw [←h];simp)
   rw [h2]
   refine Evt.ctrue h1 (Evt.ctrue mid_ge (Evt.ctrue h1 (Evt.ctrue (decide_eq_true he.1) (Evt.ctrue (decide_eq_true he.2) (Evt.ctrue (decide_eq_true (by simp;omega)) ?_)))))
   rw [w64_next (by simp only [lenB];omega)]
   have:=ih (d ++ [e]) (by simpa using h)
   rw [List.map_append,List.map_singleton,hf]at this
   simpa [labF] using this
 exact key o [] rfl
end
end Go.Ev.G

namespace Go.Ev.G
open Go Go.Ev
set_option maxRecDepth 100000

def slV(s:List (List Tm))(b:Bx)(d:Int):List Int×Bool:=if askC s b d then allL s b d.toNat else([],false)
theorem lbsV_len{s:List (List Tm)}{b:Bx}{n:Nat}(hn:n≤2):(lbsV s b n).1.length≤96∧((lbsV s b n).2=true↔(lbsV s b n).1.length=(cellsV (2 ^ n)).length):=by
 have hc:=cellsV_len hn
 have h:=colV_len (f:=lbl s b n) (cellsV (2 ^ n))
 unfold lbsV
 exact⟨by omega,h.2⟩
theorem spec_surfaceLabels_ev{s:List (List Tm)}{b:Bx}{d:Int}(hb:s.length<lenB)(hm:∀r∈s,r.length<lenB)(hx:b.2.1.length<lenB):Evt (fun k _=>spec_SurfaceLabels k s b d) (slV s b d):=by
 refine Evt.eq (f:=fun k q=>_) ?_ (fun k q=>by rw [spec_SurfaceLabels])
 refine specC_ask hb hm hx (fun h=>by unfold slV;rw [h];rfl) (fun h => ?_)
 obtain⟨n,rfl,hn,hs,hbb⟩:=askC_form h hm
 unfold slV
 rw [h,if_pos rfl]
 have hl:=lbsV_len (s:=s) (b:=b) hn
 refine Evt.bind (cbLabels_ev hs hbb hn) (Evt.bind (.const (cbCount_eq hn)) ?_)
 have hle:=(colV_len (f:=lbl s b n) (cellsV (2 ^ n))).1
 unfold allL
 simp only [Int.toNat_natCast]
 cases hf:(lbsV s b n).2 with
 | true =>
  have:=hl.2.1 hf
  rw [if_pos rfl]
  exact Evt.cfalse (decide_eq_false (by omega)) .pure
 | false =>
  rw [if_neg (by simp)]
  have : ¬ (lbsV s b n).1.length=(cellsV (2 ^ n)).length:=fun h=>by rw [hl.2.2 h]at hf;cases hf
  have hle':(lbsV s b n).1.length≤(cellsV (2 ^ n)).length:=hle
  exact Evt.ctrue (decide_eq_true (by omega)) .pure
end Go.Ev.G

namespace Go.Ev.G
open Go Go.Ev
set_option maxRecDepth 100000

def cornV(L:List Int)(s:Int):Option Int:=if oppI L then none else some (sumC L s)
def runN(g:Nat→Int→Option Int):Nat→Nat→Int→Option Int
 | 0,_,s=>some s
 | m+1,i,s=>(g i s).bind fun s=>runN g m (i+1) s
def Lof(A:List Int)(d x y z:Nat):List Int:=(ordV d (2 ^ d) ((x:Int),(y:Int),(z:Int))).map (labF A)
def gz(A:List Int)(d x y z:Nat)(s:Int):Option Int:=cornV (Lof A d x y z) s
def gy(A:List Int)(d x y:Nat)(s:Int):Option Int:=runN (gz A d x y) (2 ^ d+1) 0 s
def gx(A:List Int)(d x:Nat)(s:Int):Option Int:=runN (gy A d x) (2 ^ d+1) 0 s
def dgLV(A:List Int)(d:Nat):Int×Bool:=match runN (gx A d) (2 ^ d+1) 0 0 with
 | some s=>(s,true)
 | none=>(0,false)

structure LabOk(A:List Int)(d:Nat):Prop where
 hd:d≤2
 len:A.length=6*2 ^ d*2 ^ d
 lab:∀l∈A,isLab l
theorem LabOk.small{A:List Int}{d:Nat}(h:LabOk A d):A.length≤96:=by
 have:=h.len
 have hd:=h.hd
 rcases(by omega:d=0∨d=1∨d=2)with rfl | rfl | rfl <;> simp at this <;> omega
theorem LabOk.n{A:List Int}{d:Nat}(h:LabOk A d):1≤2 ^ d∧2 ^ d≤4:=by
 have hd:=h.hd
 rcases(by omega:d=0∨d=1∨d=2)with rfl | rfl | rfl <;> decide
theorem LabOk.inb{A:List Int}{d x y z:Nat}(h:LabOk A d)(hx:x≤2 ^ d)(hy:y≤2 ^ d)(hz:z≤2 ^ d):InB d x y z:=⟨h.hd,by omega,by omega,by omega,by omega,by omega,by omega⟩
theorem LabOk.lof{A:List Int}{d x y z:Nat}(h:LabOk A d)(hx:x≤2 ^ d)(hy:y≤2 ^ d)(hz:z≤2 ^ d):∀l∈Lof A d x y z,isLab l:=by
 intro l hl
 unfold Lof at hl
 obtain⟨i,hi,rfl⟩:=List.mem_map.1 hl
 have hb:=ord_bnd (h.inb hx hy hz) i hi
 unfold labF
 have hlt:i.toNat<A.length:=by rw [h.len];omega
 rw [List.getD_eq_getElem?_getD,List.getElem?_eq_getElem hlt]
 exact h.lab _ (List.getElem_mem hlt)
theorem idx_getD{n i:Nat}(h:i<(idxV n).length):(idxV n).getD i 0=i:=by
 unfold idxV at *
 simp only [List.length_map,List.length_range]at h
 simp [List.getD_eq_getElem?_getD,h]
theorem spec_around_ev{A:List Int}{d x y z:Nat}(h:LabOk A d)(hx:x≤2 ^ d)(hy:y≤2 ^ d)(hz:z≤2 ^ d)(hin:inner (2 ^ d) ((x:Int),(y:Int),(z:Int))=false) :
  Evt (fun k _=>spec_cbAround k A [(x:Int),(y:Int),(z:Int)] ((2 ^ d:Nat):Int) (cellsV (2 ^ d))) (Lof A d x y z):=by
 refine evt_100 fun k => ?_
 have hs:=saround_ord (h.inb hx hy hz) k
 rw [hin,cond_false]at hs
 have hl:A.length=(idxV (2 ^ d)).length:=by rw [h.len];simp [idxV]
 exact cbAround_nat (k+100) hl (fun i hi=>by unfold labF;rw [idx_getD hi,Int.toNat_natCast]) _ _ _ hs
theorem impl_around_ev{A:List Int}{d x y z:Nat}(h:LabOk A d)(hx:x≤2 ^ d)(hy:y≤2 ^ d)(hz:z≤2 ^ d) :
  Evt (fun k _=>impl_around k (cellsV (2 ^ d)) d ((x:Int),(y:Int),(z:Int))) (ordV d (2 ^ d) ((x:Int),(y:Int),(z:Int))):=evt_100 fun k=>around_ord (h.inb hx hy hz) k
theorem inner_nil{A:List Int}{d x y z:Nat}(h:LabOk A d)(hx:x≤2 ^ d)(hy:y≤2 ^ d)(hz:z≤2 ^ d)(hin:inner (2 ^ d) ((x:Int),(y:Int),(z:Int))=true):Lof A d x y z = []:=by
 have hs:=saround_ord (h.inb hx hy hz) 0
 rw [hin,cond_true]at hs
 unfold Lof
 rw [←Option.some.inj hs];rfl

theorem specZ_ev{A:List Int}{d x y:Nat}(h:LabOk A d)(hx:x≤2 ^ d)(hy:y≤2 ^ d):∀(m i:Nat),i+m=2 ^ d+1→∀s:Int,
  Evt (fun k n=>spec_cbDegree_L1025170 k n A ((2 ^ d:Nat):Int) (cellsV (2 ^ d)) s x y i) (match runN (gz A d x y) m i s with | some s' => .inr (A,((2 ^ d:Nat):Int),cellsV (2 ^ d),s',(x:Int),(y:Int),()) | none => .inl (0,false))
 | 0,i,hi,s=>by
  have hn:=h.n
  exact Evt.step (fun k n=>spec_cbDegree_L1025170.eq_2 k _ _ _ _ _ _ _ n) (Evt.cfalse (decide_eq_false (by omega)) .pure)
 | m+1,i,hi,s=>by
  have hn:=h.n
  have hz:i≤2 ^ d:=by omega
  have w:IntKind.wrap .i64 ((i:Int)+1)=((i+1:Nat):Int):=w64_next (by simp only [lenB];omega)
  have hlen:(Lof A d x y i).length<274877906944:=by
   have:=ordV_len (h.inb hx hy hz)
   unfold Lof
   rw [List.length_map];omega
  refine Evt.step (fun k n=>spec_cbDegree_L1025170.eq_2 k _ _ _ _ _ _ _ n) (Evt.ctrue (decide_eq_true (by omega)) ?_)
  have h0:(((2 ^ d:Nat):Int)==0)=false:=by rw [beq_eq_false_iff_ne];omega
  rw [w]
  have ih:=specZ_ev h hx hy m (i+1) (by omega)
  have body:inner (2 ^ d) ((x:Int),(y:Int),(i:Int))=false→Evt (fun k n=>(Option.bind (spec_cbAround k A ([(x:Int),(y:Int),(i:Int)]:List Int) ((2 ^ d:Nat):Int) (cellsV (2 ^ d))) fun r3=>(both (R:=Int×Bool) (P:=(List Int)×Int×(List (Int×Bool×Int×Int))×Int×Int×Int×Int×(List Int)×Unit) (spec_cbDegree_L524887194 k k A ((2 ^ d:Nat):Int) (cellsV (2 ^ d)) s x y i r3 r3 (r3.length:Int) 0) (fun q7=>some (Sum.inl q7)) (fun y6=>(both (R:=Int×Bool) (P:=(List Int)×Int×(List (Int×Bool×Int×Int))×Int×Int×Int×Int×Unit) (spec_cbDegree_L524887198 k k y6.1 y6.2.1 y6.2.2.1 y6.2.2.2.1 y6.2.2.2.2.1 y6.2.2.2.2.2.1 y6.2.2.2.2.2.2.1 y6.2.2.2.2.2.2.2.1 2) (fun q11=>some (Sum.inl q11)) (fun y10=>(spec_cbDegree_L1025170 k n y10.1 y10.2.1 y10.2.2.1 y10.2.2.2.1 y10.2.2.2.2.1 y10.2.2.2.2.2.1 (IntKind.wrap .i64 (y10.2.2.2.2.2.2.1+1)))))))))
    (match runN (gz A d x y) (m+1) i s with | some s' => .inr (A,((2 ^ d:Nat):Int),cellsV (2 ^ d),s',(x:Int),(y:Int),()) | none => .inl (0,false)):=by
   intro hin
   refine Evt.bind (spec_around_ev h hx hy hz hin) ?_
   have ho:=specOpp_ev (x0:=A) (x6:=((2 ^ d:Nat):Int)) (x7:=cellsV (2 ^ d)) (x9:=x) (x10:=y) (x11:=i) (L:=Lof A d x y i) (by simp only [lenB];omega) s
   rw [opp_eq (h.lof hx hy hz)]at ho
   show Evt _ (match ((gz A d x y i s).bind fun s=>runN (gz A d x y) m (i+1) s)with | some s'=>_ | none=>_)
   unfold gz cornV
   cases hO:oppI (Lof A d x y i)with
   | true =>
    rw [hO,if_pos rfl]at ho
    rw [if_pos rfl]
    exact Evt.inl (Evt.diag ho) .pure
   | false =>
    rw [hO,if_neg (by simp)]at ho
    rw [if_neg (by simp)]
    refine Evt.inr (Evt.diag ho) (Evt.inr (Evt.diag (specSum_ev (h.lof hx hy hz) (by simp only [lenB];omega) s)) ?_)
    simp only [w]
    exact ih _
  cases h1:(Int.tmod (x:Int) ((2 ^ d:Nat):Int) != 0)with
  | false=>exact Evt.cfalse h0 (Evt.cfalse rfl (body (by unfold inner;simp only;rw [h1];rfl)))
  | true =>
   refine Evt.cfalse h0 (Evt.ctrue rfl ?_)
   cases h2:(Int.tmod (y:Int) ((2 ^ d:Nat):Int) != 0)with
   | false=>exact Evt.cfalse h0 (Evt.cfalse rfl (body (by unfold inner;simp only;rw [h1,h2];rfl)))
   | true =>
    refine Evt.cfalse h0 (Evt.ctrue rfl ?_)
    cases h3:(Int.tmod (i:Int) ((2 ^ d:Nat):Int) != 0)with
    | false=>exact Evt.cfalse h0 (Evt.cfalse rfl (body (by unfold inner;simp only;rw [h1,h2,h3];rfl)))
    | true =>
     refine Evt.cfalse h0 (Evt.ctrue rfl ?_)
     have hnil:=inner_nil h hx hy hz (by unfold inner;simp only;rw [h1,h2,h3];rfl)
     show Evt _ (match ((gz A d x y i s).bind fun s=>runN (gz A d x y) m (i+1) s)with | some s'=>_ | none=>_)
     unfold gz cornV
     rw [hnil]
     exact ih s
theorem specY_ev{A:List Int}{d x:Nat}(h:LabOk A d)(hx:x≤2 ^ d):∀(m i:Nat),i+m=2 ^ d+1→∀s:Int,
  Evt (fun k n=>spec_cbDegree_L16018 k n A ((2 ^ d:Nat):Int) (cellsV (2 ^ d)) s x i) (match runN (gy A d x) m i s with | some s' => .inr (A,((2 ^ d:Nat):Int),cellsV (2 ^ d),s',(x:Int),()) | none => .inl (0,false))
 | 0,i,hi,s=>by
  have hn:=h.n
  exact Evt.step (fun k n=>spec_cbDegree_L16018.eq_2 k _ _ _ _ _ _ n) (Evt.cfalse (decide_eq_false (by omega)) .pure)
 | m+1,i,hi,s=>by
  have hn:=h.n
  have hz:i≤2 ^ d:=by omega
  have w:IntKind.wrap .i64 ((i:Int)+1)=((i+1:Nat):Int):=w64_next (by simp only [lenB];omega)
  refine Evt.step (fun k n=>spec_cbDegree_L16018.eq_2 k _ _ _ _ _ _ n) (Evt.ctrue (decide_eq_true (by omega)) ?_)
  have ih:=specY_ev h hx m (i+1) (by omega)
  have hZ:=specZ_ev h hx hz (2 ^ d+1) 0 (by omega) s
  show Evt _ (match ((gy A d x i s).bind fun s=>runN (gy A d x) m (i+1) s)with | some s'=>_ | none=>_)
  unfold gy at *
  cases hr:runN (gz A d x i) (2 ^ d+1) 0 s with
  | none =>
   rw [hr]at hZ
   exact Evt.inl (Evt.diag hZ) .pure
  | some s' =>
   rw [hr]at hZ
   refine Evt.inr (Evt.diag hZ) ?_
   simp only [w]
   exact ih s'
theorem specX_ev{A:List Int}{d:Nat}(h:LabOk A d):∀(m i:Nat),i+m=2 ^ d+1→∀s:Int,
  Evt (fun k n=>spec_cbDegree_L250 k n A ((2 ^ d:Nat):Int) (cellsV (2 ^ d)) s i) (match runN (gx A d) m i s with | some s' => .inr (s',()) | none => .inl (0,false))
 | 0,i,hi,s=>by
  have hn:=h.n
  exact Evt.step (fun k n=>spec_cbDegree_L250.eq_2 k _ _ _ _ _ n) (Evt.cfalse (decide_eq_false (by omega)) .pure)
 | m+1,i,hi,s=>by
  have hn:=h.n
  have hz:i≤2 ^ d:=by omega
  have w:IntKind.wrap .i64 ((i:Int)+1)=((i+1:Nat):Int):=w64_next (by simp only [lenB];omega)
  refine Evt.step (fun k n=>spec_cbDegree_L250.eq_2 k _ _ _ _ _ n) (Evt.ctrue (decide_eq_true (by omega)) ?_)
  have ih:=specX_ev h m (i+1) (by omega)
  have hZ:=specY_ev h hz (2 ^ d+1) 0 (by omega) s
  show Evt _ (match ((gx A d i s).bind fun s=>runN (gx A d) m (i+1) s)with | some s'=>_ | none=>_)
  unfold gx at *
  cases hr:runN (gy A d i) (2 ^ d+1) 0 s with
  | none =>
   rw [hr]at hZ
   exact Evt.inl (Evt.diag hZ) .pure
  | some s' =>
   rw [hr]at hZ
   refine Evt.inr (Evt.diag hZ) ?_
   simp only [w]
   exact ih s'
theorem cbDegree_ev{A:List Int}{d:Nat}(h:LabOk A d):Evt (fun k _=>spec_cbDegree k A d) (dgLV A d):=by
 refine Evt.eq (f:=fun k q=>_) ?_ (fun k q=>by rw [spec_cbDegree])
 have hd:=h.hd
 refine Evt.bind (.const (dyPower_eq (by omega))) (Evt.bind (cbCells_ev hd) ?_)
 have hX:=specX_ev h (2 ^ d+1) 0 (by omega) 0
 unfold dgLV
 cases hr:runN (gx A d) (2 ^ d+1) 0 0 with
 | none=>rw [hr]at hX;exact Evt.inl (Evt.diag hX) .pure
 | some s=>rw [hr]at hX;exact Evt.inr (Evt.diag hX) .pure

theorem implZ_ev{A:List Int}{d x y:Nat}(h:LabOk A d)(hx:x≤2 ^ d)(hy:y≤2 ^ d){x23 x28:Int}:∀(m i:Nat),i+m=2 ^ d+1→∀s:Int,
  Evt (fun k n=>impl_degreeOfLabels_L3827302 k n A d (cellsV (2 ^ d)) ((2 ^ d:Nat):Int) s x y x23 x x28 y ((2 ^ d+1:Nat):Int) i) (match runN (gz A d x y) m i s with | some s' => .inr (A,(d:Int),cellsV (2 ^ d),((2 ^ d:Nat):Int),s',(x:Int),x23,(x:Int),x28,(y:Int),()) | none => .inl (0,false))
 | 0,i,hi,s=>by
  have hn:=h.n
  exact Evt.step (fun k n=>impl_degreeOfLabels_L3827302.eq_2 k _ _ _ _ _ _ _ _ _ _ _ _ _ n) (Evt.cfalse (decide_eq_false (by omega)) .pure)
 | m+1,i,hi,s=>by
  have hn:=h.n
  have hz:i≤2 ^ d:=by omega
  have w:IntKind.wrap .i64 ((i:Int)+1)=((i+1:Nat):Int):=w64_next (by simp only [lenB];omega)
  have hol:=ordV_len (h.inb hx hy hz)
  have hlen:(Lof A d x y i).length<274877906944:=by unfold Lof;rw [List.length_map];omega
  refine Evt.step (fun k n=>impl_degreeOfLabels_L3827302.eq_2 k _ _ _ _ _ _ _ _ _ _ _ _ _ n) (Evt.ctrue (decide_eq_true (by omega)) ?_)
  have ih:=implZ_ev h hx hy (x23:=x23) (x28:=x28) m (i+1) (by omega)
  refine Evt.bind (impl_around_ev h hx hy hz) ?_
  have hm:=implMet_ev (x0:=A) (x1:=d) (x6':=cellsV (2 ^ d)) (x7:=((2 ^ d:Nat):Int)) (x9:=x) (x10:=y) (x23:=x23) (x24:=x) (x28:=x28) (x29:=y) (x33:=((2 ^ d+1:Nat):Int)) (x34:=i) (labF A) (fun _=>rfl) (o:=ordV d (2 ^ d) ((x:Int),(y:Int),(i:Int)))
   (fun j hj=>by have:=ord_bnd (h.inb hx hy hz) j hj;rw [h.len];exact this) (by omega) s
  refine Evt.inr (Evt.diag hm) ?_
  have ho:=implOpp_ev (x0:=A) (x1:=d) (x6':=cellsV (2 ^ d)) (x7:=((2 ^ d:Nat):Int)) (x9:=x) (x10:=y) (x23:=x23) (x24:=x) (x28:=x28) (x29:=y) (x33:=((2 ^ d+1:Nat):Int)) (x34:=i) (L:=Lof A d x y i) (by simp only [lenB];omega) s
  have hsm:=implSum_ev (x0:=A) (x1:=d) (x6':=cellsV (2 ^ d)) (x7:=((2 ^ d:Nat):Int)) (x9:=x) (x10:=y) (x23:=x23) (x24:=x) (x28:=x28) (x29:=y) (x33:=((2 ^ d+1:Nat):Int)) (x34:=i) (L:=Lof A d x y i) (by simp only [lenB];omega) s
  show Evt _ (match ((gz A d x y i s).bind fun s=>runN (gz A d x y) m (i+1) s)with | some s'=>_ | none=>_)
  unfold gz cornV
  cases hO:oppI (Lof A d x y i)with
  | true =>
   rw [hO,if_pos rfl]at ho
   rw [if_pos rfl]
   exact Evt.inl (Evt.diag ho) .pure
  | false =>
   rw [hO,if_neg (by simp)]at ho
   rw [if_neg (by simp)]
   refine Evt.inr (Evt.diag ho) (Evt.inr (Evt.diag hsm) ?_)
   simp only [w]
   exact ih _
theorem implY_ev{A:List Int}{d x:Nat}(h:LabOk A d)(hx:x≤2 ^ d){x23:Int}:∀(m i:Nat),i+m=2 ^ d+1→∀s:Int,
  Evt (fun k n=>impl_degreeOfLabels_L14950 k n A d (cellsV (2 ^ d)) ((2 ^ d:Nat):Int) s x x23 x ((2 ^ d+1:Nat):Int) i) (match runN (gy A d x) m i s with | some s' => .inr (A,(d:Int),cellsV (2 ^ d),((2 ^ d:Nat):Int),s',x23,(x:Int),()) | none => .inl (0,false))
 | 0,i,hi,s=>by
  have hn:=h.n
  exact Evt.step (fun k n=>impl_degreeOfLabels_L14950.eq_2 k _ _ _ _ _ _ _ _ _ _ n) (Evt.cfalse (decide_eq_false (by omega)) .pure)
 | m+1,i,hi,s=>by
  have hn:=h.n
  have hz:i≤2 ^ d:=by omega
  have w:IntKind.wrap .i64 ((i:Int)+1)=((i+1:Nat):Int):=w64_next (by simp only [lenB];omega)
  have w2:IntKind.wrap .i64 (((2 ^ d:Nat):Int)+1)=((2 ^ d+1:Nat):Int):=w64_next (by simp only [lenB];omega)
  refine Evt.step (fun k n=>impl_degreeOfLabels_L14950.eq_2 k _ _ _ _ _ _ _ _ _ _ n) (Evt.ctrue (decide_eq_true (by omega)) ?_)
  have ih:=implY_ev h hx (x23:=x23) m (i+1) (by omega)
  have hZ:=implZ_ev h hx hz (x23:=x23) (x28:=((2 ^ d+1:Nat):Int)) (2 ^ d+1) 0 (by omega) s
  rw [w2]
  show Evt _ (match ((gy A d x i s).bind fun s=>runN (gy A d x) m (i+1) s)with | some s'=>_ | none=>_)
  unfold gy at *
  cases hr:runN (gz A d x i) (2 ^ d+1) 0 s with
  | none =>
   rw [hr]at hZ
   exact Evt.inl (Evt.diag hZ) .pure
  | some s' =>
   rw [hr]at hZ
   refine Evt.inr (Evt.diag hZ) ?_
   simp only [w]
   exact ih s'
theorem implX_ev{A:List Int}{d:Nat}(h:LabOk A d):∀(m i:Nat),i+m=2 ^ d+1→∀s:Int,
  Evt (fun k n=>impl_degreeOfLabels_L58 k n A d (cellsV (2 ^ d)) ((2 ^ d:Nat):Int) s ((2 ^ d+1:Nat):Int) i) (match runN (gx A d) m i s with | some s' => .inr (s',()) | none => .inl (0,false))
 | 0,i,hi,s=>by
  have hn:=h.n
  exact Evt.step (fun k n=>impl_degreeOfLabels_L58.eq_2 k _ _ _ _ _ _ _ n) (Evt.cfalse (decide_eq_false (by omega)) .pure)
 | m+1,i,hi,s=>by
  have hn:=h.n
  have hz:i≤2 ^ d:=by omega
  have w:IntKind.wrap .i64 ((i:Int)+1)=((i+1:Nat):Int):=w64_next (by simp only [lenB];omega)
  have w2:IntKind.wrap .i64 (((2 ^ d:Nat):Int)+1)=((2 ^ d+1:Nat):Int):=w64_next (by simp only [lenB];omega)
  refine Evt.step (fun k n=>impl_degreeOfLabels_L58.eq_2 k _ _ _ _ _ _ _ n) (Evt.ctrue (decide_eq_true (by omega)) ?_)
  have ih:=implX_ev h m (i+1) (by omega)
  have hZ:=implY_ev h hz (x23:=((2 ^ d+1:Nat):Int)) (2 ^ d+1) 0 (by omega) s
  rw [w2]
  show Evt _ (match ((gx A d i s).bind fun s=>runN (gx A d) m (i+1) s)with | some s'=>_ | none=>_)
  unfold gx at *
  cases hr:runN (gy A d i) (2 ^ d+1) 0 s with
  | none =>
   rw [hr]at hZ
   exact Evt.inl (Evt.diag hZ) .pure
  | some s' =>
   rw [hr]at hZ
   refine Evt.inr (Evt.diag hZ) ?_
   simp only [w]
   exact ih s'
theorem degreeOfLabels_ev{A:List Int}{d:Nat}(h:LabOk A d):Evt (fun k _=>impl_degreeOfLabels k A d) (dgLV A d):=by
 refine Evt.eq (f:=fun k q=>_) ?_ (fun k q=>by rw [impl_degreeOfLabels])
 have hd:=h.hd
 have hn:=h.n
 have w1:IntKind.wrap .i64 (1*2 ^ min (Int.toNat (d:Int)) (IntKind.bits .i64))=((2 ^ d:Nat):Int):=by
  rcases(by omega:d=0∨d=1∨d=2)with rfl | rfl | rfl <;> rfl
 have w2:IntKind.wrap .i64 (((2 ^ d:Nat):Int)+1)=((2 ^ d+1:Nat):Int):=w64_next (by simp only [lenB];omega)
 rw [w1,w2]
 refine Evt.bind (surfaceCells_ev hd) (Evt.cfalse (decide_eq_false (by omega)) ?_)
 have hX:=implX_ev h (2 ^ d+1) 0 (by omega) 0
 unfold dgLV
 cases hr:runN (gx A d) (2 ^ d+1) 0 0 with
 | none=>rw [hr]at hX;exact Evt.inl (Evt.diag hX) .pure
 | some s=>rw [hr]at hX;exact Evt.inr (Evt.diag hX) .pure
end Go.Ev.G

namespace Go.Ev.G
open Go Go.Ev
set_option maxRecDepth 100000

theorem two_pow_two{n:Nat}(hn:n≤2):(6*2 ^ n*2 ^ n:Nat)=(cellsV (2 ^ n)).length:=by
 rcases(by omega:n=0∨n=1∨n=2)with rfl | rfl | rfl <;> rfl
theorem colV_mem{α:Type}{f:α→Option Nat}:∀(es:List α),∀x∈(colV f es).1,∃e j,f e=some j∧x=((j:Nat):Int)
 | [],x,hx=>by simp [colV]at hx
 | e::r,x,hx=>by
  unfold colV at hx
  cases he:f e with
  | none=>rw [he]at hx;simp at hx
  | some j =>
   rw [he]at hx
   rcases List.mem_cons.1 hx with rfl | hx
   ·exact⟨e,j,he,rfl⟩
   ·exact colV_mem r x hx
theorem lbsV_ok{s:List (List Tm)}{b:Bx}{n:Nat}(hn:n≤2)(h:(lbsV s b n).2=true):LabOk (lbsV s b n).1 n:=by
 refine⟨hn,?_,fun l hl => ?_⟩
 ·rw [two_pow_two hn]
  exact(lbsV_len hn).2.1 h
 ·obtain⟨e,j,he,rfl⟩:=colV_mem _ l hl
  have:=lbl_lt he
  unfold isLab
  omega
def cdV(s:List (List Tm))(b:Bx)(d:Int):Int×Bool:=if askC s b d then(if (lbsV s b d.toNat).2 then dgLV (lbsV s b d.toNat).1 d.toNat else(0,false))else(0,false)
theorem spec_cubeDegree_ev{s:List (List Tm)}{b:Bx}{d:Int}(hb:s.length<lenB)(hm:∀r∈s,r.length<lenB)(hx:b.2.1.length<lenB):Evt (fun k _=>spec_CubeDegree k s b d) (cdV s b d):=by
 refine Evt.eq (f:=fun k q=>_) ?_ (fun k q=>by rw [spec_CubeDegree])
 refine Evt.bind (spec_surfaceLabels_ev hb hm hx) ?_
 unfold slV cdV allL
 cases h:askC s b d with
 | false=>exact Evt.ctrue rfl .pure
 | true =>
  obtain⟨n,rfl,hn,hs,hbb⟩:=askC_form h hm
  simp only [Int.toNat_natCast,if_true]
  cases hf:(lbsV s b n).2 with
  | false=>exact Evt.ctrue rfl .pure
  | true=>exact Evt.cfalse rfl (Evt.bind (cbDegree_ev (lbsV_ok hn hf)) .pure)
theorem impl_cubeDegree_ev{s:List (List Tm)}{b:Bx}{d:Int}(hb:s.length<lenB)(hm:∀r∈s,r.length<lenB)(hx:b.2.1.length<lenB):Evt (fun k _=>impl_CubeDegree k s b d) (cdV s b d):=by
 refine Evt.eq (f:=fun k q=>_) ?_ (fun k q=>by rw [impl_CubeDegree])
 refine implC_ask hb hm hx (fun h=>by unfold cdV;rw [h];rfl) (fun h => ?_)
 obtain⟨n,rfl,hn,hs,hbb⟩:=askC_form h hm
 refine Evt.bind (surfaceLabels_ev hs hbb hn) ?_
 unfold cdV allL
 rw [h]
 simp only [Int.toNat_natCast,if_true]
 cases hf:(lbsV s b n).2 with
 | false=>exact Evt.ctrue rfl .pure
 | true=>exact Evt.cfalse rfl (Evt.bind (degreeOfLabels_ev (lbsV_ok hn hf)) .pure)
theorem cubeDegree_row(a:List (List Tm))(b:Bx)(d:Int)(h:WfT (.sl (.sl tTerm)) a)(hb:WfT tBox b)(_:WfT (.int .i64) d):∃k,laws_FnExactCubeDegree k a b d=some true :=
 Evt.get (Evt.eq (frame_sb (S:=fun k a b=>spec_CubeDegree k a b d) (I:=fun k a b=>impl_CubeDegree k a b d) (C:=fun _ r5 r8 x=>(bif (r8.1 != r5.1)then some false else(bif (!(r8.2==r5.2))then some false else x))) (v:=cdV a b d) h.1 (fun x hx=>(h.2 x hx).1) hb.2.1.1 hb.2.2.1 cmp_int
  (fun h1 h2 h3=>spec_cubeDegree_ev (by simp only [lenB];omega) h2 h3) (fun h1 h2 h3=>impl_cubeDegree_ev h1 h2 h3)) (fun k _=>rfl))
end Go.Ev.G

