/- What the plain functions of the law compute, for all inputs within the sizes that the theorems name. -/
import Derived.Test.YtonaeidijgneiaaPFnTables1
import Derived.Test.YtonaeidijgneiaaAFnTables1
set_option linter.unusedVariables false
namespace Go.Ev.G
open Go Go.Ev
set_option maxRecDepth 100000

theorem cur0:CurOk ((),0,0) 0:=⟨by decide,by decide,by decide⟩
theorem drawIsTable_ok{ks:List Int}(hk:bytesOk ks):∃T,Evt (fun k _=>spec_DrawIsTable k ks) T∧small4 T:=by
 obtain⟨r1,c1,e1,h1,m1⟩:=among_ok hk cur0 (by omega) (l := [3,4]) (by simp) (by simp)
 obtain⟨r2,c2,e2,h2,m2⟩:=among_ok hk h1 (by omega) (l := [1,2,2,3,r1]) (by simp) (by simp)
 have e2:spec_l1Cur_among ks ((),c1.2) [1,2,2,3,r1]=some (r2,c2):=e2
 have hb1:3≤r1∧r1≤4:=by
  simp only [List.mem_cons,List.not_mem_nil,or_false]at m1
  omega
 have hb2:1≤r2∧r2≤4:=by
  simp only [List.mem_cons,List.not_mem_nil,or_false]at m2
  omega
 obtain⟨T,c3,eT,_,hT⟩:=table_ok hk h2 (by omega) (n:=r2.toNat) (by omega) (by omega)
 rw [show((r2.toNat:Nat):Int)=r2 by omega]at eT
 refine⟨T,Evt.eq (f:=fun k q=>_) ?_ (fun k q=>by rw [spec_DrawIsTable]),hT⟩
 exact Evt.bind (.const e1) (Evt.bind (.const e2) (Evt.bind eT .pure))
theorem sides_ok{ks:List Int}(hk:bytesOk ks){c:Cu}{m:Nat}(h:CurOk c m)(hm:m+2≤1000000000):∃(n:Nat) (c':Cu),spec_l1Cur_sides ks c=some ((n:Int),c')∧CurOk c' (m+2)∧1≤n∧n≤3:=by
 obtain⟨r1,c1,e1,h1,m1⟩:=among_ok hk h hm (l := [1,2,2,3]) (by simp) (by simp)
 have e1:spec_l1Cur_among ks ((),c.2) [1,2,2,3]=some (r1,c1):=e1
 have hb1:1≤r1∧r1≤3:=by
  simp only [List.mem_cons,List.not_mem_nil,or_false]at m1
  omega
 refine⟨r1.toNat,c1,?_,h1,by omega,by omega⟩
 unfold spec_l1Cur_sides
 rw [e1,show((r1.toNat:Nat):Int)=r1 by omega]
 rfl
theorem drawMultiply_ok{ks:List Int}(hk:bytesOk ks):∃u v,Evt (fun k _=>spec_DrawMultiplyTables k ks) (u,v)∧small4 u∧small4 v:=by
 obtain⟨n,c1,e1,h1,n1,n3⟩:=sides_ok hk cur0 (by omega)
 obtain⟨u,c2,eu,h2,hu⟩:=table_ok hk h1 (by omega) (n:=n) n1 (by omega)
 obtain⟨r3,c3,e3,h3⟩:=one_ok hk h2 (by omega) (n:=20) (by omega)
 have e3:spec_l1Cur_one ks ((),c2.2) 20=some (r3,c3):=e3
 cases r3 with
 | true =>
  obtain⟨n',c4,e4,h4,n1',n3'⟩:=sides_ok hk h3 (by omega)
  obtain⟨v,c5,ev,h5,hv⟩:=table_ok hk h4 (by omega) (n:=n') n1' (by omega)
  have e4:spec_l1Cur_sides ks ((),c3.2)=some ((n':Int),c4):=e4
  refine⟨u,v,Evt.eq (f:=fun k q=>_) ?_ (fun k q=>by rw [spec_DrawMultiplyTables]),hu,hv⟩
  exact Evt.bind (.const e1) (Evt.bind eu (Evt.bind (.const e3) (Evt.ctrue rfl (Evt.bind (.const e4) (Evt.bind ev .pure)))))
 | false =>
  obtain⟨v,c5,ev,h5,hv⟩:=table_ok hk h3 (by omega) (n:=n) n1 (by omega)
  refine⟨u,v,Evt.eq (f:=fun k q=>_) ?_ (fun k q=>by rw [spec_DrawMultiplyTables]),hu,hv⟩
  exact Evt.bind (.const e1) (Evt.bind eu (Evt.bind (.const e3) (Evt.cfalse rfl (Evt.bind ev .pure))))
theorem tdiv15{x:Int}(h0:0≤x)(h1:x<16):Int.tdiv x 15=0∨Int.tdiv x 15=1:=by
 rw [Int.tdiv_eq_ediv_of_nonneg h0]
 omega
theorem point_ok{ks:List Int}(hk:bytesOk ks){n:Nat}(hn:n≤3){T:List Pt}:∀(j:Nat) (p:Pt) (c:Cu) (m:Nat),p.length+j=n+1→CurOk c m→m+24*(j+1)≤1000000000 →
  ∃r,Evt (fun k q=>spec_DrawTimesPoint_L252 k ks q c n T p) (.inr (T,r,()))∧r.length≤4
 | 0,p,c,m,hl,hc,hm=>by
  obtain⟨r3,c3,e3,h3,a3,b3⟩:=pick_ok hk hc (by omega) (n:=16) (by omega)
  have b3:=b3 (by omega)
  have e3:spec_l1Cur_pick ks ((),c.2) 16=some (r3,c3):=e3
  have w1:IntKind.wrap .i64 (Int.tdiv r3 15)=Int.tdiv r3 15:=by rcases tdiv15 a3 b3 with h | h <;> rw [h] <;> rfl
  have w2:IntKind.wrap .i64 ((n:Int)+Int.tdiv r3 15)=(n:Int)+Int.tdiv r3 15:=by rcases tdiv15 a3 b3 with h | h <;> rw [h,w64 (by omega) (by omega)]
  refine⟨p,Evt.step (fun k q=>spec_DrawTimesPoint_L252.eq_2 k ks _ _ _ _ q) (Evt.bind (.const e3) ?_),by omega⟩
  simp only [w1,w2]
  exact Evt.cfalse (decide_eq_false (by rcases tdiv15 a3 b3 with h | h <;> rw [h] <;> omega)) .pure
 | j+1,p,c,m,hl,hc,hm=>by
  obtain⟨r3,c3,e3,h3,a3,b3⟩:=pick_ok hk hc (by omega) (n:=16) (by omega)
  have b3:=b3 (by omega)
  have e3:spec_l1Cur_pick ks ((),c.2) 16=some (r3,c3):=e3
  have w1:IntKind.wrap .i64 (Int.tdiv r3 15)=Int.tdiv r3 15:=by rcases tdiv15 a3 b3 with h | h <;> rw [h] <;> rfl
  have w2:IntKind.wrap .i64 ((n:Int)+Int.tdiv r3 15)=(n:Int)+Int.tdiv r3 15:=by rcases tdiv15 a3 b3 with h | h <;> rw [h,w64 (by omega) (by omega)]
  by_cases hlt:(p.length:Int)<(n:Int)+Int.tdiv r3 15
  ·obtain⟨v,c4,ev,h4⟩:=entry_ok hk h3 (by omega)
   obtain⟨r,er,hr⟩:=point_ok hk hn (T:=T) j (p ++ [v]) c4 (m+24) (by simp;omega) (h4.mono (by omega) (by omega)) (by omega)
   refine⟨r,Evt.step (fun k q=>spec_DrawTimesPoint_L252.eq_2 k ks _ _ _ _ q) (Evt.bind (.const e3) ?_),hr⟩
   simp only [w1,w2]
   exact Evt.ctrue (decide_eq_true hlt) (Evt.bind ev (Evt.ctrue (decide_eq_true (by simp;omega)) er))
  ·refine⟨p,Evt.step (fun k q=>spec_DrawTimesPoint_L252.eq_2 k ks _ _ _ _ q) (Evt.bind (.const e3) ?_),by omega⟩
   simp only [w1,w2]
   exact Evt.cfalse (decide_eq_false hlt) .pure
theorem drawTimesPoint_ok{ks:List Int}(hk:bytesOk ks):∃T p,Evt (fun k _=>spec_DrawTimesPoint k ks) (T,p)∧small4 T∧p.length≤4:=by
 obtain⟨n,c1,e1,h1,n1,n3⟩:=sides_ok hk cur0 (by omega)
 obtain⟨T,c2,eT,h2,hT⟩:=table_ok hk h1 (by omega) (n:=n) n1 (by omega)
 obtain⟨p,ep,hp⟩:=point_ok hk n3 (T:=T) (n+1) [] c2 _ (by simp) h2 (by omega)
 refine⟨T,p,Evt.eq (f:=fun k q=>_) ?_ (fun k q=>by rw [spec_DrawTimesPoint]),hT,hp⟩
 exact Evt.bind (.const e1) (Evt.bind eT (Evt.inr (Evt.diag ep) .pure))
theorem drawUnit_ok{ks:List Int}(hk:bytesOk ks):∃n,spec_DrawUnitTable ks=some n∧(n = -1∨n=0∨n=1∨n=2∨n=3∨n=4):=by
 obtain⟨r1,c1,e1,h1,m1⟩:=among_ok hk cur0 (by omega) (l := [0,4,(-1)]) (by simp) (by simp)
 obtain⟨r2,c2,e2,h2,m2⟩:=among_ok hk h1 (by omega) (l := [1,2,3,r1]) (by simp) (by simp)
 have e2:spec_l1Cur_among ks ((),c1.2) [1,2,3,r1]=some (r2,c2):=e2
 refine⟨r2,?_,?_⟩
 ·unfold spec_DrawUnitTable
  rw [e1,Option.bind_some,e2]
  rfl
 ·simp only [List.mem_cons,List.not_mem_nil,or_false]at m1 m2
  omega

theorem implUnit(k:Nat) : [(-1:Int),0,1,2,3,4].map (fun n=>impl_UnitTable (k+100) n) = [(-1:Int),0,1,2,3,4].map fun n=>some (if 1≤n∧n≤3 then(idT n.toNat (1,0),true)else([],false)):=by kernel_rfl
theorem specUnit(k:Nat) : [(-1:Int),0,1,2,3,4].map (fun n=>spec_UnitTable (k+100) n) = [(-1:Int),0,1,2,3,4].map fun n=>some (if 1≤n∧n≤3 then(idT n.toNat (1,0),true)else([],false)):=by kernel_rfl
def utV(n:Int):List Pt×Bool:=if 1≤n∧n≤3 then(idT n.toNat (1,0),true)else([],false)
theorem evt100{α:Type}{f:Nat→Option α}{r:α}(h:∀k,f (k+100)=some r):Evt (fun k _=>f k) r:=⟨100,fun k n hk _=>by
 obtain⟨m,rfl⟩:∃m,k=m+100:=⟨k - 100,by omega⟩
 exact h m⟩
theorem implUnit_ev{n:Int}(h:n = -1∨n=0∨n=1∨n=2∨n=3∨n=4):Evt (fun k _=>impl_UnitTable k n) (utV n) :=
 evt100 fun k=>List.map_inj_left.1 (implUnit k) n (by simp only [List.mem_cons,List.not_mem_nil,or_false];exact h)
theorem specUnit_ev{n:Int}(h:n = -1∨n=0∨n=1∨n=2∨n=3∨n=4):Evt (fun k _=>spec_UnitTable k n) (utV n) :=
 evt100 fun k=>List.map_inj_left.1 (specUnit k) n (by simp only [List.mem_cons,List.not_mem_nil,or_false];exact h)

theorem pSamePoint_ev{x:Pt}(hb:x.length<lenB):Evt (fun k _=>laws_pSamePoint k x x) true:=by
 refine Evt.eq (f:=fun k q=>_) ?_ (fun k q=>by rw [laws_pSamePoint])
 refine Evt.cfalse (by simp) ?_
 have key:∀(r d:Pt),d++r=x→Evt (fun k n=>laws_pSamePoint_L58 k n x x (x.length:Int) d.length) (.inr ()):=by
  intro r
  induction r with
  | nil =>
   intro d h
   rw [List.append_nil]at h
   subst h
   refine Evt.step (fun k n=>laws_pSamePoint_L58.eq_2 k _ _ _ _ n) ?_
   rw [mid_end]
   exact Evt.cfalse rfl .pure
  | cons e r ih =>
   intro d h
   subst h
   refine Evt.step (fun k n=>laws_pSamePoint_L58.eq_2 k _ _ _ _ n) (Evt.ctrue mid_lt (Evt.ctrue mid_ge (Evt.ctrue mid_lt (Evt.ctrue mid_ge (Evt.ctrue mid_lt ?_)))))
   rw [mid_get]
   refine Evt.cfalse (by simp) ?_
   rw [w64_next (by simp at hb;omega)]
   have:=ih (d ++ [e]) (by simp)
   rw [show(d ++ [e]).length=d.length+1 by simp]at this
   exact this
 exact Evt.inr (Evt.diag (key x [] rfl)) .pure
theorem pSameTable_ev{x:List Pt}(hb:x.length<lenB)(hr:∀r∈x,r.length<lenB):Evt (fun k _=>laws_pSameTable k x x) true:=by
 refine Evt.eq (f:=fun k q=>_) ?_ (fun k q=>by rw [laws_pSameTable])
 refine Evt.cfalse (by simp) ?_
 have key:∀(r d:List Pt),d++r=x→Evt (fun k n=>laws_pSameTable_L58 k n x x (x.length:Int) d.length) (.inr ()):=by
  intro r
  induction r with
  | nil =>
   intro d h
   rw [List.append_nil]at h
   subst h
   refine Evt.step (fun k n=>laws_pSameTable_L58.eq_2 k _ _ _ _ n) ?_
   rw [mid_end]
   exact Evt.cfalse rfl .pure
  | cons e r ih =>
   intro d h
   subst h
   refine Evt.step (fun k n=>laws_pSameTable_L58.eq_2 k _ _ _ _ n) (Evt.ctrue mid_lt (Evt.ctrue mid_ge (Evt.ctrue mid_lt (Evt.ctrue mid_ge (Evt.ctrue mid_lt ?_)))))
   rw [mid_get]
   refine Evt.bind (pSamePoint_ev (hr e (by simp))) (Evt.cfalse rfl ?_)
   rw [w64_next (by simp at hb;omega)]
   have:=ih (d ++ [e]) (by simp)
   rw [show(d ++ [e]).length=d.length+1 by simp]at this
   exact this
 exact Evt.inr (Evt.diag (key x [] rfl)) .pure
end Go.Ev.G

namespace Go.Ev.G
open Go Go.Ev
set_option maxRecDepth 100000

structure Sm(m:List Pt):Prop where
 l:m.length≤1000
 r:∀r∈m,r.length≤1000
theorem Sm.of{m:List Pt}(h:small4 m):Sm m:=⟨by have:=h.1;omega,fun r hr=>by have:=h.2 r hr;omega⟩
theorem Sm.lb{m:List Pt}(h:Sm m):m.length<lenB:=by have:=h.l;simp only [lenB];omega
theorem Sm.lr{m:List Pt}(h:Sm m):∀r∈m,r.length<lenB:=fun r hr=>by have:=h.r r hr;simp only [lenB];omega
theorem Sm.lm{m:List Pt}(h:Sm m):m.length<274877906944:=by have:=h.l;omega
theorem detS_ev{a:List Pt}(h:Sm a):Evt (fun k _=>spec_DeterminantOf k a) (dtV a):=by
 refine Evt.eq (f:=fun k q=>_) ?_ (fun k q=>by rw [spec_DeterminantOf])
 refine Evt.bind (mxGood_ev h.lm h.lr) ?_
 unfold dtV
 cases ht:tab gd a with
 | false=>exact Evt.ctrue rfl .pure
 | true =>
  obtain⟨n,hn,hsq⟩:=sq_tab ht
  have e:a.length - 1=n:=by have:=hsq.1;omega
  rw [e]
  exact Evt.cfalse rfl (Evt.bind (spec_det_ev hn hsq) .pure)
theorem detI_ev{a:List Pt}(h:Sm a):Evt (fun k _=>impl_DeterminantOf k a) (dtV a):=by
 refine Evt.eq (f:=fun k q=>_) ?_ (fun k q=>by rw [impl_DeterminantOf])
 refine Evt.bind (isTable_ev h.lb h.lr) ?_
 unfold dtV
 cases ht:tab gd a with
 | false=>exact Evt.ctrue rfl .pure
 | true =>
  obtain⟨n,hn,hsq⟩:=sq_tab ht
  have e:a.length - 1=n:=by have:=hsq.1;omega
  rw [e]
  obtain⟨v,⟨gv,hz0⟩,hv,hev⟩:=impl_det_ev hn hsq true
  refine Evt.cfalse rfl (Evt.bind hev (.const ?_))
  simp only [Bool.true_and,if_true]
  rw [Bool.true_and]at hz0
  cases hdo:detO n a with
  | some t =>
   have:=hv rfl (by rw [hdo];rfl)
   rw [hdo]at this
   cases this
   rfl
  | none =>
   have hn1:1≤n:=by
    cases n with
    | zero=>simp [detO]at hdo
    | succ n=>omega
   rw [hz0 hn1 (by rw [hdo];rfl)]
   rfl
theorem sizes{a:List Pt}{n:Nat}(hsq:sq gd (n+1) a):(a.length=1∧n=0)∨∃p,n=p+1∧a.length≠1∧a.length - 2=p:=by
 have:=hsq.1
 cases n with
 | zero=>exact .inl ⟨by omega,rfl⟩
 | succ p=>exact .inr ⟨p,rfl,by omega,by omega⟩
theorem adjS_ev{a:List Pt}(h:Sm a):Evt (fun k _=>spec_AdjointOf k a) (ajV a):=by
 refine Evt.eq (f:=fun k q=>_) ?_ (fun k q=>by rw [spec_AdjointOf])
 refine Evt.bind (mxGood_ev h.lm h.lr) ?_
 unfold ajV
 cases ht:tab gd a with
 | false=>exact Evt.ctrue rfl .pure
 | true =>
  obtain⟨n,hn,hsq⟩:=sq_tab ht
  refine Evt.cfalse rfl ?_
  rcases sizes hsq with ⟨h1,_⟩ | ⟨p,rfl,h1,h2⟩
  ·rw [if_pos rfl,if_pos h1]
   have hone:Evt (fun k _=>spec_mxAdjoint k a) ([[(1,0)]],true):=by
    refine Evt.eq (f:=fun k q=>_) ?_ (fun k q=>by rw [spec_mxAdjoint])
    exact Evt.ctrue (by rw [h1];rfl) (Evt.bind (a:=(1,0)) (.const rfl) .pure)
   exact Evt.bind hone .pure
  ·rw [if_pos rfl,if_neg h1,h2]
   exact Evt.bind (spec_adjoint_ev (by omega) hsq) .pure
theorem adjI_ev{a:List Pt}(h:Sm a):Evt (fun k _=>impl_AdjointOf k a) (ajV a):=by
 refine Evt.eq (f:=fun k q=>_) ?_ (fun k q=>by rw [impl_AdjointOf])
 refine Evt.bind (isTable_ev h.lb h.lr) ?_
 unfold ajV
 cases ht:tab gd a with
 | false=>exact Evt.ctrue rfl .pure
 | true =>
  obtain⟨n,hn,hsq⟩:=sq_tab ht
  refine Evt.cfalse rfl ?_
  rcases sizes hsq with ⟨h1,_⟩ | ⟨p,rfl,h1,h2⟩
  ·rw [if_pos rfl,if_pos h1]
   have hone:Evt (fun k _=>impl_adjoint k a) ([[(1,0)]],true):=by
    refine Evt.eq (f:=fun k q=>_) ?_ (fun k q=>by rw [impl_adjoint])
    exact Evt.ctrue (by rw [h1];rfl) (Evt.bind (a:=(1,0)) (.const rfl) .pure)
   exact Evt.bind hone .pure
  ·rw [if_pos rfl,if_neg h1,h2]
   exact Evt.bind (impl_adjoint_ev (by omega) hsq) .pure
theorem isTab_ev{a:List Pt}(h:Sm a):Evt (fun k _=>impl_IsTable k a) (tab gd a):=Evt.eq (Evt.bind (isTable_ev h.lb h.lr) .pure) (fun k n=>by rw [impl_IsTable])
theorem mulS_ev{a b:List Pt}(h:Sm a)(h':Sm b):Evt (fun k _=>spec_MultiplyTables k a b) (mtV a b):=spec_multiply_ev h.lm h.lr h'.lm h'.lr
theorem mulI_ev{a b:List Pt}(h:Sm a)(h':Sm b):Evt (fun k _=>impl_MultiplyTables k a b) (mtV a b):=impl_multiply_ev h.lb h.lr h'.lb h'.lr
theorem Sm.aj(a:List Pt):Sm (ajV a).1:=by
 obtain⟨l1,l2⟩:=ajV_len (m:=a)
 exact⟨by omega,fun r hr=>by have:=l2 r hr;omega⟩
theorem Sm.mt(a b:List Pt):Sm (mtV a b).1:=by
 obtain⟨l1,l2⟩:=mtV_len (a:=a) (b:=b)
 exact⟨by omega,fun r hr=>by have:=l2 r hr;omega⟩
theorem Sm.id(n:Nat)(hn:n≤1000)(d:Int×Int):Sm (idT n d):=by
 refine⟨by simp [idT];omega,fun r hr => ?_⟩
 unfold idT at hr
 obtain⟨i,_,rfl⟩:=List.mem_map.1 hr
 simp;omega
theorem mulD_ev(a b:Int×Int):Evt (fun k _=>spec_MultiplyDyadic k a b) (if gd a∧gd b then prodD a b else((0,0),false)):=by
 refine Evt.eq (f:=fun k q=>_) ?_ (fun k q=>by rw [spec_MultiplyDyadic])
 have h2:spec_dyTwo a b=some (decide (gd a∧gd b)):=by
  unfold spec_dyTwo
  rw [dyGood_eq,Option.bind_some]
  by_cases ha:gd a
  ·rw [decide_eq_true ha,cond_true,dyGood_eq]
   simp [ha]
  ·rw [decide_eq_false ha,cond_false]
   simp [ha]
 refine Evt.bind (.const h2) ?_
 by_cases h:gd a∧gd b
 ·rw [if_pos h,decide_eq_true h]
  exact Evt.cfalse rfl (Evt.bind (dyMul_ev h.1 h.2) .pure)
 ·rw [if_neg h,decide_eq_false h]
  exact Evt.ctrue rfl .pure

theorem idT_row{n i:Nat}{d:Int×Int}(hi:i<n):(idT n d).getD i []=(List.range n).map fun k=>if i=k then d else(0,0):=by
 unfold idT
 rw [List.getD_eq_getElem?_getD,List.getElem?_map,List.getElem?_range hi]
 rfl
theorem place_ok{x1:List Int}{d:Int×Int}{P:List Pt}{n i:Nat}(hn:n≤3)(x146 x147:Int):∀(j k0:Nat),k0+j=n →
  Evt (fun k q=>laws_FnTables_L134052454 k q x1 d (i:Int) P x146 x147 ((List.range n).map fun k=>if i=k then d else(0,0)) (n:Int) k0) (.inr (x1,d,P,x146,x147,()))
 | 0,k0,h=>by
  refine Evt.step (fun k q=>laws_FnTables_L134052454.eq_2 k _ _ _ _ _ _ _ _ _ q) (Evt.cfalse (decide_eq_false (by omega)) .pure)
 | j+1,k0,h=>by
  have hlt:k0<n:=by omega
  have hg:((List.range n).map fun k=>if i=k then d else((0:Int),(0:Int))).getD (Int.toNat (k0:Int)) (0,0)=if i=k0 then d else(0,0):=by
   rw [Int.toNat_natCast,List.getD_eq_getElem?_getD,List.getElem?_map,List.getElem?_range hlt]
   rfl
  refine Evt.step (fun k q=>laws_FnTables_L134052454.eq_2 k _ _ _ _ _ _ _ _ _ q) (Evt.ctrue (decide_eq_true (by omega)) (Evt.ctrue mid_ge (Evt.ctrue (decide_eq_true (by simp;omega)) ?_)))
  rw [hg,w64_next (by simp only [lenB];omega)]
  have ih:=place_ok (x1:=x1) (d:=d) (P:=P) (i:=i) hn x146 x147 j (k0+1) (by omega)
  by_cases hik:i=k0
  ·rw [if_pos hik]
   exact Evt.ctrue (by rw [beq_iff_eq];omega) (Evt.cfalse (by simp) ih)
  ·rw [if_neg hik]
   exact Evt.cfalse (by rw [beq_eq_false_iff_ne];omega) (Evt.cfalse (by simp) ih)
theorem places_ok{x1:List Int}{d:Int×Int}{n:Nat}(hn:n≤3):∀(j i:Nat),i+j=n→Evt (fun k q=>laws_FnTables_L523642 k q x1 d (idT n d) (n:Int) i) (.inr (x1,()))
 | 0,i,h=>Evt.step (fun k q=>laws_FnTables_L523642.eq_2 k _ _ _ _ _ q) (Evt.cfalse (decide_eq_false (by omega)) .pure)
 | j+1,i,h=>by
  have hlt:i<n:=by omega
  have hlen:(idT n d).length=n:=by simp [idT]
  have ih:=places_ok (x1:=x1) (d:=d) hn j (i+1) (by omega)
  refine Evt.step (fun k q=>laws_FnTables_L523642.eq_2 k _ _ _ _ _ q) (Evt.ctrue (decide_eq_true (by omega)) (Evt.ctrue mid_ge (Evt.ctrue (decide_eq_true (by rw [hlen];omega)) ?_)))
  rw [Int.toNat_natCast,idT_row hlt]
  have hp:=place_ok (x1:=x1) (d:=d) (P:=idT n d) (i:=i) hn (n:Int) (i:Int) n 0 (by omega)
  have hl2:(((List.range n).map fun k=>if i=k then d else((0:Int),(0:Int))).length:Int)=(n:Int):=by simp
  rw [hl2]
  refine Evt.inr (Evt.diag hp) ?_
  simp only [w64_next (show i<lenB by simp only [lenB];omega)]
  exact ih
theorem mt_tab{u v p:List Pt}(h:mtV u v=(p,true)):1≤u.length∧u.length≤3:=(tab_iff (mt_some h).1).1
theorem idT_tab{n:Nat}(h1:1≤n)(h3:n≤3):tab gd (idT n (1,0))=true:=by
 rcases(by omega:n=1∨n=2∨n=3)with rfl | rfl | rfl <;> decide
theorem big_eq(a b:List Int):laws_big a b=some (decide (¬ (a.length≤1048576∧b.length+a.length≤1048576))):=by
 unfold laws_big
 by_cases h1:(a.length:Int)>1048576
 ·rw [decide_eq_true h1,cond_true,decide_eq_true (by omega)]
 ·rw [decide_eq_false h1,cond_false,w64 (by omega) (by omega)]
  congr 1
  rw [decide_eq_decide]
  omega

theorem fnTables_law(a b:List Int)(ha:bytesOk a)(hb:bytesOk b):∃k,laws_FnTables k a b=some true:=by
 refine Evt.get (Evt.eq (f:=fun k q=>_) ?_ (fun k q=>by rw [laws_FnTables]))
 refine Evt.bind (.const (big_eq a b)) ?_
 by_cases hbig:a.length≤1048576∧b.length+a.length≤1048576
 case neg=>exact Evt.ctrue (decide_eq_true hbig) .pure
 refine Evt.cfalse (decide_eq_false (by simpa using hbig)) ?_
 obtain⟨m,em,sm⟩:=drawIsTable_ok ha
 have sm:=Sm.of sm
 have em':Evt (fun k _=>spec_DrawAdjointOf k a) m:=Evt.eq (Evt.bind em .pure) (fun k q=>by rw [spec_DrawAdjointOf])
 refine Evt.bind em' (Evt.bind (adjI_ev sm) (Evt.bind (adjS_ev sm) (Evt.bind (detI_ev sm) (Evt.bind (detS_ev sm) ?_))))
 have saj:=Sm.aj m
  -- the first table
 have p1:Evt (fun k n=>(bif (!((ajV m).2==(ajV m).2))then some (Sum.inl false)else(Option.bind (laws_pSameTable k (ajV m).1 (ajV m).1) fun r7=>(bif (!r7)then some (Sum.inl false)else(bif (!((dtV m).2==(dtV m).2))then some (Sum.inl false)else(bif (!(((dtV m).1.1==(dtV m).1.1)&&(((dtV m).1.2==(dtV m).1.2)&&true)))then some (Sum.inl false)else(bif (ajV m).2 then(Option.bind (impl_IsTable k m) fun r8=>(bif (!r8)then some (Sum.inl false)else(bif (dtV m).2 then(Option.bind (impl_IsTable k m) fun r9=>(bif (!r9)then some (Sum.inl false)else some (Sum.inr (b,m,(ajV m).1,(ajV m).2,(ajV m).1,(dtV m).2,(dtV m).1,()))))else some (Sum.inr (b,m,(ajV m).1,(ajV m).2,(ajV m).1,(dtV m).2,(dtV m).1,())))))else(bif (dtV m).2 then(Option.bind (impl_IsTable k m) fun r10=>(bif (!r10)then some (Sum.inl false)else some (Sum.inr (b,m,(ajV m).1,(ajV m).2,(ajV m).1,(dtV m).2,(dtV m).1,()))))else some (Sum.inr (b,m,(ajV m).1,(ajV m).2,(ajV m).1,(dtV m).2,(dtV m).1,())))))))):Option (Bool ⊕ ((List Int)×(List (List (Int×Int)))×(List (List (Int×Int)))×Bool×(List (List (Int×Int)))×Bool×(Int×Int)×Unit))) )
   (.inr (b,m,(ajV m).1,(ajV m).2,(ajV m).1,(dtV m).2,(dtV m).1,())):=by
  refine Evt.cfalse (by simp) (Evt.bind (pSameTable_ev saj.lb saj.lr) (Evt.cfalse rfl (Evt.cfalse (by simp) (Evt.cfalse (by simp) ?_))))
  have tD:(dtV m).2=true→tab gd m=true:=fun h=>(dt_some (d:=(dtV m).1) (by rw [←h])).1
  have tA:(ajV m).2=true→tab gd m=true:=fun h=>(aj_some (A:=(ajV m).1) (by rw [←h])).1
  have dpart:∀z,Evt (fun k n=>(bif (dtV m).2 then(Option.bind (impl_IsTable k m) fun r10=>(bif (!r10)then some (Sum.inl false)else some (Sum.inr z)))else some (Sum.inr z):Option (Bool ⊕ ((List Int)×(List (List (Int×Int)))×(List (List (Int×Int)))×Bool×(List (List (Int×Int)))×Bool×(Int×Int)×Unit)))) (.inr z):=by
   intro z
   cases hd:(dtV m).2 with
   | false=>exact Evt.cfalse rfl .pure
   | true=>exact Evt.ctrue rfl (Evt.bind (isTab_ev sm) (Evt.cfalse (by rw [tD hd];rfl) .pure))
  cases hA:(ajV m).2 with
  | false=>exact Evt.cfalse rfl (dpart _)
  | true=>exact Evt.ctrue rfl (Evt.bind (isTab_ev sm) (Evt.cfalse (by rw [tA hA];rfl) (dpart _)))
 refine Evt.inr p1 ?_
  -- the adjoint times the table
 have p2:Evt (fun k n=>(bif (ajV m).2 then(bif (dtV m).2 then(Option.bind (impl_MultiplyTables k (ajV m).1 m) fun r12=>(Option.bind (spec_MultiplyTables k (ajV m).1 m) fun r13=>(bif (!(r12.2==r13.2))then some (Sum.inl false)else(Option.bind (laws_pSameTable k r12.1 r13.1) fun r14=>(bif (!r14)then some (Sum.inl false)else(bif r13.2 then(both (R:=Bool) (P:=(List Int)×Unit) (laws_FnTables_L523642 k k b (dtV m).1 r13.1 (r13.1.length:Int) 0) (fun q20=>some (Sum.inl q20)) (fun y19=>some (Sum.inr (y19.1,()))))else some (Sum.inr (b,()))))))))else some (Sum.inr (b,())))else some (Sum.inr (b,())):Option (Bool ⊕ ((List Int)×Unit)))) (.inr (b,())):=by
  cases hA:(ajV m).2 with
  | false=>exact Evt.cfalse rfl .pure
  | true =>
   cases hD:(dtV m).2 with
   | false=>exact Evt.ctrue rfl (Evt.cfalse rfl .pure)
   | true =>
    have smt:=Sm.mt (ajV m).1 m
    refine Evt.ctrue rfl (Evt.ctrue rfl (Evt.bind (mulI_ev saj sm) (Evt.bind (mulS_ev saj sm) (Evt.cfalse (by simp) (Evt.bind (pSameTable_ev smt.lb smt.lr) (Evt.cfalse rfl ?_))))))
    cases hP:(mtV (ajV m).1 m).2 with
    | false=>exact Evt.cfalse rfl .pure
    | true =>
     have e:=adj_mul (m:=m) (A:=(ajV m).1) (p:=(mtV (ajV m).1 m).1) (d:=(dtV m).1) (by rw [←hA]) (by rw [←hD]) (by rw [←hP])
     have ht:=(tab_iff (dt_some (d:=(dtV m).1) (by rw [←hD])).1).1
     have hl:((idT m.length (dtV m).1).length:Int)=(m.length:Int):=by simp [idT]
     rw [e,hl]
     exact Evt.ctrue rfl (Evt.inr (Evt.diag (places_ok (x1:=b) (d:=(dtV m).1) ht.2 m.length 0 (by omega))) .pure)
 refine Evt.inr p2 ?_
  -- products
 obtain⟨u,v,euv,su,sv'⟩:=drawMultiply_ok hb
 have su:=Sm.of su
 have sv':=Sm.of sv'
 have smt:=Sm.mt u v
 refine Evt.bind euv (Evt.bind (mulI_ev su sv') (Evt.bind (mulS_ev su sv') (Evt.cfalse (by simp) (Evt.bind (pSameTable_ev smt.lb smt.lr) (Evt.cfalse rfl ?_)))))
 refine Evt.inr (y:=(b,())) ?_ ?_
 ·cases hP:(mtV u v).2 with
  | false=>exact Evt.cfalse rfl .pure
  | true =>
   have hmt:mtV u v=((mtV u v).1,true):=by rw [←hP]
   refine Evt.ctrue rfl (Evt.bind (detS_ev su) (Evt.bind (detS_ev sv') (Evt.bind (mulD_ev _ _) (Evt.bind (detI_ev smt) (Evt.bind (detS_ev smt) ?_)))))
   refine Evt.inr (y:=(b,u,())) ?_ ?_
   ·refine Evt.cfalse (by simp) (Evt.cfalse (by simp) ?_)
    cases h1:(dtV u).2 with
    | false=>exact Evt.cfalse rfl .pure
    | true =>
     refine Evt.ctrue rfl ?_
     cases h2:(dtV v).2 with
     | false=>exact Evt.cfalse rfl .pure
     | true =>
      refine Evt.ctrue rfl ?_
      cases h3:(if gd (dtV u).1∧gd (dtV v).1 then prodD (dtV u).1 (dtV v).1 else((0,0),false)).2 with
      | false=>exact Evt.cfalse rfl .pure
      | true =>
       refine Evt.ctrue rfl ?_
       cases h4:(dtV (mtV u v).1).2 with
       | false=>exact Evt.cfalse rfl .pure
       | true =>
        refine Evt.ctrue rfl (Evt.cfalse ?_ .pure)
        have hg:gd (dtV u).1∧gd (dtV v).1:=by
         by_cases hg:gd (dtV u).1∧gd (dtV v).1
         ·exact hg
         ·rw [if_neg hg]at h3;cases h3
        rw [if_pos hg]at h3 ⊢
        have:=det_mul (u:=u) (v:=v) (p:=(mtV u v).1) (a:=(dtV u).1) (b:=(dtV v).1) (c:=(prodD (dtV u).1 (dtV v).1).1) (d:=(dtV (mtV u v).1).1) hmt (by rw [←h1]) (by rw [←h2]) (by rw [←h3]) (by rw [←h4])
        rw [this]
        simp
   ·have hl:=mt_tab hmt
    have hun:utV (u.length:Int)=(idT u.length (1,0),true):=by
     unfold utV
     rw [if_pos (by omega),Int.toNat_natCast]
    have hmu:=mt_unit (u:=u) (mt_some hmt).1 (idT_tab hl.1 hl.2)
    have e1:Evt (fun k _=>impl_UnitTable k (u.length:Int)) (idT u.length (1,0),true):=hun ▸ implUnit_ev (by omega)
    have e2:Evt (fun k _=>impl_MultiplyTables k u (idT u.length (1,0))) (u,true):=hmu ▸ mulI_ev su (Sm.id _ (by omega) _)
    exact Evt.bind e1 (Evt.bind e2 (Evt.cfalse rfl (Evt.cfalse rfl (Evt.bind (pSameTable_ev su.lb su.lr) (Evt.cfalse rfl .pure)))))
  -- points, sums, units
 obtain⟨w,at',ew,sw,hat⟩:=drawTimesPoint_ok hb
 have sw:=Sm.of sw
 have hat2:at'.length<lenB:=by simp only [lenB];omega
 obtain⟨x,ex,sx⟩:=drawIsTable_ok hb
 have sx:=Sm.of sx
 have ex':Evt (fun k _=>spec_DrawRowSums k b) x:=Evt.eq (Evt.bind ex .pure) (fun k q=>by rw [spec_DrawRowSums])
 obtain⟨n,en,hn⟩:=drawUnit_ok hb
 have ltp:(tpV w at').1.length<lenB:=by
  have:=tpV_len (m:=w) (p:=at') (by have:=sw.l;omega)
  simp only [lenB];omega
 have lrs:(rsV x).1.length<lenB:=by
  have:=rsV_len (m:=x) (by have:=sx.l;omega)
  simp only [lenB];omega
 have sut:Sm (utV n).1:=by
  unfold utV
  split
  ·exact Sm.id _ (by omega) _
  ·exact⟨by simp,by simp⟩
 refine Evt.bind ew (Evt.bind (impl_timesPoint_ev sw.lb sw.lr hat2) (Evt.bind (spec_timesPoint_ev sw.lm sw.lr hat2) (Evt.bind ex' (Evt.bind (impl_rowSums_ev sx.lb sx.lr) (Evt.bind (spec_rowSums_ev sx.lm sx.lr) (Evt.bind (.const en) (Evt.bind (implUnit_ev hn) (Evt.bind (specUnit_ev hn) ?_))))))))
 exact Evt.ctrue (by simp) (Evt.bind (pSamePoint_ev ltp) (Evt.ctrue rfl (Evt.ctrue (by simp) (Evt.bind (pSamePoint_ev lrs) (Evt.ctrue rfl (Evt.ctrue (by simp) (Evt.bind (pSameTable_ev sut.lb sut.lr) .pure)))))))
theorem bytes_of{a:List Int}(h:WfT (.sl (.int .u8)) a):bytesOk a:=by
 intro x hx
 have h2:(decide (IntKind.u8.min≤x)&&decide (x≤IntKind.u8.max))=true:=h.2 x hx
 rw [Bool.and_eq_true]at h2
 have h3:=of_decide_eq_true h2.1
 have h4:=of_decide_eq_true h2.2
 have e1:IntKind.u8.min=0:=rfl
 have e2:IntKind.u8.max=255:=rfl
 rw [e1]at h3
 rw [e2]at h4
 exact⟨h3,h4⟩
theorem fnTables_row(a b:List Int)(h:WfT (.sl (.int .u8)) a)(h':WfT (.sl (.int .u8)) b):∃k,laws_FnTables k a b=some true:=fnTables_law a b (bytes_of h) (bytes_of h')
end Go.Ev.G

