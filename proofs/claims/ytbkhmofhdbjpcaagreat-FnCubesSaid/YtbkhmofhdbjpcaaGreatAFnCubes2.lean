/- What the plain functions of the law compute, for all inputs within the sizes that the theorems name. -/
import Derived.Test.YtbkhmofhdbjpcaaGreatPFnCubes1
import Derived.Test.YtbkhmofhdbjpcaaGreatAFnCubes1
set_option linter.unusedVariables false
namespace Go.Ev.G
open Go Go.Ev
set_option maxRecDepth 100000

abbrev Cl:=Int×Bool×Int×Int
def cellsV(n:Nat):List Cl := [(0:Int),1,2].flatMap fun s => [false,true].flatMap fun u=>(List.range n).flatMap fun i:Nat=>(List.range n).map fun j:Nat=>(s,u,(i:Int),(j:Int))
theorem cbCells0(k:Nat):spec_cbCells (k+100) 0=some (cellsV 1):=by kernel_rfl
theorem cbCells1(k:Nat):spec_cbCells (k+100) 1=some (cellsV 2):=by kernel_rfl
theorem cbCells2(k:Nat):spec_cbCells (k+100) 2=some (cellsV 4):=by kernel_rfl
theorem surfaceCells0(k:Nat):impl_surfaceCells (k+100) 0=some (cellsV 1):=by kernel_rfl
theorem surfaceCells1(k:Nat):impl_surfaceCells (k+100) 1=some (cellsV 2):=by kernel_rfl
theorem surfaceCells2(k:Nat):impl_surfaceCells (k+100) 2=some (cellsV 4):=by kernel_rfl

theorem evt_100{α:Type}{f:Nat→Option α}{r:α}(h:∀k,f (k+100)=some r):Evt (fun k _=>f k) r:=⟨100,fun k n hk _=>by
 obtain⟨m,rfl⟩:∃m,k=m+100:=⟨k - 100,by omega⟩
 exact h m⟩
theorem cbCells_ev{n:Nat}(hn:n≤2):Evt (fun k _=>spec_cbCells k n) (cellsV (2 ^ n)):=by
 rcases(by omega:n=0∨n=1∨n=2)with rfl | rfl | rfl
 ·exact evt_100 cbCells0
 ·exact evt_100 cbCells1
 ·exact evt_100 cbCells2
theorem surfaceCells_ev{n:Nat}(hn:n≤2):Evt (fun k _=>impl_surfaceCells k n) (cellsV (2 ^ n)):=by
 rcases(by omega:n=0∨n=1∨n=2)with rfl | rfl | rfl
 ·exact evt_100 surfaceCells0
 ·exact evt_100 surfaceCells1
 ·exact evt_100 surfaceCells2
theorem cellsV_len{n:Nat}(hn:n≤2):(cellsV (2 ^ n)).length=6*2 ^ (2*n)∧2 ^ (2*n)≤16:=by
 rcases(by omega:n=0∨n=1∨n=2)with rfl | rfl | rfl <;> exact⟨rfl,by decide⟩
theorem cellsV_ok{n:Nat}(hn:n≤2):∀c∈cellsV (2 ^ n),cellV n c=true:=by
 rcases(by omega:n=0∨n=1∨n=2)with rfl | rfl | rfl <;> decide

theorem sideV_sv{m dep:Nat}{l h x y:Int}(hl : -64≤l∧l<h∧h≤64)(hx:0≤x∧x≤5)(hy:0≤y∧y≤5)(hd:dep≤2)(hm:m≤3)(hxy:x≤y):ivGd (sideV m dep l h x,sideV m dep l h y):=by
 have hp:=pow2 hd
 have b1:=side_bound (s:=2 ^ dep) hl hx hp
 have b2:=side_bound (s:=2 ^ dep) hl hy hp
 have hle:(h - l)*x≤(h - l)*y:=Int.mul_le_mul_of_nonneg_left hxy (by omega)
 have e1:=sv_mkD (mkD_ok (n:=l*2 ^ dep+(h - l)*x) (k:=m+dep) (by omega) (by omega) (by omega))
 have e2:=sv_mkD (mkD_ok (n:=l*2 ^ dep+(h - l)*y) (k:=m+dep) (by omega) (by omega) (by omega))
 refine⟨mkD_gd _ _,mkD_gd _ _,?_⟩
 unfold sideV
 have hq:(0:Int)<2 ^ (m+dep):=Int.pow_pos (by decide)
 have:sv (mkD (l*2 ^ dep+(h - l)*x) (m+dep)).1*2 ^ (m+dep)≤sv (mkD (l*2 ^ dep+(h - l)*y) (m+dep)).1*2 ^ (m+dep):=by
  rw [e1,e2]
  exact Int.mul_le_mul_of_nonneg_right (by omega) (by decide)
 exact Int.le_of_mul_le_mul_right this hq
structure Cb(s:List (List Tm)):Prop where
 ln:s.length=3
 tm:∀p∈s,∀t∈p,tmW t
 lp:∀p∈s,p.length<lenB
theorem low_bound{c:Cl}{n:Nat}(hn:n≤2)(k1:0≤c.1∧c.1≤2)(hi:0≤c.2.2.1∧c.2.2.1≤4)(hj:0≤c.2.2.2∧c.2.2.2≤4) :
  (0≤(lowV c (2 ^ n)).1∧(lowV c (2 ^ n)).1≤4)∧(0≤(lowV c (2 ^ n)).2.1∧(lowV c (2 ^ n)).2.1≤4)∧(0≤(lowV c (2 ^ n)).2.2∧(lowV c (2 ^ n)).2.2≤4):=by
 have hp:=pow2 hn
 exact lowV_le hi hj (by omega)
theorem up_bound(ax j:Int){x:Int}(h:0≤x∧x≤4):(0≤upV ax j x∧upV ax j x≤5)∧x≤upV ax j x:=by
 unfold upV;split <;> omega
theorem cell_sd{s:List (List Tm)}{b:Bx}{n:Nat}{c:Cl}(hs:Cb s)(hb:cbV b=true)(hc:cellV n c=true):Sd s (csV b n c).1:=by
 obtain⟨m,l0,l1,l2,h0,h1,h2,rfl,hm,g0,g1,g2⟩:=cbV_form hb
 obtain⟨n',hn',hn2,k1,k2,k3⟩:=cellV_form hc
 have:n'=n:=by omega
 subst this
 obtain⟨q0,q1,q2⟩:=low_bound hn2 k1 k2 k3
 have u0:=up_bound c.1 0 q0
 have u1:=up_bound c.1 1 q1
 have u2:=up_bound c.1 2 q2
 refine⟨?_,csV_len _ _ _,hs.tm,hs.lp⟩
 intro i hi
 unfold csV at hi
 rw [hb,hc,Bool.true_and,if_pos rfl]at hi
 simp only [Int.toNat_natCast,cellSides,List.mem_cons,List.not_mem_nil,or_false]at hi
 rcases hi with rfl | rfl | rfl
 ·exact sideV_sv g0 (by omega) u0.1 hn2 hm u0.2
 ·exact sideV_sv g1 (by omega) u1.1 hn2 hm u1.2
 ·exact sideV_sv g2 (by omega) u2.1 hn2 hm u2.2
theorem cbSidesB_ev{b:Bx}{n:Nat}{c:Cl}(hb:cbV b=true)(hc:cellV n c=true):Evt (fun k _=>spec_cbSides k b n c) (csV b n c).1:=by
 have hcs:(csV b n c).1=cellSides b.1.toNat n b.2.1 b.2.2 [(lowV c (2 ^ n)).1,(lowV c (2 ^ n)).2.1,(lowV c (2 ^ n)).2.2] [upV c.1 0 (lowV c (2 ^ n)).1,upV c.1 1 (lowV c (2 ^ n)).2.1,upV c.1 2 (lowV c (2 ^ n)).2.2]:=by
  unfold csV;rw [hb,hc,Bool.true_and,if_pos rfl];simp only [Int.toNat_natCast]
 rw [hcs]
 obtain⟨m,l0,l1,l2,h0,h1,h2,rfl,hm,g0,g1,g2⟩:=cbV_form hb
 obtain⟨n',hn',hn2,k1,k2,k3⟩:=cellV_form hc
 have:n'=n:=by omega
 subst this
 exact cbSides_ev hm hn2 g0 g1 g2 k1 k2 k3
theorem cellSidesB_ev{b:Bx}{n:Nat}{c:Cl}(hb:cbV b=true)(hc:cellV n c=true):Evt (fun k _=>impl_cellSides k b n c) (csV b n c).1:=by
 have hcs:(csV b n c).1=cellSides b.1.toNat n b.2.1 b.2.2 [(lowV c (2 ^ n)).1,(lowV c (2 ^ n)).2.1,(lowV c (2 ^ n)).2.2] [upV c.1 0 (lowV c (2 ^ n)).1,upV c.1 1 (lowV c (2 ^ n)).2.1,upV c.1 2 (lowV c (2 ^ n)).2.2]:=by
  unfold csV;rw [hb,hc,Bool.true_and,if_pos rfl];simp only [Int.toNat_natCast]
 rw [hcs]
 obtain⟨m,l0,l1,l2,h0,h1,h2,rfl,hm,g0,g1,g2⟩:=cbV_form hb
 obtain⟨n',hn',hn2,k1,k2,k3⟩:=cellV_form hc
 have:n'=n:=by omega
 subst this
 exact impl_cellSides_ev hm hn2 g0 g1 g2 k1 k2 k3

theorem cbHolds_ev{s:List (List Tm)}{sides:List Iv}(h:Sd s sides)(hl:s.length=3){r:Nat}(hr:r<6):Evt (fun k _=>spec_cbHolds k s sides r) (hV 3 s sides r):=by
 refine Evt.eq (f:=fun k q=>_) ?_ (fun k q=>by rw [spec_cbHolds])
 have e:Int.tmod (r:Int) 3=((r % 3:Nat):Int):=rfl
 rw [e]
 have hm:s.getD (r % 3) []∈s:=getD_in (by omega)
 refine Evt.ctrue (decide_eq_true (by omega)) (Evt.ctrue (decide_eq_true (by omega)) ?_)
 simp only [Int.toNat_natCast]
 refine Evt.bind (vaOver_ev (h.tm _ hm) h.sd (by have:=h.ln;simp only [lenB];omega) (h.lp _ hm)) ?_
 cases hv:valO (s.getD (r % 3) []) sides with
 | none =>
  have:hV 3 s sides r=false:=by unfold hV;rw [hv]
  rw [this]
  exact Evt.cfalse rfl .pure
 | some v =>
  refine Evt.ctrue rfl (Evt.bind (.const (ivSign_eq (valO_iv (h.tm _ hm) hv))) ?_)
  rw [beq_tail hv (x:=IntKind.wrap .i64 (1 - (IntKind.wrap .i64 (2*(IntKind.wrap .i64 (Int.tdiv (r:Int) 3)))))) (by
   have:r=0∨r=1∨r=2∨r=3∨r=4∨r=5:=by omega
   rcases this with rfl | rfl | rfl | rfl | rfl | rfl <;> decide)]
  exact .pure
theorem labelHolds_ev{s:List (List Tm)}{sides:List Iv}(h:Sd s sides)(hl:s.length=3){r:Nat}(hr:r<6):Evt (fun k _=>impl_labelHolds k s sides r) (hV 3 s sides r):=by
 refine Evt.eq (f:=fun k q=>_) ?_ (fun k q=>by rw [impl_labelHolds])
 have e:Int.tmod (r:Int) 3=((r % 3:Nat):Int):=rfl
 rw [e]
 have hm:s.getD (r % 3) []∈s:=getD_in (by omega)
 refine Evt.bind (.const (inside_eq _ _ _)) (Evt.cfalse (by rw [decide_eq_true (by omega)];rfl) ?_)
 refine Evt.ctrue (decide_eq_true (by omega)) (Evt.ctrue (decide_eq_true (by omega)) ?_)
 simp only [Int.toNat_natCast]
 refine Evt.bind (valueOver_ev (h.tm _ hm) h.sd h.ln (h.lp _ hm)) ?_
 cases hv:valO (s.getD (r % 3) []) sides with
 | none =>
  have:hV 3 s sides r=false:=by unfold hV;rw [hv]
  rw [this]
  exact Evt.cfalse rfl .pure
 | some v =>
  refine Evt.ctrue rfl (Evt.bind (.const (signOf_eq v)) ?_)
  rw [beq_tail hv (x:=IntKind.wrap .i64 (1 - (IntKind.wrap .i64 ((IntKind.wrap .i64 (Int.tdiv (r:Int) 3))*2)))) (by
   have:r=0∨r=1∨r=2∨r=3∨r=4∨r=5:=by omega
   rcases this with rfl | rfl | rfl | rfl | rfl | rfl <;> decide)]
  exact .pure
def lbl(s:List (List Tm))(b:Bx)(n:Nat)(c:Cl):Option Nat:=(List.range 6).find? (hV 3 s (csV b n c).1)
theorem lbl_lt{s:List (List Tm)}{b:Bx}{n:Nat}{c:Cl}{j:Nat}(h:lbl s b n c=some j):j<6:=by
 have:=List.mem_of_find?_eq_some h
 simpa using this
theorem cbLabel_ev{s:List (List Tm)}{b:Bx}{n:Nat}{c:Cl}(hs:Cb s)(hb:cbV b=true)(hc:cellV n c=true):Evt (fun k _=>spec_cbLabel k s (csV b n c).1) (match lbl s b n c with | some j=>((j:Int),true) | none=>(0,false)):=by
 refine Evt.eq (f:=fun k q=>_) ?_ (fun k q=>by rw [spec_cbLabel])
 have h:=cell_sd hs hb hc
 have:=find_loop (L:=fun k m i=>spec_cbLabel_L26 k m s (csV b n c).1 i) (p:=fun k i=>spec_cbHolds k s (csV b n c).1 i) (out:=fun j=>((j:Int),true)) (N:=6) (P:=hV 3 s (csV b n c).1) (by omega) (fun j hj=>cbHolds_ev h hs.ln hj)
  (fun k m i hi=>by rw [spec_cbLabel_L26.eq_2,decide_eq_true (by omega)];rfl) (fun k m=>by rw [spec_cbLabel_L26.eq_2];rfl)
 unfold lbl
 cases hf:(List.range 6).find? (hV 3 s (csV b n c).1)with
 | none=>rw [hf]at this;exact Evt.inr (Evt.diag this) .pure
 | some j=>rw [hf]at this;exact Evt.inl (Evt.diag this) .pure
theorem cellLabel_ev{s:List (List Tm)}{b:Bx}{n:Nat}{c:Cl}(hs:Cb s)(hb:cbV b=true)(hc:cellV n c=true):Evt (fun k _=>impl_cellLabel k s b n c) (match lbl s b n c with | some j=>(j:Int) | none => -1):=by
 refine Evt.eq (f:=fun k q=>_) ?_ (fun k q=>by rw [impl_cellLabel])
 have h:=cell_sd hs hb hc
 refine Evt.bind (cellSidesB_ev hb hc) ?_
 have:=find_loop (L:=fun k m i=>impl_cellLabel_L58 k m s (csV b n c).1 i) (p:=fun k i=>impl_labelHolds k s (csV b n c).1 i) (out:=fun j=>(j:Int)) (N:=6) (P:=hV 3 s (csV b n c).1) (by omega) (fun j hj=>labelHolds_ev h hs.ln hj)
  (fun k m i hi=>by rw [impl_cellLabel_L58.eq_2,decide_eq_true (by omega)];rfl) (fun k m=>by rw [impl_cellLabel_L58.eq_2];rfl)
 unfold lbl
 cases hf:(List.range 6).find? (hV 3 s (csV b n c).1)with
 | none=>rw [hf]at this;exact Evt.inr (Evt.diag this) .pure
 | some j=>rw [hf]at this;exact Evt.inl (Evt.diag this) .pure

def colV{α:Type}(f:α→Option Nat):List α→List Int×Bool
 | []=>([],true)
 | e::r=>match f e with
  | some j=>((j:Int)::(colV f r).1,(colV f r).2)
  | none=>([],false)
theorem colV_len{α:Type}{f:α→Option Nat}:∀(es:List α),(colV f es).1.length≤es.length∧((colV f es).2=true↔(colV f es).1.length=es.length)
 | []=>by simp [colV]
 | e::r=>by
  have:=colV_len (f:=f) r
  unfold colV
  cases f e with
  | none=>simp
  | some j =>
   simp only [List.length_cons]
   exact⟨by omega,by rw [this.2];omega⟩
theorem colV_index{α:Type}{f:α→Option Nat}:∀(es:List α),(match es.findIdx? (fun e=>(f e).isNone)with | some j=>(j:Int) | none => -1)=(if (colV f es).2 then -1 else((colV f es).1.length:Int))
 | []=>rfl
 | e::r=>by
  have ih:=colV_index (f:=f) r
  rw [List.findIdx?_cons]
  unfold colV
  cases hj:f e with
  | none=>rfl
  | some j =>
   simp only [Option.isNone_some,Bool.false_eq_true,if_false,List.length_cons]
   cases hi:r.findIdx? (fun e=>(f e).isNone)with
   | none =>
    rw [hi]at ih
    change (-1:Int)=_ at ih
    show(-1:Int)=_
    split at ih
    ·rename_i h;rw [if_pos h]
    ·omega
   | some i =>
    rw [hi]at ih
    change (i:Int)=_ at ih
    show((i+1:Nat):Int)=_
    split at ih
    ·omega
    ·rename_i h;rw [if_neg h];omega
theorem cbLabels_loop{s:List (List Tm)}{b:Bx}{n:Nat}(hs:Cb s)(hb:cbV b=true){es:List Cl}(he:∀c∈es,cellV n c=true)(hl:es.length≤1000):∀(r d:List Cl) (acc:List Int),d++r=es→acc.length=d.length →
  Evt (fun k m=>spec_cbLabels_L58 k m s n b acc es (es.length:Int) d.length) (if (colV (lbl s b n) r).2 then .inr (acc++(colV (lbl s b n) r).1,())else .inl (acc++(colV (lbl s b n) r).1))
 | [],d,acc,hd,_=>by
  rw [List.append_nil]at hd
  subst hd
  refine Evt.step (fun k m=>spec_cbLabels_L58.eq_2 k _ _ _ _ _ _ _ m) (Evt.rng0 ?_)
  simp only [colV,if_true,List.append_nil]
  exact .pure
 | e::r,d,acc,hd,ha=>by
  have ge:=he e (by rw [←hd];simp)
  have hdl:=congrArg List.length hd
  simp only [List.length_append,List.length_cons]at hdl
  refine Evt.step (fun k m=>spec_cbLabels_L58.eq_2 k _ _ _ _ _ _ _ m) ?_
  rw [←hd]
  refine Evt.ctrue mid_lt (Evt.ctrue mid_ge (Evt.ctrue mid_lt ?_))
  rw [mid_get,len_next (by rw [hd];simp only [lenB];omega)]
  have hre:=cbLabel_ev hs hb ge
  refine Evt.bind (cbSidesB_ev hb ge) ?_
  unfold colV
  cases hj:lbl s b n e with
  | none =>
   rw [hj]at hre
   refine Evt.bind hre (Evt.ctrue rfl ?_)
   simp only [Bool.false_eq_true,if_false,List.append_nil]
   exact .pure
  | some j =>
   rw [hj]at hre
   refine Evt.bind hre (Evt.cfalse rfl (Evt.ctrue (decide_eq_true (by simp only [List.length_cons,List.length_nil];omega)) ?_))
   have ih:=cbLabels_loop hs hb he hl r (d ++ [e]) (acc ++ [(j:Int)]) (by simpa using hd) (by simp [ha])
   rw [←hd]at ih
   simp only [List.append_assoc,List.singleton_append]at ih ⊢
   exact ih
theorem surfaceLabels_loop{s:List (List Tm)}{b:Bx}{n:Nat}(hs:Cb s)(hb:cbV b=true){es:List Cl}(he:∀c∈es,cellV n c=true)(hl:es.length≤1000):∀(r d:List Cl) (acc:List Int),d++r=es→acc.length=d.length →
  Evt (fun k m=>impl_surfaceLabels_L58 k m s b n acc es (es.length:Int) d.length) (if (colV (lbl s b n) r).2 then .inr (acc++(colV (lbl s b n) r).1,())else .inl ([],false))
 | [],d,acc,hd,_=>by
  rw [List.append_nil]at hd
  subst hd
  refine Evt.step (fun k m=>impl_surfaceLabels_L58.eq_2 k _ _ _ _ _ _ _ m) (Evt.rng0 ?_)
  simp only [colV,if_true,List.append_nil]
  exact .pure
 | e::r,d,acc,hd,ha=>by
  have ge:=he e (by rw [←hd];simp)
  have hdl:=congrArg List.length hd
  simp only [List.length_append,List.length_cons]at hdl
  refine Evt.step (fun k m=>impl_surfaceLabels_L58.eq_2 k _ _ _ _ _ _ _ m) ?_
  rw [←hd]
  refine Evt.ctrue mid_lt (Evt.ctrue mid_ge (Evt.ctrue mid_lt ?_))
  rw [mid_get,len_next (by rw [hd];simp only [lenB];omega)]
  have hre:=cellLabel_ev hs hb ge
  unfold colV
  cases hj:lbl s b n e with
  | none =>
   rw [hj]at hre
   refine Evt.bind hre (Evt.ctrue rfl ?_)
   simp only [Bool.false_eq_true,if_false]
   exact .pure
  | some j =>
   rw [hj]at hre
   refine Evt.bind hre (Evt.cfalse (decide_eq_false (show ¬ ((j:Int)<0)by omega)) (Evt.ctrue (decide_eq_true (by simp only [List.length_cons,List.length_nil];omega)) ?_))
   have ih:=surfaceLabels_loop hs hb he hl r (d ++ [e]) (acc ++ [(j:Int)]) (by simpa using hd) (by simp [ha])
   rw [←hd]at ih
   simp only [List.append_assoc,List.singleton_append]at ih ⊢
   exact ih
def lbsV(s:List (List Tm))(b:Bx)(n:Nat):List Int×Bool:=colV (lbl s b n) (cellsV (2 ^ n))
theorem cbLabels_ev{s:List (List Tm)}{b:Bx}{n:Nat}(hs:Cb s)(hb:cbV b=true)(hn:n≤2):Evt (fun k _=>spec_cbLabels k s b n) (lbsV s b n).1:=by
 refine Evt.eq (f:=fun k q=>_) ?_ (fun k q=>by rw [spec_cbLabels])
 refine Evt.bind (cbCells_ev hn) ?_
 have hc:=cellsV_len hn
 have h:=cbLabels_loop hs hb (es:=cellsV (2 ^ n)) (cellsV_ok hn) (by omega) (cellsV (2 ^ n)) [] [] rfl rfl
 simp only [List.length_nil,List.nil_append]at h
 unfold lbsV
 cases hf:(colV (lbl s b n) (cellsV (2 ^ n))).2 with
 | true=>rw [hf,if_pos rfl]at h;exact Evt.inr (Evt.diag h) .pure
 | false=>rw [hf,if_neg (by simp)]at h;exact Evt.inl (Evt.diag h) .pure
def allL(s:List (List Tm))(b:Bx)(n:Nat):List Int×Bool:=if (lbsV s b n).2 then((lbsV s b n).1,true)else([],false)
theorem surfaceLabels_ev{s:List (List Tm)}{b:Bx}{n:Nat}(hs:Cb s)(hb:cbV b=true)(hn:n≤2):Evt (fun k _=>impl_surfaceLabels k s b n) (allL s b n):=by
 refine Evt.eq (f:=fun k q=>_) ?_ (fun k q=>by rw [impl_surfaceLabels])
 refine Evt.bind (surfaceCells_ev hn) ?_
 have hc:=cellsV_len hn
 have h:=surfaceLabels_loop hs hb (es:=cellsV (2 ^ n)) (cellsV_ok hn) (by omega) (cellsV (2 ^ n)) [] [] rfl rfl
 simp only [List.length_nil,List.nil_append]at h
 unfold allL lbsV
 cases hf:(colV (lbl s b n) (cellsV (2 ^ n))).2 with
 | true=>rw [hf,if_pos rfl]at h;exact Evt.inr (Evt.diag h) .pure
 | false=>rw [hf,if_neg (by simp)]at h;exact Evt.inl (Evt.diag h) .pure
theorem cbCount_eq{n:Nat}(hn:n≤2):spec_cbCount n=some (((cellsV (2 ^ n)).length:Nat):Int):=by
 have hc:=cellsV_len hn
 unfold spec_cbCount
 have e:IntKind.wrap .i64 (2*(n:Int))=((2*n:Nat):Int):=by rw [w64 (by omega) (by omega)];omega
 rw [e,dyPower_eq (by omega),Option.bind_some,w64 (by omega) (by omega),hc.1]
 congr 1
def askC(s:List (List Tm))(b:Bx)(d:Int):Bool:=cubeV s b&&decide (0≤d∧d≤2)
theorem cbAsked_ev{m:List (List Tm)}{b:Bx}{d:Int}(hb:m.length<lenB)(hm:∀r∈m,r.length<lenB)(hx:b.2.1.length<lenB):Evt (fun k _=>spec_cbAsked k m b d) (askC m b d):=by
 refine Evt.eq (f:=fun k q=>_) ?_ (fun k q=>by rw [spec_cbAsked])
 refine Evt.bind (cbGood_ev hb hm hx) ?_
 unfold askC
 cases cubeV m b with
 | false=>exact Evt.cfalse rfl .pure
 | true =>
  refine Evt.ctrue rfl (Evt.bind (.const (?_:spec_cbDepth d=some (decide (0≤d∧d≤2)))) .pure)
  unfold spec_cbDepth
  rw [l1In_eq];rfl
theorem cubeV_form{m:List (List Tm)}{b:Bx}(h:cubeV m b=true)(hm:∀r∈m,r.length<lenB):Cb m∧cbV b=true:=by
 unfold cubeV at h
 simp only [Bool.and_eq_true]at h
 have:=h.2.1
 simp at this
 exact⟨⟨by omega,sysV_tm h.1,hm⟩,h.2.2⟩
theorem askC_form{m:List (List Tm)}{b:Bx}{d:Int}(h:askC m b d=true)(hm:∀r∈m,r.length<lenB):∃n:Nat,d=n∧n≤2∧Cb m∧cbV b=true:=by
 unfold askC at h
 simp only [Bool.and_eq_true]at h
 have hd:=of_decide_eq_true h.2
 have:=cubeV_form h.1 hm
 exact⟨d.toNat,by omega,by omega,this.1,this.2⟩
theorem implC_ask{V:Type}{s:List (List Tm)}{b:Bx}{d:Int}{z:V}{g:Nat→Option V}{v:V}(hb:s.length<lenB)(hm:∀r∈s,r.length<lenB)(hx:b.2.1.length<lenB)(hz:askC s b d=false→v=z)(hg:askC s b d=true→Evt (fun k _=>g k) v) :
  Evt (fun k _=>(Option.bind (impl_isCube k s b) fun r1=>(bif (!r1)then some z else(Option.bind (impl_inside d 0 2) fun r2=>(bif (!r2)then some z else g k))))) v:=by
 refine Evt.bind (isCube_ev hb hm hx) ?_
 unfold askC at hz hg
 cases hp:cubeV s b with
 | false =>
  rw [hp]at hz
  rw [hz rfl]
  exact Evt.ctrue rfl .pure
 | true =>
  rw [hp]at hz hg
  refine Evt.cfalse rfl (Evt.bind (.const (inside_eq d 0 2)) ?_)
  cases hd:decide (0≤d∧d≤2)with
  | false =>
   rw [hd]at hz
   rw [hz rfl]
   exact Evt.ctrue rfl .pure
  | true =>
   rw [hd]at hg
   exact Evt.cfalse rfl (hg rfl)
theorem specC_ask{V:Type}{s:List (List Tm)}{b:Bx}{d:Int}{z:V}{g:Nat→Option V}{v:V}(hb:s.length<lenB)(hm:∀r∈s,r.length<lenB)(hx:b.2.1.length<lenB)(hz:askC s b d=false→v=z)(hg:askC s b d=true→Evt (fun k _=>g k) v) :
  Evt (fun k _=>(Option.bind (spec_cbAsked k s b d) fun r1=>(bif (!r1)then some z else g k))) v:=by
 refine Evt.bind (cbAsked_ev hb hm hx) ?_
 cases hp:askC s b d with
 | false=>rw [hz hp];exact Evt.ctrue rfl .pure
 | true=>exact Evt.cfalse rfl (hg hp)
end Go.Ev.G

namespace Go.Ev.G
open Go Go.Ev
set_option maxRecDepth 100000

def cornX(n x:Nat):List (Int×Int×Int):=(List.range (n+1)).flatMap fun y:Nat=>(List.range (n+1)).map fun z:Nat=>((x:Int),(y:Int),(z:Int))
def ordV(d:Int)(n:Nat)(p:Int×Int×Int):List Int:=(impl_around 100 (cellsV n) d p).getD []
def idxV(n:Nat):List Int:=(List.range (6*n*n)).map fun i:Nat=>(i:Int)
def inner(n:Nat)(p:Int×Int×Int):Bool:=(Int.tmod p.1 n != 0)&&(Int.tmod p.2.1 n != 0)&&(Int.tmod p.2.2 n != 0)

theorem o0_0(k:Nat):(cornX 1 0).map (fun p=>impl_around (k+100) (cellsV 1) 0 p)=(cornX 1 0).map (fun p=>some (ordV 0 1 p)):=by kernel_rfl
theorem s0_0(k:Nat):(cornX 1 0).map (fun p=>bif inner 1 p then some []else spec_cbAround (k+100) (idxV 1) [p.1,p.2.1,p.2.2] 1 (cellsV 1))=(cornX 1 0).map (fun p=>some (ordV 0 1 p)):=by kernel_rfl
theorem b0_0:((cornX 1 0).all fun p=>(ordV 0 1 p).all fun i=>decide (0≤i)&&decide (i<6))=true:=by kernel_rfl
theorem l0_0:((cornX 1 0).all fun p=>Nat.ble (ordV 0 1 p).length 1000)=true:=by kernel_rfl
theorem o0_1(k:Nat):(cornX 1 1).map (fun p=>impl_around (k+100) (cellsV 1) 0 p)=(cornX 1 1).map (fun p=>some (ordV 0 1 p)):=by kernel_rfl
theorem s0_1(k:Nat):(cornX 1 1).map (fun p=>bif inner 1 p then some []else spec_cbAround (k+100) (idxV 1) [p.1,p.2.1,p.2.2] 1 (cellsV 1))=(cornX 1 1).map (fun p=>some (ordV 0 1 p)):=by kernel_rfl
theorem b0_1:((cornX 1 1).all fun p=>(ordV 0 1 p).all fun i=>decide (0≤i)&&decide (i<6))=true:=by kernel_rfl
theorem l0_1:((cornX 1 1).all fun p=>Nat.ble (ordV 0 1 p).length 1000)=true:=by kernel_rfl
theorem o1_0(k:Nat):(cornX 2 0).map (fun p=>impl_around (k+100) (cellsV 2) 1 p)=(cornX 2 0).map (fun p=>some (ordV 1 2 p)):=by kernel_rfl
theorem s1_0(k:Nat):(cornX 2 0).map (fun p=>bif inner 2 p then some []else spec_cbAround (k+100) (idxV 2) [p.1,p.2.1,p.2.2] 2 (cellsV 2))=(cornX 2 0).map (fun p=>some (ordV 1 2 p)):=by kernel_rfl
theorem b1_0:((cornX 2 0).all fun p=>(ordV 1 2 p).all fun i=>decide (0≤i)&&decide (i<24))=true:=by kernel_rfl
theorem l1_0:((cornX 2 0).all fun p=>Nat.ble (ordV 1 2 p).length 1000)=true:=by kernel_rfl
theorem o1_1(k:Nat):(cornX 2 1).map (fun p=>impl_around (k+100) (cellsV 2) 1 p)=(cornX 2 1).map (fun p=>some (ordV 1 2 p)):=by kernel_rfl
theorem s1_1(k:Nat):(cornX 2 1).map (fun p=>bif inner 2 p then some []else spec_cbAround (k+100) (idxV 2) [p.1,p.2.1,p.2.2] 2 (cellsV 2))=(cornX 2 1).map (fun p=>some (ordV 1 2 p)):=by kernel_rfl
theorem b1_1:((cornX 2 1).all fun p=>(ordV 1 2 p).all fun i=>decide (0≤i)&&decide (i<24))=true:=by kernel_rfl
theorem l1_1:((cornX 2 1).all fun p=>Nat.ble (ordV 1 2 p).length 1000)=true:=by kernel_rfl
theorem o1_2(k:Nat):(cornX 2 2).map (fun p=>impl_around (k+100) (cellsV 2) 1 p)=(cornX 2 2).map (fun p=>some (ordV 1 2 p)):=by kernel_rfl
theorem s1_2(k:Nat):(cornX 2 2).map (fun p=>bif inner 2 p then some []else spec_cbAround (k+100) (idxV 2) [p.1,p.2.1,p.2.2] 2 (cellsV 2))=(cornX 2 2).map (fun p=>some (ordV 1 2 p)):=by kernel_rfl
theorem b1_2:((cornX 2 2).all fun p=>(ordV 1 2 p).all fun i=>decide (0≤i)&&decide (i<24))=true:=by kernel_rfl
theorem l1_2:((cornX 2 2).all fun p=>Nat.ble (ordV 1 2 p).length 1000)=true:=by kernel_rfl
theorem o2_0(k:Nat):(cornX 4 0).map (fun p=>impl_around (k+100) (cellsV 4) 2 p)=(cornX 4 0).map (fun p=>some (ordV 2 4 p)):=by kernel_rfl
theorem s2_0(k:Nat):(cornX 4 0).map (fun p=>bif inner 4 p then some []else spec_cbAround (k+100) (idxV 4) [p.1,p.2.1,p.2.2] 4 (cellsV 4))=(cornX 4 0).map (fun p=>some (ordV 2 4 p)):=by kernel_rfl
theorem b2_0:((cornX 4 0).all fun p=>(ordV 2 4 p).all fun i=>decide (0≤i)&&decide (i<96))=true:=by kernel_rfl
theorem l2_0:((cornX 4 0).all fun p=>Nat.ble (ordV 2 4 p).length 1000)=true:=by kernel_rfl
theorem o2_1(k:Nat):(cornX 4 1).map (fun p=>impl_around (k+100) (cellsV 4) 2 p)=(cornX 4 1).map (fun p=>some (ordV 2 4 p)):=by kernel_rfl
theorem s2_1(k:Nat):(cornX 4 1).map (fun p=>bif inner 4 p then some []else spec_cbAround (k+100) (idxV 4) [p.1,p.2.1,p.2.2] 4 (cellsV 4))=(cornX 4 1).map (fun p=>some (ordV 2 4 p)):=by kernel_rfl
theorem b2_1:((cornX 4 1).all fun p=>(ordV 2 4 p).all fun i=>decide (0≤i)&&decide (i<96))=true:=by kernel_rfl
theorem l2_1:((cornX 4 1).all fun p=>Nat.ble (ordV 2 4 p).length 1000)=true:=by kernel_rfl
theorem o2_2(k:Nat):(cornX 4 2).map (fun p=>impl_around (k+100) (cellsV 4) 2 p)=(cornX 4 2).map (fun p=>some (ordV 2 4 p)):=by kernel_rfl
theorem s2_2(k:Nat):(cornX 4 2).map (fun p=>bif inner 4 p then some []else spec_cbAround (k+100) (idxV 4) [p.1,p.2.1,p.2.2] 4 (cellsV 4))=(cornX 4 2).map (fun p=>some (ordV 2 4 p)):=by kernel_rfl
theorem b2_2:((cornX 4 2).all fun p=>(ordV 2 4 p).all fun i=>decide (0≤i)&&decide (i<96))=true:=by kernel_rfl
theorem l2_2:((cornX 4 2).all fun p=>Nat.ble (ordV 2 4 p).length 1000)=true:=by kernel_rfl
theorem o2_3(k:Nat):(cornX 4 3).map (fun p=>impl_around (k+100) (cellsV 4) 2 p)=(cornX 4 3).map (fun p=>some (ordV 2 4 p)):=by kernel_rfl
theorem s2_3(k:Nat):(cornX 4 3).map (fun p=>bif inner 4 p then some []else spec_cbAround (k+100) (idxV 4) [p.1,p.2.1,p.2.2] 4 (cellsV 4))=(cornX 4 3).map (fun p=>some (ordV 2 4 p)):=by kernel_rfl
theorem b2_3:((cornX 4 3).all fun p=>(ordV 2 4 p).all fun i=>decide (0≤i)&&decide (i<96))=true:=by kernel_rfl
theorem l2_3:((cornX 4 3).all fun p=>Nat.ble (ordV 2 4 p).length 1000)=true:=by kernel_rfl
theorem o2_4(k:Nat):(cornX 4 4).map (fun p=>impl_around (k+100) (cellsV 4) 2 p)=(cornX 4 4).map (fun p=>some (ordV 2 4 p)):=by kernel_rfl
theorem s2_4(k:Nat):(cornX 4 4).map (fun p=>bif inner 4 p then some []else spec_cbAround (k+100) (idxV 4) [p.1,p.2.1,p.2.2] 4 (cellsV 4))=(cornX 4 4).map (fun p=>some (ordV 2 4 p)):=by kernel_rfl
theorem b2_4:((cornX 4 4).all fun p=>(ordV 2 4 p).all fun i=>decide (0≤i)&&decide (i<96))=true:=by kernel_rfl
theorem l2_4:((cornX 4 4).all fun p=>Nat.ble (ordV 2 4 p).length 1000)=true:=by kernel_rfl

theorem cornX_mem{n x:Nat}{y z:Int}(hy:0≤y)(hy2:y≤n)(hz:0≤z)(hz2:z≤n):((x:Int),y,z)∈cornX n x:=by
 unfold cornX
 rw [List.mem_flatMap]
 refine⟨y.toNat,by rw [List.mem_range];omega,?_⟩
 rw [List.mem_map]
 refine⟨z.toNat,by rw [List.mem_range];omega,?_⟩
 simp only [Prod.mk.injEq,true_and]
 omega

theorem map_at{α β:Type}{f g:α→β}{l:List α}(h:l.map f=l.map g){p:α}(hp:p∈l):f p=g p:=List.map_inj_left.1 h p hp

structure InB(d:Nat)(x y z:Int):Prop where
 hd:d≤2
 x0:0≤x
 x1:x≤(2 ^ d:Nat)
 y0:0≤y
 y1:y≤(2 ^ d:Nat)
 z0:0≤z
 z1:z≤(2 ^ d:Nat)

theorem around_ord{d:Nat}{x y z:Int}(h:InB d x y z)(k:Nat):impl_around (k+100) (cellsV (2 ^ d)) d (x,y,z)=some (ordV d (2 ^ d) (x,y,z)):=by
 obtain⟨hd,x0,x1,y0,y1,z0,z1⟩:=h
 have hd3:d=0∨d=1∨d=2:=by omega
 rcases hd3 with rfl | rfl | rfl
 ·have hx:x=0∨x=1:=by simp at x1;omega
  rcases hx with rfl | rfl
  ·exact map_at (o0_0 k) (cornX_mem (x:=0) y0 y1 z0 z1)
  ·exact map_at (o0_1 k) (cornX_mem (x:=1) y0 y1 z0 z1)
 ·have hx:x=0∨x=1∨x=2:=by simp at x1;omega
  rcases hx with rfl | rfl | rfl
  ·exact map_at (o1_0 k) (cornX_mem (x:=0) y0 y1 z0 z1)
  ·exact map_at (o1_1 k) (cornX_mem (x:=1) y0 y1 z0 z1)
  ·exact map_at (o1_2 k) (cornX_mem (x:=2) y0 y1 z0 z1)
 ·have hx:x=0∨x=1∨x=2∨x=3∨x=4:=by simp at x1;omega
  rcases hx with rfl | rfl | rfl | rfl | rfl
  ·exact map_at (o2_0 k) (cornX_mem (x:=0) y0 y1 z0 z1)
  ·exact map_at (o2_1 k) (cornX_mem (x:=1) y0 y1 z0 z1)
  ·exact map_at (o2_2 k) (cornX_mem (x:=2) y0 y1 z0 z1)
  ·exact map_at (o2_3 k) (cornX_mem (x:=3) y0 y1 z0 z1)
  ·exact map_at (o2_4 k) (cornX_mem (x:=4) y0 y1 z0 z1)
theorem saround_ord{d:Nat}{x y z:Int}(h:InB d x y z)(k:Nat):(bif inner (2 ^ d) (x,y,z)then some []else spec_cbAround (k+100) (idxV (2 ^ d)) [x,y,z] ((2 ^ d:Nat):Int) (cellsV (2 ^ d)))=some (ordV d (2 ^ d) (x,y,z)):=by
 obtain⟨hd,x0,x1,y0,y1,z0,z1⟩:=h
 have hd3:d=0∨d=1∨d=2:=by omega
 rcases hd3 with rfl | rfl | rfl
 ·have hx:x=0∨x=1:=by simp at x1;omega
  rcases hx with rfl | rfl
  ·exact map_at (s0_0 k) (cornX_mem (x:=0) y0 y1 z0 z1)
  ·exact map_at (s0_1 k) (cornX_mem (x:=1) y0 y1 z0 z1)
 ·have hx:x=0∨x=1∨x=2:=by simp at x1;omega
  rcases hx with rfl | rfl | rfl
  ·exact map_at (s1_0 k) (cornX_mem (x:=0) y0 y1 z0 z1)
  ·exact map_at (s1_1 k) (cornX_mem (x:=1) y0 y1 z0 z1)
  ·exact map_at (s1_2 k) (cornX_mem (x:=2) y0 y1 z0 z1)
 ·have hx:x=0∨x=1∨x=2∨x=3∨x=4:=by simp at x1;omega
  rcases hx with rfl | rfl | rfl | rfl | rfl
  ·exact map_at (s2_0 k) (cornX_mem (x:=0) y0 y1 z0 z1)
  ·exact map_at (s2_1 k) (cornX_mem (x:=1) y0 y1 z0 z1)
  ·exact map_at (s2_2 k) (cornX_mem (x:=2) y0 y1 z0 z1)
  ·exact map_at (s2_3 k) (cornX_mem (x:=3) y0 y1 z0 z1)
  ·exact map_at (s2_4 k) (cornX_mem (x:=4) y0 y1 z0 z1)
theorem all_at{l:List (Int×Int×Int)}{q:Int×Int×Int→List Int}{m:Int}(h:(l.all fun p=>(q p).all fun i=>decide (0≤i)&&decide (i<m))=true){p:Int×Int×Int}(hp:p∈l):∀i∈q p,0≤i∧i<m:=by
 intro i hi
 have h1:=List.all_eq_true.1 (List.all_eq_true.1 h p hp) i hi
 rw [Bool.and_eq_true]at h1
 exact⟨of_decide_eq_true h1.1,of_decide_eq_true h1.2⟩
theorem ord_bnd{d:Nat}{x y z:Int}(h:InB d x y z):∀i∈ordV d (2 ^ d) (x,y,z),0≤i∧i<((6*2 ^ d*2 ^ d:Nat):Int):=by
 obtain⟨hd,x0,x1,y0,y1,z0,z1⟩:=h
 have hd3:d=0∨d=1∨d=2:=by omega
 rcases hd3 with rfl | rfl | rfl
 ·have hx:x=0∨x=1:=by simp at x1;omega
  rcases hx with rfl | rfl
  ·exact all_at b0_0 (cornX_mem (x:=0) y0 y1 z0 z1)
  ·exact all_at b0_1 (cornX_mem (x:=1) y0 y1 z0 z1)
 ·have hx:x=0∨x=1∨x=2:=by simp at x1;omega
  rcases hx with rfl | rfl | rfl
  ·exact all_at b1_0 (cornX_mem (x:=0) y0 y1 z0 z1)
  ·exact all_at b1_1 (cornX_mem (x:=1) y0 y1 z0 z1)
  ·exact all_at b1_2 (cornX_mem (x:=2) y0 y1 z0 z1)
 ·have hx:x=0∨x=1∨x=2∨x=3∨x=4:=by simp at x1;omega
  rcases hx with rfl | rfl | rfl | rfl | rfl
  ·exact all_at b2_0 (cornX_mem (x:=0) y0 y1 z0 z1)
  ·exact all_at b2_1 (cornX_mem (x:=1) y0 y1 z0 z1)
  ·exact all_at b2_2 (cornX_mem (x:=2) y0 y1 z0 z1)
  ·exact all_at b2_3 (cornX_mem (x:=3) y0 y1 z0 z1)
  ·exact all_at b2_4 (cornX_mem (x:=4) y0 y1 z0 z1)
theorem len_at{l:List (Int×Int×Int)}{q:Int×Int×Int→List Int}(h:(l.all fun p=>Nat.ble (q p).length 1000)=true){p:Int×Int×Int}(hp:p∈l):(q p).length≤1000:=Nat.le_of_ble_eq_true (List.all_eq_true.1 h p hp)
theorem ordV_len{d:Nat}{x y z:Int}(h:InB d x y z):(ordV d (2 ^ d) (x,y,z)).length≤1000:=by
 obtain⟨hd,x0,x1,y0,y1,z0,z1⟩:=h
 have hd3:d=0∨d=1∨d=2:=by omega
 rcases hd3 with rfl | rfl | rfl
 ·have hx:x=0∨x=1:=by simp at x1;omega
  rcases hx with rfl | rfl
  ·exact len_at l0_0 (cornX_mem (x:=0) y0 y1 z0 z1)
  ·exact len_at l0_1 (cornX_mem (x:=1) y0 y1 z0 z1)
 ·have hx:x=0∨x=1∨x=2:=by simp at x1;omega
  rcases hx with rfl | rfl | rfl
  ·exact len_at l1_0 (cornX_mem (x:=0) y0 y1 z0 z1)
  ·exact len_at l1_1 (cornX_mem (x:=1) y0 y1 z0 z1)
  ·exact len_at l1_2 (cornX_mem (x:=2) y0 y1 z0 z1)
 ·have hx:x=0∨x=1∨x=2∨x=3∨x=4:=by simp at x1;omega
  rcases hx with rfl | rfl | rfl | rfl | rfl
  ·exact len_at l2_0 (cornX_mem (x:=0) y0 y1 z0 z1)
  ·exact len_at l2_1 (cornX_mem (x:=1) y0 y1 z0 z1)
  ·exact len_at l2_2 (cornX_mem (x:=2) y0 y1 z0 z1)
  ·exact len_at l2_3 (cornX_mem (x:=3) y0 y1 z0 z1)
  ·exact len_at l2_4 (cornX_mem (x:=4) y0 y1 z0 z1)
end Go.Ev.G

namespace Go.Ev.G
open Go Go.Ev
set_option maxRecDepth 100000

theorem cbAround_L58_nat(k:Nat)(A B x1:List Int)(x2:Int)(x3:List (Int×Bool×Int×Int))(x21:List Int)(x22:Int):∀(n:Nat) (x9:List Int) (x23:Int),
  spec_cbAround_L58 k n A x1 x2 x3 x9 x21 x22 x23=(spec_cbAround_L58 k n B x1 x2 x3 x9 x21 x22 x23).map (Sum.map id fun t=>(A,t.2))
 | 0,_,_=>rfl
 | n+1,x9,x23=>by
  rw [spec_cbAround_L58.eq_2,spec_cbAround_L58.eq_2]
  simp only [cbAround_L58_nat k A B x1 x2 x3 x21 x22 n]
  cases decide (x23<x22)
  ·rfl
  cases decide (0≤x23)
  ·rfl
  cases decide (x23<(x21.length:Int))
  ·rfl
  simp only [cond_true]
  cases (x21.getD (Int.toNat x23) 0==0)
  ·simp only [cond_false]
   cases (x21.getD (Int.toNat x23) 0==x2)
   ·rfl
   ·simp only [cond_true]
    cases decide (x23<(x9.length:Int)) <;> rfl
  ·simp only [cond_true]
   cases decide (x23<(x9.length:Int)) <;> rfl

def labF(A:List Int)(i:Int):Int:=A.getD i.toNat 0

theorem cbAround_L506_nat(k:Nat){A B:List Int}(hl:A.length=B.length)(hf:∀i:Nat,i<B.length→A.getD i 0=labF A (B.getD i 0))(x1:List Int)(x2:Int)(x9:List Int)(x41:List (Int×Bool×Int×Int))(x42:Int):∀(n:Nat) (x12:List (List Int)) (x13:List Int) (x43:Int),
  spec_cbAround_L506 k n A x1 x2 x9 x12 (x13.map (labF A)) x41 x42 x43=(spec_cbAround_L506 k n B x1 x2 x9 x12 x13 x41 x42 x43).map (Sum.map id fun t=>(t.1,t.2.1,t.2.2.1.map (labF A),()))
 | 0,_,_,_=>rfl
 | n+1,x12,x13,x43=>by
  rw [spec_cbAround_L506.eq_2,spec_cbAround_L506.eq_2]
  have ih:=cbAround_L506_nat k hl hf x1 x2 x9 x41 x42 n
  cases decide (x43<x42)
  ·rfl
  cases h0:decide (0≤x43)
  ·rfl
  cases decide (x43<(x41.length:Int))
  ·rfl
  simp only [cond_true]
  cases spec_cbOffset k (x41.getD (Int.toNat x43) (0,false,0,0)) x1 x2 with
  | none=>rfl
  | some r4 =>
   simp only [Option.bind_some]
   cases decide ((r4.length:Int)>0)
   ·simp only [cond_false]
    exact ih _ _ _
   ·simp only [cond_true]
    cases decide (x12.length+([r4]:List (List Int)).length<274877906944)
    ·rfl
    simp only [cond_true,hl,List.length_map]
    cases hb:decide (x43<(B.length:Int))
    ·rfl
    simp only [cond_true,List.length_cons,List.length_nil]
    cases decide (x13.length+(0+1)<274877906944)
    ·rfl
    simp only [cond_true]
    have h0:=of_decide_eq_true h0
    have hb:=of_decide_eq_true hb
    have e:x13.map (labF A) ++ [A.getD (Int.toNat x43) 0]=(x13 ++ [B.getD (Int.toNat x43) 0]).map (labF A):=by
     rw [List.map_append,hf _ (by omega)];rfl
    rw [e]
    exact ih _ _ _

theorem cbAround_L1047142_nat(k:Nat)(f:Int→Int)(x9:List Int)(x12:List (List Int))(x13 x17:List Int)(x18 x68 x69 x79:Int):∀(n:Nat) (x80:Int),
  spec_cbAround_L1047142 k n x9 x12 (x13.map f) (x17.map f) x18 x68 x69 x79 x80=(spec_cbAround_L1047142 k n x9 x12 x13 x17 x18 x68 x69 x79 x80).map (Sum.map id fun t=>(t.1,t.2.1,t.2.2.1.map f,t.2.2.2.1.map f,t.2.2.2.2))
 | 0,_=>rfl
 | n+1,x80=>by
  rw [spec_cbAround_L1047142.eq_2,spec_cbAround_L1047142.eq_2]
  simp only [cbAround_L1047142_nat k f x9 x12 x13 x17 x18 x68 x69 x79 n]
  cases decide (x80<x79)
  ·rfl
  cases decide (0≤x18)
  ·rfl
  cases decide (x18<(x12.length:Int))
  ·rfl
  cases decide (0≤x80)
  ·rfl
  cases decide (x80<(x12.length:Int))
  ·rfl
  simp only [cond_true]
  cases spec_cbTurn x9 (x12.getD (Int.toNat x18) []) (x12.getD (Int.toNat x80) [])with
  | none=>rfl
  | some r8 =>
   simp only [Option.bind_some]
   cases decide (r8>0) <;> rfl

theorem both_map{R P P' A:Type}(o:Option (R ⊕ P))(g:P→P')(f:R→Option A)(h:P'→Option A):both (o.map (Sum.map id g)) f h=both o f (fun y=>h (g y)):=by
 cases o with
 | none=>rfl
 | some s=>cases s <;> rfl

theorem map_both{R P A B:Type}(o:Option (R ⊕ P))(f:R→Option A)(h:P→Option A)(u:A→B):(both o f h).map u=both o (fun r=>(f r).map u) (fun y=>(h y).map u):=by
 cases o with
 | none=>rfl
 | some s=>cases s <;> rfl

theorem L1047142_inr(k:Nat)(x9:List Int)(x12:List (List Int))(x13 x17:List Int)(x18 x68 x69 x79:Int):∀(n:Nat) (x80:Int) (r:List Int),spec_cbAround_L1047142 k n x9 x12 x13 x17 x18 x68 x69 x79 x80≠some (.inl r)
 | 0,_,_=>by simp [spec_cbAround_L1047142]
 | n+1,x80,r=>by
  rw [spec_cbAround_L1047142.eq_2]
  have ih:=L1047142_inr k x9 x12 x13 x17 x18 x68 x69 x79 n
  cases decide (x80<x79)
  ·simp
  cases decide (0≤x18)
  ·simp
  cases decide (x18<(x12.length:Int))
  ·simp
  cases decide (0≤x80)
  ·simp
  cases decide (x80<(x12.length:Int))
  ·simp
  simp only [cond_true]
  cases spec_cbTurn x9 (x12.getD (Int.toNat x18) []) (x12.getD (Int.toNat x80) [])with
  | none=>simp
  | some r8 =>
   simp only [Option.bind_some]
   cases decide (r8>0)
   ·exact ih _ _
   ·simp

theorem cbAround_L4090_nat(k:Nat)(f:Int→Int)(hf0:f 0=f 0):∀(n:Nat) (x9:List Int) (x12:List (List Int)) (x13 x17:List Int) (x18 x68 x69:Int),
  spec_cbAround_L4090 k n x9 x12 (x13.map f) (x17.map f) x18 x68 x69=(spec_cbAround_L4090 k n x9 x12 x13 x17 x18 x68 x69).map (Sum.map (List.map f) fun t=>(t.1.map f,()))
 | 0,_,_,_,_,_,_,_=>rfl
 | n+1,x9,x12,x13,x17,x18,x68,x69=>by
  rw [spec_cbAround_L4090.eq_2,spec_cbAround_L4090.eq_2]
  have ih:=cbAround_L4090_nat k f hf0 n
  cases decide (x69<x68)
  ·rfl
  cases h0:decide (0≤x18)
  ·rfl
  simp only [cond_true,List.length_map]
  cases hb:decide (x18<(x13.length:Int))
  ·rfl
  simp only [cond_true,List.length_cons,List.length_nil]
  cases decide (x17.length+(0+1)<274877906944)
  ·rfl
  simp only [cond_true]
  have h0:=of_decide_eq_true h0
  have hb:=of_decide_eq_true hb
  have e:x17.map f ++ [(x13.map f).getD (Int.toNat x18) 0]=(x17 ++ [x13.getD (Int.toNat x18) 0]).map f:=by
   have hlt:Int.toNat x18<x13.length:=by omega
   rw [List.map_append,List.getD_eq_getElem?_getD,List.getD_eq_getElem?_getD,List.getElem?_map,List.getElem?_eq_getElem hlt]
   rfl
  rw [e,cbAround_L1047142_nat,both_map,map_both]
  cases hi:spec_cbAround_L1047142 k k x9 x12 x13 (x17 ++ [x13.getD (Int.toNat x18) 0]) x18 x68 x69 x12.length 0 with
  | none=>rfl
  | some s =>
   cases s with
   | inl r=>exact absurd hi (L1047142_inr k _ _ _ _ _ _ _ _ _ _ _)
   | inr y=>exact ih _ _ _ _ _ _ _

theorem L58_inr(k:Nat)(A x1:List Int)(x2:Int)(x3:List (Int×Bool×Int×Int))(x21:List Int)(x22:Int):∀(n:Nat) (x9:List Int) (x23:Int) (r:List Int),spec_cbAround_L58 k n A x1 x2 x3 x9 x21 x22 x23≠some (.inl r)
 | 0,_,_,_=>by simp [spec_cbAround_L58]
 | n+1,x9,x23,r=>by
  rw [spec_cbAround_L58.eq_2]
  have ih:=L58_inr k A x1 x2 x3 x21 x22 n
  cases decide (x23<x22)
  ·simp
  cases decide (0≤x23)
  ·simp
  cases decide (x23<(x21.length:Int))
  ·simp
  simp only [cond_true]
  cases (x21.getD (Int.toNat x23) 0==0)
  ·simp only [cond_false]
   cases (x21.getD (Int.toNat x23) 0==x2)
   ·exact ih _ _ _
   ·simp only [cond_true]
    cases decide (x23<(x9.length:Int))
    ·simp
    ·exact ih _ _ _
  ·simp only [cond_true]
   cases decide (x23<(x9.length:Int))
   ·simp
   ·exact ih _ _ _

theorem L506_inr(k:Nat)(A x1:List Int)(x2:Int)(x9:List Int)(x41:List (Int×Bool×Int×Int))(x42:Int):∀(n:Nat) (x12:List (List Int)) (x13:List Int) (x43:Int) (r:List Int),spec_cbAround_L506 k n A x1 x2 x9 x12 x13 x41 x42 x43≠some (.inl r)
 | 0,_,_,_,_=>by simp [spec_cbAround_L506]
 | n+1,x12,x13,x43,r=>by
  rw [spec_cbAround_L506.eq_2]
  have ih:=L506_inr k A x1 x2 x9 x41 x42 n
  cases decide (x43<x42)
  ·simp
  cases decide (0≤x43)
  ·simp
  cases decide (x43<(x41.length:Int))
  ·simp
  simp only [cond_true]
  cases spec_cbOffset k (x41.getD (Int.toNat x43) (0,false,0,0)) x1 x2 with
  | none=>simp
  | some r4 =>
   simp only [Option.bind_some]
   cases decide ((r4.length:Int)>0)
   ·exact ih _ _ _ _
   ·simp only [cond_true]
    cases decide (x12.length+([r4]:List (List Int)).length<274877906944)
    ·simp
    simp only [cond_true]
    cases decide (x43<(A.length:Int))
    ·simp
    simp only [cond_true]
    cases decide (x13.length+([(A.getD (Int.toNat x43) 0)]:List Int).length<274877906944)
    ·simp
    ·exact ih _ _ _ _

theorem cbAround_nat(k:Nat){A B:List Int}(hl:A.length=B.length)(hf:∀i:Nat,i<B.length→A.getD i 0=labF A (B.getD i 0))(p:List Int)(n:Int)(c:List (Int×Bool×Int×Int)){r:List Int}
  (h:spec_cbAround k B p n c=some r):spec_cbAround k A p n c=some (r.map (labF A)):=by
 unfold spec_cbAround at h ⊢
 rw [cbAround_L58_nat k A B,both_map]
 cases h1:spec_cbAround_L58 k k B p n c [0,0,0] p p.length 0 with
 | none=>rw [h1]at h;cases h
 | some s1 =>
  rw [h1]at h
  cases s1 with
  | inl r1=>exact absurd h1 (L58_inr k _ _ _ _ _ _ _ _ _ _)
  | inr y2 =>
   have hB:=cbAround_L58_nat k B B p n c p p.length k [0,0,0] 0
   rw [h1]at hB
   have hB:y2.1=B:=by
    simp only [Option.map_some,Sum.map_inr,Option.some.injEq,Sum.inr.injEq]at hB
    rw [hB]
   unfold both at h ⊢
   simp only [Option.bind_some,hB]at h ⊢
   have e0:([]:List Int)=([]:List Int).map (labF A):=rfl
   rw [show spec_cbAround_L506 k k A y2.2.1 y2.2.2.1 y2.2.2.2.2.1 [] [] y2.2.2.2.1 y2.2.2.2.1.length 0=spec_cbAround_L506 k k A y2.2.1 y2.2.2.1 y2.2.2.2.2.1 [] (([]:List Int).map (labF A)) y2.2.2.2.1 y2.2.2.2.1.length 0 from rfl,cbAround_L506_nat k hl hf]
   cases h2:spec_cbAround_L506 k k B y2.2.1 y2.2.2.1 y2.2.2.2.2.1 [] [] y2.2.2.2.1 y2.2.2.2.1.length 0 with
   | none=>rw [h2]at h;cases h
   | some s2 =>
    rw [h2]at h
    cases s2 with
    | inl r2=>exact absurd h2 (L506_inr k _ _ _ _ _ _ _ _ _ _ _)
    | inr y6 =>
     simp only [Option.map_some,Sum.map_inr,Option.bind_some]at h ⊢
     rw [show spec_cbAround_L4090 k k y6.1 y6.2.1 (y6.2.2.1.map (labF A)) [] 0 y6.2.1.length 0=spec_cbAround_L4090 k k y6.1 y6.2.1 (y6.2.2.1.map (labF A)) (([]:List Int).map (labF A)) 0 y6.2.1.length 0 from rfl,cbAround_L4090_nat k (labF A) rfl]
     cases h3:spec_cbAround_L4090 k k y6.1 y6.2.1 y6.2.2.1 [] 0 y6.2.1.length 0 with
     | none=>rw [h3]at h;cases h
     | some s3 =>
      rw [h3]at h
      cases s3 with
      | inl r3=>simp only [Option.bind_some,Option.some.injEq]at h;rw [←h];rfl
      | inr y13=>simp only [Option.bind_some,Option.some.injEq]at h;rw [←h];rfl
end Go.Ev.G

namespace Go.Ev.G
open Go Go.Ev
set_option maxRecDepth 100000

def isLab(a:Int):Prop:=0≤a∧a≤5
def opL(a:Int):Int:=Int.tmod (IntKind.wrap .i64 (a+3)) 6
def triV(a b c:Int):Int:=(impl_countOf a b c).getD 0
theorem isLab_cases{a:Int}(h:isLab a):a=0∨a=1∨a=2∨a=3∨a=4∨a=5:=by unfold isLab at h;omega
theorem opL_op{a:Int}(h:isLab a):opL (opL a)=a:=by
 rcases isLab_cases h with rfl | rfl | rfl | rfl | rfl | rfl <;> rfl
theorem opL_ne{a:Int}(h:isLab a):opL a≠a:=by
 rcases isLab_cases h with rfl | rfl | rfl | rfl | rfl | rfl <;> decide
theorem impl_tri(a b c:Int):impl_countOf a b c=some (triV a b c):=by
 have:∃v,impl_countOf a b c=some v:=by
  unfold impl_countOf both
  cases ((a==0)&&((b==1)&&((c==2)&&true)))
  ·cases ((a==1)&&((b==2)&&((c==0)&&true)))
   ·simp only [cond_false,Option.bind_some]
    cases ((a==2)&&((b==0)&&((c==1)&&true)))
    ·simp only [cond_false]
     cases ((a==0)&&((b==2)&&((c==1)&&true)))
     ·simp only [cond_false]
      cases ((a==2)&&((b==1)&&((c==0)&&true)))
      ·simp only [cond_false]
       cases ((a==1)&&((b==0)&&((c==2)&&true))) <;> exact⟨_,rfl⟩
      ·exact⟨_,rfl⟩
     ·exact⟨_,rfl⟩
    ·exact⟨_,rfl⟩
   ·exact⟨_,rfl⟩
  ·exact⟨_,rfl⟩
 obtain⟨v,hv⟩:=this
 unfold triV
 rw [hv];rfl
theorem tri_all:(List.range 6).map (fun a:Nat=>(List.range 6).map fun b:Nat=>(List.range 6).map fun c:Nat=>spec_cbTriple a b c)=(List.range 6).map (fun a:Nat=>(List.range 6).map fun b:Nat=>(List.range 6).map fun c:Nat=>some (triV a b c)):=by kernel_rfl
theorem spec_tri{a b c:Int}(ha:isLab a)(hb:isLab b)(hc:isLab c):spec_cbTriple a b c=some (triV a b c):=by
 obtain⟨a,rfl⟩:∃m:Nat,a=m:=⟨a.toNat,by unfold isLab at ha;omega⟩
 obtain⟨b,rfl⟩:∃m:Nat,b=m:=⟨b.toNat,by unfold isLab at hb;omega⟩
 obtain⟨c,rfl⟩:∃m:Nat,c=m:=⟨c.toNat,by unfold isLab at hc;omega⟩
 unfold isLab at ha hb hc
 have h1:=List.map_inj_left.1 tri_all a (by rw [List.mem_range];omega)
 have h2:=List.map_inj_left.1 h1 b (by rw [List.mem_range];omega)
 exact List.map_inj_left.1 h2 c (by rw [List.mem_range];omega)

theorem l1Has_ev{L:List Int}(v:Int)(hb:L.length<lenB):Evt (fun k _=>spec_l1Has k L v) (L.contains v):=by
 refine Evt.eq (f:=fun k q=>_) ?_ (fun k q=>by rw [spec_l1Has])
 have key:∀(r d:List Int),d++r=L→Evt (fun k n=>spec_l1Has_L26 k n v L (L.length:Int) d.length) (if r.contains v then .inl true else .inr ()):=by
  intro r
  induction r with
  | nil =>
   intro d h
   rw [List.append_nil]at h
   subst h
   refine Evt.step (fun k n=>spec_l1Has_L26.eq_2 k _ _ _ _ n) ?_
   rw [mid_end]
   exact Evt.cfalse rfl .pure
  | cons e r ih =>
   intro d h
   subst h
   refine Evt.step (fun k n=>spec_l1Has_L26.eq_2 k _ _ _ _ n) (Evt.ctrue mid_lt (Evt.ctrue mid_ge (Evt.ctrue mid_lt ?_)))
   rw [mid_get,List.contains_cons]
   cases he:(e==v)with
   | true =>
    have:(v==e)=true:=by rw [beq_iff_eq]at he ⊢; exact he.symm
    rw [this]
    exact Evt.ctrue rfl .pure
   | false =>
    have:(v==e)=false:=by rw [beq_eq_false_iff_ne]at he ⊢; exact fun h=>he h.symm
    rw [this,Bool.false_or]
    refine Evt.cfalse rfl ?_
    rw [w64_next (by simp at hb;omega)]
    have:=ih (d ++ [e]) (by simp)
    simpa using this
 have:=key L [] rfl
 cases hc:L.contains v with
 | true=>rw [hc]at this;exact Evt.inl (Evt.diag this) .pure
 | false=>rw [hc]at this;exact Evt.inr (Evt.diag this) .pure

theorem contains_find{v:Int}:∀(L:List Int),(match L.findIdx? (fun e=>v==e)with | some _=>true | none=>false)=L.contains v
 | []=>rfl
 | e::L=>by
  rw [List.findIdx?_cons,List.contains_cons]
  cases v==e with
  | true=>rfl
  | false =>
   have:=contains_find (v:=v) L
   simp only [Bool.false_or,←this,if_neg,Bool.false_eq_true]
   cases L.findIdx? (fun e=>v==e) <;> rfl
theorem contains_ev{L:List Int}(v:Int)(hb:L.length<lenB):Evt (fun k _=>slices_Contains_int_int k L v) (L.contains v):=by
 refine Evt.eq (f:=fun k q=>_) ?_ (fun k q=>by rw [slices_Contains_int_int])
 have h0:=index_all (d0:=(0:Int)) (L:=fun k m i=>slices_Index_int_int_L26 k m L v (L.length:Int) i) (xs:=L) (p:=fun _ e=>some (v==e)) (P:=fun e=>v==e) (fun _ _ => .pure) (fun _ _ _=>rfl) hb
 have h1:Evt (fun k _=>slices_Index_int_int k L v) (match L.findIdx? (fun e=>v==e)with | some j=>(j:Int) | none => -1):=by
  refine Evt.eq (f:=fun k q=>_) ?_ (fun k q=>by rw [slices_Index_int_int])
  cases hi:L.findIdx? (fun e=>v==e)with
  | none=>rw [hi]at h0;exact Evt.inr (Evt.diag h0) .pure
  | some j=>rw [hi]at h0;exact Evt.inl (Evt.diag h0) .pure
 refine Evt.bind h1 (.const ?_)
 rw [←contains_find]
 cases L.findIdx? (fun e=>v==e)with
 | none=>rfl
 | some j=>simp

def oppS(L:List Int):Bool:=L.any fun l=>L.contains (opL l)
def oppI:List Int→Bool
 | []=>false
 | l::r=>r.contains (opL l)||oppI r
theorem oppI_iff:∀ {L:List Int},(∀l∈L,isLab l)→(oppI L=true↔∃a∈L,opL a∈L)
 | [],_=>by simp [oppI]
 | l::r,h=>by
  have ih:=oppI_iff (L:=r) fun x hx=>h x (by simp [hx])
  have hl:=h l (by simp)
  simp only [oppI,Bool.or_eq_true,List.contains_iff_mem,ih]
  constructor
  ·rintro(h1 | ⟨a,ha,hb⟩)
   ·exact⟨l,by simp,by simp [h1]⟩
   ·exact⟨a,by simp [ha],by simp [hb]⟩
  ·rintro⟨a,ha,hb⟩
   rcases List.mem_cons.1 ha with rfl | ha
   ·rcases List.mem_cons.1 hb with hb | hb
    ·exact absurd hb (opL_ne hl)
    ·exact .inl hb
   ·rcases List.mem_cons.1 hb with hb | hb
    ·refine .inl ?_
     rw [←hb,opL_op (h a (by simp [ha]))]
     exact ha
    ·exact .inr ⟨a,ha,hb⟩
theorem opp_eq{L:List Int}(h:∀l∈L,isLab l):oppS L=oppI L:=by
 rw [Bool.eq_iff_iff,oppI_iff h]
 simp [oppS]

def sumL(a:Int):Int→List Int→Int→Int
 | _,[],s=>s
 | p,c::cs,s=>sumL a c cs (IntKind.wrap .i64 (s+triV a p c))
def sumC:List Int→Int→Int
 | a::b::cs,s=>sumL a b cs s
 | _,s=>s
theorem sumC_cases:∀(L:List Int),(L.length≤1∧∀s,sumC L s=s)∨∃a b cs,L=a::b::cs∧∀s,sumC L s=sumL a b cs s
 | [] => .inl ⟨by simp,fun _=>rfl⟩
 | [_] => .inl ⟨by simp,fun _=>rfl⟩
 | a::b::cs => .inr ⟨a,b,cs,rfl,fun _=>rfl⟩

section
variable {x0 : List Int} {x6 : Int} {x7 : List (Int × Bool × Int × Int)} {x9 x10 x11 : Int}
theorem specSum_ev{L:List Int}(hL:∀l∈L,isLab l)(hb:L.length<lenB)(x8:Int) :
  Evt (fun k n=>spec_cbDegree_L524887198 k n x0 x6 x7 x8 x9 x10 x11 L 2) (.inr (x0,x6,x7,sumC L x8,x9,x10,x11,())):=by
 have stop:∀(i x8:Int),(L.length:Int)≤i→Evt (fun k n=>spec_cbDegree_L524887198 k n x0 x6 x7 x8 x9 x10 x11 L i) (.inr (x0,x6,x7,x8,x9,x10,x11,())):=fun i x8 h =>
  Evt.step (fun k n=>spec_cbDegree_L524887198.eq_2 k _ _ _ _ _ _ _ _ _ n) (Evt.cfalse (decide_eq_false (by omega)) .pure)
 rcases sumC_cases L with ⟨h1,h2⟩ | ⟨a,b,cs,hL2,h2⟩
 ·rw [h2]
  exact stop 2 x8 (by omega)
 ·rw [h2]
  have key:∀(cs d:List Int) (p x8:Int),L=a::(d++p::cs)→Evt (fun k n=>spec_cbDegree_L524887198 k n x0 x6 x7 x8 x9 x10 x11 L ((d.length+2:Nat):Int)) (.inr (x0,x6,x7,sumL a p cs x8,x9,x10,x11,())):=by
   intro cs
   induction cs with
   | nil=>intro d p x8 h;exact stop _ _ (by rw [h];simp;omega)
   | cons c cs ih =>
    intro d p x8 h
    have hlen:L.length=d.length+3+cs.length:=by rw [h];simp;omega
    refine Evt.step (fun k n=>spec_cbDegree_L524887198.eq_2 k _ _ _ _ _ _ _ _ _ n) ?_
    have w:IntKind.wrap .i64 (((d.length+2:Nat):Int) - 1)=((d.length+1:Nat):Int):=by rw [w64] <;> simp only [lenB]at hb <;> omega
    rw [w]
    refine Evt.ctrue (decide_eq_true (by omega)) (Evt.ctrue (decide_eq_true (by omega)) (Evt.ctrue (decide_eq_true (by omega)) (Evt.ctrue (decide_eq_true (by omega)) (Evt.ctrue (decide_eq_true (by omega)) (Evt.ctrue (decide_eq_true (by omega)) ?_)))))
    have g0:L.getD 0 0=a:=by rw [h];rfl
    have g1:L.getD (Int.toNat ((d.length+1:Nat):Int)) 0=p:=by rw [h];simp
    have g2:L.getD (Int.toNat ((d.length+2:Nat):Int)) 0=c:=by rw [h,Int.toNat_natCast];simp
    rw [g0,g1,g2]
    refine Evt.bind (.const (spec_tri (hL a (by rw [h];simp)) (hL p (by rw [h];simp)) (hL c (by rw [h];simp)))) ?_
    rw [w64_next (by simp only [lenB]at hb ⊢; omega)]
    have:=ih (d ++ [p]) c (IntKind.wrap .i64 (x8+triV a p c)) (by rw [h];simp)
    simp only [List.length_append,List.length_cons,List.length_nil,Nat.zero_add]at this
    rw [show d.length+1+2=d.length+2+1 by omega]at this
    exact this
  exact key cs [] b x8 hL2
theorem specOpp_ev{L:List Int}(hb:L.length<lenB)(x8:Int) :
  Evt (fun k n=>spec_cbDegree_L524887194 k n x0 x6 x7 x8 x9 x10 x11 L L (L.length:Int) 0) (if oppS L then .inl (0,false)else .inr (x0,x6,x7,x8,x9,x10,x11,L,())):=by
 have key:∀(r d:List Int),d++r=L→Evt (fun k n=>spec_cbDegree_L524887194 k n x0 x6 x7 x8 x9 x10 x11 L L (L.length:Int) d.length) (if (r.any fun l=>L.contains (opL l))then .inl (0,false)else .inr (x0,x6,x7,x8,x9,x10,x11,L,())):=by
  intro r
  induction r with
  | nil =>
   intro d h
   rw [List.append_nil]at h
   subst h
   refine Evt.step (fun k n=>spec_cbDegree_L524887194.eq_2 k _ _ _ _ _ _ _ _ _ _ _ n) ?_
   rw [mid_end]
   exact Evt.cfalse rfl .pure
  | cons e r ih =>
   intro d h
   refine Evt.step (fun k n=>spec_cbDegree_L524887194.eq_2 k _ _ _ _ _ _ _ _ _ _ _ n) ?_
   have h1:decide ((d.length:Int)<(L.length:Int))=true:=by rw [←h];exact mid_lt
   have h2:L.getD (Int.toNat (d.length:Int)) 0=e:=by rw [←h];exact mid_get
   refine Evt.ctrue h1 (Evt.ctrue mid_ge (Evt.ctrue h1 ?_))
   rw [h2]
   refine Evt.bind (l1Has_ev _ hb) ?_
   rw [List.any_cons]
   show Evt (fun k n=>bif L.contains (opL e)then _ else _) _
   cases L.contains (opL e)with
   | true=>exact Evt.ctrue rfl .pure
   | false =>
    refine Evt.cfalse rfl ?_
    rw [w64_next (by rw [←h]at hb;simp at hb;omega),Bool.false_or]
    have:=ih (d ++ [e]) (by simpa using h)
    simpa using this
 exact key L [] rfl
end

section
variable {x0 : List Int} {x1 x6 : Int} {x6' : List (Int × Bool × Int × Int)} {x7 x9 x10 x23 x24 x28 x29 x33 x34 : Int}
theorem implSum_ev{L:List Int}(hb:L.length<lenB)(x8:Int) :
  Evt (fun k n=>impl_degreeOfLabels_L7838315326 k n x0 x1 x6' x7 x8 x9 x10 L 2 x23 x24 x28 x29 x33 x34) (.inr (x0,x1,x6',x7,sumC L x8,x9,x10,x23,x24,x28,x29,x33,x34,())):=by
 have stop:∀(i x8:Int),(L.length:Int)≤i→Evt (fun k n=>impl_degreeOfLabels_L7838315326 k n x0 x1 x6' x7 x8 x9 x10 L i x23 x24 x28 x29 x33 x34) (.inr (x0,x1,x6',x7,x8,x9,x10,x23,x24,x28,x29,x33,x34,())):=fun i x8 h =>
  Evt.step (fun k n=>impl_degreeOfLabels_L7838315326.eq_2 k _ _ _ _ _ _ _ _ _ _ _ _ _ _ _ n) (Evt.cfalse (decide_eq_false (by omega)) .pure)
 rcases sumC_cases L with ⟨h1,h2⟩ | ⟨a,b,cs,hL2,h2⟩
 ·rw [h2]
  exact stop 2 x8 (by omega)
 ·rw [h2]
  have key:∀(cs d:List Int) (p x8:Int),L=a::(d++p::cs)→Evt (fun k n=>impl_degreeOfLabels_L7838315326 k n x0 x1 x6' x7 x8 x9 x10 L ((d.length+2:Nat):Int) x23 x24 x28 x29 x33 x34) (.inr (x0,x1,x6',x7,sumL a p cs x8,x9,x10,x23,x24,x28,x29,x33,x34,())):=by
   intro cs
   induction cs with
   | nil=>intro d p x8 h;exact stop _ _ (by rw [h];simp;omega)
   | cons c cs ih =>
    intro d p x8 h
    have hlen:L.length=d.length+3+cs.length:=by rw [h];simp;omega
    refine Evt.step (fun k n=>impl_degreeOfLabels_L7838315326.eq_2 k _ _ _ _ _ _ _ _ _ _ _ _ _ _ _ n) ?_
    have w:IntKind.wrap .i64 (((d.length+2:Nat):Int) - 1)=((d.length+1:Nat):Int):=by rw [w64] <;> simp only [lenB]at hb <;> omega
    rw [w]
    refine Evt.ctrue (decide_eq_true (by omega)) (Evt.ctrue (decide_eq_true (by omega)) (Evt.ctrue (decide_eq_true (by omega)) (Evt.ctrue (decide_eq_true (by omega)) (Evt.ctrue (decide_eq_true (by omega)) (Evt.ctrue (decide_eq_true (by omega)) ?_)))))
    have g0:L.getD 0 0=a:=by rw [h];rfl
    have g1:L.getD (Int.toNat ((d.length+1:Nat):Int)) 0=p:=by rw [h];simp
    have g2:L.getD (Int.toNat ((d.length+2:Nat):Int)) 0=c:=by rw [h,Int.toNat_natCast];simp
    rw [g0,g1,g2]
    refine Evt.bind (.const (impl_tri a p c)) ?_
    rw [w64_next (by simp only [lenB]at hb ⊢; omega)]
    have:=ih (d ++ [p]) c (IntKind.wrap .i64 (x8+triV a p c)) (by rw [h];simp)
    simp only [List.length_append,List.length_cons,List.length_nil,Nat.zero_add]at this
    rw [show d.length+1+2=d.length+2+1 by omega]at this
    exact this
  exact key cs [] b x8 hL2
theorem implOpp_ev{L:List Int}(hb:L.length<lenB)(x8:Int) :
  Evt (fun k n=>impl_degreeOfLabels_L7838315322 k n x0 x1 x6' x7 x8 x9 x10 L x23 x24 x28 x29 x33 x34 L (L.length:Int) 0) (if oppI L then .inl (0,false)else .inr (x0,x1,x6',x7,x8,x9,x10,L,x23,x24,x28,x29,x33,x34,())):=by
 have key:∀(r d:List Int),d++r=L→Evt (fun k n=>impl_degreeOfLabels_L7838315322 k n x0 x1 x6' x7 x8 x9 x10 L x23 x24 x28 x29 x33 x34 L (L.length:Int) d.length) (if oppI r then .inl (0,false)else .inr (x0,x1,x6',x7,x8,x9,x10,L,x23,x24,x28,x29,x33,x34,())):=by
  intro r
  induction r with
  | nil =>
   intro d h
   rw [List.append_nil]at h
   subst h
   refine Evt.step (fun k n=>impl_degreeOfLabels_L7838315322.eq_2 k _ _ _ _ _ _ _ _ _ _ _ _ _ _ _ _ _ n) ?_
   rw [mid_end]
   exact Evt.cfalse rfl .pure
  | cons e r ih =>
   intro d h
   refine Evt.step (fun k n=>impl_degreeOfLabels_L7838315322.eq_2 k _ _ _ _ _ _ _ _ _ _ _ _ _ _ _ _ _ n) ?_
   have h1:decide ((d.length:Int)<(L.length:Int))=true:=by rw [←h];exact mid_lt
   have h2:L.getD (Int.toNat (d.length:Int)) 0=e:=by rw [←h];exact mid_get
   have hlen:L.length=d.length+1+r.length:=by rw [←h];simp;omega
   have w:IntKind.wrap .i64 ((d.length:Int)+1)=((d.length+1:Nat):Int):=w64_next (by omega)
   rw [w]
   refine Evt.ctrue h1 (Evt.ctrue mid_ge (Evt.ctrue h1 (Evt.ctrue mid_ge (Evt.ctrue (decide_eq_true (by omega)) ?_))))
   rw [h2]
   have hd:(L.take (Int.toNat (L.length:Int))).drop (Int.toNat ((d.length+1:Nat):Int))=r:=by
    rw [Int.toNat_natCast,Int.toNat_natCast,List.take_length,←h,show d.length+1=(d ++ [e]).length by simp,show d++e::r=(d ++ [e])++r by simp,List.drop_left]
   rw [hd]
   refine Evt.bind (contains_ev _ (by omega)) ?_
   show Evt (fun k n=>bif r.contains (opL e)then _ else _) (if (r.contains (opL e)||oppI r)=true then _ else _)
   cases r.contains (opL e)with
   | true=>exact Evt.ctrue rfl .pure
   | false =>
    refine Evt.cfalse rfl ?_
    rw [Bool.false_or]
    have:=ih (d ++ [e]) (by simpa using h)
    simpa using this
 exact key L [] rfl
theorem implMet_ev(f:Int→Int)(hf:∀i,f i=labF x0 i){o:List Int}(ho:∀i∈o,0≤i∧i<x0.length)(hb:o.length<274877906944)(x8:Int) :
  Evt (fun k n=>impl_degreeOfLabels_L3919157658 k n x0 x1 x6' x7 x8 x9 x10 [] x23 x24 x28 x29 x33 x34 o (o.length:Int) 0) (.inr (x0,x1,x6',x7,x8,x9,x10,o.map f,x23,x24,x28,x29,x33,x34,())):=by
 have key:∀(r d:List Int),d++r=o→Evt (fun k n=>impl_degreeOfLabels_L3919157658 k n x0 x1 x6' x7 x8 x9 x10 (d.map f) x23 x24 x28 x29 x33 x34 o (o.length:Int) d.length) (.inr (x0,x1,x6',x7,x8,x9,x10,o.map f,x23,x24,x28,x29,x33,x34,())):=by
  intro r
  induction r with
  | nil =>
   intro d h
   rw [List.append_nil]at h
   subst h
   refine Evt.step (fun k n=>impl_degreeOfLabels_L3919157658.eq_2 k _ _ _ _ _ _ _ _ _ _ _ _ _ _ _ _ _ n) ?_
   rw [mid_end]
   exact Evt.cfalse rfl .pure
  | cons e r ih =>
   intro d h
   refine Evt.step (fun k n=>impl_degreeOfLabels_L3919157658.eq_2 k _ _ _ _ _ _ _ _ _ _ _ _ _ _ _ _ _ n) ?_
   have h1:decide ((d.length:Int)<(o.length:Int))=true:=by rw [←h];exact mid_lt
   have h2:o.getD (Int.toNat (d.length:Int)) 0=e:=by rw [←h];exact mid_get
   have hlen:o.length=d.length+1+r.length:=by rw [←h];simp;omega
   have he:=ho e (by rw [←h];simp)
   rw [h2]
   refine Evt.ctrue h1 (Evt.ctrue mid_ge (Evt.ctrue h1 (Evt.ctrue (decide_eq_true he.1) (Evt.ctrue (decide_eq_true he.2) (Evt.ctrue (decide_eq_true (by simp;omega)) ?_)))))
   rw [w64_next (by simp only [lenB];omega)]
   have:=ih (d ++ [e]) (by simpa using h)
   rw [List.map_append,List.map_singleton,hf]at this
   simpa [labF] using this
 exact key o [] rfl
end
end Go.Ev.G

namespace Go.Ev.G
open Go Go.Ev
set_option maxRecDepth 100000

def slV(s:List (List Tm))(b:Bx)(d:Int):List Int×Bool:=if askC s b d then allL s b d.toNat else([],false)
theorem lbsV_len{s:List (List Tm)}{b:Bx}{n:Nat}(hn:n≤2):(lbsV s b n).1.length≤96∧((lbsV s b n).2=true↔(lbsV s b n).1.length=(cellsV (2 ^ n)).length):=by
 have hc:=cellsV_len hn
 have h:=colV_len (f:=lbl s b n) (cellsV (2 ^ n))
 unfold lbsV
 exact⟨by omega,h.2⟩
theorem askC_le{s:List (List Tm)}{b:Bx}{d:Int}(h:askC s b d=true):d.toNat≤2:=by
 unfold askC at h
 rw [Bool.and_eq_true]at h
 have:=of_decide_eq_true h.2
 omega
theorem slV_len(s:List (List Tm))(b:Bx)(d:Int):(slV s b d).1.length≤96:=by
 unfold slV allL
 split
 ·rename_i h
  split
  ·exact(lbsV_len (askC_le h)).1
  ·simp
 ·simp
theorem spec_surfaceLabels_ev{s:List (List Tm)}{b:Bx}{d:Int}(hb:s.length<lenB)(hm:∀r∈s,r.length<lenB)(hx:b.2.1.length<lenB):Evt (fun k _=>spec_SurfaceLabels k s b d) (slV s b d):=by
 refine Evt.eq (f:=fun k q=>_) ?_ (fun k q=>by rw [spec_SurfaceLabels])
 refine specC_ask hb hm hx (fun h=>by unfold slV;rw [h];rfl) (fun h => ?_)
 obtain⟨n,rfl,hn,hs,hbb⟩:=askC_form h hm
 unfold slV
 rw [h,if_pos rfl]
 have hl:=lbsV_len (s:=s) (b:=b) hn
 refine Evt.bind (cbLabels_ev hs hbb hn) (Evt.bind (.const (cbCount_eq hn)) ?_)
 have hle:=(colV_len (f:=lbl s b n) (cellsV (2 ^ n))).1
 unfold allL
 simp only [Int.toNat_natCast]
 cases hf:(lbsV s b n).2 with
 | true =>
  have:=hl.2.1 hf
  rw [if_pos rfl]
  exact Evt.cfalse (decide_eq_false (by omega)) .pure
 | false =>
  rw [if_neg (by simp)]
  have : ¬ (lbsV s b n).1.length=(cellsV (2 ^ n)).length:=fun h=>by rw [hl.2.2 h]at hf;cases hf
  have hle':(lbsV s b n).1.length≤(cellsV (2 ^ n)).length:=hle
  exact Evt.ctrue (decide_eq_true (by omega)) .pure
theorem impl_surfaceLabels_ev{s:List (List Tm)}{b:Bx}{d:Int}(hb:s.length<lenB)(hm:∀r∈s,r.length<lenB)(hx:b.2.1.length<lenB):Evt (fun k _=>impl_SurfaceLabels k s b d) (slV s b d):=by
 refine Evt.eq (f:=fun k q=>_) ?_ (fun k q=>by rw [impl_SurfaceLabels])
 refine implC_ask hb hm hx (fun h=>by unfold slV;rw [h];rfl) (fun h => ?_)
 obtain⟨n,rfl,hn,hs,hbb⟩:=askC_form h hm
 unfold slV
 rw [h,if_pos rfl]
 exact Evt.bind (surfaceLabels_ev hs hbb hn) .pure
def fuV(s:List (List Tm))(b:Bx)(d:Int):Int×Bool:=if askC s b d then(if (lbsV s b d.toNat).2 then(0,false)else(((lbsV s b d.toNat).1.length:Int),true))else(0,false)
theorem spec_firstUnlabelled_ev{s:List (List Tm)}{b:Bx}{d:Int}(hb:s.length<lenB)(hm:∀r∈s,r.length<lenB)(hx:b.2.1.length<lenB):Evt (fun k _=>spec_FirstUnlabelled k s b d) (fuV s b d):=by
 refine Evt.eq (f:=fun k q=>_) ?_ (fun k q=>by rw [spec_FirstUnlabelled])
 refine specC_ask hb hm hx (fun h=>by unfold fuV;rw [h];rfl) (fun h => ?_)
 obtain⟨n,rfl,hn,hs,hbb⟩:=askC_form h hm
 unfold fuV
 rw [h,if_pos rfl]
 have hl:=lbsV_len (s:=s) (b:=b) hn
 refine Evt.bind (cbLabels_ev hs hbb hn) (Evt.bind (.const (cbCount_eq hn)) ?_)
 simp only [Int.toNat_natCast]
 cases hf:(lbsV s b n).2 with
 | true =>
  have:=hl.2.1 hf
  rw [if_pos rfl]
  exact Evt.ctrue (by rw [this];simp) .pure
 | false =>
  rw [if_neg (by simp)]
  have : ¬ (lbsV s b n).1.length=(cellsV (2 ^ n)).length:=fun h=>by rw [hl.2.2 h]at hf;cases hf
  refine Evt.cfalse ?_ .pure
  rw [beq_eq_false_iff_ne]
  omega
theorem impl_firstUnlabelled_ev{s:List (List Tm)}{b:Bx}{d:Int}(hb:s.length<lenB)(hm:∀r∈s,r.length<lenB)(hx:b.2.1.length<lenB):Evt (fun k _=>impl_FirstUnlabelled k s b d) (fuV s b d):=by
 refine Evt.eq (f:=fun k q=>_) ?_ (fun k q=>by rw [impl_FirstUnlabelled])
 refine implC_ask hb hm hx (fun h=>by unfold fuV;rw [h];rfl) (fun h => ?_)
 obtain⟨n,rfl,hn,hs,hbb⟩:=askC_form h hm
 unfold fuV
 rw [h,if_pos rfl]
 simp only [Int.toNat_natCast]
 have hc:=cellsV_len hn
 refine Evt.bind (surfaceCells_ev hn) ?_
 have hidx:Evt (fun k _=>slices_IndexFunc_Cell_Cell_impl_FirstUnlabelled_1 k (cellsV (2 ^ n)) (s,b,(n:Int),())) (match (cellsV (2 ^ n)).findIdx? (fun e=>(lbl s b n e).isNone)with | some j=>(j:Int) | none => -1):=by
  refine Evt.eq (f:=fun k q=>_) ?_ (fun k q=>by rw [slices_IndexFunc_Cell_Cell_impl_FirstUnlabelled_1])
  have:=index_all (d0:=(0,false,0,0)) (L:=fun k m i=>slices_IndexFunc_Cell_Cell_impl_FirstUnlabelled_1_L26 k m (cellsV (2 ^ n)) (s,b,(n:Int),()) ((cellsV (2 ^ n)).length:Int) i) (xs:=cellsV (2 ^ n)) (p:=fun k e=>impl_FirstUnlabelled_1 k e s b n) (P:=fun e=>(lbl s b n e).isNone)
   (fun e he=>by
    refine Evt.eq (f:=fun k q=>_) ?_ (fun k q=>by rw [impl_FirstUnlabelled_1])
    refine Evt.bind (cellLabel_ev hs hbb (cellsV_ok hn e he)) ?_
    cases lbl s b n e with
    | none=>exact .pure
    | some j =>
     refine .const ?_
     simp only [Option.isNone_some]
     rw [decide_eq_false (show ¬ ((j:Int)<0)by omega)])
   (fun _ _ _=>rfl) (by simp only [lenB];omega)
  cases hi:(cellsV (2 ^ n)).findIdx? (fun e=>(lbl s b n e).isNone)with
  | none=>rw [hi]at this;exact Evt.inr (Evt.diag this) .pure
  | some j=>rw [hi]at this;exact Evt.inl (Evt.diag this) .pure
 have hidx2:Evt (fun k _=>slices_IndexFunc_Cell_Cell_impl_FirstUnlabelled_1 k (cellsV (2 ^ n)) (s,b,(n:Int),())) (if (colV (lbl s b n) (cellsV (2 ^ n))).2=true then -1 else((colV (lbl s b n) (cellsV (2 ^ n))).1.length:Int)):=by
  rw [←colV_index (f:=lbl s b n)]
  exact hidx
 refine Evt.bind hidx2 ?_
 show Evt _ (if (colV (lbl s b n) (cellsV (2 ^ n))).2=true then(0,false)else(((colV (lbl s b n) (cellsV (2 ^ n))).1.length:Int),true))
 cases hf:(colV (lbl s b n) (cellsV (2 ^ n))).2 with
 | true=>exact .pure
 | false =>
  simp only [Bool.false_eq_true,if_false]
  rw [if_neg (by omega),decide_eq_true (by omega)]
  exact .pure
def okL(s:List (List Tm))(b:Bx)(n:Nat)(p:Cl×Int):Bool:=decide (0≤p.2∧p.2≤5)&&hV 3 s (csV b n p.1).1 p.2.toNat
def ckV(s:List (List Tm))(b:Bx)(d:Int)(xs:List Int):Bool×Bool:=if askC s b d then(if xs.length=(cellsV (2 ^ d.toNat)).length then(((cellsV (2 ^ d.toNat)).zip xs).all (okL s b d.toNat),true)else(false,true))else(false,false)
theorem spec_checkLabels_ev{s:List (List Tm)}{b:Bx}{d:Int}{xs:List Int}(hb:s.length<lenB)(hm:∀r∈s,r.length<lenB)(hx:b.2.1.length<lenB)(hxs:xs.length≤1000000):Evt (fun k _=>spec_CheckLabels k s b d xs) (ckV s b d xs):=by
 refine Evt.eq (f:=fun k q=>_) ?_ (fun k q=>by rw [spec_CheckLabels])
 refine specC_ask hb hm hx (fun h=>by unfold ckV;rw [h];rfl) (fun h => ?_)
 obtain⟨n,rfl,hn,hs,hbb⟩:=askC_form h hm
 unfold ckV
 rw [h,if_pos rfl]
 simp only [Int.toNat_natCast]
 refine Evt.bind (.const (cbCount_eq hn)) ?_
 by_cases hl:xs.length=(cellsV (2 ^ n)).length
 ·rw [if_pos hl]
  have hc:=cellsV_len hn
  refine Evt.cfalse (by rw [hl];simp) (Evt.bind (cbCells_ev hn) ?_)
  have key:∀(r d:List Cl) (r' d':List Int),d++r=cellsV (2 ^ n)→d'++r'=xs→d.length=d'.length→Evt (fun k m=>spec_CheckLabels_L122 k m s n xs b (cellsV (2 ^ n)) ((cellsV (2 ^ n)).length:Int) d.length) (if (r.zip r').all (okL s b n)then .inr ()else .inl (false,true)):=by
   intro r
   induction r with
   | nil =>
    intro d r' d' h1 h2 h3
    rw [List.append_nil]at h1
    rw [←h1]
    refine Evt.step (fun k m=>spec_CheckLabels_L122.eq_2 k _ _ _ _ _ _ _ m) (Evt.rng0 ?_)
    simp only [List.zip_nil_left,List.all_nil,if_true]
    exact .pure
   | cons e r ih =>
    intro d r' d' h1 h2 h3
    have hlen:r'.length=r.length+1:=by
     have:=congrArg List.length h1
     have:=congrArg List.length h2
     simp only [List.length_append,List.length_cons]at *
     omega
    match r',hlen with
    | x::r',hlen =>
     have ge:=cellsV_ok hn e (by rw [←h1];simp)
     have ih:=ih (d ++ [e]) r' (d' ++ [x]) (by simpa using h1) (by simpa using h2) (by simp [h3])
     refine Evt.step (fun k m=>spec_CheckLabels_L122.eq_2 k _ _ _ _ _ _ _ m) ?_
     rw [←h1]at ih ⊢
     rw [←h2]at ih ⊢
     refine Evt.ctrue mid_lt (Evt.ctrue mid_ge (Evt.ctrue mid_lt (Evt.ctrue mid_ge (Evt.ctrue (two_lt (r := []) h3) ?_))))
     rw [mid_get,two_get h3,len_next (by rw [h1];simp only [lenB];omega)]
     refine Evt.bind (.const (l1In_eq _ _ _)) ?_
     rw [List.zip_cons_cons,List.all_cons]
     unfold okL
     simp only
     cases hi:decide (0≤x∧x≤5)with
     | false=>exact Evt.ctrue rfl .pure
     | true =>
      have hxx:=of_decide_eq_true hi
      refine Evt.cfalse rfl (Evt.bind (cbSidesB_ev hbb ge) (Evt.ctrue mid_ge (Evt.ctrue (two_lt (r := []) h3) ?_)))
      obtain⟨j,rfl⟩:=Int.eq_ofNat_of_zero_le hxx.1
      refine Evt.bind (cbHolds_ev (cell_sd hs hbb ge) hs.ln (by omega)) ?_
      simp only [Int.toNat_natCast,Bool.true_and]
      cases hV 3 s (csV b n e).1 j with
      | false=>exact Evt.ctrue rfl .pure
      | true=>exact Evt.cfalse rfl ih
  have hk:=key (cellsV (2 ^ n)) [] xs [] rfl rfl rfl
  simp only [List.length_nil]at hk
  cases ha:((cellsV (2 ^ n)).zip xs).all (okL s b n)with
  | true=>rw [ha,if_pos rfl]at hk;exact Evt.inr (Evt.diag hk) .pure
  | false=>rw [ha,if_neg (by simp)]at hk;exact Evt.inl (Evt.diag hk) .pure
 ·rw [if_neg hl]
  refine Evt.ctrue ?_ .pure
  rw [bne_iff_ne]
  omega
theorem impl_checkLabels_ev{s:List (List Tm)}{b:Bx}{d:Int}{xs:List Int}(hb:s.length<lenB)(hm:∀r∈s,r.length<lenB)(hx:b.2.1.length<lenB)(hxs:xs.length≤1000000):Evt (fun k _=>impl_CheckLabels k s b d xs) (ckV s b d xs):=by
 refine Evt.eq (f:=fun k q=>_) ?_ (fun k q=>by rw [impl_CheckLabels])
 refine implC_ask hb hm hx (fun h=>by unfold ckV;rw [h];rfl) (fun h => ?_)
 obtain⟨n,rfl,hn,hs,hbb⟩:=askC_form h hm
 unfold ckV
 rw [h,if_pos rfl]
 simp only [Int.toNat_natCast]
 refine Evt.bind (surfaceCells_ev hn) ?_
 by_cases hl:xs.length=(cellsV (2 ^ n)).length
 ·rw [if_pos hl]
  have hc:=cellsV_len hn
  refine Evt.cfalse (by rw [hl];simp) ?_
  have key:∀(r d:List Cl) (r' d':List Int),d++r=cellsV (2 ^ n)→d'++r'=xs→d.length=d'.length→Evt (fun k m=>impl_CheckLabels_L250 k m s n xs b (cellsV (2 ^ n)) ((cellsV (2 ^ n)).length:Int) d.length) (if (r.zip r').all (okL s b n)then .inr ()else .inl (false,true)):=by
   intro r
   induction r with
   | nil =>
    intro d r' d' h1 h2 h3
    rw [List.append_nil]at h1
    rw [←h1]
    refine Evt.step (fun k m=>impl_CheckLabels_L250.eq_2 k _ _ _ _ _ _ _ m) (Evt.rng0 ?_)
    simp only [List.zip_nil_left,List.all_nil,if_true]
    exact .pure
   | cons e r ih =>
    intro d r' d' h1 h2 h3
    have hlen:r'.length=r.length+1:=by
     have:=congrArg List.length h1
     have:=congrArg List.length h2
     simp only [List.length_append,List.length_cons]at *
     omega
    match r',hlen with
    | x::r',hlen =>
     have ge:=cellsV_ok hn e (by rw [←h1];simp)
     have ih:=ih (d ++ [e]) r' (d' ++ [x]) (by simpa using h1) (by simpa using h2) (by simp [h3])
     refine Evt.step (fun k m=>impl_CheckLabels_L250.eq_2 k _ _ _ _ _ _ _ m) ?_
     rw [←h1]at ih ⊢
     rw [←h2]at ih ⊢
     refine Evt.ctrue mid_lt (Evt.ctrue mid_ge (Evt.ctrue mid_lt ?_))
     rw [mid_get,two_get h3,len_next (by rw [h1];simp only [lenB];omega)]
     refine Evt.bind (cellSidesB_ev hbb ge) (Evt.ctrue mid_ge (Evt.ctrue (two_lt (r := []) h3) ?_))
     rw [List.zip_cons_cons,List.all_cons]
     unfold okL
     simp only
     cases hi:decide (0≤x∧x≤5)with
     | false =>
      have:Evt (fun k _=>impl_labelHolds k s (csV b n e).1 x) false:=by
       refine Evt.eq (f:=fun k q=>_) ?_ (fun k q=>by rw [impl_labelHolds])
       exact Evt.bind (.const (inside_eq _ _ _)) (Evt.ctrue (by rw [hi];rfl) .pure)
      exact Evt.bind this (Evt.ctrue rfl .pure)
     | true =>
      have hxx:=of_decide_eq_true hi
      obtain⟨j,rfl⟩:=Int.eq_ofNat_of_zero_le hxx.1
      refine Evt.bind (labelHolds_ev (cell_sd hs hbb ge) hs.ln (by omega)) ?_
      simp only [Int.toNat_natCast,Bool.true_and]
      cases hV 3 s (csV b n e).1 j with
      | false=>exact Evt.ctrue rfl .pure
      | true=>exact Evt.cfalse rfl ih
  have hk:=key (cellsV (2 ^ n)) [] xs [] rfl rfl rfl
  simp only [List.length_nil]at hk
  cases ha:((cellsV (2 ^ n)).zip xs).all (okL s b n)with
  | true=>rw [ha,if_pos rfl]at hk;exact Evt.inr (Evt.diag hk) .pure
  | false=>rw [ha,if_neg (by simp)]at hk;exact Evt.inl (Evt.diag hk) .pure
 ·rw [if_neg hl]
  refine Evt.ctrue ?_ .pure
  rw [bne_iff_ne]
  omega
end Go.Ev.G

namespace Go.Ev.G
open Go Go.Ev
set_option maxRecDepth 100000

def cornV(L:List Int)(s:Int):Option Int:=if oppI L then none else some (sumC L s)
def runN(g:Nat→Int→Option Int):Nat→Nat→Int→Option Int
 | 0,_,s=>some s
 | m+1,i,s=>(g i s).bind fun s=>runN g m (i+1) s
def Lof(A:List Int)(d x y z:Nat):List Int:=(ordV d (2 ^ d) ((x:Int),(y:Int),(z:Int))).map (labF A)
def gz(A:List Int)(d x y z:Nat)(s:Int):Option Int:=cornV (Lof A d x y z) s
def gy(A:List Int)(d x y:Nat)(s:Int):Option Int:=runN (gz A d x y) (2 ^ d+1) 0 s
def gx(A:List Int)(d x:Nat)(s:Int):Option Int:=runN (gy A d x) (2 ^ d+1) 0 s
def dgLV(A:List Int)(d:Nat):Int×Bool:=match runN (gx A d) (2 ^ d+1) 0 0 with
 | some s=>(s,true)
 | none=>(0,false)

structure LabOk(A:List Int)(d:Nat):Prop where
 hd:d≤2
 len:A.length=6*2 ^ d*2 ^ d
 lab:∀l∈A,isLab l
theorem LabOk.small{A:List Int}{d:Nat}(h:LabOk A d):A.length≤96:=by
 have:=h.len
 have hd:=h.hd
 rcases(by omega:d=0∨d=1∨d=2)with rfl | rfl | rfl <;> simp at this <;> omega
theorem LabOk.n{A:List Int}{d:Nat}(h:LabOk A d):1≤2 ^ d∧2 ^ d≤4:=by
 have hd:=h.hd
 rcases(by omega:d=0∨d=1∨d=2)with rfl | rfl | rfl <;> decide
theorem LabOk.inb{A:List Int}{d x y z:Nat}(h:LabOk A d)(hx:x≤2 ^ d)(hy:y≤2 ^ d)(hz:z≤2 ^ d):InB d x y z:=⟨h.hd,by omega,by omega,by omega,by omega,by omega,by omega⟩
theorem LabOk.lof{A:List Int}{d x y z:Nat}(h:LabOk A d)(hx:x≤2 ^ d)(hy:y≤2 ^ d)(hz:z≤2 ^ d):∀l∈Lof A d x y z,isLab l:=by
 intro l hl
 unfold Lof at hl
 obtain⟨i,hi,rfl⟩:=List.mem_map.1 hl
 have hb:=ord_bnd (h.inb hx hy hz) i hi
 unfold labF
 have hlt:i.toNat<A.length:=by rw [h.len];omega
 rw [List.getD_eq_getElem?_getD,List.getElem?_eq_getElem hlt]
 exact h.lab _ (List.getElem_mem hlt)
theorem idx_getD{n i:Nat}(h:i<(idxV n).length):(idxV n).getD i 0=i:=by
 unfold idxV at *
 simp only [List.length_map,List.length_range]at h
 simp [List.getD_eq_getElem?_getD,h]
theorem spec_around_ev{A:List Int}{d x y z:Nat}(h:LabOk A d)(hx:x≤2 ^ d)(hy:y≤2 ^ d)(hz:z≤2 ^ d)(hin:inner (2 ^ d) ((x:Int),(y:Int),(z:Int))=false) :
  Evt (fun k _=>spec_cbAround k A [(x:Int),(y:Int),(z:Int)] ((2 ^ d:Nat):Int) (cellsV (2 ^ d))) (Lof A d x y z):=by
 refine evt_100 fun k => ?_
 have hs:=saround_ord (h.inb hx hy hz) k
 rw [hin,cond_false]at hs
 have hl:A.length=(idxV (2 ^ d)).length:=by rw [h.len];simp [idxV]
 exact cbAround_nat (k+100) hl (fun i hi=>by unfold labF;rw [idx_getD hi,Int.toNat_natCast]) _ _ _ hs
theorem impl_around_ev{A:List Int}{d x y z:Nat}(h:LabOk A d)(hx:x≤2 ^ d)(hy:y≤2 ^ d)(hz:z≤2 ^ d) :
  Evt (fun k _=>impl_around k (cellsV (2 ^ d)) d ((x:Int),(y:Int),(z:Int))) (ordV d (2 ^ d) ((x:Int),(y:Int),(z:Int))):=evt_100 fun k=>around_ord (h.inb hx hy hz) k
theorem inner_nil{A:List Int}{d x y z:Nat}(h:LabOk A d)(hx:x≤2 ^ d)(hy:y≤2 ^ d)(hz:z≤2 ^ d)(hin:inner (2 ^ d) ((x:Int),(y:Int),(z:Int))=true):Lof A d x y z = []:=by
 have hs:=saround_ord (h.inb hx hy hz) 0
 rw [hin,cond_true]at hs
 unfold Lof
 rw [←Option.some.inj hs];rfl

theorem specZ_ev{A:List Int}{d x y:Nat}(h:LabOk A d)(hx:x≤2 ^ d)(hy:y≤2 ^ d):∀(m i:Nat),i+m=2 ^ d+1→∀s:Int,
  Evt (fun k n=>spec_cbDegree_L1025170 k n A ((2 ^ d:Nat):Int) (cellsV (2 ^ d)) s x y i) (match runN (gz A d x y) m i s with | some s' => .inr (A,((2 ^ d:Nat):Int),cellsV (2 ^ d),s',(x:Int),(y:Int),()) | none => .inl (0,false))
 | 0,i,hi,s=>by
  have hn:=h.n
  exact Evt.step (fun k n=>spec_cbDegree_L1025170.eq_2 k _ _ _ _ _ _ _ n) (Evt.cfalse (decide_eq_false (by omega)) .pure)
 | m+1,i,hi,s=>by
  have hn:=h.n
  have hz:i≤2 ^ d:=by omega
  have w:IntKind.wrap .i64 ((i:Int)+1)=((i+1:Nat):Int):=w64_next (by simp only [lenB];omega)
  have hlen:(Lof A d x y i).length<274877906944:=by
   have:=ordV_len (h.inb hx hy hz)
   unfold Lof
   rw [List.length_map];omega
  refine Evt.step (fun k n=>spec_cbDegree_L1025170.eq_2 k _ _ _ _ _ _ _ n) (Evt.ctrue (decide_eq_true (by omega)) ?_)
  have h0:(((2 ^ d:Nat):Int)==0)=false:=by rw [beq_eq_false_iff_ne];omega
  rw [w]
  have ih:=specZ_ev h hx hy m (i+1) (by omega)
  have body:inner (2 ^ d) ((x:Int),(y:Int),(i:Int))=false→Evt (fun k n=>(Option.bind (spec_cbAround k A ([(x:Int),(y:Int),(i:Int)]:List Int) ((2 ^ d:Nat):Int) (cellsV (2 ^ d))) fun r3=>(both (R:=Int×Bool) (P:=(List Int)×Int×(List (Int×Bool×Int×Int))×Int×Int×Int×Int×(List Int)×Unit) (spec_cbDegree_L524887194 k k A ((2 ^ d:Nat):Int) (cellsV (2 ^ d)) s x y i r3 r3 (r3.length:Int) 0) (fun q7=>some (Sum.inl q7)) (fun y6=>(both (R:=Int×Bool) (P:=(List Int)×Int×(List (Int×Bool×Int×Int))×Int×Int×Int×Int×Unit) (spec_cbDegree_L524887198 k k y6.1 y6.2.1 y6.2.2.1 y6.2.2.2.1 y6.2.2.2.2.1 y6.2.2.2.2.2.1 y6.2.2.2.2.2.2.1 y6.2.2.2.2.2.2.2.1 2) (fun q11=>some (Sum.inl q11)) (fun y10=>(spec_cbDegree_L1025170 k n y10.1 y10.2.1 y10.2.2.1 y10.2.2.2.1 y10.2.2.2.2.1 y10.2.2.2.2.2.1 (IntKind.wrap .i64 (y10.2.2.2.2.2.2.1+1)))))))))
    (match runN (gz A d x y) (m+1) i s with | some s' => .inr (A,((2 ^ d:Nat):Int),cellsV (2 ^ d),s',(x:Int),(y:Int),()) | none => .inl (0,false)):=by
   intro hin
   refine Evt.bind (spec_around_ev h hx hy hz hin) ?_
   have ho:=specOpp_ev (x0:=A) (x6:=((2 ^ d:Nat):Int)) (x7:=cellsV (2 ^ d)) (x9:=x) (x10:=y) (x11:=i) (L:=Lof A d x y i) (by simp only [lenB];omega) s
   rw [opp_eq (h.lof hx hy hz)]at ho
   show Evt _ (match ((gz A d x y i s).bind fun s=>runN (gz A d x y) m (i+1) s)with | some s'=>_ | none=>_)
   unfold gz cornV
   cases hO:oppI (Lof A d x y i)with
   | true =>
    rw [hO,if_pos rfl]at ho
    rw [if_pos rfl]
    exact Evt.inl (Evt.diag ho) .pure
   | false =>
    rw [hO,if_neg (by simp)]at ho
    rw [if_neg (by simp)]
    refine Evt.inr (Evt.diag ho) (Evt.inr (Evt.diag (specSum_ev (h.lof hx hy hz) (by simp only [lenB];omega) s)) ?_)
    simp only [w]
    exact ih _
  cases h1:(Int.tmod (x:Int) ((2 ^ d:Nat):Int) != 0)with
  | false=>exact Evt.cfalse h0 (Evt.cfalse rfl (body (by unfold inner;simp only;rw [h1];rfl)))
  | true =>
   refine Evt.cfalse h0 (Evt.ctrue rfl ?_)
   cases h2:(Int.tmod (y:Int) ((2 ^ d:Nat):Int) != 0)with
   | false=>exact Evt.cfalse h0 (Evt.cfalse rfl (body (by unfold inner;simp only;rw [h1,h2];rfl)))
   | true =>
    refine Evt.cfalse h0 (Evt.ctrue rfl ?_)
    cases h3:(Int.tmod (i:Int) ((2 ^ d:Nat):Int) != 0)with
    | false=>exact Evt.cfalse h0 (Evt.cfalse rfl (body (by unfold inner;simp only;rw [h1,h2,h3];rfl)))
    | true =>
     refine Evt.cfalse h0 (Evt.ctrue rfl ?_)
     have hnil:=inner_nil h hx hy hz (by unfold inner;simp only;rw [h1,h2,h3];rfl)
     show Evt _ (match ((gz A d x y i s).bind fun s=>runN (gz A d x y) m (i+1) s)with | some s'=>_ | none=>_)
     unfold gz cornV
     rw [hnil]
     exact ih s
theorem specY_ev{A:List Int}{d x:Nat}(h:LabOk A d)(hx:x≤2 ^ d):∀(m i:Nat),i+m=2 ^ d+1→∀s:Int,
  Evt (fun k n=>spec_cbDegree_L16018 k n A ((2 ^ d:Nat):Int) (cellsV (2 ^ d)) s x i) (match runN (gy A d x) m i s with | some s' => .inr (A,((2 ^ d:Nat):Int),cellsV (2 ^ d),s',(x:Int),()) | none => .inl (0,false))
 | 0,i,hi,s=>by
  have hn:=h.n
  exact Evt.step (fun k n=>spec_cbDegree_L16018.eq_2 k _ _ _ _ _ _ n) (Evt.cfalse (decide_eq_false (by omega)) .pure)
 | m+1,i,hi,s=>by
  have hn:=h.n
  have hz:i≤2 ^ d:=by omega
  have w:IntKind.wrap .i64 ((i:Int)+1)=((i+1:Nat):Int):=w64_next (by simp only [lenB];omega)
  refine Evt.step (fun k n=>spec_cbDegree_L16018.eq_2 k _ _ _ _ _ _ n) (Evt.ctrue (decide_eq_true (by omega)) ?_)
  have ih:=specY_ev h hx m (i+1) (by omega)
  have hZ:=specZ_ev h hx hz (2 ^ d+1) 0 (by omega) s
  show Evt _ (match ((gy A d x i s).bind fun s=>runN (gy A d x) m (i+1) s)with | some s'=>_ | none=>_)
  unfold gy at *
  cases hr:runN (gz A d x i) (2 ^ d+1) 0 s with
  | none =>
   rw [hr]at hZ
   exact Evt.inl (Evt.diag hZ) .pure
  | some s' =>
   rw [hr]at hZ
   refine Evt.inr (Evt.diag hZ) ?_
   simp only [w]
   exact ih s'
theorem specX_ev{A:List Int}{d:Nat}(h:LabOk A d):∀(m i:Nat),i+m=2 ^ d+1→∀s:Int,
  Evt (fun k n=>spec_cbDegree_L250 k n A ((2 ^ d:Nat):Int) (cellsV (2 ^ d)) s i) (match runN (gx A d) m i s with | some s' => .inr (s',()) | none => .inl (0,false))
 | 0,i,hi,s=>by
  have hn:=h.n
  exact Evt.step (fun k n=>spec_cbDegree_L250.eq_2 k _ _ _ _ _ n) (Evt.cfalse (decide_eq_false (by omega)) .pure)
 | m+1,i,hi,s=>by
  have hn:=h.n
  have hz:i≤2 ^ d:=by omega
  have w:IntKind.wrap .i64 ((i:Int)+1)=((i+1:Nat):Int):=w64_next (by simp only [lenB];omega)
  refine Evt.step (fun k n=>spec_cbDegree_L250.eq_2 k _ _ _ _ _ n) (Evt.ctrue (decide_eq_true (by omega)) ?_)
  have ih:=specX_ev h m (i+1) (by omega)
  have hZ:=specY_ev h hz (2 ^ d+1) 0 (by omega) s
  show Evt _ (match ((gx A d i s).bind fun s=>runN (gx A d) m (i+1) s)with | some s'=>_ | none=>_)
  unfold gx at *
  cases hr:runN (gy A d i) (2 ^ d+1) 0 s with
  | none =>
   rw [hr]at hZ
   exact Evt.inl (Evt.diag hZ) .pure
  | some s' =>
   rw [hr]at hZ
   refine Evt.inr (Evt.diag hZ) ?_
   simp only [w]
   exact ih s'
theorem cbDegree_ev{A:List Int}{d:Nat}(h:LabOk A d):Evt (fun k _=>spec_cbDegree k A d) (dgLV A d):=by
 refine Evt.eq (f:=fun k q=>_) ?_ (fun k q=>by rw [spec_cbDegree])
 have hd:=h.hd
 refine Evt.bind (.const (dyPower_eq (by omega))) (Evt.bind (cbCells_ev hd) ?_)
 have hX:=specX_ev h (2 ^ d+1) 0 (by omega) 0
 unfold dgLV
 cases hr:runN (gx A d) (2 ^ d+1) 0 0 with
 | none=>rw [hr]at hX;exact Evt.inl (Evt.diag hX) .pure
 | some s=>rw [hr]at hX;exact Evt.inr (Evt.diag hX) .pure

theorem implZ_ev{A:List Int}{d x y:Nat}(h:LabOk A d)(hx:x≤2 ^ d)(hy:y≤2 ^ d){x23 x28:Int}:∀(m i:Nat),i+m=2 ^ d+1→∀s:Int,
  Evt (fun k n=>impl_degreeOfLabels_L3827302 k n A d (cellsV (2 ^ d)) ((2 ^ d:Nat):Int) s x y x23 x x28 y ((2 ^ d+1:Nat):Int) i) (match runN (gz A d x y) m i s with | some s' => .inr (A,(d:Int),cellsV (2 ^ d),((2 ^ d:Nat):Int),s',(x:Int),x23,(x:Int),x28,(y:Int),()) | none => .inl (0,false))
 | 0,i,hi,s=>by
  have hn:=h.n
  exact Evt.step (fun k n=>impl_degreeOfLabels_L3827302.eq_2 k _ _ _ _ _ _ _ _ _ _ _ _ _ n) (Evt.cfalse (decide_eq_false (by omega)) .pure)
 | m+1,i,hi,s=>by
  have hn:=h.n
  have hz:i≤2 ^ d:=by omega
  have w:IntKind.wrap .i64 ((i:Int)+1)=((i+1:Nat):Int):=w64_next (by simp only [lenB];omega)
  have hol:=ordV_len (h.inb hx hy hz)
  have hlen:(Lof A d x y i).length<274877906944:=by unfold Lof;rw [List.length_map];omega
  refine Evt.step (fun k n=>impl_degreeOfLabels_L3827302.eq_2 k _ _ _ _ _ _ _ _ _ _ _ _ _ n) (Evt.ctrue (decide_eq_true (by omega)) ?_)
  have ih:=implZ_ev h hx hy (x23:=x23) (x28:=x28) m (i+1) (by omega)
  refine Evt.bind (impl_around_ev h hx hy hz) ?_
  have hm:=implMet_ev (x0:=A) (x1:=d) (x6':=cellsV (2 ^ d)) (x7:=((2 ^ d:Nat):Int)) (x9:=x) (x10:=y) (x23:=x23) (x24:=x) (x28:=x28) (x29:=y) (x33:=((2 ^ d+1:Nat):Int)) (x34:=i) (labF A) (fun _=>rfl) (o:=ordV d (2 ^ d) ((x:Int),(y:Int),(i:Int)))
   (fun j hj=>by have:=ord_bnd (h.inb hx hy hz) j hj;rw [h.len];exact this) (by omega) s
  refine Evt.inr (Evt.diag hm) ?_
  have ho:=implOpp_ev (x0:=A) (x1:=d) (x6':=cellsV (2 ^ d)) (x7:=((2 ^ d:Nat):Int)) (x9:=x) (x10:=y) (x23:=x23) (x24:=x) (x28:=x28) (x29:=y) (x33:=((2 ^ d+1:Nat):Int)) (x34:=i) (L:=Lof A d x y i) (by simp only [lenB];omega) s
  have hsm:=implSum_ev (x0:=A) (x1:=d) (x6':=cellsV (2 ^ d)) (x7:=((2 ^ d:Nat):Int)) (x9:=x) (x10:=y) (x23:=x23) (x24:=x) (x28:=x28) (x29:=y) (x33:=((2 ^ d+1:Nat):Int)) (x34:=i) (L:=Lof A d x y i) (by simp only [lenB];omega) s
  show Evt _ (match ((gz A d x y i s).bind fun s=>runN (gz A d x y) m (i+1) s)with | some s'=>_ | none=>_)
  unfold gz cornV
  cases hO:oppI (Lof A d x y i)with
  | true =>
   rw [hO,if_pos rfl]at ho
   rw [if_pos rfl]
   exact Evt.inl (Evt.diag ho) .pure
  | false =>
   rw [hO,if_neg (by simp)]at ho
   rw [if_neg (by simp)]
   refine Evt.inr (Evt.diag ho) (Evt.inr (Evt.diag hsm) ?_)
   simp only [w]
   exact ih _
theorem implY_ev{A:List Int}{d x:Nat}(h:LabOk A d)(hx:x≤2 ^ d){x23:Int}:∀(m i:Nat),i+m=2 ^ d+1→∀s:Int,
  Evt (fun k n=>impl_degreeOfLabels_L14950 k n A d (cellsV (2 ^ d)) ((2 ^ d:Nat):Int) s x x23 x ((2 ^ d+1:Nat):Int) i) (match runN (gy A d x) m i s with | some s' => .inr (A,(d:Int),cellsV (2 ^ d),((2 ^ d:Nat):Int),s',x23,(x:Int),()) | none => .inl (0,false))
 | 0,i,hi,s=>by
  have hn:=h.n
  exact Evt.step (fun k n=>impl_degreeOfLabels_L14950.eq_2 k _ _ _ _ _ _ _ _ _ _ n) (Evt.cfalse (decide_eq_false (by omega)) .pure)
 | m+1,i,hi,s=>by
  have hn:=h.n
  have hz:i≤2 ^ d:=by omega
  have w:IntKind.wrap .i64 ((i:Int)+1)=((i+1:Nat):Int):=w64_next (by simp only [lenB];omega)
  have w2:IntKind.wrap .i64 (((2 ^ d:Nat):Int)+1)=((2 ^ d+1:Nat):Int):=w64_next (by simp only [lenB];omega)
  refine Evt.step (fun k n=>impl_degreeOfLabels_L14950.eq_2 k _ _ _ _ _ _ _ _ _ _ n) (Evt.ctrue (decide_eq_true (by omega)) ?_)
  have ih:=implY_ev h hx (x23:=x23) m (i+1) (by omega)
  have hZ:=implZ_ev h hx hz (x23:=x23) (x28:=((2 ^ d+1:Nat):Int)) (2 ^ d+1) 0 (by omega) s
  rw [w2]
  show Evt _ (match ((gy A d x i s).bind fun s=>runN (gy A d x) m (i+1) s)with | some s'=>_ | none=>_)
  unfold gy at *
  cases hr:runN (gz A d x i) (2 ^ d+1) 0 s with
  | none =>
   rw [hr]at hZ
   exact Evt.inl (Evt.diag hZ) .pure
  | some s' =>
   rw [hr]at hZ
   refine Evt.inr (Evt.diag hZ) ?_
   simp only [w]
   exact ih s'
theorem implX_ev{A:List Int}{d:Nat}(h:LabOk A d):∀(m i:Nat),i+m=2 ^ d+1→∀s:Int,
  Evt (fun k n=>impl_degreeOfLabels_L58 k n A d (cellsV (2 ^ d)) ((2 ^ d:Nat):Int) s ((2 ^ d+1:Nat):Int) i) (match runN (gx A d) m i s with | some s' => .inr (s',()) | none => .inl (0,false))
 | 0,i,hi,s=>by
  have hn:=h.n
  exact Evt.step (fun k n=>impl_degreeOfLabels_L58.eq_2 k _ _ _ _ _ _ _ n) (Evt.cfalse (decide_eq_false (by omega)) .pure)
 | m+1,i,hi,s=>by
  have hn:=h.n
  have hz:i≤2 ^ d:=by omega
  have w:IntKind.wrap .i64 ((i:Int)+1)=((i+1:Nat):Int):=w64_next (by simp only [lenB];omega)
  have w2:IntKind.wrap .i64 (((2 ^ d:Nat):Int)+1)=((2 ^ d+1:Nat):Int):=w64_next (by simp only [lenB];omega)
  refine Evt.step (fun k n=>impl_degreeOfLabels_L58.eq_2 k _ _ _ _ _ _ _ n) (Evt.ctrue (decide_eq_true (by omega)) ?_)
  have ih:=implX_ev h m (i+1) (by omega)
  have hZ:=implY_ev h hz (x23:=((2 ^ d+1:Nat):Int)) (2 ^ d+1) 0 (by omega) s
  rw [w2]
  show Evt _ (match ((gx A d i s).bind fun s=>runN (gx A d) m (i+1) s)with | some s'=>_ | none=>_)
  unfold gx at *
  cases hr:runN (gy A d i) (2 ^ d+1) 0 s with
  | none =>
   rw [hr]at hZ
   exact Evt.inl (Evt.diag hZ) .pure
  | some s' =>
   rw [hr]at hZ
   refine Evt.inr (Evt.diag hZ) ?_
   simp only [w]
   exact ih s'
theorem degreeOfLabels_ev{A:List Int}{d:Nat}(h:LabOk A d):Evt (fun k _=>impl_degreeOfLabels k A d) (dgLV A d):=by
 refine Evt.eq (f:=fun k q=>_) ?_ (fun k q=>by rw [impl_degreeOfLabels])
 have hd:=h.hd
 have hn:=h.n
 have w1:IntKind.wrap .i64 (1*2 ^ min (Int.toNat (d:Int)) (IntKind.bits .i64))=((2 ^ d:Nat):Int):=by
  rcases(by omega:d=0∨d=1∨d=2)with rfl | rfl | rfl <;> rfl
 have w2:IntKind.wrap .i64 (((2 ^ d:Nat):Int)+1)=((2 ^ d+1:Nat):Int):=w64_next (by simp only [lenB];omega)
 rw [w1,w2]
 refine Evt.bind (surfaceCells_ev hd) (Evt.cfalse (decide_eq_false (by omega)) ?_)
 have hX:=implX_ev h (2 ^ d+1) 0 (by omega) 0
 unfold dgLV
 cases hr:runN (gx A d) (2 ^ d+1) 0 0 with
 | none=>rw [hr]at hX;exact Evt.inl (Evt.diag hX) .pure
 | some s=>rw [hr]at hX;exact Evt.inr (Evt.diag hX) .pure
end Go.Ev.G

namespace Go.Ev.G
open Go Go.Ev
set_option maxRecDepth 100000

def co(a b:Int):Bool := !(opL a==b)
abbrev L6:List Int := [0,1,2,3,4,5]
theorem L6_mem{a:Int}(h:isLab a):a∈L6:=by
 rcases isLab_cases h with rfl | rfl | rfl | rfl | rfl | rfl <;> decide
def alt3(a b c:Int):Bool:=(triV a a b==0)&&((triV a b b==0)&&((triV a b a==0)&&((triV a b c==triV b c a)&&(triV a b c == -triV b a c))))
theorem alt_all:(L6.all fun a=>L6.all fun b=>L6.all fun c=>alt3 a b c)=true:=by kernel_rfl
def coc(a b c d:Int):Bool := !(co a b&&(co a c&&(co a d&&(co b c&&(co b d&&co c d)))))||(triV b c d - triV a c d+triV a b d - triV a b c==0)
theorem coc_all:(L6.all fun a=>L6.all fun b=>L6.all fun c=>L6.all fun d=>coc a b c d)=true:=by kernel_rfl
def hh(a b:Int):Int:=if (a,b) ∈ [((0:Int),(1:Int)),(5,1),(5,3)]then 1 else if (b,a) ∈ [((0:Int),(1:Int)),(5,1),(5,3)]then -1 else 0
def opp3(a b c:Int):Bool := !(co a b&&(co a c&&co b c))||(triV a b c+triV (opL a) (opL b) (opL c)==hh a b+hh b c+hh c a)
theorem opp3_all:(L6.all fun a=>L6.all fun b=>L6.all fun c=>opp3 a b c)=true:=by kernel_rfl
def hhA(a b:Int):Bool:=hh a b == -hh b a
theorem hhA_all:(L6.all fun a=>L6.all fun b=>hhA a b)=true:=by kernel_rfl
theorem all2{P:Int→Int→Bool}(h:(L6.all fun a=>L6.all fun b=>P a b)=true){a b:Int}(ha:isLab a)(hb:isLab b):P a b=true:=List.all_eq_true.1 (List.all_eq_true.1 h a (L6_mem ha)) b (L6_mem hb)
theorem all3{P:Int→Int→Int→Bool}(h:(L6.all fun a=>L6.all fun b=>L6.all fun c=>P a b c)=true){a b c:Int}(ha:isLab a)(hb:isLab b)(hc:isLab c):P a b c=true:=List.all_eq_true.1 (List.all_eq_true.1 (List.all_eq_true.1 h a (L6_mem ha)) b (L6_mem hb)) c (L6_mem hc)
theorem all4{P:Int→Int→Int→Int→Bool}(h:(L6.all fun a=>L6.all fun b=>L6.all fun c=>L6.all fun d=>P a b c d)=true){a b c d:Int}(ha:isLab a)(hb:isLab b)(hc:isLab c)(hd:isLab d):P a b c d=true:=List.all_eq_true.1 (all3 (P:=fun a b c=>L6.all fun d=>P a b c d) h ha hb hc) d (L6_mem hd)
structure AltT(a b c:Int):Prop where
 e1:triV a a b=0
 e2:triV a b b=0
 e3:triV a b a=0
 cyc:triV a b c=triV b c a
 sw:triV a b c = -triV b a c
theorem tri_alt{a b c:Int}(ha:isLab a)(hb:isLab b)(hc:isLab c):AltT a b c:=by
 have h:=all3 alt_all ha hb hc
 simp only [alt3,Bool.and_eq_true,beq_iff_eq]at h
 exact⟨h.1,h.2.1,h.2.2.1,h.2.2.2.1,h.2.2.2.2⟩
theorem tri_coc{a b c d:Int}(ha:isLab a)(hb:isLab b)(hc:isLab c)(hd:isLab d)(h1:co a b=true)(h2:co a c=true)(h3:co a d=true)(h4:co b c=true)(h5:co b d=true)(h6:co c d=true):triV b c d - triV a c d+triV a b d - triV a b c=0:=by
 have h:=all4 coc_all ha hb hc hd
 simp only [coc,h1,h2,h3,h4,h5,h6,Bool.and_true,Bool.not_true,Bool.false_or,beq_iff_eq]at h
 exact h
theorem tri_opp{a b c:Int}(ha:isLab a)(hb:isLab b)(hc:isLab c)(h1:co a b=true)(h2:co a c=true)(h3:co b c=true):triV a b c+triV (opL a) (opL b) (opL c)=hh a b+hh b c+hh c a:=by
 have h:=all3 opp3_all ha hb hc
 simp only [opp3,h1,h2,h3,Bool.and_true,Bool.not_true,Bool.false_or,beq_iff_eq]at h
 exact h
theorem hh_anti{a b:Int}(ha:isLab a)(hb:isLab b):hh a b = -hh b a:=by
 have h:=all2 hhA_all ha hb
 simpa [hhA] using h

section
variable {α β : Type}
def cyA(g:α→α→Int)(a0:α):α→List α→Int
 | p,[]=>g p a0
 | p,c::cs=>g p c+cyA g a0 c cs
def cy(g:α→α→Int):List α→Int
 | []=>0
 | a::r=>cyA g a a r
theorem cyA_add(g g':α→α→Int)(a0:α):∀(r:List α) (p:α),cyA (fun x y=>g x y+g' x y) a0 p r=cyA g a0 p r+cyA g' a0 p r
 | [],p=>rfl
 | c::cs,p=>by
  have:=cyA_add g g' a0 cs c
  simp only [cyA];omega
theorem cy_add(g g':α→α→Int)(l:List α):cy (fun x y=>g x y+g' x y) l=cy g l+cy g' l:=by
 cases l with
 | nil=>rfl
 | cons a r=>exact cyA_add g g' a r a
theorem cyA_tel(T:α→Int)(a0:α):∀(r:List α) (p:α),cyA (fun x y=>T x - T y) a0 p r=T p - T a0
 | [],p=>rfl
 | c::cs,p=>by
  have:=cyA_tel T a0 cs c
  simp only [cyA];omega
theorem cy_tel(T:α→Int)(l:List α):cy (fun x y=>T x - T y) l=0:=by
 cases l with
 | nil=>rfl
 | cons a r=>have:=cyA_tel T a r a;simp only [cy];omega
theorem cyA_congr{g g':α→α→Int}(a0:α):∀(r:List α) (p:α),(∀x∈p::r,∀y∈a0::r,g x y=g' x y)→cyA g a0 p r=cyA g' a0 p r
 | [],p,h=>h p (by simp) a0 (by simp)
 | c::cs,p,h=>by
  simp only [cyA]
  rw [h p (by simp) c (by simp),cyA_congr a0 cs c (fun x hx y hy=>h x (List.mem_cons_of_mem _ hx) y (by simp at hy ⊢; rcases hy with hy | hy <;> simp [hy]))]
theorem cy_congr{g g':α→α→Int}{l:List α}(h:∀x∈l,∀y∈l,g x y=g' x y):cy g l=cy g' l:=by
 cases l with
 | nil=>rfl
 | cons a r=>exact cyA_congr a r a h
theorem cyA_map(g:β→β→Int)(f:α→β)(a0:α):∀(r:List α) (p:α),cyA g (f a0) (f p) (r.map f)=cyA (fun x y=>g (f x) (f y)) a0 p r
 | [],p=>rfl
 | c::cs,p=>by simp only [List.map_cons,cyA,cyA_map g f a0 cs c]
theorem cy_map(g:β→β→Int)(f:α→β)(l:List α):cy g (l.map f)=cy (fun x y=>g (f x) (f y)) l:=by
 cases l with
 | nil=>rfl
 | cons a r=>exact cyA_map g f a r a
def prA(a0:α):α→List α→List (α×α)
 | p,[] => [(p,a0)]
 | p,c::cs=>(p,c)::prA a0 c cs
def prs:List α→List (α×α)
 | [] => []
 | a::r=>prA a a r
theorem cyA_prs(g:α→α→Int)(a0:α):∀(r:List α) (p:α),cyA g a0 p r=((prA a0 p r).map fun q=>g q.1 q.2).sum
 | [],p=>by simp [cyA,prA]
 | c::cs,p=>by simp only [cyA,prA,List.map_cons,List.sum_cons,cyA_prs g a0 cs c]
theorem cy_prs(g:α→α→Int)(l:List α):cy g l=((prs l).map fun q=>g q.1 q.2).sum:=by
 cases l with
 | nil=>rfl
 | cons a r=>exact cyA_prs g a r a
theorem prA_mem{a0:α}:∀(r:List α) (p:α),∀q∈prA a0 p r,q.1∈p::r∧q.2∈a0::r
 | [],p,q,h=>by simp [prA]at h;subst h;simp
 | c::cs,p,q,h=>by
  rcases List.mem_cons.1 h with rfl | h
  ·simp
  ·have:=prA_mem cs c q h
   refine⟨List.mem_cons_of_mem _ this.1,?_⟩
   have h2:=this.2
   simp at h2 ⊢
   rcases h2 with h2 | h2 <;> simp [h2]
theorem prs_mem{l:List α}:∀q∈prs l,q.1∈l∧q.2∈l:=by
 cases l with
 | nil=>simp [prs]
 | cons a r=>exact prA_mem r a
end

def fanA(a:Int):Int→List Int→Int
 | _,[]=>0
 | p,c::cs=>triV a p c+fanA a c cs
def fan:List Int→Int
 | a::b::cs=>fanA a b cs
 | _=>0
theorem fanA_cy{a:Int}(ha:isLab a):∀(r:List Int) (p:Int),isLab p→(∀x∈r,isLab x)→cyA (triV a) a p r=fanA a p r
 | [],p,hp,_=>(tri_alt ha hp hp).e3
 | c::cs,p,hp,h=>by
  simp only [cyA,fanA,fanA_cy ha cs c (h c (by simp)) (fun x hx=>h x (by simp [hx]))]
theorem fan_cy{a:Int}{r:List Int}(h:∀x∈a::r,isLab x):fan (a::r)=cy (triV a) (a::r):=by
 have ha:=h a (by simp)
 match r,h with
 | [],_=>exact(tri_alt ha ha ha).e1.symm
 | b::cs,h =>
  have hb:=h b (by simp)
  show fanA a b cs=triV a a b+cyA (triV a) a b cs
  rw [(tri_alt ha hb hb).e1,fanA_cy ha cs b hb (fun x hx=>h x (by simp [hx])),Int.zero_add]
def coL(l:List Int):Prop:=∀x∈l,∀y∈l,co x y=true
theorem fan_base{l:List Int}{b:Int}(h:∀x∈l,isLab x)(hb:isLab b)(hc:coL (b::l)):fan l=cy (triV b) l:=by
 cases l with
 | nil=>rfl
 | cons a r =>
  rw [fan_cy h]
  have ha:=h a (by simp)
  have e:cy (triV b) (a::r)=cy (fun x y=>triV a x y+(triV b a y - triV b a x)) (a::r):=by
   refine cy_congr fun x hx y hy => ?_
   have c1:=tri_coc hb ha (h x hx) (h y hy) (hc b (by simp) a (by simp)) (hc b (by simp) x (by simp at hx ⊢; exact .inr hx)) (hc b (by simp) y (by simp at hy ⊢; exact .inr hy)) (hc a (by simp) x (by simp at hx ⊢; exact .inr hx)) (hc a (by simp) y (by simp at hy ⊢; exact .inr hy)) (hc x (by simp at hx ⊢; exact .inr hx) y (by simp at hy ⊢; exact .inr hy))
   omega
  rw [e,cy_add (triV a) (fun x y=>triV b a y - triV b a x)]
  have t:=cy_tel (fun x => -triV b a x) (a::r)
  have t2:cy (fun x y=>triV b a y - triV b a x) (a::r)=cy (fun x y => -triV b a x - -triV b a y) (a::r):=cy_congr fun x _ y _=>by omega
  rw [t2,t,Int.add_zero]
theorem fan_opp{l:List Int}(h:∀x∈l,isLab x)(hc:coL l):fan l+fan (l.map opL)=cy hh l:=by
 cases l with
 | nil=>rfl
 | cons a r =>
  have ho:∀x∈(a::r).map opL,isLab x:=by
   intro x hx
   obtain⟨y,hy,rfl⟩:=List.mem_map.1 hx
   rcases isLab_cases (h y hy)with rfl | rfl | rfl | rfl | rfl | rfl <;> (unfold isLab;decide)
  rw [fan_cy h,List.map_cons,fan_cy ho,←List.map_cons,cy_map]
  rw [←cy_add]
  have ha:=h a (by simp)
  have e:cy (fun x y=>triV a x y+triV (opL a) (opL x) (opL y)) (a::r)=cy (fun x y=>hh x y+(hh a x - hh a y)) (a::r):=by
   refine cy_congr fun x hx y hy => ?_
   have:=tri_opp ha (h x hx) (h y hy) (hc a (by simp) x hx) (hc a (by simp) y hy) (hc x hx y hy)
   have:=hh_anti (h y hy) ha
   omega
  rw [e,cy_add hh (fun x y=>hh a x - hh a y),cy_tel,Int.add_zero]
def prism(m f:Int→Int)(i j:Int):Int:=triV (m i) (f i) (f j) - triV (m i) (m j) (f j)
theorem fan_prism{o:List Int}{m f:Int→Int}(hm:∀i∈o,isLab (m i))(hf:∀i∈o,isLab (f i))(hc:coL (o.map m++o.map f)):fan (o.map f)=fan (o.map m)+cy (prism m f) o:=by
 cases o with
 | nil=>rfl
 | cons a r =>
  have hb:=hm a (by simp)
  have lm:∀x∈(a::r).map m,isLab x:=by
   intro x hx
   obtain⟨y,hy,rfl⟩:=List.mem_map.1 hx
   exact hm y hy
  have lf:∀x∈(a::r).map f,isLab x:=by
   intro x hx
   obtain⟨y,hy,rfl⟩:=List.mem_map.1 hx
   exact hf y hy
  have inm:∀ {i},i∈a::r→m i∈(a::r).map m++(a::r).map f:=fun h=>List.mem_append_left _ (List.mem_map_of_mem h)
  have inf:∀ {i},i∈a::r→f i∈(a::r).map m++(a::r).map f:=fun h=>List.mem_append_right _ (List.mem_map_of_mem h)
  have a1:a∈a::r:=by simp
  have c1:coL (m a::(a::r).map f):=by
   intro x hx y hy
   refine hc x ?_ y ?_
   ·rcases List.mem_cons.1 hx with rfl | hx
    ·exact inm a1
    ·exact List.mem_append_right _ hx
   ·rcases List.mem_cons.1 hy with rfl | hy
    ·exact inm a1
    ·exact List.mem_append_right _ hy
  have c2:coL (m a::(a::r).map m):=by
   intro x hx y hy
   refine hc x ?_ y ?_
   ·rcases List.mem_cons.1 hx with rfl | hx
    ·exact inm a1
    ·exact List.mem_append_left _ hx
   ·rcases List.mem_cons.1 hy with rfl | hy
    ·exact inm a1
    ·exact List.mem_append_left _ hy
  rw [fan_base lf hb c1,fan_base lm hb c2,cy_map,cy_map,←cy_add]
  have e:cy (fun x y=>triV (m a) (f x) (f y)) (a::r)=cy (fun x y=>(triV (m a) (m x) (m y)+prism m f x y)+(-triV (m a) (m x) (f x) - -triV (m a) (m y) (f y))) (a::r):=by
   refine cy_congr fun x hx y hy => ?_
   have k1:=tri_coc hb (hm x hx) (hf x hx) (hf y hy) (hc _ (inm a1) _ (inm hx)) (hc _ (inm a1) _ (inf hx)) (hc _ (inm a1) _ (inf hy)) (hc _ (inm hx) _ (inf hx)) (hc _ (inm hx) _ (inf hy)) (hc _ (inf hx) _ (inf hy))
   have k2:=tri_coc hb (hm x hx) (hm y hy) (hf y hy) (hc _ (inm a1) _ (inm hx)) (hc _ (inm a1) _ (inm hy)) (hc _ (inm a1) _ (inf hy)) (hc _ (inm hx) _ (inm hy)) (hc _ (inm hx) _ (inf hy)) (hc _ (inm hy) _ (inf hy))
   unfold prism
   omega
  rw [e,cy_add (fun x y=>triV (m a) (m x) (m y)+prism m f x y) (fun x y => -triV (m a) (m x) (f x) - -triV (m a) (m y) (f y)),cy_tel (fun x => -triV (m a) (m x) (f x)),Int.add_zero]
theorem prism_anti{m f:Int→Int}{i j:Int}(hm:isLab (m i))(hm':isLab (m j))(hf:isLab (f i))(hf':isLab (f j))(hc:coL [m i,m j,f i,f j]):prism m f i j = -prism m f j i:=by
 have k:=tri_coc hm hm' hf' hf (hc _ (by simp) _ (by simp)) (hc _ (by simp) _ (by simp)) (hc _ (by simp) _ (by simp)) (hc _ (by simp) _ (by simp)) (hc _ (by simp) _ (by simp)) (hc _ (by simp) _ (by simp))
 have s1:=tri_alt hm hf hf'
 have s2:=tri_alt hm hf' hf
 have s3:=tri_alt hm' hm hf
 have s4:=tri_alt hf hm hf'
 have s5:=tri_alt hf hf' hm
 have q1:=s1.sw
 have q2:=s1.cyc
 have q3:=s4.cyc
 have q4:=s2.cyc
 have q5:=s2.sw
 have q6:=s5.sw
 have q7:=s3.sw
 have q8:=s5.cyc
 have q9:=(tri_alt hf' hm hf).cyc
 unfold prism
 omega
end Go.Ev.G

namespace Go.Ev.G
open Go Go.Ev
set_option maxRecDepth 100000

def halfD(a b:Int×Int):(Int×Int)×Bool:=mkD (sumN a b) (exA a b+1)
theorem halfD_gd(a b:Int×Int):gd (halfD a b).1:=mkD_gd _ _
theorem EdOk.left{e:Ed}(h:EdOk e):EdOk (e.1,e.2.1,e.2.2.1,(halfD e.2.2.1 e.2.2.2).1):=⟨h.sd,h.a,h.f,halfD_gd _ _⟩
theorem EdOk.right{e:Ed}(h:EdOk e):EdOk (e.1,e.2.1,(halfD e.2.2.1 e.2.2.2).1,e.2.2.2):=⟨h.sd,h.a,halfD_gd _ _,h.t⟩
end Go.Ev.G

namespace Go.Ev.G
open Go Go.Ev
set_option maxRecDepth 100000

theorem between{m D:Nat}{l h x:Int}(hl : -(8*2 ^ m)≤l)(hlh:l<h)(hh:h≤8*2 ^ m)(h0:0≤x)(h1:x≤2 ^ D):(l*2 ^ D+x*(h - l)).natAbs≤8*2 ^ (m+D):=by
 have hP:(0:Int)≤2 ^ D:=Int.le_of_lt (Int.pow_pos (by decide))
 have e1:l*2 ^ D+x*(h - l)=l*(2 ^ D - x)+h*x:=by rw [Int.mul_sub,Int.mul_sub,Int.mul_comm x h,Int.mul_comm x l];omega
 have a1 : -(8*2 ^ m)*(2 ^ D - x)≤l*(2 ^ D - x):=Int.mul_le_mul_of_nonneg_right hl (by omega)
 have a2 : -(8*2 ^ m)*x≤h*x:=Int.mul_le_mul_of_nonneg_right (by omega) h0
 have b1:l*(2 ^ D - x)≤8*2 ^ m*(2 ^ D - x):=Int.mul_le_mul_of_nonneg_right (by omega) (by omega)
 have b2:h*x≤8*2 ^ m*x:=Int.mul_le_mul_of_nonneg_right hh h0
 have e2:(8:Int)*2 ^ m*(2 ^ D - x)+8*2 ^ m*x=8*2 ^ m*2 ^ D:=by rw [←Int.mul_add];congr 1;omega
 have e3:((8*2 ^ (m+D):Nat):Int)=8*2 ^ m*2 ^ D:=by rw [Nat.pow_add,←Nat.mul_assoc];simp
 rw [Int.neg_mul]at a1 a2
 omega
def qq(a b:Int):Option Int:=if a=0∧b=0 then none else some (if 0<a∧0≤b then 0 else if a≤0∧0<b then 1 else if a<0 then 2 else 3)
end Go.Ev.G

namespace Go.Ev.G
open Go Go.Ev
set_option maxRecDepth 100000

theorem castPow(D:Nat):((2 ^ D:Nat):Int)=2 ^ D:=by simp
def ptIn(pt:List (Int×Int))(sides:List Iv):Prop:=pt.length=sides.length∧∀q∈pt.zip sides,sv q.2.1≤sv q.1∧sv q.1≤sv q.2.2
def sdIn(u v:List Iv):Prop:=u.length=v.length∧∀q∈u.zip v,sv q.2.1≤sv q.1.1∧sv q.1.2≤sv q.2.2
theorem upX_sv{M:Nat}{x:Int×Int}(hM:M≤24)(h0:0≤x.2)(hk:x.2≤M):sv x*DM M=upX M x*TT:=by
 unfold sv upX DM
 rw [castPow,←two24,Int.mul_assoc,Int.mul_assoc,←Int.pow_add,←Int.pow_add]
 congr 2
 omega
theorem ptIn_inBx{M:Nat}{pt:List (Int×Int)}{sides:List Iv}(hM:M≤24)(hp:∀x∈pt,0≤x.2∧x.2≤M)(hs:∀s∈sides,ivGd s)(h:ptIn pt sides):inBx M pt sides:=by
 refine⟨h.1,fun q hq => ?_⟩
 have hz:=List.of_mem_zip hq
 refine⟨hs _ hz.2,?_⟩
 have h1:=h.2 q hq
 have h2:=hp _ hz.1
 have e:=upX_sv hM h2.1 h2.2
 unfold mem
 rw [←e]
 have hD:=Int.le_of_lt (DM_pos M)
 exact⟨Int.mul_le_mul_of_nonneg_right h1.1 hD,Int.mul_le_mul_of_nonneg_right h1.2 hD⟩
def fits:List Ed→List Ed→Prop
 | [],[]=>True
 | e::r,u::v::r'=>sdIn (sidesE u) (sidesE e)∧sdIn (sidesE v) (sidesE e)∧fits r r'
 | _,_=>False
end Go.Ev.G

namespace Go.Ev.G
open Go Go.Ev
set_option maxRecDepth 100000

def labsB(a:List Int):Bool:=a.all fun x=>decide (0≤x∧x≤5)
theorem areLabels1_eq(x:Int):impl_areLabels_1 x=some (!decide (0≤x∧x≤5)):=by
 unfold impl_areLabels_1
 rw [inside_eq];rfl
theorem containsL_ev{xs:List Int}(hb:xs.length<lenB):Evt (fun k _=>slices_ContainsFunc_int_int_impl_areLabels_1 k xs ()) (xs.any fun x => !decide (0≤x∧x≤5)):=by
 refine Evt.eq (f:=fun k q=>_) ?_ (fun k q=>by rw [slices_ContainsFunc_int_int_impl_areLabels_1])
 have h:=index_all (d0:=0) (L:=fun k n i=>slices_IndexFunc_int_int_impl_areLabels_1_L26 k n xs () (xs.length:Int) i) (xs:=xs) (p:=fun _ x=>impl_areLabels_1 x) (P:=fun x => !decide (0≤x∧x≤5)) (fun x _ => .const (areLabels1_eq x)) (fun _ _ _=>rfl) hb
 have h2:Evt (fun k _=>slices_IndexFunc_int_int_impl_areLabels_1 k xs ()) (match xs.findIdx? (fun x => !decide (0≤x∧x≤5))with | some j=>(j:Int) | none => -1):=by
  refine Evt.eq (f:=fun k q=>_) ?_ (fun k q=>by rw [slices_IndexFunc_int_int_impl_areLabels_1])
  cases hi:xs.findIdx? (fun x => !decide (0≤x∧x≤5))with
  | none=>rw [hi]at h;exact Evt.inr (Evt.diag h) .pure
  | some j=>rw [hi]at h;exact Evt.inl (Evt.diag h) .pure
 refine Evt.bind h2 (.const ?_)
 cases hi:xs.findIdx? (fun x => !decide (0≤x∧x≤5))with
 | none =>
  have:xs.any (fun x => !decide (0≤x∧x≤5))=false:=by
   rw [List.any_eq_false]
   intro x hx
   have:=List.findIdx?_eq_none_iff.1 hi x hx
   simp only [this];simp
  rw [this];rfl
 | some j =>
  have:xs.any (fun x => !decide (0≤x∧x≤5))=true:=by
   rw [List.any_eq_true]
   obtain⟨hlt,hp,_⟩:=List.findIdx?_eq_some_iff_getElem.1 hi
   exact⟨xs[j],List.getElem_mem hlt,hp⟩
  rw [this]
  simp
theorem areLabels_ev{a:List Int}(hb:a.length<lenB):Evt (fun k _=>impl_areLabels k a) (labsB a):=by
 refine Evt.eq (f:=fun k q=>_) ?_ (fun k q=>by rw [impl_areLabels])
 refine Evt.bind (containsL_ev hb) (.const ?_)
 unfold labsB
 rw [List.any_eq_not_all_not]
 simp
def dlAsk(a:List Int)(d:Int):Bool:=decide (0≤d∧d≤2)&&((a.length:Int)==((6*2 ^ d.toNat*2 ^ d.toNat:Nat):Int))&&labsB a
def dlV(a:List Int)(d:Int):Int×Bool:=if dlAsk a d then dgLV a d.toNat else(0,false)
theorem dlAsk_ok{a:List Int}{d:Nat}(h:dlAsk a d=true):LabOk a d:=by
 unfold dlAsk at h
 rw [Bool.and_eq_true,Bool.and_eq_true]at h
 have h1:=of_decide_eq_true h.1.1
 have h2:=beq_iff_eq.1 h.1.2
 simp only [Int.toNat_natCast]at h2
 refine⟨by omega,by omega,fun l hl => ?_⟩
 have:=of_decide_eq_true (List.all_eq_true.1 h.2 l hl)
 unfold isLab
 exact this
theorem two_pow_two{n:Nat}(hn:n≤2):(6*2 ^ n*2 ^ n:Nat)=(cellsV (2 ^ n)).length:=by
 rcases(by omega:n=0∨n=1∨n=2)with rfl | rfl | rfl <;> rfl
theorem impl_degreeOfLabels_ev{a:List Int}{d:Int}(hb:a.length<lenB):Evt (fun k _=>impl_DegreeOfLabels k a d) (dlV a d):=by
 refine Evt.eq (f:=fun k q=>_) ?_ (fun k q=>by rw [impl_DegreeOfLabels])
 refine Evt.bind (.const (inside_eq d 0 2)) ?_
 cases h1:decide (0≤d∧d≤2)with
 | false =>
  have:dlV a d=(0,false):=by unfold dlV dlAsk;rw [h1];rfl
  rw [this]
  exact Evt.ctrue rfl .pure
 | true =>
  have hd:=of_decide_eq_true h1
  obtain⟨n,rfl⟩:∃n:Nat,d=n:=⟨d.toNat,by omega⟩
  have hn:n≤2:=by omega
  have hw:IntKind.wrap .i64 (2*(n:Int))=((2*n:Nat):Int):=by rw [w64 (by omega) (by omega)];omega
  have hw2:IntKind.wrap .i64 (6*2 ^ min (Int.toNat ((2*n:Nat):Int)) (IntKind.bits .i64))=((6*2 ^ n*2 ^ n:Nat):Int):=by
   rcases(by omega:n=0∨n=1∨n=2)with rfl | rfl | rfl <;> rfl
  rw [hw,hw2]
  refine Evt.cfalse rfl (Evt.cfalse (decide_eq_false (by omega)) ?_)
  cases h2:((a.length:Int)==((6*2 ^ n*2 ^ n:Nat):Int))with
  | false =>
   have:dlV a n=(0,false):=by unfold dlV dlAsk;simp only [Int.toNat_natCast];rw [h1,h2];rfl
   rw [this]
   exact Evt.ctrue (by rw [bne,h2];rfl) .pure
  | true =>
   refine Evt.cfalse (by rw [bne,h2];rfl) (Evt.bind (areLabels_ev hb) ?_)
   cases h3:labsB a with
   | false =>
    have:dlV a n=(0,false):=by unfold dlV dlAsk;simp only [Int.toNat_natCast];rw [h1,h2,h3];rfl
    rw [this]
    exact Evt.ctrue rfl .pure
   | true =>
    have hq:dlAsk a n=true:=by unfold dlAsk;simp only [Int.toNat_natCast];rw [h1,h2,h3];rfl
    refine Evt.cfalse rfl (Evt.bind (degreeOfLabels_ev (dlAsk_ok hq)) ?_)
    unfold dlV
    rw [hq,if_pos rfl,Int.toNat_natCast]
    exact .pure
theorem colV_mem{α:Type}{f:α→Option Nat}:∀(es:List α),∀x∈(colV f es).1,∃e j,f e=some j∧x=((j:Nat):Int)
 | [],x,hx=>by simp [colV]at hx
 | e::r,x,hx=>by
  unfold colV at hx
  cases he:f e with
  | none=>rw [he]at hx;simp at hx
  | some j =>
   rw [he]at hx
   rcases List.mem_cons.1 hx with rfl | hx
   ·exact⟨e,j,he,rfl⟩
   ·exact colV_mem r x hx
theorem lbsV_ok{s:List (List Tm)}{b:Bx}{n:Nat}(hn:n≤2)(h:(lbsV s b n).2=true):LabOk (lbsV s b n).1 n:=by
 refine⟨hn,?_,fun l hl => ?_⟩
 ·rw [two_pow_two hn]
  exact(lbsV_len hn).2.1 h
 ·obtain⟨e,j,he,rfl⟩:=colV_mem _ l hl
  have:=lbl_lt he
  unfold isLab
  omega
def cdV(s:List (List Tm))(b:Bx)(d:Int):Int×Bool:=if askC s b d then(if (lbsV s b d.toNat).2 then dgLV (lbsV s b d.toNat).1 d.toNat else(0,false))else(0,false)
theorem spec_cubeDegree_ev{s:List (List Tm)}{b:Bx}{d:Int}(hb:s.length<lenB)(hm:∀r∈s,r.length<lenB)(hx:b.2.1.length<lenB):Evt (fun k _=>spec_CubeDegree k s b d) (cdV s b d):=by
 refine Evt.eq (f:=fun k q=>_) ?_ (fun k q=>by rw [spec_CubeDegree])
 refine Evt.bind (spec_surfaceLabels_ev hb hm hx) ?_
 unfold slV cdV allL
 cases h:askC s b d with
 | false=>exact Evt.ctrue rfl .pure
 | true =>
  obtain⟨n,rfl,hn,hs,hbb⟩:=askC_form h hm
  simp only [Int.toNat_natCast,if_true]
  cases hf:(lbsV s b n).2 with
  | false=>exact Evt.ctrue rfl .pure
  | true=>exact Evt.cfalse rfl (Evt.bind (cbDegree_ev (lbsV_ok hn hf)) .pure)
theorem impl_cubeDegree_ev{s:List (List Tm)}{b:Bx}{d:Int}(hb:s.length<lenB)(hm:∀r∈s,r.length<lenB)(hx:b.2.1.length<lenB):Evt (fun k _=>impl_CubeDegree k s b d) (cdV s b d):=by
 refine Evt.eq (f:=fun k q=>_) ?_ (fun k q=>by rw [impl_CubeDegree])
 refine implC_ask hb hm hx (fun h=>by unfold cdV;rw [h];rfl) (fun h => ?_)
 obtain⟨n,rfl,hn,hs,hbb⟩:=askC_form h hm
 refine Evt.bind (surfaceLabels_ev hs hbb hn) ?_
 unfold cdV allL
 rw [h]
 simp only [Int.toNat_natCast,if_true]
 cases hf:(lbsV s b n).2 with
 | false=>exact Evt.ctrue rfl .pure
 | true=>exact Evt.cfalse rfl (Evt.bind (degreeOfLabels_ev (lbsV_ok hn hf)) .pure)
end Go.Ev.G

namespace Go.Ev.G
open Go Go.Ev
set_option maxRecDepth 100000

def idT(n:Nat)(d:Int×Int):List Pt:=(List.range n).map fun i=>(List.range n).map fun k=>if i=k then d else(0,0)
end Go.Ev.G

namespace Go.Ev.G
open Go Go.Ev
set_option maxRecDepth 100000

abbrev Cu:=Unit×Int×Int
def CurOk(c:Cu)(m:Nat):Prop:=0≤c.2.1∧c.2.1≤m∧m≤1000000000
theorem CurOk.mono{c:Cu}{m m':Nat}(h:CurOk c m)(hm:m≤m')(hm':m'≤1000000000):CurOk c m':=⟨h.1,by have:=h.2.1;omega,hm'⟩
theorem and255(x:Int):(((BitVec.ofInt 64 x &&& BitVec.ofInt 64 255).toNat:Nat):Int)≤255:=by
 have h:(BitVec.ofInt 64 x &&& BitVec.ofInt 64 255).toNat≤255:=by
  rw [BitVec.toNat_and]
  have:(BitVec.ofInt 64 255).toNat=255:=by decide
  rw [this]
  exact Nat.and_le_right
 omega
def bytesOk(ks:List Int):Prop:=∀x∈ks,0≤x∧x≤255
theorem next_ok{ks:List Int}(hk:bytesOk ks){c:Cu}{m:Nat}(h:CurOk c m)(hm:m<1000000000):∃r c',spec_l1Cur_next ks c=some (r,c')∧CurOk c' (m+1)∧0≤r∧r≤255:=by
 obtain⟨u,p,s⟩:=c
 obtain⟨h1,h2,_⟩:=h
 simp only at h1 h2
 have w:IntKind.wrap .i64 (p+1)=p+1:=w64 (by omega) (by omega)
 have hmid:∃b:Int,(0≤b∧b≤255)∧((bif (decide (p<(ks.length:Int)))then(bif (decide (0≤p))then(bif (decide (p<(ks.length:Int)))then some (Sum.inr (((),p,s),(IntKind.wrap .i64 (ks.getD (Int.toNat p) 0)),()))else none)else none)else some (Sum.inr (((),p,s),0,())):Option ((Int×Unit×Int×Int) ⊕ ((Unit×Int×Int)×Int×Unit)))=some (.inr (((),p,s),b,()))):=by
  by_cases hlt:p<(ks.length:Int)
  ·have hl:p.toNat<ks.length:=by omega
   have hb:=hk (ks.getD (Int.toNat p) 0) (by rw [List.getD_eq_getElem?_getD,List.getElem?_eq_getElem hl];exact List.getElem_mem hl)
   refine⟨ks.getD (Int.toNat p) 0,hb,?_⟩
   rw [decide_eq_true hlt,decide_eq_true h1,w64 (by omega) (by omega)]
   rfl
  ·refine⟨0,by omega,?_⟩
   rw [decide_eq_false hlt]
   rfl
 obtain⟨b,hb,hmid⟩:=hmid
 unfold spec_l1Cur_next
 simp only
 rw [hmid]
 simp only [both,Option.bind_some,w]
 by_cases hle:p+1≤(ks.length:Int)
 ·rw [decide_eq_true hle]
  exact⟨_,_,rfl,⟨by simp only;omega,by simp only;omega,by omega⟩,hb⟩
 ·rw [decide_eq_false hle]
  refine⟨_,_,rfl,⟨by simp only;omega,by simp only;omega,by omega⟩,?_⟩
  have h3:=and255 (Int.fdiv (IntKind.wrap .u64 ((IntKind.wrap .u64 ((IntKind.wrap .u64 (s*6364136223846793005))+(IntKind.wrap .u64 b)))+1442695040888963407)) (2 ^ min (Int.toNat 40) (IntKind.bits .u64)))
  have e64:IntKind.bits .u64=64:=rfl
  rw [e64]at h3 ⊢
  generalize ((BitVec.ofInt 64 (Int.fdiv (IntKind.wrap .u64 ((IntKind.wrap .u64 ((IntKind.wrap .u64 (s*6364136223846793005))+(IntKind.wrap .u64 b)))+1442695040888963407)) (2 ^ min (Int.toNat 40) 64)) &&& BitVec.ofInt 64 255).toNat:Nat)=z at h3 ⊢
  rw [wu64 (by omega) (by omega),w64 (by omega) (by omega)]
  omega
theorem tmod_rng{x n:Int}(hx:0≤x)(hn:0<n):0≤Int.tmod x n∧Int.tmod x n<n:=by
 rw [Int.tmod_eq_emod_of_nonneg hx]
 exact⟨Int.emod_nonneg _ (by omega),Int.emod_lt_of_pos _ hn⟩
theorem pick_ok{ks:List Int}(hk:bytesOk ks){c:Cu}{m:Nat}(h:CurOk c m)(hm:m+2≤1000000000){n:Int}(hn:n≤1000000):∃r c',spec_l1Cur_pick ks c n=some (r,c')∧CurOk c' (m+2)∧0≤r∧(1≤n→r<n):=by
 unfold spec_l1Cur_pick
 by_cases h1:n≤1
 ·rw [decide_eq_true h1]
  exact⟨0,_,rfl,h.mono (by omega) (by omega),by omega,by omega⟩
 ·rw [decide_eq_false h1,cond_false]
  obtain⟨r,c',e,hc,hr⟩:=next_ok hk h (by omega)
  have e:spec_l1Cur_next ks ((),c.2)=some (r,c'):=e
  have hz:(n==0)=false:=by rw [beq_eq_false_iff_ne];omega
  rw [e,Option.bind_some]
  by_cases h2:n>200
  ·rw [decide_eq_true h2,cond_true]
   obtain⟨r2,c2,e2,hc2,hr2⟩:=next_ok hk hc (by omega)
   have e2:spec_l1Cur_next ks ((),c'.2)=some (r2,c2):=e2
   rw [e2,Option.bind_some,hz]
   have w1:IntKind.wrap .i64 (r*256)=r*256:=w64 (by omega) (by omega)
   have w2:IntKind.wrap .i64 (r*256+r2)=r*256+r2:=w64 (by omega) (by omega)
   simp only [w1,w2]
   have:=tmod_rng (x:=r*256+r2) (n:=n) (by omega) (by omega)
   exact⟨_,_,rfl,hc2,this.1,fun _=>this.2⟩
  ·rw [decide_eq_false h2,cond_false,hz]
   have:=tmod_rng (x:=r) (n:=n) (by omega) (by omega)
   exact⟨_,_,rfl,hc.mono (by omega) (by omega),this.1,fun _=>this.2⟩
theorem one_ok{ks:List Int}(hk:bytesOk ks){c:Cu}{m:Nat}(h:CurOk c m)(hm:m+2≤1000000000){n:Int}(hn:n≤1000000):∃r c',spec_l1Cur_one ks c n=some (r,c')∧CurOk c' (m+2):=by
 obtain⟨r,c',e,hc,_⟩:=pick_ok hk h hm hn
 unfold spec_l1Cur_one
 have e:spec_l1Cur_pick ks ((),c.2) n=some (r,c'):=e
 rw [e]
 exact⟨_,_,rfl,hc⟩
theorem among_ok{ks:List Int}(hk:bytesOk ks){c:Cu}{m:Nat}(h:CurOk c m)(hm:m+2≤1000000000){l:List Int}(h0:l ≠ [])(hl:l.length≤1000):∃r c',spec_l1Cur_among ks c l=some (r,c')∧CurOk c' (m+2)∧r∈l:=by
 have hp:1≤l.length:=List.length_pos_iff.2 h0
 obtain⟨r,c',e,hc,hr0,hr⟩:=pick_ok hk h hm (n:=(l.length:Int)) (by omega)
 have hr:=hr (by omega)
 unfold spec_l1Cur_among
 have e:spec_l1Cur_pick ks ((),c.2) (l.length:Int)=some (r,c'):=e
 rw [e,Option.bind_some,decide_eq_true hr0,decide_eq_true hr]
 refine⟨_,_,rfl,hc,?_⟩
 have hlt:r.toNat<l.length:=by omega
 rw [List.getD_eq_getElem?_getD,List.getElem?_eq_getElem hlt]
 exact List.getElem_mem hlt

def Drw{α:Type}(P:α→Prop)(j:Nat)(f:Nat→Cu→Option (α×Cu)):Prop:=∀(c:Cu) (m:Nat),CurOk c m→m+j≤1000000000→∃v c',Evt (fun k _=>f k c) (v,c')∧CurOk c' (m+j)∧P v
theorem Drw.step{α β:Type}{P:α→Prop}{Q:β→Prop}{j i:Nat}{f:Nat→Cu→Option (α×Cu)}{g:Nat→Cu→α×Cu→Option (β×Cu)}(hf:Drw P j f)(hg:∀v,P v→Drw Q i fun k c=>g k c (v,c))(hgc:∀k c d v,g k c (v,d)=g k d (v,d)):Drw Q (j+i) fun k c=>Option.bind (f k c) fun r=>g k c r:=by
 intro c m h hm
 obtain⟨v,c',e,hc,hp⟩:=hf c m h (by omega)
 obtain⟨w,c2,e2,hc2,hq⟩:=hg v hp c' (m+j) hc (by omega)
 refine⟨w,c2,Evt.bind e ?_,hc2.mono (by omega) (by omega),hq⟩
 exact Evt.eq e2 (fun k n=>hgc k c c' v)
end Go.Ev.G

namespace Go.Ev.G
open Go Go.Ev
set_option maxRecDepth 100000

def Ok{α:Type}(f:Nat→Nat→Option α)(P:α→Prop):Prop:=∃v,Evt f v∧P v
section
variable {α β R A : Type}
theorem Ok.pure{v:α}{P:α→Prop}(h:P v):Ok (fun _ _=>some v) P:=⟨v,.pure,h⟩
theorem Ok.const{o:Option α}{v:α}{P:α→Prop}(e:o=some v)(h:P v):Ok (fun _ _=>o) P:=⟨v,.const e,h⟩
theorem Ok.of{f:Nat→Nat→Option α}{v:α}{P:α→Prop}(e:Evt f v)(h:P v):Ok f P:=⟨v,e,h⟩
theorem Ok.mono{f:Nat→Nat→Option α}{P Q:α→Prop}(h:Ok f P)(hq:∀v,P v→Q v):Ok f Q:=by
 obtain⟨v,e,h⟩:=h
 exact⟨v,e,hq v h⟩
theorem Ok.bind{f:Nat→Nat→Option α}{g:Nat→Nat→α→Option β}{P:α→Prop}{Q:β→Prop}(h:Ok f P)(h':∀v,P v→Ok (fun k n=>g k n v) Q):Ok (fun k n=>Option.bind (f k n) fun x=>g k n x) Q:=by
 obtain⟨v,e,h⟩:=h
 obtain⟨u,e2,h2⟩:=h' v h
 exact⟨u,Evt.bind e e2,h2⟩
theorem Ok.bth{f:Nat→Nat→Option (R ⊕ α)}{G:Nat→Nat→R→Option A}{K:Nat→Nat→α→Option A}{P:α→Prop}{Q:A→Prop}(h:Ok f (fun s=>∃y,s = .inr y∧P y))(h':∀y,P y→Ok (fun k n=>K k n y) Q):Ok (fun k n=>both (f k n) (G k n) (K k n)) Q:=by
 obtain⟨_,e,y,rfl,h⟩:=h
 obtain⟨u,e2,h2⟩:=h' y h
 exact⟨u,Evt.inr e e2,h2⟩
theorem Ok.bothl{f:Nat→Nat→Option (R ⊕ α)}{G:Nat→Nat→R→Option A}{K:Nat→Nat→α→Option A}{S:R ⊕ α→Prop}{Q:A→Prop}(h:Ok f S)(hl:∀q,S (.inl q)→Ok (fun k n=>G k n q) Q)(hr:∀y,S (.inr y)→Ok (fun k n=>K k n y) Q):Ok (fun k n=>both (f k n) (G k n) (K k n)) Q:=by
 obtain⟨s,e,h⟩:=h
 cases s with
 | inl q =>
  obtain⟨u,e2,h2⟩:=hl q h
  exact⟨u,Evt.inl e e2,h2⟩
 | inr y =>
  obtain⟨u,e2,h2⟩:=hr y h
  exact⟨u,Evt.inr e e2,h2⟩
theorem Ok.ct{c:Bool}{f g:Nat→Nat→Option α}{P:α→Prop}(hc:c=true)(h:Ok f P):Ok (fun k n=>bif c then f k n else g k n) P:=by subst hc;exact h
theorem Ok.cf{c:Bool}{f g:Nat→Nat→Option α}{P:α→Prop}(hc:c=false)(h:Ok g P):Ok (fun k n=>bif c then f k n else g k n) P:=by subst hc;exact h
theorem Ok.ite{c:Bool}{f g:Nat→Nat→Option α}{P:α→Prop}(h:c=true→Ok f P)(h':c=false→Ok g P):Ok (fun k n=>bif c then f k n else g k n) P:=by
 cases c with
 | true=>exact h rfl
 | false=>exact h' rfl
theorem Ok.diag{f:Nat→Nat→Option α}{P:α→Prop}(h:Ok f P):Ok (fun k _=>f k k) P:=by
 obtain⟨v,e,h⟩:=h
 exact⟨v,Evt.diag e,h⟩
theorem Ok.step{L F:Nat→Nat→Option α}{P:α→Prop}(hL:∀k n,L k (n+1)=F k n)(h:Ok F P):Ok L P:=by
 obtain⟨v,e,h⟩:=h
 exact⟨v,Evt.step hL e,h⟩
theorem Ok.eq{f g:Nat→Nat→Option α}{P:α→Prop}(e:∀k n,g k n=f k n)(h:Ok f P):Ok g P:=by
 obtain⟨v,e2,h⟩:=h
 exact⟨v,Evt.eq e2 e,h⟩
theorem Ok.lt{a b:Int}{f g:Nat→Nat→Option α}{P:α→Prop}(hc:a<b)(h:Ok f P):Ok (fun k n=>bif decide (a<b)then f k n else g k n) P:=Ok.ct (decide_eq_true hc) h
theorem Ok.le{a b:Int}{f g:Nat→Nat→Option α}{P:α→Prop}(hc:a≤b)(h:Ok f P):Ok (fun k n=>bif decide (a≤b)then f k n else g k n) P:=Ok.ct (decide_eq_true hc) h
theorem Ok.ltN{a b:Nat}{f g:Nat→Nat→Option α}{P:α→Prop}(hc:a<b)(h:Ok f P):Ok (fun k n=>bif decide (a<b)then f k n else g k n) P:=Ok.ct (decide_eq_true hc) h
end

section
variable {ks : List Int}
theorem pickK(hk:bytesOk ks){c:Cu}{m:Nat}(h:CurOk c m)(hm:m+2≤1000000000){n:Int}(hn:n≤1000000):Ok (fun _ _=>spec_l1Cur_pick ks c n) (fun r=>CurOk r.2 (m+2)∧0≤r.1∧(1≤n→r.1<n)):=by
 obtain⟨r,c',e,h1,h2⟩:=pick_ok hk h hm hn
 exact .const e ⟨h1,h2⟩
theorem amongK(hk:bytesOk ks){c:Cu}{m:Nat}(h:CurOk c m)(hm:m+2≤1000000000){l:List Int}(h0:l ≠ [])(hl:l.length≤1000):Ok (fun _ _=>spec_l1Cur_among ks c l) (fun r=>CurOk r.2 (m+2)∧r.1∈l):=by
 obtain⟨r,c',e,h1,h2⟩:=among_ok hk h hm h0 hl
 exact .const e ⟨h1,h2⟩
theorem oneK(hk:bytesOk ks){c:Cu}{m:Nat}(h:CurOk c m)(hm:m+2≤1000000000){n:Int}(hn:n≤1000000):Ok (fun _ _=>spec_l1Cur_one ks c n) (fun r=>CurOk r.2 (m+2)):=by
 obtain⟨r,c',e,h1⟩:=one_ok hk h hm hn
 exact .const e h1
end
end Go.Ev.G

namespace Go.Ev.G
open Go Go.Ev
set_option maxRecDepth 100000

theorem poOrderK(a b:Tm):∃r,spec_poOrder a b=some r:=by
 have hs:∀x:Int,∃r,spec_l1Sign x=some r:=by
  intro x
  unfold spec_l1Sign
  cases decide (x>0)
  ·cases decide (x<0) <;> exact⟨_,rfl⟩
  ·exact⟨_,rfl⟩
 unfold spec_poOrder
 obtain⟨r1,e1⟩:=hs (IntKind.wrap .i64 (a.2.1 - b.2.1))
 obtain⟨r2,e2⟩:=hs (IntKind.wrap .i64 (a.2.2.1 - b.2.2.1))
 obtain⟨r3,e3⟩:=hs (IntKind.wrap .i64 (a.2.2.2 - b.2.2.2))
 rw [e1,e2,e3]
 cases (a.2.1 != b.2.1)
 ·cases (a.2.2.1 != b.2.2.1) <;> exact⟨_,rfl⟩
 ·exact⟨_,rfl⟩
theorem poOrderO(a b:Tm):Ok (fun _ _=>spec_poOrder a b) (fun _=>True):=by
 obtain⟨r,e⟩:=poOrderK a b
 exact .const e trivial
theorem poPutL{R:List Tm}{t:Tm}(hR:R.length≤1000000):∀(j i:Nat),i+j=R.length→Ok (fun k n=>spec_poPut_L28 k n R t i) (fun s=>∃y,s = .inr y∧∃p:Nat,y=(R,t,(p:Int),())∧p≤R.length)
 | 0,i,h=>Ok.step (fun k n=>spec_poPut_L28.eq_2 k _ _ _ n) (Ok.cf (decide_eq_false (by omega)) (.pure ⟨_,rfl,i,rfl,by omega⟩))
 | j+1,i,h=>by
  refine Ok.step (fun k n=>spec_poPut_L28.eq_2 k _ _ _ n) (Ok.lt (by omega) (Ok.le (by omega) (Ok.lt (by omega) (Ok.bind (poOrderO _ _) fun r _=>Ok.ite (fun _ => ?_) (fun _ => .pure ⟨_,rfl,i,rfl,by omega⟩)))))
  rw [w64_next (by simp only [lenB];omega)]
  exact poPutL hR j (i+1) (by omega)
theorem poPutO{R:List Tm}{t:Tm}(hR:R.length≤1000000):Ok (fun k _=>spec_poPut k R t) (fun R'=>R'.length≤R.length+1):=by
 refine Ok.eq (fun k q=>by rw [spec_poPut]) ?_
 refine Ok.bth (Ok.diag (poPutL hR R.length 0 (by omega))) fun y hy => ?_
 obtain⟨p,rfl,hp⟩:=hy
 refine Ok.le (by simp only;omega) (Ok.le (by simp only;omega) ?_)
 refine Ok.bth (P:=fun y=>y.1=R∧y.2.2.1=(p:Int)∧y.2.2.2.1.length+p≤R.length) ?_ fun y hy => ?_
 ·refine Ok.ite (fun hc => ?_) (fun _ => .pure ⟨_,rfl,rfl,rfl,by simp;omega⟩)
  have hc:=of_decide_eq_true hc
  simp only at hc
  refine Ok.le (by simp only;omega) (Ok.lt hc (Ok.bind (poOrderO _ _) fun r _=>Ok.ite (fun _ => ?_) (fun _ => .pure ⟨_,rfl,rfl,rfl,by simp;omega⟩)))
  simp only [w64_next (show p<lenB by simp only [lenB];omega)]
  exact Ok.le (by omega) (Ok.lt hc (Ok.le (by omega) (Ok.le (by omega) (.pure ⟨_,rfl,rfl,rfl,by simp;omega⟩))))
 ·obtain⟨h1,h2,h3⟩:=hy
  simp only [h1,h2,Int.toNat_natCast]
  have hl:(([]:List Tm)++List.drop 0 (List.take p R)).length=p:=by simp;omega
  refine Ok.le (by omega) (Ok.le (by omega) (Ok.ltN (by simp;omega) ?_))
  refine Ok.bth (P:=fun z=>z.1=y.2.2.2.1∧z.2.1.length≤p+1) ?_ fun z hz => ?_
  ·refine Ok.ite (fun _=>Ok.ltN (by rw [hl];simp;omega) (.pure ⟨_,rfl,rfl,?_⟩)) (fun _ => .pure ⟨_,rfl,rfl,?_⟩)
   ·rw [List.length_append,hl];simp
   ·rw [hl];omega
  ·obtain⟨h4,h5⟩:=hz
   rw [h4]
   exact Ok.ltN (by omega) (.pure (by rw [List.length_append];omega))
theorem poSumL{ts:List Tm}(ht:ts.length≤100000):∀(j i:Nat) (R:List Tm),i+j=ts.length→R.length≤i→Ok (fun k n=>spec_poSum_L58 k n R ts (ts.length:Int) i) (fun s=>∃y,s = .inr y∧y.1.length≤ts.length)
 | 0,i,R,h,hR=>Ok.step (fun k n=>spec_poSum_L58.eq_2 k _ _ _ _ n) (Ok.cf (decide_eq_false (by omega)) (.pure ⟨_,rfl,by simp only;omega⟩))
 | j+1,i,R,h,hR=>by
  refine Ok.step (fun k n=>spec_poSum_L58.eq_2 k _ _ _ _ n) (Ok.lt (by omega) (Ok.le (by omega) (Ok.lt (by omega) (Ok.bind (poPutO (by omega)) fun R' hR' => ?_))))
  rw [w64_next (by simp only [lenB];omega)]
  exact poSumL ht j (i+1) R' (by omega) (by omega)
theorem poSumO{ts:List Tm}(ht:ts.length≤100000):Ok (fun k _=>spec_poSum k ts) (fun r=>r.1.length≤ts.length):=by
 refine Ok.eq (fun k q=>by rw [spec_poSum]) ?_
 refine Ok.bth (Ok.diag (poSumL ht ts.length 0 [] (by omega) (by simp))) fun y hy => ?_
 refine Ok.bind (Ok.of (poGood_ev (by simp only [lenB];omega)) trivial (P:=fun _=>True)) fun r _=>Ok.ite (fun _ => .pure (by simp)) (fun _ => .pure hy)
theorem poAddO{p q:List Tm}(hp:p.length≤50000)(hq:q.length≤50000):Ok (fun k _=>spec_poAdd k p q) (fun r=>r.1.length≤p.length+q.length):=by
 refine Ok.eq (fun k q=>by rw [spec_poAdd]) ?_
 refine Ok.ltN (by simp;omega) (Ok.ltN (by simp;omega) (Ok.bind (poSumO (by simp;omega)) fun r hr => .pure ?_))
 simpa using hr
theorem poWithO(t:Tm)(i e:Int):Ok (fun _ _=>spec_poWith t i e) (fun _=>True):=by
 unfold spec_poWith
 exact Ok.ite (fun _ => .pure trivial) (fun _=>Ok.ite (fun _ => .pure trivial) (fun _ => .pure trivial))

section
variable {ks : List Int}
theorem termL(hk:bytesOk ks){n:Nat}(hn:n≤4){x4:Tm}:∀(j i:Nat) (c:Cu) (m:Nat) (t:Tm) (l:Int),i+j=n→CurOk c m→m+4*j≤1000000000→0≤l→l≤4 →
  Ok (fun k q=>spec_l1Cur_term_L122 k ks q c n x4 t l i) (fun s=>∃y,s = .inr y∧CurOk y.1 (m+4*j))
 | 0,i,c,m,t,l,h,hc,hm,l0,l4=>Ok.step (fun k q=>spec_l1Cur_term_L122.eq_2 k ks _ _ _ _ _ _ q) (Ok.cf (decide_eq_false (by omega)) (.pure ⟨_,rfl,hc.mono (by omega) (by omega)⟩))
 | j+1,i,c,m,t,l,h,hc,hm,l0,l4=>by
  refine Ok.step (fun k q=>spec_l1Cur_term_L122.eq_2 k ks _ _ _ _ _ _ q) (Ok.lt (by omega) ?_)
  rw [w64 (n:=l+1) (by omega) (by omega)]
  refine Ok.bind (pickK hk hc (by omega) (by omega)) fun r3 h3 => ?_
  have b3:=h3.2.2 (by omega)
  have a3:=h3.2.1
  refine Ok.bind (amongK hk h3.1 (by omega) (by simp) (by simp)) fun r4 h4 => ?_
  have m4:=h4.2
  simp only [List.mem_cons,List.not_mem_nil,or_false]at m4
  refine Ok.bth (P:=fun y=>CurOk y.1 (m+4)∧y.2.1=(n:Int)∧y.2.2.1=x4∧y.2.2.2.2.1=l∧y.2.2.2.2.2.1=(i:Int)∧0≤y.2.2.2.2.2.2.1∧y.2.2.2.2.2.2.1≤l) ?_ fun y hy => ?_
  ·refine Ok.ite (fun _ => .pure ⟨_,rfl,h4.1.mono (by omega) (by omega),rfl,rfl,rfl,rfl,l0,Int.le_refl _⟩) (fun hq => .pure ⟨_,rfl,h4.1.mono (by omega) (by omega),rfl,rfl,rfl,rfl,by simp only;omega,?_⟩)
   have:=of_decide_eq_false hq
   simp only;omega
  ·obtain⟨y1,y2,y3,y4,y5,y6,y7⟩:=hy
   refine Ok.bind (poWithO _ _ _) fun r6 _ => ?_
   rw [y2,y3,y4,y5,w64_next (m:=i) (by simp only [lenB];omega),w64 (n:=l - y.2.2.2.2.2.2.1) (by omega) (by omega)]
   have:=termL hk hn (x4:=x4) j (i+1) y.1 (m+4) r6 (l - y.2.2.2.2.2.2.1) (by omega) y1 (by omega) (by omega) (by omega)
   exact this.mono fun s hs=>by obtain⟨z,e,hz⟩:=hs;exact⟨z,e,hz.mono (by omega) (by omega)⟩
theorem termO(hk:bytesOk ks){c:Cu}{m:Nat}(h:CurOk c m)(hm:m+24≤1000000000){n:Nat}(hn:n≤4):Ok (fun k _=>spec_l1Cur_term k ks c n) (fun r=>CurOk r.2 (m+24)):=by
 refine Ok.eq (fun k q=>by rw [spec_l1Cur_term]) ?_
 refine Ok.bind (pickK hk h (by omega) (by omega)) fun r1 h1=>Ok.bind (amongK hk h1.1 (by omega) (by simp) (by simp)) fun r2 h2 => ?_
 refine Ok.bth (Ok.diag (termL hk hn n 0 r2.2 (m+4) _ 4 (by omega) (h2.1.mono (by omega) (by omega)) (by omega) (by omega) (by omega))) fun y hy => ?_
 refine Ok.bind (oneK hk (hy.mono (m':=m+20) (by omega) (by omega)) (by omega) (by omega)) fun r h11=>Ok.ite (fun _ => ?_) (fun _ => .pure (h11.mono (by omega) (by omega)))
 exact Ok.bind (amongK hk h11 (by omega) (by simp) (by simp)) fun r12 h12 => .pure (h12.1.mono (by omega) (by omega))
theorem polyL(hk:bytesOk ks){n:Nat}(hn:n≤4){M:Nat}(hM:M≤100):∀(j i:Nat) (c:Cu) (m:Nat) (p:List Tm),i+j=M→CurOk c m→m+24*j≤1000000000→p.length≤i →
  Ok (fun k q=>spec_l1Cur_poly_L250 k ks q c n p M i) (fun s=>∃y,s = .inr y∧CurOk y.1 (m+24*j)∧y.2.1.length≤M)
 | 0,i,c,m,p,h,hc,hm,hp=>Ok.step (fun k q=>spec_l1Cur_poly_L250.eq_2 k ks _ _ _ _ _ q) (Ok.cf (decide_eq_false (by omega)) (.pure ⟨_,rfl,hc.mono (by omega) (by omega),by simp only;omega⟩))
 | j+1,i,c,m,p,h,hc,hm,hp=>by
  refine Ok.step (fun k q=>spec_l1Cur_poly_L250.eq_2 k ks _ _ _ _ _ q) (Ok.lt (by omega) (Ok.bind (termO hk hc (by omega) hn) fun r4 h4=>Ok.bind (poAddO (by omega) (by simp)) fun r5 h5 => ?_))
  rw [w64_next (m:=i) (by simp only [lenB];omega)]
  have fin:∀p':List Tm,p'.length≤i+1→Ok (fun k q=>spec_l1Cur_poly_L250 k ks q r4.2 n p' M ((i+1:Nat):Int)) (fun s=>∃y,s = .inr y∧CurOk y.1 (m+24*(j+1))∧y.2.1.length≤M):=by
   intro p' hp'
   have:=polyL hk hn hM j (i+1) r4.2 (m+24) p' (by omega) h4 (by omega) hp'
   exact this.mono fun s hs=>by obtain⟨z,e,hz⟩:=hs;exact⟨z,e,hz.1.mono (by omega) (by omega),hz.2⟩
  exact Ok.ite (fun _=>fin r5.1 (by simp at h5;omega)) (fun _=>fin p (by omega))
theorem polyO(hk:bytesOk ks){c:Cu}{m:Nat}(h:CurOk c m)(hm:m+600≤1000000000){n:Nat}(hn:n≤4):Ok (fun k _=>spec_l1Cur_poly k ks c n) (fun r=>CurOk r.2 (m+600)∧r.1.length≤24):=by
 refine Ok.eq (fun k q=>by rw [spec_l1Cur_poly]) ?_
 refine Ok.bind (pickK hk h (by omega) (by omega)) fun r1 h1 => ?_
 have b1:=h1.2.2 (by omega)
 have a1:=h1.2.1
 refine Ok.bth (P:=fun y=>CurOk y.1 (m+4)∧y.2.1=(n:Int)∧y.2.2.1 = []∧∃M:Nat,y.2.2.2.1=(M:Int)∧M≤24) ?_ fun y hy => ?_
 ·refine Ok.bind (oneK hk h1.1 (by omega) (by omega)) fun r2 h2=>Ok.ite (fun _ => .pure ⟨_,rfl,h2,rfl,rfl,24,rfl,by omega⟩) (fun _ => .pure ⟨_,rfl,h2,rfl,rfl,(1+r1.1).toNat,?_,by omega⟩)
  rw [w64 (by omega) (by omega)]
  simp only;omega
 ·obtain⟨y1,y2,y3,M,y4,hM⟩:=hy
  rw [y2,y3,y4]
  refine Ok.bth (Ok.diag (polyL hk hn (M:=M) (by omega) M 0 y.1 (m+4) [] (by omega) y1 (by omega) (by simp))) fun z hz => ?_
  refine Ok.bind (oneK hk (hz.1.mono (m':=m+590) (by omega) (by omega)) (by omega) (by omega)) fun r9 h9=>Ok.ite (fun _ => .pure ⟨h9.mono (by omega) (by omega),by simp⟩) (fun _ => .pure ⟨h9.mono (by omega) (by omega),by have:=hz.2;simp only;omega⟩)
theorem systemL(hk:bytesOk ks){n:Nat}(hn:n≤4):∀(j:Nat) (s:List (List Tm)) (c:Cu) (m:Nat),s.length+j=n→(∀r∈s,r.length≤24)→CurOk c m→m+600*j≤1000000000 →
  Ok (fun k q=>spec_l1Cur_system_L28 k ks q c n s) (fun z=>∃y,z = .inr y∧CurOk y.2.1 (m+600*j)∧y.1.length=n∧∀r∈y.1,r.length≤24)
 | 0,s,c,m,h,hs,hc,hm=>Ok.step (fun k q=>spec_l1Cur_system_L28.eq_2 k ks _ _ _ q) (Ok.cf (decide_eq_false (by omega)) (.pure ⟨_,rfl,hc.mono (by omega) (by omega),by simp only;omega,hs⟩))
 | j+1,s,c,m,h,hs,hc,hm=>by
  refine Ok.step (fun k q=>spec_l1Cur_system_L28.eq_2 k ks _ _ _ q) (Ok.lt (by omega) (Ok.bind (polyO hk hc (by omega) hn) fun r1 h1=>Ok.ltN (by simp;omega) ?_))
  have:=systemL hk hn j (s ++ [r1.1]) r1.2 (m+600) (by simp;omega) (by
   intro r hr
   rcases List.mem_append.1 hr with hr | hr
   ·exact hs r hr
   ·simp at hr;rw [hr];exact h1.2) h1.1 (by omega)
  exact this.mono fun s hs=>by obtain⟨z,e,hz⟩:=hs;exact⟨z,e,hz.1.mono (by omega) (by omega),hz.2⟩
theorem systemO(hk:bytesOk ks){c:Cu}{m:Nat}(h:CurOk c m)(hm:m+2400≤1000000000){n:Nat}(hn:n≤4):Ok (fun k _=>spec_l1Cur_system k ks c n) (fun r=>CurOk r.2 (m+2400)∧r.1.length=n∧∀x∈r.1,x.length≤24):=by
 refine Ok.eq (fun k q=>by rw [spec_l1Cur_system]) ?_
 exact Ok.bth (Ok.diag (systemL hk hn n [] c m (by simp) (by simp) h (by omega))) fun y hy => .pure ⟨hy.1.mono (by omega) (by omega),hy.2⟩
end
end Go.Ev.G

namespace Go.Ev.G
open Go Go.Ev
set_option maxRecDepth 100000

theorem dyPowO{m:Int}(h0:0≤m)(h:m≤20):Ok (fun _ _=>spec_dyPower m) (fun r=>r=((2 ^ m.toNat:Nat):Int)∧1≤r∧r≤1048576):=by
 have e:=dyPower_eq (m:=m.toNat) (by omega)
 rw [show((m.toNat:Nat):Int)=m by omega]at e
 have h1:2 ^ m.toNat≤2 ^ 20:=Nat.pow_le_pow_right (by omega) (by omega)
 have h2:0<2 ^ m.toNat:=Nat.two_pow_pos _
 exact .const e ⟨rfl,by omega,by omega⟩
theorem dyPowS{m:Int}(h0:0≤m)(h:m≤8):Ok (fun _ _=>spec_dyPower m) (fun r=>r=((2 ^ m.toNat:Nat):Int)∧1≤r∧r≤256):=by
 obtain⟨r,e,hr,h1,_⟩:=dyPowO h0 (by omega)
 have h3:2 ^ m.toNat≤2 ^ 8:=Nat.pow_le_pow_right (by omega) (by omega)
 exact⟨r,e,hr,h1,by omega⟩
theorem leastO(a b:Int):Ok (fun _ _=>spec_l1Least a b) (fun r=>r=min a b):=by
 unfold spec_l1Least
 refine Ok.ite (fun h => .pure ?_) (fun h => .pure ?_)
 ·have:=of_decide_eq_true h;omega
 ·have:=of_decide_eq_false h;omega
theorem mostO(a b:Int):Ok (fun _ _=>spec_l1Most a b) (fun r=>r=max a b):=by
 unfold spec_l1Most
 refine Ok.ite (fun h => .pure ?_) (fun h => .pure ?_)
 ·have:=of_decide_eq_true h;omega
 ·have:=of_decide_eq_false h;omega
theorem ownO{l:List Int}(h:l.length≤1000):Ok (fun _ _=>spec_l1Own l) (fun r=>r=l):=by
 unfold spec_l1Own
 exact Ok.ltN (by simp;omega) (.pure (by simp))
abbrev Bx3:=Int×List Int×List Int
def bxN(n:Nat)(b:Bx3):Prop:=b.2.1.length=n∧b.2.2.length=n
theorem bxEvenL{b:Bx3}{n:Nat}(hb:bxN n b)(hn:n≤100):∀(j i:Nat),i+j=n→Ok (fun k q=>spec_bxEven_L26 k q b b.2.1 (b.2.1.length:Int) i) (fun _=>True)
 | 0,i,h=>Ok.step (fun k q=>spec_bxEven_L26.eq_2 k _ _ _ _ q) (Ok.cf (decide_eq_false (by rw [hb.1];omega)) (.pure trivial))
 | j+1,i,h=>by
  refine Ok.step (fun k q=>spec_bxEven_L26.eq_2 k _ _ _ _ q) (Ok.lt (by rw [hb.1];omega) (Ok.le (by omega) (Ok.lt (by rw [hb.1];omega) (Ok.ite (fun _ => .pure trivial) (fun _=>Ok.le (by omega) (Ok.lt (by rw [hb.2];omega) (Ok.ite (fun _ => .pure trivial) (fun _ => ?_))))))))
  rw [w64_next (m:=i) (by simp only [lenB];omega)]
  exact bxEvenL hb hn j (i+1) (by omega)
theorem bxEvenO{b:Bx3}{n:Nat}(hb:bxN n b)(hn:n≤100):Ok (fun k _=>spec_bxEven k b) (fun _=>True):=by
 refine Ok.eq (fun k q=>by rw [spec_bxEven]) ?_
 exact Ok.bothl (Ok.diag (bxEvenL hb hn n 0 (by omega))) (fun q _ => .pure trivial) (fun y _ => .pure trivial)
theorem halveL{z:Bx3}{n:Nat}(hn:n≤100):∀(j i:Nat) (b:Bx3),i+j=n→bxN n b→Ok (fun k q=>spec_bxMake_L1814 k q z b (n:Int) i) (fun s=>∃y,s = .inr y∧bxN n y.2.1∧y.2.1.1=b.1∧y.1=z)
 | 0,i,b,h,hb=>Ok.step (fun k q=>spec_bxMake_L1814.eq_2 k _ _ _ _ q) (Ok.cf (decide_eq_false (by omega)) (.pure ⟨_,rfl,hb,rfl,rfl⟩))
 | j+1,i,b,h,hb=>by
  have h1:(i:Int)<(b.2.1.length:Int):=by rw [hb.1];omega
  have h2:(i:Int)<(b.2.2.length:Int):=by rw [hb.2];omega
  refine Ok.step (fun k q=>spec_bxMake_L1814.eq_2 k _ _ _ _ q) (Ok.lt (by omega) (Ok.le (by omega) (Ok.lt h1 (Ok.le (by omega) (Ok.lt h1 (Ok.le (by omega) (Ok.lt h2 (Ok.le (by omega) (Ok.lt h2 ?_)))))))))
  rw [w64_next (m:=i) (by simp only [lenB];omega)]
  have:=halveL (z:=z) hn j (i+1) (b.1,(b.2.1.set (Int.toNat i) (IntKind.wrap .i64 (Int.tdiv (b.2.1.getD (Int.toNat i) 0) 2))),(b.2.2.set (Int.toNat i) (IntKind.wrap .i64 (Int.tdiv (b.2.2.getD (Int.toNat i) 0) 2)))) (by omega) ⟨by simpa using hb.1,by simpa using hb.2⟩
  exact this
theorem makeL{z:Bx3}{n:Nat}(hn:n≤100):∀(j:Nat) (b:Bx3),b.1≤j→j≤1000→bxN n b→Ok (fun k q=>spec_bxMake_L28 k q z b) (fun s=>∃y,s = .inr y∧bxN n y.2.1)
 | 0,b,h,hj,hb=>Ok.step (fun k q=>spec_bxMake_L28.eq_2 k _ _ q) (Ok.cf (decide_eq_false (by omega)) (.pure ⟨_,rfl,hb⟩))
 | j+1,b,h,hj,hb=>by
  refine Ok.step (fun k q=>spec_bxMake_L28.eq_2 k _ _ q) (Ok.ite (fun hp => ?_) (fun _ => .pure ⟨_,rfl,hb⟩))
  have hp:=of_decide_eq_true hp
  refine Ok.bind (bxEvenO hb hn) fun r _=>Ok.ite (fun _ => ?_) (fun _ => .pure ⟨_,rfl,hb⟩)
  have hl:=halveL (z:=z) hn n 0 (IntKind.wrap .i64 (b.1 - 1),b.2) (by omega) hb
  rw [hb.1]
  refine Ok.bth (Ok.diag hl) fun y hy => ?_
  obtain⟨y1,y2,y3⟩:=hy
  rw [y3]
  refine makeL hn j y.2.1 ?_ (by omega) y1
  rw [y2]
  simp only
  rw [w64 (by omega) (by omega)]
  omega
theorem bxMakeO{K:Int}{lo hi:List Int}{n:Nat}(hK:K≤1000)(hn:n≤100)(h1:lo.length=n)(h2:hi.length=n):Ok (fun k _=>spec_bxMake k K lo hi) (fun r=>r.2=true→bxN n r.1):=by
 refine Ok.eq (fun k q=>by rw [spec_bxMake]) ?_
 refine Ok.bind (ownO (by omega)) fun r1 e1=>Ok.bind (ownO (by omega)) fun r2 e2 => ?_
 rw [e1,e2]
 refine Ok.bth (Ok.diag (makeL hn 1000 (K,lo,hi) hK (by omega) ⟨h1,h2⟩)) fun y hy => ?_
 refine Ok.bind (Ok.of (bxGood_ev (by rw [hy.1];simp only [lenB];omega)) trivial (P:=fun _=>True)) fun r _=>Ok.ite (fun _ => .pure (by simp)) (fun _ => .pure (fun _=>hy))

section
variable {ks : List Int}
theorem boxL(hk:bytesOk ks){n:Nat}(hn:n≤4){z:Bx3}{K:Int}(hK:0≤K∧K≤8){M:Int}(hM:8≤M∧M≤2048):∀(j:Nat) (lo hi:List Int) (c:Cu) (m:Nat),lo.length+j=n→hi.length=lo.length→CurOk c m→m+12*j≤1000000000 →
  Ok (fun k q=>spec_l1Cur_box_L124 k ks q c n z K M lo hi) (fun s=>∃y,s = .inr y∧y.1=(n:Int)∧y.2.2.1=K∧y.2.2.2.1.length=n∧y.2.2.2.2.1.length=n∧CurOk y.2.2.2.2.2.1 (m+12*j))
 | 0,lo,hi,c,m,h,h2,hc,hm=>Ok.step (fun k q=>spec_l1Cur_box_L124.eq_2 k ks _ _ _ _ _ _ _ q) (Ok.cf (decide_eq_false (by omega)) (.pure ⟨_,rfl,rfl,rfl,by simp only;omega,by simp only;omega,hc.mono (by omega) (by omega)⟩))
 | j+1,lo,hi,c,m,h,h2,hc,hm=>by
  refine Ok.step (fun k q=>spec_l1Cur_box_L124.eq_2 k ks _ _ _ _ _ _ _ q) (Ok.lt (by omega) ?_)
  have w2:IntKind.wrap .i64 (2*M)=2*M:=w64 (by omega) (by omega)
  rw [w2]
  refine Ok.bind (dyPowS hK.1 hK.2) fun r3 h3=>Ok.bind (pickK hk hc (by omega) (by omega)) fun r4 h4=>Ok.bind (pickK hk h4.1 (by omega) (by omega)) fun r5 h5=>Ok.bind (amongK hk h5.1 (by omega) (by simp) (by simp)) fun r6 h6 => ?_
  refine Ok.bind (dyPowS hK.1 hK.2) fun r7 h7=>Ok.bind (dyPowS hK.1 hK.2) fun r8 h8=>Ok.bind (pickK hk h6.1 (by omega) (by omega)) fun r9 h9=>Ok.bind (pickK hk h9.1 (by omega) (by omega)) fun r10 h10=>Ok.bind (amongK hk h10.1 (by omega) (by simp) (by simp)) fun r11 h11 => ?_
  refine Ok.bind (leastO _ _) fun r12 _=>Ok.bind (mostO _ _) fun r13 _=>Ok.ltN (by simp;omega) (Ok.bind (leastO _ _) fun r14 _=>Ok.bind (mostO _ _) fun r15 _=>Ok.ltN (by simp;omega) ?_)
  have:=boxL hk hn (z:=z) hK hM j (lo ++ [r13]) (hi ++ [r15]) r11.2 (m+12) (by simp;omega) (by simp;omega) (h11.1.mono (by omega) (by omega)) (by omega)
  exact this.mono fun s hs=>by obtain⟨y,e,y1,y2,y3,y4,y5⟩:=hs;exact⟨y,e,y1,y2,y3,y4,y5.mono (by omega) (by omega)⟩
theorem unitL{n:Nat}(hn:n≤4){z:Bx3}{c:Cu}{m:Nat}(hc:CurOk c m):∀(j:Nat) (lo hi:List Int),lo.length+j=n→hi.length=lo.length →
  Ok (fun k q=>spec_l1Cur_box_L8148 k ks q n z lo hi c) (fun s=>∃y,s = .inr y∧y.2.1.length=n∧y.2.2.1.length=n∧CurOk y.2.2.2.1 m)
 | 0,lo,hi,h,h2=>Ok.step (fun k q=>spec_l1Cur_box_L8148.eq_2 k ks _ _ _ _ _ q) (Ok.cf (decide_eq_false (by omega)) (.pure ⟨_,rfl,by simp only;omega,by simp only;omega,hc⟩))
 | j+1,lo,hi,h,h2=>by
  refine Ok.step (fun k q=>spec_l1Cur_box_L8148.eq_2 k ks _ _ _ _ _ q) (Ok.lt (by omega) (Ok.ltN (by simp;omega) (Ok.ltN (by simp;omega) ?_)))
  exact unitL hn hc j (lo ++ [0]) (hi ++ [1]) (by simp;omega) (by simp;omega)
theorem boxO(hk:bytesOk ks){c:Cu}{m:Nat}(h:CurOk c m)(hm:m+60≤1000000000){n:Nat}(hn:n≤4):Ok (fun k _=>spec_l1Cur_box k ks c n) (fun r=>CurOk r.2 (m+60)∧bxN n r.1):=by
 refine Ok.eq (fun k q=>by rw [spec_l1Cur_box]) ?_
 refine Ok.bind (amongK hk h (by omega) (by simp) (by simp)) fun r1 h1 => ?_
 have m1:=h1.2
 simp only [List.mem_cons,List.not_mem_nil,or_false]at m1
 have hK:0≤r1.1∧r1.1≤8:=by omega
 refine Ok.bind (dyPowS hK.1 hK.2) fun r2 h2 => ?_
 have w:IntKind.wrap .i64 (8*r2)=8*r2:=w64 (by omega) (by omega)
 rw [w]
 refine Ok.bth (Ok.diag (boxL hk hn hK (by omega) n [] [] r1.2 (m+2) (by simp) rfl h1.1 (by omega))) fun y hy => ?_
 obtain⟨y1,y2,y3,y4,y5⟩:=hy
 rw [y1,y2]
 refine Ok.bind (bxMakeO (n:=n) (by omega) (by omega) y3 y4) fun r19 h19=>Ok.ite (fun hr => ?_) (fun hr => .pure ⟨y5.mono (by omega) (by omega),h19 (by simpa using hr)⟩)
 refine Ok.bth (Ok.diag (unitL hn y5 n [] [] (by simp) rfl)) fun z hz => .pure ⟨hz.2.2.mono (by omega) (by omega),hz.1,hz.2.1⟩
def bxS(b:Bx3):Prop:=b.2.1.length≤4∧b.2.2.length≤4
theorem bxN.s{n:Nat}{b:Bx3}(hn:n≤4)(h:bxN n b):bxS b:=⟨by rw [h.1];omega,by rw [h.2];omega⟩
theorem anyBoxO(hk:bytesOk ks){c:Cu}{m:Nat}(h:CurOk c m)(hm:m+70≤1000000000){n:Nat}(hn1:1≤n)(hn:n≤4):Ok (fun k _=>spec_l1Cur_anyBox k ks c n) (fun r=>CurOk r.2 (m+70)∧bxS r.1):=by
 refine Ok.eq (fun k q=>by rw [spec_l1Cur_anyBox]) ?_
 refine Ok.bind (boxO hk h (by omega) hn) fun r1 h1=>Ok.bind (pickK hk h1.1 (by omega) (by omega)) fun r2 h2 => ?_
 have hs:=h1.2.s hn
 have g1:(0:Int)<(r1.1.2.1.length:Int):=by rw [h1.2.1];omega
 have g2:(0:Int)<(r1.1.2.2.length:Int):=by rw [h1.2.2];omega
 have w:IntKind.wrap .i64 ((n:Int) - 1)=(n:Int) - 1:=w64 (by omega) (by omega)
 refine Ok.ite (fun _ => ?_) fun _=>Ok.ite (fun _ => ?_) fun _=>Ok.ite (fun _ => ?_) fun _=>Ok.ite (fun _ => ?_) fun _=>Ok.ite (fun _ => ?_) fun _ => ?_
 ·exact Ok.bind (amongK hk h2.1 (by omega) (by simp) (by simp)) fun r3 h3 => .pure ⟨h3.1.mono (by omega) (by omega),hs⟩
 ·refine Ok.lt g2 (Ok.bind (leastO _ _) fun r4 e4=>Ok.bind (mostO _ _) fun r5 e5=>Ok.bind (dyPowO (by omega) (by omega)) fun r6 _=>Ok.bind (amongK hk h2.1 (by omega) (by simp) (by simp)) fun r7 h7=>Ok.lt g1 (.pure ⟨h7.1.mono (by omega) (by omega),?_⟩))
  exact⟨by simpa using hs.1,hs.2⟩
 ·refine Ok.bind (leastO _ _) fun r4 e4=>Ok.bind (mostO _ _) fun r5 e5=>Ok.bind (dyPowO (by omega) (by omega)) fun r6 _=>Ok.bind (amongK hk h2.1 (by omega) (by simp) (by simp)) fun r7 h7=>Ok.lt g2 (.pure ⟨h7.1.mono (by omega) (by omega),?_⟩)
  exact⟨hs.1,by simpa using hs.2⟩
 ·rw [w]
  refine Ok.le (by omega) (Ok.le (by rw [h1.2.2];omega) (.pure ⟨h2.1.mono (by omega) (by omega),hs.1,?_⟩))
  have:=hs.2
  simp only [List.length_take];omega
 ·exact .pure ⟨h2.1.mono (by omega) (by omega),by simp,by simp⟩
 ·exact .pure ⟨h2.1.mono (by omega) (by omega),hs⟩
theorem coarseL(hk:bytesOk ks){n:Nat}(hn:n≤4){z:Bx3}{K:Int}(hK:0≤K∧K≤8){M:Int}(hM:8≤M∧M≤2048):∀(j:Nat) (lo hi:List Int) (c:Cu) (m:Nat),lo.length+j=n→hi.length=lo.length→CurOk c m→m+12*j≤1000000000 →
  Ok (fun k q=>spec_l1Cur_coarse_L124 k ks q c n z K M lo hi) (fun s=>∃y,s = .inr y∧CurOk y.1 (m+12*j)∧y.2.1=(n:Int)∧y.2.2.2.1=K∧y.2.2.2.2.1.length=n∧y.2.2.2.2.2.1.length=n)
 | 0,lo,hi,c,m,h,h2,hc,hm=>Ok.step (fun k q=>spec_l1Cur_coarse_L124.eq_2 k ks _ _ _ _ _ _ _ q) (Ok.cf (decide_eq_false (by omega)) (.pure ⟨_,rfl,hc.mono (by omega) (by omega),rfl,rfl,by simp only;omega,by simp only;omega⟩))
 | j+1,lo,hi,c,m,h,h2,hc,hm=>by
  refine Ok.step (fun k q=>spec_l1Cur_coarse_L124.eq_2 k ks _ _ _ _ _ _ _ q) (Ok.lt (by omega) ?_)
  have w2:IntKind.wrap .i64 (2*M)=2*M:=w64 (by omega) (by omega)
  rw [w2]
  refine Ok.bind (dyPowS hK.1 hK.2) fun r3 h3=>Ok.bind (pickK hk hc (by omega) (by omega)) fun r4 h4=>Ok.bind (amongK hk h4.1 (by omega) (by simp) (by simp)) fun r5 h5 => ?_
  refine Ok.bind (dyPowS hK.1 hK.2) fun r6 h6=>Ok.bind (dyPowS hK.1 hK.2) fun r7 h7=>Ok.bind (pickK hk h5.1 (by omega) (by omega)) fun r8 h8=>Ok.bind (amongK hk h8.1 (by omega) (by simp) (by simp)) fun r9 h9 => ?_
  refine Ok.bind (leastO _ _) fun r12 _=>Ok.bind (mostO _ _) fun r13 _=>Ok.ltN (by simp;omega) (Ok.bind (leastO _ _) fun r14 _=>Ok.bind (mostO _ _) fun r15 _=>Ok.ltN (by simp;omega) ?_)
  have:=coarseL hk hn (z:=z) hK hM j (lo ++ [r13]) (hi ++ [r15]) r9.2 (m+12) (by simp;omega) (by simp;omega) (h9.1.mono (by omega) (by omega)) (by omega)
  exact this.mono fun s hs=>by obtain⟨y,e,y1,y2⟩:=hs;exact⟨y,e,y1.mono (by omega) (by omega),y2⟩
theorem coarseO(hk:bytesOk ks){c:Cu}{m:Nat}(h:CurOk c m)(hm:m+120≤1000000000){n:Nat}(hn:n≤4):Ok (fun k _=>spec_l1Cur_coarse k ks c n) (fun r=>CurOk r.2 (m+120)∧bxN n r.1):=by
 refine Ok.eq (fun k q=>by rw [spec_l1Cur_coarse]) ?_
 refine Ok.bind (amongK hk h (by omega) (by simp) (by simp)) fun r1 h1 => ?_
 have m1:=h1.2
 simp only [List.mem_cons,List.not_mem_nil,or_false]at m1
 have hK:0≤r1.1∧r1.1≤8:=by omega
 refine Ok.bind (dyPowS hK.1 hK.2) fun r2 h2 => ?_
 have w:IntKind.wrap .i64 (8*r2)=8*r2:=w64 (by omega) (by omega)
 rw [w]
 refine Ok.bth (Ok.diag (coarseL hk hn hK (by omega) n [] [] r1.2 (m+2) (by simp) rfl h1.1 (by omega))) fun y hy => ?_
 obtain⟨y1,y2,y3,y4,y5⟩:=hy
 rw [y2,y3]
 refine Ok.bind (bxMakeO (n:=n) (by omega) (by omega) y4 y5) fun r19 h19=>Ok.ite (fun hr => ?_) (fun hr => .pure ⟨y1.mono (by omega) (by omega),h19 (by simpa using hr)⟩)
 exact Ok.bind (boxO hk y1 (by omega) hn) fun r18 h18 => .pure ⟨h18.1.mono (by omega) (by omega),h18.2⟩

theorem apZ(hk:bytesOk ks){x y:Nat}(hx:x≤5)(hy:y≤5):∀(j z:Nat) (c:Cu) (m:Nat) (p:List Tm),z+j=5→CurOk c m→m+2*j≤1000000000→p.length≤21 →
  Ok (fun k q=>spec_l1Cur_anyPoly_L494888082 k ks q c p x y z) (fun s=>∃w,s = .inr w∧CurOk w.1 (m+2*j)∧w.2.1.length≤21∧w.2.2.1=(x:Int)∧w.2.2.2.1=(y:Int))
 | 0,z,c,m,p,h,hc,hm,hp=>by
  refine Ok.step (fun k q=>spec_l1Cur_anyPoly_L494888082.eq_2 k ks _ _ _ _ _ q) (Ok.cf (decide_eq_false ?_) (.pure ⟨_,rfl,hc.mono (by omega) (by omega),hp,rfl,rfl⟩))
  rw [w64 (n:=(x:Int)+y) (by omega) (by omega),w64 (by omega) (by omega)]
  omega
 | j+1,z,c,m,p,h,hc,hm,hp=>by
  refine Ok.step (fun k q=>spec_l1Cur_anyPoly_L494888082.eq_2 k ks _ _ _ _ _ q) (Ok.ite (fun _ => ?_) (fun _ => .pure ⟨_,rfl,hc.mono (by omega) (by omega),hp,rfl,rfl⟩))
  refine Ok.bind (pickK hk hc (by omega) (by omega)) fun r6 h6 => ?_
  have b6:=h6.2.2 (by omega)
  have a6:=h6.2.1
  refine Ok.ite (fun hl => ?_) (fun _ => .pure ⟨_,rfl,h6.1.mono (by omega) (by omega),hp,rfl,rfl⟩)
  have hl:=of_decide_eq_true hl
  rw [w64 (by omega) (by omega)]at hl
  refine Ok.ltN (by simp;omega) ?_
  rw [w64_next (m:=z) (by simp only [lenB];omega)]
  have:=apZ hk hx hy j (z+1) r6.2 (m+2) (p ++ [(1,(x:Int),(y:Int),(z:Int))]) (by omega) h6.1 (by omega) (by simp;omega)
  exact this.mono fun s hs=>by obtain⟨w,e,w1,w2⟩:=hs;exact⟨w,e,w1.mono (by omega) (by omega),w2⟩
theorem apY(hk:bytesOk ks){x:Nat}(hx:x≤5):∀(j y:Nat) (c:Cu) (m:Nat) (p:List Tm),y+j=5→CurOk c m→m+10*j≤1000000000→p.length≤21 →
  Ok (fun k q=>spec_l1Cur_anyPoly_L7732626 k ks q c p x y) (fun s=>∃w,s = .inr w∧CurOk w.1 (m+10*j)∧w.2.1.length≤21∧w.2.2.1=(x:Int))
 | 0,y,c,m,p,h,hc,hm,hp=>by
  refine Ok.step (fun k q=>spec_l1Cur_anyPoly_L7732626.eq_2 k ks _ _ _ _ q) (Ok.cf (decide_eq_false ?_) (.pure ⟨_,rfl,hc.mono (by omega) (by omega),hp,rfl⟩))
  rw [w64 (n:=(x:Int)+y) (by omega) (by omega)]
  omega
 | j+1,y,c,m,p,h,hc,hm,hp=>by
  refine Ok.step (fun k q=>spec_l1Cur_anyPoly_L7732626.eq_2 k ks _ _ _ _ q) (Ok.ite (fun _ => ?_) (fun _ => .pure ⟨_,rfl,hc.mono (by omega) (by omega),hp,rfl⟩))
  refine Ok.bth (Ok.diag (apZ hk hx (y:=y) (by omega) 5 0 c m p (by omega) hc (by omega) hp)) fun w hw => ?_
  obtain⟨w1,w2,w3,w4⟩:=hw
  rw [w3,w4,w64_next (m:=y) (by simp only [lenB];omega)]
  have:=apY hk hx j (y+1) w.1 (m+10) w.2.1 (by omega) w1 (by omega) w2
  exact this.mono fun s hs=>by obtain⟨v,e,v1,v2⟩:=hs;exact⟨v,e,v1.mono (by omega) (by omega),v2⟩
theorem apX(hk:bytesOk ks):∀(j x:Nat) (c:Cu) (m:Nat) (p:List Tm),x+j=5→CurOk c m→m+50*j≤1000000000→p.length≤21 →
  Ok (fun k q=>spec_l1Cur_anyPoly_L120822 k ks q c p x) (fun s=>∃w,s = .inr w∧w.1.length≤21∧CurOk w.2.1 (m+50*j))
 | 0,x,c,m,p,h,hc,hm,hp=>Ok.step (fun k q=>spec_l1Cur_anyPoly_L120822.eq_2 k ks _ _ _ q) (Ok.cf (decide_eq_false (by omega)) (.pure ⟨_,rfl,hp,hc.mono (by omega) (by omega)⟩))
 | j+1,x,c,m,p,h,hc,hm,hp=>by
  refine Ok.step (fun k q=>spec_l1Cur_anyPoly_L120822.eq_2 k ks _ _ _ q) (Ok.le (by omega) ?_)
  refine Ok.bth (Ok.diag (apY hk (x:=x) (by omega) 5 0 c m p (by omega) hc (by omega) hp)) fun w hw => ?_
  obtain⟨w1,w2,w3⟩:=hw
  rw [w3,w64_next (m:=x) (by simp only [lenB];omega)]
  have:=apX hk j (x+1) w.1 (m+50) w.2.1 (by omega) w1 (by omega) w2
  exact this.mono fun s hs=>by obtain⟨v,e,v1,v2⟩:=hs;exact⟨v,e,v1,v2.mono (by omega) (by omega)⟩
theorem anyPolyO(hk:bytesOk ks){c:Cu}{m:Nat}(h:CurOk c m)(hm:m+900≤1000000000){n:Nat}(hn:n≤4):Ok (fun k _=>spec_l1Cur_anyPoly k ks c n) (fun r=>CurOk r.2 (m+900)∧r.1.length≤48):=by
 refine Ok.eq (fun k q=>by rw [spec_l1Cur_anyPoly]) ?_
 refine Ok.bind (polyO hk h (by omega) hn) fun r1 h1=>Ok.bind (pickK hk h1.1 (by omega) (by omega)) fun r2 h2 => ?_
 have l1:=h1.2
 refine Ok.ite (fun _ => ?_) fun _=>Ok.ite (fun _ => ?_) fun _=>Ok.ite (fun _ => ?_) fun _=>Ok.ite (fun _ => ?_) fun _ => ?_
 ·exact Ok.bind (amongK hk h2.1 (by omega) (by simp) (by simp)) fun r3 h3=>Ok.ltN (by simp;omega) (.pure ⟨h3.1.mono (by omega) (by omega),by simp;omega⟩)
 ·exact Ok.bind (amongK hk h2.1 (by omega) (by simp) (by simp)) fun r3 h3=>Ok.bind (amongK hk h3.1 (by omega) (by simp) (by simp)) fun r4 h4=>Ok.ltN (by simp;omega) (.pure ⟨h4.1.mono (by omega) (by omega),by simp;omega⟩)
 ·exact Ok.ltN (by omega) (.pure ⟨h2.1.mono (by omega) (by omega),by simp;omega⟩)
 ·exact Ok.bth (Ok.diag (apX hk 5 0 r2.2 _ [] (by omega) h2.1 (by omega) (by simp))) fun y hy => .pure ⟨hy.2.mono (by omega) (by omega),by have:=hy.1;simp only;omega⟩
 ·exact .pure ⟨h2.1.mono (by omega) (by omega),by simp only;omega⟩
def syS(s:List (List Tm)):Prop:=s.length≤4∧∀r∈s,r.length≤48
theorem anySystemO(hk:bytesOk ks){c:Cu}{m:Nat}(h:CurOk c m)(hm:m+6000≤1000000000):Ok (fun k _=>spec_l1Cur_anySystem k ks c) (fun r=>CurOk r.2 (m+6000)∧syS r.1):=by
 refine Ok.eq (fun k q=>by rw [spec_l1Cur_anySystem]) ?_
 refine Ok.bind (amongK hk h (by omega) (by simp) (by simp)) fun r1 h1 => ?_
 have m1:=h1.2
 simp only [List.mem_cons,List.not_mem_nil,or_false]at m1
 obtain⟨n,hn,hn1,hn3⟩:∃n:Nat,r1.1=(n:Int)∧1≤n∧n≤3:=⟨r1.1.toNat,by omega,by omega,by omega⟩
 rw [hn]
 refine Ok.bind (systemO hk h1.1 (by omega) (n:=n) (by omega)) fun r2 h2=>Ok.bind (pickK hk h2.1 (by omega) (by omega)) fun r3 h3 => ?_
 have hs:syS r2.1:=⟨by rw [h2.2.1];omega,fun r hr=>by have:=h2.2.2 r hr;omega⟩
 refine Ok.ite (fun _ => ?_) fun _=>Ok.ite (fun _ => ?_) fun _=>Ok.ite (fun _ => ?_) fun _ => ?_
 ·refine Ok.bind (pickK hk h3.1 (by omega) (by omega)) fun r4 h4=>Ok.bind (anyPolyO hk h4.1 (by omega) (n:=3) (by omega)) fun r5 h5 => ?_
  have b4:=h4.2.2 (by omega)
  refine Ok.le h4.2.1 (Ok.lt (by rw [h2.2.1];omega) (.pure ⟨h5.1.mono (by omega) (by omega),by simpa using hs.1,fun x hx => ?_⟩))
  rcases List.mem_or_eq_of_mem_set hx with hx | hx
  ·exact hs.2 x hx
  ·rw [hx];exact h5.2
 ·exact .pure ⟨h3.1.mono (by omega) (by omega),by simp,by simp⟩
 ·exact Ok.bind (systemO hk h3.1 (by omega) (n:=4) (by omega)) fun r6 h6 => .pure ⟨h6.1.mono (by omega) (by omega),by rw [h6.2.1];omega,fun r hr=>by have:=h6.2.2 r hr;omega⟩
 ·exact .pure ⟨h3.1.mono (by omega) (by omega),hs⟩
end
end Go.Ev.G

namespace Go.Ev.G
open Go Go.Ev
set_option maxRecDepth 100000

theorem curZ:CurOk ((),0,0) 0:=⟨by decide,by decide,by decide⟩
section
variable {ks : List Int}
end
end Go.Ev.G

namespace Go.Ev.G
open Go Go.Ev
set_option maxRecDepth 100000

def atP(s:List (List Tm))(M:Nat)(pt:Pt)(i:Nat):Int:=((s.getD i []).map (vaT M pt)).sum
end Go.Ev.G

namespace Go.Ev.G
open Go Go.Ev
set_option maxRecDepth 100000

def oT0_0:List (List Int) := [[0,4,2],[0,2,5],[0,3,4],[0,5,3]]
theorem oT0_0_eq:(cornX 1 0).map (ordV 0 1)=oT0_0:=by kernel_rfl
def oT0_1:List (List Int) := [[1,2,4],[1,5,2],[1,4,3],[1,3,5]]
theorem oT0_1_eq:(cornX 1 1).map (ordV 0 1)=oT0_1:=by kernel_rfl
def oT1_0:List (List Int) := [[0,16,8],[0,8,9,1],[1,9,20],[0,2,17,16],[0,1,3,2],[1,20,21,3],[2,12,17],[2,3,13,12],[3,21,13]]
theorem oT1_0_eq:(cornX 2 0).map (ordV 1 2)=oT1_0:=by kernel_rfl
def oT1_1:List (List Int) := [[8,16,18,10],[8,10,11,9],[9,11,22,20],[16,17,19,18],[],[20,22,23,21],[12,14,19,17],[12,13,15,14],[13,21,23,15]]
theorem oT1_1_eq:(cornX 2 1).map (ordV 1 2)=oT1_1:=by kernel_rfl
def oT1_2:List (List Int) := [[4,10,18],[4,5,11,10],[5,22,11],[4,18,19,6],[4,6,7,5],[5,7,23,22],[6,19,14],[6,14,15,7],[7,15,23]]
theorem oT1_2_eq:(cornX 2 2).map (ordV 1 2)=oT1_2:=by kernel_rfl
def oT2_0:List (List Int) := [[0,64,32],[0,32,33,1],[1,33,34,2],[2,34,35,3],[3,35,80],[0,4,65,64],[0,1,5,4],[1,2,6,5],[2,3,7,6],[3,80,81,7],[4,8,66,65],[4,5,9,8],[5,6,10,9],[6,7,11,10],[7,81,82,11],[8,12,67,66],[8,9,13,12],[9,10,14,13],[10,11,15,14],[11,82,83,15],[12,48,67],[12,13,49,48],[13,14,50,49],[14,15,51,50],[15,83,51]]
theorem oT2_0_eq:(cornX 4 0).map (ordV 2 4)=oT2_0:=by kernel_rfl
def oT2_1:List (List Int) := [[32,64,68,36],[32,36,37,33],[33,37,38,34],[34,38,39,35],[35,39,84,80],[64,65,69,68],[],[],[],[80,84,85,81],[65,66,70,69],[],[],[],[81,85,86,82],[66,67,71,70],[],[],[],[82,86,87,83],[48,52,71,67],[48,49,53,52],[49,50,54,53],[50,51,55,54],[51,83,87,55]]
theorem oT2_1_eq:(cornX 4 1).map (ordV 2 4)=oT2_1:=by kernel_rfl
def oT2_2:List (List Int) := [[36,68,72,40],[36,40,41,37],[37,41,42,38],[38,42,43,39],[39,43,88,84],[68,69,73,72],[],[],[],[84,88,89,85],[69,70,74,73],[],[],[],[85,89,90,86],[70,71,75,74],[],[],[],[86,90,91,87],[52,56,75,71],[52,53,57,56],[53,54,58,57],[54,55,59,58],[55,87,91,59]]
theorem oT2_2_eq:(cornX 4 2).map (ordV 2 4)=oT2_2:=by kernel_rfl
def oT2_3:List (List Int) := [[40,72,76,44],[40,44,45,41],[41,45,46,42],[42,46,47,43],[43,47,92,88],[72,73,77,76],[],[],[],[88,92,93,89],[73,74,78,77],[],[],[],[89,93,94,90],[74,75,79,78],[],[],[],[90,94,95,91],[56,60,79,75],[56,57,61,60],[57,58,62,61],[58,59,63,62],[59,91,95,63]]
theorem oT2_3_eq:(cornX 4 3).map (ordV 2 4)=oT2_3:=by kernel_rfl
def oT2_4:List (List Int) := [[16,44,76],[16,17,45,44],[17,18,46,45],[18,19,47,46],[19,92,47],[16,76,77,20],[16,20,21,17],[17,21,22,18],[18,22,23,19],[19,23,93,92],[20,77,78,24],[20,24,25,21],[21,25,26,22],[22,26,27,23],[23,27,94,93],[24,78,79,28],[24,28,29,25],[25,29,30,26],[26,30,31,27],[27,31,95,94],[28,79,60],[28,60,61,29],[29,61,62,30],[30,62,63,31],[31,63,95]]
theorem oT2_4_eq:(cornX 4 4).map (ordV 2 4)=oT2_4:=by kernel_rfl
def ords0:List (List Int):=oT0_0++oT0_1
def eC0:List Nat := [4,386,192,2,197,480,3,292,384,5,483,288,98,196,385,101,482,193,100,387,289,99,293,481]
def ords1:List (List Int):=oT1_0++oT1_1++oT1_2
def eC1:List Nat := [16,1544,768,8,777,865,96,105,884,1921,2,209,1648,1536,1,99,290,192,116,1941,2019,289,204,1169,1634,195,301,1260,1154,309,2029,1251,784,1554,1738,968,778,971,1065,872,875,1078,2132,1929,1553,1651,1842,1744,1942,2135,2229,2036,1166,1363,1841,1644,1165,1263,1454,1356,1269,2039,2223,1453,394,978,1732,389,491,1066,964,502,2123,1061,402,1747,1830,580,390,583,677,484,487,695,2230,2117,595,1838,1350,590,1359,1447,678,687,1463,2215]
def ords2:List (List Int):=oT2_0++oT2_1++oT2_2++oT2_3++oT2_4
def eC2:List Nat := [64,6176,3072,32,3105,3169,96,129,3202,3266,193,226,3299,3363,290,323,3440,7683,4,449,6304,6144,1,101,484,384,98,198,581,481,195,295,678,578,368,7761,7783,675,392,834,6401,6244,389,489,872,772,486,586,969,869,583,683,1066,966,753,7858,7883,1063,780,1219,6498,6344,777,877,1260,1160,874,974,1357,1257,971,1071,1454,1354,1138,7955,7983,1451,1200,4675,6444,1165,1297,4752,4620,1262,1394,4849,4717,1359,1491,4946,4814,1523,8019,4911,3136,6212,6564,3488,3108,3493,3585,3200,3205,3590,3682,3297,3302,3687,3779,3394,3399,3828,8144,7715,6209,6309,6692,6592,7764,8149,8241,7856,6306,6406,6789,6689,7861,8246,8338,7953,6403,6503,6886,6786,7958,8343,8435,8050,4660,5063,6883,6480,4657,4757,5140,5040,4754,4854,5237,5137,4851,4951,5334,5234,4979,8055,8407,5331,3524,6600,6952,3876,3496,3881,3973,3588,3593,3978,4070,3685,3690,4075,4167,3782,3787,4216,8532,8103,6597,6697,7080,6980,8152,8537,8629,8244,6694,6794,7177,7077,8249,8634,8726,8341,6791,6891,7274,7174,8346,8731,8823,8438,5048,5451,7271,6868,5045,5145,5528,5428,5142,5242,5625,5525,5239,5339,5722,5622,5367,8443,8795,5719,3912,6988,7340,4264,3884,4269,4361,3976,3981,4366,4458,4073,4078,4463,4555,4170,4175,4604,8920,8491,6985,7085,7468,7368,8540,8925,9017,8632,7082,7182,7565,7465,8637,9022,9114,8729,7179,7279,7662,7562,8734,9119,9211,8826,5436,5839,7659,7256,5433,5533,5916,5816,5530,5630,6013,5913,5627,5727,6110,6010,5755,8831,9183,6107,1580,4300,7312,1553,1677,4364,4240,1650,1774,4461,4337,1747,1871,4558,4434,1916,8879,4531,1612,7373,7412,1936,1556,1941,2033,1648,1653,2038,2130,1745,1750,2135,2227,1842,1847,2301,9020,8851,1997,7470,7512,2324,1944,2329,2421,2036,2041,2426,2518,2133,2138,2523,2615,2230,2235,2686,9117,8951,2382,7567,7612,2712,2332,2717,2809,2424,2429,2814,2906,2521,2526,2911,3003,2618,2623,3071,9214,9051,2767,7644,5788,2748,5821,5885,2812,2845,5918,5982,2909,2942,6015,6079,3006,3039,6143,9151]
def dec(c:Nat):Int×Int:=(((c / 96:Nat):Int),((c % 96:Nat):Int))
def rev(c:Nat):Nat:=(c % 96)*96+c / 96
theorem eC0_eq:ords0.flatMap prs=eC0.map dec:=by kernel_rfl
theorem eC0_perm:eC0.isPerm (eC0.map rev)=true:=by kernel_rfl
theorem eC0_lt:(eC0.all fun c=>Nat.blt c 9216)=true:=by kernel_rfl
theorem eC1_eq:ords1.flatMap prs=eC1.map dec:=by kernel_rfl
theorem eC1_perm:eC1.isPerm (eC1.map rev)=true:=by kernel_rfl
theorem eC1_lt:(eC1.all fun c=>Nat.blt c 9216)=true:=by kernel_rfl
theorem eC2_eq:ords2.flatMap prs=eC2.map dec:=by kernel_rfl
theorem eC2_perm:eC2.isPerm (eC2.map rev)=true:=by kernel_rfl
theorem eC2_lt:(eC2.all fun c=>Nat.blt c 9216)=true:=by kernel_rfl
def parN(N i:Nat):Nat:=(i / (N*N))*((N / 2)*(N / 2))+((i % (N*N)) / N / 2)*(N / 2)+(i % N) / 2
def parI(N:Nat)(i:Int):Int:=((parN N i.toNat:Nat):Int)
def degA(a:Int):Int→List Int→Bool
 | _,[]=>true
 | p,c::cs=>(a==p||(p==c||a==c))&&degA a c cs
def deg:List Int→Bool
 | a::b::cs=>degA a b cs
 | _=>true
theorem par1_eq:(ords1.map fun l=>l.map (parI 2)).filter (fun l => !deg l)=ords0.filter (fun l => !deg l):=by kernel_rfl
theorem par2_eq:(ords2.map fun l=>l.map (parI 4)).filter (fun l => !deg l)=ords1.filter (fun l => !deg l):=by kernel_rfl
end Go.Ev.G

namespace Go.Ev.G
open Go Go.Ev
set_option maxRecDepth 100000

def ordsD(d:Nat):List (List Int):=match d with
 | 0=>ords0
 | 1=>ords1
 | _=>ords2
def tot(A:List Int)(d:Nat):Int:=((ordsD d).map fun o=>fan (o.map (labF A))).sum
def anyOpp(A:List Int)(d:Nat):Bool:=(ordsD d).any fun o=>oppI (o.map (labF A))
theorem sum_flatMap{α β:Type}(g:α→List β)(f:β→Int):∀(l:List α),((l.flatMap g).map f).sum=(l.map fun x=>((g x).map f).sum).sum
 | []=>rfl
 | x::l=>by
  rw [List.flatMap_cons,List.map_append,List.sum_append,sum_flatMap g f l]
  rfl
def Sp(g:Int→Option Int)(bad:Bool)(v:Int)(B:Nat):Prop:=v.natAbs≤B∧∀s:Int,s.natAbs+B≤1000000000→g s=if bad then none else some (s+v)
theorem runN_sp{g:Nat→Int→Option Int}{bad:Nat→Bool}{v:Nat→Int}{B:Nat}:∀(m i:Nat),(∀j,i≤j→j<i+m→Sp (g j) (bad j) (v j) B)→Sp (runN g m i) ((List.range' i m).any bad) (((List.range' i m).map v).sum) (m*B)
 | 0,i,_=>⟨by simp,fun s _=>by simp [runN]⟩
 | m+1,i,h=>by
  obtain⟨b1,e1⟩:=h i (by omega) (by omega)
  obtain⟨b2,e2⟩:=runN_sp m (i+1) (fun j h1 h2=>h j (by omega) (by omega))
  rw [List.range'_succ]
  have hB:(m+1)*B=m*B+B:=by rw [Nat.succ_mul]
  refine⟨?_,fun s hs => ?_⟩
  ·rw [List.map_cons,List.sum_cons]
   omega
  ·rw [List.map_cons,List.sum_cons,List.any_cons]
   show((g i s).bind fun s=>runN g m (i+1) s)=_
   rw [e1 s (by omega)]
   cases bad i with
   | true=>rfl
   | false =>
    simp only [Bool.false_eq_true,if_false,Option.bind_some,Bool.false_or]
    rw [e2 (s+v i) (by omega),Int.add_assoc]
def tb(a b c:Int):Bool:=Nat.ble (triV a b c).natAbs 1
theorem tb_all:(L6.all fun a=>L6.all fun b=>L6.all fun c=>tb a b c)=true:=by kernel_rfl
theorem tri_bd{a b c:Int}(ha:isLab a)(hb:isLab b)(hc:isLab c):(triV a b c).natAbs≤1:=Nat.le_of_ble_eq_true (all3 tb_all ha hb hc)
theorem fanA_bd{a:Int}(ha:isLab a):∀(r:List Int) (p:Int),isLab p→(∀x∈r,isLab x)→(fanA a p r).natAbs≤r.length
 | [],p,_,_=>by simp [fanA]
 | c::cs,p,hp,h=>by
  have h1:=tri_bd ha hp (h c (by simp))
  have h2:=fanA_bd ha cs c (h c (by simp)) (fun x hx=>h x (by simp [hx]))
  simp only [fanA,List.length_cons]
  omega
theorem sumL_fan{a:Int}(ha:isLab a):∀(r:List Int) (p s:Int),isLab p→(∀x∈r,isLab x)→s.natAbs+r.length≤2000000000→sumL a p r s=s+fanA a p r
 | [],p,s,_,_,_=>by simp [sumL,fanA]
 | c::cs,p,s,hp,h,hs=>by
  have h1:=tri_bd ha hp (h c (by simp))
  simp only [List.length_cons]at hs
  have w:IntKind.wrap .i64 (s+triV a p c)=s+triV a p c:=w64 (by omega) (by omega)
  simp only [sumL,fanA]
  rw [w,sumL_fan ha cs c _ (h c (by simp)) (fun x hx=>h x (by simp [hx])) (by omega)]
  omega
theorem cornV_sp{L:List Int}(h:∀l∈L,isLab l)(hl:L.length≤1000):Sp (cornV L) (oppI L) (fan L) 1000:=by
 constructor
 ·match L,h,hl with
  | [],_,_=>simp [fan]
  | [_],_,_=>simp [fan]
  | a::b::cs,h,hl =>
   have:=fanA_bd (h a (by simp)) cs b (h b (by simp)) (fun x hx=>h x (by simp [hx]))
   simp only [List.length_cons]at hl
   show(fanA a b cs).natAbs≤1000
   omega
 ·intro s hs
  unfold cornV
  cases oppI L with
  | true=>rfl
  | false =>
   simp only [Bool.false_eq_true,if_false]
   congr 1
   match L,h,hl with
   | [],_,_=>simp [fan,sumC]
   | [_],_,_=>simp [fan,sumC]
   | a::b::cs,h,hl =>
    simp only [List.length_cons]at hl
    exact sumL_fan (h a (by simp)) cs b s (h b (by simp)) (fun x hx=>h x (by simp [hx])) (by omega)
theorem ordsD_eq{d:Nat}(hd:d≤2):ordsD d=(List.range (2 ^ d+1)).flatMap fun x=>(cornX (2 ^ d) x).map (ordV d (2 ^ d)):=by
 rcases(by omega:d=0∨d=1∨d=2)with rfl | rfl | rfl
 ·have e:(List.range (2 ^ 0+1)).flatMap (fun x=>(cornX (2 ^ 0) x).map (ordV ((0:Nat):Int) (2 ^ 0)))=(cornX 1 0).map (ordV 0 1)++((cornX 1 1).map (ordV 0 1) ++ []):=rfl
  rw [e,oT0_0_eq,oT0_1_eq,List.append_nil]
  rfl
 ·have e:(List.range (2 ^ 1+1)).flatMap (fun x=>(cornX (2 ^ 1) x).map (ordV ((1:Nat):Int) (2 ^ 1)))=(cornX 2 0).map (ordV 1 2)++((cornX 2 1).map (ordV 1 2)++((cornX 2 2).map (ordV 1 2) ++ [])):=rfl
  rw [e,oT1_0_eq,oT1_1_eq,oT1_2_eq,List.append_nil]
  rfl
 ·have e:(List.range (2 ^ 2+1)).flatMap (fun x=>(cornX (2 ^ 2) x).map (ordV ((2:Nat):Int) (2 ^ 2)))=(cornX 4 0).map (ordV 2 4)++((cornX 4 1).map (ordV 2 4)++((cornX 4 2).map (ordV 2 4)++((cornX 4 3).map (ordV 2 4)++((cornX 4 4).map (ordV 2 4) ++ [])))):=rfl
  rw [e,oT2_0_eq,oT2_1_eq,oT2_2_eq,oT2_3_eq,oT2_4_eq,List.append_nil]
  show ords2=_
  unfold ords2
  simp only [List.append_assoc]
theorem ordsD_in{d:Nat}(hd:d≤2){o:List Int}(ho:o∈ordsD d):∃x y z:Nat,x≤2 ^ d∧y≤2 ^ d∧z≤2 ^ d∧o=ordV d (2 ^ d) ((x:Int),(y:Int),(z:Int)):=by
 rw [ordsD_eq hd]at ho
 obtain⟨x,hx,ho⟩:=List.mem_flatMap.1 ho
 obtain⟨p,hp,rfl⟩:=List.mem_map.1 ho
 unfold cornX at hp
 obtain⟨y,hy,hp⟩:=List.mem_flatMap.1 hp
 obtain⟨z,hz,rfl⟩:=List.mem_map.1 hp
 rw [List.mem_range]at hx hy hz
 exact⟨x,y,z,by omega,by omega,by omega,rfl⟩
theorem ordsD_bnd{d:Nat}(hd:d≤2){o:List Int}(ho:o∈ordsD d):∀i∈o,0≤i∧i<((6*2 ^ d*2 ^ d:Nat):Int):=by
 obtain⟨x,y,z,hx,hy,hz,rfl⟩:=ordsD_in hd ho
 exact ord_bnd ⟨hd,by omega,by omega,by omega,by omega,by omega,by omega⟩
theorem labF_lab{A:List Int}{d:Nat}(h:LabOk A d){i:Int}(hi:0≤i∧i<((6*2 ^ d*2 ^ d:Nat):Int)):isLab (labF A i):=by
 unfold labF
 have hlt:i.toNat<A.length:=by rw [h.len];omega
 rw [List.getD_eq_getElem?_getD,List.getElem?_eq_getElem hlt]
 exact h.lab _ (List.getElem_mem hlt)
theorem any_congr2{α:Type}{f g:α→Bool}{l:List α}(h:∀x∈l,f x=g x):l.any f=l.any g:=by
 induction l with
 | nil=>rfl
 | cons a r ih=>rw [List.any_cons,List.any_cons,h a (by simp),ih (fun x hx=>h x (by simp [hx]))]
theorem dgLV_eq{A:List Int}{d:Nat}(h:LabOk A d):dgLV A d=if anyOpp A d then(0,false)else(tot A d,true):=by
 have hd:=h.hd
 have hn:=h.n
 have s1:∀x y,x≤2 ^ d→y≤2 ^ d→Sp (gy A d x y) ((List.range' 0 (2 ^ d+1)).any fun z=>oppI (Lof A d x y z)) (((List.range' 0 (2 ^ d+1)).map fun z=>fan (Lof A d x y z)).sum) ((2 ^ d+1)*1000):=by
  intro x y hx hy
  refine runN_sp (2 ^ d+1) 0 fun z _ hz => ?_
  refine cornV_sp (h.lof hx hy (by omega)) ?_
  unfold Lof
  rw [List.length_map]
  exact ordV_len (h.inb hx hy (by omega))
 have s2:∀x,x≤2 ^ d→Sp (gx A d x) ((List.range' 0 (2 ^ d+1)).any fun y=>(List.range' 0 (2 ^ d+1)).any fun z=>oppI (Lof A d x y z)) (((List.range' 0 (2 ^ d+1)).map fun y=>((List.range' 0 (2 ^ d+1)).map fun z=>fan (Lof A d x y z)).sum).sum) ((2 ^ d+1)*((2 ^ d+1)*1000)):=fun x hx=>runN_sp (2 ^ d+1) 0 fun y _ hy=>s1 x y hx (by omega)
 have s3:Sp (runN (gx A d) (2 ^ d+1) 0) ((List.range' 0 (2 ^ d+1)).any fun x=>(List.range' 0 (2 ^ d+1)).any fun y=>(List.range' 0 (2 ^ d+1)).any fun z=>oppI (Lof A d x y z)) (((List.range' 0 (2 ^ d+1)).map fun x=>((List.range' 0 (2 ^ d+1)).map fun y=>((List.range' 0 (2 ^ d+1)).map fun z=>fan (Lof A d x y z)).sum).sum).sum) ((2 ^ d+1)*((2 ^ d+1)*((2 ^ d+1)*1000))):=runN_sp (2 ^ d+1) 0 fun x _ hx=>s2 x (by omega)
 have hB:(2 ^ d+1)*((2 ^ d+1)*((2 ^ d+1)*1000))≤1000000:=by
  rcases(by omega:d=0∨d=1∨d=2)with rfl | rfl | rfl <;> decide
 have e:=s3.2 0 (by simp;omega)
 have eo:anyOpp A d=((List.range' 0 (2 ^ d+1)).any fun x=>(List.range' 0 (2 ^ d+1)).any fun y=>(List.range' 0 (2 ^ d+1)).any fun z=>oppI (Lof A d x y z)):=by
  unfold anyOpp
  rw [ordsD_eq hd,List.any_flatMap,←List.range_eq_range']
  refine any_congr2 fun x _ => ?_
  unfold cornX
  rw [List.any_map,List.any_flatMap]
  refine any_congr2 fun y _ => ?_
  rw [List.any_map]
  rfl
 have et:tot A d=(((List.range' 0 (2 ^ d+1)).map fun x=>((List.range' 0 (2 ^ d+1)).map fun y=>((List.range' 0 (2 ^ d+1)).map fun z=>fan (Lof A d x y z)).sum).sum).sum):=by
  unfold tot
  rw [ordsD_eq hd,sum_flatMap,←List.range_eq_range']
  congr 1
  refine List.map_congr_left fun x _ => ?_
  unfold cornX
  rw [List.map_map,sum_flatMap]
  congr 1
  refine List.map_congr_left fun y _ => ?_
  rw [List.map_map]
  rfl
 unfold dgLV
 rw [e,eo,et]
 split
 ·rename_i hs
  split at hs
  ·cases hs
  ·rename_i hb
   cases hs
   rw [if_neg hb,Int.zero_add]
 ·rename_i hs
  split at hs
  ·rename_i hb
   rw [if_pos hb]
  ·cases hs
end Go.Ev.G

namespace Go.Ev.G
open Go Go.Ev
set_option maxRecDepth 100000

def eCD(d:Nat):List Nat:=match d with
 | 0=>eC0
 | 1=>eC1
 | _=>eC2
theorem eCD_eq{d:Nat}(hd:d≤2):(ordsD d).flatMap prs=(eCD d).map dec:=by
 rcases(by omega:d=0∨d=1∨d=2)with rfl | rfl | rfl
 ·exact eC0_eq
 ·exact eC1_eq
 ·exact eC2_eq
theorem eCD_perm{d:Nat}(hd:d≤2):(eCD d).Perm ((eCD d).map rev):=by
 rcases(by omega:d=0∨d=1∨d=2)with rfl | rfl | rfl
 ·exact List.isPerm_iff.1 eC0_perm
 ·exact List.isPerm_iff.1 eC1_perm
 ·exact List.isPerm_iff.1 eC2_perm
theorem eCD_lt{d:Nat}(hd:d≤2):∀c∈eCD d,c<9216:=by
 have h:((eCD d).all fun c=>Nat.blt c 9216)=true:=by
  rcases(by omega:d=0∨d=1∨d=2)with rfl | rfl | rfl
  ·exact eC0_lt
  ·exact eC1_lt
  ·exact eC2_lt
 intro c hc
 exact Nat.le_of_ble_eq_true (List.all_eq_true.1 h c hc)
theorem perm_sum{l l':List Int}(h:l.Perm l'):l.sum=l'.sum:=by
 induction h with
 | nil=>rfl
 | cons x _ ih=>simp only [List.sum_cons,ih]
 | swap x y l=>simp only [List.sum_cons];omega
 | trans _ _ i1 i2=>exact i1.trans i2
theorem sum_neg{α:Type}(f:α→Int):∀l:List α,(l.map fun x => -f x).sum = -(l.map f).sum
 | []=>rfl
 | x::l=>by simp only [List.map_cons,List.sum_cons,sum_neg f l];omega
theorem dec_rev{c:Nat}(h:c<9216):dec (rev c)=((dec c).2,(dec c).1):=by
 unfold dec rev
 have e1:((c % 96)*96+c / 96) / 96=c % 96:=by omega
 have e2:((c % 96)*96+c / 96) % 96=c / 96:=by omega
 rw [e1,e2]
theorem pairs_zero{d:Nat}(hd:d≤2){g:Int→Int→Int}(h:∀o∈ordsD d,∀i∈o,∀j∈o,g i j = -g j i):((ordsD d).map (cy g)).sum=0:=by
 have e0:(ordsD d).map (cy g)=(ordsD d).map (fun o=>((prs o).map fun q=>g q.1 q.2).sum):=List.map_congr_left fun o _=>cy_prs g o
 rw [e0,←sum_flatMap,eCD_eq hd,List.map_map]
 have hp:=perm_sum ((eCD_perm hd).map ((fun q:Int×Int=>g q.1 q.2) ∘ dec))
 rw [List.map_map]at hp
 have e1:(eCD d).map (((fun q:Int×Int=>g q.1 q.2) ∘ dec) ∘ rev)=(eCD d).map (fun c => -((fun q:Int×Int=>g q.1 q.2) ∘ dec) c):=by
  refine List.map_congr_left fun c hc => ?_
  simp only [Function.comp,dec_rev (eCD_lt hd c hc)]
  have hm:dec c∈(ordsD d).flatMap prs:=by rw [eCD_eq hd];exact List.mem_map_of_mem hc
  obtain⟨o,ho,hq⟩:=List.mem_flatMap.1 hm
  have:=prs_mem _ hq
  exact h o ho _ this.2 _ this.1
 rw [e1,sum_neg]at hp
 omega

theorem degA_zero{a:Int}{f:Int→Int}:∀(r:List Int) (p:Int),(∀x∈a::p::r,isLab (f x))→degA a p r=true→fanA (f a) (f p) (r.map f)=0
 | [],p,_,_=>rfl
 | c::cs,p,h,hd=>by
  simp only [degA,Bool.and_eq_true,Bool.or_eq_true,beq_iff_eq]at hd
  have ih:=degA_zero cs c (fun x hx=>h x (by simp at hx ⊢; rcases hx with hx | hx | hx <;> simp [hx])) hd.2
  have ha:=h a (by simp)
  have hp:=h p (by simp)
  have hc:=h c (by simp)
  have t:triV (f a) (f p) (f c)=0:=by
   rcases hd.1 with e | e | e
   ·rw [←e];exact(tri_alt ha hc hc).e1
   ·rw [←e];exact(tri_alt ha hp hp).e2
   ·rw [←e];exact(tri_alt ha hp hp).e3
  simp only [List.map_cons,fanA,t,ih,Int.add_zero]
theorem deg_zero{l:List Int}{f:Int→Int}(h:∀x∈l,isLab (f x))(hd:deg l=true):fan (l.map f)=0:=by
 match l,h,hd with
 | [],_,_=>rfl
 | [_],_,_=>rfl
 | a::b::cs,h,hd=>exact degA_zero cs b h hd
theorem sum_filter{α:Type}{P:α→Bool}{f:α→Int}:∀(l:List α),(∀x∈l,P x=false→f x=0)→(l.map f).sum=((l.filter P).map f).sum
 | [],_=>rfl
 | x::l,h=>by
  have ih:=sum_filter l (fun y hy=>h y (by simp [hy]))
  rw [List.filter_cons]
  cases hP:P x with
  | true=>simp only [if_true,List.map_cons,List.sum_cons,ih]
  | false =>
   have:=h x (by simp) hP
   simp only [Bool.false_eq_true,if_false,List.map_cons,List.sum_cons,ih]
   omega
theorem par_eq{d:Nat}(hd:d+1≤2):((ordsD (d+1)).map fun l=>l.map (parI (2 ^ (d+1)))).filter (fun l => !deg l)=(ordsD d).filter (fun l => !deg l):=by
 rcases(by omega:d=0∨d=1)with rfl | rfl
 ·exact par1_eq
 ·exact par2_eq
theorem par_bnd{d:Nat}(hd:d+1≤2){i:Int}(hi:0≤i∧i<((6*2 ^ (d+1)*2 ^ (d+1):Nat):Int)):0≤parI (2 ^ (d+1)) i∧parI (2 ^ (d+1)) i<((6*2 ^ d*2 ^ d:Nat):Int):=by
 unfold parI parN
 refine⟨by omega,?_⟩
 rcases(by omega:d=0∨d=1)with rfl | rfl
 ·simp only [Nat.zero_add,Nat.pow_one,Nat.pow_zero,Nat.reduceMul,Nat.reduceDiv]at hi ⊢
  omega
 ·simp only [Nat.reduceAdd,Nat.reducePow,Nat.reduceMul,Nat.reduceDiv]at hi ⊢
  omega

theorem tot_fine{A F:List Int}{d:Nat}(hA:LabOk A d)(hF:LabOk F (d+1))(hc:∀o∈ordsD (d+1),coL (o.map (fun i=>labF A (parI (2 ^ (d+1)) i))++o.map (labF F))):tot F (d+1)=tot A d:=by
 have hd:=hF.hd
 have lm:∀o∈ordsD (d+1),∀i∈o,isLab (labF A (parI (2 ^ (d+1)) i)):=fun o ho i hi=>labF_lab hA (par_bnd hd (ordsD_bnd hd ho i hi))
 have lf:∀o∈ordsD (d+1),∀i∈o,isLab (labF F i):=fun o ho i hi=>labF_lab hF (ordsD_bnd hd ho i hi)
 have e1:tot F (d+1)=((ordsD (d+1)).map fun o=>fan (o.map (fun i=>labF A (parI (2 ^ (d+1)) i)))).sum+((ordsD (d+1)).map (cy (prism (fun i=>labF A (parI (2 ^ (d+1)) i)) (labF F)))).sum:=by
  have:∀(l:List (List Int)) (u v w:List Int→Int),(∀o∈l,u o=v o+w o)→(l.map u).sum=(l.map v).sum+(l.map w).sum:=by
   intro l u v w h
   induction l with
   | nil=>rfl
   | cons x r ih =>
    have h1:=h x (by simp)
    have h2:=ih (fun o ho=>h o (by simp [ho]))
    simp only [List.map_cons,List.sum_cons]
    omega
  exact this _ _ _ _ fun o ho=>fan_prism (lm o ho) (lf o ho) (hc o ho)
 have e2:((ordsD (d+1)).map (cy (prism (fun i=>labF A (parI (2 ^ (d+1)) i)) (labF F)))).sum=0:=by
  refine pairs_zero hd fun o ho i hi j hj => ?_
  refine prism_anti (lm o ho i hi) (lm o ho j hj) (lf o ho i hi) (lf o ho j hj) ?_
  intro x hx y hy
  have inm:∀ {i},i∈o→labF A (parI (2 ^ (d+1)) i)∈o.map (fun i=>labF A (parI (2 ^ (d+1)) i))++o.map (labF F):=fun h=>List.mem_append_left _ (List.mem_map_of_mem (f:=fun i=>labF A (parI (2 ^ (d+1)) i)) h)
  have inf:∀ {i},i∈o→labF F i∈o.map (fun i=>labF A (parI (2 ^ (d+1)) i))++o.map (labF F):=fun h=>List.mem_append_right _ (List.mem_map_of_mem h)
  have sub:∀z ∈ [labF A (parI (2 ^ (d+1)) i),labF A (parI (2 ^ (d+1)) j),labF F i,labF F j],z∈o.map (fun i=>labF A (parI (2 ^ (d+1)) i))++o.map (labF F):=by
   intro z hz
   simp only [List.mem_cons,List.not_mem_nil,or_false]at hz
   rcases hz with rfl | rfl | rfl | rfl
   ·exact inm hi
   ·exact inm hj
   ·exact inf hi
   ·exact inf hj
  exact hc o ho x (sub x hx) y (sub y hy)
 rw [e1,e2,Int.add_zero]
 have hlabA:∀o∈ordsD d,∀i∈o,isLab (labF A i):=fun o ho i hi=>labF_lab hA (ordsD_bnd hA.hd ho i hi)
 have e3:((ordsD (d+1)).map fun o=>fan (o.map (fun i=>labF A (parI (2 ^ (d+1)) i))))=((ordsD (d+1)).map fun l=>l.map (parI (2 ^ (d+1)))).map (fun l=>fan (l.map (labF A))):=by
  rw [List.map_map]
  refine List.map_congr_left fun o _ => ?_
  simp only [Function.comp,List.map_map]
  rfl
 have z1:∀l∈(ordsD (d+1)).map (fun l=>l.map (parI (2 ^ (d+1)))),(!deg l)=false→fan (l.map (labF A))=0:=by
  intro l hl hg
  obtain⟨o,ho,rfl⟩:=List.mem_map.1 hl
  refine deg_zero (fun x hx => ?_) (by simpa using hg)
  obtain⟨i,hi,rfl⟩:=List.mem_map.1 hx
  exact lm o ho i hi
 have z2:∀l∈ordsD d,(!deg l)=false→fan (l.map (labF A))=0:=fun l hl hg=>deg_zero (hlabA l hl) (by simpa using hg)
 rw [e3,sum_filter _ z1,par_eq hd,←sum_filter _ z2]
 rfl
theorem labF_map{A:List Int}{d:Nat}(h:LabOk A d)(f:Int→Int){i:Int}(hi:0≤i∧i<((6*2 ^ d*2 ^ d:Nat):Int)):labF (A.map f) i=f (labF A i):=by
 have hlt:i.toNat<A.length:=by rw [h.len];omega
 unfold labF
 rw [List.getD_eq_getElem?_getD,List.getElem?_map,List.getElem?_eq_getElem hlt,List.getD_eq_getElem?_getD,List.getElem?_eq_getElem hlt]
 rfl
theorem tot_opp{A:List Int}{d:Nat}(h:LabOk A d)(hc:∀o∈ordsD d,coL (o.map (labF A))):tot (A.map opL) d = -tot A d:=by
 have hd:=h.hd
 have e1:tot (A.map opL) d=((ordsD d).map fun o=>fan ((o.map (labF A)).map opL)).sum:=by
  unfold tot
  congr 1
  refine List.map_congr_left fun o ho => ?_
  rw [List.map_map]
  congr 1
  refine List.map_congr_left fun i hi => ?_
  exact labF_map h opL (ordsD_bnd hd ho i hi)
 have e2:∀(l:List (List Int)),(∀o∈l,o∈ordsD d)→(l.map fun o=>fan (o.map (labF A))).sum+(l.map fun o=>fan ((o.map (labF A)).map opL)).sum=(l.map (cy fun i j=>hh (labF A i) (labF A j))).sum:=by
  intro l
  induction l with
  | nil=>intro _;rfl
  | cons o r ih =>
   intro hl
   have h1:=ih (fun x hx=>hl x (by simp [hx]))
   have h2:fan (o.map (labF A))+fan ((o.map (labF A)).map opL)=cy hh (o.map (labF A)):=fan_opp (by
    intro x hx
    obtain⟨i,hi,rfl⟩:=List.mem_map.1 hx
    exact labF_lab h (ordsD_bnd hd (hl o (by simp)) i hi)) (hc o (hl o (by simp)))
   rw [cy_map]at h2
   simp only [List.map_cons,List.sum_cons]
   omega
 have e3:=e2 (ordsD d) (fun _ h=>h)
 rw [pairs_zero hd (g:=fun i j=>hh (labF A i) (labF A j)) (fun o ho i hi j hj=>hh_anti (labF_lab h (ordsD_bnd hd ho i hi)) (labF_lab h (ordsD_bnd hd ho j hj)))]at e3
 rw [e1]
 unfold tot
 omega
end Go.Ev.G

namespace Go.Ev.G
open Go Go.Ev
set_option maxRecDepth 100000
variable {ks : List Int}

theorem cubeL(hk:bytesOk ks){z:Bx3}{x4:List Tm}(hx4:x4.length=3){xs:List Int}(hxs:xs.length=3)(hx:∀x∈xs,0≤x∧x<3):∀(j i:Nat) (c:Cu) (m:Nat) (acc:List (List Tm)),i+j=3→acc.length=i→(∀r∈acc,r.length≤20)→CurOk c m→m+8*j≤1000000000 →
  Ok (fun k q=>spec_l1Cur_cubeSystem_L506 k ks q c z x4 acc xs (xs.length:Int) i) (fun w=>∃y,w = .inr y∧CurOk y.1 (m+8*j)∧y.2.2.1.length=3∧(∀r∈y.2.2.1,r.length≤20))
 | 0,i,c,m,acc,h,ha,hr,hc,hm=>Ok.step (fun k q=>spec_l1Cur_cubeSystem_L506.eq_2 k ks _ _ _ _ _ _ _ q) (Ok.cf (decide_eq_false (by omega)) (.pure ⟨_,rfl,hc.mono (by omega) (by omega),by simp only;omega,hr⟩))
 | j+1,i,c,m,acc,h,ha,hr,hc,hm=>by
  have hxi:=hx _ (getD_in (l:=xs) (j:=Int.toNat (i:Int)) (z:=0) (by omega))
  refine Ok.step (fun k q=>spec_l1Cur_cubeSystem_L506.eq_2 k ks _ _ _ _ _ _ _ q) (Ok.lt (by omega) (Ok.le (by omega) (Ok.lt (by omega) (Ok.le hxi.1 (Ok.lt (by omega) ?_)))))
  generalize x4.getD (Int.toNat (xs.getD (Int.toNat (i:Int)) 0)) (0,0,0,0)=t
  refine Ok.bth (P:=fun y=>CurOk y.1 (m+8)∧y.2.1=z∧y.2.2.1=x4∧y.2.2.2.1=acc∧y.2.2.2.2.1.length≤2∧y.2.2.2.2.2.1=xs∧y.2.2.2.2.2.2.1=(xs.length:Int)∧y.2.2.2.2.2.2.2.1=(i:Int)) ?_ fun y hy => ?_
  ·refine Ok.bind (oneK hk hc (by omega) (by omega)) fun r8 h8=>Ok.ite (fun _ => ?_) (fun _ => .pure ⟨_,rfl,h8.mono (by omega) (by omega),rfl,rfl,rfl,by simp,rfl,rfl,rfl⟩)
   refine Ok.bind (amongK hk h8 (by omega) (by simp) (by simp)) fun r9 h9=>Ok.bind (pickK hk h9.1 (by omega) (by omega)) fun r10 h10=>Ok.bind (pickK hk h10.1 (by omega) (by omega)) fun r11 h11=>Ok.bind (poAddO (by simp) (by simp)) fun r12 h12 => ?_
   simp only [List.length_cons,List.length_nil]at h12
   exact Ok.ite (fun _ => .pure ⟨_,rfl,h11.1.mono (by omega) (by omega),rfl,rfl,rfl,by simp only;omega,rfl,rfl,rfl⟩) (fun _ => .pure ⟨_,rfl,h11.1.mono (by omega) (by omega),rfl,rfl,rfl,by simp,rfl,rfl,rfl⟩)
  ·obtain⟨y1,y2,y3,y4,y5,y6,y7,y8⟩:=hy
   rw [y2,y3,y4,y6,y7,y8,w64_next (m:=i) (by simp only [lenB];omega)]
   refine Ok.ltN (by simp;omega) ?_
   have:=cubeL hk (z:=z) hx4 hxs hx j (i+1) y.1 (m+8) (acc ++ [y.2.2.2.2.1]) (by omega) (by simp;omega) (fun r hr'=>by
    rcases List.mem_append.1 hr' with hr' | hr'
    ·exact hr r hr'
    ·simp at hr'
     rw [hr']
     omega) y1 (by omega)
   exact this.mono fun w hw=>by obtain⟨v,e,v1,v2⟩:=hw;exact⟨v,e,v1.mono (by omega) (by omega),v2⟩
theorem cubeSystemO(hk:bytesOk ks){c:Cu}{m:Nat}(h:CurOk c m)(hm:m+8000≤1000000000):Ok (fun k _=>spec_l1Cur_cubeSystem k ks c) (fun r=>CurOk r.2.2 (m+8000)∧syS r.1∧bxS r.2.1):=by
 refine Ok.eq (fun k q=>by rw [spec_l1Cur_cubeSystem]) ?_
 refine Ok.bind (oneK hk h (by omega) (by omega)) fun r1 h1=>Ok.ite (fun _ => ?_) (fun _ => ?_)
 ·exact Ok.bind (anySystemO hk h1 (by omega)) fun r2 h2=>Ok.bind (anyBoxO (n:=3) hk h2.1 (by omega) (by omega) (by omega)) fun r3 h3 => .pure ⟨h3.1.mono (by omega) (by omega),h2.2,h3.2⟩
 refine Ok.bind (amongK hk h1 (by omega) (by simp) (by simp)) fun r4 h4=>Ok.bind (amongK hk h4.1 (by omega) (by simp) (by simp)) fun r5 h5=>Ok.bind (amongK hk h5.1 (by omega) (by simp) (by simp)) fun r6 h6=>Ok.bind (pickK hk h6.1 (by omega) (by omega)) fun r7 h7 => ?_
 have a7:=h7.2.1
 have b7:r7.1<4:=h7.2.2 (by decide)
 refine Ok.le a7 (Ok.lt b7 ?_)
 have e7:r7.1=0∨r7.1=1∨r7.1=2∨r7.1=3:=by omega
 refine Ok.bth (P:=fun y=>CurOk y.1 (m+200)∧syS y.2.2.1) ?_ fun y hy => ?_
 ·have hl:(([([0,1,2]:List Int),([1,0,2]:List Int),([2,1,0]:List Int),([1,2,0]:List Int)]:List (List Int)).getD (Int.toNat r7.1) []).length=3:=by
   rcases e7 with e | e | e | e <;> rw [e] <;> rfl
  have hmem:∀x∈(([([0,1,2]:List Int),([1,0,2]:List Int),([2,1,0]:List Int),([1,2,0]:List Int)]:List (List Int)).getD (Int.toNat r7.1) []),0≤x∧x<3:=by
   rcases e7 with e | e | e | e <;> rw [e] <;> decide
  refine(Ok.diag (cubeL hk (z:=(0,[],[])) (x4 := [(r4.1,1,0,0),(r5.1,0,1,0),(r6.1,0,0,1)]) rfl hl hmem 3 0 r7.2 (m+100) [] rfl rfl (by simp) (h7.1.mono (by omega) (by omega)) (by omega))).mono fun w hw => ?_
  obtain⟨v,e,v1,v2,v3⟩:=hw
  exact⟨v,e,v1.mono (by omega) (by omega),by omega,fun r hr=>by have:=v3 r hr;omega⟩
 refine Ok.bth (P:=fun y=>CurOk y.1 (m+300)∧syS y.2.2.1) ?_ fun y' hy' => ?_
 ·exact Ok.bind (pickK hk hy.1 (by omega) (by omega)) fun r18 h18=>Ok.ite (fun _ => .pure ⟨_,rfl,h18.1.mono (by omega) (by omega),by simp,by simp⟩) (fun _=>Ok.ite (fun _ => .pure ⟨_,rfl,h18.1.mono (by omega) (by omega),by simp,by simp⟩) (fun _ => .pure ⟨_,rfl,h18.1.mono (by omega) (by omega),hy.2⟩))
 ·exact Ok.bind (amongK hk hy'.1 (by omega) (by simp) (by simp)) fun r20 h20=>Ok.bind (oneK hk h20.1 (by omega) (by omega)) fun r21 h21=>Ok.ite (fun _=>Ok.bind (coarseO (n:=3) hk h21 (by omega) (by omega)) fun r22 h22 => .pure ⟨h22.1.mono (by omega) (by omega),hy'.2,h22.2.s (by omega)⟩) (fun _ => .pure ⟨h21.mono (by omega) (by omega),hy'.2,by simp,by simp⟩)
theorem cellDepthK(hk:bytesOk ks){c:Cu}{m:Nat}(h:CurOk c m)(hm:m+100≤1000000000):Ok (fun _ _=>spec_l1Cur_cellDepth ks c) (fun r=>CurOk r.2 (m+4) ∧ -1≤r.1∧r.1≤3):=by
 unfold spec_l1Cur_cellDepth
 refine Ok.bind (amongK hk h (by omega) (by simp) (by simp)) fun r1 h1=>Ok.bind (amongK hk h1.1 (by omega) (by simp) (by simp)) fun r2 h2 => .pure ⟨h2.1.mono (by omega) (by omega),?_⟩
 have m1:=h1.2
 have m2:=h2.2
 simp only [List.mem_cons,List.not_mem_nil,or_false]at m1 m2
 simp only
 omega
theorem cbDepthO(d:Int):Ok (fun _ _=>spec_cbDepth d) (fun r=>r=decide (0≤d∧d≤2)):=by
 unfold spec_cbDepth
 exact Ok.bind (Ok.const (P:=fun r=>r=decide (0≤d∧d≤2)) (l1In_eq d 0 2) rfl) fun r hr => .pure hr
theorem labelsL(hk:bytesOk ks){d:Int}{N:Nat}(hN:N≤96):∀(j:Nat) (acc:List Int) (c:Cu) (m:Nat),acc.length+j=N→CurOk c m→m+2*j≤1000000000 →
  Ok (fun k q=>spec_l1Cur_cellLabels_L124 k ks q c d acc (N:Int)) (fun w=>∃y,w = .inr y∧CurOk y.1 (m+2*j)∧y.2.1=d∧y.2.2.1.length=N)
 | 0,acc,c,m,h,hc,hm=>Ok.step (fun k q=>spec_l1Cur_cellLabels_L124.eq_2 k ks _ _ _ _ q) (Ok.cf (decide_eq_false (by omega)) (.pure ⟨_,rfl,hc.mono (by omega) (by omega),rfl,by simp only;omega⟩))
 | j+1,acc,c,m,h,hc,hm=>by
  refine Ok.step (fun k q=>spec_l1Cur_cellLabels_L124.eq_2 k ks _ _ _ _ q) (Ok.lt (by omega) (Ok.bind (amongK hk hc (by omega) (by simp) (by simp)) fun r4 h4=>Ok.ltN (by simp;omega) ?_))
  have:=labelsL hk (d:=d) hN j (acc ++ [r4.1]) r4.2 (m+2) (by simp;omega) h4.1 (by omega)
  exact this.mono fun w hw=>by obtain⟨v,e,v1,v2⟩:=hw;exact⟨v,e,v1.mono (by omega) (by omega),v2⟩
theorem cellLabelsO(hk:bytesOk ks){c:Cu}{m:Nat}(h:CurOk c m)(hm:m+400≤1000000000)(d:Int):Ok (fun k _=>spec_l1Cur_cellLabels k ks c d) (fun r=>CurOk r.2 (m+400)∧r.1.length≤96):=by
 refine Ok.eq (fun k q=>by rw [spec_l1Cur_cellLabels]) ?_
 refine Ok.bth (P:=fun y=>CurOk y.1 m∧y.2.2.1 = []∧∃N:Nat,y.2.2.2.1=(N:Int)∧6≤N∧N≤96) ?_ fun y hy => ?_
 ·refine Ok.bind (cbDepthO d) fun r1 h1=>Ok.ite (fun e => ?_) (fun _ => .pure ⟨_,rfl,h,rfl,6,rfl,by omega,by omega⟩)
  rw [h1]at e
  have e:=of_decide_eq_true e
  obtain⟨n,rfl⟩:∃n:Nat,d=n:=⟨d.toNat,by omega⟩
  have hn:n≤2:=by omega
  have hl:=cellsV_len hn
  have h1:1≤2 ^ (2*n):=Nat.one_le_two_pow
  exact Ok.bind (Ok.const (P:=fun r=>r=(((cellsV (2 ^ n)).length:Nat):Int)) (cbCount_eq hn) rfl) fun r2 h2 => .pure ⟨_,rfl,h,rfl,_,h2,by omega,by omega⟩
 ·obtain⟨y1,y2,N,y3,y4,y5⟩:=hy
  rw [y2,y3]
  refine Ok.bth (Ok.diag (labelsL hk y5 N [] y.1 m (by simp) y1 (by omega))) fun y' hy' => ?_
  obtain⟨z1,z2,z3⟩:=hy'
  refine Ok.bth (P:=fun y=>CurOk y.1 (m+300)∧1≤y.2.1.length∧y.2.1.length≤96) ?_ fun u hu => ?_
  ·have own:CurOk y'.1 (m+300):=z1.mono (by omega) (by omega)
   have z1:CurOk y'.1 (m+200):=z1.mono (by omega) (by omega)
   exact Ok.ite (fun _=>Ok.bind (oneK hk z1 (by omega) (by omega)) fun r8 h8=>Ok.ite (fun _=>Ok.bind (oneK hk h8 (by omega) (by omega)) fun r9 h9=>Ok.ite (fun _ => .pure ⟨_,rfl,h9.mono (by omega) (by omega),by simp⟩) (fun _ => .pure ⟨_,rfl,h9.mono (by omega) (by omega),by simp⟩)) (fun _ => .pure ⟨_,rfl,h8.mono (by omega) (by omega),by simp only;omega,by simp only;omega⟩)) (fun _ => .pure ⟨_,rfl,own,by simp only;omega,by simp only;omega⟩)
  ·obtain⟨u1,u2,u3⟩:=hu
   refine Ok.bind (pickK hk u1 (by omega) (by omega)) fun r11 h11=>Ok.ite (fun _=>Ok.le (by omega) (.pure ⟨h11.1.mono (by omega) (by omega),by simp;omega⟩)) (fun _=>Ok.ite (fun _ => ?_) (fun _ => .pure ⟨h11.1.mono (by omega) (by omega),u3⟩))
   exact Ok.bind (amongK hk h11.1 (by omega) (by simp) (by simp)) fun r12 h12=>Ok.lt (by omega) (.pure ⟨h12.1.mono (by omega) (by omega),by simp;omega⟩)
theorem syS.lb{s:List (List Tm)}(h:syS s):s.length<lenB∧∀r∈s,r.length<lenB:=⟨by have:=h.1;simp only [lenB];omega,fun r hr=>by have:=h.2 r hr;simp only [lenB];omega⟩
theorem bxS.lb{b:Bx3}(h:bxS b):b.2.1.length<lenB:=by have:=h.1;simp only [lenB];omega
theorem drawSurfaceLabelsO(hk:bytesOk ks):Ok (fun k _=>spec_DrawSurfaceLabels k ks) (fun r=>syS r.1∧bxS r.2.1):=by
 refine Ok.eq (fun k q=>by rw [spec_DrawSurfaceLabels]) ?_
 exact Ok.bind (cubeSystemO hk curZ (by omega)) fun r1 h1=>Ok.bind (cellDepthK hk h1.1 (by omega)) fun r2 h2 => .pure h1.2
end Go.Ev.G

namespace Go.Ev.G
open Go Go.Ev
set_option maxRecDepth 100000

theorem ivGd.gdI{x:Iv}(h:ivGd x):gdI x:=⟨h.1,h.2.1⟩
end Go.Ev.G

namespace Go.Ev.G
open Go Go.Ev
set_option maxRecDepth 100000

def small4(T:List Pt):Prop:=T.length≤4∧∀r∈T,r.length≤4
end Go.Ev.G

namespace Go.Ev.G
open Go Go.Ev
set_option maxRecDepth 100000

structure Sm(m:List Pt):Prop where
 l:m.length≤1000
 r:∀r∈m,r.length≤1000
theorem Sm.of{m:List Pt}(h:small4 m):Sm m:=⟨by have:=h.1;omega,fun r hr=>by have:=h.2 r hr;omega⟩
theorem Sm.lb{m:List Pt}(h:Sm m):m.length<lenB:=by have:=h.l;simp only [lenB];omega
theorem Sm.lm{m:List Pt}(h:Sm m):m.length<274877906944:=by have:=h.l;omega
theorem Sm.id(n:Nat)(hn:n≤1000)(d:Int×Int):Sm (idT n d):=by
 refine⟨by simp [idT];omega,fun r hr => ?_⟩
 unfold idT at hr
 obtain⟨i,_,rfl⟩:=List.mem_map.1 hr
 simp;omega
theorem bytes_of{a:List Int}(h:WfT (.sl (.int .u8)) a):bytesOk a:=by
 intro x hx
 have h2:(decide (IntKind.u8.min≤x)&&decide (x≤IntKind.u8.max))=true:=h.2 x hx
 rw [Bool.and_eq_true]at h2
 have h3:=of_decide_eq_true h2.1
 have h4:=of_decide_eq_true h2.2
 have e1:IntKind.u8.min=0:=rfl
 have e2:IntKind.u8.max=255:=rfl
 rw [e1]at h3
 rw [e2]at h4
 exact⟨h3,h4⟩
end Go.Ev.G

namespace Go.Ev.G
open Go Go.Ev
set_option maxRecDepth 100000

theorem same_all{α:Type}{L:Nat→Nat→Int→Option (Bool ⊕ Unit)}{xs:List α}{z:α}{e:Nat→α→Option Bool}(hb:xs.length<lenB)(he:∀x∈xs,Evt (fun k _=>e k x) true)
  (hL:∀k n i,L k (n+1) i=(bif (decide (i<(xs.length:Int)))then(bif (decide (0≤i))then(bif (decide (i<(xs.length:Int)))then(bif (decide (0≤i))then(bif (decide (i<(xs.length:Int)))then(Option.bind (e k (xs.getD (Int.toNat i) z)) fun r=>(bif (!r)then some (Sum.inl false)else L k n (IntKind.wrap .i64 (i+1))))else none)else none)else none)else none)else some (.inr ()))) :
  Evt (fun k n=>L k n 0) (.inr ()):=by
 have key:∀(r d:List α),d++r=xs→Evt (fun k n=>L k n d.length) (.inr ()):=by
  intro r
  induction r with
  | nil =>
   intro d h
   rw [List.append_nil]at h
   subst h
   refine Evt.step (fun k n=>hL k n _) ?_
   rw [mid_end]
   exact Evt.cfalse rfl .pure
  | cons x r ih =>
   intro d h
   subst h
   refine Evt.step (fun k n=>hL k n _) (Evt.ctrue mid_lt (Evt.ctrue mid_ge (Evt.ctrue mid_lt (Evt.ctrue mid_ge (Evt.ctrue mid_lt ?_)))))
   rw [mid_get]
   refine Evt.bind (he x (by simp)) (Evt.cfalse rfl ?_)
   rw [len_next hb]
   exact ih (d ++ [x]) (by simp)
 exact key xs [] rfl
end Go.Ev.G

namespace Go.Ev.G
open Go Go.Ev
set_option maxRecDepth 100000

structure CellC(s:Int)(c:Cl)(x y:Int×Int×Int):Prop where
 a0:0≤x.1∧x.1≤y.1∧y.1≤s
 a1:0≤x.2.1∧x.2.1≤y.2.1∧y.2.1≤s
 a2:0≤x.2.2∧x.2.2≤y.2.2∧y.2.2≤s
 e0:if c.1=0 then(x.1=y.1∧x.1=if c.2.1 then s else 0)else x.1<y.1
 e1:if c.1=1 then(x.2.1=y.2.1∧x.2.1=if c.2.1 then s else 0)else x.2.1<y.2.1
 e2:if c.1=2 then(x.2.2=y.2.2∧x.2.2=if c.2.1 then s else 0)else x.2.2<y.2.2
theorem cell_c{dep:Nat}{c:Cl}(hd:dep≤2)(h:cellV dep c=true):CellC (2 ^ dep) c (lowV c (2 ^ dep)) (upV c.1 0 (lowV c (2 ^ dep)).1,upV c.1 1 (lowV c (2 ^ dep)).2.1,upV c.1 2 (lowV c (2 ^ dep)).2.2):=by
 have hp:=pow2 hd
 unfold cellV at h
 simp only [Bool.and_eq_true,decide_eq_true_eq,Int.toNat_natCast]at h
 obtain⟨_,k1,k2,k3⟩:=h
 obtain⟨ax,u,i,j⟩:=c
 simp only at k1 k2 k3
 generalize (2:Int) ^ dep=s at hp k2 k3
 rcases(by omega:ax=0∨ax=1∨ax=2)with rfl | rfl | rfl <;> cases u <;> constructor <;> simp [lowV,upV] <;> omega
theorem dlAsk_of{A:List Int}{d:Nat}(h:LabOk A d):dlAsk A d=true:=by
 unfold dlAsk labsB
 simp only [Bool.and_eq_true,decide_eq_true_eq,beq_iff_eq,List.all_eq_true,Int.toNat_natCast]
 exact⟨⟨by have:=h.hd;omega,by rw [h.len]⟩,fun x hx=>h.lab x hx⟩
end Go.Ev.G

namespace Go.Ev.G
open Go Go.Ev
set_option maxRecDepth 100000

def inC(c:Cl)(s f:Int)(p:Int×Int×Int):Bool :=
 (decide (f*(lowV c s).1≤p.1)&&decide (p.1≤f*upV c.1 0 (lowV c s).1))&&((decide (f*(lowV c s).2.1≤p.2.1)&&decide (p.2.1≤f*upV c.1 1 (lowV c s).2.1))&&(decide (f*(lowV c s).2.2≤p.2.2)&&decide (p.2.2≤f*upV c.1 2 (lowV c s).2.2)))
def cellN(n:Nat)(i:Nat):Cl:=(cellsV n).getD i (0,false,0,0)
def cell4(i:Nat):Cl:=(((i / 32:Nat):Int),(i / 16 % 2==1),((i / 4 % 4:Nat):Int),((i % 4:Nat):Int))
def cell2(i:Nat):Cl:=(((i / 8:Nat):Int),(i / 4 % 2==1),((i / 2 % 2:Nat):Int),((i % 2:Nat):Int))
def cell1(i:Nat):Cl:=(((i / 2:Nat):Int),(i % 2==1),0,0)
theorem cell4_eq:cellsV 4=(List.range 96).map cell4:=by kernel_rfl
theorem cell2_eq:cellsV 2=(List.range 24).map cell2:=by kernel_rfl
theorem cell1_eq:cellsV 1=(List.range 6).map cell1:=by kernel_rfl
theorem range_getD{β:Type}(f:Nat→β){m i:Nat}{z:β}(h:i<m):((List.range m).map f).getD i z=f i:=by
 rw [List.getD_eq_getElem?_getD,List.getElem?_map,List.getElem?_range h]
 rfl
theorem cellN4{i:Nat}(h:i<96):cellN 4 i=cell4 i:=by unfold cellN;rw [cell4_eq,range_getD _ h]
theorem cellN2{i:Nat}(h:i<24):cellN 2 i=cell2 i:=by unfold cellN;rw [cell2_eq,range_getD _ h]
theorem cellN1{i:Nat}(h:i<6):cellN 1 i=cell1 i:=by unfold cellN;rw [cell1_eq,range_getD _ h]
def chk(cs:Nat→Cl)(s f:Int)(g:Nat→Nat)(q:(Int×Int×Int)×List Int):Bool:=q.2.all fun i=>inC (cs (g i.toNat)) s f q.1
theorem zip_self2{α β:Type}(f:α→β):∀l:List α,l.zip (l.map f)=l.map fun x=>(x,f x)
 | []=>rfl
 | a::r=>by simp only [List.map_cons,List.zip_cons_cons,zip_self2 f r]
theorem chk_at{n x d:Nat}{T:List (List Int)}{cs:Nat→Cl}{s f:Int}{g:Nat→Nat}(hT:(cornX n x).map (ordV d n)=T)(h:(((cornX n x).zip T).all (chk cs s f g))=true){p:Int×Int×Int}(hp:p∈cornX n x){i:Int}(hi:i∈ordV d n p):inC (cs (g i.toNat)) s f p=true:=by
 rw [←hT,zip_self2,List.all_map,List.all_eq_true]at h
 exact List.all_eq_true.1 (h p hp) i hi
theorem inC0_0:(((cornX 1 0).zip oT0_0).all (chk cell1 1 1 id))=true:=by kernel_rfl
theorem inC0_1:(((cornX 1 1).zip oT0_1).all (chk cell1 1 1 id))=true:=by kernel_rfl
theorem inC1_0:(((cornX 2 0).zip oT1_0).all (chk cell2 2 1 id))=true:=by kernel_rfl
theorem inC1_1:(((cornX 2 1).zip oT1_1).all (chk cell2 2 1 id))=true:=by kernel_rfl
theorem inC1_2:(((cornX 2 2).zip oT1_2).all (chk cell2 2 1 id))=true:=by kernel_rfl
theorem inC2_0:(((cornX 4 0).zip oT2_0).all (chk cell4 4 1 id))=true:=by kernel_rfl
theorem inC2_1:(((cornX 4 1).zip oT2_1).all (chk cell4 4 1 id))=true:=by kernel_rfl
theorem inC2_2:(((cornX 4 2).zip oT2_2).all (chk cell4 4 1 id))=true:=by kernel_rfl
theorem inC2_3:(((cornX 4 3).zip oT2_3).all (chk cell4 4 1 id))=true:=by kernel_rfl
theorem inC2_4:(((cornX 4 4).zip oT2_4).all (chk cell4 4 1 id))=true:=by kernel_rfl
theorem inP1_0:(((cornX 2 0).zip oT1_0).all (chk cell1 1 2 (parN 2)))=true:=by kernel_rfl
theorem inP1_1:(((cornX 2 1).zip oT1_1).all (chk cell1 1 2 (parN 2)))=true:=by kernel_rfl
theorem inP1_2:(((cornX 2 2).zip oT1_2).all (chk cell1 1 2 (parN 2)))=true:=by kernel_rfl
theorem inP2_0:(((cornX 4 0).zip oT2_0).all (chk cell2 2 2 (parN 4)))=true:=by kernel_rfl
theorem inP2_1:(((cornX 4 1).zip oT2_1).all (chk cell2 2 2 (parN 4)))=true:=by kernel_rfl
theorem inP2_2:(((cornX 4 2).zip oT2_2).all (chk cell2 2 2 (parN 4)))=true:=by kernel_rfl
theorem inP2_3:(((cornX 4 3).zip oT2_3).all (chk cell2 2 2 (parN 4)))=true:=by kernel_rfl
theorem inP2_4:(((cornX 4 4).zip oT2_4).all (chk cell2 2 2 (parN 4)))=true:=by kernel_rfl
theorem in_cell{d x y z:Nat}(hd:d≤2)(hx:x≤2 ^ d)(hy:y≤2 ^ d)(hz:z≤2 ^ d){i:Int}(hi:i∈ordV d (2 ^ d) ((x:Int),(y:Int),(z:Int))):inC (cellN (2 ^ d) i.toNat) ((2 ^ d:Nat):Int) 1 ((x:Int),(y:Int),(z:Int))=true:=by
 have hb:=ord_bnd ⟨hd,by omega,by omega,by omega,by omega,by omega,by omega⟩ i hi
 have hp:((x:Int),(y:Int),(z:Int))∈cornX (2 ^ d) x:=cornX_mem (by omega) (by omega) (by omega) (by omega)
 rcases(by omega:d=0∨d=1∨d=2)with rfl | rfl | rfl
 ·have e6:(6*2 ^ 0*2 ^ 0:Nat)=6:=by decide
  have hb2:i.toNat<6:=by omega
  have e:cellN (2 ^ 0) i.toNat=cell1 i.toNat:=cellN1 hb2
  rw [e]
  have hx2:x≤1:=hx
  rcases(by omega:x=0∨x=1)with rfl | rfl
  ·exact chk_at oT0_0_eq inC0_0 hp hi
  ·exact chk_at oT0_1_eq inC0_1 hp hi
 ·have e6:(6*2 ^ 1*2 ^ 1:Nat)=24:=by decide
  have hb2:i.toNat<24:=by omega
  have e:cellN (2 ^ 1) i.toNat=cell2 i.toNat:=cellN2 hb2
  rw [e]
  have hx2:x≤2:=hx
  rcases(by omega:x=0∨x=1∨x=2)with rfl | rfl | rfl
  ·exact chk_at oT1_0_eq inC1_0 hp hi
  ·exact chk_at oT1_1_eq inC1_1 hp hi
  ·exact chk_at oT1_2_eq inC1_2 hp hi
 ·have e6:(6*2 ^ 2*2 ^ 2:Nat)=96:=by decide
  have hb2:i.toNat<96:=by omega
  have e:cellN (2 ^ 2) i.toNat=cell4 i.toNat:=cellN4 hb2
  rw [e]
  have hx2:x≤4:=hx
  rcases(by omega:x=0∨x=1∨x=2∨x=3∨x=4)with rfl | rfl | rfl | rfl | rfl
  ·exact chk_at oT2_0_eq inC2_0 hp hi
  ·exact chk_at oT2_1_eq inC2_1 hp hi
  ·exact chk_at oT2_2_eq inC2_2 hp hi
  ·exact chk_at oT2_3_eq inC2_3 hp hi
  ·exact chk_at oT2_4_eq inC2_4 hp hi
theorem in_par{d x y z:Nat}(hd:d+1≤2)(hx:x≤2 ^ (d+1))(hy:y≤2 ^ (d+1))(hz:z≤2 ^ (d+1)){i:Int}(hi:i∈ordV (d+1:Nat) (2 ^ (d+1)) ((x:Int),(y:Int),(z:Int))):inC (cellN (2 ^ d) (parI (2 ^ (d+1)) i).toNat) ((2 ^ d:Nat):Int) 2 ((x:Int),(y:Int),(z:Int))=true:=by
 have hb:=ord_bnd ⟨hd,by omega,by omega,by omega,by omega,by omega,by omega⟩ i hi
 have hq:=par_bnd hd hb
 have hp:((x:Int),(y:Int),(z:Int))∈cornX (2 ^ (d+1)) x:=cornX_mem (by omega) (by omega) (by omega) (by omega)
 have ep:(parI (2 ^ (d+1)) i).toNat=parN (2 ^ (d+1)) i.toNat:=by unfold parI;rw [Int.toNat_natCast]
 rw [ep]at *
 rcases(by omega:d=0∨d=1)with rfl | rfl
 ·have e6:(6*2 ^ 0*2 ^ 0:Nat)=6:=by decide
  have hb2:parN (2 ^ (0+1)) i.toNat<6:=by unfold parI at hq;omega
  have e:cellN (2 ^ 0) (parN (2 ^ (0+1)) i.toNat)=cell1 (parN 2 i.toNat):=cellN1 hb2
  rw [e]
  have hx2:x≤2:=hx
  rcases(by omega:x=0∨x=1∨x=2)with rfl | rfl | rfl
  ·exact chk_at oT1_0_eq inP1_0 hp hi
  ·exact chk_at oT1_1_eq inP1_1 hp hi
  ·exact chk_at oT1_2_eq inP1_2 hp hi
 ·have e6:(6*2 ^ 1*2 ^ 1:Nat)=24:=by decide
  have hb2:parN (2 ^ (1+1)) i.toNat<24:=by unfold parI at hq;omega
  have e:cellN (2 ^ 1) (parN (2 ^ (1+1)) i.toNat)=cell2 (parN 4 i.toNat):=cellN2 hb2
  rw [e]
  have hx2:x≤4:=hx
  rcases(by omega:x=0∨x=1∨x=2∨x=3∨x=4)with rfl | rfl | rfl | rfl | rfl
  ·exact chk_at oT2_0_eq inP2_0 hp hi
  ·exact chk_at oT2_1_eq inP2_1 hp hi
  ·exact chk_at oT2_2_eq inP2_2 hp hi
  ·exact chk_at oT2_3_eq inP2_3 hp hi
  ·exact chk_at oT2_4_eq inP2_4 hp hi
end Go.Ev.G

namespace Go.Ev.G
open Go Go.Ev
set_option maxRecDepth 100000

structure TriS(s:List (List Tm)):Prop where
 cb:Cb s
 t:∀i,i<3→∀t∈s.getD i [],tmW t∧tmS 3 t
theorem three_S{s:List (List Tm)}{b:Bx}(h:cubeV s b=true)(hm:∀r∈s,r.length<lenB):TriS s∧cbV b=true:=by
 obtain⟨hc,hb⟩:=cubeV_form h hm
 refine⟨⟨hc,fun i hi t ht => ?_⟩,hb⟩
 have hp:s.getD i []∈s:=getD_in (by have:=hc.ln;omega)
 refine⟨hc.tm _ hp t ht,?_⟩
 unfold cubeV sysV at h
 rw [Bool.and_eq_true,Bool.and_eq_true,List.all_eq_true]at h
 have h1:=h.1.1 _ hp
 rw [Bool.and_eq_true]at h1
 have hg:=polyV_gd h1.1 t ht
 obtain⟨c,x,y,z,d⟩:=hg
 have hd:degT t≤4:=by unfold degT;omega
 refine⟨x.1,y.1,z.1,hd,?_,fun _=>by omega,fun _=>by omega,fun _=>by omega⟩
 have h1:2 ^ (3*degT t)≤2 ^ 12:=Nat.pow_le_pow_right (by decide) (by omega)
 exact Nat.le_trans (Nat.mul_le_mul (show t.1.natAbs≤1000 by omega) h1) (by decide)
structure HoldP(s:List (List Tm))(M:Nat)(pt:Pt)(a:Int):Prop where
 lab:isLab a
 pos:a<3→0<atP s M pt (a.toNat % 3)
 neg:3≤a→atP s M pt (a.toNat % 3)<0
theorem hold_at{s:List (List Tm)}(hs:TriS s){sides:List Iv}(hsd:∀i∈sides,ivGd i){M:Nat}{pt:Pt}(hM:M≤24)(hl:pt.length=3)(hp:∀x∈pt,0≤x.2∧x.2≤M)(hin:ptIn pt sides){a:Int}(ha:isLab a)(h:hV 3 s sides a.toNat=true):HoldP s M pt a:=by
 have hb:=ptIn_inBx hM hp hsd hin
 unfold isLab at ha
 unfold hV at h
 split at h
 ·rename_i v hv
  have:=sgI_at (by omega) hb (fun t ht=>by rw [hl];exact hs.t (a.toNat % 3) (by omega) t ht) hv
  rw [beq_iff_eq]at h
  exact⟨ha,fun h2=>this.1 (by rw [h,if_pos (by omega)]),fun h2=>this.2 (by rw [h,if_neg (by omega)])⟩
 ·cases h
def opB(a b:Int):Bool := !(opL a==b)||(b==a+3||a==b+3)
theorem opB_all:(L6.all fun a=>L6.all fun b=>opB a b)=true:=by kernel_rfl
theorem hold_co{s:List (List Tm)}{M:Nat}{pt:Pt}{a b:Int}(ha:HoldP s M pt a)(hb:HoldP s M pt b):co a b=true:=by
 have h:=all2 opB_all ha.lab hb.lab
 have la:=ha.lab
 have lb:=hb.lab
 unfold isLab at la lb
 unfold co
 cases ho:opL a==b with
 | false=>rfl
 | true =>
  exfalso
  unfold opB at h
  rw [ho]at h
  simp only [Bool.not_true,Bool.false_or,Bool.or_eq_true,beq_iff_eq]at h
  have hm:a.toNat % 3=b.toNat % 3:=by omega
  have a1:=ha.pos
  have a2:=ha.neg
  have b1:=hb.pos
  have b2:=hb.neg
  rw [hm]at a1 a2
  rcases h with h | h
  ·have:=a1 (by omega);have:=b2 (by omega);omega
  ·have:=a2 (by omega);have:=b1 (by omega);omega

def ptC(b:Bx)(d:Nat)(x y z:Int):Pt := [sideV b.1.toNat d (b.2.1.getD 0 0) (b.2.2.getD 0 0) x,sideV b.1.toNat d (b.2.1.getD 1 0) (b.2.2.getD 1 0) y,sideV b.1.toNat d (b.2.1.getD 2 0) (b.2.2.getD 2 0) z]
theorem mkD_ks(n:Int)(k:Nat):0≤(mkD n k).1.2∧(mkD n k).1.2≤(k:Int):=by
 unfold mkD
 split
 ·have:=strip_le k n
  simp only
  omega
 ·simp only
  omega
theorem ptC_k{b:Bx}{d:Nat}{x y z:Int}(hb:cbV b=true)(hd:d≤2):∀q∈ptC b d x y z,0≤q.2∧q.2≤(5:Nat):=by
 obtain⟨m,l0,l1,l2,h0,h1,h2,rfl,hm,g0,g1,g2⟩:=cbV_form hb
 intro q hq
 unfold ptC at hq
 simp only [Int.toNat_natCast,List.mem_cons,List.not_mem_nil,or_false]at hq
 rcases hq with rfl | rfl | rfl
 ·have:=mkD_ks (l0*2 ^ d+(h0 - l0)*x) (m+d);unfold sideV;simp at this ⊢; omega
 ·have:=mkD_ks (l1*2 ^ d+(h1 - l1)*y) (m+d);unfold sideV;simp at this ⊢; omega
 ·have:=mkD_ks (l2*2 ^ d+(h2 - l2)*z) (m+d);unfold sideV;simp at this ⊢; omega
theorem sideV_half(m d:Nat)(l h x:Int):sideV m (d+1) l h (2*x)=sideV m d l h x:=by
 unfold sideV
 have e:l*2 ^ (d+1)+(h - l)*(2*x)=(l*2 ^ d+(h - l)*x)*2 ^ 1:=by
  rw [Int.pow_succ]
  grind
 rw [e,←Nat.add_assoc,mkD_scale]
theorem in3{a0 a1 a2 u0 u1 u2 v0 v1 v2:Int×Int}(h0:sv u0≤sv a0∧sv a0≤sv v0)(h1:sv u1≤sv a1∧sv a1≤sv v1)(h2:sv u2≤sv a2∧sv a2≤sv v2):ptIn [a0,a1,a2] [(u0,v0),(u1,v1),(u2,v2)]:=by
 refine⟨rfl,fun q hq => ?_⟩
 simp only [List.zip_cons_cons,List.zip_nil_left,List.mem_cons,List.not_mem_nil,or_false]at hq
 rcases hq with rfl | rfl | rfl
 ·exact h0
 ·exact h1
 ·exact h2
theorem inC_le{c:Cl}{s f:Int}{p:Int×Int×Int}(h:inC c s f p=true):(f*(lowV c s).1≤p.1∧p.1≤f*upV c.1 0 (lowV c s).1)∧(f*(lowV c s).2.1≤p.2.1∧p.2.1≤f*upV c.1 1 (lowV c s).2.1)∧(f*(lowV c s).2.2≤p.2.2∧p.2.2≤f*upV c.1 2 (lowV c s).2.2):=by
 unfold inC at h
 simpa only [Bool.and_eq_true,decide_eq_true_eq] using h
theorem castP(n:Nat):((2 ^ n:Nat):Int)=2 ^ n:=by simp
theorem csV_form{b:Bx}{d:Nat}{c:Cl}(hb:cbV b=true)(hc:cellV d c=true):(csV b d c).1 = [(sideV b.1.toNat d (b.2.1.getD 0 0) (b.2.2.getD 0 0) (lowV c (2 ^ d)).1,sideV b.1.toNat d (b.2.1.getD 0 0) (b.2.2.getD 0 0) (upV c.1 0 (lowV c (2 ^ d)).1)),(sideV b.1.toNat d (b.2.1.getD 1 0) (b.2.2.getD 1 0) (lowV c (2 ^ d)).2.1,sideV b.1.toNat d (b.2.1.getD 1 0) (b.2.2.getD 1 0) (upV c.1 1 (lowV c (2 ^ d)).2.1)),(sideV b.1.toNat d (b.2.1.getD 2 0) (b.2.2.getD 2 0) (lowV c (2 ^ d)).2.2,sideV b.1.toNat d (b.2.1.getD 2 0) (b.2.2.getD 2 0) (upV c.1 2 (lowV c (2 ^ d)).2.2))]:=by
 unfold csV
 rw [if_pos (by rw [hb,hc];rfl)]
 obtain⟨m,l0,l1,l2,h0,h1,h2,rfl,_⟩:=cbV_form hb
 rfl
theorem pt_cell{b:Bx}{d:Nat}{c:Cl}{x y z:Int}(hb:cbV b=true)(hd:d≤2)(hc:cellV d c=true)(hi:inC c ((2 ^ d:Nat):Int) 1 (x,y,z)=true):ptIn (ptC b d x y z) (csV b d c).1:=by
 rw [csV_form hb hc]
 have hi:=inC_le hi
 have hc:=cell_c hd hc
 have hp:=pow2 hd
 obtain⟨m,l0,l1,l2,h0,h1,h2,rfl,hm,g0,g1,g2⟩:=cbV_form hb
 have a0:=hc.a0
 have a1:=hc.a1
 have a2:=hc.a2
 rw [castP]at hi
 generalize upV c.1 0 (lowV c (2 ^ d)).1=y0 at hi a0 ⊢
 generalize upV c.1 1 (lowV c (2 ^ d)).2.1=y1 at hi a1 ⊢
 generalize upV c.1 2 (lowV c (2 ^ d)).2.2=y2 at hi a2 ⊢
 generalize lowV c (2 ^ d)=w at hi a0 a1 a2 ⊢
 simp only at hi a0 a1 a2
 have le:∀ {l h u v:Int},(-64≤l∧l<h∧h≤64)→0≤u→u≤v→v≤2 ^ d→sv (sideV m d l h u)≤sv (sideV m d l h v):=fun g h1 h2 h3=>(sideV_sv g (by omega) (by omega) hd hm h2).2.2
 exact in3 ⟨le g0 (by omega) (by omega) (by omega),le g0 (by omega) (by omega) (by omega)⟩ ⟨le g1 (by omega) (by omega) (by omega),le g1 (by omega) (by omega) (by omega)⟩ ⟨le g2 (by omega) (by omega) (by omega),le g2 (by omega) (by omega) (by omega)⟩
theorem pt_par{b:Bx}{d:Nat}{c:Cl}{x y z:Int}(hb:cbV b=true)(hd:d+1≤2)(hc:cellV d c=true)(hi:inC c ((2 ^ d:Nat):Int) 2 (x,y,z)=true):ptIn (ptC b (d+1) x y z) (csV b d c).1:=by
 rw [csV_form hb hc]
 have hi:=inC_le hi
 have hc:=cell_c (by omega) hc
 have hp:=pow2 hd
 have hp2:(2:Int) ^ (d+1)=2*2 ^ d:=by rw [Int.pow_succ,Int.mul_comm]
 obtain⟨m,l0,l1,l2,h0,h1,h2,rfl,hm,g0,g1,g2⟩:=cbV_form hb
 have a0:=hc.a0
 have a1:=hc.a1
 have a2:=hc.a2
 rw [castP]at hi
 generalize upV c.1 0 (lowV c (2 ^ d)).1=y0 at hi a0 ⊢
 generalize upV c.1 1 (lowV c (2 ^ d)).2.1=y1 at hi a1 ⊢
 generalize upV c.1 2 (lowV c (2 ^ d)).2.2=y2 at hi a2 ⊢
 generalize lowV c (2 ^ d)=w at hi a0 a1 a2 ⊢
 simp only at hi a0 a1 a2
 have le:∀ {l h u v:Int},(-64≤l∧l<h∧h≤64)→0≤u→u≤v→v≤2 ^ (d+1)→sv (sideV m (d+1) l h u)≤sv (sideV m (d+1) l h v):=fun g h1 h2 h3=>(sideV_sv g (by omega) (by omega) hd hm h2).2.2
 have lo:∀ {l h u v:Int},(-64≤l∧l<h∧h≤64)→0≤u→2*u≤v→v≤2 ^ (d+1)→sv (sideV m d l h u)≤sv (sideV m (d+1) l h v):=fun {l h u v} g h1 h2 h3=>by
  rw [←sideV_half m d l h u]
  exact le g (by omega) h2 h3
 have up:∀ {l h u v:Int},(-64≤l∧l<h∧h≤64)→0≤v→v≤2*u→u≤2 ^ d→sv (sideV m (d+1) l h v)≤sv (sideV m d l h u):=fun {l h u v} g h1 h2 h3=>by
  rw [←sideV_half m d l h u]
  exact le g h1 h2 (by omega)
 exact in3 ⟨lo g0 (by omega) (by omega) (by omega),up g0 (by omega) (by omega) (by omega)⟩ ⟨lo g1 (by omega) (by omega) (by omega),up g1 (by omega) (by omega) (by omega)⟩ ⟨lo g2 (by omega) (by omega) (by omega),up g2 (by omega) (by omega) (by omega)⟩

structure Lb(s:List (List Tm))(b:Bx)(n:Nat)(A:List Int):Prop where
 ok:LabOk A n
 h:∀i,i<6*2 ^ n*2 ^ n→hV 3 s (csV b n (cellN (2 ^ n) i)).1 (labF A (i:Int)).toNat=true
theorem cellN_ok{n i:Nat}(hn:n≤2)(hi:i<6*2 ^ n*2 ^ n):cellV n (cellN (2 ^ n) i)=true:=by
 refine cellsV_ok hn _ (getD_in ?_)
 have:=two_pow_two hn
 omega
theorem lb_hold{s:List (List Tm)}{b:Bx}{n:Nat}{A:List Int}(hs:TriS s)(hb:cbV b=true)(hA:Lb s b n A){M:Nat}{pt:Pt}(hM:M≤24)(hl:pt.length=3)(hp:∀x∈pt,0≤x.2∧x.2≤M){i:Int}(hi:0≤i∧i<((6*2 ^ n*2 ^ n:Nat):Int))(hin:ptIn pt (csV b n (cellN (2 ^ n) i.toNat)).1):HoldP s M pt (labF A i):=by
 have hlt:i.toNat<6*2 ^ n*2 ^ n:=by omega
 have e:((i.toNat:Nat):Int)=i:=by omega
 have h:=hA.h i.toNat hlt
 rw [e]at h
 exact hold_at hs (cell_sd hs.cb hb (cellN_ok hA.ok.hd hlt)).sd hM hl hp hin (labF_lab hA.ok hi) h
theorem corner_hold{s:List (List Tm)}{b:Bx}{n:Nat}{A:List Int}(hs:TriS s)(hb:cbV b=true)(hA:Lb s b n A){x y z:Nat}(hx:x≤2 ^ n)(hy:y≤2 ^ n)(hz:z≤2 ^ n){i:Int}(hi:i∈ordV n (2 ^ n) ((x:Int),(y:Int),(z:Int))):HoldP s 5 (ptC b n x y z) (labF A i):=by
 have hd:=hA.ok.hd
 have hbd:=ord_bnd ⟨hd,by omega,by omega,by omega,by omega,by omega,by omega⟩ i hi
 exact lb_hold hs hb hA (by omega) rfl (ptC_k hb hd) hbd (pt_cell hb hd (cellN_ok hd (by omega)) (in_cell hd hx hy hz hi))
theorem corner_hold_par{s:List (List Tm)}{b:Bx}{n:Nat}{A:List Int}(hs:TriS s)(hb:cbV b=true)(hA:Lb s b n A)(hd:n+1≤2){x y z:Nat}(hx:x≤2 ^ (n+1))(hy:y≤2 ^ (n+1))(hz:z≤2 ^ (n+1)){i:Int}(hi:i∈ordV (n+1:Nat) (2 ^ (n+1)) ((x:Int),(y:Int),(z:Int))):HoldP s 5 (ptC b (n+1) x y z) (labF A (parI (2 ^ (n+1)) i)):=by
 have hbd:=par_bnd hd (ord_bnd ⟨hd,by omega,by omega,by omega,by omega,by omega,by omega⟩ i hi)
 exact lb_hold hs hb hA (by omega) rfl (ptC_k hb hd) hbd (pt_par hb hd (cellN_ok (by omega) (by omega)) (in_par hd hx hy hz hi))
theorem lb_co{s:List (List Tm)}{b:Bx}{n:Nat}{A:List Int}(hs:TriS s)(hb:cbV b=true)(hA:Lb s b n A):∀o∈ordsD n,coL (o.map (labF A)):=by
 intro o ho
 obtain⟨x,y,z,hx,hy,hz,rfl⟩:=ordsD_in hA.ok.hd ho
 intro u hu v hv
 obtain⟨i,hi,rfl⟩:=List.mem_map.1 hu
 obtain⟨j,hj,rfl⟩:=List.mem_map.1 hv
 exact hold_co (corner_hold hs hb hA hx hy hz hi) (corner_hold hs hb hA hx hy hz hj)
theorem lb_fine{s:List (List Tm)}{b:Bx}{n:Nat}{A F:List Int}(hs:TriS s)(hb:cbV b=true)(hA:Lb s b n A)(hF:Lb s b (n+1) F):tot F (n+1)=tot A n:=by
 refine tot_fine hA.ok hF.ok fun o ho => ?_
 obtain⟨x,y,z,hx,hy,hz,rfl⟩:=ordsD_in hF.ok.hd ho
 have all:∀u∈(ordV (n+1:Nat) (2 ^ (n+1)) ((x:Int),(y:Int),(z:Int))).map (fun i=>labF A (parI (2 ^ (n+1)) i))++(ordV (n+1:Nat) (2 ^ (n+1)) ((x:Int),(y:Int),(z:Int))).map (labF F),HoldP s 5 (ptC b (n+1) x y z) u:=by
  intro u hu
  rcases List.mem_append.1 hu with hu | hu
  ·obtain⟨i,hi,rfl⟩:=List.mem_map.1 hu
   exact corner_hold_par hs hb hA hF.ok.hd hx hy hz hi
  ·obtain⟨i,hi,rfl⟩:=List.mem_map.1 hu
   exact corner_hold hs hb hF hx hy hz hi
 exact fun u hu v hv=>hold_co (all u hu) (all v hv)
theorem no_opp{A:List Int}{n:Nat}(hA:LabOk A n)(hc:∀o∈ordsD n,coL (o.map (labF A))):dgLV A n=(tot A n,true):=by
 have h:anyOpp A n=false:=by
  unfold anyOpp
  rw [List.any_eq_false]
  intro o ho hop
  have hl:∀l∈o.map (labF A),isLab l:=by
   intro l hl
   obtain⟨i,hi,rfl⟩:=List.mem_map.1 hl
   exact labF_lab hA (ordsD_bnd hA.hd ho i hi)
  obtain⟨a,ha,hb⟩:=(oppI_iff hl).1 hop
  have:=hc o ho a ha _ hb
  unfold co at this
  simp at this
 rw [dgLV_eq hA,h]
 rfl
theorem lb_dg{s:List (List Tm)}{b:Bx}{n:Nat}{A:List Int}(hs:TriS s)(hb:cbV b=true)(hA:Lb s b n A):dgLV A n=(tot A n,true):=no_opp hA.ok (lb_co hs hb hA)
theorem opL_lab{a:Int}(h:isLab a):isLab (opL a):=by
 unfold isLab
 rcases isLab_cases h with rfl | rfl | rfl | rfl | rfl | rfl <;> decide
theorem lb_turn{s:List (List Tm)}{b:Bx}{n:Nat}{A:List Int}(hs:TriS s)(hb:cbV b=true)(hA:Lb s b n A):LabOk (A.map opL) n∧dgLV (A.map opL) n=(-tot A n,true):=by
 have hok:LabOk (A.map opL) n:=⟨hA.ok.hd,by rw [List.length_map];exact hA.ok.len,fun l hl=>by
  obtain⟨a,ha,rfl⟩:=List.mem_map.1 hl
  exact opL_lab (hA.ok.lab a ha)⟩
 have hc:=lb_co hs hb hA
 refine⟨hok,?_⟩
 rw [no_opp hok fun o ho => ?_,tot_opp hA.ok hc]
 intro u hu v hv
 obtain⟨i,hi,rfl⟩:=List.mem_map.1 hu
 obtain⟨j,hj,rfl⟩:=List.mem_map.1 hv
 have hbi:=ordsD_bnd hA.ok.hd ho i hi
 have hbj:=ordsD_bnd hA.ok.hd ho j hj
 rw [labF_map hA.ok opL hbi,labF_map hA.ok opL hbj]
 have h:=hc o ho _ (List.mem_map_of_mem (f:=labF A) hj) _ (List.mem_map_of_mem (f:=labF A) hi)
 have e:=opL_op (labF_lab hA.ok hbi)
 unfold co at h ⊢
 rw [e]
 cases hq:labF A i==opL (labF A j)with
 | false=>rfl
 | true =>
  rw [beq_iff_eq]at hq
  rw [←hq]at h
  simp at h
theorem tot_bd{A:List Int}{n:Nat}(hA:LabOk A n):(tot A n).natAbs≤1000000:=by
 have hd:=hA.hd
 have one:∀o∈ordsD n,(fan (o.map (labF A))).natAbs≤1000:=by
  intro o ho
  obtain⟨x,y,z,hx,hy,hz,e⟩:=ordsD_in hd ho
  have hl:o.length≤1000:=by rw [e];exact ordV_len ⟨hd,by omega,by omega,by omega,by omega,by omega,by omega⟩
  exact(cornV_sp (fun l hl=>by
   obtain⟨i,hi,rfl⟩:=List.mem_map.1 hl
   exact labF_lab hA (ordsD_bnd hd ho i hi)) (by rw [List.length_map];exact hl)).1
 have key:∀l:List (List Int),(∀o∈l,(fan (o.map (labF A))).natAbs≤1000)→((l.map fun o=>fan (o.map (labF A))).sum).natAbs≤1000*l.length:=by
  intro l
  induction l with
  | nil=>intro _;simp
  | cons o r ih =>
   intro h
   have h1:=h o (by simp)
   have h2:=ih (fun x hx=>h x (by simp [hx]))
   simp only [List.map_cons,List.sum_cons,List.length_cons]
   omega
 have hlen:(ordsD n).length≤125:=by
  rcases(by omega:n=0∨n=1∨n=2)with rfl | rfl | rfl
  ·show ords0.length≤125;decide
  ·show ords1.length≤125;decide
  ·show ords2.length≤125;decide
 have:=key (ordsD n) one
 unfold tot
 omega
end Go.Ev.G

namespace Go.Ev.G
open Go Go.Ev
set_option maxRecDepth 100000

theorem qInts_ev{x:List Int}(hb:x.length<lenB):Evt (fun k _=>laws_qInts k x x) true:=by
 refine Evt.eq (f:=fun k q=>_) ?_ (fun k q=>by rw [laws_qInts])
 exact Evt.cfalse (by simp) (Evt.inr (Evt.diag (same_all (L:=fun k n i=>laws_qInts_L58 k n x x (x.length:Int) i) (z:=0) (e:=fun _ y=>some (y==y)) hb (fun y _ => .const (by simp)) (fun k n i=>by rw [laws_qInts_L58.eq_2];rfl))) .pure)
end Go.Ev.G

