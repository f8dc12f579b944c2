/- What the plain functions of the law compute, for all inputs within the sizes that the theorems name. -/
import Derived.Test.YtbkhmofhdbjpcaaGreatDoorPFnImages1
import Derived.Test.YtbkhmofhdbjpcaaGreatDoorAFnImages1
set_option linter.unusedVariables false
namespace Go.Ev.G
open Go Go.Ev
set_option maxRecDepth 100000

abbrev DM(M:Nat):Int:=((2 ^ M:Nat):Int)
theorem DM_pos(M:Nat):0<DM M:=by
 have:0<2 ^ M:=Nat.two_pow_pos M
 unfold DM
 omega
def inBx(M:Nat)(pt:List (Int×Int))(sides:List Iv):Prop:=pt.length=sides.length∧∀q∈pt.zip sides,ivGd q.2∧mem (upX M q.1) (DM M) q.2
theorem pw_exI2(t:Tm)(j:Nat):pw t j=exI j t:=by
 unfold pw exI
 match j with
 | 0=>rfl
 | 1=>rfl
 | n+2=>rw [if_neg (by omega),if_neg (by omega)];rfl
theorem mem_part{M:Nat}{t:Tm}(ht:tmW t):∀(pt:List (Int×Int)) (sides:List Iv) (j:Nat) (N D0:Int) (a v:Iv),inBx M pt sides→gdI a→0<D0→mem N D0 a→partF t j (some a) sides=some v→mem (vaF M t j N pt) (D0*DM M ^ remE t j pt) v
 | [],[],j,N,D0,a,v,_,_,_,h,e=>by
  cases e
  simpa [vaF,remE] using h
 | [],_::_,_,_,_,_,_,hb,_,_,_,_=>by have:=hb.1;simp at this
 | _::_,[],_,_,_,_,_,hb,_,_,_,_=>by have:=hb.1;simp at this
 | x::pt,s::sides,j,N,D0,a,v,hb,ha,hD,h,e=>by
  have hx:=hb.2 (x,s) (by simp)
  have hr:inBx M pt sides:=⟨by have:=hb.1;simpa using this,fun q hq=>hb.2 q (by simp [hq])⟩
  have e:partF t (j+1) (stepO s (pw t j).toNat (some a)) sides=some v:=e
  cases hv:stepO s (pw t j).toNat (some a)with
  | none=>rw [hv,partF_none]at e;cases e
  | some w =>
   rw [hv]at e
   obtain⟨ee,he,he4⟩:=pw_nat ht j
   have hm:=mem_step hx.1 ha hD (DM_pos M) (by rw [he];omega) h hx.2 hv
   have gw:gdI w:=by
    unfold stepO at hv
    rw [Option.bind_some]at hv
    cases hq:powO s (pw t j).toNat with
    | none=>rw [hq]at hv;cases hv
    | some q=>rw [hq,Option.bind_some]at hv;exact mulO_gd hv
   have hD2:0<D0*DM M ^ (pw t j).toNat:=Int.mul_pos hD (Int.pow_pos (DM_pos M))
   have:=mem_part ht pt sides (j+1) _ _ w v hr gw hD2 hm e
   rw [pw_exI2,Int.mul_assoc,←Int.pow_add]at this
   exact this
theorem remE_eq{t:Tm}{pt:List (Int×Int)}(hl:pt.length≤3)(ht:tmS pt.length t):remE t 0 pt=degT t:=by
 obtain⟨h0,h1,h2,_,_,c0,c1,c2⟩:=ht
 unfold degT
 match pt,hl with
 | [],_ =>
  simp only [remE,List.length_nil]at c0 c1 c2 ⊢
  omega
 | [_],_ =>
  simp only [remE,exI,List.length_cons,List.length_nil]at c0 c1 c2 ⊢
  omega
 | [_,_],_ =>
  simp only [remE,exI,List.length_cons,List.length_nil]at c0 c1 c2 ⊢
  omega
 | [_,_,_],_ =>
  simp only [remE,exI]
  omega
 | _::_::_::_::_,h=>simp at h
theorem mem_mono{M:Nat}{t:Tm}{pt:List (Int×Int)}{sides:List Iv}{v:Iv}(ht:tmW t)(hl:pt.length≤3)(hs:tmS pt.length t)(hb:inBx M pt sides)(h:monO t sides=some v):mem (vaT M pt t) (DM M ^ 4) v:=by
 have g:gd (t.1,0):=gd_int ht.1
 have h1:=mem_part ht pt sides 0 t.1 1 _ v hb ⟨g,g⟩ (by decide) (mem_int t.1) h
 rw [Int.one_mul,remE_eq hl hs]at h1
 have h2:=mem_scale (c:=DM M ^ (4 - degT t)) (Int.le_of_lt (Int.pow_pos (DM_pos M))) h1
 rw [←Int.pow_add,show degT t+(4 - degT t)=4 by have:=hs.2.2.2.1;omega]at h2
 exact h2
theorem mem_valF{M:Nat}{pt:List (Int×Int)}{sides:List Iv}(hl:pt.length≤3)(hb:inBx M pt sides):∀(p:List Tm) (S:Int) (a v:Iv),(∀t∈p,tmW t∧tmS pt.length t)→gdI a→mem S (DM M ^ 4) a→valF sides (some a) p=some v→mem (S+(p.map (vaT M pt)).sum) (DM M ^ 4) v
 | [],S,a,v,_,_,h,e=>by
  cases e
  simpa using h
 | t::p,S,a,v,ht,ga,h,e=>by
  have e:valF sides (accO (monO t sides) (some a)) p=some v:=e
  cases hm:monO t sides with
  | none =>
   rw [hm]at e
   have:accO none (some a)=none:=rfl
   rw [this,valF_none]at e
   cases e
  | some q =>
   rw [hm]at e
   have e2:accO (some q) (some a)=addO a q:=rfl
   rw [e2]at e
   cases hs:addO a q with
   | none=>rw [hs,valF_none]at e;cases e
   | some w =>
    rw [hs]at e
    obtain⟨tw,ts⟩:=ht t (by simp)
    have gq:=(monO_iv tw hm)
    have h1:=mem_add ga ⟨gq.1,gq.2.1⟩ h (mem_mono tw hl ts hb hm) hs
    have:=mem_valF hl hb p _ w v (fun u hu=>ht u (by simp [hu])) (addO_gd hs) h1 e
    rw [List.map_cons,List.sum_cons,←Int.add_assoc]
    exact this
theorem valO_mem{M:Nat}{pt:List (Int×Int)}{sides:List Iv}{p:List Tm}{v:Iv}(hl:pt.length≤3)(hb:inBx M pt sides)(ht:∀t∈p,tmW t∧tmS pt.length t)(h:valO p sides=some v):mem ((p.map (vaT M pt)).sum) (DM M ^ 4) v:=by
 have:=mem_valF hl hb p 0 zI v ht zI_gd (mem_zero _) h
 rwa [Int.zero_add]at this
theorem sgI_at{M:Nat}{pt:List (Int×Int)}{sides:List Iv}{p:List Tm}{v:Iv}(hl:pt.length≤3)(hb:inBx M pt sides)(ht:∀t∈p,tmW t∧tmS pt.length t)(h:valO p sides=some v):(sgI v=1→0<(p.map (vaT M pt)).sum)∧(sgI v = -1→(p.map (vaT M pt)).sum<0):=by
 have hm:=valO_mem hl hb ht h
 have hD:0<DM M ^ 4:=Int.pow_pos (DM_pos M)
 unfold sgI
 constructor
 ·intro hs
  split at hs
  ·rename_i h1;exact mem_pos hD hm h1
  ·split at hs <;> omega
 ·intro hs
  split at hs
  ·omega
  ·split at hs
   ·rename_i h1;exact mem_neg hD hm h1
   ·omega
end Go.Ev.G

namespace Go.Ev.G
open Go Go.Ev
set_option maxRecDepth 100000

theorem find_loop{R:Type}{L:Nat→Nat→Int→Option (R ⊕ Unit)}{p:Nat→Int→Option Bool}{out:Nat→R}{N:Nat}{P:Nat→Bool}(hN:N≤1000)
  (hp:∀j:Nat,j<N→Evt (fun k _=>p k j) (P j))
  (hL:∀(k n i:Nat),i<N→L k (n+1) i=Option.bind (p k i) fun r=>bif r then some (.inl (out i))else L k n (IntKind.wrap .i64 ((i:Int)+1)))
  (hE:∀k n,L k (n+1) N=some (.inr ())):Evt (fun k n=>L k n 0) (match (List.range N).find? P with | some j => .inl (out j) | none => .inr ()):=by
 have key:∀(m j:Nat),j+m=N→Evt (fun k n=>L k n j) (match (List.range' j m).find? P with | some j => .inl (out j) | none => .inr ()):=by
  intro m
  induction m with
  | zero =>
   intro j hj
   have:j=N:=by omega
   subst this
   exact Evt.step (F:=fun _ _=>some (.inr ())) hE .pure
  | succ m ih =>
   intro j hj
   refine Evt.step (fun k n=>hL k n j (by omega)) ?_
   refine Evt.bind (hp j (by omega)) ?_
   rw [List.range'_succ,List.find?_cons]
   cases P j with
   | true=>exact Evt.ctrue rfl .pure
   | false =>
    refine Evt.cfalse rfl ?_
    rw [w64_next (by simp only [lenB];omega)]
    exact ih (j+1) (by omega)
 have:=key N 0 (by omega)
 rw [List.range_eq_range']
 exact this

def hV(m:Nat)(s:List (List Tm))(sides:List Iv)(r:Nat):Bool:=match valO (s.getD (r % m) []) sides with
 | some v=>sgI v==(if r<m then 1 else -1)
 | none=>false
structure Sd(s:List (List Tm))(sides:List Iv):Prop where
 sd:∀i∈sides,ivGd i
 ln:sides.length≤3
 tm:∀p∈s,∀t∈p,tmW t
 lp:∀p∈s,p.length<lenB
theorem getD_in{α:Type}{l:List α}{j:Nat}{z:α}(h:j<l.length):l.getD j z∈l:=by
 rw [List.getD_eq_getElem?_getD,List.getElem?_eq_getElem h]
 exact List.getElem_mem h
theorem beq_tail{m:Nat}{s:List (List Tm)}{sides:List Iv}{r:Nat}{v:Iv}(h:valO (s.getD (r % m) []) sides=some v){x:Int}(hx:x=if r<m then 1 else -1):hV m s sides r=(sgI v==x):=by
 unfold hV
 rw [h,hx]
theorem imHolds_ev{s:List (List Tm)}{sides:List Iv}(h:Sd s sides)(hl:s.length=2){r:Nat}(hr:r<4):Evt (fun k _=>spec_imHolds k s sides r) (hV 2 s sides r):=by
 refine Evt.eq (f:=fun k q=>_) ?_ (fun k q=>by rw [spec_imHolds])
 have e:Int.tmod (r:Int) 2=((r % 2:Nat):Int):=rfl
 rw [e]
 have hm:s.getD (r % 2) []∈s:=getD_in (by omega)
 refine Evt.ctrue (decide_eq_true (by omega)) (Evt.ctrue (decide_eq_true (by omega)) ?_)
 simp only [Int.toNat_natCast]
 refine Evt.bind (vaOver_ev (h.tm _ hm) h.sd (by have:=h.ln;simp only [lenB];omega) (h.lp _ hm)) ?_
 cases hv:valO (s.getD (r % 2) []) sides with
 | none =>
  have:hV 2 s sides r=false:=by unfold hV;rw [hv]
  rw [this]
  exact Evt.cfalse rfl .pure
 | some v =>
  refine Evt.ctrue rfl (Evt.bind (.const (ivSign_eq (valO_iv (h.tm _ hm) hv))) ?_)
  rw [beq_tail hv (x:=IntKind.wrap .i64 (1 - (IntKind.wrap .i64 (2*(IntKind.wrap .i64 (Int.tdiv (r:Int) 2)))))) (by
   have:r=0∨r=1∨r=2∨r=3:=by omega
   rcases this with rfl | rfl | rfl | rfl <;> decide)]
  exact .pure
theorem imReason_ev{s:List (List Tm)}{sides:List Iv}(h:Sd s sides)(hl:s.length=2):Evt (fun k _=>spec_imReason k s sides) (match (List.range 4).find? (hV 2 s sides)with | some j=>((j:Int),true) | none=>(0,false)):=by
 refine Evt.eq (f:=fun k q=>_) ?_ (fun k q=>by rw [spec_imReason])
 have:=find_loop (L:=fun k n i=>spec_imReason_L26 k n s sides i) (p:=fun k i=>spec_imHolds k s sides i) (out:=fun j=>((j:Int),true)) (N:=4) (P:=hV 2 s sides) (by omega) (fun j hj=>imHolds_ev h hl hj)
  (fun k n i hi=>by rw [spec_imReason_L26.eq_2,decide_eq_true (by omega)];rfl) (fun k n=>by rw [spec_imReason_L26.eq_2];rfl)
 cases hf:(List.range 4).find? (hV 2 s sides)with
 | none=>rw [hf]at this;exact Evt.inr (Evt.diag this) .pure
 | some j=>rw [hf]at this;exact Evt.inl (Evt.diag this) .pure

abbrev Ed:=Int×(Int×Int)×(Int×Int)×Int×Int
def sidesE(e:Ed):List Iv:=if e.1=0 then [sgl e.2.1,(minD e.2.2.1 e.2.2.2,maxD e.2.2.1 e.2.2.2)]else [(minD e.2.2.1 e.2.2.2,maxD e.2.2.1 e.2.2.2),sgl e.2.1]
structure EdOk(e:Ed):Prop where
 sd:e.1=0∨e.1=1
 a:gd e.2.1
 f:gd e.2.2.1
 t:gd e.2.2.2
theorem along_iv{a b:Int×Int}(ha:gd a)(hb:gd b):ivGd (minD a b,maxD a b):=⟨minD_gd ha hb,maxD_gd ha hb,by simp only [minD_sv,maxD_sv];omega⟩
theorem EdOk.sides{e:Ed}(h:EdOk e):∀i∈sidesE e,ivGd i:=by
 intro i hi
 have q:=along_iv h.f h.t
 have r:=sgl_iv h.a
 unfold sidesE at hi
 split at hi <;> (simp only [List.mem_cons,List.not_mem_nil,or_false]at hi;rcases hi with rfl | rfl <;> assumption)
theorem EdOk.len(e:Ed):(sidesE e).length=2:=by unfold sidesE;split <;> rfl
theorem Sd.edge{s:List (List Tm)}(h1:∀p∈s,∀t∈p,tmW t)(h2:∀p∈s,p.length<lenB){e:Ed}(h:EdOk e):Sd s (sidesE e):=⟨h.sides,by rw [EdOk.len];omega,h1,h2⟩
theorem imSides_ev{e:Ed}(h:EdOk e):Evt (fun k _=>spec_imSides k e) (sidesE e):=by
 refine Evt.eq (f:=fun k q=>_) ?_ (fun k q=>by rw [spec_imSides])
 have gf:=h.f
 have gt:=h.t
 refine Evt.bind (ivEnds_ev (x:=e.2.2.1) (xs := [e.2.2.2]) (by simp [gf,gt]) (by simp [lenB])) ?_
 have m1:∀l:Int×Int,minD l l=l:=fun l=>by unfold minD;split <;> rfl
 have m2:∀l:Int×Int,maxD l l=l:=fun l=>by unfold maxD;split <;> rfl
 have ends:foldE (e.2.2.1,e.2.2.1) [e.2.2.1,e.2.2.2]=(minD e.2.2.1 e.2.2.2,maxD e.2.2.1 e.2.2.2):=by simp only [foldE,m1,m2]
 rw [ends]
 unfold sidesE
 by_cases h0:e.1=0
 ·rw [if_pos h0]
  exact Evt.ctrue (by rw [h0];rfl) (Evt.bind (.const rfl) .pure)
 ·rw [if_neg h0]
  exact Evt.cfalse (by simpa using h0) (Evt.bind (.const rfl) .pure)
theorem edgeHolds_ev{s:List (List Tm)}{e:Ed}(h:Sd s (sidesE e))(he:EdOk e)(hl:s.length=2){r:Nat}(hr:r<4):Evt (fun k _=>impl_edgeHolds k s e r) (hV 2 s (sidesE e) r):=by
 refine Evt.eq (f:=fun k q=>_) ?_ (fun k q=>by rw [impl_edgeHolds])
 refine Evt.bind (.const rfl) (Evt.bind (lesser_ev he.f he.t) (Evt.bind (greater_ev2 he.f he.t) ?_))
 refine Evt.inr (y:=(s,(r:Int),sidesE e,())) ?_ ?_
 ·unfold sidesE
  rcases he.sd with h0 | h1
  ·rw [if_pos h0]
   exact Evt.cfalse (by rw [h0];rfl) .pure
  ·rw [if_neg (by omega)]
   exact Evt.ctrue (by rw [h1];rfl) (Evt.ctrue rfl (Evt.ctrue rfl (Evt.ctrue rfl (Evt.ctrue rfl .pure))))
 ·have em:Int.tmod (r:Int) 2=((r % 2:Nat):Int):=rfl
  simp only [em]
  have hm:s.getD (r % 2) []∈s:=getD_in (by omega)
  refine Evt.ctrue (decide_eq_true (by omega)) (Evt.ctrue (decide_eq_true (by omega)) ?_)
  simp only [Int.toNat_natCast]
  refine Evt.bind (valueOver_ev (h.tm _ hm) h.sd h.ln (h.lp _ hm)) ?_
  cases hv:valO (s.getD (r % 2) []) (sidesE e)with
  | none =>
   have:hV 2 s (sidesE e) r=false:=by unfold hV;rw [hv]
   rw [this]
   exact Evt.cfalse rfl .pure
  | some v =>
   refine Evt.ctrue rfl (Evt.bind (.const (signOf_eq v)) ?_)
   rw [beq_tail hv (x:=IntKind.wrap .i64 (1 - (IntKind.wrap .i64 ((IntKind.wrap .i64 (Int.tdiv (r:Int) 2))*2)))) (by
    have:r=0∨r=1∨r=2∨r=3:=by omega
    rcases this with rfl | rfl | rfl | rfl <;> decide)]
   exact .pure
def rsn(s:List (List Tm))(e:Ed):Option Nat:=(List.range 4).find? (hV 2 s (sidesE e))
theorem rsn_lt{s:List (List Tm)}{e:Ed}{j:Nat}(h:rsn s e=some j):j<4:=by
 have:=List.mem_of_find?_eq_some h
 simpa using this
theorem edgeReason_ev{s:List (List Tm)}{e:Ed}(h:Sd s (sidesE e))(he:EdOk e)(hl:s.length=2):Evt (fun k _=>impl_edgeReason k s e) (match rsn s e with | some j=>(j:Int) | none => -1):=by
 refine Evt.eq (f:=fun k q=>_) ?_ (fun k q=>by rw [impl_edgeReason])
 have:=find_loop (L:=fun k n i=>impl_edgeReason_L26 k n s e i) (p:=fun k i=>impl_edgeHolds k s e i) (out:=fun j=>(j:Int)) (N:=4) (P:=hV 2 s (sidesE e)) (by omega) (fun j hj=>edgeHolds_ev h he hl hj)
  (fun k n i hi=>by rw [impl_edgeReason_L26.eq_2,decide_eq_true (by omega)];rfl) (fun k n=>by rw [impl_edgeReason_L26.eq_2];rfl)
 unfold rsn
 cases hf:(List.range 4).find? (hV 2 s (sidesE e))with
 | none=>rw [hf]at this;exact Evt.inr (Evt.diag this) .pure
 | some j=>rw [hf]at this;exact Evt.inl (Evt.diag this) .pure
theorem imReason_ev2{s:List (List Tm)}{e:Ed}(h:Sd s (sidesE e))(hl:s.length=2):Evt (fun k _=>spec_imReason k s (sidesE e)) (match rsn s e with | some j=>((j:Int),true) | none=>(0,false)):=imReason_ev h hl

def twoV(m:List (List Tm)):Bool:=sysV m&&((m.length:Int)==2)
theorem isTwo_ev{m:List (List Tm)}(hb:m.length<lenB)(hm:∀r∈m,r.length<lenB):Evt (fun k _=>impl_isTwo k m) (twoV m):=by
 refine Evt.eq (f:=fun k q=>_) ?_ (fun k q=>by rw [impl_isTwo])
 unfold twoV
 cases h:((m.length:Int)==2)with
 | false=>rw [Bool.and_false];exact Evt.cfalse rfl .pure
 | true=>rw [Bool.and_true];exact Evt.ctrue rfl (Evt.bind (isSystem_ev hb hm) .pure)
theorem sysV_tm{m:List (List Tm)}(h:sysV m=true):∀p∈m,∀t∈p,tmW t:=by
 unfold sysV at h
 rw [Bool.and_eq_true,List.all_eq_true]at h
 intro p hp t ht
 have:=h.1 p hp
 rw [Bool.and_eq_true]at this
 exact tmGd_W (polyV_gd this.1 t ht)
theorem twoV_len{m:List (List Tm)}(h:twoV m=true):sysV m=true∧m.length=2:=by
 unfold twoV at h
 rw [Bool.and_eq_true]at h
 refine⟨h.1,?_⟩
 have:=h.2
 simp at this
 omega
end Go.Ev.G

namespace Go.Ev.G
open Go Go.Ev
set_option maxRecDepth 100000

abbrev Bx:=Int×List Int×List Int
def plV(b:Bx):Bool:=bxV b&&(((b.2.1.length:Int)==2)&&decide (b.1≤3))
theorem imBox_ev{b:Bx}(hb:b.2.1.length<lenB):Evt (fun k _=>spec_imBox k b) (plV b):=by
 refine Evt.eq (f:=fun k q=>_) ?_ (fun k q=>by rw [spec_imBox])
 refine Evt.bind (bxGood_ev hb) ?_
 unfold plV
 cases bxV b with
 | false=>exact Evt.cfalse rfl .pure
 | true =>
  refine Evt.ctrue rfl ?_
  cases ((b.2.1.length:Int)==2)with
  | false=>exact Evt.cfalse rfl .pure
  | true=>exact Evt.ctrue rfl .pure
theorem isPlaneBox_ev{b:Bx}(hb:b.2.1.length<lenB):Evt (fun k _=>impl_isPlaneBox k b) (plV b):=by
 refine Evt.eq (f:=fun k q=>_) ?_ (fun k q=>by rw [impl_isPlaneBox])
 refine Evt.bind (isBox_ev hb) ?_
 unfold plV
 cases bxV b with
 | false=>exact Evt.cfalse rfl .pure
 | true =>
  refine Evt.ctrue rfl ?_
  cases ((b.2.1.length:Int)==2)with
  | false=>exact Evt.cfalse rfl .pure
  | true=>exact Evt.ctrue rfl .pure
def planeV(m:List (List Tm))(b:Bx):Bool:=twoV m&&plV b
theorem imGood_ev{m:List (List Tm)}{b:Bx}(hb:m.length<lenB)(hm:∀r∈m,r.length<lenB)(hx:b.2.1.length<lenB):Evt (fun k _=>spec_imGood k m b) (planeV m b):=by
 refine Evt.eq (f:=fun k q=>_) ?_ (fun k q=>by rw [spec_imGood])
 refine Evt.bind (poSystem_ev hb hm) ?_
 unfold planeV twoV
 cases sysV m with
 | false=>exact Evt.cfalse rfl .pure
 | true =>
  refine Evt.ctrue rfl ?_
  cases ((m.length:Int)==2)with
  | false=>exact Evt.cfalse rfl .pure
  | true=>exact Evt.ctrue rfl (Evt.bind (imBox_ev hx) .pure)
theorem isPlane_ev{m:List (List Tm)}{b:Bx}(hb:m.length<lenB)(hm:∀r∈m,r.length<lenB)(hx:b.2.1.length<lenB):Evt (fun k _=>impl_isPlane k m b) (planeV m b):=by
 refine Evt.eq (f:=fun k q=>_) ?_ (fun k q=>by rw [impl_isPlane])
 refine Evt.bind (isTwo_ev hb hm) ?_
 unfold planeV
 cases twoV m with
 | false=>exact Evt.cfalse rfl .pure
 | true=>exact Evt.ctrue rfl (Evt.bind (isPlaneBox_ev hx) .pure)
theorem plV_form{b:Bx}(h:plV b=true):∃(m:Nat) (l0 l1 h0 h1:Int),b=((m:Int),[l0,l1],[h0,h1])∧m≤3∧(-64≤l0∧l0<h0∧h0≤64)∧(-64≤l1∧l1<h1∧h1≤64):=by
 obtain⟨d8,los,his⟩:=b
 unfold plV bxV at h
 simp only [Bool.and_eq_true,decide_eq_true_eq,beq_iff_eq]at h
 obtain⟨⟨g1,g2,g3,g4,_⟩,g5,g6⟩:=h
 match los,his,g3,g5,g4 with
 | [l0,l1],[h0,h1],_,_,g4 =>
  refine⟨d8.toNat,l0,l1,h0,h1,by rw [Int.toNat_of_nonneg g1.1],by omega,?_⟩
  have hp:(8:Int)*2 ^ d8.toNat≤64:=by
   have h1:(2:Nat) ^ d8.toNat≤2 ^ 3:=Nat.pow_le_pow_right (by omega) (by omega)
   have h2:((2:Int) ^ d8.toNat)=((2 ^ d8.toNat:Nat):Int):=by simp
   rw [h2]
   have:(2:Nat) ^ 3=8:=by decide
   omega
  generalize (8:Int)*2 ^ d8.toNat=L at hp g4
  simp only [List.zip_cons_cons,List.zip_nil_left,List.all_cons,List.all_nil,Bool.and_true,Bool.and_eq_true,sideOk,decide_eq_true_eq]at g4
  omega

theorem strip_scale(k:Nat)(n:Int):∀D:Nat,strip (k+D) (n*2 ^ D)=strip k n
 | 0=>by simp
 | D+1=>by
  have e:n*2 ^ (D+1)=(n*2 ^ D)*2:=by rw [Int.pow_succ,Int.mul_assoc]
  rw [e,←Nat.add_assoc,strip,if_pos (by omega),Int.mul_ediv_cancel _ (by decide)]
  exact strip_scale k n D
theorem mkD_scale(k D:Nat)(n:Int):mkD (n*2 ^ D) (k+D)=mkD n k:=by
 unfold mkD
 rw [strip_scale]
theorem pow5{m:Nat}(h:m≤5):(1:Int)≤2 ^ m∧(2:Int) ^ m≤32:=by
 rcases(by omega:m=0∨m=1∨m=2∨m=3∨m=4∨m=5)with rfl | rfl | rfl | rfl | rfl | rfl <;> decide
def numV(m D:Nat)(l h x:Int):Int×Int:=(mkD (l*2 ^ D+x*(h - l)) (m+D)).1
theorem numV_gd(m D:Nat)(l h x:Int):gd (numV m D l h x):=mkD_gd _ _
theorem mul_range{a b A B:Int}(h1 : -A≤a)(h2:a≤A)(h3:0≤b)(h4:b≤B)(hA:0≤A) : -(A*B)≤a*b∧a*b≤A*B:=by
 have e1:a*b≤A*b:=Int.mul_le_mul_of_nonneg_right h2 h3
 have e2:A*b≤A*B:=Int.mul_le_mul_of_nonneg_left h4 hA
 have e3 : -A*b≤a*b:=Int.mul_le_mul_of_nonneg_right h1 h3
 rw [Int.neg_mul]at e3
 omega
theorem side_range{l h x:Int}{D:Nat}(hl : -64≤l∧l<h∧h≤64)(hD:D≤5)(hx:0≤x∧x≤64):(-2048≤l*2 ^ D∧l*2 ^ D≤2048)∧(-2048≤h*2 ^ D∧h*2 ^ D≤2048)∧(0≤x*(h - l)∧x*(h - l)≤8192):=by
 have hp:=pow5 hD
 have a:=mul_range (a:=l) (b:=2 ^ D) (A:=64) (B:=32) (by omega) (by omega) (by omega) (by omega) (by omega)
 have b:=mul_range (a:=h) (b:=2 ^ D) (A:=64) (B:=32) (by omega) (by omega) (by omega) (by omega) (by omega)
 have c:=mul_range (a:=x) (b:=h - l) (A:=64) (B:=128) (by omega) (by omega) (by omega) (by omega) (by omega)
 have d:0≤x*(h - l):=Int.mul_nonneg hx.1 (by omega)
 omega
theorem edges1_ev{m D:Nat}{b:Bx}{j:Nat}{l h x:Int}(hb1:b.1=m)(hj:j<b.2.1.length)(hj2:j<b.2.2.length)(e1:b.2.1.getD j 0=l)(e2:b.2.2.getD j 0=h)(hl : -64≤l∧l<h∧h≤64)(hm:m≤3)(hD:D≤5)(hx:0≤x∧x≤64) :
  Evt (fun k _=>impl_boundaryEdges_1 k j x b (2 ^ D) D) (numV m D l h x):=by
 have hr:=side_range hl hD hx
 refine Evt.eq (f:=fun k q=>_) ?_ (fun k q=>by rw [impl_boundaryEdges_1])
 refine Evt.ctrue (decide_eq_true (by omega)) (Evt.ctrue (decide_eq_true (by omega)) ?_)
 have el:impl_Box_length b j=some (h - l):=by
  unfold impl_Box_length
  rw [decide_eq_true (show(0:Int)≤(j:Int)by omega),decide_eq_true (show(j:Int)<(b.2.2.length:Int)by omega),decide_eq_true (show(j:Int)<(b.2.1.length:Int)by omega)]
  simp only [cond_true,Int.toNat_natCast,e1,e2]
  rw [w64 (by omega) (by omega)]
 refine Evt.bind (.const el) ?_
 simp only [Int.toNat_natCast,e1]
 rw [w64 (n:=l*2 ^ D) (by omega) (by omega),w64 (n:=x*(h - l)) (by omega) (by omega),w64 (by omega) (by omega),hb1,w64 (n:=(m:Int)+(D:Int)) (by omega) (by omega)]
 refine Evt.bind (.const (wideOf_eq (by omega) (by omega))) ?_
 have:=fitD_ev (n:=l*2 ^ D+x*(h - l)) (p:=m+D) (by omega) (by omega) (by omega)
 rw [Int.natCast_add]at this
 exact Evt.bind this .pure
def wayV(s:Int)(a:Int×Int)(g:Int→Int×Int)(c r:Nat):List Ed:=(List.range' c r).map fun i:Nat=>(s,a,g (i:Int),g ((i:Int)+1))
theorem imWay_ev{s:Int}{a:Int×Int}{u v:Int}{m D:Nat}{g:Int→Int×Int}(hu : -64≤u∧u≤64)(hv : -64≤v∧v≤64)(hm:m≤3)(hD:D≤5)(hg:∀x:Int,0≤x→x≤2 ^ D→g x=(mkD (u*2 ^ D+(v - u)*x) (m+D)).1) :
  Evt (fun k _=>spec_imWay k s a u v m D) (wayV s a g 0 (2 ^ D)):=by
 refine Evt.eq (f:=fun k q=>_) ?_ (fun k q=>by rw [spec_imWay])
 refine Evt.bind (.const (dyPower_eq (m:=D) (by omega))) ?_
 have hp:=pow5 hD
 have hN:((2 ^ D:Nat):Int)=2 ^ D:=by simp
 generalize hNN:2 ^ D=N at hN
 have num:∀x:Int,0≤x→x≤N→Evt (fun k _=>spec_bxNumber k (IntKind.wrap .i64 ((IntKind.wrap .i64 (u*(N:Int)))+(IntKind.wrap .i64 ((IntKind.wrap .i64 (v - u))*x)))) (IntKind.wrap .i64 ((m:Int)+(D:Int)))) (g x):=by
  intro x h1 h2
  have a1:=mul_range (a:=u) (b:=2 ^ D) (A:=64) (B:=32) (by omega) (by omega) (by omega) (by omega) (by omega)
  have a2:=mul_range (a:=v - u) (b:=x) (A:=128) (B:=32) (by omega) (by omega) (by omega) (by omega) (by omega)
  rw [hN,w64 (n:=v - u) (by omega) (by omega),w64 (n:=u*2 ^ D) (by omega) (by omega),w64 (n:=(v - u)*x) (by omega) (by omega),w64 (by omega) (by omega),w64 (n:=(m:Int)+D) (by omega) (by omega),hg x h1 (by omega)]
  refine Evt.eq (f:=fun k q=>_) ?_ (fun k q=>by rw [spec_bxNumber])
  have:=dyMake_ev (n:=u*2 ^ D+(v - u)*x) (m:=m+D) (by omega) (by omega) (by omega)
  rw [Int.natCast_add]at this
  exact Evt.bind this .pure
 have key:∀(r c:Nat) (acc:List Ed),c+r=N→acc.length+r≤1000→Evt (fun k n=>spec_imWay_L122 k n s u v m D a acc (N:Int) c) (.inr (acc++wayV s a g c r,())):=by
  intro r
  induction r with
  | zero =>
   intro c acc hc _
   refine Evt.step (fun k n=>spec_imWay_L122.eq_2 k _ _ _ _ _ _ _ _ _ n) (Evt.cfalse (decide_eq_false (by omega)) ?_)
   simp only [wayV,List.range'_zero,List.map_nil,List.append_nil]
   exact .pure
  | succ r ih =>
   intro c acc hc ha
   refine Evt.step (fun k n=>spec_imWay_L122.eq_2 k _ _ _ _ _ _ _ _ _ n) (Evt.ctrue (decide_eq_true (by omega)) ?_)
   refine Evt.bind (num c (by omega) (by omega)) ?_
   have w1:IntKind.wrap .i64 ((c:Int)+1)=(c:Int)+1:=by rw [w64 (by omega) (by omega)]
   rw [w1]
   refine Evt.bind (num ((c:Int)+1) (by omega) (by omega)) (Evt.ctrue (decide_eq_true (by simp only [List.length_cons,List.length_nil];omega)) ?_)
   have:=ih (c+1) (acc ++ [(s,a,g c,g ((c:Int)+1))]) (by omega) (by simp;omega)
   rw [Int.natCast_add]at this
   have e:acc ++ [(s,a,g c,g ((c:Int)+1))]++wayV s a g (c+1) r=acc++wayV s a g c (r+1):=by
    simp only [wayV,List.range'_succ,List.map_cons,List.append_assoc,List.singleton_append]
   rw [e]at this
   exact this
 have hNb:N≤32:=by omega
 have hk:=key N 0 [] (by omega) (by simp;omega)
 exact Evt.inr (Evt.diag hk) .pure
def edgesV(m D:Nat)(l0 l1 h0 h1:Int):List Ed :=
 wayV 1 (mkD l1 m).1 (numV m D l0 h0) 0 (2 ^ D)++wayV 0 (mkD h0 m).1 (numV m D l1 h1) 0 (2 ^ D)++wayV 1 (mkD h1 m).1 (fun x=>numV m D l0 h0 (2 ^ D - x)) 0 (2 ^ D)++wayV 0 (mkD l0 m).1 (fun x=>numV m D l1 h1 (2 ^ D - x)) 0 (2 ^ D)
theorem wayV_len(s:Int)(a:Int×Int)(g:Int→Int×Int)(c r:Nat):(wayV s a g c r).length=r:=by simp [wayV]
theorem edgesV_len(m D:Nat)(l0 l1 h0 h1:Int):(edgesV m D l0 l1 h0 h1).length=4*2 ^ D:=by
 simp only [edgesV,List.length_append,wayV_len];omega
theorem wayV_ok{s:Int}{a:Int×Int}{g:Int→Int×Int}{c r:Nat}(hs:s=0∨s=1)(ha:gd a)(hg:∀x,gd (g x)):∀e∈wayV s a g c r,EdOk e:=by
 intro e he
 simp only [wayV,List.mem_map]at he
 obtain⟨i,_,rfl⟩:=he
 exact⟨hs,ha,hg _,hg _⟩
theorem edgesV_ok{m D:Nat}{l0 l1 h0 h1:Int}:∀e∈edgesV m D l0 l1 h0 h1,EdOk e:=by
 intro e he
 simp only [edgesV,List.mem_append]at he
 rcases he with ((he | he) | he) | he
 ·exact wayV_ok (.inr rfl) (mkD_gd _ _) (fun x=>numV_gd _ _ _ _ _) e he
 ·exact wayV_ok (.inl rfl) (mkD_gd _ _) (fun x=>numV_gd _ _ _ _ _) e he
 ·exact wayV_ok (.inr rfl) (mkD_gd _ _) (fun x=>numV_gd _ _ _ _ _) e he
 ·exact wayV_ok (.inl rfl) (mkD_gd _ _) (fun x=>numV_gd _ _ _ _ _) e he
theorem imEdges_ev{m D:Nat}{l0 l1 h0 h1:Int}(hm:m≤3)(hD:D≤5)(g0 : -64≤l0∧l0<h0∧h0≤64)(g1 : -64≤l1∧l1<h1∧h1≤64):Evt (fun k _=>spec_imEdges k ((m:Int),[l0,l1],[h0,h1]) D) (edgesV m D l0 l1 h0 h1):=by
 refine Evt.eq (f:=fun k q=>_) ?_ (fun k q=>by rw [spec_imEdges])
 have hp:2 ^ D≤32:=by
  have:=Nat.pow_le_pow_right (n:=2) (by omega) hD
  simpa using this
 have num:∀x:Int,-64≤x∧x≤64→Evt (fun k _=>spec_bxNumber k x (m:Int)) (mkD x m).1:=by
  intro x hx
  refine Evt.eq (f:=fun k q=>_) ?_ (fun k q=>by rw [spec_bxNumber])
  exact Evt.bind (dyMake_ev (n:=x) (m:=m) (by omega) (by omega) (by omega)) .pure
 have fwd:∀(l h:Int) (x:Int),0≤x→x≤2 ^ D→numV m D l h x=(mkD (l*2 ^ D+(h - l)*x) (m+D)).1:=by
  intro l h x _ _
  rw [numV,Int.mul_comm x]
 have bwd:∀(l h:Int) (x:Int),0≤x→x≤2 ^ D→numV m D l h (2 ^ D - x)=(mkD (h*2 ^ D+(l - h)*x) (m+D)).1:=by
  intro l h x _ _
  have e:l*2 ^ D+(2 ^ D - x)*(h - l)=h*2 ^ D+(l - h)*x:=by
   simp only [Int.sub_mul,Int.mul_sub,Int.mul_comm (2 ^ D),Int.mul_comm x]
   omega
  rw [numV,e]
 refine Evt.ctrue rfl (Evt.ctrue rfl (Evt.ctrue rfl (Evt.ctrue rfl ?_)))
 refine Evt.bind (num l1 (by omega)) (Evt.bind (imWay_ev (u:=l0) (v:=h0) (g:=numV m D l0 h0) (by omega) (by omega) hm hD (fwd l0 h0)) ?_)
 refine Evt.bind (num h0 (by omega)) (Evt.bind (imWay_ev (u:=l1) (v:=h1) (g:=numV m D l1 h1) (by omega) (by omega) hm hD (fwd l1 h1)) ?_)
 refine Evt.ctrue (decide_eq_true (by simp only [wayV_len];omega)) ?_
 refine Evt.bind (num h1 (by omega)) (Evt.bind (imWay_ev (u:=h0) (v:=l0) (g:=fun x=>numV m D l0 h0 (2 ^ D - x)) (by omega) (by omega) hm hD (bwd l0 h0)) ?_)
 refine Evt.ctrue (decide_eq_true (by simp only [List.length_append,wayV_len];omega)) ?_
 refine Evt.bind (num l0 (by omega)) (Evt.bind (imWay_ev (u:=h1) (v:=l1) (g:=fun x=>numV m D l1 h1 (2 ^ D - x)) (by omega) (by omega) hm hD (bwd l1 h1)) ?_)
 exact Evt.ctrue (decide_eq_true (by simp only [List.length_append,wayV_len];omega)) .pure
end Go.Ev.G

namespace Go.Ev.G
open Go Go.Ev
set_option maxRecDepth 100000

theorem edges_inner{m D:Nat}{b:Bx}{j:Nat}{s kk x17:Int}{l h:Int}{a:Int×Int}(hb1:b.1=m)(hj:j<b.2.1.length)(hj2:j<b.2.2.length)(e1:b.2.1.getD j 0=l)(e2:b.2.2.getD j 0=h)(hl : -64≤l∧l<h∧h≤64)(hm:m≤3)(hD:D≤5)(hs:IntKind.wrap .i64 (1 - s)=(j:Int)) :
  ∀(r c:Nat) (acc:List Ed),c+r=2 ^ D→acc.length+r≤1000→Evt (fun k n=>impl_boundaryEdges_L512830 k n (2 ^ D) (b,2 ^ D,(D:Int),()) acc kk s a x17 (2 ^ D) c) (.inr (2 ^ D,(b,2 ^ D,(D:Int),()),acc++wayV s a (fun x=>numV m D l h (if kk≥2 then 2 ^ D - x else x)) c r,x17,()))
 | 0,c,acc,hc,_=>by
  have hN:((2 ^ D:Nat):Int)=2 ^ D:=by simp
  refine Evt.step (fun k n=>impl_boundaryEdges_L512830.eq_2 k _ _ _ _ _ _ _ _ _ n) (Evt.cfalse (decide_eq_false (by omega)) ?_)
  simp only [wayV,List.range'_zero,List.map_nil,List.append_nil]
  exact .pure
 | r+1,c,acc,hc,ha=>by
  have hN:((2 ^ D:Nat):Int)=2 ^ D:=by simp
  have hp:=pow5 hD
  refine Evt.step (fun k n=>impl_boundaryEdges_L512830.eq_2 k _ _ _ _ _ _ _ _ _ n) (Evt.ctrue (decide_eq_true (by omega)) ?_)
  let g:Int→Int×Int:=fun x=>numV m D l h (if kk≥2 then 2 ^ D - x else x)
  have num:∀x:Int,0≤x→x≤2 ^ D→Evt (fun k _=>impl_boundaryEdges_1 k (IntKind.wrap .i64 (1 - s)) x b (2 ^ D) D) (numV m D l h x):=by
   intro x h1 h2
   rw [hs]
   exact edges1_ev hb1 hj hj2 e1 e2 hl hm hD (by omega)
  have ih:=edges_inner (kk:=kk) (x17:=x17) (s:=s) (a:=a) hb1 hj hj2 e1 e2 hl hm hD hs r (c+1) (acc ++ [(s,a,g c,g ((c:Int)+1))]) (by omega) (by simp;omega)
  have w1:IntKind.wrap .i64 ((c:Int)+1)=((c+1:Nat):Int):=w64_next (by simp only [lenB];omega)
  have e:acc ++ [(s,a,g c,g ((c:Int)+1))]++wayV s a g (c+1) r=acc++wayV s a g c (r+1):=by
   simp only [wayV,List.range'_succ,List.map_cons,List.append_assoc,List.singleton_append]
  have ih2:Evt (fun k n=>impl_boundaryEdges_L512830 k n (2 ^ D) (b,2 ^ D,(D:Int),()) (acc ++ [(s,a,g c,g ((c:Int)+1))]) kk s a x17 (2 ^ D) ((c+1:Nat):Int)) (.inr (2 ^ D,(b,2 ^ D,(D:Int),()),acc++wayV s a g c (r+1),x17,())):=by
   rw [←e];exact ih
  by_cases hk:kk≥2
  ·have g1:g c=numV m D l h (2 ^ D - c):=by show numV m D l h (if kk≥2 then 2 ^ D - (c:Int)else c)=_;rw [if_pos hk]
   have g2:g ((c:Int)+1)=numV m D l h (2 ^ D - c - 1):=by
    show numV m D l h (if kk≥2 then 2 ^ D - ((c:Int)+1)else(c:Int)+1)=_
    rw [if_pos hk,show(2:Int) ^ D - (c+1)=2 ^ D - c - 1 by omega]
   refine Evt.inr (Evt.ctrue (decide_eq_true hk) .pure) ?_
   have w2:IntKind.wrap .i64 ((2:Int) ^ D - c)=2 ^ D - c:=w64 (by omega) (by omega)
   have w3:IntKind.wrap .i64 ((2:Int) ^ D - c - 1)=2 ^ D - c - 1:=w64 (by omega) (by omega)
   simp only [w2,w3,w1]
   rw [g1,g2]at ih2
   refine Evt.bind (num _ (by omega) (by omega)) (Evt.bind (num _ (by omega) (by omega)) (Evt.ctrue (decide_eq_true (by simp only [List.length_cons,List.length_nil];omega)) ?_))
   exact ih2
  ·have g1:g c=numV m D l h c:=by show numV m D l h (if kk≥2 then 2 ^ D - (c:Int)else c)=_;rw [if_neg hk]
   have g2:g ((c:Int)+1)=numV m D l h ((c:Int)+1):=by
    show numV m D l h (if kk≥2 then 2 ^ D - ((c:Int)+1)else(c:Int)+1)=_
    rw [if_neg hk]
   refine Evt.inr (Evt.cfalse (decide_eq_false hk) .pure) ?_
   have w2:IntKind.wrap .i64 ((c:Int)+1)=(c:Int)+1:=w64 (by omega) (by omega)
   simp only [w2]
   rw [g1,g2]at ih2
   refine Evt.bind (num _ (by omega) (by omega)) (Evt.bind (num _ (by omega) (by omega)) (Evt.ctrue (decide_eq_true (by simp only [List.length_cons,List.length_nil];omega)) ?_))
   exact ih2
theorem boundaryEdges_ev{m D:Nat}{l0 l1 h0 h1:Int}(hm:m≤3)(hD:D≤5)(g0 : -64≤l0∧l0<h0∧h0≤64)(g1 : -64≤l1∧l1<h1∧h1≤64):Evt (fun k _=>impl_boundaryEdges k ((m:Int),[l0,l1],[h0,h1]) D) (edgesV m D l0 l1 h0 h1):=by
 have hN:((2 ^ D:Nat):Int)=2 ^ D:=by simp
 have hp:=pow5 hD
 have hNb:2 ^ D≤32:=by omega
 let b:Bx:=((m:Int),[l0,l1],[h0,h1])
 refine Evt.eq (f:=fun k q=>_) ?_ (fun k q=>by rw [impl_boundaryEdges])
 refine Evt.cfalse (decide_eq_false (by omega)) ?_
 have hw:IntKind.wrap .i64 (1*2 ^ min (Int.toNat (D:Int)) (IntKind.bits .i64))=2 ^ D:=by
  rw [min64 (by omega),Int.one_mul,w64 (by omega) (by omega)]
 simp only [hw]
 have one:∀ {R:List Ed ⊕ (List Ed×Unit)} (kk s:Int) (j:Nat) (l h:Int) (a0 a:Int×Int) (acc:List Ed),0≤kk→kk<4→IntKind.wrap .i64 (1 - Int.tmod kk 2)=s→IntKind.wrap .i64 (1 - s)=(j:Int)→j<2→b.2.1.getD j 0=l→b.2.2.getD j 0=h→(-64≤l∧l<h∧h≤64) →
   Evt (fun k _=>impl_boundaryEdges_1 k s 0 b (2 ^ D) D) a0→(kk=1∨kk=2→Evt (fun k _=>impl_boundaryEdges_1 k s (2 ^ D) b (2 ^ D) D) a)→(¬(kk=1∨kk=2)→a0=a)→acc.length≤200 →
   Evt (fun k n=>impl_boundaryEdges_L250 k n (2 ^ D) (b,2 ^ D,(D:Int),()) (acc++wayV s a (fun x=>numV m D l h (if kk≥2 then 2 ^ D - x else x)) 0 (2 ^ D)) (IntKind.wrap .i64 (kk+1))) R→Evt (fun k n=>impl_boundaryEdges_L250 k n (2 ^ D) (b,2 ^ D,(D:Int),()) acc kk) R:=by
  intro R kk s j l h a0 a acc hk0 hk4 hs hj hj2 e1 e2 hl ha0 ha1 haa hacc hrest
  have hin:=edges_inner (kk:=kk) (x17:=kk) (s:=s) (a:=a) (b:=b) (j:=j) (m:=m) rfl (by simpa [b] using hj2) (by simpa [b] using hj2) e1 e2 hl hm hD hj (2 ^ D) 0 acc (by omega) (by omega)
  refine Evt.step (fun k n=>impl_boundaryEdges_L250.eq_2 k _ _ _ _ n) (Evt.ctrue (decide_eq_true hk4) ?_)
  simp only [hs]
  refine Evt.bind ha0 (Evt.inr (y:=(2 ^ D,(b,2 ^ D,(D:Int),()),acc,kk,s,a,kk,())) ?_ (Evt.inr (Evt.diag hin) hrest))
  by_cases c1:kk=1
  ·exact Evt.ctrue (by simp [c1]) (Evt.bind (ha1 (.inl c1)) .pure)
  ·refine Evt.cfalse (by simpa using c1) ?_
   by_cases c2:kk=2
   ·exact Evt.ctrue (by simp [c2]) (Evt.bind (ha1 (.inr c2)) .pure)
   ·refine Evt.cfalse (by simpa using c2) ?_
    rw [haa (by omega)]
    exact .pure
 have n0:∀ {j:Nat} {l h:Int},j<2→b.2.1.getD j 0=l→b.2.2.getD j 0=h→(-64≤l∧l<h∧h≤64)→Evt (fun k _=>impl_boundaryEdges_1 k j 0 b (2 ^ D) D) (mkD l m).1:=by
  intro j l h hj e1 e2 hl
  have:=edges1_ev (x:=0) (b:=b) (m:=m) rfl (by simpa [b] using hj) (by simpa [b] using hj) e1 e2 hl hm hD (by omega)
  rw [numV,Int.zero_mul,Int.add_zero,mkD_scale]at this
  exact this
 have n1:∀ {j:Nat} {l h:Int},j<2→b.2.1.getD j 0=l→b.2.2.getD j 0=h→(-64≤l∧l<h∧h≤64)→Evt (fun k _=>impl_boundaryEdges_1 k j (2 ^ D) b (2 ^ D) D) (mkD h m).1:=by
  intro j l h hj e1 e2 hl
  have:=edges1_ev (x:=2 ^ D) (b:=b) (m:=m) rfl (by simpa [b] using hj) (by simpa [b] using hj) e1 e2 hl hm hD (by omega)
  have e:l*2 ^ D+2 ^ D*(h - l)=h*2 ^ D:=by
   rw [Int.mul_sub,Int.mul_comm (2 ^ D) h,Int.mul_comm (2 ^ D) l];omega
  rw [numV,e,mkD_scale]at this
  exact this
 have fin:∀acc:List Ed,Evt (fun k n=>impl_boundaryEdges_L250 k n (2 ^ D) (b,2 ^ D,(D:Int),()) acc 4) (.inr (acc,())):=fun acc =>
  Evt.step (fun k n=>impl_boundaryEdges_L250.eq_2 k _ _ _ _ n) (Evt.cfalse rfl .pure)
 have w1:IntKind.wrap .i64 (0+1)=1:=by decide
 have w2:IntKind.wrap .i64 (1+1)=2:=by decide
 have w3:IntKind.wrap .i64 (2+1)=3:=by decide
 have w4:IntKind.wrap .i64 (3+1)=4:=by decide
 have all:Evt (fun k n=>impl_boundaryEdges_L250 k n (2 ^ D) (b,2 ^ D,(D:Int),()) [] 0) (.inr (edgesV m D l0 l1 h0 h1,())):=by
  refine one 0 1 0 l0 h0 (mkD l1 m).1 (mkD l1 m).1 [] (by omega) (by omega) (by decide) (by decide) (by omega) rfl rfl g0 (n0 (j:=1) (by omega) rfl rfl g1) (by omega) (fun _=>rfl) (by simp) ?_
  rw [w1]
  refine one 1 0 1 l1 h1 (mkD l0 m).1 (mkD h0 m).1 _ (by omega) (by omega) (by decide) (by decide) (by omega) rfl rfl g1 (n0 (j:=0) (by omega) rfl rfl g0) (fun _=>n1 (j:=0) (by omega) rfl rfl g0) (by omega) (by simp only [List.length_append,List.length_nil,wayV_len];omega) ?_
  rw [w2]
  refine one 2 1 0 l0 h0 (mkD l1 m).1 (mkD h1 m).1 _ (by omega) (by omega) (by decide) (by decide) (by omega) rfl rfl g0 (n0 (j:=1) (by omega) rfl rfl g1) (fun _=>n1 (j:=1) (by omega) rfl rfl g1) (by omega) (by simp only [List.length_append,List.length_nil,wayV_len];omega) ?_
  rw [w3]
  refine one 3 0 1 l1 h1 (mkD l0 m).1 (mkD l0 m).1 _ (by omega) (by omega) (by decide) (by decide) (by omega) rfl rfl g1 (n0 (j:=0) (by omega) rfl rfl g0) (by omega) (fun _=>rfl) (by simp only [List.length_append,List.length_nil,wayV_len];omega) ?_
  rw [w4]
  exact fin _
 exact Evt.inr (Evt.diag all) .pure

def edgesB(b:Bx)(D:Nat):List Ed:=edgesV b.1.toNat D (b.2.1.getD 0 0) (b.2.1.getD 1 0) (b.2.2.getD 0 0) (b.2.2.getD 1 0)
theorem edgesB_len(b:Bx)(D:Nat):(edgesB b D).length=4*2 ^ D:=edgesV_len _ _ _ _ _ _
theorem edgesB_ok{b:Bx}{D:Nat}:∀e∈edgesB b D,EdOk e:=edgesV_ok
theorem imEdgesB_ev{b:Bx}{D:Nat}(h:plV b=true)(hD:D≤5):Evt (fun k _=>spec_imEdges k b D) (edgesB b D):=by
 obtain⟨m,l0,l1,h0,h1,rfl,hm,g0,g1⟩:=plV_form h
 exact imEdges_ev hm hD g0 g1
theorem boundaryEdgesB_ev{b:Bx}{D:Nat}(h:plV b=true)(hD:D≤5):Evt (fun k _=>impl_boundaryEdges k b D) (edgesB b D):=by
 obtain⟨m,l0,l1,h0,h1,rfl,hm,g0,g1⟩:=plV_form h
 exact boundaryEdges_ev hm hD g0 g1
end Go.Ev.G

namespace Go.Ev.G
open Go Go.Ev
set_option maxRecDepth 100000

theorem areReasons1_eq(x:Int):impl_areReasons_1 x=some (!decide (0≤x∧x≤3)):=by
 unfold impl_areReasons_1
 rw [inside_eq];rfl

theorem containsR_ev{xs:List Int}(hb:xs.length<lenB):Evt (fun k _=>slices_ContainsFunc_int_int_impl_areReasons_1 k xs ()) (xs.any fun x => !decide (0≤x∧x≤3)):=by
 refine Evt.eq (f:=fun k q=>_) ?_ (fun k q=>by rw [slices_ContainsFunc_int_int_impl_areReasons_1])
 have h:=index_all (d0:=0) (L:=fun k n i=>slices_IndexFunc_int_int_impl_areReasons_1_L26 k n xs () (xs.length:Int) i) (xs:=xs) (p:=fun _ x=>impl_areReasons_1 x) (P:=fun x => !decide (0≤x∧x≤3)) (fun x _ => .const (areReasons1_eq x)) (fun _ _ _=>rfl) hb
 rw [←findIdx?_any]
 have h2:Evt (fun k _=>slices_IndexFunc_int_int_impl_areReasons_1 k xs ()) (match xs.findIdx? (fun x => !decide (0≤x∧x≤3))with | some j=>(j:Int) | none => -1):=by
  refine Evt.eq (f:=fun k q=>_) ?_ (fun k q=>by rw [slices_IndexFunc_int_int_impl_areReasons_1])
  cases hf:xs.findIdx? (fun x => !decide (0≤x∧x≤3))with
  | none=>rw [hf]at h;exact Evt.inr (Evt.diag h) .pure
  | some j=>rw [hf]at h;exact Evt.inl (Evt.diag h) .pure
 refine Evt.bind h2 (.const ?_)
 cases hf:xs.findIdx? (fun x => !decide (0≤x∧x≤3))with
 | none=>rfl
 | some j=>simp

def rsOk(x:List Int):Bool:=decide ((x.length:Int)≤128)&&x.all fun y=>decide (0≤y∧y≤3)
theorem areReasons_ev{x:List Int}(hb:x.length<lenB):Evt (fun k _=>impl_areReasons k x) (rsOk x):=by
 refine Evt.eq (f:=fun k q=>_) ?_ (fun k q=>by rw [impl_areReasons])
 unfold rsOk
 cases h:decide ((x.length:Int)≤128)with
 | true =>
  refine Evt.ctrue rfl (Evt.bind (containsR_ev hb) (.const ?_))
  rw [Bool.true_and,List.any_eq_not_all_not]
  simp
 | false=>exact Evt.cfalse rfl .pure

theorem tmodN(a b:Nat):Int.tmod (a:Int) (b:Int)=((a % b:Nat):Int):=rfl

theorem turns2_ev{x:List Int}(h0:0<x.length)(hb:x.length≤128):∃(v:Int) (f:Bool),Evt (fun k _=>spec_imTurns k x) (v,f)∧Evt (fun k _=>impl_turnsOf k x) (if f then v else 0,f):=by
 have key:∀(r d:List Int) (t:Int),d++r=x→∃res:(Int×Bool) ⊕ (Int×Unit),(∀q,res = .inl q→q=(0,false))∧Evt (fun k n=>spec_imTurns_L58 k n x t x (x.length:Int) d.length) res∧Evt (fun k n=>impl_turnsOf_L58 k n x t x (x.length:Int) d.length) res:=by
  intro r
  induction r with
  | nil =>
   intro d t h
   rw [List.append_nil]at h
   refine⟨.inr (t,()),(fun q hq=>by cases hq),?_,?_⟩
   ·refine Evt.step (fun k n=>spec_imTurns_L58.eq_2 k _ _ _ _ _ n) ?_
    rw [h]
    exact Evt.rng0 .pure
   ·refine Evt.step (fun k n=>impl_turnsOf_L58.eq_2 k _ _ _ _ _ n) ?_
    rw [h]
    exact Evt.rng0 .pure
  | cons e r ih =>
   intro d t h
   have hl:=congrArg List.length h
   simp at hl
   have hnx:IntKind.wrap .i64 ((d.length:Int)+1)=((d ++ [e]).length:Int):=by rw [w64_next (by simp only [lenB];omega)];simp
   have hw:IntKind.wrap .i64 ((d.length:Int)+1)=((d.length+1:Nat):Int):=w64_next (by simp only [lenB];omega)
   have hmod:(d.length+1) % x.length<x.length:=Nat.mod_lt _ h0
   have e1:x.getD (Int.toNat (d.length:Int)) 0=e:=by rw [←h];exact mid_get
   generalize hD:Int.tmod (IntKind.wrap .i64 ((IntKind.wrap .i64 ((x.getD (Int.toNat (Int.tmod (IntKind.wrap .i64 ((d.length:Int)+1)) (x.length:Int))) 0) - (x.getD (Int.toNat (d.length:Int)) 0)))+4)) 4=D
   have g1:decide ((d.length:Int)<(x.length:Int))=true:=decide_eq_true (by omega)
   have g2:((x.length:Int)==0)=false:=by rw [beq_eq_false_iff_ne];omega
   have g3:decide (0≤Int.tmod (IntKind.wrap .i64 ((d.length:Int)+1)) (x.length:Int))=true:=by rw [hw,tmodN];exact decide_eq_true (Int.natCast_nonneg _)
   have g4:decide (Int.tmod (IntKind.wrap .i64 ((d.length:Int)+1)) (x.length:Int)<(x.length:Int))=true:=by rw [hw,tmodN];exact decide_eq_true (Int.ofNat_lt.2 hmod)
   have s1:∀ {res},Evt (fun k n=>(bif (D==1)then(spec_imTurns_L58 k n x (IntKind.wrap .i64 (t+1)) x (x.length:Int) (IntKind.wrap .i64 ((d.length:Int)+1)))else(bif (D==2)then some (Sum.inl (0,false))else(bif (D==3)then(spec_imTurns_L58 k n x (IntKind.wrap .i64 (t - 1)) x (x.length:Int) (IntKind.wrap .i64 ((d.length:Int)+1)))else(spec_imTurns_L58 k n x t x (x.length:Int) (IntKind.wrap .i64 ((d.length:Int)+1))))))) res→Evt (fun k n=>spec_imTurns_L58 k n x t x (x.length:Int) d.length) res:=by
    intro res hh
    refine Evt.step (fun k n=>spec_imTurns_L58.eq_2 k _ _ _ _ _ n) (Evt.ctrue g1 (Evt.ctrue mid_ge (Evt.ctrue g1 (Evt.cfalse g2 (Evt.ctrue g3 (Evt.ctrue g4 ?_))))))
    rw [hD]
    exact hh
   have s2:∀ {res},Evt (fun k n=>(bif (D==1)then(impl_turnsOf_L58 k n x (IntKind.wrap .i64 (t+1)) x (x.length:Int) (IntKind.wrap .i64 ((d.length:Int)+1)))else(bif (D==2)then some (Sum.inl (0,false))else(bif (D==3)then(impl_turnsOf_L58 k n x (IntKind.wrap .i64 (t - 1)) x (x.length:Int) (IntKind.wrap .i64 ((d.length:Int)+1)))else(impl_turnsOf_L58 k n x t x (x.length:Int) (IntKind.wrap .i64 ((d.length:Int)+1))))))) res→Evt (fun k n=>impl_turnsOf_L58 k n x t x (x.length:Int) d.length) res:=by
    intro res hh
    refine Evt.step (fun k n=>impl_turnsOf_L58.eq_2 k _ _ _ _ _ n) (Evt.ctrue g1 (Evt.ctrue mid_ge (Evt.ctrue g1 (Evt.cfalse g2 (Evt.ctrue g3 (Evt.ctrue g4 ?_))))))
    rw [hD]
    exact hh
   have ih:=fun t=>ih (d ++ [e]) t (by simpa using h)
   rw [←hnx]at ih
   cases h1:(D==1)with
   | true =>
    obtain⟨res,q0,q1,q2⟩:=ih (IntKind.wrap .i64 (t+1))
    exact⟨res,q0,s1 (Evt.ctrue h1 q1),s2 (Evt.ctrue h1 q2)⟩
   | false =>
   cases h2:(D==2)with
   | true=>exact⟨.inl (0,false),(fun q hq=>by cases hq;rfl),s1 (Evt.cfalse h1 (Evt.ctrue h2 .pure)),s2 (Evt.cfalse h1 (Evt.ctrue h2 .pure))⟩
   | false =>
   cases h3:(D==3)with
   | true =>
    obtain⟨res,q0,q1,q2⟩:=ih (IntKind.wrap .i64 (t - 1))
    exact⟨res,q0,s1 (Evt.cfalse h1 (Evt.cfalse h2 (Evt.ctrue h3 q1))),s2 (Evt.cfalse h1 (Evt.cfalse h2 (Evt.ctrue h3 q2)))⟩
   | false =>
    obtain⟨res,q0,q1,q2⟩:=ih t
    exact⟨res,q0,s1 (Evt.cfalse h1 (Evt.cfalse h2 (Evt.cfalse h3 q1))),s2 (Evt.cfalse h1 (Evt.cfalse h2 (Evt.cfalse h3 q2)))⟩
 obtain⟨res,q0,q1,q2⟩:=key x [] 0 rfl
 simp only [List.length_nil]at q1 q2
 cases res with
 | inl q =>
  have hf:=q0 _ rfl
  subst hf
  refine⟨0,false,?_,?_⟩
  ·refine Evt.eq (f:=fun k q=>_) ?_ (fun k q=>by rw [spec_imTurns])
   exact Evt.inl (Evt.diag q1) .pure
  ·refine Evt.eq (f:=fun k q=>_) ?_ (fun k q=>by rw [impl_turnsOf])
   exact Evt.inl (Evt.diag q2) .pure
 | inr y =>
  obtain⟨t,u⟩:=y
  refine⟨IntKind.wrap .i64 (Int.tdiv t 4),(Int.tmod t 4==0),?_,?_⟩
  ·refine Evt.eq (f:=fun k q=>_) ?_ (fun k q=>by rw [spec_imTurns])
   exact Evt.inr (Evt.diag q1) .pure
  ·refine Evt.eq (f:=fun k q=>_) ?_ (fun k q=>by rw [impl_turnsOf])
   cases ht:(Int.tmod t 4==0)with
   | true=>exact Evt.inr (Evt.diag q2) (Evt.cfalse (by unfold bne;rw [ht];rfl) .pure)
   | false=>exact Evt.inr (Evt.diag q2) (Evt.ctrue (by unfold bne;rw [ht];rfl) .pure)
end Go.Ev.G

namespace Go.Ev.G
open Go Go.Ev
set_option maxRecDepth 100000

section
variable {V : Type}
end
def rsnsV(s:List (List Tm)):List Ed→List Int×Bool
 | []=>([],true)
 | e::r=>match rsn s e with
  | some j=>((j:Int)::(rsnsV s r).1,(rsnsV s r).2)
  | none=>([],false)
theorem rsnsV_len{s:List (List Tm)}:∀(es:List Ed),(rsnsV s es).1.length≤es.length∧((rsnsV s es).2=true↔(rsnsV s es).1.length=es.length)
 | []=>by simp [rsnsV]
 | e::r=>by
  have:=rsnsV_len (s:=s) r
  unfold rsnsV
  cases rsn s e with
  | none=>simp
  | some j =>
   simp only [List.length_cons]
   exact⟨by omega,by rw [this.2];omega⟩
structure Pl(s:List (List Tm)):Prop where
 ln:s.length=2
 tm:∀p∈s,∀t∈p,tmW t
 lp:∀p∈s,p.length<lenB
theorem twoV_pl{s:List (List Tm)}(h:twoV s=true)(hm:∀r∈s,r.length<lenB):Pl s:=⟨(twoV_len h).2,sysV_tm (twoV_len h).1,hm⟩
theorem Pl.sd{s:List (List Tm)}(h:Pl s){e:Ed}(he:EdOk e):Sd s (sidesE e):=Sd.edge h.tm h.lp he
theorem imReasons_loop{s:List (List Tm)}(hs:Pl s){es:List Ed}(he:∀e∈es,EdOk e)(hl:es.length≤1000):∀(r d:List Ed) (acc:List Int),d++r=es→acc.length=d.length →
  Evt (fun k n=>spec_imReasons_L58 k n s acc es (es.length:Int) d.length) (if (rsnsV s r).2 then .inr (acc++(rsnsV s r).1,())else .inl (acc++(rsnsV s r).1))
 | [],d,acc,hd,_=>by
  rw [List.append_nil]at hd
  subst hd
  refine Evt.step (fun k n=>spec_imReasons_L58.eq_2 k _ _ _ _ _ n) (Evt.rng0 ?_)
  simp only [rsnsV,if_true,List.append_nil]
  exact .pure
 | e::r,d,acc,hd,ha=>by
  have ge:=he e (by rw [←hd];simp)
  have hdl:=congrArg List.length hd
  simp only [List.length_append,List.length_cons]at hdl
  refine Evt.step (fun k n=>spec_imReasons_L58.eq_2 k _ _ _ _ _ n) ?_
  rw [←hd]
  refine Evt.ctrue mid_lt (Evt.ctrue mid_ge (Evt.ctrue mid_lt ?_))
  rw [mid_get,len_next (by rw [hd];simp only [lenB];omega)]
  have hre:=imReason_ev2 (hs.sd ge) hs.ln
  refine Evt.bind (imSides_ev ge) ?_
  unfold rsnsV
  cases hj:rsn s e with
  | none =>
   rw [hj]at hre
   refine Evt.bind hre (Evt.ctrue rfl ?_)
   simp only [Bool.false_eq_true,if_false,List.append_nil]
   exact .pure
  | some j =>
   rw [hj]at hre
   refine Evt.bind hre (Evt.cfalse rfl (Evt.ctrue (decide_eq_true (by simp only [List.length_cons,List.length_nil];omega)) ?_))
   have ih:=imReasons_loop hs he hl r (d ++ [e]) (acc ++ [(j:Int)]) (by simpa using hd) (by simp [ha])
   rw [←hd]at ih
   simp only [List.append_assoc,List.singleton_append]at ih ⊢
   exact ih
theorem boundaryReasons_loop{s:List (List Tm)}(hs:Pl s){es:List Ed}(he:∀e∈es,EdOk e)(hl:es.length≤1000):∀(r d:List Ed) (acc:List Int),d++r=es→acc.length=d.length →
  Evt (fun k n=>impl_boundaryReasons_L58 k n s acc es (es.length:Int) d.length) (if (rsnsV s r).2 then .inr (acc++(rsnsV s r).1,())else .inl ([],false))
 | [],d,acc,hd,_=>by
  rw [List.append_nil]at hd
  subst hd
  refine Evt.step (fun k n=>impl_boundaryReasons_L58.eq_2 k _ _ _ _ _ n) (Evt.rng0 ?_)
  simp only [rsnsV,if_true,List.append_nil]
  exact .pure
 | e::r,d,acc,hd,ha=>by
  have ge:=he e (by rw [←hd];simp)
  have hdl:=congrArg List.length hd
  simp only [List.length_append,List.length_cons]at hdl
  refine Evt.step (fun k n=>impl_boundaryReasons_L58.eq_2 k _ _ _ _ _ n) ?_
  rw [←hd]
  refine Evt.ctrue mid_lt (Evt.ctrue mid_ge (Evt.ctrue mid_lt ?_))
  rw [mid_get,len_next (by rw [hd];simp only [lenB];omega)]
  have hre:=edgeReason_ev (hs.sd ge) ge hs.ln
  unfold rsnsV
  cases hj:rsn s e with
  | none =>
   rw [hj]at hre
   refine Evt.bind hre (Evt.ctrue rfl ?_)
   simp only [Bool.false_eq_true,if_false]
   exact .pure
  | some j =>
   rw [hj]at hre
   refine Evt.bind hre (Evt.cfalse (decide_eq_false (show ¬ ((j:Int)<0)by omega)) (Evt.ctrue (decide_eq_true (by simp only [List.length_cons,List.length_nil];omega)) ?_))
   have ih:=boundaryReasons_loop hs he hl r (d ++ [e]) (acc ++ [(j:Int)]) (by simpa using hd) (by simp [ha])
   rw [←hd]at ih
   simp only [List.append_assoc,List.singleton_append]at ih ⊢
   exact ih
def allV(s:List (List Tm))(b:Bx)(D:Nat):List Int×Bool:=if (rsnsV s (edgesB b D)).2 then((rsnsV s (edgesB b D)).1,true)else([],false)
theorem pow2N5{D:Nat}(h:D≤5):1≤2 ^ D∧2 ^ D≤32:=by
 have:=pow5 h
 have e:((2 ^ D:Nat):Int)=2 ^ D:=by simp
 omega
theorem imReasons_ev{s:List (List Tm)}{b:Bx}{D:Nat}(hs:Pl s)(hb:plV b=true)(hD:D≤5):Evt (fun k _=>spec_imReasons k s b D) (rsnsV s (edgesB b D)).1:=by
 refine Evt.eq (f:=fun k q=>_) ?_ (fun k q=>by rw [spec_imReasons])
 have hp:=pow2N5 hD
 refine Evt.bind (imEdgesB_ev hb hD) ?_
 have h:=imReasons_loop hs (es:=edgesB b D) edgesB_ok (by rw [edgesB_len];omega) (edgesB b D) [] [] rfl rfl
 simp only [List.length_nil,List.nil_append]at h
 cases hf:(rsnsV s (edgesB b D)).2 with
 | true=>rw [hf,if_pos rfl]at h;exact Evt.inr (Evt.diag h) .pure
 | false=>rw [hf,if_neg (by simp)]at h;exact Evt.inl (Evt.diag h) .pure
theorem imAll_ev{s:List (List Tm)}{b:Bx}{D:Nat}(hs:Pl s)(hb:plV b=true)(hD:D≤5):Evt (fun k _=>spec_imAll k s b D) (allV s b D):=by
 refine Evt.eq (f:=fun k q=>_) ?_ (fun k q=>by rw [spec_imAll])
 have hp:=pow2N5 hD
 refine Evt.bind (imReasons_ev hs hb hD) (Evt.bind (.const (dyPower_eq (m:=D) (by omega))) ?_)
 have hl:=rsnsV_len (s:=s) (edgesB b D)
 rw [edgesB_len]at hl
 rw [w64 (by omega) (by omega)]
 unfold allV
 cases hf:(rsnsV s (edgesB b D)).2 with
 | true =>
  rw [if_pos rfl]
  have:=hl.2.1 hf
  exact Evt.cfalse (decide_eq_false (by omega)) .pure
 | false =>
  rw [if_neg (by simp)]
  have : ¬ (rsnsV s (edgesB b D)).1.length=4*2 ^ D:=fun h=>by rw [hl.2.2 h]at hf;cases hf
  exact Evt.ctrue (decide_eq_true (by omega)) .pure
theorem boundaryReasons_ev{s:List (List Tm)}{b:Bx}{D:Nat}(hs:Pl s)(hb:plV b=true)(hD:D≤5):Evt (fun k _=>impl_boundaryReasons k s b D) (allV s b D):=by
 refine Evt.eq (f:=fun k q=>_) ?_ (fun k q=>by rw [impl_boundaryReasons])
 have hp:=pow2N5 hD
 refine Evt.bind (boundaryEdgesB_ev hb hD) ?_
 have h:=boundaryReasons_loop hs (es:=edgesB b D) edgesB_ok (by rw [edgesB_len];omega) (edgesB b D) [] [] rfl rfl
 simp only [List.length_nil,List.nil_append]at h
 unfold allV
 cases hf:(rsnsV s (edgesB b D)).2 with
 | true=>rw [hf,if_pos rfl]at h;exact Evt.inr (Evt.diag h) .pure
 | false=>rw [hf,if_neg (by simp)]at h;exact Evt.inl (Evt.diag h) .pure
theorem allV_len{s:List (List Tm)}{b:Bx}{D:Nat}(hD:D≤5):(allV s b D).1.length≤128∧((allV s b D).2=true→0<(allV s b D).1.length):=by
 have hp:=pow2N5 hD
 have hl:=rsnsV_len (s:=s) (edgesB b D)
 rw [edgesB_len]at hl
 unfold allV
 split
 ·rename_i hf
  have:=hl.2.1 hf
  simp only
  exact⟨by omega,fun _=>by omega⟩
 ·simp
def askV(s:List (List Tm))(b:Bx)(d:Int):Bool:=planeV s b&&decide (0≤d∧d≤5)
theorem imAsked_ev{m:List (List Tm)}{b:Bx}{d:Int}(hb:m.length<lenB)(hm:∀r∈m,r.length<lenB)(hx:b.2.1.length<lenB):Evt (fun k _=>spec_imAsked k m b d) (askV m b d):=by
 refine Evt.eq (f:=fun k q=>_) ?_ (fun k q=>by rw [spec_imAsked])
 refine Evt.bind (imGood_ev hb hm hx) ?_
 unfold askV
 cases planeV m b with
 | false=>exact Evt.cfalse rfl .pure
 | true =>
  refine Evt.ctrue rfl (Evt.bind (.const (?_:spec_imDepth d=some (decide (0≤d∧d≤5)))) .pure)
  unfold spec_imDepth
  rw [l1In_eq];rfl
theorem askV_form{m:List (List Tm)}{b:Bx}{d:Int}(h:askV m b d=true)(hm:∀r∈m,r.length<lenB):∃D:Nat,d=D∧D≤5∧Pl m∧plV b=true:=by
 unfold askV planeV at h
 simp only [Bool.and_eq_true]at h
 have hd:=of_decide_eq_true h.2
 exact⟨d.toNat,by omega,by omega,twoV_pl h.1.1 hm,h.1.2⟩
end Go.Ev.G

namespace Go.Ev.G
open Go Go.Ev
set_option maxRecDepth 100000

abbrev Cl:=Int×Bool×Int×Int
def cellsV(n:Nat):List Cl := [(0:Int),1,2].flatMap fun s => [false,true].flatMap fun u=>(List.range n).flatMap fun i:Nat=>(List.range n).map fun j:Nat=>(s,u,(i:Int),(j:Int))
end Go.Ev.G

namespace Go.Ev.G
open Go Go.Ev
set_option maxRecDepth 100000

def ordV(d:Int)(n:Nat)(p:Int×Int×Int):List Int:=(impl_around 100 (cellsV n) d p).getD []
end Go.Ev.G

namespace Go.Ev.G
open Go Go.Ev
set_option maxRecDepth 100000

def labF(A:List Int)(i:Int):Int:=A.getD i.toNat 0

end Go.Ev.G

namespace Go.Ev.G
open Go Go.Ev
set_option maxRecDepth 100000

def isLab(a:Int):Prop:=0≤a∧a≤5
def opL(a:Int):Int:=Int.tmod (IntKind.wrap .i64 (a+3)) 6
def triV(a b c:Int):Int:=(impl_countOf a b c).getD 0
def oppI:List Int→Bool
 | []=>false
 | l::r=>r.contains (opL l)||oppI r
def sumL(a:Int):Int→List Int→Int→Int
 | _,[],s=>s
 | p,c::cs,s=>sumL a c cs (IntKind.wrap .i64 (s+triV a p c))
def sumC:List Int→Int→Int
 | a::b::cs,s=>sumL a b cs s
 | _,s=>s
section
variable {x0 : List Int} {x6 : Int} {x7 : List (Int × Bool × Int × Int)} {x9 x10 x11 : Int}
end

section
variable {x0 : List Int} {x1 x6 : Int} {x6' : List (Int × Bool × Int × Int)} {x7 x9 x10 x23 x24 x28 x29 x33 x34 : Int}
end
end Go.Ev.G

namespace Go.Ev.G
open Go Go.Ev
set_option maxRecDepth 100000

theorem inside5_eq(d:Int):impl_inside d 0 5=some (decide (0≤d∧d≤5)):=inside_eq d 0 5
theorem impl_ask{V:Type}{s:List (List Tm)}{b:Bx}{d:Int}{z:V}{g:Nat→Option V}{v:V}(hb:s.length<lenB)(hm:∀r∈s,r.length<lenB)(hx:b.2.1.length<lenB)(hz:askV s b d=false→v=z)(hg:askV s b d=true→Evt (fun k _=>g k) v) :
  Evt (fun k _=>(Option.bind (impl_isPlane k s b) fun r1=>(bif (!r1)then some z else(Option.bind (impl_inside d 0 5) fun r2=>(bif (!r2)then some z else g k))))) v:=by
 refine Evt.bind (isPlane_ev hb hm hx) ?_
 unfold askV at hz hg
 cases hp:planeV s b with
 | false =>
  rw [hp]at hz
  rw [hz rfl]
  exact Evt.ctrue rfl .pure
 | true =>
  rw [hp]at hz hg
  refine Evt.cfalse rfl (Evt.bind (.const (inside5_eq d)) ?_)
  cases hd:decide (0≤d∧d≤5)with
  | false =>
   rw [hd]at hz
   rw [hz rfl]
   exact Evt.ctrue rfl .pure
  | true =>
   rw [hd]at hg
   exact Evt.cfalse rfl (hg rfl)
theorem spec_ask{V:Type}{s:List (List Tm)}{b:Bx}{d:Int}{z:V}{g:Nat→Option V}{v:V}(hb:s.length<lenB)(hm:∀r∈s,r.length<lenB)(hx:b.2.1.length<lenB)(hz:askV s b d=false→v=z)(hg:askV s b d=true→Evt (fun k _=>g k) v) :
  Evt (fun k _=>(Option.bind (spec_imAsked k s b d) fun r1=>(bif (!r1)then some z else g k))) v:=by
 refine Evt.bind (imAsked_ev hb hm hx) ?_
 cases hp:askV s b d with
 | false=>rw [hz hp];exact Evt.ctrue rfl .pure
 | true=>exact Evt.cfalse rfl (hg hp)

def ffV(s:List (List Tm))(b:Bx)(d:Int):Int×Bool:=if askV s b d then(if (rsnsV s (edgesB b d.toNat)).2 then(0,false)else(((rsnsV s (edgesB b d.toNat)).1.length:Int),true))else(0,false)
theorem spec_firstFailure_ev{s:List (List Tm)}{b:Bx}{d:Int}(hb:s.length<lenB)(hm:∀r∈s,r.length<lenB)(hx:b.2.1.length<lenB):Evt (fun k _=>spec_FirstFailure k s b d) (ffV s b d):=by
 refine Evt.eq (f:=fun k q=>_) ?_ (fun k q=>by rw [spec_FirstFailure])
 refine spec_ask hb hm hx (fun h=>by unfold ffV;rw [h];rfl) (fun h => ?_)
 obtain⟨D,rfl,hD,hs,hp⟩:=askV_form h hm
 unfold ffV
 rw [h,if_pos rfl]
 simp only [Int.toNat_natCast]
 have h5:=pow2N5 hD
 have hl:=rsnsV_len (s:=s) (edgesB b D)
 rw [edgesB_len]at hl
 refine Evt.bind (imReasons_ev hs hp hD) (Evt.bind (.const (dyPower_eq (m:=D) (by omega))) ?_)
 rw [w64 (by omega) (by omega)]
 cases hf:(rsnsV s (edgesB b D)).2 with
 | true =>
  have:=hl.2.1 hf
  rw [if_pos rfl]
  exact Evt.ctrue (by rw [this];simp) .pure
 | false =>
  rw [if_neg (by simp)]
  have : ¬ (rsnsV s (edgesB b D)).1.length=4*2 ^ D:=fun h=>by rw [hl.2.2 h]at hf;cases hf
  refine Evt.cfalse ?_ .pure
  rw [beq_eq_false_iff_ne]
  omega
theorem first_index{s:List (List Tm)}:∀(es:List Ed),(match es.findIdx? (fun e=>(rsn s e).isNone)with | some j=>(j:Int) | none => -1)=(if (rsnsV s es).2 then -1 else((rsnsV s es).1.length:Int))
 | []=>rfl
 | e::r=>by
  have ih:=first_index (s:=s) r
  rw [List.findIdx?_cons]
  unfold rsnsV
  cases hj:rsn s e with
  | none=>rfl
  | some j =>
   simp only [Option.isNone_some,Bool.false_eq_true,if_false,List.length_cons]
   cases hi:r.findIdx? (fun e=>(rsn s e).isNone)with
   | none =>
    rw [hi]at ih
    change (-1:Int)=_ at ih
    show(-1:Int)=_
    split at ih
    ·rename_i h;rw [if_pos h]
    ·omega
   | some i =>
    rw [hi]at ih
    change (i:Int)=_ at ih
    show((i+1:Nat):Int)=_
    split at ih
    ·omega
    ·rename_i h;rw [if_neg h];omega
theorem impl_firstFailure_ev{s:List (List Tm)}{b:Bx}{d:Int}(hb:s.length<lenB)(hm:∀r∈s,r.length<lenB)(hx:b.2.1.length<lenB):Evt (fun k _=>impl_FirstFailure k s b d) (ffV s b d):=by
 refine Evt.eq (f:=fun k q=>_) ?_ (fun k q=>by rw [impl_FirstFailure])
 refine impl_ask hb hm hx (fun h=>by unfold ffV;rw [h];rfl) (fun h => ?_)
 obtain⟨D,rfl,hD,hs,hp⟩:=askV_form h hm
 unfold ffV
 rw [h,if_pos rfl]
 simp only [Int.toNat_natCast]
 have h5:=pow2N5 hD
 refine Evt.bind (boundaryEdgesB_ev hp hD) ?_
 have hidx:Evt (fun k _=>slices_IndexFunc_Edge_Edge_impl_FirstFailure_1 k (edgesB b D) (s,())) (match (edgesB b D).findIdx? (fun e=>(rsn s e).isNone)with | some j=>(j:Int) | none => -1):=by
  refine Evt.eq (f:=fun k q=>_) ?_ (fun k q=>by rw [slices_IndexFunc_Edge_Edge_impl_FirstFailure_1])
  have:=index_all (d0:=(0,(0,0),(0,0),0,0)) (L:=fun k n i=>slices_IndexFunc_Edge_Edge_impl_FirstFailure_1_L26 k n (edgesB b D) (s,()) ((edgesB b D).length:Int) i) (xs:=edgesB b D) (p:=fun k e=>impl_FirstFailure_1 k e s) (P:=fun e=>(rsn s e).isNone)
   (fun e he=>by
    refine Evt.eq (f:=fun k q=>_) ?_ (fun k q=>by rw [impl_FirstFailure_1])
    refine Evt.bind (edgeReason_ev (hs.sd (edgesB_ok e he)) (edgesB_ok e he) hs.ln) ?_
    cases rsn s e with
    | none=>exact .pure
    | some j =>
     refine .const ?_
     simp only [Option.isNone_some]
     rw [decide_eq_false (show ¬ ((j:Int)<0)by omega)])
   (fun _ _ _=>rfl) (by rw [edgesB_len];simp only [lenB];omega)
  cases hi:(edgesB b D).findIdx? (fun e=>(rsn s e).isNone)with
  | none=>rw [hi]at this;exact Evt.inr (Evt.diag this) .pure
  | some j=>rw [hi]at this;exact Evt.inl (Evt.diag this) .pure
 rw [first_index]at hidx
 refine Evt.bind hidx ?_
 cases hf:(rsnsV s (edgesB b D)).2 with
 | true=>exact .pure
 | false =>
  simp only [Bool.false_eq_true,if_false]
  rw [if_neg (by omega),decide_eq_true (by omega)]
  exact .pure
def brV(s:List (List Tm))(b:Bx)(d:Int):List Int×Bool:=if askV s b d then allV s b d.toNat else([],false)
theorem askV_le{s:List (List Tm)}{b:Bx}{d:Int}(h:askV s b d=true):d.toNat≤5:=by
 unfold askV at h
 rw [Bool.and_eq_true]at h
 have:=of_decide_eq_true h.2
 omega
theorem brV_len(s:List (List Tm))(b:Bx)(d:Int):(brV s b d).1.length≤128:=by
 unfold brV
 split
 ·rename_i h
  exact(allV_len (askV_le h)).1
 ·simp
theorem spec_boundaryReasons_ev{s:List (List Tm)}{b:Bx}{d:Int}(hb:s.length<lenB)(hm:∀r∈s,r.length<lenB)(hx:b.2.1.length<lenB):Evt (fun k _=>spec_BoundaryReasons k s b d) (brV s b d):=by
 refine Evt.eq (f:=fun k q=>_) ?_ (fun k q=>by rw [spec_BoundaryReasons])
 refine spec_ask hb hm hx (fun h=>by unfold brV;rw [h];rfl) (fun h => ?_)
 obtain⟨D,rfl,hD,hs,hp⟩:=askV_form h hm
 unfold brV
 rw [h,if_pos rfl]
 exact Evt.bind (imAll_ev hs hp hD) .pure
theorem impl_boundaryReasons_ev{s:List (List Tm)}{b:Bx}{d:Int}(hb:s.length<lenB)(hm:∀r∈s,r.length<lenB)(hx:b.2.1.length<lenB):Evt (fun k _=>impl_BoundaryReasons k s b d) (brV s b d):=by
 refine Evt.eq (f:=fun k q=>_) ?_ (fun k q=>by rw [impl_BoundaryReasons])
 refine impl_ask hb hm hx (fun h=>by unfold brV;rw [h];rfl) (fun h => ?_)
 obtain⟨D,rfl,hD,hs,hp⟩:=askV_form h hm
 unfold brV
 rw [h,if_pos rfl]
 exact Evt.bind (boundaryReasons_ev hs hp hD) .pure
def ldV(s:List (List Tm))(b:Bx):Int×Bool:=if planeV s b then(match (List.range 6).find? (fun D=>(allV s b D).2)with | some j=>((j:Int),true) | none=>(0,false))else(0,false)
theorem planeV_form{s:List (List Tm)}{b:Bx}(h:planeV s b=true)(hm:∀r∈s,r.length<lenB):Pl s∧plV b=true:=by
 unfold planeV at h
 rw [Bool.and_eq_true]at h
 exact⟨twoV_pl h.1 hm,h.2⟩
theorem spec_leastDepth_ev{s:List (List Tm)}{b:Bx}(hb:s.length<lenB)(hm:∀r∈s,r.length<lenB)(hx:b.2.1.length<lenB):Evt (fun k _=>spec_LeastDepth k s b) (ldV s b):=by
 refine Evt.eq (f:=fun k q=>_) ?_ (fun k q=>by rw [spec_LeastDepth])
 refine Evt.bind (imGood_ev hb hm hx) ?_
 unfold ldV
 cases h:planeV s b with
 | false=>exact Evt.ctrue rfl .pure
 | true =>
  obtain⟨hs,hp⟩:=planeV_form h hm
  have:=find_loop (L:=fun k n i=>spec_LeastDepth_L58 k n s b i) (p:=fun k i=>Option.bind (spec_imAll k s b i) fun r=>some r.2) (out:=fun j=>((j:Int),true)) (N:=6) (P:=fun D=>(allV s b D).2) (by omega) (fun j hj=>Evt.bind (imAll_ev hs hp (by omega)) .pure)
   (fun k n i hi=>by rw [spec_LeastDepth_L58.eq_2,decide_eq_true (by omega)];cases spec_imAll k s b i <;> rfl) (fun k n=>by rw [spec_LeastDepth_L58.eq_2];rfl)
  refine Evt.cfalse rfl ?_
  rw [if_pos rfl]
  cases hf:(List.range 6).find? (fun D=>(allV s b D).2)with
  | none=>rw [hf]at this;exact Evt.inr (Evt.diag this) .pure
  | some j=>rw [hf]at this;exact Evt.inl (Evt.diag this) .pure
theorem leastDepth_ev{s:List (List Tm)}{b:Bx}(hs:Pl s)(hp:plV b=true):Evt (fun k _=>impl_leastDepth k s b) (match (List.range 6).find? (fun D=>(allV s b D).2)with | some j=>((j:Int),true) | none=>(0,false)):=by
 refine Evt.eq (f:=fun k q=>_) ?_ (fun k q=>by rw [impl_leastDepth])
 have:=find_loop (L:=fun k n i=>impl_leastDepth_L26 k n s b i) (p:=fun k i=>Option.bind (impl_boundaryReasons k s b i) fun r=>some r.2) (out:=fun j=>((j:Int),true)) (N:=6) (P:=fun D=>(allV s b D).2) (by omega) (fun j hj=>Evt.bind (boundaryReasons_ev hs hp (by omega)) .pure)
  (fun k n i hi=>by rw [impl_leastDepth_L26.eq_2,decide_eq_true (by omega)];cases impl_boundaryReasons k s b i <;> rfl) (fun k n=>by rw [impl_leastDepth_L26.eq_2];rfl)
 cases hf:(List.range 6).find? (fun D=>(allV s b D).2)with
 | none=>rw [hf]at this;exact Evt.inr (Evt.diag this) .pure
 | some j=>rw [hf]at this;exact Evt.inl (Evt.diag this) .pure
theorem impl_leastDepth_ev{s:List (List Tm)}{b:Bx}(hb:s.length<lenB)(hm:∀r∈s,r.length<lenB)(hx:b.2.1.length<lenB):Evt (fun k _=>impl_LeastDepth k s b) (ldV s b):=by
 refine Evt.eq (f:=fun k q=>_) ?_ (fun k q=>by rw [impl_LeastDepth])
 refine Evt.bind (isPlane_ev hb hm hx) ?_
 unfold ldV
 cases h:planeV s b with
 | false=>exact Evt.ctrue rfl .pure
 | true =>
  obtain⟨hs,hp⟩:=planeV_form h hm
  rw [if_pos rfl]
  exact Evt.cfalse rfl (Evt.bind (leastDepth_ev hs hp) .pure)
theorem winding_val(s:List (List Tm))(b:Bx){D:Nat}(hD:D≤5):∃v:Int×Bool,(Pl s→plV b=true→Evt (fun k _=>impl_windingOf k s b D) v) ∧
  (Pl s→plV b=true→Evt (fun k _=>(Option.bind (spec_imAll k s b D) fun r2=>(bif (!r2.2)then some (0,false)else(Option.bind (spec_imTurns k r2.1) fun r3=>(bif (!r3.2)then some (0,false)else some (r3.1,true)))))) v):=by
 have hl:=allV_len (s:=s) (b:=b) hD
 cases hf:(allV s b D).2 with
 | false =>
  refine⟨(0,false),fun hs hp => ?_,fun hs hp => ?_⟩
  ·refine Evt.eq (f:=fun k q=>_) ?_ (fun k q=>by rw [impl_windingOf])
   exact Evt.bind (boundaryReasons_ev hs hp hD) (Evt.ctrue (by rw [hf];rfl) .pure)
  ·exact Evt.bind (imAll_ev hs hp hD) (Evt.ctrue (by rw [hf];rfl) .pure)
 | true =>
  obtain⟨v,f,h1,h2⟩:=turns2_ev (hl.2 hf) hl.1
  refine⟨(if f then v else 0,f),fun hs hp => ?_,fun hs hp => ?_⟩
  ·refine Evt.eq (f:=fun k q=>_) ?_ (fun k q=>by rw [impl_windingOf])
   exact Evt.bind (boundaryReasons_ev hs hp hD) (Evt.cfalse (by rw [hf];rfl) (Evt.bind h2 .pure))
  ·refine Evt.bind (imAll_ev hs hp hD) (Evt.cfalse (by rw [hf];rfl) (Evt.bind h1 ?_))
   cases f with
   | true=>exact Evt.cfalse rfl .pure
   | false=>exact Evt.ctrue rfl .pure
theorem windingOf_val(s:List (List Tm))(b:Bx)(d:Int):∃v:Int×Bool,(s.length<lenB→(∀r∈s,r.length<lenB)→b.2.1.length<lenB→Evt (fun k _=>spec_WindingOf k s b d) v)∧(s.length<lenB→(∀r∈s,r.length<lenB)→b.2.1.length<lenB→Evt (fun k _=>impl_WindingOf k s b d) v):=by
 cases h:askV s b d with
 | false =>
  refine⟨(0,false),fun hb hm hx => ?_,fun hb hm hx => ?_⟩
  ·refine Evt.eq (f:=fun k q=>_) ?_ (fun k q=>by rw [spec_WindingOf])
   exact spec_ask hb hm hx (fun _=>rfl) (fun h'=>by rw [h]at h'; cases h')
  ·refine Evt.eq (f:=fun k q=>_) ?_ (fun k q=>by rw [impl_WindingOf])
   exact impl_ask hb hm hx (fun _=>rfl) (fun h'=>by rw [h]at h'; cases h')
 | true =>
  obtain⟨v,h1,h2⟩:=winding_val s b (askV_le h)
  refine⟨v,fun hb hm hx => ?_,fun hb hm hx => ?_⟩
  ·refine Evt.eq (f:=fun k q=>_) ?_ (fun k q=>by rw [spec_WindingOf])
   refine spec_ask hb hm hx (fun h'=>by rw [h]at h'; cases h') (fun _ => ?_)
   obtain⟨D,rfl,hD,hs,hp⟩:=askV_form h hm
   exact h2 hs hp
  ·refine Evt.eq (f:=fun k q=>_) ?_ (fun k q=>by rw [impl_WindingOf])
   refine impl_ask hb hm hx (fun h'=>by rw [h]at h'; cases h') (fun _ => ?_)
   obtain⟨D,rfl,hD,hs,hp⟩:=askV_form h hm
   exact Evt.bind (h1 hs hp) .pure
end Go.Ev.G

namespace Go.Ev.G
open Go Go.Ev
set_option maxRecDepth 100000

def cornV(L:List Int)(s:Int):Option Int:=if oppI L then none else some (sumC L s)
def runN(g:Nat→Int→Option Int):Nat→Nat→Int→Option Int
 | 0,_,s=>some s
 | m+1,i,s=>(g i s).bind fun s=>runN g m (i+1) s
def Lof(A:List Int)(d x y z:Nat):List Int:=(ordV d (2 ^ d) ((x:Int),(y:Int),(z:Int))).map (labF A)
def gz(A:List Int)(d x y z:Nat)(s:Int):Option Int:=cornV (Lof A d x y z) s
def gy(A:List Int)(d x y:Nat)(s:Int):Option Int:=runN (gz A d x y) (2 ^ d+1) 0 s
def gx(A:List Int)(d x:Nat)(s:Int):Option Int:=runN (gy A d x) (2 ^ d+1) 0 s
structure LabOk(A:List Int)(d:Nat):Prop where
 hd:d≤2
 len:A.length=6*2 ^ d*2 ^ d
 lab:∀l∈A,isLab l
theorem LabOk.small{A:List Int}{d:Nat}(h:LabOk A d):A.length≤96:=by
 have:=h.len
 have hd:=h.hd
 rcases(by omega:d=0∨d=1∨d=2)with rfl | rfl | rfl <;> simp at this <;> omega
theorem LabOk.n{A:List Int}{d:Nat}(h:LabOk A d):1≤2 ^ d∧2 ^ d≤4:=by
 have hd:=h.hd
 rcases(by omega:d=0∨d=1∨d=2)with rfl | rfl | rfl <;> decide
end Go.Ev.G

namespace Go.Ev.G
open Go Go.Ev
set_option maxRecDepth 100000

def hh(a b:Int):Int:=if (a,b) ∈ [((0:Int),(1:Int)),(5,1),(5,3)]then 1 else if (b,a) ∈ [((0:Int),(1:Int)),(5,1),(5,3)]then -1 else 0
section
variable {α β : Type}
def cyA(g:α→α→Int)(a0:α):α→List α→Int
 | p,[]=>g p a0
 | p,c::cs=>g p c+cyA g a0 c cs
def cy(g:α→α→Int):List α→Int
 | []=>0
 | a::r=>cyA g a a r
theorem cyA_add(g g':α→α→Int)(a0:α):∀(r:List α) (p:α),cyA (fun x y=>g x y+g' x y) a0 p r=cyA g a0 p r+cyA g' a0 p r
 | [],p=>rfl
 | c::cs,p=>by
  have:=cyA_add g g' a0 cs c
  simp only [cyA];omega
theorem cy_add(g g':α→α→Int)(l:List α):cy (fun x y=>g x y+g' x y) l=cy g l+cy g' l:=by
 cases l with
 | nil=>rfl
 | cons a r=>exact cyA_add g g' a r a
theorem cyA_tel(T:α→Int)(a0:α):∀(r:List α) (p:α),cyA (fun x y=>T x - T y) a0 p r=T p - T a0
 | [],p=>rfl
 | c::cs,p=>by
  have:=cyA_tel T a0 cs c
  simp only [cyA];omega
theorem cy_tel(T:α→Int)(l:List α):cy (fun x y=>T x - T y) l=0:=by
 cases l with
 | nil=>rfl
 | cons a r=>have:=cyA_tel T a r a;simp only [cy];omega
theorem cyA_congr{g g':α→α→Int}(a0:α):∀(r:List α) (p:α),(∀x∈p::r,∀y∈a0::r,g x y=g' x y)→cyA g a0 p r=cyA g' a0 p r
 | [],p,h=>h p (by simp) a0 (by simp)
 | c::cs,p,h=>by
  simp only [cyA]
  rw [h p (by simp) c (by simp),cyA_congr a0 cs c (fun x hx y hy=>h x (List.mem_cons_of_mem _ hx) y (by simp at hy ⊢; rcases hy with hy | hy <;> simp [hy]))]
theorem cy_congr{g g':α→α→Int}{l:List α}(h:∀x∈l,∀y∈l,g x y=g' x y):cy g l=cy g' l:=by
 cases l with
 | nil=>rfl
 | cons a r=>exact cyA_congr a r a h
theorem cyA_map(g:β→β→Int)(f:α→β)(a0:α):∀(r:List α) (p:α),cyA g (f a0) (f p) (r.map f)=cyA (fun x y=>g (f x) (f y)) a0 p r
 | [],p=>rfl
 | c::cs,p=>by simp only [List.map_cons,cyA,cyA_map g f a0 cs c]
theorem cy_map(g:β→β→Int)(f:α→β)(l:List α):cy g (l.map f)=cy (fun x y=>g (f x) (f y)) l:=by
 cases l with
 | nil=>rfl
 | cons a r=>exact cyA_map g f a r a
def prA(a0:α):α→List α→List (α×α)
 | p,[] => [(p,a0)]
 | p,c::cs=>(p,c)::prA a0 c cs
def prs:List α→List (α×α)
 | [] => []
 | a::r=>prA a a r
theorem cyA_prs(g:α→α→Int)(a0:α):∀(r:List α) (p:α),cyA g a0 p r=((prA a0 p r).map fun q=>g q.1 q.2).sum
 | [],p=>by simp [cyA,prA]
 | c::cs,p=>by simp only [cyA,prA,List.map_cons,List.sum_cons,cyA_prs g a0 cs c]
theorem cy_prs(g:α→α→Int)(l:List α):cy g l=((prs l).map fun q=>g q.1 q.2).sum:=by
 cases l with
 | nil=>rfl
 | cons a r=>exact cyA_prs g a r a
theorem prA_mem{a0:α}:∀(r:List α) (p:α),∀q∈prA a0 p r,q.1∈p::r∧q.2∈a0::r
 | [],p,q,h=>by simp [prA]at h;subst h;simp
 | c::cs,p,q,h=>by
  rcases List.mem_cons.1 h with rfl | h
  ·simp
  ·have:=prA_mem cs c q h
   refine⟨List.mem_cons_of_mem _ this.1,?_⟩
   have h2:=this.2
   simp at h2 ⊢
   rcases h2 with h2 | h2 <;> simp [h2]
theorem prs_mem{l:List α}:∀q∈prs l,q.1∈l∧q.2∈l:=by
 cases l with
 | nil=>simp [prs]
 | cons a r=>exact prA_mem r a
end

end Go.Ev.G

namespace Go.Ev.G
open Go Go.Ev
set_option maxRecDepth 100000

def okR(s:List (List Tm))(p:Ed×Int):Bool:=decide (0≤p.2∧p.2≤3)&&hV 2 s (sidesE p.1) p.2.toNat
theorem okR_out{s:List (List Tm)}:∀(es:List Ed) (xs:List Int),es.length=xs.length→(xs.all fun y=>decide (0≤y∧y≤3))=false→(es.zip xs).all (okR s)=false
 | [],[],_,h=>by simp at h
 | e::es,x::xs,hl,h=>by
  rw [List.zip_cons_cons,List.all_cons]
  rw [List.all_cons]at h
  unfold okR
  simp only
  cases hx:decide (0≤x∧x≤3)with
  | false=>rfl
  | true =>
   rw [hx,Bool.true_and]at h
   have:=okR_out (s:=s) es xs (by simpa using hl) h
   unfold okR at this
   rw [this,Bool.and_false]
 | [],_::_,hl,_=>by simp at hl
 | _::_,[],hl,_=>by simp at hl
theorem specCheck_loop{s:List (List Tm)}(hs:Pl s){es:List Ed}{xs:List Int}(he:∀e∈es,EdOk e)(hl:es.length=xs.length)(hb:es.length≤1000):∀(r d:List Ed) (r' d':List Int),d++r=es→d'++r'=xs→d.length=d'.length →
  Evt (fun k m=>spec_CheckReasons_L14922 k m s xs es (es.length:Int) d.length) (if (r.zip r').all (okR s)then .inr (xs,())else .inl (false,true))
 | [],d,r',d',h1,h2,h3=>by
  rw [List.append_nil]at h1
  rw [←h1]
  refine Evt.step (fun k m=>spec_CheckReasons_L14922.eq_2 k _ _ _ _ _ m) (Evt.rng0 ?_)
  simp only [List.zip_nil_left,List.all_nil,if_true]
  exact .pure
 | e::r,d,[],d',h1,h2,h3=>by
  have a1:=congrArg List.length h1
  have a2:=congrArg List.length h2
  simp only [List.length_append,List.length_cons,List.length_nil]at *
  omega
 | e::r,d,x::r',d',h1,h2,h3=>by
  have ge:=he e (by rw [←h1];simp)
  have ih:=specCheck_loop hs he hl hb r (d ++ [e]) r' (d' ++ [x]) (by simpa using h1) (by simpa using h2) (by simp [h3])
  refine Evt.step (fun k m=>spec_CheckReasons_L14922.eq_2 k _ _ _ _ _ m) ?_
  rw [←h1]at ih ⊢
  rw [←h2]at ih ⊢
  refine Evt.ctrue mid_lt (Evt.ctrue mid_ge (Evt.ctrue mid_lt (Evt.ctrue mid_ge (Evt.ctrue (two_lt (r := []) h3) ?_))))
  rw [mid_get,two_get h3,len_next (by rw [h1];simp only [lenB];omega)]
  refine Evt.bind (.const (l1In_eq _ _ _)) ?_
  rw [List.zip_cons_cons,List.all_cons]
  unfold okR at ih ⊢
  simp only
  cases hi:decide (0≤x∧x≤3)with
  | false=>exact Evt.ctrue rfl .pure
  | true =>
   have hxx:=of_decide_eq_true hi
   refine Evt.cfalse rfl (Evt.bind (imSides_ev ge) (Evt.ctrue mid_ge (Evt.ctrue (two_lt (r := []) h3) ?_)))
   obtain⟨j,rfl⟩:=Int.eq_ofNat_of_zero_le hxx.1
   refine Evt.bind (imHolds_ev (hs.sd ge) hs.ln (by omega)) ?_
   simp only [Int.toNat_natCast,Bool.true_and]
   cases hV 2 s (sidesE e) j with
   | false=>exact Evt.ctrue rfl .pure
   | true=>exact Evt.cfalse rfl ih
theorem implCheck_loop{s:List (List Tm)}(hs:Pl s){es:List Ed}{xs:List Int}(he:∀e∈es,EdOk e)(hl:es.length=xs.length)(hb:es.length≤1000)(hx:∀y∈xs,0≤y∧y≤3):∀(r d:List Ed) (r' d':List Int),d++r=es→d'++r'=xs→d.length=d'.length →
  Evt (fun k m=>impl_checkReasons_L27034 k m s xs es (es.length:Int) d.length) (if (r.zip r').all (okR s)then .inr (xs,())else .inl false)
 | [],d,r',d',h1,h2,h3=>by
  rw [List.append_nil]at h1
  rw [←h1]
  refine Evt.step (fun k m=>impl_checkReasons_L27034.eq_2 k _ _ _ _ _ m) (Evt.rng0 ?_)
  simp only [List.zip_nil_left,List.all_nil,if_true]
  exact .pure
 | e::r,d,[],d',h1,h2,h3=>by
  have a1:=congrArg List.length h1
  have a2:=congrArg List.length h2
  simp only [List.length_append,List.length_cons,List.length_nil]at *
  omega
 | e::r,d,x::r',d',h1,h2,h3=>by
  have ge:=he e (by rw [←h1];simp)
  have hxx:=hx x (by rw [←h2];simp)
  have ih:=implCheck_loop hs he hl hb hx r (d ++ [e]) r' (d' ++ [x]) (by simpa using h1) (by simpa using h2) (by simp [h3])
  refine Evt.step (fun k m=>impl_checkReasons_L27034.eq_2 k _ _ _ _ _ m) ?_
  rw [←h1]at ih ⊢
  rw [←h2]at ih ⊢
  refine Evt.ctrue mid_lt (Evt.ctrue mid_ge (Evt.ctrue mid_lt (Evt.ctrue mid_ge (Evt.ctrue (two_lt (r := []) h3) ?_))))
  rw [mid_get,two_get h3,len_next (by rw [h1];simp only [lenB];omega)]
  rw [List.zip_cons_cons,List.all_cons]
  unfold okR at ih ⊢
  simp only
  rw [decide_eq_true hxx]
  obtain⟨j,rfl⟩:=Int.eq_ofNat_of_zero_le hxx.1
  refine Evt.bind (edgeHolds_ev (hs.sd ge) ge hs.ln (by omega)) ?_
  simp only [Int.toNat_natCast,Bool.true_and]
  cases hV 2 s (sidesE e) j with
  | false=>exact Evt.ctrue rfl .pure
  | true=>exact Evt.cfalse rfl ih
theorem check_depth{s:List (List Tm)}{b:Bx}{xs:List Int}{D:Nat}(hs:Pl s)(hp:plV b=true)(hD:D≤5)(hl:xs.length=4*2 ^ D):∃f:Bool,
  Evt (fun k m=>spec_CheckReasons_L58 k m s xs b D) (.inl (f,true))∧(Evt (fun k m=>impl_checkReasons_L26 k m s b xs D) (.inl f)∨(f=false∧rsOk xs=false)):=by
 have h5:=pow2N5 hD
 have hel:(edgesB b D).length=xs.length:=by rw [edgesB_len];omega
 have hsp:=specCheck_loop hs (es:=edgesB b D) (xs:=xs) edgesB_ok hel (by omega) (edgesB b D) [] xs [] rfl rfl rfl
 simp only [List.length_nil]at hsp
 obtain⟨v,f,t1,t2⟩:=turns2_ev (x:=xs) (by omega) (by omega)
 have hN:((2 ^ D:Nat):Int)=2 ^ D:=by simp
 have specStep:∀ {R:(Bool×Bool) ⊕ Unit},Evt (fun k _=>(both (R:=Bool×Bool) (P:=(List Int)×Unit) (spec_CheckReasons_L14922 k k s xs (edgesB b D) ((edgesB b D).length:Int) 0) (fun q9=>some (Sum.inl q9)) (fun y8=>(Option.bind (spec_imTurns k y8.1) fun r10=>some (Sum.inl (r10.2,true)))))) R→Evt (fun k m=>spec_CheckReasons_L58 k m s xs b D) R:=by
  intro R hR
  refine Evt.step (fun k m=>spec_CheckReasons_L58.eq_2 k _ _ _ _ m) (Evt.ctrue (decide_eq_true (by omega)) (Evt.bind (.const (dyPower_eq (m:=D) (by omega))) (Evt.cfalse ?_ (Evt.bind (imEdgesB_ev hp hD) hR))))
  rw [w64 (by omega) (by omega),bne_eq_false_iff_eq]
  omega
 cases ho:rsOk xs with
 | false =>
  refine⟨false,?_,.inr ⟨rfl,rfl⟩⟩
  have hall:(xs.all fun y=>decide (0≤y∧y≤3))=false:=by
   unfold rsOk at ho
   rw [decide_eq_true (by omega),Bool.true_and]at ho
   exact ho
  have:=okR_out (s:=s) (edgesB b D) xs hel hall
  rw [this,if_neg (by simp)]at hsp
  exact specStep (Evt.inl (Evt.diag hsp) .pure)
 | true =>
  have hx:∀y∈xs,0≤y∧y≤3:=by
   unfold rsOk at ho
   rw [Bool.and_eq_true,List.all_eq_true]at ho
   intro y hy
   exact of_decide_eq_true (ho.2 y hy)
  have him:=implCheck_loop hs (es:=edgesB b D) (xs:=xs) edgesB_ok hel (by omega) hx (edgesB b D) [] xs [] rfl rfl rfl
  simp only [List.length_nil]at him
  have implStep:∀ {R:Bool ⊕ Unit},Evt (fun k _=>(both (R:=Bool) (P:=(List Int)×Unit) (impl_checkReasons_L27034 k k s xs (edgesB b D) ((edgesB b D).length:Int) 0) (fun q6=>some (Sum.inl q6)) (fun y5=>(Option.bind (impl_turnsOf k y5.1) fun r7=>some (Sum.inl r7.2))))) R→Evt (fun k m=>impl_checkReasons_L26 k m s b xs D) R:=by
   intro R hR
   refine Evt.step (fun k m=>impl_checkReasons_L26.eq_2 k _ _ _ _ m) (Evt.ctrue (decide_eq_true (by omega)) (Evt.cfalse (decide_eq_false (by omega)) (Evt.cfalse ?_ (Evt.bind (areReasons_ev (by simp only [lenB];omega)) (Evt.cfalse (by rw [ho];rfl) (Evt.bind (boundaryEdgesB_ev hp hD) hR))))))
   rw [min64 (by omega),w64 (by omega) (by omega),bne_eq_false_iff_eq]
   omega
  cases ha:((edgesB b D).zip xs).all (okR s)with
  | false =>
   rw [ha,if_neg (by simp)]at hsp him
   exact⟨false,specStep (Evt.inl (Evt.diag hsp) .pure),.inl (implStep (Evt.inl (Evt.diag him) .pure))⟩
  | true =>
   rw [ha,if_pos rfl]at hsp him
   exact⟨f,specStep (Evt.inr (Evt.diag hsp) (Evt.bind t1 .pure)),.inl (implStep (Evt.inr (Evt.diag him) (Evt.bind t2 .pure)))⟩
theorem spec_skip{s:List (List Tm)}{b:Bx}{xs:List Int}{D:Nat}(hD:D≤5)(hl:xs.length≠4*2 ^ D){R:(Bool×Bool) ⊕ Unit}(h:Evt (fun k m=>spec_CheckReasons_L58 k m s xs b ((D+1:Nat):Int)) R):Evt (fun k m=>spec_CheckReasons_L58 k m s xs b D) R:=by
 have h5:=pow2N5 hD
 have hN:((2 ^ D:Nat):Int)=2 ^ D:=by simp
 refine Evt.step (fun k m=>spec_CheckReasons_L58.eq_2 k _ _ _ _ m) (Evt.ctrue (decide_eq_true (by omega)) (Evt.bind (.const (dyPower_eq (m:=D) (by omega))) (Evt.ctrue ?_ ?_)))
 ·rw [w64 (by omega) (by omega),bne_iff_ne];omega
 ·rw [w64_next (by simp only [lenB];omega)];exact h
theorem impl_skip{s:List (List Tm)}{b:Bx}{xs:List Int}{D:Nat}(hD:D≤5)(hb:xs.length<lenB)(hl:xs.length≠4*2 ^ D∨rsOk xs=false){R:Bool ⊕ Unit}(h:Evt (fun k m=>impl_checkReasons_L26 k m s b xs ((D+1:Nat):Int)) R):Evt (fun k m=>impl_checkReasons_L26 k m s b xs D) R:=by
 have h5:=pow2N5 hD
 have hN:((2 ^ D:Nat):Int)=2 ^ D:=by simp
 refine Evt.step (fun k m=>impl_checkReasons_L26.eq_2 k _ _ _ _ m) (Evt.ctrue (decide_eq_true (by omega)) (Evt.cfalse (decide_eq_false (by omega)) ?_))
 rw [min64 (by omega),w64 (n:=4*2 ^ D) (by omega) (by omega),w64_next (by simp only [lenB];omega)]
 cases hq:((xs.length:Int) != 4*2 ^ D)with
 | true=>exact Evt.ctrue rfl h
 | false =>
  rw [bne_eq_false_iff_eq]at hq
  refine Evt.cfalse rfl (Evt.bind (areReasons_ev hb) ?_)
  rcases hl with hl | hl
  ·omega
  ·rw [hl];exact Evt.ctrue rfl h
theorem spec_end{s:List (List Tm)}{b:Bx}{xs:List Int}:Evt (fun k m=>spec_CheckReasons_L58 k m s xs b ((6:Nat):Int)) (.inr ()):=Evt.step (fun k m=>spec_CheckReasons_L58.eq_2 k _ _ _ _ m) (Evt.cfalse rfl .pure)
theorem impl_end{s:List (List Tm)}{b:Bx}{xs:List Int}:Evt (fun k m=>impl_checkReasons_L26 k m s b xs ((6:Nat):Int)) (.inr ()):=Evt.step (fun k m=>impl_checkReasons_L26.eq_2 k _ _ _ _ m) (Evt.cfalse rfl .pure)
theorem check_from{s:List (List Tm)}{b:Bx}{xs:List Int}(hb:xs.length<lenB):∀(j D:Nat),D+j=6→∃f:Bool,(Pl s→plV b=true→∃R,Evt (fun k m=>spec_CheckReasons_L58 k m s xs b D) R∧(R = .inl (f,true)∨(R = .inr ()∧f=false))) ∧
  (Pl s→plV b=true→∃R,Evt (fun k m=>impl_checkReasons_L26 k m s b xs D) R∧(R = .inl f∨(R = .inr ()∧f=false)))
 | 0,D,h=>by
  have:D=6:=by omega
  subst this
  exact⟨false,fun _ _=>⟨_,spec_end,.inr ⟨rfl,rfl⟩⟩,fun _ _=>⟨_,impl_end,.inr ⟨rfl,rfl⟩⟩⟩
 | j+1,D,h=>by
  obtain⟨f,h1,h2⟩:=check_from (s:=s) (b:=b) hb j (D+1) (by omega)
  by_cases hl:xs.length=4*2 ^ D
  ·by_cases hpl:Pl s∧plV b=true
   ·obtain⟨f',q1,q2⟩:=check_depth hpl.1 hpl.2 (show D≤5 by omega) hl
    refine⟨f',fun _ _=>⟨_,q1,.inl rfl⟩,fun hs hp => ?_⟩
    rcases q2 with q2 | ⟨hf,ho⟩
    ·exact⟨_,q2,.inl rfl⟩
    ·subst hf
          -- behind it no depth has as many edges
     have skipAll:∀(i E:Nat),E+i=6→Evt (fun k m=>impl_checkReasons_L26 k m s b xs E) (.inr ()):=by
      intro i
      induction i with
      | zero =>
       intro E hE
       have:E=6:=by omega
       subst this
       exact impl_end
      | succ i ih =>
       intro E hE
       exact impl_skip (by omega) hb (.inr ho) (ih (E+1) (by omega))
     exact⟨_,skipAll (j+1) D h,.inr ⟨rfl,rfl⟩⟩
   ·exact⟨false,fun hs hp=>absurd ⟨hs,hp⟩ hpl,fun hs hp=>absurd ⟨hs,hp⟩ hpl⟩
  ·refine⟨f,fun hs hp => ?_,fun hs hp => ?_⟩
   ·obtain⟨R,r1,r2⟩:=h1 hs hp
    exact⟨R,spec_skip (by omega) hl r1,r2⟩
   ·obtain⟨R,r1,r2⟩:=h2 hs hp
    exact⟨R,impl_skip (by omega) hb (.inl hl) r1,r2⟩
theorem checkReasons_val(s:List (List Tm))(b:Bx)(xs:List Int)(hxs:xs.length≤140737488351232):∃v:Bool×Bool,(s.length<lenB→(∀r∈s,r.length<lenB)→b.2.1.length<lenB→Evt (fun k _=>spec_CheckReasons k s b xs) v)∧(s.length<lenB→(∀r∈s,r.length<lenB)→b.2.1.length<lenB→Evt (fun k _=>impl_CheckReasons k s b xs) v):=by
 obtain⟨f,h1,h2⟩:=check_from (s:=s) (b:=b) (xs:=xs) (by simp only [lenB];omega) 6 0 rfl
 cases h:planeV s b with
 | false =>
  refine⟨(false,false),fun hb hm hx => ?_,fun hb hm hx => ?_⟩
  ·refine Evt.eq (f:=fun k q=>_) ?_ (fun k q=>by rw [spec_CheckReasons])
   exact Evt.bind (imGood_ev hb hm hx) (Evt.ctrue (by rw [h];rfl) .pure)
  ·refine Evt.eq (f:=fun k q=>_) ?_ (fun k q=>by rw [impl_CheckReasons])
   exact Evt.bind (isPlane_ev hb hm hx) (Evt.ctrue (by rw [h];rfl) .pure)
 | true =>
  by_cases hl:(xs.length:Int)>128
  ·refine⟨(false,false),fun hb hm hx => ?_,fun hb hm hx => ?_⟩
   ·refine Evt.eq (f:=fun k q=>_) ?_ (fun k q=>by rw [spec_CheckReasons])
    exact Evt.bind (imGood_ev hb hm hx) (Evt.cfalse (by rw [h];rfl) (Evt.ctrue (decide_eq_true hl) .pure))
   ·refine Evt.eq (f:=fun k q=>_) ?_ (fun k q=>by rw [impl_CheckReasons])
    exact Evt.bind (isPlane_ev hb hm hx) (Evt.cfalse (by rw [h];rfl) (Evt.ctrue (decide_eq_true hl) .pure))
  ·refine⟨(f,true),fun hb hm hx => ?_,fun hb hm hx => ?_⟩
   ·obtain⟨hs,hp⟩:=planeV_form h hm
    obtain⟨R,r1,r2⟩:=h1 hs hp
    refine Evt.eq (f:=fun k q=>_) ?_ (fun k q=>by rw [spec_CheckReasons])
    refine Evt.bind (imGood_ev hb hm hx) (Evt.cfalse (by rw [h];rfl) (Evt.cfalse (decide_eq_false hl) ?_))
    rcases r2 with rfl | ⟨rfl,rfl⟩
    ·exact Evt.inl (Evt.diag r1) .pure
    ·exact Evt.inr (Evt.diag r1) .pure
   ·obtain⟨hs,hp⟩:=planeV_form h hm
    obtain⟨R,r1,r2⟩:=h2 hs hp
    refine Evt.eq (f:=fun k q=>_) ?_ (fun k q=>by rw [impl_CheckReasons])
    refine Evt.bind (isPlane_ev hb hm hx) (Evt.cfalse (by rw [h];rfl) (Evt.cfalse (decide_eq_false hl) ?_))
    have:Evt (fun k _=>impl_checkReasons k s b xs) f:=by
     refine Evt.eq (f:=fun k q=>_) ?_ (fun k q=>by rw [impl_checkReasons])
     rcases r2 with rfl | ⟨rfl,rfl⟩
     ·exact Evt.inl (Evt.diag r1) .pure
     ·exact Evt.inr (Evt.diag r1) .pure
    exact Evt.bind this .pure
end Go.Ev.G

namespace Go.Ev.G
open Go Go.Ev
set_option maxRecDepth 100000

def halfD(a b:Int×Int):(Int×Int)×Bool:=mkD (sumN a b) (exA a b+1)
theorem halfD_gd(a b:Int×Int):gd (halfD a b).1:=mkD_gd _ _
theorem EdOk.left{e:Ed}(h:EdOk e):EdOk (e.1,e.2.1,e.2.2.1,(halfD e.2.2.1 e.2.2.2).1):=⟨h.sd,h.a,h.f,halfD_gd _ _⟩
theorem EdOk.right{e:Ed}(h:EdOk e):EdOk (e.1,e.2.1,(halfD e.2.2.1 e.2.2.2).1,e.2.2.2):=⟨h.sd,h.a,halfD_gd _ _,h.t⟩
end Go.Ev.G

namespace Go.Ev.G
open Go Go.Ev
set_option maxRecDepth 100000

def allO{α β:Type}(g:α→Option β)(z:β)(l:List α):Option (List β):=if (l.all fun x=>(g x).isSome)then some (l.map fun x=>(g x).getD z)else none
def oL{β:Type}(o:Option (List β)):List β×Bool:=match o with
 | some l=>(l,true)
 | none=>([],false)
end Go.Ev.G

namespace Go.Ev.G
open Go Go.Ev
set_option maxRecDepth 100000

theorem allO_some{α β:Type}{g:α→Option β}{z:β}{l:List α}{m:List β}(h:allO g z l=some m):m=l.map (fun x=>(g x).getD z)∧∀x∈l,(g x).isSome=true:=by
 unfold allO at h
 split at h
 ·rename_i ha
  cases h
  exact⟨rfl,List.all_eq_true.1 ha⟩
 ·cases h
theorem allO_len{α β:Type}{g:α→Option β}{z:β}{l:List α}{m:List β}(h:allO g z l=some m):m.length=l.length:=by
 rw [(allO_some h).1,List.length_map]
end Go.Ev.G

namespace Go.Ev.G
open Go Go.Ev
set_option maxRecDepth 100000

def numS(r:Int×Int):Prop:=0≤r.2∧r.2≤8∧r.1.natAbs≤8*2 ^ r.2.toNat
theorem mkD_numS{v:Int}{k:Nat}(hk:k≤8)(hv:v.natAbs≤8*2 ^ k):numS (mkD v k).1:=by
 unfold mkD
 split
 ·have h1:=strip_val k v
  have h2:=strip_le k v
  refine⟨by simp,by simp only;omega,?_⟩
  have e:(((strip k v).2:Int)).toNat=(strip k v).2:=by omega
  simp only
  rw [e]
  generalize (strip k v).1=n at h1 ⊢
  generalize (strip k v).2=j at h1 h2 ⊢
  have h3:n.natAbs*2 ^ (k - j)=v.natAbs:=by rw [←h1,Int.natAbs_mul,Int.natAbs_pow];rfl
  have hp:0<2 ^ (k - j):=Nat.pow_pos (by decide)
  have h4:n.natAbs*2 ^ (k - j)≤(8*2 ^ j)*2 ^ (k - j):=by
   rw [h3,Nat.mul_assoc,←Nat.pow_add,show j+(k - j)=k by omega]
   exact hv
  exact Nat.le_of_mul_le_mul_right h4 hp
 ·exact⟨by simp,by simp,by simp⟩
def edS(e:Ed):Prop:=(e.1=0∨e.1=1)∧numS e.2.1∧numS e.2.2.1
theorem plV_form8{b:Bx}(h:plV b=true):∃(m:Nat) (l0 l1 h0 h1:Int),b=((m:Int),[l0,l1],[h0,h1])∧m≤3∧(-(8*2 ^ m)≤l0∧l0<h0∧h0≤8*2 ^ m)∧(-(8*2 ^ m)≤l1∧l1<h1∧h1≤8*2 ^ m):=by
 obtain⟨d8,los,his⟩:=b
 unfold plV bxV at h
 simp only [Bool.and_eq_true,decide_eq_true_eq,beq_iff_eq]at h
 obtain⟨⟨g1,g2,g3,g4,_⟩,g5,g6⟩:=h
 match los,his,g3,g5,g4 with
 | [l0,l1],[h0,h1],_,_,g4 =>
  refine⟨d8.toNat,l0,l1,h0,h1,by rw [Int.toNat_of_nonneg g1.1],by omega,?_⟩
  generalize (8:Int)*2 ^ d8.toNat=L at g4 ⊢
  simp only [List.zip_cons_cons,List.zip_nil_left,List.all_cons,List.all_nil,Bool.and_true,Bool.and_eq_true,sideOk,decide_eq_true_eq]at g4
  omega
theorem between{m D:Nat}{l h x:Int}(hl : -(8*2 ^ m)≤l)(hlh:l<h)(hh:h≤8*2 ^ m)(h0:0≤x)(h1:x≤2 ^ D):(l*2 ^ D+x*(h - l)).natAbs≤8*2 ^ (m+D):=by
 have hP:(0:Int)≤2 ^ D:=Int.le_of_lt (Int.pow_pos (by decide))
 have e1:l*2 ^ D+x*(h - l)=l*(2 ^ D - x)+h*x:=by rw [Int.mul_sub,Int.mul_sub,Int.mul_comm x h,Int.mul_comm x l];omega
 have a1 : -(8*2 ^ m)*(2 ^ D - x)≤l*(2 ^ D - x):=Int.mul_le_mul_of_nonneg_right hl (by omega)
 have a2 : -(8*2 ^ m)*x≤h*x:=Int.mul_le_mul_of_nonneg_right (by omega) h0
 have b1:l*(2 ^ D - x)≤8*2 ^ m*(2 ^ D - x):=Int.mul_le_mul_of_nonneg_right (by omega) (by omega)
 have b2:h*x≤8*2 ^ m*x:=Int.mul_le_mul_of_nonneg_right hh h0
 have e2:(8:Int)*2 ^ m*(2 ^ D - x)+8*2 ^ m*x=8*2 ^ m*2 ^ D:=by rw [←Int.mul_add];congr 1;omega
 have e3:((8*2 ^ (m+D):Nat):Int)=8*2 ^ m*2 ^ D:=by rw [Nat.pow_add,←Nat.mul_assoc];simp
 rw [Int.neg_mul]at a1 a2
 omega
theorem edges_S{b:Bx}{D:Nat}(h:plV b=true)(hD:D≤5):∀e∈edgesB b D,edS e:=by
 obtain⟨m,l0,l1,h0,h1,rfl,hm,g0,g1⟩:=plV_form8 h
 have side:∀ {l hh:Int},-(8*2 ^ m)≤l→l<hh→hh≤8*2 ^ m→numS (mkD l m).1∧numS (mkD hh m).1∧∀x:Int,0≤x→x≤2 ^ D→numS (numV m D l hh x):=by
  intro l hh a b c
  have e3:((8*2 ^ m:Nat):Int)=8*2 ^ m:=by simp
  exact⟨mkD_numS (by omega) (by omega),mkD_numS (by omega) (by omega),fun x x0 x1=>mkD_numS (by omega) (between a b c x0 x1)⟩
 obtain⟨s1,s2,s3⟩:=side g0.1 g0.2.1 g0.2.2
 obtain⟨t1,t2,t3⟩:=side g1.1 g1.2.1 g1.2.2
 have eP:((2 ^ D:Nat):Int)=2 ^ D:=by simp
 have way:∀ {s:Int} {a:Int×Int} {g:Int→Int×Int},(s=0∨s=1)→numS a→(∀x:Int,0≤x→x≤2 ^ D→numS (g x))→∀e∈wayV s a g 0 (2 ^ D),edS e:=by
  intro s a g hs ha hg e he
  simp only [wayV,List.mem_map]at he
  obtain⟨i,hi,rfl⟩:=he
  have hi2:=List.mem_range'_1.1 hi
  exact⟨hs,ha,hg i (by omega) (by omega)⟩
 intro e he
 simp only [edgesB,List.getD_cons_zero,List.getD_cons_succ,Int.toNat_natCast,edgesV,List.mem_append]at he
 rcases he with ((he | he) | he) | he
 ·exact way (.inr rfl) t1 s3 e he
 ·exact way (.inl rfl) s2 t3 e he
 ·exact way (.inr rfl) t2 (fun x x0 x1=>s3 _ (by omega) (by omega)) e he
 ·exact way (.inl rfl) s1 (fun x x0 x1=>t3 _ (by omega) (by omega)) e he

def ptE(e:Ed):List (Int×Int):=if e.1=1 then [e.2.2.1,e.2.1]else [e.2.1,e.2.2.1]
theorem ptE_len(e:Ed):(ptE e).length=2:=by unfold ptE;split <;> rfl
theorem ptE_V{e:Ed}(h:edS e):∃M:Nat,M≤8∧kMax (ptE e)=M∧ptV M (ptE e):=by
 obtain⟨_,h1,h2⟩:=h
 have gen:∀x y:Int×Int,numS x→numS y→∃M:Nat,M≤8∧kMax [x,y]=M∧ptV M [x,y]:=by
  intro x y hx hy
  obtain⟨a1,a2,a3⟩:=hx
  obtain⟨b1,b2,b3⟩:=hy
  refine⟨(max x.2 y.2).toNat,by omega,?_,?_⟩
  ·simp only [kMax,List.foldl_cons,List.foldl_nil]
   omega
  ·intro z hz
   simp only [List.mem_cons,List.not_mem_nil,or_false]at hz
   rcases hz with rfl | rfl
   ·exact⟨a1,by omega,a3⟩
   ·exact⟨b1,by omega,b3⟩
 unfold ptE
 split
 ·exact gen _ _ h2 h1
 ·exact gen _ _ h1 h2
def qq(a b:Int):Option Int:=if a=0∧b=0 then none else some (if 0<a∧0≤b then 0 else if a≤0∧0<b then 1 else if a<0 then 2 else 3)
theorem qq_scale{a b W:Int}(hW:0<W):qq (a*W) (b*W)=qq a b:=by
 have z:∀x:Int,(x*W=0↔x=0):=fun x=>⟨fun h=>by rcases Int.mul_eq_zero.1 h with h | h <;> omega,fun h=>by rw [h,Int.zero_mul]⟩
 have p:∀x:Int,(0<x*W↔0<x):=fun x=>⟨fun h=>by
  rcases Int.lt_or_le 0 x with h2 | h2
  ·exact h2
  ·have:=Int.mul_le_mul_of_nonneg_right h2 (Int.le_of_lt hW)
   rw [Int.zero_mul]at this
   omega,fun h=>Int.mul_pos h hW⟩
 have n:∀x:Int,(x*W<0↔x<0):=fun x=>by
  have:=z x
  have:=p x
  omega
 have e1:∀x:Int,(0≤x*W↔0≤x):=fun x=>by have:=n x;omega
 have e2:∀x:Int,(x*W≤0↔x≤0):=fun x=>by have:=p x;omega
 unfold qq
 simp only [z,p,n,e1,e2]
theorem cmp_neg{a:Int}(h:a<0):cmpI a 0 = -1:=by unfold cmpI;rw [if_pos h]
theorem cmp_nul{a:Int}(h:a=0):cmpI a 0=0:=by unfold cmpI;rw [if_neg (by omega),if_neg (by omega)]
theorem cmp_pos{a:Int}(h:0<a):cmpI a 0=1:=by unfold cmpI;rw [if_neg (by omega),if_pos h]
theorem imQuarter_eq(a b:Int):spec_imQuarter (cmpI a 0) (cmpI b 0)=some (match qq a b with | some q=>(q,true) | none=>(3,false)):=by
 rcases Int.lt_trichotomy a 0 with h | h | h <;> rcases Int.lt_trichotomy b 0 with h2 | h2 | h2
 ·have e:qq a b=some 2:=by
   unfold qq
   repeat' split
   all_goals first | rfl | omega
  rw [cmp_neg h,cmp_neg h2,e]
  rfl
 ·have e:qq a b=some 2:=by
   unfold qq
   repeat' split
   all_goals first | rfl | omega
  rw [cmp_neg h,cmp_nul h2,e]
  rfl
 ·have e:qq a b=some 1:=by
   unfold qq
   repeat' split
   all_goals first | rfl | omega
  rw [cmp_neg h,cmp_pos h2,e]
  rfl
 ·have e:qq a b=some 3:=by
   unfold qq
   repeat' split
   all_goals first | rfl | omega
  rw [cmp_nul h,cmp_neg h2,e]
  rfl
 ·have e:qq a b=none:=by
   unfold qq
   repeat' split
   all_goals first | rfl | omega
  rw [cmp_nul h,cmp_nul h2,e]
  rfl
 ·have e:qq a b=some 1:=by
   unfold qq
   repeat' split
   all_goals first | rfl | omega
  rw [cmp_nul h,cmp_pos h2,e]
  rfl
 ·have e:qq a b=some 3:=by
   unfold qq
   repeat' split
   all_goals first | rfl | omega
  rw [cmp_pos h,cmp_neg h2,e]
  rfl
 ·have e:qq a b=some 0:=by
   unfold qq
   repeat' split
   all_goals first | rfl | omega
  rw [cmp_pos h,cmp_nul h2,e]
  rfl
 ·have e:qq a b=some 0:=by
   unfold qq
   repeat' split
   all_goals first | rfl | omega
  rw [cmp_pos h,cmp_pos h2,e]
  rfl
theorem quarter_eq{a b q:Int}(h:qq a b=some q):impl_quarter a b=some q:=by
 unfold qq at h
 split at h
 ·cases h
 ·rename_i hz
  cases h
  unfold impl_quarter
  by_cases h1:a>0
  ·rw [decide_eq_true h1,cond_true]
   by_cases h2:b≥0
   ·rw [decide_eq_true h2,cond_true,if_pos ⟨h1,h2⟩]
   ·rw [decide_eq_false h2,cond_false,decide_eq_false (by omega),cond_false,decide_eq_false (by omega),cond_false,if_neg (by omega),if_neg (by omega),if_neg (by omega)]
  ·rw [decide_eq_false h1,cond_false,decide_eq_true (by omega),cond_true,if_neg (by omega)]
   by_cases h2:b>0
   ·rw [decide_eq_true h2,cond_true,if_pos ⟨by omega,h2⟩]
   ·rw [decide_eq_false h2,cond_false,if_neg (by omega)]
    by_cases h3:a<0
    ·rw [decide_eq_true h3,cond_true,if_pos h3]
    ·rw [decide_eq_false h3,cond_false,if_neg h3]
end Go.Ev.G

namespace Go.Ev.G
open Go Go.Ev
set_option maxRecDepth 100000

def ptT(e:Ed):List (Int×Int):=if e.1=1 then [e.2.2.2,e.2.1]else [e.2.1,e.2.2.2]
def pth:List (Int×Int)→List Ed→List (Int×Int)→Prop
 | p,[],q=>p=q
 | p,e::r,q=>ptE e=p∧pth (ptT e) r q
theorem pth_append:∀ {l l':List Ed} {p q s:List (Int×Int)},pth p l q→pth q l' s→pth p (l++l') s
 | [],_,_,_,_,h,h'=>by cases h;exact h'
 | _::_,_,_,_,_,h,h'=>⟨h.1,pth_append h.2 h'⟩
theorem pth_way1{a:Int×Int}{g:Int→Int×Int}:∀(r c:Nat),pth [g c,a] (wayV 1 a g c r) [g ((c+r:Nat):Int),a]
 | 0,c=>by simp [wayV,pth]
 | r+1,c=>by
  have ih:=pth_way1 (a:=a) (g:=g) r (c+1)
  have e:wayV 1 a g c (r+1)=(1,a,g c,g ((c:Int)+1))::wayV 1 a g (c+1) r:=by simp only [wayV,List.range'_succ,List.map_cons]
  rw [e]
  refine⟨by simp [ptE],?_⟩
  have e2:ptT (1,a,g c,g ((c:Int)+1)) = [g ((c+1:Nat):Int),a]:=by simp [ptT]
  rw [e2,show c+(r+1)=c+1+r by omega]
  exact ih
theorem pth_way0{a:Int×Int}{g:Int→Int×Int}:∀(r c:Nat),pth [a,g c] (wayV 0 a g c r) [a,g ((c+r:Nat):Int)]
 | 0,c=>by simp [wayV,pth]
 | r+1,c=>by
  have ih:=pth_way0 (a:=a) (g:=g) r (c+1)
  have e:wayV 0 a g c (r+1)=(0,a,g c,g ((c:Int)+1))::wayV 0 a g (c+1) r:=by simp only [wayV,List.range'_succ,List.map_cons]
  rw [e]
  refine⟨by simp [ptE],?_⟩
  have e2:ptT (0,a,g c,g ((c:Int)+1)) = [a,g ((c+1:Nat):Int)]:=by simp [ptT]
  rw [e2,show c+(r+1)=c+1+r by omega]
  exact ih
theorem numV_zero(m D:Nat)(l h:Int):numV m D l h 0=(mkD l m).1:=by
 unfold numV
 rw [Int.zero_mul,Int.add_zero,mkD_scale]
theorem numV_full(m D:Nat)(l h:Int):numV m D l h (2 ^ D)=(mkD h m).1:=by
 unfold numV
 have e:l*2 ^ D+2 ^ D*(h - l)=h*2 ^ D:=by
  rw [Int.mul_sub,Int.mul_comm (2 ^ D) h,Int.mul_comm (2 ^ D) l]
  omega
 rw [e,mkD_scale]
theorem castPow(D:Nat):((2 ^ D:Nat):Int)=2 ^ D:=by simp
theorem edges_path(m D:Nat)(l0 l1 h0 h1:Int):pth [(mkD l0 m).1,(mkD l1 m).1] (edgesV m D l0 l1 h0 h1) [(mkD l0 m).1,(mkD l1 m).1]:=by
 unfold edgesV
 have z:((0:Nat):Int)=0:=rfl
 have w1:=pth_way1 (a:=(mkD l1 m).1) (g:=numV m D l0 h0) (2 ^ D) 0
 have w2:=pth_way0 (a:=(mkD h0 m).1) (g:=numV m D l1 h1) (2 ^ D) 0
 have w3:=pth_way1 (a:=(mkD h1 m).1) (g:=fun x=>numV m D l0 h0 (2 ^ D - x)) (2 ^ D) 0
 have w4:=pth_way0 (a:=(mkD l0 m).1) (g:=fun x=>numV m D l1 h1 (2 ^ D - x)) (2 ^ D) 0
 simp only [Nat.zero_add,castPow,z,numV_zero,numV_full,Int.sub_zero,Int.sub_self]at w1 w2 w3 w4
 exact pth_append (pth_append (pth_append w1 w2) w3) w4
theorem prA_path{a0:Ed}:∀(r:List Ed) (p:Ed),pth (ptT p) r (ptE a0)→∀q∈prA a0 p r,ptT q.1=ptE q.2
 | [],p,h,q,hq=>by
  simp only [prA,List.mem_cons,List.not_mem_nil,or_false]at hq
  subst hq
  exact h
 | c::cs,p,h,q,hq=>by
  rcases List.mem_cons.1 hq with rfl | hq
  ·exact h.1.symm
  ·exact prA_path cs c h.2 q hq
theorem prs_path{l:List Ed}{p:List (Int×Int)}(h:pth p l p):∀q∈prs l,ptT q.1=ptE q.2:=by
 cases l with
 | nil=>simp [prs]
 | cons a r =>
  obtain⟨h1,h2⟩:=h
  rw [←h1]at h2
  exact prA_path r a h2

def ptIn(pt:List (Int×Int))(sides:List Iv):Prop:=pt.length=sides.length∧∀q∈pt.zip sides,sv q.2.1≤sv q.1∧sv q.1≤sv q.2.2
def sdIn(u v:List Iv):Prop:=u.length=v.length∧∀q∈u.zip v,sv q.2.1≤sv q.1.1∧sv q.1.2≤sv q.2.2
theorem ptIn_sdIn:∀ {pt:List (Int×Int)} {u v:List Iv},ptIn pt u→sdIn u v→ptIn pt v
 | [],[],[],_,_=>⟨rfl,by simp⟩
 | [],[],_::_,_,h=>by have:=h.1;simp at this
 | [],_::_,_,h,_=>by have:=h.1;simp at this
 | _::_,[],_,h,_=>by have:=h.1;simp at this
 | _::_,_::_,[],_,h=>by have:=h.1;simp at this
 | x::pt,a::u,b::v,h,h'=>by
  have h1:=h.2 (x,a) (by simp)
  have h2:=h'.2 (a,b) (by simp)
  have ih:=ptIn_sdIn (pt:=pt) (u:=u) (v:=v) ⟨by have:=h.1;simpa using this,fun q hq=>h.2 q (by simp [hq])⟩ ⟨by have:=h'.1;simpa using this,fun q hq=>h'.2 q (by simp [hq])⟩
  refine⟨by have:=ih.1;simp [this],fun q hq => ?_⟩
  rcases List.mem_cons.1 hq with rfl | hq
  ·exact⟨by simp only at h1 h2 ⊢; omega,by simp only at h1 h2 ⊢; omega⟩
  ·exact ih.2 q hq
theorem upX_sv{M:Nat}{x:Int×Int}(hM:M≤24)(h0:0≤x.2)(hk:x.2≤M):sv x*DM M=upX M x*TT:=by
 unfold sv upX DM
 rw [castPow,←two24,Int.mul_assoc,Int.mul_assoc,←Int.pow_add,←Int.pow_add]
 congr 2
 omega
theorem ptIn_inBx{M:Nat}{pt:List (Int×Int)}{sides:List Iv}(hM:M≤24)(hp:∀x∈pt,0≤x.2∧x.2≤M)(hs:∀s∈sides,ivGd s)(h:ptIn pt sides):inBx M pt sides:=by
 refine⟨h.1,fun q hq => ?_⟩
 have hz:=List.of_mem_zip hq
 refine⟨hs _ hz.2,?_⟩
 have h1:=h.2 q hq
 have h2:=hp _ hz.1
 have e:=upX_sv hM h2.1 h2.2
 unfold mem
 rw [←e]
 have hD:=Int.le_of_lt (DM_pos M)
 exact⟨Int.mul_le_mul_of_nonneg_right h1.1 hD,Int.mul_le_mul_of_nonneg_right h1.2 hD⟩
theorem ptE_in(e:Ed)(hs:e.1=0∨e.1=1):ptIn (ptE e) (sidesE e):=by
 unfold ptE sidesE
 rcases hs with h | h
 ·rw [h,if_neg (by decide),if_pos rfl]
  refine⟨rfl,fun q hq => ?_⟩
  simp only [List.zip_cons_cons,List.zip_nil_left,List.mem_cons,List.not_mem_nil,or_false]at hq
  rcases hq with rfl | rfl
  ·simp [sgl]
  ·simp only [minD_sv,maxD_sv];omega
 ·rw [h,if_pos rfl,if_neg (by decide)]
  refine⟨rfl,fun q hq => ?_⟩
  simp only [List.zip_cons_cons,List.zip_nil_left,List.mem_cons,List.not_mem_nil,or_false]at hq
  rcases hq with rfl | rfl
  ·simp only [minD_sv,maxD_sv];omega
  ·simp [sgl]
theorem ptT_in(e:Ed)(hs:e.1=0∨e.1=1):ptIn (ptT e) (sidesE e):=by
 unfold ptT sidesE
 rcases hs with h | h
 ·rw [h,if_neg (by decide),if_pos rfl]
  refine⟨rfl,fun q hq => ?_⟩
  simp only [List.zip_cons_cons,List.zip_nil_left,List.mem_cons,List.not_mem_nil,or_false]at hq
  rcases hq with rfl | rfl
  ·simp [sgl]
  ·simp only [minD_sv,maxD_sv];omega
 ·rw [h,if_pos rfl,if_neg (by decide)]
  refine⟨rfl,fun q hq => ?_⟩
  simp only [List.zip_cons_cons,List.zip_nil_left,List.mem_cons,List.not_mem_nil,or_false]at hq
  rcases hq with rfl | rfl
  ·simp only [minD_sv,maxD_sv];omega
  ·simp [sgl]

def zz:List Ed→List Ed→List (Ed×Ed)
 | e::r,u::v::r'=>(e,u)::(e,v)::zz r r'
 | _,_ => []
def dbl{α:Type}:List α→List α
 | [] => []
 | a::r=>a::a::dbl r
def fits:List Ed→List Ed→Prop
 | [],[]=>True
 | e::r,u::v::r'=>sdIn (sidesE u) (sidesE e)∧sdIn (sidesE v) (sidesE e)∧fits r r'
 | _,_=>False
theorem fits_append:∀ {l l' r r':List Ed},fits l l'→fits r r'→fits (l++r) (l'++r')
 | [],[],_,_,_,h=>h
 | [],_::_,_,_,h,_=>h.elim
 | _::_,[],_,_,h,_=>h.elim
 | _::_,[_],_,_,h,_=>h.elim
 | _::_,_::_::_,_,_,h,h'=>⟨h.1,h.2.1,fits_append h.2.2 h'⟩
theorem zz_fits:∀ {l l':List Ed},fits l l'→(zz l l').map (·.1)=dbl l∧(zz l l').map (·.2)=l'∧∀z∈zz l l',sdIn (sidesE z.2) (sidesE z.1)
 | [],[],_=>⟨rfl,rfl,by simp [zz]⟩
 | [],_::_,h=>h.elim
 | _::_,[],h=>h.elim
 | _::_,[_],h=>h.elim
 | e::r,u::v::r',h=>by
  obtain⟨h1,h2,h3⟩:=h
  obtain⟨i1,i2,i3⟩:=zz_fits h3
  refine⟨by simp only [zz,List.map_cons,dbl,i1],by simp only [zz,List.map_cons,i2],fun z hz => ?_⟩
  simp only [zz,List.mem_cons]at hz
  rcases hz with rfl | rfl | hz
  ·exact h1
  ·exact h2
  ·exact i3 z hz
theorem fits_way{s:Int}(hs:s=0∨s=1){a:Int×Int}{g g':Int→Int×Int}(he:∀x,g' (2*x)=g x):∀(r c:Nat),(∀x:Int,(c:Int)≤x→x<((c+r:Nat):Int)→min (sv (g x)) (sv (g (x+1)))≤sv (g' (2*x+1))∧sv (g' (2*x+1))≤max (sv (g x)) (sv (g (x+1))))→fits (wayV s a g c r) (wayV s a g' (2*c) (2*r))
 | 0,c,_=>by simp [wayV,fits]
 | r+1,c,hb=>by
  have ih:=fits_way hs (a:=a) he r (c+1) (fun x h1 h2=>hb x (by omega) (by omega))
  have e1:wayV s a g c (r+1)=(s,a,g c,g ((c:Int)+1))::wayV s a g (c+1) r:=by simp only [wayV,List.range'_succ,List.map_cons]
  have e2:wayV s a g' (2*c) (2*(r+1))=(s,a,g' ((2*c:Nat):Int),g' (((2*c:Nat):Int)+1))::(s,a,g' ((2*c+1:Nat):Int),g' (((2*c+1:Nat):Int)+1))::wayV s a g' (2*(c+1)) (2*r):=by
   rw [show 2*(r+1)=2*r+1+1 by omega,show 2*(c+1)=2*c+1+1 by omega]
   simp only [wayV,List.range'_succ,List.map_cons]
  rw [e1,e2]
  have b:=hb (c:Int) (by omega) (by omega)
  have k0:g' ((2*c:Nat):Int)=g c:=by rw [←he];congr 1
  have k1:g' (((2*c:Nat):Int)+1)=g' (2*(c:Int)+1):=by congr 1
  have k2:g' ((2*c+1:Nat):Int)=g' (2*(c:Int)+1):=by congr 1
  have k3:g' (((2*c+1:Nat):Int)+1)=g ((c:Int)+1):=by rw [←he];congr 1
  rw [k0,k1,k2,k3]
  generalize g' (2*(c:Int)+1)=w at b
  generalize g (c:Int)=u at b
  generalize g ((c:Int)+1)=v at b
  refine⟨?_,?_,ih⟩
  ·unfold sidesE
   rcases hs with rfl | rfl
   ·simp only [if_true]
    refine⟨rfl,fun q hq => ?_⟩
    simp only [List.zip_cons_cons,List.zip_nil_left,List.mem_cons,List.not_mem_nil,or_false]at hq
    rcases hq with rfl | rfl
    ·simp
    ·simp only [minD_sv,maxD_sv];omega
   ·simp only [show ¬ ((1:Int)=0)by decide,if_false]
    refine⟨rfl,fun q hq => ?_⟩
    simp only [List.zip_cons_cons,List.zip_nil_left,List.mem_cons,List.not_mem_nil,or_false]at hq
    rcases hq with rfl | rfl
    ·simp only [minD_sv,maxD_sv];omega
    ·simp
  ·unfold sidesE
   rcases hs with rfl | rfl
   ·simp only [if_true]
    refine⟨rfl,fun q hq => ?_⟩
    simp only [List.zip_cons_cons,List.zip_nil_left,List.mem_cons,List.not_mem_nil,or_false]at hq
    rcases hq with rfl | rfl
    ·simp
    ·simp only [minD_sv,maxD_sv];omega
   ·simp only [show ¬ ((1:Int)=0)by decide,if_false]
    refine⟨rfl,fun q hq => ?_⟩
    simp only [List.zip_cons_cons,List.zip_nil_left,List.mem_cons,List.not_mem_nil,or_false]at hq
    rcases hq with rfl | rfl
    ·simp only [minD_sv,maxD_sv];omega
    ·simp
theorem numV_half(m D:Nat)(l h x:Int):numV m (D+1) l h (2*x)=numV m D l h x:=by
 unfold numV
 have e:l*2 ^ (D+1)+2*x*(h - l)=(l*2 ^ D+x*(h - l))*2 ^ 1:=by
  rw [Int.pow_succ]
  grind
 rw [e,←Nat.add_assoc,mkD_scale]
theorem numV_sv{m D:Nat}{l h x:Int}(hm:m≤3)(hD:D≤6)(hl : -(8*2 ^ m)≤l)(hlh:l<h)(hh:h≤8*2 ^ m)(h0:0≤x)(h1:x≤2 ^ D):sv (numV m D l h x)*2 ^ (m+D)=(l*2 ^ D+x*(h - l))*2 ^ 24:=by
 have hb:=between (m:=m) (D:=D) hl hlh hh h0 h1
 have hp:2 ^ (m+D)≤2 ^ 9:=Nat.pow_le_pow_right (by omega) (by omega)
 have ok:=mkD_ok (n:=l*2 ^ D+x*(h - l)) (k:=m+D) (by omega) (by omega) (by omega)
 exact sv_mkD ok
theorem numV_le{m D:Nat}{l h x y:Int}(hm:m≤3)(hD:D≤6)(hl : -(8*2 ^ m)≤l)(hlh:l<h)(hh:h≤8*2 ^ m)(h0:0≤x)(hxy:x≤y)(h1:y≤2 ^ D):sv (numV m D l h x)≤sv (numV m D l h y):=by
 have ex:=numV_sv hm hD hl hlh hh h0 (by omega)
 have ey:=numV_sv hm hD hl hlh hh (show 0≤y by omega) h1
 have hp:(0:Int)<2 ^ (m+D):=Int.pow_pos (by omega)
 refine Int.le_of_mul_le_mul_right ?_ hp
 rw [ex,ey]
 have:=Int.mul_le_mul_of_nonneg_right hxy (show 0≤h - l by omega)
 omega
theorem edges_fits{m D:Nat}{l0 l1 h0 h1:Int}(hm:m≤3)(hD:D+1≤5)(g0 : -(8*2 ^ m)≤l0∧l0<h0∧h0≤8*2 ^ m)(g1 : -(8*2 ^ m)≤l1∧l1<h1∧h1≤8*2 ^ m):fits (edgesV m D l0 l1 h0 h1) (edgesV m (D+1) l0 l1 h0 h1):=by
 unfold edgesV
 have hN:(2:Int) ^ (D+1)=2*2 ^ D:=by rw [Int.pow_succ,Int.mul_comm]
 have hN2:2 ^ (D+1)=2*2 ^ D:=by rw [Nat.pow_succ,Nat.mul_comm]
 have cp:=castPow D
 have up:∀ {l h:Int},-(8*2 ^ m)≤l∧l<h∧h≤8*2 ^ m→∀x:Int,((0:Nat):Int)≤x→x<((0+2 ^ D:Nat):Int)→min (sv (numV m D l h x)) (sv (numV m D l h (x+1)))≤sv (numV m (D+1) l h (2*x+1))∧sv (numV m (D+1) l h (2*x+1))≤max (sv (numV m D l h x)) (sv (numV m D l h (x+1))):=by
  intro l h g x hx0 hx1
  rw [Nat.zero_add,cp]at hx1
  have a:=numV_le (x:=2*x) (y:=2*x+1) hm (show D+1≤6 by omega) g.1 g.2.1 g.2.2 (by omega) (by omega) (by omega)
  have b:=numV_le (x:=2*x+1) (y:=2*(x+1)) hm (show D+1≤6 by omega) g.1 g.2.1 g.2.2 (by omega) (by omega) (by omega)
  rw [numV_half]at a b
  omega
 have dn:∀ {l h:Int},-(8*2 ^ m)≤l∧l<h∧h≤8*2 ^ m→∀x:Int,((0:Nat):Int)≤x→x<((0+2 ^ D:Nat):Int)→min (sv (numV m D l h (2 ^ D - x))) (sv (numV m D l h (2 ^ D - (x+1))))≤sv (numV m (D+1) l h (2 ^ (D+1) - (2*x+1)))∧sv (numV m (D+1) l h (2 ^ (D+1) - (2*x+1)))≤max (sv (numV m D l h (2 ^ D - x))) (sv (numV m D l h (2 ^ D - (x+1)))):=by
  intro l h g x hx0 hx1
  rw [Nat.zero_add,cp]at hx1
  have a:=numV_le (x:=2 ^ (D+1) - (2*x+1)) (y:=2*(2 ^ D - x)) hm (show D+1≤6 by omega) g.1 g.2.1 g.2.2 (by omega) (by omega) (by omega)
  have b:=numV_le (x:=2*(2 ^ D - (x+1))) (y:=2 ^ (D+1) - (2*x+1)) hm (show D+1≤6 by omega) g.1 g.2.1 g.2.2 (by omega) (by omega) (by omega)
  rw [numV_half]at a b
  omega
 have hf:∀(l h x:Int),numV m (D+1) l h (2 ^ (D+1) - 2*x)=numV m D l h (2 ^ D - x):=by
  intro l h x
  rw [hN,←Int.mul_sub,numV_half]
 rw [hN2]
 have w1:=fits_way (s:=1) (.inr rfl) (a:=(mkD l1 m).1) (g:=numV m D l0 h0) (g':=numV m (D+1) l0 h0) (fun x=>numV_half m D l0 h0 x) (2 ^ D) 0 (up g0)
 have w2:=fits_way (s:=0) (.inl rfl) (a:=(mkD h0 m).1) (g:=numV m D l1 h1) (g':=numV m (D+1) l1 h1) (fun x=>numV_half m D l1 h1 x) (2 ^ D) 0 (up g1)
 have w3:=fits_way (s:=1) (.inr rfl) (a:=(mkD h1 m).1) (g:=fun x=>numV m D l0 h0 (2 ^ D - x)) (g':=fun x=>numV m (D+1) l0 h0 (2 ^ (D+1) - x)) (fun x=>hf l0 h0 x) (2 ^ D) 0 (dn g0)
 have w4:=fits_way (s:=0) (.inl rfl) (a:=(mkD l0 m).1) (g:=fun x=>numV m D l1 h1 (2 ^ D - x)) (g':=fun x=>numV m (D+1) l1 h1 (2 ^ (D+1) - x)) (fun x=>hf l1 h1 x) (2 ^ D) 0 (dn g1)
 rw [Nat.mul_zero]at w1 w2 w3 w4
 exact fits_append (fits_append (fits_append w1 w2) w3) w4
end Go.Ev.G

namespace Go.Ev.G
open Go Go.Ev
set_option maxRecDepth 100000

def isRs(a:Int):Prop:=0≤a∧a≤3
def d4(a b:Int):Int:=Int.tmod (IntKind.wrap .i64 ((IntKind.wrap .i64 (b - a))+4)) 4
def tn(a b:Int):Int:=if d4 a b=1 then 1 else if d4 a b=3 then -1 else 0
abbrev L4:List Int := [0,1,2,3]
theorem L4_mem{a:Int}(h:isRs a):a∈L4:=by
 unfold isRs at h
 rcases(by omega:a=0∨a=1∨a=2∨a=3)with rfl | rfl | rfl | rfl <;> decide
def tnB(a b:Int):Bool:=(tn a a==0)&&((d4 a b==2)||((tn a b == -tn b a)&&((Int.emod (tn a b - (b - a)) 4==0)&&Nat.ble (tn a b).natAbs 1)))
theorem tnB_all:(L4.all fun a=>L4.all fun b=>tnB a b)=true:=by kernel_rfl
def tnC(a b c:Int):Bool:=(d4 a b==2)||((d4 a c==2)||((d4 b c==2)||(tn a b+tn b c==tn a c)))
theorem tnC_all:(L4.all fun a=>L4.all fun b=>L4.all fun c=>tnC a b c)=true:=by kernel_rfl
theorem tn_self{a:Int}(h:isRs a):tn a a=0:=by
 have:=List.all_eq_true.1 (List.all_eq_true.1 tnB_all a (L4_mem h)) a (L4_mem h)
 simp only [tnB,Bool.and_eq_true,beq_iff_eq]at this
 exact this.1
theorem tn_two{a b:Int}(ha:isRs a)(hb:isRs b)(h:d4 a b≠2):tn a b = -tn b a∧(tn a b - (b - a)) % 4=0∧(tn a b).natAbs≤1:=by
 have:=List.all_eq_true.1 (List.all_eq_true.1 tnB_all a (L4_mem ha)) b (L4_mem hb)
 simp only [tnB,Bool.and_eq_true,Bool.or_eq_true,beq_iff_eq]at this
 have h2:=this.2.resolve_left h
 exact⟨h2.1,h2.2.1,Nat.le_of_ble_eq_true h2.2.2⟩
theorem tn_three{a b c:Int}(ha:isRs a)(hb:isRs b)(hc:isRs c)(h1:d4 a b≠2)(h2:d4 a c≠2)(h3:d4 b c≠2):tn a b+tn b c=tn a c:=by
 have:=List.all_eq_true.1 (List.all_eq_true.1 (List.all_eq_true.1 tnC_all a (L4_mem ha)) b (L4_mem hb)) c (L4_mem hc)
 simp only [tnC,Bool.or_eq_true,beq_iff_eq]at this
 rcases this with h | h | h | h
 ·exact absurd h h1
 ·exact absurd h h2
 ·exact absurd h h3
 ·exact h
theorem cy_bound{g:Int→Int→Int}{l:List Int}(h:∀q∈prs l,(g q.1 q.2).natAbs≤1):(cy g l).natAbs≤(prs l).length:=by
 rw [cy_prs]
 generalize prs l=ps at h
 induction ps with
 | nil=>simp
 | cons q r ih =>
  have h1:=h q (by simp)
  have h2:=ih (fun x hx=>h x (by simp [hx]))
  simp only [List.map_cons,List.sum_cons,List.length_cons]
  omega
theorem turns_loop{x:List Int}{x0:Int}{xs:List Int}(hx:x=x0::xs)(hb:x.length≤128):∀(r:List Int) (e:Int) (d:List Int) (t:Int),d++e::r=x→(∀q∈prA x0 e r,d4 q.1 q.2≠2)→t.natAbs≤d.length →
  Evt (fun k n=>spec_imTurns_L58 k n x t x (x.length:Int) d.length) (.inr (t+cyA tn x0 e r,())):=by
 have h0:0<x.length:=by rw [hx];simp
 have step:∀(e nx:Int) (d:List Int) (t:Int) (r:List Int),d++e::r=x→x.getD ((d.length+1) % x.length) 0=nx→d4 e nx≠2→t.natAbs≤d.length→∀ {res},Evt (fun k n=>spec_imTurns_L58 k n x (t+tn e nx) x (x.length:Int) ((d ++ [e]).length:Int)) res→Evt (fun k n=>spec_imTurns_L58 k n x t x (x.length:Int) d.length) res:=by
  intro e nx d t r h hnx hne ht res hres
  have hl:=congrArg List.length h
  simp at hl
  have hn2:IntKind.wrap .i64 ((d.length:Int)+1)=((d ++ [e]).length:Int):=by rw [w64_next (by simp only [lenB];omega)];simp
  have hw:IntKind.wrap .i64 ((d.length:Int)+1)=((d.length+1:Nat):Int):=w64_next (by simp only [lenB];omega)
  have hmod:(d.length+1) % x.length<x.length:=Nat.mod_lt _ h0
  have e1:x.getD (Int.toNat (d.length:Int)) 0=e:=by rw [←h];exact mid_get
  have g1:decide ((d.length:Int)<(x.length:Int))=true:=decide_eq_true (by omega)
  have g2:((x.length:Int)==0)=false:=by rw [beq_eq_false_iff_ne];omega
  have g3:decide (0≤Int.tmod (IntKind.wrap .i64 ((d.length:Int)+1)) (x.length:Int))=true:=by rw [hw,tmodN];exact decide_eq_true (Int.natCast_nonneg _)
  have g4:decide (Int.tmod (IntKind.wrap .i64 ((d.length:Int)+1)) (x.length:Int)<(x.length:Int))=true:=by rw [hw,tmodN];exact decide_eq_true (Int.ofNat_lt.2 hmod)
  have eN:x.getD (Int.toNat (Int.tmod (IntKind.wrap .i64 ((d.length:Int)+1)) (x.length:Int))) 0=nx:=by
   rw [hw,tmodN,Int.toNat_natCast];exact hnx
  refine Evt.step (fun k n=>spec_imTurns_L58.eq_2 k _ _ _ _ _ n) (Evt.ctrue g1 (Evt.ctrue mid_ge (Evt.ctrue g1 (Evt.cfalse g2 (Evt.ctrue g3 (Evt.ctrue g4 ?_))))))
  rw [e1,eN,hn2]
  have hD:Int.tmod (IntKind.wrap .i64 ((IntKind.wrap .i64 (nx - e))+4)) 4=d4 e nx:=rfl
  rw [hD]
  unfold tn at hres
  by_cases c1:d4 e nx=1
  ·rw [if_pos c1]at hres
   rw [w64 (n:=t+1) (by omega) (by omega)]
   exact Evt.ctrue (by rw [beq_iff_eq];exact c1) hres
  ·rw [if_neg c1]at hres
   refine Evt.cfalse (by rw [beq_eq_false_iff_ne];exact c1) (Evt.cfalse (by rw [beq_eq_false_iff_ne];exact hne) ?_)
   by_cases c3:d4 e nx=3
   ·rw [if_pos c3]at hres
    rw [w64 (n:=t - 1) (by omega) (by omega)]
    exact Evt.ctrue (by rw [beq_iff_eq];exact c3) hres
   ·rw [if_neg c3,Int.add_zero]at hres
    exact Evt.cfalse (by rw [beq_eq_false_iff_ne];exact c3) hres
 intro r
 induction r with
 | nil =>
  intro e d t h hp ht
  have hl:=congrArg List.length h
  simp at hl
  refine step e x0 d t [] h ?_ (hp (e,x0) (by simp [prA])) ht ?_
  ·rw [hl,Nat.mod_self,hx];rfl
  ·refine Evt.step (fun k n=>spec_imTurns_L58.eq_2 k _ _ _ _ _ n) ?_
   have:((d ++ [e]).length:Int)=(x.length:Int):=by rw [←h]
   rw [this]
   exact Evt.cfalse (decide_eq_false (by omega)) .pure
 | cons c cs ih =>
  intro e d t h hp ht
  have hl:=congrArg List.length h
  simp at hl
  have htn:(tn e c).natAbs≤1:=by
   unfold tn
   split
   ·decide
   ·split <;> decide
  refine step e c d t (c::cs) h ?_ (hp (e,c) (by simp [prA])) ht ?_
  ·rw [Nat.mod_eq_of_lt (by omega),←h,List.getD_eq_getElem?_getD]
   simp
  ·have:=ih c (d ++ [e]) (t+tn e c) (by simpa using h) (fun q hq=>hp q (by simp [prA,hq])) (by simp;omega)
   rw [Int.add_assoc]at this
   exact this
theorem turns_val{x:List Int}(h0:0<x.length)(hb:x.length≤128)(hx:∀y∈x,isRs y)(hp:∀q∈prs x,d4 q.1 q.2≠2):∃v:Int,4*v=cy tn x∧Evt (fun k _=>spec_imTurns k x) (v,true):=by
 match x,h0 with
 | x0::xs,_ =>
  have hl:=turns_loop (x:=x0::xs) rfl hb xs x0 [] 0 rfl hp (by simp)
  rw [Int.zero_add]at hl
  have hc:cyA tn x0 x0 xs=cy tn (x0::xs):=rfl
  rw [hc]at hl
  have hdiv:cy tn (x0::xs) % 4=0:=by
   have e:cy tn (x0::xs)=cy (fun a b=>(tn a b - (b - a))+(-a - -b)) (x0::xs):=cy_congr fun a _ b _=>by omega
   rw [e,cy_add (fun a b=>tn a b - (b - a)) (fun a b => -a - -b),cy_tel (fun a => -a),Int.add_zero,cy_prs]
   have:∀ps:List (Int×Int),(∀q∈ps,(tn q.1 q.2 - (q.2 - q.1)) % 4=0)→((ps.map fun q=>tn q.1 q.2 - (q.2 - q.1)).sum) % 4=0:=by
    intro ps
    induction ps with
    | nil=>intro _;rfl
    | cons q r ih =>
     intro h
     have h1:=h q (by simp)
     have h2:=ih (fun y hy=>h y (by simp [hy]))
     simp only [List.map_cons,List.sum_cons]
     omega
   exact this _ fun q hq=>(tn_two (hx _ (prs_mem q hq).1) (hx _ (prs_mem q hq).2) (hp q hq)).2.1
  have hbd:(cy tn (x0::xs)).natAbs≤(prs (x0::xs)).length:=cy_bound fun q hq=>(tn_two (hx _ (prs_mem q hq).1) (hx _ (prs_mem q hq).2) (hp q hq)).2.2
  have hpl:∀(r:List Int) (p:Int),(prA x0 p r).length=r.length+1:=by
   intro r
   induction r with
   | nil=>intro p;rfl
   | cons c cs ih=>intro p;simp only [prA,List.length_cons,ih]
  have hpl2:(prs (x0::xs)).length=xs.length+1:=hpl xs x0
  simp only [List.length_cons]at hb
  generalize cy tn (x0::xs)=t at hl hdiv hbd
  refine⟨t / 4,by omega,?_⟩
  have e1:Int.tdiv t 4=t / 4:=by
   obtain⟨q,rfl⟩:∃q,t=4*q:=⟨t / 4,by omega⟩
   rw [Int.mul_comm,Int.mul_tdiv_cancel _ (by decide),Int.mul_ediv_cancel _ (by decide)]
  have e2:Int.tmod t 4=0:=by
   rw [Int.tmod_def,e1];omega
  simp only [List.length_nil]at hl
  refine Evt.eq (f:=fun k q=>_) ?_ (fun k q=>by rw [spec_imTurns])
  refine Evt.inr (Evt.diag hl) ?_
  simp only [e1,e2]
  rw [w64 (by omega) (by omega)]
  exact .pure
theorem prs_map{α β:Type}(f:α→β)(l:List α):prs (l.map f)=(prs l).map fun q=>(f q.1,f q.2):=by
 have key:∀(a0:α) (r:List α) (p:α),prA (f a0) (f p) (r.map f)=(prA a0 p r).map fun q=>(f q.1,f q.2):=by
  intro a0 r
  induction r with
  | nil=>intro p;rfl
  | cons c cs ih=>intro p;simp only [List.map_cons,prA,ih]
 cases l with
 | nil=>rfl
 | cons a r=>exact key a r a
theorem cy_congr2{α:Type}{g g':α→α→Int}{l:List α}(h:∀q∈prs l,g q.1 q.2=g' q.1 q.2):cy g l=cy g' l:=by
 rw [cy_prs,cy_prs,List.map_congr_left h]
theorem cy_fine{α:Type}{l:List α}{m f:α→Int}(hm:∀z∈l,isRs (m z))(hf:∀z∈l,isRs (f z))(hc:∀q∈prs l,∀x ∈ [m q.1,m q.2,f q.1,f q.2],∀y ∈ [m q.1,m q.2,f q.1,f q.2],d4 x y≠2):cy tn (l.map f)=cy tn (l.map m):=by
 rw [cy_map,cy_map]
 have e:cy (fun x y=>tn (f x) (f y)) l=cy (fun x y=>tn (m x) (m y)+(tn (f x) (m x) - tn (f y) (m y))) l:=by
  refine cy_congr2 fun q hq => ?_
  have hz:=prs_mem q hq
  have c:=hc q hq
  have a1:=hm _ hz.1
  have a2:=hm _ hz.2
  have b1:=hf _ hz.1
  have b2:=hf _ hz.2
  have t1:=tn_three b1 a1 a2 (c _ (by simp) _ (by simp)) (c _ (by simp) _ (by simp)) (c _ (by simp) _ (by simp))
  have t2:=tn_three b1 a2 b2 (c _ (by simp) _ (by simp)) (c _ (by simp) _ (by simp)) (c _ (by simp) _ (by simp))
  have t3:=(tn_two a2 b2 (c _ (by simp) _ (by simp))).1
  omega
 rw [e,cy_add (fun x y=>tn (m x) (m y)) (fun x y=>tn (f x) (m x) - tn (f y) (m y)),cy_tel (fun x=>tn (f x) (m x)),Int.add_zero]
end Go.Ev.G

namespace Go.Ev.G
open Go Go.Ev
set_option maxRecDepth 100000

theorem two_tmS{s:List (List Tm)}(h:twoV s=true):∃p0 p1,s = [p0,p1]∧(p0.length≤20∧∀t∈p0,tmS 2 t)∧(p1.length≤20∧∀t∈p1,tmS 2 t):=by
 obtain⟨hs,hl⟩:=twoV_len h
 have gen:∀p∈s,p.length≤20∧∀t∈p,tmS 2 t:=by
  intro p hp
  unfold sysV at hs
  rw [Bool.and_eq_true,List.all_eq_true]at hs
  have h1:=hs.1 p hp
  rw [Bool.and_eq_true,hl]at h1
  refine⟨polyV_len h1.1,fun t ht => ?_⟩
  have hg:=polyV_gd h1.1 t ht
  have hz:t.2.2.2=0:=by
   have h2:=h1.2
   simp only [needs,big,Bool.not_eq_true',Bool.or_eq_false_iff,Bool.and_eq_false_iff,List.any_eq_false]at h2
   have h3:=h2.2.2
   rcases h3 with h3 | h3
   ·simp at h3
   ·have:=h3 t ht
    simp [pw]at this
    have:=hg.2.2.2.1
    omega
  obtain⟨c,x,y,z,d⟩:=hg
  have hd:degT t≤4:=by unfold degT;omega
  refine⟨x.1,y.1,z.1,hd,?_,fun _=>by omega,fun _=>by omega,fun h=>by omega⟩
  have h1:2 ^ (3*degT t)≤2 ^ 12:=Nat.pow_le_pow_right (by decide) (by omega)
  exact Nat.le_trans (Nat.mul_le_mul (show t.1.natAbs≤1000 by omega) h1) (by decide)
 match s,hl with
 | [p0,p1],_=>exact⟨p0,p1,rfl,gen p0 (by simp),gen p1 (by simp)⟩

def cqO(p0 p1:List Tm)(e:Ed):Option Int:=qq (scV p0 (ptE e)) (scV p1 (ptE e))
theorem signs_ev{p0 p1:List Tm}{pt:List (Int×Int)}{M:Nat}(hM:M≤9)(h0:p0.length≤20∧∀t∈p0,tmS 2 t)(h1:p1.length≤20∧∀t∈p1,tmS 2 t)(hl:pt.length=2)(hp:ptV M pt)(hk:kMax pt=M) :
  Evt (fun k _=>spec_vaSigns k [p0,p1] pt) [cmpI ((p0.map (vaT M pt)).sum) 0,cmpI ((p1.map (vaT M pt)).sum) 0]:=by
 have v0:=vaSum_ev hM h0.1 (by omega) (by rw [hl];exact h0.2) hp hk
 have v1:=vaSum_ev hM h1.1 (by omega) (by rw [hl];exact h1.2) hp hk
 refine Evt.eq (f:=fun k q=>_) ?_ (fun k q=>by rw [spec_vaSigns])
 have l:Evt (fun k n=>spec_vaSigns_L58 k n pt [] [p0,p1] (([p0,p1]:List (List Tm)).length:Int) 0) (.inr ([cmpI ((p0.map (vaT M pt)).sum) 0,cmpI ((p1.map (vaT M pt)).sum) 0],())):=by
  have w1:IntKind.wrap .i64 ((0:Int)+1)=1:=by decide
  have w2:IntKind.wrap .i64 ((1:Int)+1)=2:=by decide
  have c2:(([p0,p1]:List (List Tm)).length:Int)=2:=rfl
  rw [c2]
  refine Evt.step (fun k n=>spec_vaSigns_L58.eq_2 k _ _ _ _ _ n) (Evt.ctrue (by decide) (Evt.ctrue (by decide) (Evt.ctrue (decide_eq_true (by rw [c2];decide)) (Evt.bind v0 (Evt.bind (.const (sign_eq _)) (Evt.ctrue (decide_eq_true (by simp)) ?_))))))
  rw [w1]
  refine Evt.step (fun k n=>spec_vaSigns_L58.eq_2 k _ _ _ _ _ n) (Evt.ctrue (by decide) (Evt.ctrue (by decide) (Evt.ctrue (decide_eq_true (by rw [c2];decide)) (Evt.bind v1 (Evt.bind (.const (sign_eq _)) (Evt.ctrue (decide_eq_true (by simp)) ?_))))))
  rw [w2]
  exact Evt.step (fun k n=>spec_vaSigns_L58.eq_2 k _ _ _ _ _ n) (Evt.cfalse (by decide) .pure)
 exact Evt.inr (Evt.diag l) .pure

theorem cqO_eq{p0 p1:List Tm}{e:Ed}{M:Nat}(hM:M≤9)(h0:∀t∈p0,tmS 2 t)(h1:∀t∈p1,tmS 2 t)(hp:ptV M (ptE e)):cqO p0 p1 e=qq ((p0.map (vaT M (ptE e))).sum) ((p1.map (vaT M (ptE e))).sum):=by
 unfold cqO
 have hl:=ptE_len e
 rw [scV_va hM (by omega) (by rw [hl];exact h0) hp,scV_va hM (by omega) (by rw [hl];exact h1) hp]
 exact qq_scale (Int.pow_pos (Int.pow_pos (by decide)))

theorem spec_corner_loop{p0 p1:List Tm}(h0:p0.length≤20∧∀t∈p0,tmS 2 t)(h1:p1.length≤20∧∀t∈p1,tmS 2 t){es:List Ed}(he:∀e∈es,edS e)(hb:es.length≤1000):∀(r d:List Ed),d++r=es →
  Evt (fun k n=>spec_CornerQuarters_L122 k n [p0,p1] (d.map fun e=>(cqO p0 p1 e).getD 0) es (es.length:Int) d.length) (if (r.all fun e=>(cqO p0 p1 e).isSome)then .inr (es.map fun e=>(cqO p0 p1 e).getD 0,())else .inl ([],false)):=by
 intro r
 induction r with
 | nil =>
  intro d h
  refine Evt.step (fun k n=>spec_CornerQuarters_L122.eq_2 k _ _ _ _ _ n) ?_
  rw [List.append_nil]at h
  subst h
  exact Evt.rng0 .pure
 | cons e r ih =>
  intro d h
  have hxl:=congrArg List.length h
  simp at hxl
  have ih:=ih (d ++ [e]) (by simpa using h)
  rw [←len_next (r:=r) (by rw [h];simp only [lenB];omega),List.map_append]at ih
  have hes:=he e (by rw [←h];simp)
  obtain⟨M,hM,hk,hp⟩:=ptE_V hes
  have g:es.getD (Int.toNat (d.length:Int)) (0,(0,0),(0,0),0,0)=e:=by rw [←h];exact mid_get
  refine Evt.step (fun k n=>spec_CornerQuarters_L122.eq_2 k _ _ _ _ _ n) ?_
  rw [g]
  have hpt:∀(x8:List Int) (x23 x24:Int),(bif (e.1==1)then some (Sum.inr ([p0,p1],x8,([e.2.2.1,e.2.1]:List (Int×Int)),es,x23,x24,()))else some (Sum.inr ([p0,p1],x8,([e.2.1,e.2.2.1]:List (Int×Int)),es,x23,x24,())):Option ((List Int×Bool) ⊕ (List (List Tm)×List Int×List (Int×Int)×List Ed×Int×Int×Unit)))=some (.inr ([p0,p1],x8,ptE e,es,x23,x24,())):=by
   intro x8 x23 x24
   unfold ptE
   rcases hes.1 with hz | hz
   ·rw [hz];rfl
   ·rw [hz];rfl
  refine Evt.ctrue (by rw [←h];exact mid_lt) (Evt.ctrue mid_ge (Evt.ctrue (by rw [←h];exact mid_lt) (Evt.inr (.const (hpt _ _ _)) ?_)))
  refine Evt.bind (signs_ev (by omega) h0 h1 (ptE_len e) hp hk) (Evt.ctrue (decide_eq_true (by simp)) (Evt.ctrue (decide_eq_true (by simp)) ?_))
  have hq:=cqO_eq (e:=e) (M:=M) (by omega) h0.2 h1.2 hp
  refine Evt.bind (.const (imQuarter_eq _ _)) ?_
  rw [←hq]
  cases ho:cqO p0 p1 e with
  | none =>
   simp only [List.all_cons,ho,Option.isSome_none,Bool.false_and]
   exact Evt.ctrue rfl .pure
  | some v =>
   simp only [List.map_cons,List.map_nil,ho]at ih
   simp only [List.all_cons,ho,Option.isSome_some,Bool.true_and]
   exact Evt.cfalse rfl (Evt.ctrue (decide_eq_true (by simp;omega)) ih)

theorem impl_corner_loop{p0 p1:List Tm}(h0:p0.length≤20∧∀t∈p0,tmS 2 t)(h1:p1.length≤20∧∀t∈p1,tmS 2 t){es:List Ed}(he:∀e∈es,edS e)(hb:es.length≤1000):∀(r d:List Ed),d++r=es →
  Evt (fun k n=>impl_CornerQuarters_L122 k n [p0,p1] (d.map fun e=>(cqO p0 p1 e).getD 0) es (es.length:Int) d.length) (if (r.all fun e=>(cqO p0 p1 e).isSome)then .inr (es.map fun e=>(cqO p0 p1 e).getD 0,())else .inl ([],false)):=by
 intro r
 induction r with
 | nil =>
  intro d h
  refine Evt.step (fun k n=>impl_CornerQuarters_L122.eq_2 k _ _ _ _ _ n) ?_
  rw [List.append_nil]at h
  subst h
  exact Evt.rng0 .pure
 | cons e r ih =>
  intro d h
  have hxl:=congrArg List.length h
  simp at hxl
  have ih:=ih (d ++ [e]) (by simpa using h)
  rw [←len_next (r:=r) (by rw [h];simp only [lenB];omega),List.map_append]at ih
  have hes:=he e (by rw [←h];simp)
  obtain⟨M,hM,hk,hp⟩:=ptE_V hes
  have g:es.getD (Int.toNat (d.length:Int)) (0,(0,0),(0,0),0,0)=e:=by rw [←h];exact mid_get
  refine Evt.step (fun k n=>impl_CornerQuarters_L122.eq_2 k _ _ _ _ _ n) ?_
  rw [g]
  have hpt:∀(x8:List Int) (x23 x24:Int),(bif (e.1==1)then some (Sum.inr ([p0,p1],x8,([e.2.2.1,e.2.1]:List (Int×Int)),es,x23,x24,()))else some (Sum.inr ([p0,p1],x8,([e.2.1,e.2.2.1]:List (Int×Int)),es,x23,x24,())):Option ((List Int×Bool) ⊕ (List (List Tm)×List Int×List (Int×Int)×List Ed×Int×Int×Unit)))=some (.inr ([p0,p1],x8,ptE e,es,x23,x24,())):=by
   intro x8 x23 x24
   unfold ptE
   rcases hes.1 with hz | hz
   ·rw [hz];rfl
   ·rw [hz];rfl
  have hpS:=ptV_S (M:=M) (by omega) hp
  have hl:=ptE_len e
  have s0:=scaledAt_ev (p:=p0) (pt:=ptE e) h0.1 (by rw [hl];exact h0.2) hpS
  have s1:=scaledAt_ev (p:=p1) (pt:=ptE e) h1.1 (by rw [hl];exact h1.2) hpS
  refine Evt.ctrue (by rw [←h];exact mid_lt) (Evt.ctrue mid_ge (Evt.ctrue (by rw [←h];exact mid_lt) (Evt.inr (.const (hpt _ _ _)) ?_)))
  refine Evt.ctrue (decide_eq_true (by simp)) (Evt.bind s0 (Evt.ctrue (decide_eq_true (by simp)) (Evt.bind s1 ?_)))
  dsimp only
  cases ho:cqO p0 p1 e with
  | none =>
   have hz:scV p0 (ptE e)=0∧scV p1 (ptE e)=0:=by
    unfold cqO qq at ho
    split at ho
    ·assumption
    ·cases ho
   simp only [List.all_cons,ho,Option.isSome_none,Bool.false_and]
   rw [hz.1,hz.2]
   exact Evt.inl (.const rfl) .pure
  | some v =>
   have hz : ¬ (scV p0 (ptE e)=0∧scV p1 (ptE e)=0):=by
    intro hz
    unfold cqO qq at ho
    rw [if_pos hz]at ho
    cases ho
   have hq:=quarter_eq ho
   simp only [List.map_cons,List.map_nil,ho]at ih
   simp only [List.all_cons,ho,Option.isSome_some,Bool.true_and]
   generalize scV p0 (ptE e)=a at hz hq ⊢
   generalize scV p1 (ptE e)=b at hz hq ⊢
   refine Evt.inr (y:=([p0,p1],(d.map fun e=>(cqO p0 p1 e).getD 0),a,b,es,(es.length:Int),(d.length:Int),())) (.const ?_) ?_
   ·by_cases ha:a=0
    ·have hb2:b≠0:=fun hb=>hz ⟨ha,hb⟩
     rw [show(a==0)=true from beq_iff_eq.2 ha,cond_true,show(b==0)=false from beq_eq_false_iff_ne.2 hb2,cond_false]
    ·rw [show(a==0)=false from beq_eq_false_iff_ne.2 ha,cond_false]
   ·exact Evt.bind (.const hq) (Evt.ctrue (decide_eq_true (by simp;omega)) ih)

def cnV(s:List (List Tm))(b:Bx)(d:Int):List Int×Bool:=if askV s b d then oL (allO (cqO (s.getD 0 []) (s.getD 1 [])) 0 (edgesB b d.toNat))else([],false)
theorem askV_two{s:List (List Tm)}{b:Bx}{d:Int}(h:askV s b d=true):twoV s=true:=by
 unfold askV planeV at h
 simp only [Bool.and_eq_true]at h
 exact h.1.1
theorem cnV_len(s:List (List Tm))(b:Bx)(d:Int):(cnV s b d).1.length≤128:=by
 unfold cnV
 split
 ·rename_i h
  have hd:=askV_le h
  cases ho:allO (cqO (s.getD 0 []) (s.getD 1 [])) 0 (edgesB b d.toNat)with
  | none=>simp [oL]
  | some l =>
   simp only [oL]
   rw [allO_len ho,edgesB_len]
   have:=(pow2N5 hd).2
   omega
 ·simp
theorem spec_corner_ev{s:List (List Tm)}{b:Bx}{d:Int}(hb:s.length<lenB)(hm:∀r∈s,r.length<lenB)(hx:b.2.1.length<lenB):Evt (fun k _=>spec_CornerQuarters k s b d) (cnV s b d):=by
 refine Evt.eq (f:=fun k q=>_) ?_ (fun k q=>by rw [spec_CornerQuarters])
 refine spec_ask hb hm hx (fun h=>by unfold cnV;rw [h];rfl) (fun h => ?_)
 obtain⟨p0,p1,hs2,h0,h1⟩:=two_tmS (askV_two h)
 obtain⟨D,rfl,hD,_,hp⟩:=askV_form h hm
 unfold cnV
 rw [h,if_pos rfl]
 subst hs2
 have hl:=edgesB_len b D
 have h2:=(pow2N5 hD).2
 have key:=spec_corner_loop h0 h1 (edges_S hp hD) (by omega) (edgesB b D) [] rfl
 simp only [List.map_nil,List.length_nil]at key
 refine Evt.bind (imEdgesB_ev hp hD) ?_
 have e:((D:Nat):Int).toNat=D:=by omega
 rw [e]
 simp only [List.getD_cons_zero,List.getD_cons_succ]
 unfold allO
 cases ha:(edgesB b D).all fun e=>(cqO p0 p1 e).isSome with
 | true=>rw [ha]at key;exact Evt.inr (Evt.diag key) .pure
 | false=>rw [ha]at key;exact Evt.inl (Evt.diag key) .pure
theorem impl_corner_ev{s:List (List Tm)}{b:Bx}{d:Int}(hb:s.length<lenB)(hm:∀r∈s,r.length<lenB)(hx:b.2.1.length<lenB):Evt (fun k _=>impl_CornerQuarters k s b d) (cnV s b d):=by
 refine Evt.eq (f:=fun k q=>_) ?_ (fun k q=>by rw [impl_CornerQuarters])
 refine impl_ask hb hm hx (fun h=>by unfold cnV;rw [h];rfl) (fun h => ?_)
 obtain⟨p0,p1,hs2,h0,h1⟩:=two_tmS (askV_two h)
 obtain⟨D,rfl,hD,_,hp⟩:=askV_form h hm
 unfold cnV
 rw [h,if_pos rfl]
 subst hs2
 have hl:=edgesB_len b D
 have h2:=(pow2N5 hD).2
 have key:=impl_corner_loop h0 h1 (edges_S hp hD) (by omega) (edgesB b D) [] rfl
 simp only [List.map_nil,List.length_nil]at key
 refine Evt.bind (boundaryEdgesB_ev hp hD) ?_
 have e:((D:Nat):Int).toNat=D:=by omega
 rw [e]
 simp only [List.getD_cons_zero,List.getD_cons_succ]
 unfold allO
 cases ha:(edgesB b D).all fun e=>(cqO p0 p1 e).isSome with
 | true=>rw [ha]at key;exact Evt.inr (Evt.diag key) .pure
 | false=>rw [ha]at key;exact Evt.inl (Evt.diag key) .pure
end Go.Ev.G

namespace Go.Ev.G
open Go Go.Ev
set_option maxRecDepth 100000

def digV(a:Int):ByteArray:=strOfNums [IntKind.wrap .u8 (IntKind.wrap .i64 (48+a))]
theorem itoa_all:(List.range 6).map (fun a:Nat=>(strconv_Itoa a).map fun b=>b.toList)=(List.range 6).map fun a:Nat=>some (digV a).toList:=by kernel_rfl
theorem toList_inj{a b:ByteArray}(h:a.toList=b.toList):a=b:=by
 rw [ByteArray.toList_eq,ByteArray.toList_eq]at h
 obtain⟨⟨x⟩⟩:=a
 obtain⟨⟨y⟩⟩:=b
 simp only at h
 rw [h]
theorem itoa_eq{a:Int}(h:isLab a):strconv_Itoa a=some (digV a):=by
 obtain⟨a,rfl⟩:∃m:Nat,a=m:=⟨a.toNat,by unfold isLab at h;omega⟩
 unfold isLab at h
 have h1:=List.map_inj_left.1 itoa_all a (by rw [List.mem_range];omega)
 cases hs:strconv_Itoa a with
 | none=>rw [hs]at h1;cases h1
 | some b =>
  rw [hs]at h1
  simp only [Option.map_some,Option.some.injEq]at h1
  rw [toList_inj h1]
theorem digV_size(a:Int):(digV a).size=1:=by unfold digV;rw [strOfNums_size];rfl
theorem size_push(s:ByteArray)(a:Int):(s++digV a).size=s.size+1:=by rw [ByteArray.size_append,digV_size]
end Go.Ev.G

namespace Go.Ev.G
open Go Go.Ev
set_option maxRecDepth 100000

abbrev Cu:=Unit×Int×Int
def CurOk(c:Cu)(m:Nat):Prop:=0≤c.2.1∧c.2.1≤m∧m≤1000000000
theorem CurOk.mono{c:Cu}{m m':Nat}(h:CurOk c m)(hm:m≤m')(hm':m'≤1000000000):CurOk c m':=⟨h.1,by have:=h.2.1;omega,hm'⟩
theorem and255(x:Int):(((BitVec.ofInt 64 x &&& BitVec.ofInt 64 255).toNat:Nat):Int)≤255:=by
 have h:(BitVec.ofInt 64 x &&& BitVec.ofInt 64 255).toNat≤255:=by
  rw [BitVec.toNat_and]
  have:(BitVec.ofInt 64 255).toNat=255:=by decide
  rw [this]
  exact Nat.and_le_right
 omega
def bytesOk(ks:List Int):Prop:=∀x∈ks,0≤x∧x≤255
theorem next_ok{ks:List Int}(hk:bytesOk ks){c:Cu}{m:Nat}(h:CurOk c m)(hm:m<1000000000):∃r c',spec_l1Cur_next ks c=some (r,c')∧CurOk c' (m+1)∧0≤r∧r≤255:=by
 obtain⟨u,p,s⟩:=c
 obtain⟨h1,h2,_⟩:=h
 simp only at h1 h2
 have w:IntKind.wrap .i64 (p+1)=p+1:=w64 (by omega) (by omega)
 have hmid:∃b:Int,(0≤b∧b≤255)∧((bif (decide (p<(ks.length:Int)))then(bif (decide (0≤p))then(bif (decide (p<(ks.length:Int)))then some (Sum.inr (((),p,s),(IntKind.wrap .i64 (ks.getD (Int.toNat p) 0)),()))else none)else none)else some (Sum.inr (((),p,s),0,())):Option ((Int×Unit×Int×Int) ⊕ ((Unit×Int×Int)×Int×Unit)))=some (.inr (((),p,s),b,()))):=by
  by_cases hlt:p<(ks.length:Int)
  ·have hl:p.toNat<ks.length:=by omega
   have hb:=hk (ks.getD (Int.toNat p) 0) (by rw [List.getD_eq_getElem?_getD,List.getElem?_eq_getElem hl];exact List.getElem_mem hl)
   refine⟨ks.getD (Int.toNat p) 0,hb,?_⟩
   rw [decide_eq_true hlt,decide_eq_true h1,w64 (by omega) (by omega)]
   rfl
  ·refine⟨0,by omega,?_⟩
   rw [decide_eq_false hlt]
   rfl
 obtain⟨b,hb,hmid⟩:=hmid
 unfold spec_l1Cur_next
 simp only
 rw [hmid]
 simp only [both,Option.bind_some,w]
 by_cases hle:p+1≤(ks.length:Int)
 ·rw [decide_eq_true hle]
  exact⟨_,_,rfl,⟨by simp only;omega,by simp only;omega,by omega⟩,hb⟩
 ·rw [decide_eq_false hle]
  refine⟨_,_,rfl,⟨by simp only;omega,by simp only;omega,by omega⟩,?_⟩
  have h3:=and255 (Int.fdiv (IntKind.wrap .u64 ((IntKind.wrap .u64 ((IntKind.wrap .u64 (s*6364136223846793005))+(IntKind.wrap .u64 b)))+1442695040888963407)) (2 ^ min (Int.toNat 40) (IntKind.bits .u64)))
  have e64:IntKind.bits .u64=64:=rfl
  rw [e64]at h3 ⊢
  generalize ((BitVec.ofInt 64 (Int.fdiv (IntKind.wrap .u64 ((IntKind.wrap .u64 ((IntKind.wrap .u64 (s*6364136223846793005))+(IntKind.wrap .u64 b)))+1442695040888963407)) (2 ^ min (Int.toNat 40) 64)) &&& BitVec.ofInt 64 255).toNat:Nat)=z at h3 ⊢
  rw [wu64 (by omega) (by omega),w64 (by omega) (by omega)]
  omega
theorem tmod_rng{x n:Int}(hx:0≤x)(hn:0<n):0≤Int.tmod x n∧Int.tmod x n<n:=by
 rw [Int.tmod_eq_emod_of_nonneg hx]
 exact⟨Int.emod_nonneg _ (by omega),Int.emod_lt_of_pos _ hn⟩
theorem pick_ok{ks:List Int}(hk:bytesOk ks){c:Cu}{m:Nat}(h:CurOk c m)(hm:m+2≤1000000000){n:Int}(hn:n≤1000000):∃r c',spec_l1Cur_pick ks c n=some (r,c')∧CurOk c' (m+2)∧0≤r∧(1≤n→r<n):=by
 unfold spec_l1Cur_pick
 by_cases h1:n≤1
 ·rw [decide_eq_true h1]
  exact⟨0,_,rfl,h.mono (by omega) (by omega),by omega,by omega⟩
 ·rw [decide_eq_false h1,cond_false]
  obtain⟨r,c',e,hc,hr⟩:=next_ok hk h (by omega)
  have e:spec_l1Cur_next ks ((),c.2)=some (r,c'):=e
  have hz:(n==0)=false:=by rw [beq_eq_false_iff_ne];omega
  rw [e,Option.bind_some]
  by_cases h2:n>200
  ·rw [decide_eq_true h2,cond_true]
   obtain⟨r2,c2,e2,hc2,hr2⟩:=next_ok hk hc (by omega)
   have e2:spec_l1Cur_next ks ((),c'.2)=some (r2,c2):=e2
   rw [e2,Option.bind_some,hz]
   have w1:IntKind.wrap .i64 (r*256)=r*256:=w64 (by omega) (by omega)
   have w2:IntKind.wrap .i64 (r*256+r2)=r*256+r2:=w64 (by omega) (by omega)
   simp only [w1,w2]
   have:=tmod_rng (x:=r*256+r2) (n:=n) (by omega) (by omega)
   exact⟨_,_,rfl,hc2,this.1,fun _=>this.2⟩
  ·rw [decide_eq_false h2,cond_false,hz]
   have:=tmod_rng (x:=r) (n:=n) (by omega) (by omega)
   exact⟨_,_,rfl,hc.mono (by omega) (by omega),this.1,fun _=>this.2⟩
theorem one_ok{ks:List Int}(hk:bytesOk ks){c:Cu}{m:Nat}(h:CurOk c m)(hm:m+2≤1000000000){n:Int}(hn:n≤1000000):∃r c',spec_l1Cur_one ks c n=some (r,c')∧CurOk c' (m+2):=by
 obtain⟨r,c',e,hc,_⟩:=pick_ok hk h hm hn
 unfold spec_l1Cur_one
 have e:spec_l1Cur_pick ks ((),c.2) n=some (r,c'):=e
 rw [e]
 exact⟨_,_,rfl,hc⟩
theorem among_ok{ks:List Int}(hk:bytesOk ks){c:Cu}{m:Nat}(h:CurOk c m)(hm:m+2≤1000000000){l:List Int}(h0:l ≠ [])(hl:l.length≤1000):∃r c',spec_l1Cur_among ks c l=some (r,c')∧CurOk c' (m+2)∧r∈l:=by
 have hp:1≤l.length:=List.length_pos_iff.2 h0
 obtain⟨r,c',e,hc,hr0,hr⟩:=pick_ok hk h hm (n:=(l.length:Int)) (by omega)
 have hr:=hr (by omega)
 unfold spec_l1Cur_among
 have e:spec_l1Cur_pick ks ((),c.2) (l.length:Int)=some (r,c'):=e
 rw [e,Option.bind_some,decide_eq_true hr0,decide_eq_true hr]
 refine⟨_,_,rfl,hc,?_⟩
 have hlt:r.toNat<l.length:=by omega
 rw [List.getD_eq_getElem?_getD,List.getElem?_eq_getElem hlt]
 exact List.getElem_mem hlt

def Drw{α:Type}(P:α→Prop)(j:Nat)(f:Nat→Cu→Option (α×Cu)):Prop:=∀(c:Cu) (m:Nat),CurOk c m→m+j≤1000000000→∃v c',Evt (fun k _=>f k c) (v,c')∧CurOk c' (m+j)∧P v
theorem Drw.step{α β:Type}{P:α→Prop}{Q:β→Prop}{j i:Nat}{f:Nat→Cu→Option (α×Cu)}{g:Nat→Cu→α×Cu→Option (β×Cu)}(hf:Drw P j f)(hg:∀v,P v→Drw Q i fun k c=>g k c (v,c))(hgc:∀k c d v,g k c (v,d)=g k d (v,d)):Drw Q (j+i) fun k c=>Option.bind (f k c) fun r=>g k c r:=by
 intro c m h hm
 obtain⟨v,c',e,hc,hp⟩:=hf c m h (by omega)
 obtain⟨w,c2,e2,hc2,hq⟩:=hg v hp c' (m+j) hc (by omega)
 refine⟨w,c2,Evt.bind e ?_,hc2.mono (by omega) (by omega),hq⟩
 exact Evt.eq e2 (fun k n=>hgc k c c' v)
end Go.Ev.G

namespace Go.Ev.G
open Go Go.Ev
set_option maxRecDepth 100000

def Ok{α:Type}(f:Nat→Nat→Option α)(P:α→Prop):Prop:=∃v,Evt f v∧P v
section
variable {α β R A : Type}
theorem Ok.pure{v:α}{P:α→Prop}(h:P v):Ok (fun _ _=>some v) P:=⟨v,.pure,h⟩
theorem Ok.const{o:Option α}{v:α}{P:α→Prop}(e:o=some v)(h:P v):Ok (fun _ _=>o) P:=⟨v,.const e,h⟩
theorem Ok.of{f:Nat→Nat→Option α}{v:α}{P:α→Prop}(e:Evt f v)(h:P v):Ok f P:=⟨v,e,h⟩
theorem Ok.mono{f:Nat→Nat→Option α}{P Q:α→Prop}(h:Ok f P)(hq:∀v,P v→Q v):Ok f Q:=by
 obtain⟨v,e,h⟩:=h
 exact⟨v,e,hq v h⟩
theorem Ok.bind{f:Nat→Nat→Option α}{g:Nat→Nat→α→Option β}{P:α→Prop}{Q:β→Prop}(h:Ok f P)(h':∀v,P v→Ok (fun k n=>g k n v) Q):Ok (fun k n=>Option.bind (f k n) fun x=>g k n x) Q:=by
 obtain⟨v,e,h⟩:=h
 obtain⟨u,e2,h2⟩:=h' v h
 exact⟨u,Evt.bind e e2,h2⟩
theorem Ok.bth{f:Nat→Nat→Option (R ⊕ α)}{G:Nat→Nat→R→Option A}{K:Nat→Nat→α→Option A}{P:α→Prop}{Q:A→Prop}(h:Ok f (fun s=>∃y,s = .inr y∧P y))(h':∀y,P y→Ok (fun k n=>K k n y) Q):Ok (fun k n=>both (f k n) (G k n) (K k n)) Q:=by
 obtain⟨_,e,y,rfl,h⟩:=h
 obtain⟨u,e2,h2⟩:=h' y h
 exact⟨u,Evt.inr e e2,h2⟩
theorem Ok.bothl{f:Nat→Nat→Option (R ⊕ α)}{G:Nat→Nat→R→Option A}{K:Nat→Nat→α→Option A}{S:R ⊕ α→Prop}{Q:A→Prop}(h:Ok f S)(hl:∀q,S (.inl q)→Ok (fun k n=>G k n q) Q)(hr:∀y,S (.inr y)→Ok (fun k n=>K k n y) Q):Ok (fun k n=>both (f k n) (G k n) (K k n)) Q:=by
 obtain⟨s,e,h⟩:=h
 cases s with
 | inl q =>
  obtain⟨u,e2,h2⟩:=hl q h
  exact⟨u,Evt.inl e e2,h2⟩
 | inr y =>
  obtain⟨u,e2,h2⟩:=hr y h
  exact⟨u,Evt.inr e e2,h2⟩
theorem Ok.ct{c:Bool}{f g:Nat→Nat→Option α}{P:α→Prop}(hc:c=true)(h:Ok f P):Ok (fun k n=>bif c then f k n else g k n) P:=by subst hc;exact h
theorem Ok.cf{c:Bool}{f g:Nat→Nat→Option α}{P:α→Prop}(hc:c=false)(h:Ok g P):Ok (fun k n=>bif c then f k n else g k n) P:=by subst hc;exact h
theorem Ok.ite{c:Bool}{f g:Nat→Nat→Option α}{P:α→Prop}(h:c=true→Ok f P)(h':c=false→Ok g P):Ok (fun k n=>bif c then f k n else g k n) P:=by
 cases c with
 | true=>exact h rfl
 | false=>exact h' rfl
theorem Ok.diag{f:Nat→Nat→Option α}{P:α→Prop}(h:Ok f P):Ok (fun k _=>f k k) P:=by
 obtain⟨v,e,h⟩:=h
 exact⟨v,Evt.diag e,h⟩
theorem Ok.step{L F:Nat→Nat→Option α}{P:α→Prop}(hL:∀k n,L k (n+1)=F k n)(h:Ok F P):Ok L P:=by
 obtain⟨v,e,h⟩:=h
 exact⟨v,Evt.step hL e,h⟩
theorem Ok.eq{f g:Nat→Nat→Option α}{P:α→Prop}(e:∀k n,g k n=f k n)(h:Ok f P):Ok g P:=by
 obtain⟨v,e2,h⟩:=h
 exact⟨v,Evt.eq e2 e,h⟩
theorem Ok.lt{a b:Int}{f g:Nat→Nat→Option α}{P:α→Prop}(hc:a<b)(h:Ok f P):Ok (fun k n=>bif decide (a<b)then f k n else g k n) P:=Ok.ct (decide_eq_true hc) h
theorem Ok.le{a b:Int}{f g:Nat→Nat→Option α}{P:α→Prop}(hc:a≤b)(h:Ok f P):Ok (fun k n=>bif decide (a≤b)then f k n else g k n) P:=Ok.ct (decide_eq_true hc) h
theorem Ok.ltN{a b:Nat}{f g:Nat→Nat→Option α}{P:α→Prop}(hc:a<b)(h:Ok f P):Ok (fun k n=>bif decide (a<b)then f k n else g k n) P:=Ok.ct (decide_eq_true hc) h
end

section
variable {ks : List Int}
theorem pickK(hk:bytesOk ks){c:Cu}{m:Nat}(h:CurOk c m)(hm:m+2≤1000000000){n:Int}(hn:n≤1000000):Ok (fun _ _=>spec_l1Cur_pick ks c n) (fun r=>CurOk r.2 (m+2)∧0≤r.1∧(1≤n→r.1<n)):=by
 obtain⟨r,c',e,h1,h2⟩:=pick_ok hk h hm hn
 exact .const e ⟨h1,h2⟩
theorem amongK(hk:bytesOk ks){c:Cu}{m:Nat}(h:CurOk c m)(hm:m+2≤1000000000){l:List Int}(h0:l ≠ [])(hl:l.length≤1000):Ok (fun _ _=>spec_l1Cur_among ks c l) (fun r=>CurOk r.2 (m+2)∧r.1∈l):=by
 obtain⟨r,c',e,h1,h2⟩:=among_ok hk h hm h0 hl
 exact .const e ⟨h1,h2⟩
theorem oneK(hk:bytesOk ks){c:Cu}{m:Nat}(h:CurOk c m)(hm:m+2≤1000000000){n:Int}(hn:n≤1000000):Ok (fun _ _=>spec_l1Cur_one ks c n) (fun r=>CurOk r.2 (m+2)):=by
 obtain⟨r,c',e,h1⟩:=one_ok hk h hm hn
 exact .const e h1
end
end Go.Ev.G

namespace Go.Ev.G
open Go Go.Ev
set_option maxRecDepth 100000

theorem poOrderK(a b:Tm):∃r,spec_poOrder a b=some r:=by
 have hs:∀x:Int,∃r,spec_l1Sign x=some r:=by
  intro x
  unfold spec_l1Sign
  cases decide (x>0)
  ·cases decide (x<0) <;> exact⟨_,rfl⟩
  ·exact⟨_,rfl⟩
 unfold spec_poOrder
 obtain⟨r1,e1⟩:=hs (IntKind.wrap .i64 (a.2.1 - b.2.1))
 obtain⟨r2,e2⟩:=hs (IntKind.wrap .i64 (a.2.2.1 - b.2.2.1))
 obtain⟨r3,e3⟩:=hs (IntKind.wrap .i64 (a.2.2.2 - b.2.2.2))
 rw [e1,e2,e3]
 cases (a.2.1 != b.2.1)
 ·cases (a.2.2.1 != b.2.2.1) <;> exact⟨_,rfl⟩
 ·exact⟨_,rfl⟩
theorem poOrderO(a b:Tm):Ok (fun _ _=>spec_poOrder a b) (fun _=>True):=by
 obtain⟨r,e⟩:=poOrderK a b
 exact .const e trivial
theorem poPutL{R:List Tm}{t:Tm}(hR:R.length≤1000000):∀(j i:Nat),i+j=R.length→Ok (fun k n=>spec_poPut_L28 k n R t i) (fun s=>∃y,s = .inr y∧∃p:Nat,y=(R,t,(p:Int),())∧p≤R.length)
 | 0,i,h=>Ok.step (fun k n=>spec_poPut_L28.eq_2 k _ _ _ n) (Ok.cf (decide_eq_false (by omega)) (.pure ⟨_,rfl,i,rfl,by omega⟩))
 | j+1,i,h=>by
  refine Ok.step (fun k n=>spec_poPut_L28.eq_2 k _ _ _ n) (Ok.lt (by omega) (Ok.le (by omega) (Ok.lt (by omega) (Ok.bind (poOrderO _ _) fun r _=>Ok.ite (fun _ => ?_) (fun _ => .pure ⟨_,rfl,i,rfl,by omega⟩)))))
  rw [w64_next (by simp only [lenB];omega)]
  exact poPutL hR j (i+1) (by omega)
theorem poPutO{R:List Tm}{t:Tm}(hR:R.length≤1000000):Ok (fun k _=>spec_poPut k R t) (fun R'=>R'.length≤R.length+1):=by
 refine Ok.eq (fun k q=>by rw [spec_poPut]) ?_
 refine Ok.bth (Ok.diag (poPutL hR R.length 0 (by omega))) fun y hy => ?_
 obtain⟨p,rfl,hp⟩:=hy
 refine Ok.le (by simp only;omega) (Ok.le (by simp only;omega) ?_)
 refine Ok.bth (P:=fun y=>y.1=R∧y.2.2.1=(p:Int)∧y.2.2.2.1.length+p≤R.length) ?_ fun y hy => ?_
 ·refine Ok.ite (fun hc => ?_) (fun _ => .pure ⟨_,rfl,rfl,rfl,by simp;omega⟩)
  have hc:=of_decide_eq_true hc
  simp only at hc
  refine Ok.le (by simp only;omega) (Ok.lt hc (Ok.bind (poOrderO _ _) fun r _=>Ok.ite (fun _ => ?_) (fun _ => .pure ⟨_,rfl,rfl,rfl,by simp;omega⟩)))
  simp only [w64_next (show p<lenB by simp only [lenB];omega)]
  exact Ok.le (by omega) (Ok.lt hc (Ok.le (by omega) (Ok.le (by omega) (.pure ⟨_,rfl,rfl,rfl,by simp;omega⟩))))
 ·obtain⟨h1,h2,h3⟩:=hy
  simp only [h1,h2,Int.toNat_natCast]
  have hl:(([]:List Tm)++List.drop 0 (List.take p R)).length=p:=by simp;omega
  refine Ok.le (by omega) (Ok.le (by omega) (Ok.ltN (by simp;omega) ?_))
  refine Ok.bth (P:=fun z=>z.1=y.2.2.2.1∧z.2.1.length≤p+1) ?_ fun z hz => ?_
  ·refine Ok.ite (fun _=>Ok.ltN (by rw [hl];simp;omega) (.pure ⟨_,rfl,rfl,?_⟩)) (fun _ => .pure ⟨_,rfl,rfl,?_⟩)
   ·rw [List.length_append,hl];simp
   ·rw [hl];omega
  ·obtain⟨h4,h5⟩:=hz
   rw [h4]
   exact Ok.ltN (by omega) (.pure (by rw [List.length_append];omega))
theorem poSumL{ts:List Tm}(ht:ts.length≤100000):∀(j i:Nat) (R:List Tm),i+j=ts.length→R.length≤i→Ok (fun k n=>spec_poSum_L58 k n R ts (ts.length:Int) i) (fun s=>∃y,s = .inr y∧y.1.length≤ts.length)
 | 0,i,R,h,hR=>Ok.step (fun k n=>spec_poSum_L58.eq_2 k _ _ _ _ n) (Ok.cf (decide_eq_false (by omega)) (.pure ⟨_,rfl,by simp only;omega⟩))
 | j+1,i,R,h,hR=>by
  refine Ok.step (fun k n=>spec_poSum_L58.eq_2 k _ _ _ _ n) (Ok.lt (by omega) (Ok.le (by omega) (Ok.lt (by omega) (Ok.bind (poPutO (by omega)) fun R' hR' => ?_))))
  rw [w64_next (by simp only [lenB];omega)]
  exact poSumL ht j (i+1) R' (by omega) (by omega)
theorem poSumO{ts:List Tm}(ht:ts.length≤100000):Ok (fun k _=>spec_poSum k ts) (fun r=>r.1.length≤ts.length):=by
 refine Ok.eq (fun k q=>by rw [spec_poSum]) ?_
 refine Ok.bth (Ok.diag (poSumL ht ts.length 0 [] (by omega) (by simp))) fun y hy => ?_
 refine Ok.bind (Ok.of (poGood_ev (by simp only [lenB];omega)) trivial (P:=fun _=>True)) fun r _=>Ok.ite (fun _ => .pure (by simp)) (fun _ => .pure hy)
theorem poAddO{p q:List Tm}(hp:p.length≤50000)(hq:q.length≤50000):Ok (fun k _=>spec_poAdd k p q) (fun r=>r.1.length≤p.length+q.length):=by
 refine Ok.eq (fun k q=>by rw [spec_poAdd]) ?_
 refine Ok.ltN (by simp;omega) (Ok.ltN (by simp;omega) (Ok.bind (poSumO (by simp;omega)) fun r hr => .pure ?_))
 simpa using hr
theorem poWithO(t:Tm)(i e:Int):Ok (fun _ _=>spec_poWith t i e) (fun _=>True):=by
 unfold spec_poWith
 exact Ok.ite (fun _ => .pure trivial) (fun _=>Ok.ite (fun _ => .pure trivial) (fun _ => .pure trivial))

section
variable {ks : List Int}
theorem termL(hk:bytesOk ks){n:Nat}(hn:n≤4){x4:Tm}:∀(j i:Nat) (c:Cu) (m:Nat) (t:Tm) (l:Int),i+j=n→CurOk c m→m+4*j≤1000000000→0≤l→l≤4 →
  Ok (fun k q=>spec_l1Cur_term_L122 k ks q c n x4 t l i) (fun s=>∃y,s = .inr y∧CurOk y.1 (m+4*j))
 | 0,i,c,m,t,l,h,hc,hm,l0,l4=>Ok.step (fun k q=>spec_l1Cur_term_L122.eq_2 k ks _ _ _ _ _ _ q) (Ok.cf (decide_eq_false (by omega)) (.pure ⟨_,rfl,hc.mono (by omega) (by omega)⟩))
 | j+1,i,c,m,t,l,h,hc,hm,l0,l4=>by
  refine Ok.step (fun k q=>spec_l1Cur_term_L122.eq_2 k ks _ _ _ _ _ _ q) (Ok.lt (by omega) ?_)
  rw [w64 (n:=l+1) (by omega) (by omega)]
  refine Ok.bind (pickK hk hc (by omega) (by omega)) fun r3 h3 => ?_
  have b3:=h3.2.2 (by omega)
  have a3:=h3.2.1
  refine Ok.bind (amongK hk h3.1 (by omega) (by simp) (by simp)) fun r4 h4 => ?_
  have m4:=h4.2
  simp only [List.mem_cons,List.not_mem_nil,or_false]at m4
  refine Ok.bth (P:=fun y=>CurOk y.1 (m+4)∧y.2.1=(n:Int)∧y.2.2.1=x4∧y.2.2.2.2.1=l∧y.2.2.2.2.2.1=(i:Int)∧0≤y.2.2.2.2.2.2.1∧y.2.2.2.2.2.2.1≤l) ?_ fun y hy => ?_
  ·refine Ok.ite (fun _ => .pure ⟨_,rfl,h4.1.mono (by omega) (by omega),rfl,rfl,rfl,rfl,l0,Int.le_refl _⟩) (fun hq => .pure ⟨_,rfl,h4.1.mono (by omega) (by omega),rfl,rfl,rfl,rfl,by simp only;omega,?_⟩)
   have:=of_decide_eq_false hq
   simp only;omega
  ·obtain⟨y1,y2,y3,y4,y5,y6,y7⟩:=hy
   refine Ok.bind (poWithO _ _ _) fun r6 _ => ?_
   rw [y2,y3,y4,y5,w64_next (m:=i) (by simp only [lenB];omega),w64 (n:=l - y.2.2.2.2.2.2.1) (by omega) (by omega)]
   have:=termL hk hn (x4:=x4) j (i+1) y.1 (m+4) r6 (l - y.2.2.2.2.2.2.1) (by omega) y1 (by omega) (by omega) (by omega)
   exact this.mono fun s hs=>by obtain⟨z,e,hz⟩:=hs;exact⟨z,e,hz.mono (by omega) (by omega)⟩
theorem termO(hk:bytesOk ks){c:Cu}{m:Nat}(h:CurOk c m)(hm:m+24≤1000000000){n:Nat}(hn:n≤4):Ok (fun k _=>spec_l1Cur_term k ks c n) (fun r=>CurOk r.2 (m+24)):=by
 refine Ok.eq (fun k q=>by rw [spec_l1Cur_term]) ?_
 refine Ok.bind (pickK hk h (by omega) (by omega)) fun r1 h1=>Ok.bind (amongK hk h1.1 (by omega) (by simp) (by simp)) fun r2 h2 => ?_
 refine Ok.bth (Ok.diag (termL hk hn n 0 r2.2 (m+4) _ 4 (by omega) (h2.1.mono (by omega) (by omega)) (by omega) (by omega) (by omega))) fun y hy => ?_
 refine Ok.bind (oneK hk (hy.mono (m':=m+20) (by omega) (by omega)) (by omega) (by omega)) fun r h11=>Ok.ite (fun _ => ?_) (fun _ => .pure (h11.mono (by omega) (by omega)))
 exact Ok.bind (amongK hk h11 (by omega) (by simp) (by simp)) fun r12 h12 => .pure (h12.1.mono (by omega) (by omega))
theorem polyL(hk:bytesOk ks){n:Nat}(hn:n≤4){M:Nat}(hM:M≤100):∀(j i:Nat) (c:Cu) (m:Nat) (p:List Tm),i+j=M→CurOk c m→m+24*j≤1000000000→p.length≤i →
  Ok (fun k q=>spec_l1Cur_poly_L250 k ks q c n p M i) (fun s=>∃y,s = .inr y∧CurOk y.1 (m+24*j)∧y.2.1.length≤M)
 | 0,i,c,m,p,h,hc,hm,hp=>Ok.step (fun k q=>spec_l1Cur_poly_L250.eq_2 k ks _ _ _ _ _ q) (Ok.cf (decide_eq_false (by omega)) (.pure ⟨_,rfl,hc.mono (by omega) (by omega),by simp only;omega⟩))
 | j+1,i,c,m,p,h,hc,hm,hp=>by
  refine Ok.step (fun k q=>spec_l1Cur_poly_L250.eq_2 k ks _ _ _ _ _ q) (Ok.lt (by omega) (Ok.bind (termO hk hc (by omega) hn) fun r4 h4=>Ok.bind (poAddO (by omega) (by simp)) fun r5 h5 => ?_))
  rw [w64_next (m:=i) (by simp only [lenB];omega)]
  have fin:∀p':List Tm,p'.length≤i+1→Ok (fun k q=>spec_l1Cur_poly_L250 k ks q r4.2 n p' M ((i+1:Nat):Int)) (fun s=>∃y,s = .inr y∧CurOk y.1 (m+24*(j+1))∧y.2.1.length≤M):=by
   intro p' hp'
   have:=polyL hk hn hM j (i+1) r4.2 (m+24) p' (by omega) h4 (by omega) hp'
   exact this.mono fun s hs=>by obtain⟨z,e,hz⟩:=hs;exact⟨z,e,hz.1.mono (by omega) (by omega),hz.2⟩
  exact Ok.ite (fun _=>fin r5.1 (by simp at h5;omega)) (fun _=>fin p (by omega))
theorem polyO(hk:bytesOk ks){c:Cu}{m:Nat}(h:CurOk c m)(hm:m+600≤1000000000){n:Nat}(hn:n≤4):Ok (fun k _=>spec_l1Cur_poly k ks c n) (fun r=>CurOk r.2 (m+600)∧r.1.length≤24):=by
 refine Ok.eq (fun k q=>by rw [spec_l1Cur_poly]) ?_
 refine Ok.bind (pickK hk h (by omega) (by omega)) fun r1 h1 => ?_
 have b1:=h1.2.2 (by omega)
 have a1:=h1.2.1
 refine Ok.bth (P:=fun y=>CurOk y.1 (m+4)∧y.2.1=(n:Int)∧y.2.2.1 = []∧∃M:Nat,y.2.2.2.1=(M:Int)∧M≤24) ?_ fun y hy => ?_
 ·refine Ok.bind (oneK hk h1.1 (by omega) (by omega)) fun r2 h2=>Ok.ite (fun _ => .pure ⟨_,rfl,h2,rfl,rfl,24,rfl,by omega⟩) (fun _ => .pure ⟨_,rfl,h2,rfl,rfl,(1+r1.1).toNat,?_,by omega⟩)
  rw [w64 (by omega) (by omega)]
  simp only;omega
 ·obtain⟨y1,y2,y3,M,y4,hM⟩:=hy
  rw [y2,y3,y4]
  refine Ok.bth (Ok.diag (polyL hk hn (M:=M) (by omega) M 0 y.1 (m+4) [] (by omega) y1 (by omega) (by simp))) fun z hz => ?_
  refine Ok.bind (oneK hk (hz.1.mono (m':=m+590) (by omega) (by omega)) (by omega) (by omega)) fun r9 h9=>Ok.ite (fun _ => .pure ⟨h9.mono (by omega) (by omega),by simp⟩) (fun _ => .pure ⟨h9.mono (by omega) (by omega),by have:=hz.2;simp only;omega⟩)
theorem systemL(hk:bytesOk ks){n:Nat}(hn:n≤4):∀(j:Nat) (s:List (List Tm)) (c:Cu) (m:Nat),s.length+j=n→(∀r∈s,r.length≤24)→CurOk c m→m+600*j≤1000000000 →
  Ok (fun k q=>spec_l1Cur_system_L28 k ks q c n s) (fun z=>∃y,z = .inr y∧CurOk y.2.1 (m+600*j)∧y.1.length=n∧∀r∈y.1,r.length≤24)
 | 0,s,c,m,h,hs,hc,hm=>Ok.step (fun k q=>spec_l1Cur_system_L28.eq_2 k ks _ _ _ q) (Ok.cf (decide_eq_false (by omega)) (.pure ⟨_,rfl,hc.mono (by omega) (by omega),by simp only;omega,hs⟩))
 | j+1,s,c,m,h,hs,hc,hm=>by
  refine Ok.step (fun k q=>spec_l1Cur_system_L28.eq_2 k ks _ _ _ q) (Ok.lt (by omega) (Ok.bind (polyO hk hc (by omega) hn) fun r1 h1=>Ok.ltN (by simp;omega) ?_))
  have:=systemL hk hn j (s ++ [r1.1]) r1.2 (m+600) (by simp;omega) (by
   intro r hr
   rcases List.mem_append.1 hr with hr | hr
   ·exact hs r hr
   ·simp at hr;rw [hr];exact h1.2) h1.1 (by omega)
  exact this.mono fun s hs=>by obtain⟨z,e,hz⟩:=hs;exact⟨z,e,hz.1.mono (by omega) (by omega),hz.2⟩
theorem systemO(hk:bytesOk ks){c:Cu}{m:Nat}(h:CurOk c m)(hm:m+2400≤1000000000){n:Nat}(hn:n≤4):Ok (fun k _=>spec_l1Cur_system k ks c n) (fun r=>CurOk r.2 (m+2400)∧r.1.length=n∧∀x∈r.1,x.length≤24):=by
 refine Ok.eq (fun k q=>by rw [spec_l1Cur_system]) ?_
 exact Ok.bth (Ok.diag (systemL hk hn n [] c m (by simp) (by simp) h (by omega))) fun y hy => .pure ⟨hy.1.mono (by omega) (by omega),hy.2⟩
end
end Go.Ev.G

namespace Go.Ev.G
open Go Go.Ev
set_option maxRecDepth 100000

theorem dyPowO{m:Int}(h0:0≤m)(h:m≤20):Ok (fun _ _=>spec_dyPower m) (fun r=>r=((2 ^ m.toNat:Nat):Int)∧1≤r∧r≤1048576):=by
 have e:=dyPower_eq (m:=m.toNat) (by omega)
 rw [show((m.toNat:Nat):Int)=m by omega]at e
 have h1:2 ^ m.toNat≤2 ^ 20:=Nat.pow_le_pow_right (by omega) (by omega)
 have h2:0<2 ^ m.toNat:=Nat.two_pow_pos _
 exact .const e ⟨rfl,by omega,by omega⟩
theorem dyPowS{m:Int}(h0:0≤m)(h:m≤8):Ok (fun _ _=>spec_dyPower m) (fun r=>r=((2 ^ m.toNat:Nat):Int)∧1≤r∧r≤256):=by
 obtain⟨r,e,hr,h1,_⟩:=dyPowO h0 (by omega)
 have h3:2 ^ m.toNat≤2 ^ 8:=Nat.pow_le_pow_right (by omega) (by omega)
 exact⟨r,e,hr,h1,by omega⟩
theorem leastO(a b:Int):Ok (fun _ _=>spec_l1Least a b) (fun r=>r=min a b):=by
 unfold spec_l1Least
 refine Ok.ite (fun h => .pure ?_) (fun h => .pure ?_)
 ·have:=of_decide_eq_true h;omega
 ·have:=of_decide_eq_false h;omega
theorem mostO(a b:Int):Ok (fun _ _=>spec_l1Most a b) (fun r=>r=max a b):=by
 unfold spec_l1Most
 refine Ok.ite (fun h => .pure ?_) (fun h => .pure ?_)
 ·have:=of_decide_eq_true h;omega
 ·have:=of_decide_eq_false h;omega
theorem ownO{l:List Int}(h:l.length≤1000):Ok (fun _ _=>spec_l1Own l) (fun r=>r=l):=by
 unfold spec_l1Own
 exact Ok.ltN (by simp;omega) (.pure (by simp))
abbrev Bx3:=Int×List Int×List Int
def bxN(n:Nat)(b:Bx3):Prop:=b.2.1.length=n∧b.2.2.length=n
theorem bxEvenL{b:Bx3}{n:Nat}(hb:bxN n b)(hn:n≤100):∀(j i:Nat),i+j=n→Ok (fun k q=>spec_bxEven_L26 k q b b.2.1 (b.2.1.length:Int) i) (fun _=>True)
 | 0,i,h=>Ok.step (fun k q=>spec_bxEven_L26.eq_2 k _ _ _ _ q) (Ok.cf (decide_eq_false (by rw [hb.1];omega)) (.pure trivial))
 | j+1,i,h=>by
  refine Ok.step (fun k q=>spec_bxEven_L26.eq_2 k _ _ _ _ q) (Ok.lt (by rw [hb.1];omega) (Ok.le (by omega) (Ok.lt (by rw [hb.1];omega) (Ok.ite (fun _ => .pure trivial) (fun _=>Ok.le (by omega) (Ok.lt (by rw [hb.2];omega) (Ok.ite (fun _ => .pure trivial) (fun _ => ?_))))))))
  rw [w64_next (m:=i) (by simp only [lenB];omega)]
  exact bxEvenL hb hn j (i+1) (by omega)
theorem bxEvenO{b:Bx3}{n:Nat}(hb:bxN n b)(hn:n≤100):Ok (fun k _=>spec_bxEven k b) (fun _=>True):=by
 refine Ok.eq (fun k q=>by rw [spec_bxEven]) ?_
 exact Ok.bothl (Ok.diag (bxEvenL hb hn n 0 (by omega))) (fun q _ => .pure trivial) (fun y _ => .pure trivial)
theorem halveL{z:Bx3}{n:Nat}(hn:n≤100):∀(j i:Nat) (b:Bx3),i+j=n→bxN n b→Ok (fun k q=>spec_bxMake_L1814 k q z b (n:Int) i) (fun s=>∃y,s = .inr y∧bxN n y.2.1∧y.2.1.1=b.1∧y.1=z)
 | 0,i,b,h,hb=>Ok.step (fun k q=>spec_bxMake_L1814.eq_2 k _ _ _ _ q) (Ok.cf (decide_eq_false (by omega)) (.pure ⟨_,rfl,hb,rfl,rfl⟩))
 | j+1,i,b,h,hb=>by
  have h1:(i:Int)<(b.2.1.length:Int):=by rw [hb.1];omega
  have h2:(i:Int)<(b.2.2.length:Int):=by rw [hb.2];omega
  refine Ok.step (fun k q=>spec_bxMake_L1814.eq_2 k _ _ _ _ q) (Ok.lt (by omega) (Ok.le (by omega) (Ok.lt h1 (Ok.le (by omega) (Ok.lt h1 (Ok.le (by omega) (Ok.lt h2 (Ok.le (by omega) (Ok.lt h2 ?_)))))))))
  rw [w64_next (m:=i) (by simp only [lenB];omega)]
  have:=halveL (z:=z) hn j (i+1) (b.1,(b.2.1.set (Int.toNat i) (IntKind.wrap .i64 (Int.tdiv (b.2.1.getD (Int.toNat i) 0) 2))),(b.2.2.set (Int.toNat i) (IntKind.wrap .i64 (Int.tdiv (b.2.2.getD (Int.toNat i) 0) 2)))) (by omega) ⟨by simpa using hb.1,by simpa using hb.2⟩
  exact this
theorem makeL{z:Bx3}{n:Nat}(hn:n≤100):∀(j:Nat) (b:Bx3),b.1≤j→j≤1000→bxN n b→Ok (fun k q=>spec_bxMake_L28 k q z b) (fun s=>∃y,s = .inr y∧bxN n y.2.1)
 | 0,b,h,hj,hb=>Ok.step (fun k q=>spec_bxMake_L28.eq_2 k _ _ q) (Ok.cf (decide_eq_false (by omega)) (.pure ⟨_,rfl,hb⟩))
 | j+1,b,h,hj,hb=>by
  refine Ok.step (fun k q=>spec_bxMake_L28.eq_2 k _ _ q) (Ok.ite (fun hp => ?_) (fun _ => .pure ⟨_,rfl,hb⟩))
  have hp:=of_decide_eq_true hp
  refine Ok.bind (bxEvenO hb hn) fun r _=>Ok.ite (fun _ => ?_) (fun _ => .pure ⟨_,rfl,hb⟩)
  have hl:=halveL (z:=z) hn n 0 (IntKind.wrap .i64 (b.1 - 1),b.2) (by omega) hb
  rw [hb.1]
  refine Ok.bth (Ok.diag hl) fun y hy => ?_
  obtain⟨y1,y2,y3⟩:=hy
  rw [y3]
  refine makeL hn j y.2.1 ?_ (by omega) y1
  rw [y2]
  simp only
  rw [w64 (by omega) (by omega)]
  omega
theorem bxMakeO{K:Int}{lo hi:List Int}{n:Nat}(hK:K≤1000)(hn:n≤100)(h1:lo.length=n)(h2:hi.length=n):Ok (fun k _=>spec_bxMake k K lo hi) (fun r=>r.2=true→bxN n r.1):=by
 refine Ok.eq (fun k q=>by rw [spec_bxMake]) ?_
 refine Ok.bind (ownO (by omega)) fun r1 e1=>Ok.bind (ownO (by omega)) fun r2 e2 => ?_
 rw [e1,e2]
 refine Ok.bth (Ok.diag (makeL hn 1000 (K,lo,hi) hK (by omega) ⟨h1,h2⟩)) fun y hy => ?_
 refine Ok.bind (Ok.of (bxGood_ev (by rw [hy.1];simp only [lenB];omega)) trivial (P:=fun _=>True)) fun r _=>Ok.ite (fun _ => .pure (by simp)) (fun _ => .pure (fun _=>hy))

section
variable {ks : List Int}
theorem boxL(hk:bytesOk ks){n:Nat}(hn:n≤4){z:Bx3}{K:Int}(hK:0≤K∧K≤8){M:Int}(hM:8≤M∧M≤2048):∀(j:Nat) (lo hi:List Int) (c:Cu) (m:Nat),lo.length+j=n→hi.length=lo.length→CurOk c m→m+12*j≤1000000000 →
  Ok (fun k q=>spec_l1Cur_box_L124 k ks q c n z K M lo hi) (fun s=>∃y,s = .inr y∧y.1=(n:Int)∧y.2.2.1=K∧y.2.2.2.1.length=n∧y.2.2.2.2.1.length=n∧CurOk y.2.2.2.2.2.1 (m+12*j))
 | 0,lo,hi,c,m,h,h2,hc,hm=>Ok.step (fun k q=>spec_l1Cur_box_L124.eq_2 k ks _ _ _ _ _ _ _ q) (Ok.cf (decide_eq_false (by omega)) (.pure ⟨_,rfl,rfl,rfl,by simp only;omega,by simp only;omega,hc.mono (by omega) (by omega)⟩))
 | j+1,lo,hi,c,m,h,h2,hc,hm=>by
  refine Ok.step (fun k q=>spec_l1Cur_box_L124.eq_2 k ks _ _ _ _ _ _ _ q) (Ok.lt (by omega) ?_)
  have w2:IntKind.wrap .i64 (2*M)=2*M:=w64 (by omega) (by omega)
  rw [w2]
  refine Ok.bind (dyPowS hK.1 hK.2) fun r3 h3=>Ok.bind (pickK hk hc (by omega) (by omega)) fun r4 h4=>Ok.bind (pickK hk h4.1 (by omega) (by omega)) fun r5 h5=>Ok.bind (amongK hk h5.1 (by omega) (by simp) (by simp)) fun r6 h6 => ?_
  refine Ok.bind (dyPowS hK.1 hK.2) fun r7 h7=>Ok.bind (dyPowS hK.1 hK.2) fun r8 h8=>Ok.bind (pickK hk h6.1 (by omega) (by omega)) fun r9 h9=>Ok.bind (pickK hk h9.1 (by omega) (by omega)) fun r10 h10=>Ok.bind (amongK hk h10.1 (by omega) (by simp) (by simp)) fun r11 h11 => ?_
  refine Ok.bind (leastO _ _) fun r12 _=>Ok.bind (mostO _ _) fun r13 _=>Ok.ltN (by simp;omega) (Ok.bind (leastO _ _) fun r14 _=>Ok.bind (mostO _ _) fun r15 _=>Ok.ltN (by simp;omega) ?_)
  have:=boxL hk hn (z:=z) hK hM j (lo ++ [r13]) (hi ++ [r15]) r11.2 (m+12) (by simp;omega) (by simp;omega) (h11.1.mono (by omega) (by omega)) (by omega)
  exact this.mono fun s hs=>by obtain⟨y,e,y1,y2,y3,y4,y5⟩:=hs;exact⟨y,e,y1,y2,y3,y4,y5.mono (by omega) (by omega)⟩
theorem unitL{n:Nat}(hn:n≤4){z:Bx3}{c:Cu}{m:Nat}(hc:CurOk c m):∀(j:Nat) (lo hi:List Int),lo.length+j=n→hi.length=lo.length →
  Ok (fun k q=>spec_l1Cur_box_L8148 k ks q n z lo hi c) (fun s=>∃y,s = .inr y∧y.2.1.length=n∧y.2.2.1.length=n∧CurOk y.2.2.2.1 m)
 | 0,lo,hi,h,h2=>Ok.step (fun k q=>spec_l1Cur_box_L8148.eq_2 k ks _ _ _ _ _ q) (Ok.cf (decide_eq_false (by omega)) (.pure ⟨_,rfl,by simp only;omega,by simp only;omega,hc⟩))
 | j+1,lo,hi,h,h2=>by
  refine Ok.step (fun k q=>spec_l1Cur_box_L8148.eq_2 k ks _ _ _ _ _ q) (Ok.lt (by omega) (Ok.ltN (by simp;omega) (Ok.ltN (by simp;omega) ?_)))
  exact unitL hn hc j (lo ++ [0]) (hi ++ [1]) (by simp;omega) (by simp;omega)
theorem boxO(hk:bytesOk ks){c:Cu}{m:Nat}(h:CurOk c m)(hm:m+60≤1000000000){n:Nat}(hn:n≤4):Ok (fun k _=>spec_l1Cur_box k ks c n) (fun r=>CurOk r.2 (m+60)∧bxN n r.1):=by
 refine Ok.eq (fun k q=>by rw [spec_l1Cur_box]) ?_
 refine Ok.bind (amongK hk h (by omega) (by simp) (by simp)) fun r1 h1 => ?_
 have m1:=h1.2
 simp only [List.mem_cons,List.not_mem_nil,or_false]at m1
 have hK:0≤r1.1∧r1.1≤8:=by omega
 refine Ok.bind (dyPowS hK.1 hK.2) fun r2 h2 => ?_
 have w:IntKind.wrap .i64 (8*r2)=8*r2:=w64 (by omega) (by omega)
 rw [w]
 refine Ok.bth (Ok.diag (boxL hk hn hK (by omega) n [] [] r1.2 (m+2) (by simp) rfl h1.1 (by omega))) fun y hy => ?_
 obtain⟨y1,y2,y3,y4,y5⟩:=hy
 rw [y1,y2]
 refine Ok.bind (bxMakeO (n:=n) (by omega) (by omega) y3 y4) fun r19 h19=>Ok.ite (fun hr => ?_) (fun hr => .pure ⟨y5.mono (by omega) (by omega),h19 (by simpa using hr)⟩)
 refine Ok.bth (Ok.diag (unitL hn y5 n [] [] (by simp) rfl)) fun z hz => .pure ⟨hz.2.2.mono (by omega) (by omega),hz.1,hz.2.1⟩
def bxS(b:Bx3):Prop:=b.2.1.length≤4∧b.2.2.length≤4
theorem bxN.s{n:Nat}{b:Bx3}(hn:n≤4)(h:bxN n b):bxS b:=⟨by rw [h.1];omega,by rw [h.2];omega⟩
theorem anyBoxO(hk:bytesOk ks){c:Cu}{m:Nat}(h:CurOk c m)(hm:m+70≤1000000000){n:Nat}(hn1:1≤n)(hn:n≤4):Ok (fun k _=>spec_l1Cur_anyBox k ks c n) (fun r=>CurOk r.2 (m+70)∧bxS r.1):=by
 refine Ok.eq (fun k q=>by rw [spec_l1Cur_anyBox]) ?_
 refine Ok.bind (boxO hk h (by omega) hn) fun r1 h1=>Ok.bind (pickK hk h1.1 (by omega) (by omega)) fun r2 h2 => ?_
 have hs:=h1.2.s hn
 have g1:(0:Int)<(r1.1.2.1.length:Int):=by rw [h1.2.1];omega
 have g2:(0:Int)<(r1.1.2.2.length:Int):=by rw [h1.2.2];omega
 have w:IntKind.wrap .i64 ((n:Int) - 1)=(n:Int) - 1:=w64 (by omega) (by omega)
 refine Ok.ite (fun _ => ?_) fun _=>Ok.ite (fun _ => ?_) fun _=>Ok.ite (fun _ => ?_) fun _=>Ok.ite (fun _ => ?_) fun _=>Ok.ite (fun _ => ?_) fun _ => ?_
 ·exact Ok.bind (amongK hk h2.1 (by omega) (by simp) (by simp)) fun r3 h3 => .pure ⟨h3.1.mono (by omega) (by omega),hs⟩
 ·refine Ok.lt g2 (Ok.bind (leastO _ _) fun r4 e4=>Ok.bind (mostO _ _) fun r5 e5=>Ok.bind (dyPowO (by omega) (by omega)) fun r6 _=>Ok.bind (amongK hk h2.1 (by omega) (by simp) (by simp)) fun r7 h7=>Ok.lt g1 (.pure ⟨h7.1.mono (by omega) (by omega),?_⟩))
  exact⟨by simpa using hs.1,hs.2⟩
 ·refine Ok.bind (leastO _ _) fun r4 e4=>Ok.bind (mostO _ _) fun r5 e5=>Ok.bind (dyPowO (by omega) (by omega)) fun r6 _=>Ok.bind (amongK hk h2.1 (by omega) (by simp) (by simp)) fun r7 h7=>Ok.lt g2 (.pure ⟨h7.1.mono (by omega) (by omega),?_⟩)
  exact⟨hs.1,by simpa using hs.2⟩
 ·rw [w]
  refine Ok.le (by omega) (Ok.le (by rw [h1.2.2];omega) (.pure ⟨h2.1.mono (by omega) (by omega),hs.1,?_⟩))
  have:=hs.2
  simp only [List.length_take];omega
 ·exact .pure ⟨h2.1.mono (by omega) (by omega),by simp,by simp⟩
 ·exact .pure ⟨h2.1.mono (by omega) (by omega),hs⟩
theorem apZ(hk:bytesOk ks){x y:Nat}(hx:x≤5)(hy:y≤5):∀(j z:Nat) (c:Cu) (m:Nat) (p:List Tm),z+j=5→CurOk c m→m+2*j≤1000000000→p.length≤21 →
  Ok (fun k q=>spec_l1Cur_anyPoly_L494888082 k ks q c p x y z) (fun s=>∃w,s = .inr w∧CurOk w.1 (m+2*j)∧w.2.1.length≤21∧w.2.2.1=(x:Int)∧w.2.2.2.1=(y:Int))
 | 0,z,c,m,p,h,hc,hm,hp=>by
  refine Ok.step (fun k q=>spec_l1Cur_anyPoly_L494888082.eq_2 k ks _ _ _ _ _ q) (Ok.cf (decide_eq_false ?_) (.pure ⟨_,rfl,hc.mono (by omega) (by omega),hp,rfl,rfl⟩))
  rw [w64 (n:=(x:Int)+y) (by omega) (by omega),w64 (by omega) (by omega)]
  omega
 | j+1,z,c,m,p,h,hc,hm,hp=>by
  refine Ok.step (fun k q=>spec_l1Cur_anyPoly_L494888082.eq_2 k ks _ _ _ _ _ q) (Ok.ite (fun _ => ?_) (fun _ => .pure ⟨_,rfl,hc.mono (by omega) (by omega),hp,rfl,rfl⟩))
  refine Ok.bind (pickK hk hc (by omega) (by omega)) fun r6 h6 => ?_
  have b6:=h6.2.2 (by omega)
  have a6:=h6.2.1
  refine Ok.ite (fun hl => ?_) (fun _ => .pure ⟨_,rfl,h6.1.mono (by omega) (by omega),hp,rfl,rfl⟩)
  have hl:=of_decide_eq_true hl
  rw [w64 (by omega) (by omega)]at hl
  refine Ok.ltN (by simp;omega) ?_
  rw [w64_next (m:=z) (by simp only [lenB];omega)]
  have:=apZ hk hx hy j (z+1) r6.2 (m+2) (p ++ [(1,(x:Int),(y:Int),(z:Int))]) (by omega) h6.1 (by omega) (by simp;omega)
  exact this.mono fun s hs=>by obtain⟨w,e,w1,w2⟩:=hs;exact⟨w,e,w1.mono (by omega) (by omega),w2⟩
theorem apY(hk:bytesOk ks){x:Nat}(hx:x≤5):∀(j y:Nat) (c:Cu) (m:Nat) (p:List Tm),y+j=5→CurOk c m→m+10*j≤1000000000→p.length≤21 →
  Ok (fun k q=>spec_l1Cur_anyPoly_L7732626 k ks q c p x y) (fun s=>∃w,s = .inr w∧CurOk w.1 (m+10*j)∧w.2.1.length≤21∧w.2.2.1=(x:Int))
 | 0,y,c,m,p,h,hc,hm,hp=>by
  refine Ok.step (fun k q=>spec_l1Cur_anyPoly_L7732626.eq_2 k ks _ _ _ _ q) (Ok.cf (decide_eq_false ?_) (.pure ⟨_,rfl,hc.mono (by omega) (by omega),hp,rfl⟩))
  rw [w64 (n:=(x:Int)+y) (by omega) (by omega)]
  omega
 | j+1,y,c,m,p,h,hc,hm,hp=>by
  refine Ok.step (fun k q=>spec_l1Cur_anyPoly_L7732626.eq_2 k ks _ _ _ _ q) (Ok.ite (fun _ => ?_) (fun _ => .pure ⟨_,rfl,hc.mono (by omega) (by omega),hp,rfl⟩))
  refine Ok.bth (Ok.diag (apZ hk hx (y:=y) (by omega) 5 0 c m p (by omega) hc (by omega) hp)) fun w hw => ?_
  obtain⟨w1,w2,w3,w4⟩:=hw
  rw [w3,w4,w64_next (m:=y) (by simp only [lenB];omega)]
  have:=apY hk hx j (y+1) w.1 (m+10) w.2.1 (by omega) w1 (by omega) w2
  exact this.mono fun s hs=>by obtain⟨v,e,v1,v2⟩:=hs;exact⟨v,e,v1.mono (by omega) (by omega),v2⟩
theorem apX(hk:bytesOk ks):∀(j x:Nat) (c:Cu) (m:Nat) (p:List Tm),x+j=5→CurOk c m→m+50*j≤1000000000→p.length≤21 →
  Ok (fun k q=>spec_l1Cur_anyPoly_L120822 k ks q c p x) (fun s=>∃w,s = .inr w∧w.1.length≤21∧CurOk w.2.1 (m+50*j))
 | 0,x,c,m,p,h,hc,hm,hp=>Ok.step (fun k q=>spec_l1Cur_anyPoly_L120822.eq_2 k ks _ _ _ q) (Ok.cf (decide_eq_false (by omega)) (.pure ⟨_,rfl,hp,hc.mono (by omega) (by omega)⟩))
 | j+1,x,c,m,p,h,hc,hm,hp=>by
  refine Ok.step (fun k q=>spec_l1Cur_anyPoly_L120822.eq_2 k ks _ _ _ q) (Ok.le (by omega) ?_)
  refine Ok.bth (Ok.diag (apY hk (x:=x) (by omega) 5 0 c m p (by omega) hc (by omega) hp)) fun w hw => ?_
  obtain⟨w1,w2,w3⟩:=hw
  rw [w3,w64_next (m:=x) (by simp only [lenB];omega)]
  have:=apX hk j (x+1) w.1 (m+50) w.2.1 (by omega) w1 (by omega) w2
  exact this.mono fun s hs=>by obtain⟨v,e,v1,v2⟩:=hs;exact⟨v,e,v1,v2.mono (by omega) (by omega)⟩
theorem anyPolyO(hk:bytesOk ks){c:Cu}{m:Nat}(h:CurOk c m)(hm:m+900≤1000000000){n:Nat}(hn:n≤4):Ok (fun k _=>spec_l1Cur_anyPoly k ks c n) (fun r=>CurOk r.2 (m+900)∧r.1.length≤48):=by
 refine Ok.eq (fun k q=>by rw [spec_l1Cur_anyPoly]) ?_
 refine Ok.bind (polyO hk h (by omega) hn) fun r1 h1=>Ok.bind (pickK hk h1.1 (by omega) (by omega)) fun r2 h2 => ?_
 have l1:=h1.2
 refine Ok.ite (fun _ => ?_) fun _=>Ok.ite (fun _ => ?_) fun _=>Ok.ite (fun _ => ?_) fun _=>Ok.ite (fun _ => ?_) fun _ => ?_
 ·exact Ok.bind (amongK hk h2.1 (by omega) (by simp) (by simp)) fun r3 h3=>Ok.ltN (by simp;omega) (.pure ⟨h3.1.mono (by omega) (by omega),by simp;omega⟩)
 ·exact Ok.bind (amongK hk h2.1 (by omega) (by simp) (by simp)) fun r3 h3=>Ok.bind (amongK hk h3.1 (by omega) (by simp) (by simp)) fun r4 h4=>Ok.ltN (by simp;omega) (.pure ⟨h4.1.mono (by omega) (by omega),by simp;omega⟩)
 ·exact Ok.ltN (by omega) (.pure ⟨h2.1.mono (by omega) (by omega),by simp;omega⟩)
 ·exact Ok.bth (Ok.diag (apX hk 5 0 r2.2 _ [] (by omega) h2.1 (by omega) (by simp))) fun y hy => .pure ⟨hy.2.mono (by omega) (by omega),by have:=hy.1;simp only;omega⟩
 ·exact .pure ⟨h2.1.mono (by omega) (by omega),by simp only;omega⟩
def syS(s:List (List Tm)):Prop:=s.length≤4∧∀r∈s,r.length≤48
theorem anySystemO(hk:bytesOk ks){c:Cu}{m:Nat}(h:CurOk c m)(hm:m+6000≤1000000000):Ok (fun k _=>spec_l1Cur_anySystem k ks c) (fun r=>CurOk r.2 (m+6000)∧syS r.1):=by
 refine Ok.eq (fun k q=>by rw [spec_l1Cur_anySystem]) ?_
 refine Ok.bind (amongK hk h (by omega) (by simp) (by simp)) fun r1 h1 => ?_
 have m1:=h1.2
 simp only [List.mem_cons,List.not_mem_nil,or_false]at m1
 obtain⟨n,hn,hn1,hn3⟩:∃n:Nat,r1.1=(n:Int)∧1≤n∧n≤3:=⟨r1.1.toNat,by omega,by omega,by omega⟩
 rw [hn]
 refine Ok.bind (systemO hk h1.1 (by omega) (n:=n) (by omega)) fun r2 h2=>Ok.bind (pickK hk h2.1 (by omega) (by omega)) fun r3 h3 => ?_
 have hs:syS r2.1:=⟨by rw [h2.2.1];omega,fun r hr=>by have:=h2.2.2 r hr;omega⟩
 refine Ok.ite (fun _ => ?_) fun _=>Ok.ite (fun _ => ?_) fun _=>Ok.ite (fun _ => ?_) fun _ => ?_
 ·refine Ok.bind (pickK hk h3.1 (by omega) (by omega)) fun r4 h4=>Ok.bind (anyPolyO hk h4.1 (by omega) (n:=3) (by omega)) fun r5 h5 => ?_
  have b4:=h4.2.2 (by omega)
  refine Ok.le h4.2.1 (Ok.lt (by rw [h2.2.1];omega) (.pure ⟨h5.1.mono (by omega) (by omega),by simpa using hs.1,fun x hx => ?_⟩))
  rcases List.mem_or_eq_of_mem_set hx with hx | hx
  ·exact hs.2 x hx
  ·rw [hx];exact h5.2
 ·exact .pure ⟨h3.1.mono (by omega) (by omega),by simp,by simp⟩
 ·exact Ok.bind (systemO hk h3.1 (by omega) (n:=4) (by omega)) fun r6 h6 => .pure ⟨h6.1.mono (by omega) (by omega),by rw [h6.2.1];omega,fun r hr=>by have:=h6.2.2 r hr;omega⟩
 ·exact .pure ⟨h3.1.mono (by omega) (by omega),hs⟩
end
end Go.Ev.G

namespace Go.Ev.G
open Go Go.Ev
set_option maxRecDepth 100000

theorem curZ:CurOk ((),0,0) 0:=⟨by decide,by decide,by decide⟩
section
variable {ks : List Int}
end
end Go.Ev.G

namespace Go.Ev.G
open Go Go.Ev
set_option maxRecDepth 100000

def atP(s:List (List Tm))(M:Nat)(pt:Pt)(i:Nat):Int:=((s.getD i []).map (vaT M pt)).sum
structure TwoS(s:List (List Tm)):Prop where
 pl:Pl s
 t:∀i,i<2→∀t∈s.getD i [],tmW t∧tmS 2 t
theorem two_S{s:List (List Tm)}(h:twoV s=true)(hp:Pl s):TwoS s:=by
 obtain⟨p0,p1,e,h0,h1⟩:=two_tmS h
 refine⟨hp,fun i hi t ht => ?_⟩
 have hw:=hp.tm
 subst e
 rcases(by omega:i=0∨i=1)with rfl | rfl
 ·exact⟨hw p0 (by simp) t ht,h0.2 t ht⟩
 ·exact⟨hw p1 (by simp) t ht,h1.2 t ht⟩
theorem hV_at{s:List (List Tm)}(hs:TwoS s){sides:List Iv}(hsd:∀i∈sides,ivGd i){M:Nat}{pt:Pt}(hM:M≤24)(hl:pt.length=2)(hp:ptV M pt)(hin:ptIn pt sides){r:Nat}(hr:r<4)(h:hV 2 s sides r=true):(r<2→0<atP s M pt (r % 2))∧(2≤r→atP s M pt (r % 2)<0):=by
 have hb:=ptIn_inBx hM (fun x hx=>⟨(hp x hx).1,(hp x hx).2.1⟩) hsd hin
 unfold hV at h
 split at h
 ·rename_i v hv
  have:=sgI_at (by omega) hb (fun t ht=>by rw [hl];exact hs.t (r % 2) (by omega) t ht) hv
  rw [beq_iff_eq]at h
  refine⟨fun h2=>this.1 (by rw [h,if_pos h2]),fun h2=>this.2 (by rw [h,if_neg (by omega)])⟩
 ·cases h
theorem d4_two:(L4.all fun a=>L4.all fun b => !(d4 a b==2)||(a==b+2||b==a+2))=true:=by kernel_rfl
theorem no_two{s:List (List Tm)}(hs:TwoS s){u v:List Iv}(hu:∀i∈u,ivGd i)(hv:∀i∈v,ivGd i){M:Nat}{pt:Pt}(hM:M≤24)(hl:pt.length=2)(hp:ptV M pt)(h1:ptIn pt u)(h2:ptIn pt v){a b:Nat}(ha:a<4)(hb:b<4)(e1:hV 2 s u a=true)(e2:hV 2 s v b=true):d4 (a:Int) (b:Int)≠2:=by
 intro h
 have A:=hV_at hs hu hM hl hp h1 ha e1
 have B:=hV_at hs hv hM hl hp h2 hb e2
 have:=List.all_eq_true.1 (List.all_eq_true.1 d4_two (a:Int) (L4_mem ⟨by omega,by omega⟩)) (b:Int) (L4_mem ⟨by omega,by omega⟩)
 rw [h]at this
 simp only [BEq.rfl,Bool.not_true,Bool.false_or,Bool.or_eq_true,beq_iff_eq]at this
 have hm:a % 2=b % 2:=by omega
 rw [hm]at A
 rcases this with h | h
 ·have:=A.2 (by omega);have:=B.1 (by omega);omega
 ·have:=A.1 (by omega);have:=B.2 (by omega);omega

def rsI(s:List (List Tm))(e:Ed):Int:=(((rsn s e).getD 0:Nat):Int)
theorem rsns_all{s:List (List Tm)}:∀ {es:List Ed},(rsnsV s es).2=true→(rsnsV s es).1=es.map (rsI s)∧∀e∈es,∃j,rsn s e=some j
 | [],_=>⟨rfl,by simp⟩
 | e::r,h=>by
  unfold rsnsV at h ⊢
  cases hj:rsn s e with
  | none=>rw [hj]at h;cases h
  | some j =>
   rw [hj]at h
   obtain⟨i1,i2⟩:=rsns_all (es:=r) h
   refine⟨?_,fun x hx => ?_⟩
   ·simp only [List.map_cons,rsI,hj,i1,Option.getD_some]
   ·rcases List.mem_cons.1 hx with rfl | hx
    ·exact⟨j,hj⟩
    ·exact i2 x hx
theorem rsn_h{s:List (List Tm)}{e:Ed}{j:Nat}(h:rsn s e=some j):hV 2 s (sidesE e) j=true∧j<4∧rsI s e=(j:Int):=⟨List.find?_some h,rsn_lt h,by unfold rsI;rw [h];rfl⟩
theorem rsI_rs{s:List (List Tm)}{e:Ed}{j:Nat}(h:rsn s e=some j):isRs (rsI s e):=by
 obtain⟨_,h2,h3⟩:=rsn_h h
 rw [h3]
 exact⟨by omega,by omega⟩
theorem meet{s:List (List Tm)}(hs:TwoS s){M:Nat}{pt:Pt}(hM:M≤24)(hl:pt.length=2)(hp:ptV M pt){e e':Ed}(he:EdOk e)(he':EdOk e')(h1:ptIn pt (sidesE e))(h2:ptIn pt (sidesE e'))(r1:∃j,rsn s e=some j)(r2:∃j,rsn s e'=some j):d4 (rsI s e) (rsI s e')≠2:=by
 obtain⟨a,ha⟩:=r1
 obtain⟨b,hb⟩:=r2
 obtain⟨a1,a2,a3⟩:=rsn_h ha
 obtain⟨b1,b2,b3⟩:=rsn_h hb
 rw [a3,b3]
 exact no_two hs he.sides he'.sides hM hl hp h1 h2 a2 b2 a1 b1
theorem edges_pts{b:Bx}{D:Nat}(hp:plV b=true)(hD:D≤5):∀q∈prs (edgesB b D),∃M pt,M≤8∧pt.length=2∧ptV M pt∧ptIn pt (sidesE q.1)∧ptIn pt (sidesE q.2):=by
 intro q hq
 have hm:=prs_mem q hq
 have hpath:ptT q.1=ptE q.2:=by
  obtain⟨m,l0,l1,h0,h1,e,_⟩:=plV_form8 hp
  subst e
  exact prs_path (edges_path m D l0 l1 h0 h1) q hq
 have ok1:=edgesB_ok q.1 hm.1
 have ok2:=edgesB_ok q.2 hm.2
 obtain⟨M,h1,_,h3⟩:=ptE_V (edges_S hp hD q.2 hm.2)
 exact⟨M,ptE q.2,h1,ptE_len _,h3,by rw [←hpath];exact ptT_in _ ok1.sd,ptE_in _ ok2.sd⟩
theorem turn_ok{s:List (List Tm)}{b:Bx}{D:Nat}(hs:TwoS s)(hp:plV b=true)(hD:D≤5)(h:(rsnsV s (edgesB b D)).2=true):∀q∈prs ((edgesB b D).map (rsI s)),d4 q.1 q.2≠2:=by
 intro q hq
 rw [prs_map]at hq
 obtain⟨z,hz,rfl⟩:=List.mem_map.1 hq
 obtain⟨M,pt,h1,h2,h3,h4,h5⟩:=edges_pts hp hD z hz
 have hm:=prs_mem z hz
 have hr:=(rsns_all h).2
 exact meet hs (by omega) h2 h3 (edgesB_ok _ hm.1) (edgesB_ok _ hm.2) h4 h5 (hr _ hm.1) (hr _ hm.2)
theorem wind{s:List (List Tm)}{b:Bx}{D:Nat}(hs:TwoS s)(hp:plV b=true)(hD:D≤5)(h:(rsnsV s (edgesB b D)).2=true):∃v:Int,4*v=cy tn ((edgesB b D).map (rsI s))∧Evt (fun k _=>spec_imTurns k ((edgesB b D).map (rsI s))) (v,true):=by
 have h5:=pow2N5 hD
 refine turns_val (by rw [List.length_map,edgesB_len];omega) (by rw [List.length_map,edgesB_len];omega) (fun y hy => ?_) (turn_ok hs hp hD h)
 obtain⟨e,he,rfl⟩:=List.mem_map.1 hy
 obtain⟨j,hj⟩:=(rsns_all h).2 e he
 exact rsI_rs hj

theorem cyA_dbl{g:Int→Int→Int}(a0:Int):∀(r:List Int) (p:Int),(∀x∈p::r,g x x=0)→cyA g a0 p (p::dbl r)=cyA g a0 p r
 | [],p,h=>by
  show g p p+cyA g a0 p []=_
  rw [h p (by simp)]
  simp [cyA]
 | c::cs,p,h=>by
  show g p p+(g p c+cyA g a0 c (c::dbl cs))=g p c+cyA g a0 c cs
  rw [h p (by simp),cyA_dbl a0 cs c (fun x hx=>h x (List.mem_cons_of_mem _ hx))]
  omega
theorem cy_dbl{g:Int→Int→Int}{l:List Int}(h:∀x∈l,g x x=0):cy g (dbl l)=cy g l:=by
 cases l with
 | nil=>rfl
 | cons a r=>exact cyA_dbl a r a h
theorem dbl_map{α β:Type}(f:α→β):∀l:List α,dbl (l.map f)=(dbl l).map f
 | []=>rfl
 | a::r=>by simp only [List.map_cons,dbl,dbl_map f r]
theorem wind_fine{s:List (List Tm)}{b:Bx}{D:Nat}(hs:TwoS s)(hp:plV b=true)(hD:D+1≤5)(h:(rsnsV s (edgesB b D)).2=true)(h':(rsnsV s (edgesB b (D+1))).2=true):cy tn ((edgesB b (D+1)).map (rsI s))=cy tn ((edgesB b D).map (rsI s)):=by
 have hf:fits (edgesB b D) (edgesB b (D+1)):=by
  obtain⟨m,l0,l1,h0,h1,e,hm,g0,g1⟩:=plV_form8 hp
  subst e
  exact edges_fits hm hD g0 g1
 obtain⟨z1,z2,z3⟩:=zz_fits hf
 have r1:=(rsns_all h).2
 have r2:=(rsns_all h').2
 generalize hz:zz (edgesB b D) (edgesB b (D+1))=Z at z1 z2 z3
 have dblm:∀ {x:Ed},∀ {l:List Ed},x∈dbl l→x∈l:=by
  intro x l
  induction l with
  | nil=>exact fun h=>h
  | cons a r ih =>
   intro h
   simp only [dbl,List.mem_cons]at h ⊢
   rcases h with h | h | h
   ·exact .inl h
   ·exact .inl h
   ·exact .inr (ih h)
 have m1:∀z∈Z,z.1∈edgesB b D:=fun z hz=>dblm (z1 ▸ List.mem_map_of_mem (f:=fun z:Ed×Ed=>z.1) hz)
 have m2:∀z∈Z,z.2∈edgesB b (D+1):=fun z hz=>z2 ▸ List.mem_map_of_mem (f:=fun z:Ed×Ed=>z.2) hz
 have key:=cy_fine (l:=Z) (m:=fun z=>rsI s z.1) (f:=fun z=>rsI s z.2) (fun z hz=>by obtain⟨j,hj⟩:=r1 _ (m1 z hz);exact rsI_rs hj) (fun z hz=>by obtain⟨j,hj⟩:=r2 _ (m2 z hz);exact rsI_rs hj) (fun q hq=>by
  have hm:=prs_mem q hq
  have hq2:(q.1.2,q.2.2)∈prs (edgesB b (D+1)):=by
   rw [←z2,prs_map]
   exact List.mem_map_of_mem (f:=fun q:(Ed×Ed)×(Ed×Ed)=>(q.1.2,q.2.2)) hq
  obtain⟨M,pt,h1,h2,h3,h4,h5⟩:=edges_pts hp hD _ hq2
  have h4:ptIn pt (sidesE q.1.2):=h4
  have h5:ptIn pt (sidesE q.2.2):=h5
  have i1:=ptIn_sdIn h4 (z3 q.1 hm.1)
  have i2:=ptIn_sdIn h5 (z3 q.2 hm.2)
  have all:∀x ∈ [rsI s q.1.1,rsI s q.2.1,rsI s q.1.2,rsI s q.2.2],∃e,x=rsI s e∧EdOk e∧ptIn pt (sidesE e)∧∃j,rsn s e=some j:=by
   intro x hx
   simp only [List.mem_cons,List.not_mem_nil,or_false]at hx
   rcases hx with rfl | rfl | rfl | rfl
   ·exact⟨_,rfl,edgesB_ok _ (m1 _ hm.1),i1,r1 _ (m1 _ hm.1)⟩
   ·exact⟨_,rfl,edgesB_ok _ (m1 _ hm.2),i2,r1 _ (m1 _ hm.2)⟩
   ·exact⟨_,rfl,edgesB_ok _ (m2 _ hm.1),h4,r2 _ (m2 _ hm.1)⟩
   ·exact⟨_,rfl,edgesB_ok _ (m2 _ hm.2),h5,r2 _ (m2 _ hm.2)⟩
  intro x hx y hy
  obtain⟨e,rfl,o1,o2,o3⟩:=all x hx
  obtain⟨e',rfl,o1',o2',o3'⟩:=all y hy
  exact meet hs (by omega) h2 h3 o1 o1' o2 o2' o3 o3')
 have e1:Z.map (fun z=>rsI s z.2)=(edgesB b (D+1)).map (rsI s):=by rw [←z2,List.map_map];rfl
 have e2:Z.map (fun z=>rsI s z.1)=dbl ((edgesB b D).map (rsI s)):=by rw [dbl_map,←z1,List.map_map];rfl
 rw [e1,e2]at key
 rw [key,cy_dbl]
 intro x hx
 obtain⟨e,he,rfl⟩:=List.mem_map.1 hx
 obtain⟨j,hj⟩:=r1 e he
 exact tn_self (rsI_rs hj)
theorem corners_told{s:List (List Tm)}{b:Bx}{D:Nat}(h2:twoV s=true)(hs:TwoS s)(hp:plV b=true)(hD:D≤5)(h:(rsnsV s (edgesB b D)).2=true):(oL (allO (cqO (s.getD 0 []) (s.getD 1 [])) 0 (edgesB b D))).2=true:=by
 have hall:((edgesB b D).all fun e=>(cqO (s.getD 0 []) (s.getD 1 []) e).isSome)=true:=by
  rw [List.all_eq_true]
  intro e he
  obtain⟨j,hj⟩:=(rsns_all h).2 e he
  obtain⟨j1,j2,_⟩:=rsn_h hj
  obtain⟨M,h1,_,h3⟩:=ptE_V (edges_S hp hD e he)
  have ok:=edgesB_ok e he
  have A:=hV_at hs ok.sides (by omega) (ptE_len e) h3 (ptE_in e ok.sd) j2 j1
  rw [cqO_eq (by omega) (fun t ht=>(hs.t 0 (by omega) t ht).2) (fun t ht=>(hs.t 1 (by omega) t ht).2) h3]
  have e0:(List.map (vaT M (ptE e)) (s.getD 0 [])).sum=atP s M (ptE e) 0:=rfl
  have e1:(List.map (vaT M (ptE e)) (s.getD 1 [])).sum=atP s M (ptE e) 1:=rfl
  rw [e0,e1]
  unfold qq
  rw [if_neg]
  ·rfl
  ·intro hz
   rcases(by omega:j=0∨j=1∨j=2∨j=3)with rfl | rfl | rfl | rfl
   ·have:=A.1 (by omega);simp only [Nat.zero_mod]at this;omega
   ·have:=A.1 (by omega);simp only [Nat.reduceMod]at this;omega
   ·have:=A.2 (by omega);simp only [Nat.reduceMod]at this;omega
   ·have:=A.2 (by omega);simp only [Nat.reduceMod]at this;omega
 unfold allO
 rw [if_pos hall]
 rfl
end Go.Ev.G

namespace Go.Ev.G
open Go Go.Ev
set_option maxRecDepth 100000
variable {ks : List Int}

theorem planeI{x3 x4 x63 x64:Int}{x6 x62:List (List Tm)}{ts:List Tm}(ht:ts.length≤100){c:Cu}{m:Nat}(hc:CurOk c m):∀(j a:Nat) (p:List Tm),a+j=ts.length→p.length≤a →
  Ok (fun k q=>spec_l1Cur_planeSystem_L4171386 k ks q x3 x4 x6 p x62 x63 x64 ts (ts.length:Int) a c) (fun w=>∃y,w = .inr y∧y.1=x3∧y.2.1=x4∧y.2.2.1=x6∧y.2.2.2.1.length≤ts.length∧y.2.2.2.2.1=x62∧y.2.2.2.2.2.1=x63∧y.2.2.2.2.2.2.1=x64∧CurOk y.2.2.2.2.2.2.2.1 m)
 | 0,a,p,h,hp=>Ok.step (fun k q=>spec_l1Cur_planeSystem_L4171386.eq_2 k ks _ _ _ _ _ _ _ _ _ _ _ q) (Ok.cf (decide_eq_false (by omega)) (.pure ⟨_,rfl,rfl,rfl,rfl,by simp only;omega,rfl,rfl,rfl,hc⟩))
 | j+1,a,p,h,hp=>by
  refine Ok.step (fun k q=>spec_l1Cur_planeSystem_L4171386.eq_2 k ks _ _ _ _ _ _ _ _ _ _ _ q) (Ok.lt (by omega) (Ok.le (by omega) (Ok.lt (by omega) (Ok.bind (poPutO (by omega)) fun r8 h8 => ?_))))
  rw [w64_next (m:=a) (by simp only [lenB];omega)]
  exact planeI ht hc j (a+1) r8 (by omega) (by omega)
theorem planeL{x3 x4:Int}{sys:List (List Tm)}(hs:sys.length=2)(hp:∀p∈sys,p.length≤10):∀(j i:Nat) (c:Cu) (m:Nat) (acc:List (List Tm)),i+j=2→acc.length=i→(∀r∈acc,r.length≤20)→CurOk c m →
  Ok (fun k q=>spec_l1Cur_planeSystem_L1018 k ks q x3 x4 acc sys (sys.length:Int) i c) (fun w=>∃y,w = .inr y∧y.1.length=2∧(∀r∈y.1,r.length≤20)∧CurOk y.2.1 m)
 | 0,i,c,m,acc,h,ha,hr,hc=>Ok.step (fun k q=>spec_l1Cur_planeSystem_L1018.eq_2 k ks _ _ _ _ _ _ _ q) (Ok.cf (decide_eq_false (by omega)) (.pure ⟨_,rfl,by simp only;omega,hr,hc⟩))
 | j+1,i,c,m,acc,h,ha,hr,hc=>by
  have hpl:(sys.getD (Int.toNat (i:Int)) []).length≤10:=hp _ (getD_in (by omega))
  have hl2:(i:Int)<((([x3,x4]:List Int).length:Nat):Int):=by simp only [List.length_cons,List.length_nil];omega
  refine Ok.step (fun k q=>spec_l1Cur_planeSystem_L1018.eq_2 k ks _ _ _ _ _ _ _ q) (Ok.lt (by omega) (Ok.le (by omega) (Ok.lt (by omega) (Ok.le (by omega) (Ok.lt hl2 ?_)))))
  refine Ok.bth (P:=fun y=>y.1=x3∧y.2.1=x4∧y.2.2.1=acc∧y.2.2.2.1.length≤11∧y.2.2.2.2.1=sys∧y.2.2.2.2.2.1=(sys.length:Int)∧y.2.2.2.2.2.2.1=(i:Int)∧CurOk y.2.2.2.2.2.2.2.1 m) ?_ fun y hy => ?_
  ·refine Ok.bind (poAddO (by omega) (by simp)) fun r6 h6 => ?_
   simp only [List.length_cons,List.length_nil]at h6
   exact Ok.ite (fun _=>Ok.ite (fun _ => .pure ⟨_,rfl,rfl,rfl,rfl,by simp only;omega,rfl,rfl,rfl,hc⟩) (fun _ => .pure ⟨_,rfl,rfl,rfl,rfl,by simp only;omega,rfl,rfl,rfl,hc⟩)) (fun _ => .pure ⟨_,rfl,rfl,rfl,rfl,by simp only;omega,rfl,rfl,rfl,hc⟩)
  ·obtain⟨y1,y2,y3,y4,y5,y6,y7,y8⟩:=hy
   refine Ok.bth (Ok.diag (planeI (ts:=y.2.2.2.1) (by omega) y8 y.2.2.2.1.length 0 [] (by omega) (by simp))) fun z hz => ?_
   obtain⟨z1,z2,z3,z4,z5,z6,z7,z8⟩:=hz
   rw [z1,z2,z3,z5,z6,z7,y1,y2,y3,y5,y6,y7,w64_next (m:=i) (by simp only [lenB];omega)]
   refine Ok.ltN (by simp;omega) ?_
   exact planeL hs hp j (i+1) z.2.2.2.2.2.2.2.1 m (acc ++ [z.2.2.2.1]) (by omega) (by simp;omega) (fun r hr'=>by
    rcases List.mem_append.1 hr' with hr' | hr'
    ·exact hr r hr'
    ·simp at hr'
     rw [hr']
     omega) z8
theorem planeSystemO(hk:bytesOk ks){c:Cu}{m:Nat}(h:CurOk c m)(hm:m+7000≤1000000000):Ok (fun k _=>spec_l1Cur_planeSystem k ks c) (fun r=>CurOk r.2 (m+7000)∧syS r.1):=by
 refine Ok.eq (fun k q=>by rw [spec_l1Cur_planeSystem]) ?_
 refine Ok.bind (oneK hk h (by omega) (by omega)) fun r1 h1=>Ok.ite (fun _ => ?_) (fun _ => ?_)
 ·exact Ok.bind (anySystemO hk h1 (by omega)) fun r2 h2 => .pure ⟨h2.1.mono (by omega) (by omega),h2.2⟩
 refine Ok.bind (amongK hk h1 (by omega) (by simp) (by simp)) fun r3 h3=>Ok.bind (amongK hk h3.1 (by omega) (by simp) (by simp)) fun r4 h4=>Ok.bind (pickK hk h4.1 (by omega) (by decide)) fun r5 h5 => ?_
 have a5:=h5.2.1
 have b5:r5.1<5:=h5.2.2 (by decide)
 refine Ok.le a5 (Ok.lt b5 ?_)
 have fin:∀(sys:List (List Tm)) (c':Cu),sys.length=2→(∀p∈sys,p.length≤10)→CurOk c' (m+8)→Ok (fun k (q:Nat)=>both (R:=(List (List (Int×Int×Int×Int)))×Unit×Int×Int) (P:=(List (List (Int×Int×Int×Int)))×(Unit×Int×Int)×Unit) (spec_l1Cur_planeSystem_L1018 k ks k r3.1 r4.1 [] sys (sys.length:Int) 0 c') (fun q15=>some q15) (fun y14=>some (y14.1,(),y14.2.1.2))) (fun r=>CurOk r.2 (m+7000)∧syS r.1):=by
  intro sys c' h1 h2 hc'
  refine Ok.bth (Ok.diag (planeL h1 h2 2 0 c' (m+8) [] rfl rfl (by simp) hc')) fun y hy => ?_
  obtain⟨y1,y2,y3⟩:=hy
  exact .pure ⟨y3.mono (by omega) (by omega),by simp only;omega,fun r hr=>by have:=y2 r hr;omega⟩
 refine fin _ r5.2 ?_ ?_ h5.1
 ·rcases(by omega:r5.1=0∨r5.1=1∨r5.1=2∨r5.1=3∨r5.1=4)with e | e | e | e | e <;> rw [e] <;> rfl
 ·rcases(by omega:r5.1=0∨r5.1=1∨r5.1=2∨r5.1=3∨r5.1=4)with e | e | e | e | e <;> rw [e] <;> decide
theorem planeBoxO(hk:bytesOk ks){c:Cu}{m:Nat}(h:CurOk c m)(hm:m+100≤1000000000):Ok (fun k _=>spec_l1Cur_planeBox k ks c) (fun r=>CurOk r.2 (m+100)∧bxS r.1):=by
 refine Ok.eq (fun k q=>by rw [spec_l1Cur_planeBox]) ?_
 refine Ok.bind (oneK hk h (by omega) (by omega)) fun r1 h1=>Ok.ite (fun _ => ?_) (fun _ => ?_)
 ·refine Ok.bind (amongK hk h1 (by omega) (by simp) (by simp)) fun r2 h2 => ?_
  have m2:=h2.2
  simp only [List.mem_cons,List.not_mem_nil,or_false]at m2
  obtain⟨n,hn,hn1,hn3⟩:∃n:Nat,r2.1=(n:Int)∧1≤n∧n≤3:=⟨r2.1.toNat,by omega,by omega,by omega⟩
  rw [hn]
  exact Ok.bind (anyBoxO hk h2.1 (by omega) hn1 (by omega)) fun r3 h3 => .pure ⟨h3.1.mono (by omega) (by omega),h3.2⟩
 ·refine Ok.bind (amongK hk h1 (by omega) (by simp) (by simp)) fun r4 h4=>Ok.bind (pickK hk h4.1 (by omega) (by omega)) fun r5 h5 => ?_
  have m4:=h4.2
  simp only [List.mem_cons,List.not_mem_nil,or_false]at m4
  refine Ok.bind (dyPowS (by omega) (by omega)) fun r6 h6=>Ok.bind (amongK hk h5.1 (by omega) (by simp) (by simp)) fun r7 h7=>Ok.bind (amongK hk h7.1 (by omega) (by simp) (by simp)) fun r8 h8 => ?_
  exact Ok.bind (bxMakeO (n:=2) (by omega) (by omega) rfl rfl) fun r9 h9=>Ok.ite (fun _ => .pure ⟨h8.1.mono (by omega) (by omega),by simp,by simp⟩) (fun e => .pure ⟨h8.1.mono (by omega) (by omega),(h9 (by simpa using e)).s (by omega)⟩)
theorem edgeDepthK(hk:bytesOk ks){c:Cu}{m:Nat}(h:CurOk c m)(hm:m+100≤1000000000):Ok (fun _ _=>spec_l1Cur_edgeDepth ks c) (fun r=>CurOk r.2 (m+4)):=by
 unfold spec_l1Cur_edgeDepth
 exact Ok.bind (amongK hk h (by omega) (by simp) (by simp)) fun r1 h1=>Ok.bind (amongK hk h1.1 (by omega) (by simp) (by simp)) fun r2 h2 => .pure (h2.1.mono (by omega) (by omega))
theorem drawBoundaryO(hk:bytesOk ks):Ok (fun k _=>spec_DrawBoundaryReasons k ks) (fun r=>syS r.1∧bxS r.2.1):=by
 refine Ok.eq (fun k q=>by rw [spec_DrawBoundaryReasons]) ?_
 exact Ok.bind (planeSystemO hk curZ (by omega)) fun r1 h1=>Ok.bind (planeBoxO hk h1.1 (by omega)) fun r2 h2=>Ok.bind (edgeDepthK hk h2.1 (by omega)) fun r3 h3 => .pure ⟨h1.2,h2.2⟩
end Go.Ev.G

namespace Go.Ev.G
open Go Go.Ev
set_option maxRecDepth 100000

theorem ivGd.gdI{x:Iv}(h:ivGd x):gdI x:=⟨h.1,h.2.1⟩
end Go.Ev.G

namespace Go.Ev.G
open Go Go.Ev
set_option maxRecDepth 100000

def small4(T:List Pt):Prop:=T.length≤4∧∀r∈T,r.length≤4
end Go.Ev.G

namespace Go.Ev.G
open Go Go.Ev
set_option maxRecDepth 100000

structure Sm(m:List Pt):Prop where
 l:m.length≤1000
 r:∀r∈m,r.length≤1000
theorem Sm.of{m:List Pt}(h:small4 m):Sm m:=⟨by have:=h.1;omega,fun r hr=>by have:=h.2 r hr;omega⟩
theorem Sm.lb{m:List Pt}(h:Sm m):m.length<lenB:=by have:=h.l;simp only [lenB];omega
theorem bytes_of{a:List Int}(h:WfT (.sl (.int .u8)) a):bytesOk a:=by
 intro x hx
 have h2:(decide (IntKind.u8.min≤x)&&decide (x≤IntKind.u8.max))=true:=h.2 x hx
 rw [Bool.and_eq_true]at h2
 have h3:=of_decide_eq_true h2.1
 have h4:=of_decide_eq_true h2.2
 have e1:IntKind.u8.min=0:=rfl
 have e2:IntKind.u8.max=255:=rfl
 rw [e1]at h3
 rw [e2]at h4
 exact⟨h3,h4⟩
end Go.Ev.G

namespace Go.Ev.G
open Go Go.Ev
set_option maxRecDepth 100000

theorem same_all{α:Type}{L:Nat→Nat→Int→Option (Bool ⊕ Unit)}{xs:List α}{z:α}{e:Nat→α→Option Bool}(hb:xs.length<lenB)(he:∀x∈xs,Evt (fun k _=>e k x) true)
  (hL:∀k n i,L k (n+1) i=(bif (decide (i<(xs.length:Int)))then(bif (decide (0≤i))then(bif (decide (i<(xs.length:Int)))then(bif (decide (0≤i))then(bif (decide (i<(xs.length:Int)))then(Option.bind (e k (xs.getD (Int.toNat i) z)) fun r=>(bif (!r)then some (Sum.inl false)else L k n (IntKind.wrap .i64 (i+1))))else none)else none)else none)else none)else some (.inr ()))) :
  Evt (fun k n=>L k n 0) (.inr ()):=by
 have key:∀(r d:List α),d++r=xs→Evt (fun k n=>L k n d.length) (.inr ()):=by
  intro r
  induction r with
  | nil =>
   intro d h
   rw [List.append_nil]at h
   subst h
   refine Evt.step (fun k n=>hL k n _) ?_
   rw [mid_end]
   exact Evt.cfalse rfl .pure
  | cons x r ih =>
   intro d h
   subst h
   refine Evt.step (fun k n=>hL k n _) (Evt.ctrue mid_lt (Evt.ctrue mid_ge (Evt.ctrue mid_lt (Evt.ctrue mid_ge (Evt.ctrue mid_lt ?_)))))
   rw [mid_get]
   refine Evt.bind (he x (by simp)) (Evt.cfalse rfl ?_)
   rw [len_next hb]
   exact ih (d ++ [x]) (by simp)
 exact key xs [] rfl
end Go.Ev.G

namespace Go.Ev.G
open Go Go.Ev
set_option maxRecDepth 100000

theorem qInts_ev{x:List Int}(hb:x.length<lenB):Evt (fun k _=>laws_qInts k x x) true:=by
 refine Evt.eq (f:=fun k q=>_) ?_ (fun k q=>by rw [laws_qInts])
 exact Evt.cfalse (by simp) (Evt.inr (Evt.diag (same_all (L:=fun k n i=>laws_qInts_L58 k n x x (x.length:Int) i) (z:=0) (e:=fun _ y=>some (y==y)) hb (fun y _ => .const (by simp)) (fun k n i=>by rw [laws_qInts_L58.eq_2];rfl))) .pure)
theorem br_form{s:List (List Tm)}{b:Bx}{d:Int}(hm:∀r∈s,r.length<lenB)(h:(brV s b d).2=true):∃D:Nat,d=D∧D≤5∧askV s b d=true∧planeV s b=true∧twoV s=true∧TwoS s∧plV b=true∧(rsnsV s (edgesB b D)).2=true∧(brV s b d).1=(edgesB b D).map (rsI s):=by
 unfold brV at h ⊢
 split at h
 ·rename_i ha
  obtain⟨D,rfl,hD,hs,hp⟩:=askV_form ha hm
  rw [if_pos ha]
  have hpl:planeV s b=true:=by
   unfold askV at ha
   rw [Bool.and_eq_true]at ha
   exact ha.1
  simp only [Int.toNat_natCast]at h ⊢
  unfold allV at h ⊢
  split at h
  ·rename_i h3
   rw [if_pos h3]
   exact⟨D,rfl,hD,ha,hpl,askV_two ha,two_S (askV_two ha) hs,hp,h3,(rsns_all h3).1⟩
  ·cases h
 ·cases h
theorem winding_told{s:List (List Tm)}{b:Bx}{d:Int}(hb:s.length<lenB)(hm:∀r∈s,r.length<lenB)(hx:b.2.1.length<lenB):∃w:Int×Bool,Evt (fun k _=>spec_WindingOf k s b d) w∧Evt (fun k _=>impl_WindingOf k s b d) w∧w.2=(brV s b d).2∧(w.2=true→4*w.1=cy tn (brV s b d).1∧Evt (fun k _=>spec_imTurns k (brV s b d).1) (w.1,true)):=by
 obtain⟨v,hS,hI⟩:=windingOf_val s b d
 have hS:=hS hb hm hx
 refine⟨v,hS,hI hb hm hx,?_⟩
 cases hbr:(brV s b d).2 with
 | true =>
  obtain⟨D,rfl,hD,ha,hpl,h2,hs,hp,hr,he⟩:=br_form hm hbr
  obtain⟨w,w1,w2⟩:=wind hs hp hD hr
  have:Evt (fun k _=>spec_WindingOf k s b (D:Int)) (w,true):=by
   refine Evt.eq (f:=fun k q=>_) ?_ (fun k q=>by rw [spec_WindingOf])
   refine spec_ask hb hm hx (fun h'=>by rw [ha]at h'; cases h') (fun _ => ?_)
   have ea:allV s b D=((edgesB b D).map (rsI s),true):=by
    unfold allV
    rw [if_pos hr,(rsns_all hr).1]
   have:=imAll_ev hs.pl hp hD
   rw [ea]at this
   exact Evt.bind this (Evt.cfalse rfl (Evt.bind w2 (Evt.cfalse rfl .pure)))
  have e:=Evt.uniq hS this
  subst e
  exact⟨rfl,fun _=>by rw [he];exact⟨w1,w2⟩⟩
 | false =>
  have:Evt (fun k _=>spec_WindingOf k s b d) (0,false):=by
   refine Evt.eq (f:=fun k q=>_) ?_ (fun k q=>by rw [spec_WindingOf])
   refine spec_ask hb hm hx (fun _=>rfl) (fun ha => ?_)
   obtain⟨D,rfl,hD,hs,hp⟩:=askV_form ha hm
   unfold brV at hbr
   rw [if_pos ha]at hbr
   simp only [Int.toNat_natCast]at hbr
   exact Evt.bind (imAll_ev hs hp hD) (Evt.ctrue (by rw [hbr];rfl) .pure)
  have e:=Evt.uniq hS this
  subst e
  exact⟨rfl,fun h=>by cases h⟩
theorem zip_map_self{α β:Type}(f:α→β):∀l:List α,l.zip (l.map f)=l.map fun x=>(x,f x)
 | []=>rfl
 | a::r=>by simp only [List.map_cons,List.zip_cons_cons,zip_map_self f r]
theorem check_told{s:List (List Tm)}{b:Bx}{D:Nat}(hb:s.length<lenB)(hm:∀r∈s,r.length<lenB)(hx:b.2.1.length<lenB)(hpl:planeV s b=true)(hs:TwoS s)(hp:plV b=true)(hD:D≤5)(hr:(rsnsV s (edgesB b D)).2=true){v:Int}(hv:Evt (fun k _=>spec_imTurns k ((edgesB b D).map (rsI s))) (v,true)):Evt (fun k _=>impl_CheckReasons k s b ((edgesB b D).map (rsI s))) (true,true):=by
 have h5:=pow2N5 hD
 have hel:((edgesB b D).map (rsI s)).length=4*2 ^ D:=by rw [List.length_map,edgesB_len]
 generalize hxs:(edgesB b D).map (rsI s)=xs at hv hel
 have hok:((edgesB b D).zip xs).all (okR s)=true:=by
  rw [←hxs,zip_map_self,List.all_map,List.all_eq_true]
  intro e he
  obtain⟨j,hj⟩:=(rsns_all hr).2 e he
  obtain⟨j1,j2,j3⟩:=rsn_h hj
  unfold okR
  simp only [Function.comp,j3]
  rw [decide_eq_true (by omega),Int.toNat_natCast,j1]
  rfl
 have hN:((2 ^ D:Nat):Int)=2 ^ D:=by simp
 have at0:∀(j E:Nat),E+j=D→Evt (fun k m=>spec_CheckReasons_L58 k m s xs b (E:Int)) (.inl (true,true)):=by
  intro j
  induction j with
  | zero =>
   intro E hE
   have:E=D:=by omega
   subst this
   have hsp:=specCheck_loop hs.pl (es:=edgesB b E) (xs:=xs) edgesB_ok (by rw [edgesB_len];omega) (by rw [edgesB_len];omega) (edgesB b E) [] xs [] rfl rfl rfl
   simp only [List.length_nil]at hsp
   rw [hok,if_pos rfl]at hsp
   refine Evt.step (fun k m=>spec_CheckReasons_L58.eq_2 k _ _ _ _ m) (Evt.ctrue (decide_eq_true (by omega)) (Evt.bind (.const (dyPower_eq (m:=E) (by omega))) (Evt.cfalse ?_ (Evt.bind (imEdgesB_ev hp hD) (Evt.inr (Evt.diag hsp) (Evt.bind hv .pure))))))
   rw [w64 (by omega) (by omega),bne_eq_false_iff_eq]
   omega
  | succ j ih =>
   intro E hE
   refine spec_skip (by omega) ?_ (ih (E+1) (by omega))
   have:(2:Nat) ^ E<2 ^ D:=Nat.pow_lt_pow_right (by omega) (by omega)
   omega
 have spec:Evt (fun k _=>spec_CheckReasons k s b xs) (true,true):=by
  refine Evt.eq (f:=fun k q=>_) ?_ (fun k q=>by rw [spec_CheckReasons])
  exact Evt.bind (imGood_ev hb hm hx) (Evt.cfalse (by rw [hpl];rfl) (Evt.cfalse (decide_eq_false (by omega)) (Evt.inl (Evt.diag (at0 D 0 (by omega))) .pure)))
 obtain⟨c,c1,c2⟩:=checkReasons_val s b xs (by omega)
 have e:=Evt.uniq (c1 hb hm hx) spec
 subst e
 exact c2 hb hm hx
theorem rs_ok{s:List (List Tm)}{b:Bx}{D:Nat}(hD:D≤5)(hr:(rsnsV s (edgesB b D)).2=true):rsOk ((edgesB b D).map (rsI s))=true∧∀y∈(edgesB b D).map (rsI s),isRs y:=by
 have h5:=pow2N5 hD
 have all:∀y∈(edgesB b D).map (rsI s),isRs y:=by
  intro y hy
  obtain⟨e,he,rfl⟩:=List.mem_map.1 hy
  obtain⟨j,hj⟩:=(rsns_all hr).2 e he
  exact rsI_rs hj
 refine⟨?_,all⟩
 unfold rsOk
 rw [Bool.and_eq_true,List.all_eq_true]
 exact⟨decide_eq_true (by rw [List.length_map,edgesB_len];omega),fun y hy=>decide_eq_true (all y hy)⟩
theorem turnsOf_told{xs:List Int}{v:Int}(h0:0<xs.length)(hb:xs.length≤128)(hok:rsOk xs=true)(hv:Evt (fun k _=>spec_imTurns k xs) (v,true)):Evt (fun k _=>impl_TurnsOf k xs) (v,true):=by
 obtain⟨w,f,h1,h2⟩:=turns2_ev h0 hb
 have e:=Evt.uniq h1 hv
 cases e
 refine Evt.eq (f:=fun k q=>_) ?_ (fun k q=>by rw [impl_TurnsOf])
 exact Evt.bind (areReasons_ev (by simp only [lenB];omega)) (Evt.cfalse (by rw [hok];rfl) (Evt.cfalse (by rw [beq_eq_false_iff_ne];omega) (Evt.bind h2 .pure)))
theorem rs_lab{a:Int}(h:isRs a):isLab a:=by unfold isRs at h;unfold isLab;omega
theorem digR_ev{x:List Int}(hx:∀a∈x,isRs a)(hl:x.length≤128):∀(r d:List Int) (s:ByteArray),d++r=x→s.size=d.length→∃t:ByteArray,t.size=x.length∧Evt (fun k n=>impl_digitsText_L58 k n s x (x.length:Int) d.length) (.inr (t,()))
 | [],d,s,h,hs=>by
  rw [List.append_nil]at h
  subst h
  refine⟨s,hs,Evt.step (fun k n=>impl_digitsText_L58.eq_2 k _ _ _ _ n) ?_⟩
  rw [mid_end]
  exact Evt.cfalse rfl .pure
 | e::r,d,s,h,hs=>by
  subst h
  have hl2:d.length+(r.length+1)≤128:=by simpa using hl
  obtain⟨t,t1,t2⟩:=digR_ev hx hl r (d ++ [e]) (s++digV e) (by simp) (by rw [size_push];simp;omega)
  refine⟨t,t1,Evt.step (fun k n=>impl_digitsText_L58.eq_2 k _ _ _ _ n) (Evt.ctrue mid_lt (Evt.ctrue mid_ge (Evt.ctrue mid_lt ?_)))⟩
  rw [mid_get]
  refine Evt.bind (.const (itoa_eq (rs_lab (hx e (by simp))))) (Evt.ctrue (decide_eq_true (by rw [digV_size];omega)) ?_)
  rw [w64_next (by simp only [lenB];omega)]
  rw [show(d ++ [e]).length=d.length+1 by simp]at t2
  exact t2
theorem text_told{xs:List Int}(hb:xs.length≤128)(hok:rsOk xs=true)(hx:∀a∈xs,isRs a):∃t:ByteArray,t.size=xs.length∧Evt (fun k _=>impl_ReasonsText k xs) (t,true):=by
 obtain⟨t,t1,t2⟩:=digR_ev hx hb xs [] ⟨#[]⟩ rfl rfl
 refine⟨t,t1,?_⟩
 refine Evt.eq (f:=fun k q=>_) ?_ (fun k q=>by rw [impl_ReasonsText])
 refine Evt.bind (areReasons_ev (by simp only [lenB];omega)) (Evt.cfalse (by rw [hok];rfl) (Evt.bind (a:=t) ?_ .pure))
 refine Evt.eq (f:=fun k q=>_) ?_ (fun k q=>by rw [impl_digitsText])
 exact Evt.inr (Evt.diag t2) .pure
theorem find_le{P:Nat→Bool}{N D:Nat}(hD:D<N)(h:P D=true):∃j,(List.range N).find? P=some j∧j≤D:=by
 cases hf:(List.range N).find? P with
 | none =>
  have:=List.find?_eq_none.1 hf D (List.mem_range.2 hD)
  exact absurd h this
 | some j =>
  refine⟨j,rfl,?_⟩
  rw [List.find?_range_eq_some]at hf
  rcases Nat.lt_or_ge D j with hl | hl
  ·have:=hf.2.2 D hl
   rw [h]at this
   cases this
  ·exact hl
theorem u64_small{D:Nat}(h:D≤5):decide (IntKind.wrap .u64 (D:Int)<0)=false∧IntKind.wrap .i64 (4*2 ^ min (Int.toNat (IntKind.wrap .u64 (D:Int))) (IntKind.bits .i64))=((4*2 ^ D:Nat):Int):=by
 rcases(by omega:D=0∨D=1∨D=2∨D=3∨D=4∨D=5)with rfl | rfl | rfl | rfl | rfl | rfl <;> decide
theorem fnImages_law(a b:List Int)(ha:bytesOk a)(_hb:bytesOk b):∃k,laws_FnImages k a b=some true:=by
 refine Evt.get (Evt.eq (f:=fun k q=>_) ?_ (fun k q=>by rw [laws_FnImages]))
 refine Evt.ite (fun _ => .pure) (fun _ => ?_)
 obtain⟨⟨s,bx,d⟩,e1,hs,hbx⟩:=drawBoundaryO ha
 simp only at hs hbx
 have sl:s.length<lenB:=by have:=hs.1;simp only [lenB];omega
 have sr:∀r∈s,r.length<lenB:=fun r hr=>by have:=hs.2 r hr;simp only [lenB];omega
 have bl:bx.2.1.length<lenB:=by have:=hbx.1;simp only [lenB];omega
 obtain⟨w,w1,w2,w3,w4⟩:=winding_told (d:=d) sl sr bl
 have brl:=brV_len s bx d
 have cnl:=cnV_len s bx d
 refine Evt.bind e1 (Evt.bind (impl_boundaryReasons_ev sl sr bl) (Evt.bind (spec_boundaryReasons_ev sl sr bl) (Evt.bind w2 (Evt.bind w1 (Evt.bind (impl_firstFailure_ev sl sr bl) (Evt.bind (spec_firstFailure_ev sl sr bl) (Evt.bind (impl_corner_ev sl sr bl) (Evt.bind (spec_corner_ev sl sr bl) (Evt.bind (impl_leastDepth_ev sl sr bl) (Evt.bind (spec_leastDepth_ev sl sr bl) ?_))))))))))
 refine Evt.inr (y:=(s,bx,d,(brV s bx d).1,(brV s bx d).2,(brV s bx d).1,w.1,(cnV s bx d).2,())) ?_ ?_
 ·refine Evt.cfalse (by simp) (Evt.bind (qInts_ev (by simp only [lenB];omega)) (Evt.cfalse rfl (Evt.cfalse (by simp) (Evt.cfalse (by simp) (Evt.cfalse (by simp) (Evt.cfalse (by simp) (Evt.cfalse (by simp) (Evt.bind (qInts_ev (by simp only [lenB];omega)) (Evt.cfalse rfl (Evt.cfalse (by simp) (Evt.cfalse (by simp) (Evt.cfalse (by rw [w3];simp) ?_))))))))))))
  refine Evt.ite (fun hk => ?_) (fun _ => .pure)
  obtain⟨D,rfl,hD,hask,hpl,h2,hS,hp,hr,he⟩:=br_form sr hk
  have hff:ffV s bx D=(0,false):=by
   unfold ffV
   rw [if_pos hask,Int.toNat_natCast,if_pos hr]
  have hall:(allV s bx D).2=true:=by
   unfold allV
   rw [if_pos hr]
  obtain⟨j,j1,j2⟩:=find_le (P:=fun D=>(allV s bx D).2) (N:=6) (D:=D) (by omega) hall
  have hld:ldV s bx=((j:Int),true):=by
   unfold ldV
   rw [if_pos hpl,j1]
  rw [hff,hld]
  exact Evt.cfalse rfl (Evt.cfalse rfl (Evt.cfalse (decide_eq_false (by simp only;omega)) .pure))
 refine Evt.ite (fun _ => .pure) (fun hk => ?_)
 have hk:(brV s bx d).2=true:=by simpa using hk
 obtain⟨D,rfl,hD,hask,hpl,h2,hS,hp,hr,he⟩:=br_form sr hk
 obtain⟨v1,v2⟩:=w4 (by rw [w3];exact hk)
 have h5:=pow2N5 hD
 have hlen:((edgesB bx D).map (rsI s)).length=4*2 ^ D:=by rw [List.length_map,edgesB_len]
 obtain⟨o1,o2⟩:=rs_ok hD hr
 rw [he]at v1 v2
 obtain⟨t,t1,t2⟩:=text_told (by omega) o1 o2
 obtain⟨u1,u2⟩:=u64_small hD
 have hcn:(cnV s bx D).2=true:=by
  unfold cnV
  rw [if_pos hask,Int.toNat_natCast]
  exact corners_told h2 hS hp hD hr
 rw [he,hcn]
 refine Evt.bind (check_told sl sr bl hpl hS hp hD hr v2) (Evt.bind (turnsOf_told (by omega) (by omega) o1 v2) (Evt.bind t2 (Evt.cfalse rfl (Evt.cfalse rfl (Evt.cfalse rfl (Evt.cfalse (by simp) (Evt.cfalse rfl (Evt.cfalse (by simp [t1]) (Evt.cfalse u1 (Evt.cfalse ?_ ?_))))))))))
 ·simp only [u2,hlen]
  simp
 refine Evt.ite (fun hd => ?_) (fun _ => .pure)
 have hd:(D:Int)<5:=of_decide_eq_true hd
 have hn:IntKind.wrap .i64 ((D:Int)+1)=((D+1:Nat):Int):=w64_next (by simp only [lenB];omega)
 simp only [hn]
 obtain⟨w',x1,x2,x3,x4⟩:=winding_told (d:=((D+1:Nat):Int)) sl sr bl
 refine Evt.bind x2 (Evt.bind x1 (Evt.cfalse (by simp) (Evt.cfalse (by simp) (Evt.ite (fun hk' => ?_) (fun _ => .pure)))))
 obtain⟨y1,_⟩:=x4 hk'
 rw [x3]at hk'
 obtain⟨D',hDD,_,_,_,_,_,_,hr',he'⟩:=br_form sr hk'
 have hDD:D'=D+1:=by omega
 subst hDD
 rw [he',wind_fine hS hp (by omega) hr hr']at y1
 exact Evt.cfalse (by rw [bne_eq_false_iff_eq];omega) .pure
theorem fnImages_row(a b:List Int)(h:WfT (.sl (.int .u8)) a)(h':WfT (.sl (.int .u8)) b):∃k,laws_FnImages k a b=some true:=fnImages_law a b (bytes_of h) (bytes_of h')
end Go.Ev.G

