/- What the plain functions of the law compute, for all inputs within the sizes that the theorems name. -/
import Derived.Test.YtiglamoomghakaaGreatPCountComplexZeros1
import Derived.Test.YtiglamoomghakaaGreatACountComplexZeros1
set_option linter.unusedVariables false
namespace Go.Ev.G
open Go Go.Ev
set_option maxRecDepth 100000

def tmW(t:Tm):Prop:=(-10000≤t.1∧t.1≤10000)∧(0≤t.2.1∧t.2.1≤4)∧(0≤t.2.2.1∧t.2.2.1≤4)∧(0≤t.2.2.2∧t.2.2.2≤4)
theorem tmGd_W{t:Tm}(h:tmGd t):tmW t:=by
 obtain⟨h1,h2,h3,h4,_⟩:=h
 exact⟨by omega,h2,h3,h4⟩
def sgl(a:Int×Int):Iv:=(a,a)
theorem sgl_iv{a:Int×Int}(h:gd a):ivGd (sgl a):=⟨h,h,Int.le_refl _⟩
def stepO(s:Iv)(e:Nat)(o:Option Iv):Option Iv:=o.bind fun a=>(powO s e).bind fun q=>mulO a q
def partF(t:Tm):Nat→Option Iv→List Iv→Option Iv
 | _,o,[]=>o
 | j,o,s::r=>partF t (j+1) (stepO s (pw t j).toNat o) r
def monO(t:Tm)(sides:List Iv):Option Iv:=partF t 0 (some (sgl (t.1,0))) sides
def accO(p o:Option Iv):Option Iv:=o.bind fun a=>p.bind fun q=>addO a q
def valF(sides:List Iv):Option Iv→List Tm→Option Iv
 | o,[]=>o
 | o,t::r=>valF sides (accO (monO t sides) o) r
def valO(p:List Tm)(sides:List Iv):Option Iv:=valF sides (some zI) p

theorem partF_none{t:Tm}:∀(r:List Iv) (j:Nat),partF t j none r=none
 | [],_=>rfl
 | _::r,j=>partF_none r (j+1)
theorem valF_none{sides:List Iv}:∀(r:List Tm),valF sides none r=none
 | []=>rfl
 | _::r=>valF_none r
theorem partF_iv{t:Tm}:∀(r:List Iv) (j:Nat) (o:Option Iv) (v:Iv),(∀a,o=some a→ivGd a)→partF t j o r=some v→ivGd v
 | [],_,o,v,ho,h=>ho v h
 | s::r,j,o,v,ho,h=>by
  refine partF_iv r (j+1) _ v ?_ h
  intro a ha
  unfold stepO at ha
  obtain⟨x,_,hx⟩:=Option.bind_eq_some_iff.1 ha
  obtain⟨q,_,hq⟩:=Option.bind_eq_some_iff.1 hx
  exact mulO_iv hq
theorem gd_int{n:Int}(h : -10000≤n∧n≤10000):gd (n,0):=⟨Int.le_refl _,by simp,by simp only;omega,by simp only;omega,.inl rfl⟩
theorem monO_iv{t:Tm}{sides:List Iv}{v:Iv}(ht:tmW t)(h:monO t sides=some v):ivGd v :=
 partF_iv sides 0 _ v (fun a ha=>by cases ha;exact sgl_iv (gd_int ht.1)) h
theorem valF_iv{sides:List Iv}:∀(r:List Tm) (o:Option Iv) (v:Iv),(∀t∈r,tmW t)→(∀a,o=some a→ivGd a)→valF sides o r=some v→ivGd v
 | [],o,v,_,ho,h=>ho v h
 | t::r,o,v,ht,ho,h=>by
  refine valF_iv r _ v (fun x hx=>ht x (by simp [hx])) ?_ h
  intro a ha
  unfold accO at ha
  obtain⟨x,hx0,hx⟩:=Option.bind_eq_some_iff.1 ha
  obtain⟨q,hq0,hq⟩:=Option.bind_eq_some_iff.1 hx
  exact addO_iv (ho x hx0) (monO_iv (ht t (by simp)) hq0) hq
theorem zI_iv:ivGd zI:=⟨by decide,by decide,Int.le_refl _⟩
theorem valO_iv{p:List Tm}{sides:List Iv}{v:Iv}(ht:∀t∈p,tmW t)(h:valO p sides=some v):ivGd v:=valF_iv p _ v ht (fun a ha=>by cases ha;exact zI_iv) h
theorem pw_nat{t:Tm}(ht:tmW t)(j:Nat):∃e:Nat,pw t j=e∧e≤4:=by
 obtain⟨_,h2,h3,h4⟩:=ht
 unfold pw
 split
 ·exact⟨t.2.1.toNat,by omega,by omega⟩
 ·split
  ·exact⟨t.2.2.1.toNat,by omega,by omega⟩
  ·exact⟨t.2.2.2.toNat,by omega,by omega⟩

theorem vaOver_inner{t:Tm}{sides:List Iv}(ht:tmW t)(hs:∀s∈sides,ivGd s)(hb:sides.length<lenB)(x1:List Iv)(x4 x6:Iv)(x20:List Tm)(x21 x22:Int) :
  ∀(r d:List Iv) (o:Iv),d++r=sides→gdI o→Evt (fun k n=>spec_vaOver_L59802 k n x1 x4 x6 t o x20 x21 x22 sides (sides.length:Int) d.length) (match partF t d.length (some o) r with | some v => .inr (x1,x4,x6,v,x20,x21,x22,()) | none => .inl (zI,false))
 | [],d,o,hd,ho=>by
  rw [List.append_nil]at hd
  subst hd
  refine Evt.step (fun k n=>spec_vaOver_L59802.eq_2 k _ _ _ _ _ _ _ _ _ _ _ n) (Evt.rng0 .pure)
 | s::r,d,o,hd,ho=>by
  refine Evt.step (fun k n=>spec_vaOver_L59802.eq_2 k _ _ _ _ _ _ _ _ _ _ _ n) ?_
  have gs:ivGd s:=hs s (by rw [←hd];simp)
  obtain⟨e,he,he4⟩:=pw_nat ht d.length
  rw [←hd]
  refine Evt.ctrue mid_lt (Evt.ctrue mid_ge (Evt.ctrue mid_lt ?_))
  rw [mid_get]
  refine Evt.bind (.const (poPower_eq t d.length)) ?_
  rw [he]
  refine Evt.bind (ivPower_ev gs he4) ?_
  have es:partF t d.length (some o) (s::r)=partF t (d.length+1) (stepO s e (some o)) r:=by rw [partF,he];rfl
  rw [es]
  unfold stepO
  rw [Option.bind_some]
  cases hp:powO s e with
  | none =>
   rw [Option.bind_none,partF_none]
   exact Evt.ctrue rfl .pure
  | some q =>
   refine Evt.cfalse rfl ?_
   rw [Option.bind_some]
   have hmul:=ivMul_ev ho (powO_gd hp)
   cases hm:mulO o q with
   | none =>
    rw [hm]at hmul
    rw [partF_none]
    exact Evt.bind hmul (Evt.ctrue rfl .pure)
   | some v =>
    rw [hm]at hmul
    refine Evt.bind hmul (Evt.cfalse rfl ?_)
    have ih:=vaOver_inner ht hs hb x1 x4 x6 x20 x21 x22 r (d ++ [s]) v (by simpa using hd) (mulO_gd hm)
    rw [←hd]at ih
    rw [len_next (by rw [hd];exact hb)]
    simpa using ih
theorem vaOver_ev{p:List Tm}{sides:List Iv}(ht:∀t∈p,tmW t)(hs:∀s∈sides,ivGd s)(hb:sides.length<lenB)(hp:p.length<lenB):Evt (fun k _=>spec_vaOver k p sides) (oI (valO p sides)):=by
 refine Evt.eq (f:=fun k q=>_) ?_ (fun k q=>by rw [spec_vaOver])
 refine Evt.bind (.const rfl) (Evt.bind (.const rfl) ?_)
 have key:∀(r d:List Tm) (o:Iv),d++r=p→gdI o→Evt (fun k n=>spec_vaOver_L58 k n sides zI o p (p.length:Int) d.length) (match valF sides (some o) r with | some v => .inr (zI,v,()) | none => .inl (zI,false)):=by
  intro r
  induction r with
  | nil =>
   intro d o hd ho
   rw [List.append_nil]at hd
   subst hd
   exact Evt.step (fun k n=>spec_vaOver_L58.eq_2 k _ _ _ _ _ _ n) (Evt.rng0 .pure)
  | cons t r ih =>
   intro d o hd ho
   refine Evt.step (fun k n=>spec_vaOver_L58.eq_2 k _ _ _ _ _ _ n) ?_
   have gt:=ht t (by rw [←hd];simp)
   rw [←hd]
   refine Evt.ctrue mid_lt (Evt.ctrue mid_ge (Evt.ctrue mid_lt ?_))
   rw [mid_get]
   refine Evt.bind (.const rfl) (Evt.bind (.const rfl) ?_)
   have hin:=vaOver_inner gt hs hb sides zI o (d++t::r) ((d++t::r).length:Int) (d.length:Int) sides [] (sgl (t.1,0)) rfl ⟨gd_int gt.1,gd_int gt.1⟩
   simp only [List.length_nil]at hin
   have es:valF sides (some o) (t::r)=valF sides (accO (monO t sides) (some o)) r:=rfl
   rw [es]
   unfold accO
   rw [Option.bind_some]
   have em:partF t 0 (some (sgl (t.1,0))) sides=monO t sides:=rfl
   rw [em]at hin
   cases hm:monO t sides with
   | none =>
    rw [hm]at hin
    rw [Option.bind_none,valF_none]
    exact Evt.inl (Evt.diag hin) .pure
   | some q =>
    rw [hm]at hin
    rw [Option.bind_some]
    refine Evt.inr (Evt.diag hin) ?_
    have gq:=monO_iv gt hm
    refine Evt.bind (ivAdd_ev ho ⟨gq.1,gq.2.1⟩) ?_
    cases ha:addO o q with
    | none =>
     rw [valF_none]
     exact Evt.ctrue rfl .pure
    | some v =>
     refine Evt.cfalse rfl ?_
     have ih:=ih (d ++ [t]) v (by simpa using hd) (addO_gd ha)
     rw [←hd]at ih
     simp only
     rw [len_next (by rw [hd];exact hp)]
     exact ih
 have hk:=key p [] zI rfl zI_gd
 simp only [List.length_nil]at hk
 unfold valO
 cases hv:valF sides (some zI) p with
 | none=>rw [hv]at hk;exact Evt.inl (Evt.diag hk) .pure
 | some v=>rw [hv]at hk;exact Evt.inr (Evt.diag hk) .pure

theorem step_flag{b c:Bool}{o:Option Iv}{s v v1:Iv}{e:Nat}(hc:c=(b&&o.isSome))(ho:c=true→o=some v)(h1:c=true→(powO s e).isSome=true→powO s e=some v1) :
  ((c&&(powO s e).isSome)&&(mulO v v1).isSome)=(b&&(stepO s e o).isSome):=by
 cases hcc:c with
 | false =>
  rw [hcc]at hc
  cases b with
  | false=>rfl
  | true =>
   cases o with
   | none=>rfl
   | some _=>cases hc
 | true =>
  have h2:=ho hcc
  subst h2
  have hb:b=true:=by rw [hcc]at hc;cases b with | false=>cases hc | true=>rfl
  rw [hb]
  unfold stepO
  rw [Option.bind_some]
  cases hp:powO s e with
  | none=>rfl
  | some q =>
   have:=h1 hcc (by rw [hp];rfl)
   rw [hp]at this
   cases this
   rw [Option.bind_some]
   rfl
theorem step_val{b c:Bool}{o:Option Iv}{s v v1 v2:Iv}{e:Nat}(ho:c=true→o=some v)(h1:c=true→(powO s e).isSome=true→powO s e=some v1)
  (h2:(c&&(powO s e).isSome)=true→(mulO v v1).isSome=true→mulO v v1=some v2) (h:((c&&(powO s e).isSome)&&(mulO v v1).isSome)=true):stepO s e o=some v2:=by
 rw [Bool.and_eq_true,Bool.and_eq_true]at h
 have q1:=ho h.1.1
 have q2:=h1 h.1.1 h.1.2
 have q3:=h2 (by rw [h.1.1,h.1.2];rfl) h.2
 rw [q1]
 unfold stepO
 rw [Option.bind_some,q2,Option.bind_some,q3]
theorem valueOver_inner{b:Bool}{t:Tm}{sides:List Iv}(ht:tmW t)(hs:∀s∈sides,ivGd s)(hb:sides.length≤3)(x1:List Iv)(x4 x7:Iv)(x16:List Tm)(x17 x18:Int) :
  ∀(r d:List Iv) (c:Bool) (v:Iv) (o:Option Iv),d++r=sides→gdI v→c=(b&&o.isSome)→(c=true→o=some v) →
   ∃v',gdI v'∧((b&&(partF t d.length o r).isSome)=true→partF t d.length o r=some v')∧Evt (fun k n=>impl_valueOver_L125338 k n x1 x4 c x7 t v x16 x17 x18 sides (sides.length:Int) d.length) (.inr (x1,x4,b&&(partF t d.length o r).isSome,x7,v',x16,x17,x18,()))
 | [],d,c,v,o,hd,gv,hc,ho=>by
  rw [List.append_nil]at hd
  subst hd
  refine⟨v,gv,fun h=>ho (by rw [hc];exact h),Evt.step (fun k n=>impl_valueOver_L125338.eq_2 k _ _ _ _ _ _ _ _ _ _ _ _ n) (Evt.rng0 ?_)⟩
  rw [hc]
  exact .pure
 | s::r,d,c,v,o,hd,gv,hc,ho=>by
  have gs:ivGd s:=hs s (by rw [←hd];simp)
  have hl:d.length≤2:=by
   have:=congrArg List.length hd
   simp at this;omega
  obtain⟨e,he,he4⟩:=pw_nat ht d.length
  obtain⟨v1,g1,q1,e1⟩:=power_ev (b:=c) gs he4
  obtain⟨v2,g2,q2,e2⟩:=multiply_ev (b:=(c&&(powO s e).isSome)) gv g1
  have es:partF t d.length o (s::r)=partF t (d.length+1) (stepO s e o) r:=by rw [partF,he];rfl
  have hf:=step_flag (s:=s) (v1:=v1) (e:=e) hc ho q1
  obtain⟨v',g',hv',hl'⟩:=valueOver_inner ht hs hb x1 x4 x7 x16 x17 x18 r (d ++ [s]) ((c&&(powO s e).isSome)&&(mulO v v1).isSome) v2 (stepO s e o) (by simpa using hd) g2 hf (step_val (b:=b) ho q1 q2)
  rw [show(d ++ [s]).length=d.length+1 by simp]at hv' hl'
  rw [es]
  refine⟨v',g',hv',Evt.step (fun k n=>impl_valueOver_L125338.eq_2 k _ _ _ _ _ _ _ _ _ _ _ _ n) ?_⟩
  rw [←hd]at hl' ⊢
  refine Evt.ctrue mid_lt (Evt.ctrue mid_ge (Evt.ctrue mid_lt ?_))
  rw [mid_get,len_next (by rw [hd];simp only [lenB];omega),show(d ++ [s]).length=d.length+1 by simp]
  refine Evt.bind (.const rfl) ?_
  have hj:d.length=0∨d.length=1∨d.length=2:=by omega
  rcases hj with hj | hj | hj
  ·have hpw:t.2.1=(e:Int):=by rw [←he,hj];rfl
   refine Evt.ctrue (by rw [hj];rfl) ?_
   simp only [hpw]
   exact Evt.bind e1 (Evt.bind e2 hl')
  ·have hpw:t.2.2.1=(e:Int):=by rw [←he,hj];rfl
   refine Evt.cfalse (by rw [hj];rfl) (Evt.ctrue (by rw [hj];rfl) ?_)
   simp only [hpw]
   exact Evt.bind e1 (Evt.bind e2 hl')
  ·have hpw:t.2.2.2=(e:Int):=by rw [←he,hj];rfl
   refine Evt.cfalse (by rw [hj];rfl) (Evt.cfalse (by rw [hj];rfl) (Evt.ctrue (by rw [hj];rfl) ?_))
   simp only [hpw]
   exact Evt.bind e1 (Evt.bind e2 hl')
theorem valueOver_ev{p:List Tm}{sides:List Iv}(ht:∀t∈p,tmW t)(hs:∀s∈sides,ivGd s)(hb:sides.length≤3)(hp:p.length<lenB):Evt (fun k _=>impl_valueOver k p sides) (oI (valO p sides)):=by
 refine Evt.eq (f:=fun k q=>_) ?_ (fun k q=>by rw [impl_valueOver])
 have key:∀(r d:List Tm) (c:Bool) (v:Iv) (o:Option Iv),d++r=p→gdI v→c=o.isSome→(c=true→o=some v) →
   ∃v',((valF sides o r).isSome=true→valF sides o r=some v')∧Evt (fun k n=>impl_valueOver_L122 k n sides zI c v p (p.length:Int) d.length) (.inr (zI,(valF sides o r).isSome,v',())):=by
  intro r
  induction r with
  | nil =>
   intro d c v o hd gv hc ho
   rw [List.append_nil]at hd
   subst hd
   refine⟨v,fun h=>ho (by rw [hc];exact h),Evt.step (fun k n=>impl_valueOver_L122.eq_2 k _ _ _ _ _ _ _ n) (Evt.rng0 ?_)⟩
   rw [hc]
   exact .pure
  | cons t r ih =>
   intro d c v o hd gv hc ho
   have gt:=ht t (by rw [←hd];simp)
   obtain⟨q,gq,hq,hin⟩:=valueOver_inner (b:=c) gt hs hb sides zI v (d++t::r) ((d++t::r).length:Int) (d.length:Int) sides [] c (sgl (t.1,0)) (some (sgl (t.1,0))) rfl ⟨gd_int gt.1,gd_int gt.1⟩ (by simp) (fun _=>rfl)
   simp only [List.length_nil]at hq hin
   have em:partF t 0 (some (sgl (t.1,0))) sides=monO t sides:=rfl
   rw [em]at hq hin
   obtain⟨w,gw,hw,ha⟩:=addI_ev (b:=(c&&(monO t sides).isSome)) gv gq
   have hf:((c&&(monO t sides).isSome)&&(addO v q).isSome)=(accO (monO t sides) o).isSome:=by
    cases hcc:c with
    | false =>
     rw [hcc]at hc
     cases o with
     | none=>rfl
     | some _=>cases hc
    | true =>
     have h2:=ho hcc
     subst h2
     unfold accO
     rw [Option.bind_some]
     cases hm:monO t sides with
     | none=>rfl
     | some q' =>
      have:=hq (by rw [hcc,hm];rfl)
      rw [hm]at this
      cases this
      rfl
   obtain⟨v',hv',hl'⟩:=ih (d ++ [t]) ((c&&(monO t sides).isSome)&&(addO v q).isSome) w (accO (monO t sides) o) (by simpa using hd) gw hf (by
    intro h
    rw [Bool.and_eq_true]at h
    have h1:=h.1
    rw [Bool.and_eq_true]at h1
    rw [ho h1.1,hq h.1]
    exact hw h.1 h.2)
   have es:valF sides o (t::r)=valF sides (accO (monO t sides) o) r:=rfl
   rw [es]
   refine⟨v',hv',Evt.step (fun k n=>impl_valueOver_L122.eq_2 k _ _ _ _ _ _ _ n) ?_⟩
   rw [←hd]at hl' ⊢
   refine Evt.ctrue mid_lt (Evt.ctrue mid_ge (Evt.ctrue mid_lt ?_))
   rw [mid_get]
   refine Evt.bind (.const rfl) (Evt.bind (.const rfl) (Evt.inr (Evt.diag hin) (Evt.bind ha ?_)))
   simp only
   rw [len_next (by rw [hd];exact hp)]
   exact hl'
 obtain⟨v',hv',hl'⟩:=key p [] true zI (some zI) rfl zI_gd rfl (fun _=>rfl)
 simp only [List.length_nil]at hl'
 refine Evt.inr (Evt.diag hl') ?_
 unfold impl_reckoner_result valO
 cases hv:(valF sides (some zI) p).isSome with
 | true =>
  rw [hv' hv]
  exact Evt.bind (.const rfl) .pure
 | false =>
  have:valF sides (some zI) p=none:=by simpa using hv
  rw [this]
  exact Evt.bind (.const rfl) .pure
end Go.Ev.G

namespace Go.Ev.G
open Go Go.Ev
set_option maxRecDepth 100000

theorem find_loop{R:Type}{L:Nat→Nat→Int→Option (R ⊕ Unit)}{p:Nat→Int→Option Bool}{out:Nat→R}{N:Nat}{P:Nat→Bool}(hN:N≤1000)
  (hp:∀j:Nat,j<N→Evt (fun k _=>p k j) (P j))
  (hL:∀(k n i:Nat),i<N→L k (n+1) i=Option.bind (p k i) fun r=>bif r then some (.inl (out i))else L k n (IntKind.wrap .i64 ((i:Int)+1)))
  (hE:∀k n,L k (n+1) N=some (.inr ())):Evt (fun k n=>L k n 0) (match (List.range N).find? P with | some j => .inl (out j) | none => .inr ()):=by
 have key:∀(m j:Nat),j+m=N→Evt (fun k n=>L k n j) (match (List.range' j m).find? P with | some j => .inl (out j) | none => .inr ()):=by
  intro m
  induction m with
  | zero =>
   intro j hj
   have:j=N:=by omega
   subst this
   exact Evt.step (F:=fun _ _=>some (.inr ())) hE .pure
  | succ m ih =>
   intro j hj
   refine Evt.step (fun k n=>hL k n j (by omega)) ?_
   refine Evt.bind (hp j (by omega)) ?_
   rw [List.range'_succ,List.find?_cons]
   cases P j with
   | true=>exact Evt.ctrue rfl .pure
   | false =>
    refine Evt.cfalse rfl ?_
    rw [w64_next (by simp only [lenB];omega)]
    exact ih (j+1) (by omega)
 have:=key N 0 (by omega)
 rw [List.range_eq_range']
 exact this

def hV(m:Nat)(s:List (List Tm))(sides:List Iv)(r:Nat):Bool:=match valO (s.getD (r % m) []) sides with
 | some v=>sgI v==(if r<m then 1 else -1)
 | none=>false
structure Sd(s:List (List Tm))(sides:List Iv):Prop where
 sd:∀i∈sides,ivGd i
 ln:sides.length≤3
 tm:∀p∈s,∀t∈p,tmW t
 lp:∀p∈s,p.length<lenB
theorem getD_in{α:Type}{l:List α}{j:Nat}{z:α}(h:j<l.length):l.getD j z∈l:=by
 rw [List.getD_eq_getElem?_getD,List.getElem?_eq_getElem h]
 exact List.getElem_mem h
theorem beq_tail{m:Nat}{s:List (List Tm)}{sides:List Iv}{r:Nat}{v:Iv}(h:valO (s.getD (r % m) []) sides=some v){x:Int}(hx:x=if r<m then 1 else -1):hV m s sides r=(sgI v==x):=by
 unfold hV
 rw [h,hx]
theorem imHolds_ev{s:List (List Tm)}{sides:List Iv}(h:Sd s sides)(hl:s.length=2){r:Nat}(hr:r<4):Evt (fun k _=>spec_imHolds k s sides r) (hV 2 s sides r):=by
 refine Evt.eq (f:=fun k q=>_) ?_ (fun k q=>by rw [spec_imHolds])
 have e:Int.tmod (r:Int) 2=((r % 2:Nat):Int):=rfl
 rw [e]
 have hm:s.getD (r % 2) []∈s:=getD_in (by omega)
 refine Evt.ctrue (decide_eq_true (by omega)) (Evt.ctrue (decide_eq_true (by omega)) ?_)
 simp only [Int.toNat_natCast]
 refine Evt.bind (vaOver_ev (h.tm _ hm) h.sd (by have:=h.ln;simp only [lenB];omega) (h.lp _ hm)) ?_
 cases hv:valO (s.getD (r % 2) []) sides with
 | none =>
  have:hV 2 s sides r=false:=by unfold hV;rw [hv]
  rw [this]
  exact Evt.cfalse rfl .pure
 | some v =>
  refine Evt.ctrue rfl (Evt.bind (.const (ivSign_eq (valO_iv (h.tm _ hm) hv))) ?_)
  rw [beq_tail hv (x:=IntKind.wrap .i64 (1 - (IntKind.wrap .i64 (2*(IntKind.wrap .i64 (Int.tdiv (r:Int) 2)))))) (by
   have:r=0∨r=1∨r=2∨r=3:=by omega
   rcases this with rfl | rfl | rfl | rfl <;> decide)]
  exact .pure
theorem imReason_ev{s:List (List Tm)}{sides:List Iv}(h:Sd s sides)(hl:s.length=2):Evt (fun k _=>spec_imReason k s sides) (match (List.range 4).find? (hV 2 s sides)with | some j=>((j:Int),true) | none=>(0,false)):=by
 refine Evt.eq (f:=fun k q=>_) ?_ (fun k q=>by rw [spec_imReason])
 have:=find_loop (L:=fun k n i=>spec_imReason_L26 k n s sides i) (p:=fun k i=>spec_imHolds k s sides i) (out:=fun j=>((j:Int),true)) (N:=4) (P:=hV 2 s sides) (by omega) (fun j hj=>imHolds_ev h hl hj)
  (fun k n i hi=>by rw [spec_imReason_L26.eq_2,decide_eq_true (by omega)];rfl) (fun k n=>by rw [spec_imReason_L26.eq_2];rfl)
 cases hf:(List.range 4).find? (hV 2 s sides)with
 | none=>rw [hf]at this;exact Evt.inr (Evt.diag this) .pure
 | some j=>rw [hf]at this;exact Evt.inl (Evt.diag this) .pure

abbrev Ed:=Int×(Int×Int)×(Int×Int)×Int×Int
def sidesE(e:Ed):List Iv:=if e.1=0 then [sgl e.2.1,(minD e.2.2.1 e.2.2.2,maxD e.2.2.1 e.2.2.2)]else [(minD e.2.2.1 e.2.2.2,maxD e.2.2.1 e.2.2.2),sgl e.2.1]
structure EdOk(e:Ed):Prop where
 sd:e.1=0∨e.1=1
 a:gd e.2.1
 f:gd e.2.2.1
 t:gd e.2.2.2
theorem along_iv{a b:Int×Int}(ha:gd a)(hb:gd b):ivGd (minD a b,maxD a b):=⟨minD_gd ha hb,maxD_gd ha hb,by simp only [minD_sv,maxD_sv];omega⟩
theorem EdOk.sides{e:Ed}(h:EdOk e):∀i∈sidesE e,ivGd i:=by
 intro i hi
 have q:=along_iv h.f h.t
 have r:=sgl_iv h.a
 unfold sidesE at hi
 split at hi <;> (simp only [List.mem_cons,List.not_mem_nil,or_false]at hi;rcases hi with rfl | rfl <;> assumption)
theorem EdOk.len(e:Ed):(sidesE e).length=2:=by unfold sidesE;split <;> rfl
theorem Sd.edge{s:List (List Tm)}(h1:∀p∈s,∀t∈p,tmW t)(h2:∀p∈s,p.length<lenB){e:Ed}(h:EdOk e):Sd s (sidesE e):=⟨h.sides,by rw [EdOk.len];omega,h1,h2⟩
theorem imSides_ev{e:Ed}(h:EdOk e):Evt (fun k _=>spec_imSides k e) (sidesE e):=by
 refine Evt.eq (f:=fun k q=>_) ?_ (fun k q=>by rw [spec_imSides])
 have gf:=h.f
 have gt:=h.t
 refine Evt.bind (ivEnds_ev (x:=e.2.2.1) (xs := [e.2.2.2]) (by simp [gf,gt]) (by simp [lenB])) ?_
 have m1:∀l:Int×Int,minD l l=l:=fun l=>by unfold minD;split <;> rfl
 have m2:∀l:Int×Int,maxD l l=l:=fun l=>by unfold maxD;split <;> rfl
 have ends:foldE (e.2.2.1,e.2.2.1) [e.2.2.1,e.2.2.2]=(minD e.2.2.1 e.2.2.2,maxD e.2.2.1 e.2.2.2):=by simp only [foldE,m1,m2]
 rw [ends]
 unfold sidesE
 by_cases h0:e.1=0
 ·rw [if_pos h0]
  exact Evt.ctrue (by rw [h0];rfl) (Evt.bind (.const rfl) .pure)
 ·rw [if_neg h0]
  exact Evt.cfalse (by simpa using h0) (Evt.bind (.const rfl) .pure)
theorem edgeHolds_ev{s:List (List Tm)}{e:Ed}(h:Sd s (sidesE e))(he:EdOk e)(hl:s.length=2){r:Nat}(hr:r<4):Evt (fun k _=>impl_edgeHolds k s e r) (hV 2 s (sidesE e) r):=by
 refine Evt.eq (f:=fun k q=>_) ?_ (fun k q=>by rw [impl_edgeHolds])
 refine Evt.bind (.const rfl) (Evt.bind (lesser_ev he.f he.t) (Evt.bind (greater_ev2 he.f he.t) ?_))
 refine Evt.inr (y:=(s,(r:Int),sidesE e,())) ?_ ?_
 ·unfold sidesE
  rcases he.sd with h0 | h1
  ·rw [if_pos h0]
   exact Evt.cfalse (by rw [h0];rfl) .pure
  ·rw [if_neg (by omega)]
   exact Evt.ctrue (by rw [h1];rfl) (Evt.ctrue rfl (Evt.ctrue rfl (Evt.ctrue rfl (Evt.ctrue rfl .pure))))
 ·have em:Int.tmod (r:Int) 2=((r % 2:Nat):Int):=rfl
  simp only [em]
  have hm:s.getD (r % 2) []∈s:=getD_in (by omega)
  refine Evt.ctrue (decide_eq_true (by omega)) (Evt.ctrue (decide_eq_true (by omega)) ?_)
  simp only [Int.toNat_natCast]
  refine Evt.bind (valueOver_ev (h.tm _ hm) h.sd h.ln (h.lp _ hm)) ?_
  cases hv:valO (s.getD (r % 2) []) (sidesE e)with
  | none =>
   have:hV 2 s (sidesE e) r=false:=by unfold hV;rw [hv]
   rw [this]
   exact Evt.cfalse rfl .pure
  | some v =>
   refine Evt.ctrue rfl (Evt.bind (.const (signOf_eq v)) ?_)
   rw [beq_tail hv (x:=IntKind.wrap .i64 (1 - (IntKind.wrap .i64 ((IntKind.wrap .i64 (Int.tdiv (r:Int) 2))*2)))) (by
    have:r=0∨r=1∨r=2∨r=3:=by omega
    rcases this with rfl | rfl | rfl | rfl <;> decide)]
   exact .pure
def rsn(s:List (List Tm))(e:Ed):Option Nat:=(List.range 4).find? (hV 2 s (sidesE e))
theorem edgeReason_ev{s:List (List Tm)}{e:Ed}(h:Sd s (sidesE e))(he:EdOk e)(hl:s.length=2):Evt (fun k _=>impl_edgeReason k s e) (match rsn s e with | some j=>(j:Int) | none => -1):=by
 refine Evt.eq (f:=fun k q=>_) ?_ (fun k q=>by rw [impl_edgeReason])
 have:=find_loop (L:=fun k n i=>impl_edgeReason_L26 k n s e i) (p:=fun k i=>impl_edgeHolds k s e i) (out:=fun j=>(j:Int)) (N:=4) (P:=hV 2 s (sidesE e)) (by omega) (fun j hj=>edgeHolds_ev h he hl hj)
  (fun k n i hi=>by rw [impl_edgeReason_L26.eq_2,decide_eq_true (by omega)];rfl) (fun k n=>by rw [impl_edgeReason_L26.eq_2];rfl)
 unfold rsn
 cases hf:(List.range 4).find? (hV 2 s (sidesE e))with
 | none=>rw [hf]at this;exact Evt.inr (Evt.diag this) .pure
 | some j=>rw [hf]at this;exact Evt.inl (Evt.diag this) .pure
theorem imReason_ev2{s:List (List Tm)}{e:Ed}(h:Sd s (sidesE e))(hl:s.length=2):Evt (fun k _=>spec_imReason k s (sidesE e)) (match rsn s e with | some j=>((j:Int),true) | none=>(0,false)):=imReason_ev h hl

def twoV(m:List (List Tm)):Bool:=sysV m&&((m.length:Int)==2)
theorem isTwo_ev{m:List (List Tm)}(hb:m.length<lenB)(hm:∀r∈m,r.length<lenB):Evt (fun k _=>impl_isTwo k m) (twoV m):=by
 refine Evt.eq (f:=fun k q=>_) ?_ (fun k q=>by rw [impl_isTwo])
 unfold twoV
 cases h:((m.length:Int)==2)with
 | false=>rw [Bool.and_false];exact Evt.cfalse rfl .pure
 | true=>rw [Bool.and_true];exact Evt.ctrue rfl (Evt.bind (isSystem_ev hb hm) .pure)
theorem sysV_tm{m:List (List Tm)}(h:sysV m=true):∀p∈m,∀t∈p,tmW t:=by
 unfold sysV at h
 rw [Bool.and_eq_true,List.all_eq_true]at h
 intro p hp t ht
 have:=h.1 p hp
 rw [Bool.and_eq_true]at this
 exact tmGd_W (polyV_gd this.1 t ht)
theorem twoV_len{m:List (List Tm)}(h:twoV m=true):sysV m=true∧m.length=2:=by
 unfold twoV at h
 rw [Bool.and_eq_true]at h
 refine⟨h.1,?_⟩
 have:=h.2
 simp at this
 omega
end Go.Ev.G

namespace Go.Ev.G
open Go Go.Ev
set_option maxRecDepth 100000

abbrev Bx:=Int×List Int×List Int
def plV(b:Bx):Bool:=bxV b&&(((b.2.1.length:Int)==2)&&decide (b.1≤3))
theorem imBox_ev{b:Bx}(hb:b.2.1.length<lenB):Evt (fun k _=>spec_imBox k b) (plV b):=by
 refine Evt.eq (f:=fun k q=>_) ?_ (fun k q=>by rw [spec_imBox])
 refine Evt.bind (bxGood_ev hb) ?_
 unfold plV
 cases bxV b with
 | false=>exact Evt.cfalse rfl .pure
 | true =>
  refine Evt.ctrue rfl ?_
  cases ((b.2.1.length:Int)==2)with
  | false=>exact Evt.cfalse rfl .pure
  | true=>exact Evt.ctrue rfl .pure
theorem isPlaneBox_ev{b:Bx}(hb:b.2.1.length<lenB):Evt (fun k _=>impl_isPlaneBox k b) (plV b):=by
 refine Evt.eq (f:=fun k q=>_) ?_ (fun k q=>by rw [impl_isPlaneBox])
 refine Evt.bind (isBox_ev hb) ?_
 unfold plV
 cases bxV b with
 | false=>exact Evt.cfalse rfl .pure
 | true =>
  refine Evt.ctrue rfl ?_
  cases ((b.2.1.length:Int)==2)with
  | false=>exact Evt.cfalse rfl .pure
  | true=>exact Evt.ctrue rfl .pure
def planeV(m:List (List Tm))(b:Bx):Bool:=twoV m&&plV b
theorem imGood_ev{m:List (List Tm)}{b:Bx}(hb:m.length<lenB)(hm:∀r∈m,r.length<lenB)(hx:b.2.1.length<lenB):Evt (fun k _=>spec_imGood k m b) (planeV m b):=by
 refine Evt.eq (f:=fun k q=>_) ?_ (fun k q=>by rw [spec_imGood])
 refine Evt.bind (poSystem_ev hb hm) ?_
 unfold planeV twoV
 cases sysV m with
 | false=>exact Evt.cfalse rfl .pure
 | true =>
  refine Evt.ctrue rfl ?_
  cases ((m.length:Int)==2)with
  | false=>exact Evt.cfalse rfl .pure
  | true=>exact Evt.ctrue rfl (Evt.bind (imBox_ev hx) .pure)
theorem isPlane_ev{m:List (List Tm)}{b:Bx}(hb:m.length<lenB)(hm:∀r∈m,r.length<lenB)(hx:b.2.1.length<lenB):Evt (fun k _=>impl_isPlane k m b) (planeV m b):=by
 refine Evt.eq (f:=fun k q=>_) ?_ (fun k q=>by rw [impl_isPlane])
 refine Evt.bind (isTwo_ev hb hm) ?_
 unfold planeV
 cases twoV m with
 | false=>exact Evt.cfalse rfl .pure
 | true=>exact Evt.ctrue rfl (Evt.bind (isPlaneBox_ev hx) .pure)
theorem plV_form{b:Bx}(h:plV b=true):∃(m:Nat) (l0 l1 h0 h1:Int),b=((m:Int),[l0,l1],[h0,h1])∧m≤3∧(-64≤l0∧l0<h0∧h0≤64)∧(-64≤l1∧l1<h1∧h1≤64):=by
 obtain⟨d8,los,his⟩:=b
 unfold plV bxV at h
 simp only [Bool.and_eq_true,decide_eq_true_eq,beq_iff_eq]at h
 obtain⟨⟨g1,g2,g3,g4,_⟩,g5,g6⟩:=h
 match los,his,g3,g5,g4 with
 | [l0,l1],[h0,h1],_,_,g4 =>
  refine⟨d8.toNat,l0,l1,h0,h1,by rw [Int.toNat_of_nonneg g1.1],by omega,?_⟩
  have hp:(8:Int)*2 ^ d8.toNat≤64:=by
   have h1:(2:Nat) ^ d8.toNat≤2 ^ 3:=Nat.pow_le_pow_right (by omega) (by omega)
   have h2:((2:Int) ^ d8.toNat)=((2 ^ d8.toNat:Nat):Int):=by simp
   rw [h2]
   have:(2:Nat) ^ 3=8:=by decide
   omega
  generalize (8:Int)*2 ^ d8.toNat=L at hp g4
  simp only [List.zip_cons_cons,List.zip_nil_left,List.all_cons,List.all_nil,Bool.and_true,Bool.and_eq_true,sideOk,decide_eq_true_eq]at g4
  omega

theorem strip_scale(k:Nat)(n:Int):∀D:Nat,strip (k+D) (n*2 ^ D)=strip k n
 | 0=>by simp
 | D+1=>by
  have e:n*2 ^ (D+1)=(n*2 ^ D)*2:=by rw [Int.pow_succ,Int.mul_assoc]
  rw [e,←Nat.add_assoc,strip,if_pos (by omega),Int.mul_ediv_cancel _ (by decide)]
  exact strip_scale k n D
theorem mkD_scale(k D:Nat)(n:Int):mkD (n*2 ^ D) (k+D)=mkD n k:=by
 unfold mkD
 rw [strip_scale]
theorem pow5{m:Nat}(h:m≤5):(1:Int)≤2 ^ m∧(2:Int) ^ m≤32:=by
 rcases(by omega:m=0∨m=1∨m=2∨m=3∨m=4∨m=5)with rfl | rfl | rfl | rfl | rfl | rfl <;> decide
def numV(m D:Nat)(l h x:Int):Int×Int:=(mkD (l*2 ^ D+x*(h - l)) (m+D)).1
theorem numV_gd(m D:Nat)(l h x:Int):gd (numV m D l h x):=mkD_gd _ _
theorem mul_range{a b A B:Int}(h1 : -A≤a)(h2:a≤A)(h3:0≤b)(h4:b≤B)(hA:0≤A) : -(A*B)≤a*b∧a*b≤A*B:=by
 have e1:a*b≤A*b:=Int.mul_le_mul_of_nonneg_right h2 h3
 have e2:A*b≤A*B:=Int.mul_le_mul_of_nonneg_left h4 hA
 have e3 : -A*b≤a*b:=Int.mul_le_mul_of_nonneg_right h1 h3
 rw [Int.neg_mul]at e3
 omega
theorem side_range{l h x:Int}{D:Nat}(hl : -64≤l∧l<h∧h≤64)(hD:D≤5)(hx:0≤x∧x≤64):(-2048≤l*2 ^ D∧l*2 ^ D≤2048)∧(-2048≤h*2 ^ D∧h*2 ^ D≤2048)∧(0≤x*(h - l)∧x*(h - l)≤8192):=by
 have hp:=pow5 hD
 have a:=mul_range (a:=l) (b:=2 ^ D) (A:=64) (B:=32) (by omega) (by omega) (by omega) (by omega) (by omega)
 have b:=mul_range (a:=h) (b:=2 ^ D) (A:=64) (B:=32) (by omega) (by omega) (by omega) (by omega) (by omega)
 have c:=mul_range (a:=x) (b:=h - l) (A:=64) (B:=128) (by omega) (by omega) (by omega) (by omega) (by omega)
 have d:0≤x*(h - l):=Int.mul_nonneg hx.1 (by omega)
 omega
theorem edges1_ev{m D:Nat}{b:Bx}{j:Nat}{l h x:Int}(hb1:b.1=m)(hj:j<b.2.1.length)(hj2:j<b.2.2.length)(e1:b.2.1.getD j 0=l)(e2:b.2.2.getD j 0=h)(hl : -64≤l∧l<h∧h≤64)(hm:m≤3)(hD:D≤5)(hx:0≤x∧x≤64) :
  Evt (fun k _=>impl_boundaryEdges_1 k j x b (2 ^ D) D) (numV m D l h x):=by
 have hr:=side_range hl hD hx
 refine Evt.eq (f:=fun k q=>_) ?_ (fun k q=>by rw [impl_boundaryEdges_1])
 refine Evt.ctrue (decide_eq_true (by omega)) (Evt.ctrue (decide_eq_true (by omega)) ?_)
 have el:impl_Box_length b j=some (h - l):=by
  unfold impl_Box_length
  rw [decide_eq_true (show(0:Int)≤(j:Int)by omega),decide_eq_true (show(j:Int)<(b.2.2.length:Int)by omega),decide_eq_true (show(j:Int)<(b.2.1.length:Int)by omega)]
  simp only [cond_true,Int.toNat_natCast,e1,e2]
  rw [w64 (by omega) (by omega)]
 refine Evt.bind (.const el) ?_
 simp only [Int.toNat_natCast,e1]
 rw [w64 (n:=l*2 ^ D) (by omega) (by omega),w64 (n:=x*(h - l)) (by omega) (by omega),w64 (by omega) (by omega),hb1,w64 (n:=(m:Int)+(D:Int)) (by omega) (by omega)]
 refine Evt.bind (.const (wideOf_eq (by omega) (by omega))) ?_
 have:=fitD_ev (n:=l*2 ^ D+x*(h - l)) (p:=m+D) (by omega) (by omega) (by omega)
 rw [Int.natCast_add]at this
 exact Evt.bind this .pure
def wayV(s:Int)(a:Int×Int)(g:Int→Int×Int)(c r:Nat):List Ed:=(List.range' c r).map fun i:Nat=>(s,a,g (i:Int),g ((i:Int)+1))
theorem imWay_ev{s:Int}{a:Int×Int}{u v:Int}{m D:Nat}{g:Int→Int×Int}(hu : -64≤u∧u≤64)(hv : -64≤v∧v≤64)(hm:m≤3)(hD:D≤5)(hg:∀x:Int,0≤x→x≤2 ^ D→g x=(mkD (u*2 ^ D+(v - u)*x) (m+D)).1) :
  Evt (fun k _=>spec_imWay k s a u v m D) (wayV s a g 0 (2 ^ D)):=by
 refine Evt.eq (f:=fun k q=>_) ?_ (fun k q=>by rw [spec_imWay])
 refine Evt.bind (.const (dyPower_eq (m:=D) (by omega))) ?_
 have hp:=pow5 hD
 have hN:((2 ^ D:Nat):Int)=2 ^ D:=by simp
 generalize hNN:2 ^ D=N at hN
 have num:∀x:Int,0≤x→x≤N→Evt (fun k _=>spec_bxNumber k (IntKind.wrap .i64 ((IntKind.wrap .i64 (u*(N:Int)))+(IntKind.wrap .i64 ((IntKind.wrap .i64 (v - u))*x)))) (IntKind.wrap .i64 ((m:Int)+(D:Int)))) (g x):=by
  intro x h1 h2
  have a1:=mul_range (a:=u) (b:=2 ^ D) (A:=64) (B:=32) (by omega) (by omega) (by omega) (by omega) (by omega)
  have a2:=mul_range (a:=v - u) (b:=x) (A:=128) (B:=32) (by omega) (by omega) (by omega) (by omega) (by omega)
  rw [hN,w64 (n:=v - u) (by omega) (by omega),w64 (n:=u*2 ^ D) (by omega) (by omega),w64 (n:=(v - u)*x) (by omega) (by omega),w64 (by omega) (by omega),w64 (n:=(m:Int)+D) (by omega) (by omega),hg x h1 (by omega)]
  refine Evt.eq (f:=fun k q=>_) ?_ (fun k q=>by rw [spec_bxNumber])
  have:=dyMake_ev (n:=u*2 ^ D+(v - u)*x) (m:=m+D) (by omega) (by omega) (by omega)
  rw [Int.natCast_add]at this
  exact Evt.bind this .pure
 have key:∀(r c:Nat) (acc:List Ed),c+r=N→acc.length+r≤1000→Evt (fun k n=>spec_imWay_L122 k n s u v m D a acc (N:Int) c) (.inr (acc++wayV s a g c r,())):=by
  intro r
  induction r with
  | zero =>
   intro c acc hc _
   refine Evt.step (fun k n=>spec_imWay_L122.eq_2 k _ _ _ _ _ _ _ _ _ n) (Evt.cfalse (decide_eq_false (by omega)) ?_)
   simp only [wayV,List.range'_zero,List.map_nil,List.append_nil]
   exact .pure
  | succ r ih =>
   intro c acc hc ha
   refine Evt.step (fun k n=>spec_imWay_L122.eq_2 k _ _ _ _ _ _ _ _ _ n) (Evt.ctrue (decide_eq_true (by omega)) ?_)
   refine Evt.bind (num c (by omega) (by omega)) ?_
   have w1:IntKind.wrap .i64 ((c:Int)+1)=(c:Int)+1:=by rw [w64 (by omega) (by omega)]
   rw [w1]
   refine Evt.bind (num ((c:Int)+1) (by omega) (by omega)) (Evt.ctrue (decide_eq_true (by simp only [List.length_cons,List.length_nil];omega)) ?_)
   have:=ih (c+1) (acc ++ [(s,a,g c,g ((c:Int)+1))]) (by omega) (by simp;omega)
   rw [Int.natCast_add]at this
   have e:acc ++ [(s,a,g c,g ((c:Int)+1))]++wayV s a g (c+1) r=acc++wayV s a g c (r+1):=by
    simp only [wayV,List.range'_succ,List.map_cons,List.append_assoc,List.singleton_append]
   rw [e]at this
   exact this
 have hNb:N≤32:=by omega
 have hk:=key N 0 [] (by omega) (by simp;omega)
 exact Evt.inr (Evt.diag hk) .pure
def edgesV(m D:Nat)(l0 l1 h0 h1:Int):List Ed :=
 wayV 1 (mkD l1 m).1 (numV m D l0 h0) 0 (2 ^ D)++wayV 0 (mkD h0 m).1 (numV m D l1 h1) 0 (2 ^ D)++wayV 1 (mkD h1 m).1 (fun x=>numV m D l0 h0 (2 ^ D - x)) 0 (2 ^ D)++wayV 0 (mkD l0 m).1 (fun x=>numV m D l1 h1 (2 ^ D - x)) 0 (2 ^ D)
theorem wayV_len(s:Int)(a:Int×Int)(g:Int→Int×Int)(c r:Nat):(wayV s a g c r).length=r:=by simp [wayV]
theorem edgesV_len(m D:Nat)(l0 l1 h0 h1:Int):(edgesV m D l0 l1 h0 h1).length=4*2 ^ D:=by
 simp only [edgesV,List.length_append,wayV_len];omega
theorem wayV_ok{s:Int}{a:Int×Int}{g:Int→Int×Int}{c r:Nat}(hs:s=0∨s=1)(ha:gd a)(hg:∀x,gd (g x)):∀e∈wayV s a g c r,EdOk e:=by
 intro e he
 simp only [wayV,List.mem_map]at he
 obtain⟨i,_,rfl⟩:=he
 exact⟨hs,ha,hg _,hg _⟩
theorem edgesV_ok{m D:Nat}{l0 l1 h0 h1:Int}:∀e∈edgesV m D l0 l1 h0 h1,EdOk e:=by
 intro e he
 simp only [edgesV,List.mem_append]at he
 rcases he with ((he | he) | he) | he
 ·exact wayV_ok (.inr rfl) (mkD_gd _ _) (fun x=>numV_gd _ _ _ _ _) e he
 ·exact wayV_ok (.inl rfl) (mkD_gd _ _) (fun x=>numV_gd _ _ _ _ _) e he
 ·exact wayV_ok (.inr rfl) (mkD_gd _ _) (fun x=>numV_gd _ _ _ _ _) e he
 ·exact wayV_ok (.inl rfl) (mkD_gd _ _) (fun x=>numV_gd _ _ _ _ _) e he
theorem imEdges_ev{m D:Nat}{l0 l1 h0 h1:Int}(hm:m≤3)(hD:D≤5)(g0 : -64≤l0∧l0<h0∧h0≤64)(g1 : -64≤l1∧l1<h1∧h1≤64):Evt (fun k _=>spec_imEdges k ((m:Int),[l0,l1],[h0,h1]) D) (edgesV m D l0 l1 h0 h1):=by
 refine Evt.eq (f:=fun k q=>_) ?_ (fun k q=>by rw [spec_imEdges])
 have hp:2 ^ D≤32:=by
  have:=Nat.pow_le_pow_right (n:=2) (by omega) hD
  simpa using this
 have num:∀x:Int,-64≤x∧x≤64→Evt (fun k _=>spec_bxNumber k x (m:Int)) (mkD x m).1:=by
  intro x hx
  refine Evt.eq (f:=fun k q=>_) ?_ (fun k q=>by rw [spec_bxNumber])
  exact Evt.bind (dyMake_ev (n:=x) (m:=m) (by omega) (by omega) (by omega)) .pure
 have fwd:∀(l h:Int) (x:Int),0≤x→x≤2 ^ D→numV m D l h x=(mkD (l*2 ^ D+(h - l)*x) (m+D)).1:=by
  intro l h x _ _
  rw [numV,Int.mul_comm x]
 have bwd:∀(l h:Int) (x:Int),0≤x→x≤2 ^ D→numV m D l h (2 ^ D - x)=(mkD (h*2 ^ D+(l - h)*x) (m+D)).1:=by
  intro l h x _ _
  have e:l*2 ^ D+(2 ^ D - x)*(h - l)=h*2 ^ D+(l - h)*x:=by
   simp only [Int.sub_mul,Int.mul_sub,Int.mul_comm (2 ^ D),Int.mul_comm x]
   omega
  rw [numV,e]
 refine Evt.ctrue rfl (Evt.ctrue rfl (Evt.ctrue rfl (Evt.ctrue rfl ?_)))
 refine Evt.bind (num l1 (by omega)) (Evt.bind (imWay_ev (u:=l0) (v:=h0) (g:=numV m D l0 h0) (by omega) (by omega) hm hD (fwd l0 h0)) ?_)
 refine Evt.bind (num h0 (by omega)) (Evt.bind (imWay_ev (u:=l1) (v:=h1) (g:=numV m D l1 h1) (by omega) (by omega) hm hD (fwd l1 h1)) ?_)
 refine Evt.ctrue (decide_eq_true (by simp only [wayV_len];omega)) ?_
 refine Evt.bind (num h1 (by omega)) (Evt.bind (imWay_ev (u:=h0) (v:=l0) (g:=fun x=>numV m D l0 h0 (2 ^ D - x)) (by omega) (by omega) hm hD (bwd l0 h0)) ?_)
 refine Evt.ctrue (decide_eq_true (by simp only [List.length_append,wayV_len];omega)) ?_
 refine Evt.bind (num l0 (by omega)) (Evt.bind (imWay_ev (u:=h1) (v:=l1) (g:=fun x=>numV m D l1 h1 (2 ^ D - x)) (by omega) (by omega) hm hD (bwd l1 h1)) ?_)
 exact Evt.ctrue (decide_eq_true (by simp only [List.length_append,wayV_len];omega)) .pure
end Go.Ev.G

namespace Go.Ev.G
open Go Go.Ev
set_option maxRecDepth 100000

theorem edges_inner{m D:Nat}{b:Bx}{j:Nat}{s kk x17:Int}{l h:Int}{a:Int×Int}(hb1:b.1=m)(hj:j<b.2.1.length)(hj2:j<b.2.2.length)(e1:b.2.1.getD j 0=l)(e2:b.2.2.getD j 0=h)(hl : -64≤l∧l<h∧h≤64)(hm:m≤3)(hD:D≤5)(hs:IntKind.wrap .i64 (1 - s)=(j:Int)) :
  ∀(r c:Nat) (acc:List Ed),c+r=2 ^ D→acc.length+r≤1000→Evt (fun k n=>impl_boundaryEdges_L512830 k n (2 ^ D) (b,2 ^ D,(D:Int),()) acc kk s a x17 (2 ^ D) c) (.inr (2 ^ D,(b,2 ^ D,(D:Int),()),acc++wayV s a (fun x=>numV m D l h (if kk≥2 then 2 ^ D - x else x)) c r,x17,()))
 | 0,c,acc,hc,_=>by
  have hN:((2 ^ D:Nat):Int)=2 ^ D:=by simp
  refine Evt.step (fun k n=>impl_boundaryEdges_L512830.eq_2 k _ _ _ _ _ _ _ _ _ n) (Evt.cfalse (decide_eq_false (by omega)) ?_)
  simp only [wayV,List.range'_zero,List.map_nil,List.append_nil]
  exact .pure
 | r+1,c,acc,hc,ha=>by
  have hN:((2 ^ D:Nat):Int)=2 ^ D:=by simp
  have hp:=pow5 hD
  refine Evt.step (fun k n=>impl_boundaryEdges_L512830.eq_2 k _ _ _ _ _ _ _ _ _ n) (Evt.ctrue (decide_eq_true (by omega)) ?_)
  let g:Int→Int×Int:=fun x=>numV m D l h (if kk≥2 then 2 ^ D - x else x)
  have num:∀x:Int,0≤x→x≤2 ^ D→Evt (fun k _=>impl_boundaryEdges_1 k (IntKind.wrap .i64 (1 - s)) x b (2 ^ D) D) (numV m D l h x):=by
   intro x h1 h2
   rw [hs]
   exact edges1_ev hb1 hj hj2 e1 e2 hl hm hD (by omega)
  have ih:=edges_inner (kk:=kk) (x17:=x17) (s:=s) (a:=a) hb1 hj hj2 e1 e2 hl hm hD hs r (c+1) (acc ++ [(s,a,g c,g ((c:Int)+1))]) (by omega) (by simp;omega)
  have w1:IntKind.wrap .i64 ((c:Int)+1)=((c+1:Nat):Int):=w64_next (by simp only [lenB];omega)
  have e:acc ++ [(s,a,g c,g ((c:Int)+1))]++wayV s a g (c+1) r=acc++wayV s a g c (r+1):=by
   simp only [wayV,List.range'_succ,List.map_cons,List.append_assoc,List.singleton_append]
  have ih2:Evt (fun k n=>impl_boundaryEdges_L512830 k n (2 ^ D) (b,2 ^ D,(D:Int),()) (acc ++ [(s,a,g c,g ((c:Int)+1))]) kk s a x17 (2 ^ D) ((c+1:Nat):Int)) (.inr (2 ^ D,(b,2 ^ D,(D:Int),()),acc++wayV s a g c (r+1),x17,())):=by
   rw [←e];exact ih
  by_cases hk:kk≥2
  ·have g1:g c=numV m D l h (2 ^ D - c):=by show numV m D l h (if kk≥2 then 2 ^ D - (c:Int)else c)=_;rw [if_pos hk]
   have g2:g ((c:Int)+1)=numV m D l h (2 ^ D - c - 1):=by
    show numV m D l h (if kk≥2 then 2 ^ D - ((c:Int)+1)else(c:Int)+1)=_
    rw [if_pos hk,show(2:Int) ^ D - (c+1)=2 ^ D - c - 1 by omega]
   refine Evt.inr (Evt.ctrue (decide_eq_true hk) .pure) ?_
   have w2:IntKind.wrap .i64 ((2:Int) ^ D - c)=2 ^ D - c:=w64 (by omega) (by omega)
   have w3:IntKind.wrap .i64 ((2:Int) ^ D - c - 1)=2 ^ D - c - 1:=w64 (by omega) (by omega)
   simp only [w2,w3,w1]
   rw [g1,g2]at ih2
   refine Evt.bind (num _ (by omega) (by omega)) (Evt.bind (num _ (by omega) (by omega)) (Evt.ctrue (decide_eq_true (by simp only [List.length_cons,List.length_nil];omega)) ?_))
   exact ih2
  ·have g1:g c=numV m D l h c:=by show numV m D l h (if kk≥2 then 2 ^ D - (c:Int)else c)=_;rw [if_neg hk]
   have g2:g ((c:Int)+1)=numV m D l h ((c:Int)+1):=by
    show numV m D l h (if kk≥2 then 2 ^ D - ((c:Int)+1)else(c:Int)+1)=_
    rw [if_neg hk]
   refine Evt.inr (Evt.cfalse (decide_eq_false hk) .pure) ?_
   have w2:IntKind.wrap .i64 ((c:Int)+1)=(c:Int)+1:=w64 (by omega) (by omega)
   simp only [w2]
   rw [g1,g2]at ih2
   refine Evt.bind (num _ (by omega) (by omega)) (Evt.bind (num _ (by omega) (by omega)) (Evt.ctrue (decide_eq_true (by simp only [List.length_cons,List.length_nil];omega)) ?_))
   exact ih2
theorem boundaryEdges_ev{m D:Nat}{l0 l1 h0 h1:Int}(hm:m≤3)(hD:D≤5)(g0 : -64≤l0∧l0<h0∧h0≤64)(g1 : -64≤l1∧l1<h1∧h1≤64):Evt (fun k _=>impl_boundaryEdges k ((m:Int),[l0,l1],[h0,h1]) D) (edgesV m D l0 l1 h0 h1):=by
 have hN:((2 ^ D:Nat):Int)=2 ^ D:=by simp
 have hp:=pow5 hD
 have hNb:2 ^ D≤32:=by omega
 let b:Bx:=((m:Int),[l0,l1],[h0,h1])
 refine Evt.eq (f:=fun k q=>_) ?_ (fun k q=>by rw [impl_boundaryEdges])
 refine Evt.cfalse (decide_eq_false (by omega)) ?_
 have hw:IntKind.wrap .i64 (1*2 ^ min (Int.toNat (D:Int)) (IntKind.bits .i64))=2 ^ D:=by
  rw [min64 (by omega),Int.one_mul,w64 (by omega) (by omega)]
 simp only [hw]
 have one:∀ {R:List Ed ⊕ (List Ed×Unit)} (kk s:Int) (j:Nat) (l h:Int) (a0 a:Int×Int) (acc:List Ed),0≤kk→kk<4→IntKind.wrap .i64 (1 - Int.tmod kk 2)=s→IntKind.wrap .i64 (1 - s)=(j:Int)→j<2→b.2.1.getD j 0=l→b.2.2.getD j 0=h→(-64≤l∧l<h∧h≤64) →
   Evt (fun k _=>impl_boundaryEdges_1 k s 0 b (2 ^ D) D) a0→(kk=1∨kk=2→Evt (fun k _=>impl_boundaryEdges_1 k s (2 ^ D) b (2 ^ D) D) a)→(¬(kk=1∨kk=2)→a0=a)→acc.length≤200 →
   Evt (fun k n=>impl_boundaryEdges_L250 k n (2 ^ D) (b,2 ^ D,(D:Int),()) (acc++wayV s a (fun x=>numV m D l h (if kk≥2 then 2 ^ D - x else x)) 0 (2 ^ D)) (IntKind.wrap .i64 (kk+1))) R→Evt (fun k n=>impl_boundaryEdges_L250 k n (2 ^ D) (b,2 ^ D,(D:Int),()) acc kk) R:=by
  intro R kk s j l h a0 a acc hk0 hk4 hs hj hj2 e1 e2 hl ha0 ha1 haa hacc hrest
  have hin:=edges_inner (kk:=kk) (x17:=kk) (s:=s) (a:=a) (b:=b) (j:=j) (m:=m) rfl (by simpa [b] using hj2) (by simpa [b] using hj2) e1 e2 hl hm hD hj (2 ^ D) 0 acc (by omega) (by omega)
  refine Evt.step (fun k n=>impl_boundaryEdges_L250.eq_2 k _ _ _ _ n) (Evt.ctrue (decide_eq_true hk4) ?_)
  simp only [hs]
  refine Evt.bind ha0 (Evt.inr (y:=(2 ^ D,(b,2 ^ D,(D:Int),()),acc,kk,s,a,kk,())) ?_ (Evt.inr (Evt.diag hin) hrest))
  by_cases c1:kk=1
  ·exact Evt.ctrue (by simp [c1]) (Evt.bind (ha1 (.inl c1)) .pure)
  ·refine Evt.cfalse (by simpa using c1) ?_
   by_cases c2:kk=2
   ·exact Evt.ctrue (by simp [c2]) (Evt.bind (ha1 (.inr c2)) .pure)
   ·refine Evt.cfalse (by simpa using c2) ?_
    rw [haa (by omega)]
    exact .pure
 have n0:∀ {j:Nat} {l h:Int},j<2→b.2.1.getD j 0=l→b.2.2.getD j 0=h→(-64≤l∧l<h∧h≤64)→Evt (fun k _=>impl_boundaryEdges_1 k j 0 b (2 ^ D) D) (mkD l m).1:=by
  intro j l h hj e1 e2 hl
  have:=edges1_ev (x:=0) (b:=b) (m:=m) rfl (by simpa [b] using hj) (by simpa [b] using hj) e1 e2 hl hm hD (by omega)
  rw [numV,Int.zero_mul,Int.add_zero,mkD_scale]at this
  exact this
 have n1:∀ {j:Nat} {l h:Int},j<2→b.2.1.getD j 0=l→b.2.2.getD j 0=h→(-64≤l∧l<h∧h≤64)→Evt (fun k _=>impl_boundaryEdges_1 k j (2 ^ D) b (2 ^ D) D) (mkD h m).1:=by
  intro j l h hj e1 e2 hl
  have:=edges1_ev (x:=2 ^ D) (b:=b) (m:=m) rfl (by simpa [b] using hj) (by simpa [b] using hj) e1 e2 hl hm hD (by omega)
  have e:l*2 ^ D+2 ^ D*(h - l)=h*2 ^ D:=by
   rw [Int.mul_sub,Int.mul_comm (2 ^ D) h,Int.mul_comm (2 ^ D) l];omega
  rw [numV,e,mkD_scale]at this
  exact this
 have fin:∀acc:List Ed,Evt (fun k n=>impl_boundaryEdges_L250 k n (2 ^ D) (b,2 ^ D,(D:Int),()) acc 4) (.inr (acc,())):=fun acc =>
  Evt.step (fun k n=>impl_boundaryEdges_L250.eq_2 k _ _ _ _ n) (Evt.cfalse rfl .pure)
 have w1:IntKind.wrap .i64 (0+1)=1:=by decide
 have w2:IntKind.wrap .i64 (1+1)=2:=by decide
 have w3:IntKind.wrap .i64 (2+1)=3:=by decide
 have w4:IntKind.wrap .i64 (3+1)=4:=by decide
 have all:Evt (fun k n=>impl_boundaryEdges_L250 k n (2 ^ D) (b,2 ^ D,(D:Int),()) [] 0) (.inr (edgesV m D l0 l1 h0 h1,())):=by
  refine one 0 1 0 l0 h0 (mkD l1 m).1 (mkD l1 m).1 [] (by omega) (by omega) (by decide) (by decide) (by omega) rfl rfl g0 (n0 (j:=1) (by omega) rfl rfl g1) (by omega) (fun _=>rfl) (by simp) ?_
  rw [w1]
  refine one 1 0 1 l1 h1 (mkD l0 m).1 (mkD h0 m).1 _ (by omega) (by omega) (by decide) (by decide) (by omega) rfl rfl g1 (n0 (j:=0) (by omega) rfl rfl g0) (fun _=>n1 (j:=0) (by omega) rfl rfl g0) (by omega) (by simp only [List.length_append,List.length_nil,wayV_len];omega) ?_
  rw [w2]
  refine one 2 1 0 l0 h0 (mkD l1 m).1 (mkD h1 m).1 _ (by omega) (by omega) (by decide) (by decide) (by omega) rfl rfl g0 (n0 (j:=1) (by omega) rfl rfl g1) (fun _=>n1 (j:=1) (by omega) rfl rfl g1) (by omega) (by simp only [List.length_append,List.length_nil,wayV_len];omega) ?_
  rw [w3]
  refine one 3 0 1 l1 h1 (mkD l0 m).1 (mkD l0 m).1 _ (by omega) (by omega) (by decide) (by decide) (by omega) rfl rfl g1 (n0 (j:=0) (by omega) rfl rfl g0) (by omega) (fun _=>rfl) (by simp only [List.length_append,List.length_nil,wayV_len];omega) ?_
  rw [w4]
  exact fin _
 exact Evt.inr (Evt.diag all) .pure

def edgesB(b:Bx)(D:Nat):List Ed:=edgesV b.1.toNat D (b.2.1.getD 0 0) (b.2.1.getD 1 0) (b.2.2.getD 0 0) (b.2.2.getD 1 0)
theorem edgesB_len(b:Bx)(D:Nat):(edgesB b D).length=4*2 ^ D:=edgesV_len _ _ _ _ _ _
theorem edgesB_ok{b:Bx}{D:Nat}:∀e∈edgesB b D,EdOk e:=edgesV_ok
theorem imEdgesB_ev{b:Bx}{D:Nat}(h:plV b=true)(hD:D≤5):Evt (fun k _=>spec_imEdges k b D) (edgesB b D):=by
 obtain⟨m,l0,l1,h0,h1,rfl,hm,g0,g1⟩:=plV_form h
 exact imEdges_ev hm hD g0 g1
theorem boundaryEdgesB_ev{b:Bx}{D:Nat}(h:plV b=true)(hD:D≤5):Evt (fun k _=>impl_boundaryEdges k b D) (edgesB b D):=by
 obtain⟨m,l0,l1,h0,h1,rfl,hm,g0,g1⟩:=plV_form h
 exact boundaryEdges_ev hm hD g0 g1
end Go.Ev.G

namespace Go.Ev.G
open Go Go.Ev
set_option maxRecDepth 100000

theorem tmodN(a b:Nat):Int.tmod (a:Int) (b:Int)=((a % b:Nat):Int):=rfl

theorem turns2_ev{x:List Int}(h0:0<x.length)(hb:x.length≤128):∃(v:Int) (f:Bool),Evt (fun k _=>spec_imTurns k x) (v,f)∧Evt (fun k _=>impl_turnsOf k x) (if f then v else 0,f):=by
 have key:∀(r d:List Int) (t:Int),d++r=x→∃res:(Int×Bool) ⊕ (Int×Unit),(∀q,res = .inl q→q=(0,false))∧Evt (fun k n=>spec_imTurns_L58 k n x t x (x.length:Int) d.length) res∧Evt (fun k n=>impl_turnsOf_L58 k n x t x (x.length:Int) d.length) res:=by
  intro r
  induction r with
  | nil =>
   intro d t h
   rw [List.append_nil]at h
   refine⟨.inr (t,()),(fun q hq=>by cases hq),?_,?_⟩
   ·refine Evt.step (fun k n=>spec_imTurns_L58.eq_2 k _ _ _ _ _ n) ?_
    rw [h]
    exact Evt.rng0 .pure
   ·refine Evt.step (fun k n=>impl_turnsOf_L58.eq_2 k _ _ _ _ _ n) ?_
    rw [h]
    exact Evt.rng0 .pure
  | cons e r ih =>
   intro d t h
   have hl:=congrArg List.length h
   simp at hl
   have hnx:IntKind.wrap .i64 ((d.length:Int)+1)=((d ++ [e]).length:Int):=by rw [w64_next (by simp only [lenB];omega)];simp
   have hw:IntKind.wrap .i64 ((d.length:Int)+1)=((d.length+1:Nat):Int):=w64_next (by simp only [lenB];omega)
   have hmod:(d.length+1) % x.length<x.length:=Nat.mod_lt _ h0
   have e1:x.getD (Int.toNat (d.length:Int)) 0=e:=by rw [←h];exact mid_get
   generalize hD:Int.tmod (IntKind.wrap .i64 ((IntKind.wrap .i64 ((x.getD (Int.toNat (Int.tmod (IntKind.wrap .i64 ((d.length:Int)+1)) (x.length:Int))) 0) - (x.getD (Int.toNat (d.length:Int)) 0)))+4)) 4=D
   have g1:decide ((d.length:Int)<(x.length:Int))=true:=decide_eq_true (by omega)
   have g2:((x.length:Int)==0)=false:=by rw [beq_eq_false_iff_ne];omega
   have g3:decide (0≤Int.tmod (IntKind.wrap .i64 ((d.length:Int)+1)) (x.length:Int))=true:=by rw [hw,tmodN];exact decide_eq_true (Int.natCast_nonneg _)
   have g4:decide (Int.tmod (IntKind.wrap .i64 ((d.length:Int)+1)) (x.length:Int)<(x.length:Int))=true:=by rw [hw,tmodN];exact decide_eq_true (Int.ofNat_lt.2 hmod)
   have s1:∀ {res},Evt (fun k n=>(bif (D==1)then(spec_imTurns_L58 k n x (IntKind.wrap .i64 (t+1)) x (x.length:Int) (IntKind.wrap .i64 ((d.length:Int)+1)))else(bif (D==2)then some (Sum.inl (0,false))else(bif (D==3)then(spec_imTurns_L58 k n x (IntKind.wrap .i64 (t - 1)) x (x.length:Int) (IntKind.wrap .i64 ((d.length:Int)+1)))else(spec_imTurns_L58 k n x t x (x.length:Int) (IntKind.wrap .i64 ((d.length:Int)+1))))))) res→Evt (fun k n=>spec_imTurns_L58 k n x t x (x.length:Int) d.length) res:=by
    intro res hh
    refine Evt.step (fun k n=>spec_imTurns_L58.eq_2 k _ _ _ _ _ n) (Evt.ctrue g1 (Evt.ctrue mid_ge (Evt.ctrue g1 (Evt.cfalse g2 (Evt.ctrue g3 (Evt.ctrue g4 ?_))))))
    rw [hD]
    exact hh
   have s2:∀ {res},Evt (fun k n=>(bif (D==1)then(impl_turnsOf_L58 k n x (IntKind.wrap .i64 (t+1)) x (x.length:Int) (IntKind.wrap .i64 ((d.length:Int)+1)))else(bif (D==2)then some (Sum.inl (0,false))else(bif (D==3)then(impl_turnsOf_L58 k n x (IntKind.wrap .i64 (t - 1)) x (x.length:Int) (IntKind.wrap .i64 ((d.length:Int)+1)))else(impl_turnsOf_L58 k n x t x (x.length:Int) (IntKind.wrap .i64 ((d.length:Int)+1))))))) res→Evt (fun k n=>impl_turnsOf_L58 k n x t x (x.length:Int) d.length) res:=by
    intro res hh
    refine Evt.step (fun k n=>impl_turnsOf_L58.eq_2 k _ _ _ _ _ n) (Evt.ctrue g1 (Evt.ctrue mid_ge (Evt.ctrue g1 (Evt.cfalse g2 (Evt.ctrue g3 (Evt.ctrue g4 ?_))))))
    rw [hD]
    exact hh
   have ih:=fun t=>ih (d ++ [e]) t (by simpa using h)
   rw [←hnx]at ih
   cases h1:(D==1)with
   | true =>
    obtain⟨res,q0,q1,q2⟩:=ih (IntKind.wrap .i64 (t+1))
    exact⟨res,q0,s1 (Evt.ctrue h1 q1),s2 (Evt.ctrue h1 q2)⟩
   | false =>
   cases h2:(D==2)with
   | true=>exact⟨.inl (0,false),(fun q hq=>by cases hq;rfl),s1 (Evt.cfalse h1 (Evt.ctrue h2 .pure)),s2 (Evt.cfalse h1 (Evt.ctrue h2 .pure))⟩
   | false =>
   cases h3:(D==3)with
   | true =>
    obtain⟨res,q0,q1,q2⟩:=ih (IntKind.wrap .i64 (t - 1))
    exact⟨res,q0,s1 (Evt.cfalse h1 (Evt.cfalse h2 (Evt.ctrue h3 q1))),s2 (Evt.cfalse h1 (Evt.cfalse h2 (Evt.ctrue h3 q2)))⟩
   | false =>
    obtain⟨res,q0,q1,q2⟩:=ih t
    exact⟨res,q0,s1 (Evt.cfalse h1 (Evt.cfalse h2 (Evt.cfalse h3 q1))),s2 (Evt.cfalse h1 (Evt.cfalse h2 (Evt.cfalse h3 q2)))⟩
 obtain⟨res,q0,q1,q2⟩:=key x [] 0 rfl
 simp only [List.length_nil]at q1 q2
 cases res with
 | inl q =>
  have hf:=q0 _ rfl
  subst hf
  refine⟨0,false,?_,?_⟩
  ·refine Evt.eq (f:=fun k q=>_) ?_ (fun k q=>by rw [spec_imTurns])
   exact Evt.inl (Evt.diag q1) .pure
  ·refine Evt.eq (f:=fun k q=>_) ?_ (fun k q=>by rw [impl_turnsOf])
   exact Evt.inl (Evt.diag q2) .pure
 | inr y =>
  obtain⟨t,u⟩:=y
  refine⟨IntKind.wrap .i64 (Int.tdiv t 4),(Int.tmod t 4==0),?_,?_⟩
  ·refine Evt.eq (f:=fun k q=>_) ?_ (fun k q=>by rw [spec_imTurns])
   exact Evt.inr (Evt.diag q1) .pure
  ·refine Evt.eq (f:=fun k q=>_) ?_ (fun k q=>by rw [impl_turnsOf])
   cases ht:(Int.tmod t 4==0)with
   | true=>exact Evt.inr (Evt.diag q2) (Evt.cfalse (by unfold bne;rw [ht];rfl) .pure)
   | false=>exact Evt.inr (Evt.diag q2) (Evt.ctrue (by unfold bne;rw [ht];rfl) .pure)
end Go.Ev.G

namespace Go.Ev.G
open Go Go.Ev
set_option maxRecDepth 100000

section
variable {V : Type}
end
def rsnsV(s:List (List Tm)):List Ed→List Int×Bool
 | []=>([],true)
 | e::r=>match rsn s e with
  | some j=>((j:Int)::(rsnsV s r).1,(rsnsV s r).2)
  | none=>([],false)
theorem rsnsV_len{s:List (List Tm)}:∀(es:List Ed),(rsnsV s es).1.length≤es.length∧((rsnsV s es).2=true↔(rsnsV s es).1.length=es.length)
 | []=>by simp [rsnsV]
 | e::r=>by
  have:=rsnsV_len (s:=s) r
  unfold rsnsV
  cases rsn s e with
  | none=>simp
  | some j =>
   simp only [List.length_cons]
   exact⟨by omega,by rw [this.2];omega⟩
structure Pl(s:List (List Tm)):Prop where
 ln:s.length=2
 tm:∀p∈s,∀t∈p,tmW t
 lp:∀p∈s,p.length<lenB
theorem twoV_pl{s:List (List Tm)}(h:twoV s=true)(hm:∀r∈s,r.length<lenB):Pl s:=⟨(twoV_len h).2,sysV_tm (twoV_len h).1,hm⟩
theorem Pl.sd{s:List (List Tm)}(h:Pl s){e:Ed}(he:EdOk e):Sd s (sidesE e):=Sd.edge h.tm h.lp he
theorem imReasons_loop{s:List (List Tm)}(hs:Pl s){es:List Ed}(he:∀e∈es,EdOk e)(hl:es.length≤1000):∀(r d:List Ed) (acc:List Int),d++r=es→acc.length=d.length →
  Evt (fun k n=>spec_imReasons_L58 k n s acc es (es.length:Int) d.length) (if (rsnsV s r).2 then .inr (acc++(rsnsV s r).1,())else .inl (acc++(rsnsV s r).1))
 | [],d,acc,hd,_=>by
  rw [List.append_nil]at hd
  subst hd
  refine Evt.step (fun k n=>spec_imReasons_L58.eq_2 k _ _ _ _ _ n) (Evt.rng0 ?_)
  simp only [rsnsV,if_true,List.append_nil]
  exact .pure
 | e::r,d,acc,hd,ha=>by
  have ge:=he e (by rw [←hd];simp)
  have hdl:=congrArg List.length hd
  simp only [List.length_append,List.length_cons]at hdl
  refine Evt.step (fun k n=>spec_imReasons_L58.eq_2 k _ _ _ _ _ n) ?_
  rw [←hd]
  refine Evt.ctrue mid_lt (Evt.ctrue mid_ge (Evt.ctrue mid_lt ?_))
  rw [mid_get,len_next (by rw [hd];simp only [lenB];omega)]
  have hre:=imReason_ev2 (hs.sd ge) hs.ln
  refine Evt.bind (imSides_ev ge) ?_
  unfold rsnsV
  cases hj:rsn s e with
  | none =>
   rw [hj]at hre
   refine Evt.bind hre (Evt.ctrue rfl ?_)
   simp only [Bool.false_eq_true,if_false,List.append_nil]
   exact .pure
  | some j =>
   rw [hj]at hre
   refine Evt.bind hre (Evt.cfalse rfl (Evt.ctrue (decide_eq_true (by simp only [List.length_cons,List.length_nil];omega)) ?_))
   have ih:=imReasons_loop hs he hl r (d ++ [e]) (acc ++ [(j:Int)]) (by simpa using hd) (by simp [ha])
   rw [←hd]at ih
   simp only [List.append_assoc,List.singleton_append]at ih ⊢
   exact ih
theorem boundaryReasons_loop{s:List (List Tm)}(hs:Pl s){es:List Ed}(he:∀e∈es,EdOk e)(hl:es.length≤1000):∀(r d:List Ed) (acc:List Int),d++r=es→acc.length=d.length →
  Evt (fun k n=>impl_boundaryReasons_L58 k n s acc es (es.length:Int) d.length) (if (rsnsV s r).2 then .inr (acc++(rsnsV s r).1,())else .inl ([],false))
 | [],d,acc,hd,_=>by
  rw [List.append_nil]at hd
  subst hd
  refine Evt.step (fun k n=>impl_boundaryReasons_L58.eq_2 k _ _ _ _ _ n) (Evt.rng0 ?_)
  simp only [rsnsV,if_true,List.append_nil]
  exact .pure
 | e::r,d,acc,hd,ha=>by
  have ge:=he e (by rw [←hd];simp)
  have hdl:=congrArg List.length hd
  simp only [List.length_append,List.length_cons]at hdl
  refine Evt.step (fun k n=>impl_boundaryReasons_L58.eq_2 k _ _ _ _ _ n) ?_
  rw [←hd]
  refine Evt.ctrue mid_lt (Evt.ctrue mid_ge (Evt.ctrue mid_lt ?_))
  rw [mid_get,len_next (by rw [hd];simp only [lenB];omega)]
  have hre:=edgeReason_ev (hs.sd ge) ge hs.ln
  unfold rsnsV
  cases hj:rsn s e with
  | none =>
   rw [hj]at hre
   refine Evt.bind hre (Evt.ctrue rfl ?_)
   simp only [Bool.false_eq_true,if_false]
   exact .pure
  | some j =>
   rw [hj]at hre
   refine Evt.bind hre (Evt.cfalse (decide_eq_false (show ¬ ((j:Int)<0)by omega)) (Evt.ctrue (decide_eq_true (by simp only [List.length_cons,List.length_nil];omega)) ?_))
   have ih:=boundaryReasons_loop hs he hl r (d ++ [e]) (acc ++ [(j:Int)]) (by simpa using hd) (by simp [ha])
   rw [←hd]at ih
   simp only [List.append_assoc,List.singleton_append]at ih ⊢
   exact ih
def allV(s:List (List Tm))(b:Bx)(D:Nat):List Int×Bool:=if (rsnsV s (edgesB b D)).2 then((rsnsV s (edgesB b D)).1,true)else([],false)
theorem pow2N5{D:Nat}(h:D≤5):1≤2 ^ D∧2 ^ D≤32:=by
 have:=pow5 h
 have e:((2 ^ D:Nat):Int)=2 ^ D:=by simp
 omega
theorem imReasons_ev{s:List (List Tm)}{b:Bx}{D:Nat}(hs:Pl s)(hb:plV b=true)(hD:D≤5):Evt (fun k _=>spec_imReasons k s b D) (rsnsV s (edgesB b D)).1:=by
 refine Evt.eq (f:=fun k q=>_) ?_ (fun k q=>by rw [spec_imReasons])
 have hp:=pow2N5 hD
 refine Evt.bind (imEdgesB_ev hb hD) ?_
 have h:=imReasons_loop hs (es:=edgesB b D) edgesB_ok (by rw [edgesB_len];omega) (edgesB b D) [] [] rfl rfl
 simp only [List.length_nil,List.nil_append]at h
 cases hf:(rsnsV s (edgesB b D)).2 with
 | true=>rw [hf,if_pos rfl]at h;exact Evt.inr (Evt.diag h) .pure
 | false=>rw [hf,if_neg (by simp)]at h;exact Evt.inl (Evt.diag h) .pure
theorem imAll_ev{s:List (List Tm)}{b:Bx}{D:Nat}(hs:Pl s)(hb:plV b=true)(hD:D≤5):Evt (fun k _=>spec_imAll k s b D) (allV s b D):=by
 refine Evt.eq (f:=fun k q=>_) ?_ (fun k q=>by rw [spec_imAll])
 have hp:=pow2N5 hD
 refine Evt.bind (imReasons_ev hs hb hD) (Evt.bind (.const (dyPower_eq (m:=D) (by omega))) ?_)
 have hl:=rsnsV_len (s:=s) (edgesB b D)
 rw [edgesB_len]at hl
 rw [w64 (by omega) (by omega)]
 unfold allV
 cases hf:(rsnsV s (edgesB b D)).2 with
 | true =>
  rw [if_pos rfl]
  have:=hl.2.1 hf
  exact Evt.cfalse (decide_eq_false (by omega)) .pure
 | false =>
  rw [if_neg (by simp)]
  have : ¬ (rsnsV s (edgesB b D)).1.length=4*2 ^ D:=fun h=>by rw [hl.2.2 h]at hf;cases hf
  exact Evt.ctrue (decide_eq_true (by omega)) .pure
theorem boundaryReasons_ev{s:List (List Tm)}{b:Bx}{D:Nat}(hs:Pl s)(hb:plV b=true)(hD:D≤5):Evt (fun k _=>impl_boundaryReasons k s b D) (allV s b D):=by
 refine Evt.eq (f:=fun k q=>_) ?_ (fun k q=>by rw [impl_boundaryReasons])
 have hp:=pow2N5 hD
 refine Evt.bind (boundaryEdgesB_ev hb hD) ?_
 have h:=boundaryReasons_loop hs (es:=edgesB b D) edgesB_ok (by rw [edgesB_len];omega) (edgesB b D) [] [] rfl rfl
 simp only [List.length_nil,List.nil_append]at h
 unfold allV
 cases hf:(rsnsV s (edgesB b D)).2 with
 | true=>rw [hf,if_pos rfl]at h;exact Evt.inr (Evt.diag h) .pure
 | false=>rw [hf,if_neg (by simp)]at h;exact Evt.inl (Evt.diag h) .pure
theorem allV_len{s:List (List Tm)}{b:Bx}{D:Nat}(hD:D≤5):(allV s b D).1.length≤128∧((allV s b D).2=true→0<(allV s b D).1.length):=by
 have hp:=pow2N5 hD
 have hl:=rsnsV_len (s:=s) (edgesB b D)
 rw [edgesB_len]at hl
 unfold allV
 split
 ·rename_i hf
  have:=hl.2.1 hf
  simp only
  exact⟨by omega,fun _=>by omega⟩
 ·simp
def askV(s:List (List Tm))(b:Bx)(d:Int):Bool:=planeV s b&&decide (0≤d∧d≤5)
theorem imAsked_ev{m:List (List Tm)}{b:Bx}{d:Int}(hb:m.length<lenB)(hm:∀r∈m,r.length<lenB)(hx:b.2.1.length<lenB):Evt (fun k _=>spec_imAsked k m b d) (askV m b d):=by
 refine Evt.eq (f:=fun k q=>_) ?_ (fun k q=>by rw [spec_imAsked])
 refine Evt.bind (imGood_ev hb hm hx) ?_
 unfold askV
 cases planeV m b with
 | false=>exact Evt.cfalse rfl .pure
 | true =>
  refine Evt.ctrue rfl (Evt.bind (.const (?_:spec_imDepth d=some (decide (0≤d∧d≤5)))) .pure)
  unfold spec_imDepth
  rw [l1In_eq];rfl
end Go.Ev.G

namespace Go.Ev.G
open Go Go.Ev
set_option maxRecDepth 100000

theorem evt_100{α:Type}{f:Nat→Option α}{r:α}(h:∀k,f (k+100)=some r):Evt (fun k _=>f k) r:=⟨100,fun k n hk _=>by
 obtain⟨m,rfl⟩:∃m,k=m+100:=⟨k - 100,by omega⟩
 exact h m⟩
end Go.Ev.G

namespace Go.Ev.G
open Go Go.Ev
set_option maxRecDepth 100000

theorem spec_ask{V:Type}{s:List (List Tm)}{b:Bx}{d:Int}{z:V}{g:Nat→Option V}{v:V}(hb:s.length<lenB)(hm:∀r∈s,r.length<lenB)(hx:b.2.1.length<lenB)(hz:askV s b d=false→v=z)(hg:askV s b d=true→Evt (fun k _=>g k) v) :
  Evt (fun k _=>(Option.bind (spec_imAsked k s b d) fun r1=>(bif (!r1)then some z else g k))) v:=by
 refine Evt.bind (imAsked_ev hb hm hx) ?_
 cases hp:askV s b d with
 | false=>rw [hz hp];exact Evt.ctrue rfl .pure
 | true=>exact Evt.cfalse rfl (hg hp)

def ldV(s:List (List Tm))(b:Bx):Int×Bool:=if planeV s b then(match (List.range 6).find? (fun D=>(allV s b D).2)with | some j=>((j:Int),true) | none=>(0,false))else(0,false)
theorem planeV_form{s:List (List Tm)}{b:Bx}(h:planeV s b=true)(hm:∀r∈s,r.length<lenB):Pl s∧plV b=true:=by
 unfold planeV at h
 rw [Bool.and_eq_true]at h
 exact⟨twoV_pl h.1 hm,h.2⟩
theorem spec_leastDepth_ev{s:List (List Tm)}{b:Bx}(hb:s.length<lenB)(hm:∀r∈s,r.length<lenB)(hx:b.2.1.length<lenB):Evt (fun k _=>spec_LeastDepth k s b) (ldV s b):=by
 refine Evt.eq (f:=fun k q=>_) ?_ (fun k q=>by rw [spec_LeastDepth])
 refine Evt.bind (imGood_ev hb hm hx) ?_
 unfold ldV
 cases h:planeV s b with
 | false=>exact Evt.ctrue rfl .pure
 | true =>
  obtain⟨hs,hp⟩:=planeV_form h hm
  have:=find_loop (L:=fun k n i=>spec_LeastDepth_L58 k n s b i) (p:=fun k i=>Option.bind (spec_imAll k s b i) fun r=>some r.2) (out:=fun j=>((j:Int),true)) (N:=6) (P:=fun D=>(allV s b D).2) (by omega) (fun j hj=>Evt.bind (imAll_ev hs hp (by omega)) .pure)
   (fun k n i hi=>by rw [spec_LeastDepth_L58.eq_2,decide_eq_true (by omega)];cases spec_imAll k s b i <;> rfl) (fun k n=>by rw [spec_LeastDepth_L58.eq_2];rfl)
  refine Evt.cfalse rfl ?_
  rw [if_pos rfl]
  cases hf:(List.range 6).find? (fun D=>(allV s b D).2)with
  | none=>rw [hf]at this;exact Evt.inr (Evt.diag this) .pure
  | some j=>rw [hf]at this;exact Evt.inl (Evt.diag this) .pure
theorem leastDepth_ev{s:List (List Tm)}{b:Bx}(hs:Pl s)(hp:plV b=true):Evt (fun k _=>impl_leastDepth k s b) (match (List.range 6).find? (fun D=>(allV s b D).2)with | some j=>((j:Int),true) | none=>(0,false)):=by
 refine Evt.eq (f:=fun k q=>_) ?_ (fun k q=>by rw [impl_leastDepth])
 have:=find_loop (L:=fun k n i=>impl_leastDepth_L26 k n s b i) (p:=fun k i=>Option.bind (impl_boundaryReasons k s b i) fun r=>some r.2) (out:=fun j=>((j:Int),true)) (N:=6) (P:=fun D=>(allV s b D).2) (by omega) (fun j hj=>Evt.bind (boundaryReasons_ev hs hp (by omega)) .pure)
  (fun k n i hi=>by rw [impl_leastDepth_L26.eq_2,decide_eq_true (by omega)];cases impl_boundaryReasons k s b i <;> rfl) (fun k n=>by rw [impl_leastDepth_L26.eq_2];rfl)
 cases hf:(List.range 6).find? (fun D=>(allV s b D).2)with
 | none=>rw [hf]at this;exact Evt.inr (Evt.diag this) .pure
 | some j=>rw [hf]at this;exact Evt.inl (Evt.diag this) .pure
theorem winding_val(s:List (List Tm))(b:Bx){D:Nat}(hD:D≤5):∃v:Int×Bool,(Pl s→plV b=true→Evt (fun k _=>impl_windingOf k s b D) v) ∧
  (Pl s→plV b=true→Evt (fun k _=>(Option.bind (spec_imAll k s b D) fun r2=>(bif (!r2.2)then some (0,false)else(Option.bind (spec_imTurns k r2.1) fun r3=>(bif (!r3.2)then some (0,false)else some (r3.1,true)))))) v):=by
 have hl:=allV_len (s:=s) (b:=b) hD
 cases hf:(allV s b D).2 with
 | false =>
  refine⟨(0,false),fun hs hp => ?_,fun hs hp => ?_⟩
  ·refine Evt.eq (f:=fun k q=>_) ?_ (fun k q=>by rw [impl_windingOf])
   exact Evt.bind (boundaryReasons_ev hs hp hD) (Evt.ctrue (by rw [hf];rfl) .pure)
  ·exact Evt.bind (imAll_ev hs hp hD) (Evt.ctrue (by rw [hf];rfl) .pure)
 | true =>
  obtain⟨v,f,h1,h2⟩:=turns2_ev (hl.2 hf) hl.1
  refine⟨(if f then v else 0,f),fun hs hp => ?_,fun hs hp => ?_⟩
  ·refine Evt.eq (f:=fun k q=>_) ?_ (fun k q=>by rw [impl_windingOf])
   exact Evt.bind (boundaryReasons_ev hs hp hD) (Evt.cfalse (by rw [hf];rfl) (Evt.bind h2 .pure))
  ·refine Evt.bind (imAll_ev hs hp hD) (Evt.cfalse (by rw [hf];rfl) (Evt.bind h1 ?_))
   cases f with
   | true=>exact Evt.cfalse rfl .pure
   | false=>exact Evt.ctrue rfl .pure
end Go.Ev.G

namespace Go.Ev.G
open Go Go.Ev

theorem dgo_val(s:List (List Tm))(b:Bx)(h:planeV s b=true):∃v:Int×Bool,(Pl s→plV b=true→Evt (fun k _=>impl_degreeOver k s b) v)∧(s.length<lenB→(∀r∈s,r.length<lenB)→b.2.1.length<lenB→Evt (fun k _=>spec_dgPlane k s b) v):=by
 cases hf:(List.range 6).find? (fun D=>(allV s b D).2)with
 | none =>
  refine⟨(0,false),fun hs hp => ?_,fun hb hm hx => ?_⟩
  ·refine Evt.eq (f:=fun k q=>_) ?_ (fun k q=>by rw [impl_degreeOver])
   have:=leastDepth_ev hs hp
   rw [hf]at this
   exact Evt.bind this (Evt.ctrue rfl .pure)
  ·refine Evt.eq (f:=fun k q=>_) ?_ (fun k q=>by rw [spec_dgPlane])
   have:=spec_leastDepth_ev hb hm hx
   unfold ldV at this
   rw [if_pos h,hf]at this
   exact Evt.bind this (Evt.ctrue rfl .pure)
 | some j =>
  have hj:j≤5:=by
   have:=List.mem_range.1 (List.mem_of_find?_eq_some hf)
   omega
  obtain⟨v,h1,h2⟩:=winding_val s b hj
  refine⟨v,fun hs hp => ?_,fun hb hm hx => ?_⟩
  ·refine Evt.eq (f:=fun k q=>_) ?_ (fun k q=>by rw [impl_degreeOver])
   have:=leastDepth_ev hs hp
   rw [hf]at this
   exact Evt.bind this (Evt.cfalse rfl (Evt.bind (h1 hs hp) .pure))
  ·refine Evt.eq (f:=fun k q=>_) ?_ (fun k q=>by rw [spec_dgPlane])
   have:=spec_leastDepth_ev hb hm hx
   unfold ldV at this
   rw [if_pos h,hf]at this
   refine Evt.bind this (Evt.cfalse rfl (Evt.bind ?_ .pure))
   refine Evt.eq (f:=fun k q=>_) ?_ (fun k q=>by rw [spec_WindingOf])
   have ha:askV s b (j:Int)=true:=by
    unfold askV
    rw [h,decide_eq_true (by omega)]
    rfl
   refine spec_ask hb hm hx (fun h'=>by rw [ha]at h'; cases h') (fun _ => ?_)
   obtain⟨hs,hp⟩:=planeV_form h hm
   exact h2 hs hp
theorem degreeOver_val(s:List (List Tm))(b:Bx):∃v:Int×Bool,(s.length<lenB→(∀r∈s,r.length<lenB)→b.2.1.length<lenB→Evt (fun k _=>spec_DegreeOver k s b) v)∧(s.length<lenB→(∀r∈s,r.length<lenB)→b.2.1.length<lenB→Evt (fun k _=>impl_DegreeOver k s b) v):=by
 cases h:planeV s b with
 | false =>
  refine⟨(0,false),fun hb hm hx => ?_,fun hb hm hx => ?_⟩
  ·refine Evt.eq (f:=fun k q=>_) ?_ (fun k q=>by rw [spec_DegreeOver])
   exact Evt.bind (imGood_ev hb hm hx) (Evt.ctrue (by rw [h];rfl) .pure)
  ·refine Evt.eq (f:=fun k q=>_) ?_ (fun k q=>by rw [impl_DegreeOver])
   exact Evt.bind (isPlane_ev hb hm hx) (Evt.ctrue (by rw [h];rfl) .pure)
 | true =>
  obtain⟨v,h1,h2⟩:=dgo_val s b h
  refine⟨v,fun hb hm hx => ?_,fun hb hm hx => ?_⟩
  ·refine Evt.eq (f:=fun k q=>_) ?_ (fun k q=>by rw [spec_DegreeOver])
   exact Evt.bind (imGood_ev hb hm hx) (Evt.cfalse (by rw [h];rfl) (Evt.bind (h2 hb hm hx) .pure))
  ·refine Evt.eq (f:=fun k q=>_) ?_ (fun k q=>by rw [impl_DegreeOver])
   obtain⟨hs,hp⟩:=planeV_form h hm
   exact Evt.bind (isPlane_ev hb hm hx) (Evt.cfalse (by rw [h];rfl) (Evt.bind (h1 hs hp) .pure))
end Go.Ev.G

namespace Go.Ev.G
open Go Go.Ev
set_option maxRecDepth 100000

def kLt(a b:Tm):Prop:=keyT a<keyT b
def Sp(R l:List Tm):Prop:=R.Pairwise kLt∧R.Perm (l.filter nzT)
theorem Sp_uniq{R S l:List Tm}(h:Sp R l)(h':Sp S l):R=S:=by
 refine List.Perm.eq_of_pairwise (le:=kLt) ?_ h.1 h'.1 (h.2.trans h'.2.symm)
 intro a b _ _ h1 h2
 unfold kLt at h1 h2
 omega
theorem tmGd_ex{t:Tm}(h:tmGd t):exOk t:=⟨h.2.1,h.2.2.1,h.2.2.2.1⟩

theorem collect_to{l W:List Tm}(hb:l.length≤20)(hg:∀t∈l,tmGd t)(hd:l.Pairwise fun a b=>keyT a≠keyT b)(hW:Sp W l):Evt (fun k _=>impl_collect k l) W:=by
 have hx:∀t∈l,exOk t:=fun t ht=>tmGd_ex (hg t ht)
 obtain⟨Y,q1,q2,q3⟩:=stable_ev hb hx
 refine Evt.eq (f:=fun k q=>_) ?_ (fun k q=>by rw [impl_collect])
 have hcl:slices_Clone_Term_Term l=some l:=by
  unfold slices_Clone_Term_Term
  rw [decide_eq_true (by simp;omega)]
  rfl
 have hl:=q1.length_eq
 have hm:=merge_ev (xs:=Y) (by omega) (fun t ht=>by have:=(hg t (q1.mem_iff.1 ht)).1;omega)
 have hlen:(mgR none Y).length<lenB:=by
  have:=mgR_len Y none
  simp only [lenB];omega
 refine Evt.bind (.const hcl) (Evt.bind q3 (Evt.inr (Evt.diag hm) (Evt.bind (delete_ev hlen) ?_)))
 have hYd:Y.Pairwise fun a b=>keyT a≠keyT b:=q1.symm.pairwise hd (fun {a b} h h'=>h h'.symm)
 have hYs:Y.Pairwise kLt:=by
  refine(q2.and hYd).imp ?_
  intro a b h
  have h1:=h.1
  have h2:=h.2
  unfold kLt
  omega
 have hYf:(Y.filter nzT).Pairwise kLt:=hYs.filter _
 have hg:(mgR none Y).filter nzT=Y.filter nzT:=by
  cases Y with
  | nil=>rfl
  | cons t r=>exact mgR_filter r t (fun u hu=>hx u (q1.mem_iff.1 hu)) q2 hYf
 rw [hg,Sp_uniq (R:=Y.filter nzT) (S:=W) (l:=l) ⟨hYf,q1.filter _⟩ hW]
 exact .pure

theorem put_loop{t:Tm}{B:List Tm}(ht:tmGd t)(hB:∀b,B.head? = some b → ¬ keyT b<keyT t):∀(r d:List Tm),(d++r++B).length<lenB→(∀a∈d++r++B,tmGd a)→(∀a∈r,keyT a<keyT t) →
  Evt (fun k n=>spec_poPut_L28 k n (d++r++B) t d.length) (.inr (d++r++B,t,((d++r).length:Int),())):=by
 intro r
 induction r with
 | nil =>
  intro d hb hg hr
  rw [List.append_nil]at hb hg ⊢
  refine Evt.step (fun k n=>spec_poPut_L28.eq_2 k _ _ _ n) ?_
  cases B with
  | nil =>
   rw [List.append_nil]
   exact Evt.cfalse (decide_eq_false (by simp)) .pure
  | cons b B =>
   have h1:=hB b rfl
   have gb:=hg b (by simp)
   refine Evt.ctrue mid_lt (Evt.ctrue mid_ge (Evt.ctrue mid_lt ?_))
   rw [mid_get]
   have h2 : ¬ lexI b t<0:=fun h=>h1 ((lexI_lt (tmGd_ex gb) (tmGd_ex ht)).1 h)
   exact Evt.bind (.const (poOrder_eq gb ht)) (Evt.cfalse (decide_eq_false h2) .pure)
 | cons e r ih =>
  intro d hb hg hr
  have ih:=ih (d ++ [e]) (by simpa using hb) (by simpa using hg) (fun a ha=>hr a (by simp [ha]))
  have e0:d ++ [e]++r++B=d++e::(r++B):=by simp
  have e1:d++e::r++B=d++e::(r++B):=by simp
  rw [e0]at ih
  rw [e1]at hb hg ⊢
  rw [←len_next (r:=r++B) hb]at ih
  have e2:(d ++ [e]++r).length=(d++e::r).length:=by simp
  rw [e2]at ih
  have ge:=hg e (by simp)
  refine Evt.step (fun k n=>spec_poPut_L28.eq_2 k _ _ _ n) (Evt.ctrue mid_lt (Evt.ctrue mid_ge (Evt.ctrue mid_lt ?_)))
  rw [mid_get]
  have h2:lexI e t<0:=(lexI_lt (tmGd_ex ge) (tmGd_ex ht)).2 (hr e (by simp))
  exact Evt.bind (.const (poOrder_eq ge ht)) (Evt.ctrue (decide_eq_true h2) ih)
theorem split_at(t:Tm):∀(R:List Tm),R.Pairwise kLt→(∀r∈R,keyT r≠keyT t)→∃A B,R=A++B∧(∀a∈A,keyT a<keyT t)∧∀b∈B,keyT t<keyT b
 | [],_,_=>⟨[],[],rfl,by simp,by simp⟩
 | r::R,hs,hn=>by
  obtain⟨s1,s2⟩:=List.pairwise_cons.1 hs
  by_cases h:keyT r<keyT t
  ·obtain⟨A,B,e,a1,b1⟩:=split_at t R s2 (fun x hx=>hn x (by simp [hx]))
   refine⟨r::A,B,by rw [e];rfl,?_,b1⟩
   intro a ha
   rcases List.mem_cons.1 ha with rfl | ha
   ·exact h
   ·exact a1 a ha
  ·have h2:=hn r (by simp)
   refine⟨[],r::R,rfl,by simp,?_⟩
   intro b hb
   rcases List.mem_cons.1 hb with rfl | hb
   ·omega
   ·have:=s1 b hb
    unfold kLt at this
    omega
theorem poPut_ev{R l:List Tm}{t:Tm}(hR:Sp R l)(hb:R.length≤100)(hg:∀r∈l,tmGd r)(ht:tmGd t)(hz:t.1≠0)(hn:∀r∈l,keyT r≠keyT t):∃R',Evt (fun k _=>spec_poPut k R t) R'∧Sp R' (l ++ [t])∧R'.length=R.length+1:=by
 have hm:∀r∈R,r∈l:=fun r hr=>(List.mem_filter.1 (hR.2.mem_iff.1 hr)).1
 obtain⟨A,B,rfl,a1,b1⟩:=split_at t R hR.1 (fun r hr=>hn r (hm r hr))
 have hlen:(A++B).length<lenB:=by simp only [lenB];omega
 have hl:=put_loop (t:=t) (B:=B) ht (by
  intro b hb
  cases B with
  | nil=>cases hb
  | cons c B=>cases hb;have:=b1 b (by simp);omega) A [] (by simpa using hlen) (fun a ha=>hg a (hm a (by simpa using ha))) a1
 simp only [List.nil_append,List.length_nil]at hl
 have hal:A.length≤100:=by simp at hb;omega
 refine⟨A++t::B,Evt.eq (f:=fun k q=>_) ?_ (fun k q=>by rw [spec_poPut]),⟨?_,?_⟩,by simp;omega⟩
 ·refine Evt.inr (Evt.diag hl) ?_
  simp only
  refine Evt.ctrue mid_ge (Evt.ctrue (decide_eq_true (by simp <;> omega)) ?_)
  have e1:Int.toNat (A.length:Int)=A.length:=by omega
  have e2:Int.toNat ((A++B).length:Int)=(A++B).length:=by omega
  have e3:((A++B).take (A++B).length).drop A.length=B:=by rw [List.take_length];simp
  have e4:((A++B).take A.length).drop 0=A:=by simp
  refine Evt.inr (y:=(A++B,t,(A.length:Int),B,())) ?_ ?_
  ·rw [e1,e2,e3]
   cases B with
   | nil=>exact Evt.cfalse (decide_eq_false (by simp)) .pure
   | cons b B =>
    have gb:=hg b (hm b (by simp))
    have h2 : ¬ lexI b t=0:=fun h=>by
     have:=lexI_zero.1 h
     have h3:=b1 b (by simp)
     unfold keyT at h3
     rw [this]at h3
     omega
    have e5:(A++b::B).getD A.length (0,0,0,0)=b:=by simp
    rw [e5]
    refine Evt.ctrue mid_lt (Evt.ctrue mid_ge (Evt.ctrue mid_lt (Evt.bind (.const (poOrder_eq gb ht)) (Evt.cfalse (by simpa using h2) .pure))))
  ·simp only
   rw [e1,e4]
   refine Evt.ctrue mid_ge (Evt.ctrue (decide_eq_true (by simp <;> omega)) (Evt.ctrue (decide_eq_true (by simp;omega)) ?_))
   refine Evt.inr (y:=(B,A ++ [t],())) ?_ ?_
   ·exact Evt.ctrue (by simpa using hz) (Evt.ctrue (decide_eq_true (by simp;omega)) .pure)
   ·simp only
    have e6:A ++ [t]++B=A++t::B:=by simp
    rw [e6]
    exact Evt.ctrue (decide_eq_true (by simp at hb ⊢; omega)) .pure
 ·have hs:=List.pairwise_append.1 hR.1
  refine List.pairwise_append.2 ⟨hs.1,List.pairwise_cons.2 ⟨fun b hb=>b1 b hb,hs.2.1⟩,?_⟩
  intro a ha b hb
  rcases List.mem_cons.1 hb with rfl | hb
  ·exact a1 a ha
  ·exact hs.2.2 a ha b hb
 ·have hnz:nzT t=true:=by unfold nzT;simpa using hz
  rw [List.filter_append]
  have : [t].filter nzT = [t]:=by simp [hnz]
  rw [this]
  exact List.perm_middle.trans ((List.Perm.cons t hR.2).trans (List.perm_append_singleton t _).symm)
end Go.Ev.G

namespace Go.Ev.G
open Go Go.Ev
set_option maxRecDepth 100000

def rotN:Nat→Int×Int→Int×Int
 | 0,p=>p
 | m+1,p=>rotN m (-p.2,p.1)
def chN:Nat→Nat→Nat
 | _,0=>1
 | 0,_+1=>0
 | n+1,j+1=>chN n j+chN n (j+1)
def reT(n j:Nat)(c:Int×Int):Tm:=((rotN j (c.1*chN n j,c.2*chN n j)).1,((n - j:Nat):Int),(j:Int),0)
def imT(n j:Nat)(c:Int×Int):Tm:=((rotN j (c.1*chN n j,c.2*chN n j)).2,((n - j:Nat):Int),(j:Int),0)
theorem rotN_mul(w:Int):∀(m:Nat) (p:Int×Int),rotN m (p.1*w,p.2*w)=((rotN m p).1*w,(rotN m p).2*w)
 | 0,p=>rfl
 | m+1,p=>by
  have h:=rotN_mul w m (-p.2,p.1)
  simp only [rotN]
  rw [←h,Int.neg_mul]
theorem rotN_bd:∀(m:Nat) (p:Int×Int) (B:Nat),p.1.natAbs≤B→p.2.natAbs≤B→(rotN m p).1.natAbs≤B∧(rotN m p).2.natAbs≤B
 | 0,p,B,h1,h2=>⟨h1,h2⟩
 | m+1,p,B,h1,h2=>rotN_bd m (-p.2,p.1) B (by simpa using h2) h1
theorem nj_cases{n j:Nat}(hn:n≤4)(hj:j≤n){P:Nat→Nat→Prop}(h:∀a ∈ [(0,0),(1,0),(1,1),(2,0),(2,1),(2,2),(3,0),(3,1),(3,2),(3,3),(4,0),(4,1),(4,2),(4,3),(4,4)],P a.1 a.2):P n j:=by
 rcases(by omega:n=0∨n=1∨n=2∨n=3∨n=4)with rfl | rfl | rfl | rfl | rfl
 ·obtain rfl:j=0:=by omega
  exact h (0,0) (by simp)
 ·rcases(by omega:j=0∨j=1)with rfl | rfl
  ·exact h (1,0) (by simp)
  ·exact h (1,1) (by simp)
 ·rcases(by omega:j=0∨j=1∨j=2)with rfl | rfl | rfl
  ·exact h (2,0) (by simp)
  ·exact h (2,1) (by simp)
  ·exact h (2,2) (by simp)
 ·rcases(by omega:j=0∨j=1∨j=2∨j=3)with rfl | rfl | rfl | rfl
  ·exact h (3,0) (by simp)
  ·exact h (3,1) (by simp)
  ·exact h (3,2) (by simp)
  ·exact h (3,3) (by simp)
 ·rcases(by omega:j=0∨j=1∨j=2∨j=3∨j=4)with rfl | rfl | rfl | rfl | rfl
  ·exact h (4,0) (by simp)
  ·exact h (4,1) (by simp)
  ·exact h (4,2) (by simp)
  ·exact h (4,3) (by simp)
  ·exact h (4,4) (by simp)
theorem chN_bd{n j:Nat}(hn:n≤4)(hj:j≤n):1≤chN n j∧chN n j≤6:=nj_cases (P:=fun n j=>1≤chN n j∧chN n j≤6) hn hj (by decide)
theorem choose_ev{n j:Nat}(hn:n≤4)(hj:j≤n):Evt (fun k _=>impl_choose k (n:Int) (j:Int)) (chN n j:Int):=by
 refine evt_100 (fun k => ?_)
 refine nj_cases (P:=fun n j=>impl_choose (k+100) (n:Int) (j:Int)=some (chN n j:Int)) hn hj ?_
 simp only [List.mem_cons,List.not_mem_nil,or_false,forall_eq_or_imp,forall_eq]
 exact⟨by kernel_rfl,by kernel_rfl,by kernel_rfl,by kernel_rfl,by kernel_rfl,by kernel_rfl,by kernel_rfl,by kernel_rfl,by kernel_rfl,by kernel_rfl,by kernel_rfl,by kernel_rfl,by kernel_rfl,by kernel_rfl,by kernel_rfl⟩
theorem beChoose_ev{n j:Nat}(hn:n≤4)(hj:j≤n):Evt (fun k _=>spec_beChoose k (n:Int) (j:Int)) (chN n j:Int):=by
 refine evt_100 (fun k => ?_)
 refine nj_cases (P:=fun n j=>spec_beChoose (k+100) (n:Int) (j:Int)=some (chN n j:Int)) hn hj ?_
 simp only [List.mem_cons,List.not_mem_nil,or_false,forall_eq_or_imp,forall_eq]
 exact⟨by kernel_rfl,by kernel_rfl,by kernel_rfl,by kernel_rfl,by kernel_rfl,by kernel_rfl,by kernel_rfl,by kernel_rfl,by kernel_rfl,by kernel_rfl,by kernel_rfl,by kernel_rfl,by kernel_rfl,by kernel_rfl,by kernel_rfl⟩

structure Ok(n j:Nat)(l:List Tm):Prop where
 gd:∀t∈l,tmGd t
 er:∀t∈l,t.2.1+t.2.2.1<n∨(t.2.1+t.2.2.1=n∧t.2.2.1<j)
 z:∀t∈l,t.2.2.2=0
 pw:l.Pairwise fun a b=>keyT a≠keyT b
 len:2*l.length≤n*(n+1)+2*j
theorem Ok.key{n j:Nat}{l:List Tm}(h:Ok n j l)(hn:n≤4)(hj:j≤n){t:Tm}(ht:t.2=(((n - j:Nat):Int),(j:Int),0)):∀r∈l,keyT r≠keyT t:=by
 intro r hr
 have g:=h.gd r hr
 have e:=h.er r hr
 have z:=h.z r hr
 unfold keyT
 rw [ht,z]
 simp only
 obtain⟨_,g1,g2,_,_⟩:=g
 omega
theorem Ok.snoc{n j:Nat}{l:List Tm}(h:Ok n j l)(hn:n≤4)(hj:j≤n){t:Tm}(ht:t.2=(((n - j:Nat):Int),(j:Int),0))(hc:t.1.natAbs≤1000):tmGd t∧Ok n (j+1) (l ++ [t]):=by
 have e1:t.2.1=((n - j:Nat):Int):=by rw [ht]
 have e2:t.2.2.1=(j:Int):=by rw [ht]
 have e3:t.2.2.2=0:=by rw [ht]
 have g:tmGd t:=by
  refine⟨by omega,by omega,by omega,by omega,by omega⟩
 refine⟨g,⟨?_,?_,?_,?_,?_⟩⟩
 ·intro r hr
  rcases List.mem_append.1 hr with hr | hr
  ·exact h.gd r hr
  ·rw [List.mem_singleton.1 hr];exact g
 ·intro r hr
  rcases List.mem_append.1 hr with hr | hr
  ·have:=h.er r hr
   omega
  ·rw [List.mem_singleton.1 hr]
   omega
 ·intro r hr
  rcases List.mem_append.1 hr with hr | hr
  ·exact h.z r hr
  ·rw [List.mem_singleton.1 hr];exact e3
 ·refine List.pairwise_append.2 ⟨h.pw,List.pairwise_singleton _ _,?_⟩
  intro a ha b hb
  rw [List.mem_singleton.1 hb]
  exact h.key hn hj ht a ha
 ·have:=h.len
  rw [List.length_append,List.length_singleton]
  omega
theorem Ok.next{n:Nat}{l:List Tm}(h:Ok n (n+1) l):Ok (n+1) 0 l:=by
 refine⟨h.gd,fun t ht=>by have:=h.er t ht;omega,h.z,h.pw,?_⟩
 have:=h.len
 have e:(n+1)*(n+1+1)=n*(n+1)+2*(n+1):=by rw [Nat.mul_comm,Nat.add_mul,Nat.add_mul];omega
 omega
theorem Ok.nil:Ok 0 0 []:=⟨by simp,by simp,by simp,List.Pairwise.nil,by simp⟩

theorem rot_loop(x4 x5:List Tm)(x6:Int)(x7:List Int)(x8:Int)(x12:List (List Int))(x13 x14 x20 x21:Int){j:Nat}(hj:j≤4):∀(m i:Nat) (p:Int×Int),i+m=j→p.1.natAbs≤1000→p.2.natAbs≤1000 →
  Evt (fun k n=>impl_complexSystem_L15309210 k n x4 x5 x6 x7 x8 p.1 p.2 x12 x13 x14 x20 x21 (j:Int) (i:Int)) (.inr (x4,x5,x6,x7,x8,(rotN m p).1,(rotN m p).2,x12,x13,x14,x20,x21,())):=by
 intro m
 induction m with
 | zero =>
  intro i p h _ _
  refine Evt.step (fun k n=>impl_complexSystem_L15309210.eq_2 k _ _ _ _ _ _ _ _ _ _ _ _ _ _ n) ?_
  exact Evt.cfalse (decide_eq_false (by omega)) .pure
 | succ m ih =>
  intro i p h h1 h2
  have ih:=ih (i+1) (-p.2,p.1) (by omega) (by simpa using h2) h1
  refine Evt.step (fun k n=>impl_complexSystem_L15309210.eq_2 k _ _ _ _ _ _ _ _ _ _ _ _ _ _ n) ?_
  rw [w64_next (by simp only [lenB];omega),show(0:Int) - p.2 = -p.2 by omega,w64 (n := -p.2) (by omega) (by omega)]
  exact Evt.ctrue (decide_eq_true (by omega)) ih

def reR(n:Nat)(c:Int×Int)(j m:Nat):List Tm:=(List.range' j m).map fun i=>reT n i c
def imR'(n:Nat)(c:Int×Int)(j m:Nat):List Tm:=(List.range' j m).map fun i=>imT n i c
def cOk(c:Int×Int):Prop:=c.1.natAbs≤100∧c.2.natAbs≤100
theorem cMul{n j:Nat}{c:Int×Int}(hn:n≤4)(hj:j≤n)(hc:cOk c):(c.1*chN n j).natAbs≤600∧(c.2*chN n j).natAbs≤600:=by
 have h:=(chN_bd hn hj).2
 rw [Int.natAbs_mul,Int.natAbs_mul]
 exact⟨Nat.mul_le_mul hc.1 h,Nat.mul_le_mul hc.2 h⟩
theorem impl_inner{n0:Nat}(hn:n0≤4){a b:Int}(hc:cOk (a,b))(x12:List (List Int))(x13 x14:Int):∀(m j:Nat) (re im:List Tm),j+m=n0+1→re.length+m≤1000→im.length+m≤1000 →
  Evt (fun k n=>impl_complexSystem_L14950 k n re im (n0:Int) [a,b] x12 x13 x14 ((n0+1:Nat):Int) (j:Int)) (.inr (re++reR n0 (a,b) j m,im++imR' n0 (a,b) j m,x12,x13,x14,())):=by
 intro m
 induction m with
 | zero =>
  intro j re im h _ _
  refine Evt.step (fun k n=>impl_complexSystem_L14950.eq_2 k _ _ _ _ _ _ _ _ _ n) ?_
  simp only [reR,imR',List.range'_zero,List.map_nil,List.append_nil]
  exact Evt.cfalse (decide_eq_false (by omega)) .pure
 | succ m ih =>
  intro j re im h h1 h2
  have ih:=ih (j+1) (re ++ [reT n0 j (a,b)]) (im ++ [imT n0 j (a,b)]) (by omega) (by simp;omega) (by simp;omega)
  have e1:re ++ [reT n0 j (a,b)]++reR n0 (a,b) (j+1) m=re++reR n0 (a,b) j (m+1):=by simp [reR,List.range'_succ]
  have e2:im ++ [imT n0 j (a,b)]++imR' n0 (a,b) (j+1) m=im++imR' n0 (a,b) j (m+1):=by simp [imR',List.range'_succ]
  rw [e1,e2]at ih
  obtain⟨m1,m2⟩:=cMul (j:=j) hn (by omega) hc
  simp only at m1 m2
  have hr:=rot_loop re im (n0:Int) [a,b] (j:Int) x12 x13 x14 ((n0+1:Nat):Int) (j:Int) (j:=j) (by omega) j 0 (a*chN n0 j,b*chN n0 j) (by omega) (by simp only;omega) (by simp only;omega)
  simp only at hr
  have hch:=choose_ev (j:=j) hn (by omega)
  refine Evt.step (fun k n=>impl_complexSystem_L14950.eq_2 k _ _ _ _ _ _ _ _ _ n) ?_
  refine Evt.ctrue (decide_eq_true (by omega)) (Evt.ctrue (by simp) (Evt.bind hch (Evt.ctrue (by simp) (Evt.bind hch ?_))))
  have g0:([a,b]:List Int).getD 0 0=a:=rfl
  have g1:([a,b]:List Int).getD 1 0=b:=rfl
  rw [g0,g1,w64 (n:=a*chN n0 j) (by omega) (by omega),w64 (n:=b*chN n0 j) (by omega) (by omega)]
  refine Evt.inr (Evt.diag hr) ?_
  simp only
  have e3:(n0:Int) - (j:Int)=((n0 - j:Nat):Int):=by omega
  rw [e3,w64 (n:=((n0 - j:Nat):Int)) (by omega) (by omega),w64_next (by simp only [lenB];omega)]
  exact Evt.ctrue (decide_eq_true (by simp;omega)) (Evt.ctrue (decide_eq_true (by simp;omega)) ih)

def rowOk(r:List Int):Prop:=∃a b,r = [a,b]∧cOk (a,b)
def co(r:List Int):Int×Int:=(r.getD 0 0,r.getD 1 0)
def reL:Nat→List (List Int)→List Tm
 | _,[] => []
 | n,r::rs=>reR n (co r) 0 (n+1)++reL (n+1) rs
def imL:Nat→List (List Int)→List Tm
 | _,[] => []
 | n,r::rs=>imR' n (co r) 0 (n+1)++imL (n+1) rs
theorem impl_outer{a:List (List Int)}(hl:a.length≤5)(hr:∀r∈a,rowOk r):∀(r d:List (List Int)) (re im:List Tm),d++r=a→re.length≤10*d.length→im.length≤10*d.length →
  Evt (fun k n=>impl_complexSystem_L58 k n re im a (a.length:Int) d.length) (.inr (re++reL d.length r,im++imL d.length r,())):=by
 intro r
 induction r with
 | nil =>
  intro d re im hd _ _
  rw [List.append_nil]at hd
  subst hd
  refine Evt.step (fun k n=>impl_complexSystem_L58.eq_2 k _ _ _ _ _ n) ?_
  simp only [reL,imL,List.append_nil]
  exact Evt.cfalse (by simp) .pure
 | cons e r ih =>
  intro d re im hd h1 h2
  have hxl:=congrArg List.length hd
  simp at hxl
  obtain⟨p,q,rfl,hc⟩:=hr e (by rw [←hd];simp)
  have hi:=impl_inner (n0:=d.length) (by omega) hc a (a.length:Int) (d.length:Int) (d.length+1) 0 re im (by omega) (by omega) (by omega)
  have ih:=ih (d ++ [[p,q]]) (re++reR d.length (p,q) 0 (d.length+1)) (im++imR' d.length (p,q) 0 (d.length+1)) (by simpa using hd) (by simp [reR];omega) (by simp [imR'];omega)
  rw [←len_next (r:=r) (by rw [hd];simp only [lenB];omega)]at ih
  have ec:co [p,q]=(p,q):=rfl
  have e1:re++reR d.length (p,q) 0 (d.length+1)++reL (d ++ [[p,q]]).length r=re++reL d.length ([p,q]::r):=by simp [reL,ec]
  have e2:im++imR' d.length (p,q) 0 (d.length+1)++imL (d ++ [[p,q]]).length r=im++imL d.length ([p,q]::r):=by simp [imL,ec]
  rw [e1,e2]at ih
  have g:a.getD (Int.toNat (d.length:Int)) [] = [p,q]:=by rw [←hd];exact mid_get
  refine Evt.step (fun k n=>impl_complexSystem_L58.eq_2 k _ _ _ _ _ n) ?_
  rw [g,w64_next (m:=d.length) (by simp only [lenB];omega)]
  refine Evt.ctrue (decide_eq_true (by omega)) (Evt.ctrue mid_ge (Evt.ctrue (decide_eq_true (by omega)) (Evt.inr (Evt.diag hi) ?_)))
  exact ih
end Go.Ev.G

namespace Go.Ev.G
open Go Go.Ev
set_option maxRecDepth 100000

theorem put_step{n j:Nat}{R l:List Tm}{t:Tm}(hn:n≤4)(hj:j≤n)(h:Ok n j l)(hR:Sp R l)(hb:R.length≤100)(ht:t.2=(((n - j:Nat):Int),(j:Int),0))(hc:t.1.natAbs≤1000) :
  ∃R',Sp R' (l ++ [t])∧R'.length≤R.length+1∧(t.1≠0→Evt (fun k _=>spec_poPut k R t) R')∧(t.1=0→R'=R):=by
 by_cases hz:t.1=0
 ·refine⟨R,⟨hR.1,?_⟩,by omega,fun h=>absurd hz h,fun _=>rfl⟩
  have : [t].filter nzT = []:=by simp [nzT,hz]
  rw [List.filter_append,this,List.append_nil]
  exact hR.2
 ·obtain⟨R',e,s,hl⟩:=poPut_ev hR hb h.gd (h.snoc hn hj ht hc).1 hz (h.key hn hj ht)
  exact⟨R',s,by omega,fun _=>e,fun h=>absurd h hz⟩

theorem spec_inner{n0:Nat}(hn:n0≤4){a b:Int}(hc:cOk (a,b))(x13:List (List Int))(x14 x15:Int):∀(m j:Nat) (R I lr li:List Tm),j+m=n0+1→R.length+m≤100→I.length+m≤100→Ok n0 j lr→Ok n0 j li→Sp R lr→Sp I li →
  ∃R' I',Sp R' (lr++reR n0 (a,b) j m)∧Sp I' (li++imR' n0 (a,b) j m)∧R'.length≤R.length+m∧I'.length≤I.length+m∧Ok n0 (n0+1) (lr++reR n0 (a,b) j m)∧Ok n0 (n0+1) (li++imR' n0 (a,b) j m) ∧
   Evt (fun k n=>spec_dgParted_L14950 k n R I (n0:Int) [a,b] (j:Int) x13 x14 x15) (.inr (R',I',x13,x14,x15,())):=by
 intro m
 induction m with
 | zero =>
  intro j R I lr li h _ _ o1 o2 s1 s2
  have hj:j=n0+1:=by omega
  subst hj
  refine⟨R,I,by simpa [reR] using s1,by simpa [imR'] using s2,by omega,by omega,by simpa [reR] using o1,by simpa [imR'] using o2,?_⟩
  refine Evt.step (fun k n=>spec_dgParted_L14950.eq_2 k _ _ _ _ _ _ _ _ n) ?_
  exact Evt.cfalse (decide_eq_false (by omega)) .pure
 | succ m ih =>
  intro j R I lr li h h1 h2 o1 o2 s1 s2
  have hj:j≤n0:=by omega
  obtain⟨m1,m2⟩:=cMul (j:=j) hn hj hc
  simp only at m1 m2
  obtain⟨b1,b2⟩:=rotN_bd j (a*chN n0 j,b*chN n0 j) 600 m1 m2
  obtain⟨q1,q2⟩:=rotN_bd j (a,b) 100 hc.1 hc.2
  have hch:=chN_bd hn hj
  have er:(reT n0 j (a,b)).1=(rotN j (a,b)).1*chN n0 j:=by
   show(rotN j (a*chN n0 j,b*chN n0 j)).1=_
   rw [rotN_mul (chN n0 j:Int) j (a,b)]
  have ei:(imT n0 j (a,b)).1=(rotN j (a,b)).2*chN n0 j:=by
   show(rotN j (a*chN n0 j,b*chN n0 j)).2=_
   rw [rotN_mul (chN n0 j:Int) j (a,b)]
  have br:(reT n0 j (a,b)).1.natAbs≤1000:=by show(rotN j (a*chN n0 j,b*chN n0 j)).1.natAbs≤1000;omega
  have bi:(imT n0 j (a,b)).1.natAbs≤1000:=by show(rotN j (a*chN n0 j,b*chN n0 j)).2.natAbs≤1000;omega
  obtain⟨R',sR,lR,eR,zR⟩:=put_step hn hj o1 s1 (t:=reT n0 j (a,b)) (by omega) rfl br
  obtain⟨I',sI,lI,eI,zI⟩:=put_step hn hj o2 s2 (t:=imT n0 j (a,b)) (by omega) rfl bi
  have k1:=(o1.snoc hn hj (t:=reT n0 j (a,b)) rfl br).2
  have k2:=(o2.snoc hn hj (t:=imT n0 j (a,b)) rfl bi).2
  obtain⟨R2,I2,c1,c2,c3,c4,c5,c6,c7⟩:=ih (j+1) R' I' _ _ (by omega) (by omega) (by omega) k1 k2 sR sI
  have e1:lr ++ [reT n0 j (a,b)]++reR n0 (a,b) (j+1) m=lr++reR n0 (a,b) j (m+1):=by simp [reR,List.range'_succ]
  have e2:li ++ [imT n0 j (a,b)]++imR' n0 (a,b) (j+1) m=li++imR' n0 (a,b) j (m+1):=by simp [imR',List.range'_succ]
  rw [e1]at c1 c5
  rw [e2]at c2 c6
  refine⟨R2,I2,c1,c2,by omega,by omega,c5,c6,?_⟩
  have e3:(n0:Int) - (j:Int)=((n0 - j:Nat):Int):=by omega
  have ej:IntKind.wrap .i64 ((j:Int)+1)=((j+1:Nat):Int):=w64_next (by simp only [lenB];omega)
  have nz:∀x:Int,x*chN n0 j=0↔x=0:=fun x=>⟨fun h=>by
   rcases Int.mul_eq_zero.1 h with h | h
   ·exact h
   ·omega,fun h=>by rw [h,Int.zero_mul]⟩
  have wr:IntKind.wrap .i64 ((rotN j (a,b)).1*chN n0 j)=(reT n0 j (a,b)).1:=by rw [←er];exact w64 (by omega) (by omega)
  have wi:IntKind.wrap .i64 ((rotN j (a,b)).2*chN n0 j)=(imT n0 j (a,b)).1:=by rw [←ei];exact w64 (by omega) (by omega)
  refine Evt.step (fun k n=>spec_dgParted_L14950.eq_2 k _ _ _ _ _ _ _ _ n) ?_
  refine Evt.ctrue (decide_eq_true (by omega)) (Evt.bind (beChoose_ev hn hj) (Evt.ctrue (by simp) (Evt.ctrue (by simp) ?_)))
  refine Evt.inr (y:=(R,I,(n0:Int),[a,b],(j:Int),((chN n0 j:Int),((n0 - j:Nat):Int),(j:Int),0),(rotN j (a,b)).1,(rotN j (a,b)).2,x13,x14,x15,())) (Evt.const ?_) ?_
  ·have g0:([a,b]:List Int).getD 0 0=a:=rfl
   have g1:([a,b]:List Int).getD 1 0=b:=rfl
   have ha:=hc.1
   have hb:=hc.2
   simp only at ha hb
   rw [g0,g1,e3,w64 (n:=((n0 - j:Nat):Int)) (by omega) (by omega),w64 (n:=0 - a) (by omega) (by omega),w64 (n:=0 - b) (by omega) (by omega),show 0 - a = -a by omega,show 0 - b = -b by omega]
   rcases(by omega:j=0∨j=1∨j=2∨j=3∨j=4)with rfl | rfl | rfl | rfl | rfl
   ·rfl
   ·rfl
   ·rfl
   ·simp only [rotN,Int.neg_neg];rfl
   ·simp only [rotN,Int.neg_neg];rfl
  ·simp only
   refine Evt.inr (y:=(R',I,(n0:Int),[a,b],(j:Int),((chN n0 j:Int),((n0 - j:Nat):Int),(j:Int),0),(rotN j (a,b)).2,x13,x14,x15,())) ?_ ?_
   ·by_cases hx:(rotN j (a,b)).1=0
    ·have hz:=zR (by rw [er,hx,Int.zero_mul])
     rw [hz]
     exact Evt.cfalse (by simpa using hx) .pure
    ·refine Evt.ctrue (by simpa using hx) ?_
     rw [wr]
     exact Evt.bind (eR (by rw [er];exact fun h=>hx ((nz _).1 h))) .pure
   ·simp only
    rw [ej]
    by_cases hx:(rotN j (a,b)).2=0
    ·have hz:=zI (by rw [ei,hx,Int.zero_mul])
     rw [hz]at c7
     exact Evt.cfalse (by simpa using hx) c7
    ·refine Evt.ctrue (by simpa using hx) ?_
     rw [wi]
     exact Evt.bind (eI (by rw [ei];exact fun h=>hx ((nz _).1 h))) c7
theorem spec_outer{a:List (List Int)}(hl:a.length≤5)(hr:∀r∈a,rowOk r):∀(r d:List (List Int)) (R I lr li:List Tm),d++r=a→R.length≤10*d.length→I.length≤10*d.length→Ok d.length 0 lr→Ok d.length 0 li→Sp R lr→Sp I li →
  ∃R' I',Sp R' (lr++reL d.length r)∧Sp I' (li++imL d.length r)∧Ok a.length 0 (lr++reL d.length r)∧Ok a.length 0 (li++imL d.length r)∧R'.length≤50∧I'.length≤50 ∧
   Evt (fun k n=>spec_dgParted_L58 k n R I a (a.length:Int) d.length) (.inr (R',I',())):=by
 intro r
 induction r with
 | nil =>
  intro d R I lr li hd h1 h2 o1 o2 s1 s2
  rw [List.append_nil]at hd
  subst hd
  refine⟨R,I,by simpa [reL] using s1,by simpa [imL] using s2,by simpa [reL] using o1,by simpa [imL] using o2,by omega,by omega,?_⟩
  refine Evt.step (fun k n=>spec_dgParted_L58.eq_2 k _ _ _ _ _ n) ?_
  exact Evt.cfalse (by simp) .pure
 | cons e r ih =>
  intro d R I lr li hd h1 h2 o1 o2 s1 s2
  have hxl:=congrArg List.length hd
  simp at hxl
  obtain⟨p,q,rfl,hc⟩:=hr e (by rw [←hd];simp)
  obtain⟨R',I',c1,c2,c3,c4,c5,c6,c7⟩:=spec_inner (n0:=d.length) (by omega) hc a (a.length:Int) (d.length:Int) (d.length+1) 0 R I lr li (by omega) (by omega) (by omega) o1 o2 s1 s2
  have dl:(d ++ [[p,q]]).length=d.length+1:=by simp
  obtain⟨R2,I2,e1,e2,e3,e4,e5,e6,e7⟩:=ih (d ++ [[p,q]]) R' I' _ _ (by simpa using hd) (by omega) (by omega) (by rw [dl];exact c5.next) (by rw [dl];exact c6.next) c1 c2
  rw [←len_next (r:=r) (by rw [hd];simp only [lenB];omega)]at e7
  have ec:co [p,q]=(p,q):=rfl
  have f1:lr++reR d.length (p,q) 0 (d.length+1)++reL (d ++ [[p,q]]).length r=lr++reL d.length ([p,q]::r):=by simp [reL,ec]
  have f2:li++imR' d.length (p,q) 0 (d.length+1)++imL (d ++ [[p,q]]).length r=li++imL d.length ([p,q]::r):=by simp [imL,ec]
  rw [f1]at e1 e3
  rw [f2]at e2 e4
  refine⟨R2,I2,e1,e2,e3,e4,e5,e6,?_⟩
  have g:a.getD (Int.toNat (d.length:Int)) [] = [p,q]:=by rw [←hd];exact mid_get
  refine Evt.step (fun k n=>spec_dgParted_L58.eq_2 k _ _ _ _ _ n) ?_
  rw [g]
  exact Evt.ctrue (decide_eq_true (by omega)) (Evt.ctrue mid_ge (Evt.ctrue (decide_eq_true (by omega)) (Evt.inr (Evt.diag c7) e7)))

theorem parts_ev{a:List (List Int)}(hl:a.length≤5)(hr:∀r∈a,rowOk r):∃W,W.length=2∧(∀r∈W,r.length≤50)∧Evt (fun k _=>spec_dgParted k a) (W,sysV W)∧Evt (fun k _=>impl_complexSystem k a) (if sysV W then(W,true)else([],false)):=by
 obtain⟨R,I,s1,s2,o1,o2,l1,l2,hs⟩:=spec_outer hl hr a [] [] [] [] [] rfl (by simp) (by simp) Ok.nil Ok.nil ⟨List.Pairwise.nil,List.Perm.refl _⟩ ⟨List.Pairwise.nil,List.Perm.refl _⟩
 have hi:=impl_outer hl hr a [] [] [] rfl (by simp) (by simp)
 simp only [List.nil_append,List.length_nil]at s1 s2 o1 o2 hs hi
 have len:∀l,Ok a.length 0 l→l.length≤20:=by
  intro l h
  have:=h.len
  rcases(by omega:a.length=0∨a.length=1∨a.length=2∨a.length=3∨a.length=4∨a.length=5)with e | e | e | e | e | e <;> rw [e]at this <;> omega
 have c1:=collect_to (len _ o1) o1.gd o1.pw s1
 have c2:=collect_to (len _ o2) o2.gd o2.pw s2
 have hw:∀r ∈ [R,I],r.length<lenB:=by
  intro r hr
  simp only [List.mem_cons,List.not_mem_nil,or_false]at hr
  simp only [lenB]
  rcases hr with rfl | rfl <;> omega
 refine⟨[R,I],rfl,?_,Evt.eq (f:=fun k q=>_) ?_ (fun k q=>by rw [spec_dgParted]),Evt.eq (f:=fun k q=>_) ?_ (fun k q=>by rw [impl_complexSystem])⟩
 ·intro r hr
  simp only [List.mem_cons,List.not_mem_nil,or_false]at hr
  rcases hr with rfl | rfl <;> omega
 ·exact Evt.inr (Evt.diag hs) (Evt.bind (poSystem_ev (by simp [lenB]) hw) .pure)
 ·refine Evt.inr (Evt.diag hi) (Evt.bind c1 (Evt.bind c2 (Evt.bind (isSystem_ev (by simp [lenB]) hw) ?_)))
  cases sysV [R,I]with
  | true=>exact Evt.cfalse rfl .pure
  | false=>exact Evt.ctrue rfl .pure
end Go.Ev.G

namespace Go.Ev.G
open Go Go.Ev
set_option maxRecDepth 100000

def rowB(r:List Int):Bool:=decide (r.length=2)&&r.all fun x=>decide (-100≤x∧x≤100)
def lastB(a:List (List Int)):Bool := !((a.getD (a.length - 1) []).all fun x=>decide (0≤x∧x≤0))
def cxV(a:List (List Int)):Bool:=a.all rowB&&(decide (1≤(a.length:Int)∧(a.length:Int)≤5)&&lastB a)
theorem rowB_form{r:List Int}(h:rowB r=true):∃p q,r = [p,q]∧(-100≤p∧p≤100)∧(-100≤q∧q≤100):=by
 unfold rowB at h
 simp only [Bool.and_eq_true,decide_eq_true_eq,List.all_eq_true]at h
 match r,h.1 with
 | [p,q],_=>exact⟨p,q,rfl,h.2 p (by simp),h.2 q (by simp)⟩
theorem dgComplex_ev{a:List (List Int)}(hb:a.length<lenB)(hm:∀r∈a,r.length<lenB):Evt (fun k _=>spec_dgComplex k a) (cxV a):=by
 refine Evt.eq (f:=fun k q=>_) ?_ (fun k q=>by rw [spec_dgComplex])
 have key:∀(r d:List (List Int)),d++r=a→Evt (fun k n=>spec_dgComplex_L26 k n a a (a.length:Int) d.length) (if r.all rowB then .inr (a,())else .inl false):=by
  intro r
  induction r with
  | nil =>
   intro d hd
   rw [List.append_nil]at hd
   subst hd
   refine Evt.step (fun k n=>spec_dgComplex_L26.eq_2 k _ _ _ _ n) ?_
   exact Evt.cfalse (by simp) .pure
  | cons e r ih =>
   intro d hd
   have ih:=ih (d ++ [e]) (by simpa using hd)
   rw [←len_next (r:=r) (by rw [hd];exact hb)]at ih
   have hxl:=congrArg List.length hd
   simp at hxl
   have g:a.getD (Int.toNat (d.length:Int)) []=e:=by rw [←hd];exact mid_get
   have he:=hm e (by rw [←hd];simp)
   refine Evt.step (fun k n=>spec_dgComplex_L26.eq_2 k _ _ _ _ n) ?_
   rw [g]
   refine Evt.ctrue (decide_eq_true (by omega)) (Evt.ctrue mid_ge (Evt.ctrue (decide_eq_true (by omega)) ?_))
   by_cases h2:e.length=2
   ·refine Evt.cfalse (by rw [h2];rfl) (Evt.bind (l1All_ev he) ?_)
    have e1:rowB e=e.all fun x=>decide (-100≤x∧x≤100):=by unfold rowB;rw [decide_eq_true h2,Bool.true_and]
    rw [List.all_cons,e1]
    cases e.all fun x=>decide (-100≤x∧x≤100)with
    | false=>exact Evt.ctrue rfl .pure
    | true=>exact Evt.cfalse rfl ih
   ·have e1:rowB e=false:=by unfold rowB;rw [decide_eq_false h2,Bool.false_and]
    rw [List.all_cons,e1]
    exact Evt.ctrue (by rw [bne_iff_ne];omega) .pure
 have h0:=key a [] rfl
 unfold cxV
 cases ha:a.all rowB with
 | false =>
  rw [ha]at h0
  exact Evt.inl (Evt.diag h0) .pure
 | true =>
  rw [ha]at h0
  refine Evt.inr (Evt.diag h0) (Evt.bind (.const (l1In_eq _ _ _)) ?_)
  simp only [Bool.true_and]
  by_cases h1:1≤(a.length:Int)∧(a.length:Int)≤5
  ·rw [decide_eq_true h1]
   refine Evt.ctrue rfl ?_
   have e1:(a.length:Int) - 1=((a.length - 1:Nat):Int):=by omega
   rw [e1,w64 (n:=((a.length - 1:Nat):Int)) (by omega) (by omega),Int.toNat_natCast]
   refine Evt.ctrue mid_ge (Evt.ctrue (decide_eq_true (by omega)) (Evt.bind (l1All_ev ?_) .pure))
   refine hm _ ?_
   rw [List.getD_eq_getElem?_getD,List.getElem?_eq_getElem (by omega)]
   exact List.getElem_mem _
  ·rw [decide_eq_false h1]
   exact Evt.cfalse rfl .pure
theorem isComplex_ev{a:List (List Int)}(hb:a.length<lenB):Evt (fun k _=>impl_isComplex k a) (cxV a):=by
 refine Evt.eq (f:=fun k q=>_) ?_ (fun k q=>by rw [impl_isComplex])
 have key:∀(r d:List (List Int)),d++r=a→Evt (fun k n=>impl_isComplex_L26 k n a a (a.length:Int) d.length) (if r.all rowB then .inr (a,())else .inl false):=by
  intro r
  induction r with
  | nil =>
   intro d hd
   rw [List.append_nil]at hd
   subst hd
   refine Evt.step (fun k n=>impl_isComplex_L26.eq_2 k _ _ _ _ n) ?_
   exact Evt.cfalse (by simp) .pure
  | cons e r ih =>
   intro d hd
   have ih:=ih (d ++ [e]) (by simpa using hd)
   rw [←len_next (r:=r) (by rw [hd];exact hb)]at ih
   have hxl:=congrArg List.length hd
   simp at hxl
   have g:a.getD (Int.toNat (d.length:Int)) []=e:=by rw [←hd];exact mid_get
   refine Evt.step (fun k n=>impl_isComplex_L26.eq_2 k _ _ _ _ n) ?_
   rw [g]
   refine Evt.ctrue (decide_eq_true (by omega)) (Evt.ctrue mid_ge (Evt.ctrue (decide_eq_true (by omega)) ?_))
   by_cases h2:e.length=2
   ·match e,h2 with
    | [p,q],_ =>
     have g0:([p,q]:List Int).getD 0 0=p:=rfl
     have g1:([p,q]:List Int).getD 1 0=q:=rfl
     have e1:rowB [p,q]=(decide (-100≤p∧p≤100)&&decide (-100≤q∧q≤100)):=by simp [rowB]
     rw [List.all_cons,e1,g0,g1]
     refine Evt.cfalse rfl (Evt.ctrue (by simp) (Evt.bind (.const (inside_eq _ _ _)) ?_))
     cases decide (-100≤p∧p≤100)with
     | false=>exact Evt.ctrue rfl .pure
     | true =>
      refine Evt.cfalse rfl (Evt.ctrue (by simp) (Evt.bind (.const (inside_eq _ _ _)) ?_))
      cases decide (-100≤q∧q≤100)with
      | false=>exact Evt.ctrue rfl .pure
      | true=>exact Evt.cfalse rfl ih
   ·have e1:rowB e=false:=by unfold rowB;rw [decide_eq_false h2,Bool.false_and]
    rw [List.all_cons,e1]
    exact Evt.ctrue (by rw [bne_iff_ne];omega) .pure
 have h0:=key a [] rfl
 unfold cxV
 cases ha:a.all rowB with
 | false =>
  rw [ha]at h0
  exact Evt.inl (Evt.diag h0) .pure
 | true =>
  rw [ha]at h0
  refine Evt.inr (Evt.diag h0) (Evt.bind (.const (inside_eq _ _ _)) ?_)
  simp only [Bool.true_and]
  by_cases h1:1≤(a.length:Int)∧(a.length:Int)≤5
  ·rw [decide_eq_true h1]
   refine Evt.ctrue rfl ?_
   have e1:(a.length:Int) - 1=((a.length - 1:Nat):Int):=by omega
   have hmem:a.getD (a.length - 1) []∈a:=by
    rw [List.getD_eq_getElem?_getD,List.getElem?_eq_getElem (by omega)]
    exact List.getElem_mem _
   obtain⟨p,q,hp,_,_⟩:=rowB_form (List.all_eq_true.1 ha _ hmem)
   unfold lastB
   rw [e1,w64 (n:=((a.length - 1:Nat):Int)) (by omega) (by omega),Int.toNat_natCast,hp]
   have g0:([p,q]:List Int).getD 0 0=p:=rfl
   have g1:([p,q]:List Int).getD 1 0=q:=rfl
   rw [g0,g1]
   refine Evt.ctrue mid_ge (Evt.ctrue (decide_eq_true (by omega)) (Evt.ctrue (by simp) ?_))
   have e2:(!([p,q].all fun x=>decide (0≤x∧x≤0)))=(p != 0||q != 0):=by
    rw [Bool.eq_iff_iff]
    simp only [List.all_cons,List.all_nil,Bool.and_true,Bool.not_eq_true',Bool.and_eq_false_iff,decide_eq_false_iff_not,Bool.or_eq_true,bne_iff_ne]
    omega
   rw [Bool.true_and,e2]
   by_cases hz:p=0
   ·refine Evt.cfalse (by simp [hz]) (Evt.ctrue mid_ge (Evt.ctrue (decide_eq_true (by omega)) (Evt.ctrue (by simp) ?_)))
    rw [hz]
    exact .pure
   ·have e3:(p != 0)=true:=by simpa using hz
    rw [e3,Bool.true_or]
    exact Evt.ctrue rfl .pure
  ·rw [decide_eq_false h1]
   exact Evt.cfalse rfl .pure
theorem cxV_form{a:List (List Int)}(h:cxV a=true):a.length≤5∧∀r∈a,rowOk r:=by
 unfold cxV at h
 simp only [Bool.and_eq_true,decide_eq_true_eq,List.all_eq_true]at h
 refine⟨by omega,fun r hr => ?_⟩
 obtain⟨p,q,e,hp,hq⟩:=rowB_form (h.1 r hr)
 exact⟨p,q,e,by simp only [cOk];omega⟩
theorem cs_val(a:List (List Int)):∃v:List (List Tm)×Bool,(v.1.length≤2∧∀r∈v.1,r.length≤50)∧(a.length<lenB→(∀r∈a,r.length<lenB)→Evt (fun k _=>spec_ComplexSystem k a) v) ∧
  (a.length<lenB→Evt (fun k _=>impl_ComplexSystem k a) v)∧(cxV a=true→Evt (fun k _=>impl_complexSystem k a) v)∧(cxV a=false→v=([],false)):=by
 cases hv:cxV a with
 | false =>
  refine⟨([],false),⟨by simp,by simp⟩,fun hb hm=>Evt.eq (f:=fun k q=>_) ?_ (fun k q=>by rw [spec_ComplexSystem]),fun hb=>Evt.eq (f:=fun k q=>_) ?_ (fun k q=>by rw [impl_ComplexSystem]),(fun h=>by cases h),fun _=>rfl⟩
  ·have:=dgComplex_ev hb hm
   rw [hv]at this
   exact Evt.bind this (Evt.ctrue rfl .pure)
  ·have:=isComplex_ev hb
   rw [hv]at this
   exact Evt.bind this (Evt.ctrue rfl .pure)
 | true =>
  obtain⟨hl,hr⟩:=cxV_form hv
  obtain⟨W,w1,w2,hs,hi⟩:=parts_ev hl hr
  refine⟨if sysV W then(W,true)else([],false),?_,fun hb hm=>Evt.eq (f:=fun k q=>_) ?_ (fun k q=>by rw [spec_ComplexSystem]),fun hb=>Evt.eq (f:=fun k q=>_) ?_ (fun k q=>by rw [impl_ComplexSystem]),fun _=>hi,fun h=>by cases h⟩
  ·split
   ·exact⟨by simp [w1],w2⟩
   ·exact⟨by simp,by simp⟩
  ·have:=dgComplex_ev hb hm
   rw [hv]at this
   refine Evt.bind this (Evt.cfalse rfl (Evt.bind hs ?_))
   cases sysV W with
   | true=>exact Evt.cfalse rfl .pure
   | false=>exact Evt.ctrue rfl .pure
  ·have:=isComplex_ev hb
   rw [hv]at this
   exact Evt.bind this (Evt.cfalse rfl (Evt.bind hi .pure))

theorem szIntSS_ev{x:List (List Int)}(hx:x.length≤maxLen)(hm:∀y∈x,y.length≤maxLen){a:Nat}(ha:a≤1000000) :
  Evt (fun k _=>laws_szIntSS k x a) (if x.length+(x.map List.length).sum≤a then((a - (x.length+(x.map List.length).sum):Nat):Int)else -1) :=
 sz_all (sz:=laws_szIntS) (S:=laws_szIntSS_L122) (fun _ _=>rfl) (fun _ _ _ _ _=>rfl) (fun _ _ _=>rfl) hx hm ha
theorem toIntSS_ev{a:List (List Int)}{b:Bool}(ha:a.length≤1000000)(hm:∀x∈a,x.length≤1000000):Evt (fun k _=>laws_toIntSS k a b) (toV (fun x=>toV id fI x b) ([fI],[]) a b) :=
 to_all (dβ := []) (dγ:=([],[])) (F:=fun k x=>laws_toIntS k x b) (L1:=fun k n x0 x5 x6=>laws_toIntSS_L122 k n x0 b x5 x6) (L2:=laws_toIntSS_L250) room_eq (fun _ _ _ _ _=>rfl) (fun _ _ _ _ _=>rfl)
  (fun k=>by unfold laws_toIntSS;cases b <;> cases a <;> rfl) ha (fun x hx=>toIntS_ev (hm x hx))
theorem eqIntSS_ev{x:List (List Int)}(h:x.length<lenB)(hm:∀y∈x,y.length<lenB):Evt (fun k _=>laws_eqIntSS k x x) true :=
 eq_all (d0 := []) (Q:=fun k a b=>laws_eqIntS k a b) (L:=laws_eqIntSS_L58) (E:=laws_eqIntSS) (fun k n x0 x1 x5=>rfl) (fun _ _ _=>rfl) h (fun z hz=>eqIntS_ev (hm z hz))
theorem intactIntSS_ev{x:List (List Int×List Int)×List (List Int×List Int)}(hx:Room x)(hm:∀y∈x.1,Room y)(h2:∀y∈x.2,y.1.length<lenB):Evt (fun k _=>laws_intactIntSS k x x) true :=
 intact_rows (d0:=([],[])) (Q:=laws_intactIntS) (E:=laws_eqIntSS) (L:=laws_intactIntSS_L122) hx hm (fun _ _ _ _ _ _=>rfl) (fun _ _ _=>rfl) (fun y hy=>intactIntS_ev (hm y hy))
  (eqIntSS_ev (by have:=small hx;simp at this ⊢; omega) (by intro y hy;obtain⟨z,hz,rfl⟩:=List.mem_map.1 hy;exact h2 z hz))
theorem intactI_ev{a:List (List Int)}(h:Sized a):Evt (fun k _=>laws_intactIntSS k (toV (fun x=>toV id fI x false) ([fI],[]) a false) (toV (fun x=>toV id fI x false) ([fI],[]) a false)) true:=by
 refine intactIntSS_ev (room_toV h.len) ?_ ?_
 ·intro y hy
  simp [toV]at hy
  obtain⟨x,hx,rfl⟩:=hy
  exact⟨by simp,h.row x hx⟩
 ·intro y hy
  simp [toV]at hy
  rw [hy.2];simp [lenB]
theorem count_val(a:List (List Int))(b:Bx):∃v:Int×Bool,(a.length<lenB→(∀r∈a,r.length<lenB)→b.2.1.length<lenB→Evt (fun k _=>spec_CountComplexZeros k a b) v)∧(a.length<lenB→b.2.1.length<lenB→Evt (fun k _=>impl_CountComplexZeros k a b) v):=by
 obtain⟨w,⟨w1,w2⟩,hS,hI,hC,hN⟩:=cs_val a
 obtain⟨v,dS,dI⟩:=degreeOver_val w.1 b
 have wl:w.1.length<lenB:=by simp only [lenB];omega
 have wr:∀r∈w.1,r.length<lenB:=fun r hr=>by have:=w2 r hr;simp only [lenB];omega
 refine⟨if w.2 then v else(0,false),fun hb hm hx=>Evt.eq (f:=fun k q=>_) ?_ (fun k q=>by rw [spec_CountComplexZeros]),fun hb hx=>Evt.eq (f:=fun k q=>_) ?_ (fun k q=>by rw [impl_CountComplexZeros])⟩
 ·refine Evt.bind (hS hb hm) ?_
  cases w.2 with
  | false=>exact Evt.ctrue rfl .pure
  | true=>exact Evt.cfalse rfl (Evt.bind (dS wl wr hx) .pure)
 ·have hv:=isComplex_ev hb
  refine Evt.bind hv ?_
  cases hc:cxV a with
  | false =>
   rw [hN hc]
   exact Evt.ctrue rfl .pure
  | true =>
   refine Evt.cfalse rfl (Evt.bind (hC hc) ?_)
   cases w.2 with
   | false=>exact Evt.ctrue rfl .pure
   | true=>exact Evt.cfalse rfl (Evt.eq (dI wl wr hx) (fun k _=>by rw [impl_DegreeOver]))
theorem frame_ib{V:Type}{a:List (List Int)}{b:Bx}{S I:Nat→List (List Int)→Bx→Option V}{C:Nat→V→V→Option Bool→Option Bool}{v:V}(ha:a.length≤maxLen)(hm:∀x∈a,x.length≤maxLen)(h1:b.2.1.length≤maxLen)(h2:b.2.2.length≤maxLen)
  (hC:∀ {f:Nat→Nat→Option Bool} {r:Bool},Evt f r→Evt (fun k n=>C k v v (f k n)) r)
  (hS:a.length<lenB→(∀r∈a,r.length<lenB)→b.2.1.length<lenB→Evt (fun k _=>S k a b) v) (hI:a.length<lenB→b.2.1.length<lenB→Evt (fun k _=>I k a b) v) :
  Evt (fun k _=>(Option.bind (laws_szIntSS k a 1000000) fun r1=>(bif (decide (r1<0))then some true else(Option.bind (laws_szBox b r1) fun r2=>(bif (decide (r2<0))then some true else(Option.bind (laws_toIntSS k a false) fun r3=>(Option.bind (laws_toBox k b false) fun r4=>(Option.bind (S k (r3.1.map fun z=>z.1) (r4.1,r4.2.1.1,r4.2.2.1)) fun r5=>(Option.bind (laws_toIntSS k a false) fun r6=>(Option.bind (laws_toBox k b false) fun r7=>(Option.bind (I k (r6.1.map fun z=>z.1) (r7.1,r7.2.1.1,r7.2.2.1)) fun r8=>C k r5 r8 (Option.bind (laws_toIntSS k a false) fun r9=>(Option.bind (laws_intactIntSS k r6 r9) fun r10=>(bif (!r10)then some false else(Option.bind (laws_toBox k b false) fun r11=>(Option.bind (laws_intactBox k r7 r11) fun r12=>(bif (!r12)then some false else(Option.bind (laws_toIntSS k a true) fun r13=>(Option.bind (laws_toBox k b true) fun r14=>(Option.bind (I k (r13.1.map fun z=>z.1) (r14.1,r14.2.1.1,r14.2.2.1)) fun r15=>C k r5 r15 (some true))))))))))))))))))))) true:=by
 refine Evt.bind (szIntSS_ev (a:=1000000) ha hm (by omega)) ?_
 by_cases hz:a.length+(a.map List.length).sum≤1000000
 ·rw [if_pos hz]
  have hs:Sized a:=hz
  refine Evt.cfalse (by simp <;> omega) (Evt.bind (.const (szBox_eq h1 h2 (by omega))) ?_)
  by_cases hy:b.2.1.length+b.2.2.length≤1000000 - (a.length+(a.map List.length).sum)
  ·rw [if_pos hy]
   refine Evt.cfalse (by simp <;> omega) ?_
   have b1:b.2.1.length≤1000000:=by omega
   have b2:b.2.2.length≤1000000:=by omega
   have hr:∀r∈a,r.length<lenB:=fun r hr=>by have:=hs.row r hr;simp only [lenB];omega
   have hl:=hs.len
   have spec:=hS (by simp only [lenB];omega) hr (by simp only [lenB];omega)
   have impl:=hI (by simp only [lenB];omega) (by simp only [lenB];omega)
   refine Evt.bind (toIntSS_ev hs.len hs.row) (Evt.bind (toBox_ev b1 b2) ?_)
   simp only [toV_rows,boxR_eq]
   refine Evt.bind spec (Evt.bind (toIntSS_ev hs.len hs.row) (Evt.bind (toBox_ev b1 b2) ?_))
   simp only [toV_rows,boxR_eq]
   refine Evt.bind impl (hC (Evt.bind (toIntSS_ev hs.len hs.row) (Evt.bind (intactI_ev hs) (Evt.cfalse rfl (Evt.bind (toBox_ev b1 b2) (Evt.bind (intactBox_ev b1 b2) (Evt.cfalse rfl (Evt.bind (toIntSS_ev hs.len hs.row) (Evt.bind (toBox_ev b1 b2) ?_)))))))))
   simp only [toV_rows,boxR_eq]
   exact Evt.bind impl (hC .pure)
  ·rw [if_neg hy]
   exact Evt.ctrue rfl .pure
 ·rw [if_neg hz]
  exact Evt.ctrue rfl .pure
theorem countComplexZeros_row(a:List (List Int))(b:Bx)(h:WfT (.sl (.sl (.int .i64))) a)(hb:WfT tBox b):∃k,laws_FnExactCountComplexZeros k a b=some true:=by
 obtain⟨v,hS,hI⟩:=count_val a b
 exact Evt.get (Evt.eq (frame_ib (S:=fun k a b=>spec_CountComplexZeros k a b) (I:=fun k a b=>impl_CountComplexZeros k a b) (C:=fun _ r5 r8 x=>(bif (r8.1 != r5.1)then some false else(bif (!(r8.2==r5.2))then some false else x))) (v:=v) h.1 (fun x hx=>(h.2 x hx).1) hb.2.1.1 hb.2.2.1
  (fun hf=>Evt.cfalse (by simp) (Evt.cfalse (by simp) hf)) hS hI) (fun k _=>rfl))
end Go.Ev.G

