/- What the plain functions of the law compute, for all inputs within the sizes that the theorems name. -/
import Derived.Test.YtbkhmofhdbjpcaaGreatPFnTablesIn1
import Derived.Test.YtbkhmofhdbjpcaaGreatAFnTablesIn1
set_option linter.unusedVariables false
namespace Go.Ev.G
open Go Go.Ev
set_option maxRecDepth 100000

def Ok{α:Type}(f:Nat→Nat→Option α)(P:α→Prop):Prop:=∃v,Evt f v∧P v
section
variable {α β R A : Type}
theorem Ok.pure{v:α}{P:α→Prop}(h:P v):Ok (fun _ _=>some v) P:=⟨v,.pure,h⟩
theorem Ok.const{o:Option α}{v:α}{P:α→Prop}(e:o=some v)(h:P v):Ok (fun _ _=>o) P:=⟨v,.const e,h⟩
theorem Ok.of{f:Nat→Nat→Option α}{v:α}{P:α→Prop}(e:Evt f v)(h:P v):Ok f P:=⟨v,e,h⟩
theorem Ok.mono{f:Nat→Nat→Option α}{P Q:α→Prop}(h:Ok f P)(hq:∀v,P v→Q v):Ok f Q:=by
 obtain⟨v,e,h⟩:=h
 exact⟨v,e,hq v h⟩
theorem Ok.bind{f:Nat→Nat→Option α}{g:Nat→Nat→α→Option β}{P:α→Prop}{Q:β→Prop}(h:Ok f P)(h':∀v,P v→Ok (fun k n=>g k n v) Q):Ok (fun k n=>Option.bind (f k n) fun x=>g k n x) Q:=by
 obtain⟨v,e,h⟩:=h
 obtain⟨u,e2,h2⟩:=h' v h
 exact⟨u,Evt.bind e e2,h2⟩
theorem Ok.bth{f:Nat→Nat→Option (R ⊕ α)}{G:Nat→Nat→R→Option A}{K:Nat→Nat→α→Option A}{P:α→Prop}{Q:A→Prop}(h:Ok f (fun s=>∃y,s = .inr y∧P y))(h':∀y,P y→Ok (fun k n=>K k n y) Q):Ok (fun k n=>both (f k n) (G k n) (K k n)) Q:=by
 obtain⟨_,e,y,rfl,h⟩:=h
 obtain⟨u,e2,h2⟩:=h' y h
 exact⟨u,Evt.inr e e2,h2⟩
theorem Ok.bothl{f:Nat→Nat→Option (R ⊕ α)}{G:Nat→Nat→R→Option A}{K:Nat→Nat→α→Option A}{S:R ⊕ α→Prop}{Q:A→Prop}(h:Ok f S)(hl:∀q,S (.inl q)→Ok (fun k n=>G k n q) Q)(hr:∀y,S (.inr y)→Ok (fun k n=>K k n y) Q):Ok (fun k n=>both (f k n) (G k n) (K k n)) Q:=by
 obtain⟨s,e,h⟩:=h
 cases s with
 | inl q =>
  obtain⟨u,e2,h2⟩:=hl q h
  exact⟨u,Evt.inl e e2,h2⟩
 | inr y =>
  obtain⟨u,e2,h2⟩:=hr y h
  exact⟨u,Evt.inr e e2,h2⟩
theorem Ok.ct{c:Bool}{f g:Nat→Nat→Option α}{P:α→Prop}(hc:c=true)(h:Ok f P):Ok (fun k n=>bif c then f k n else g k n) P:=by subst hc;exact h
theorem Ok.cf{c:Bool}{f g:Nat→Nat→Option α}{P:α→Prop}(hc:c=false)(h:Ok g P):Ok (fun k n=>bif c then f k n else g k n) P:=by subst hc;exact h
theorem Ok.ite{c:Bool}{f g:Nat→Nat→Option α}{P:α→Prop}(h:c=true→Ok f P)(h':c=false→Ok g P):Ok (fun k n=>bif c then f k n else g k n) P:=by
 cases c with
 | true=>exact h rfl
 | false=>exact h' rfl
theorem Ok.diag{f:Nat→Nat→Option α}{P:α→Prop}(h:Ok f P):Ok (fun k _=>f k k) P:=by
 obtain⟨v,e,h⟩:=h
 exact⟨v,Evt.diag e,h⟩
theorem Ok.step{L F:Nat→Nat→Option α}{P:α→Prop}(hL:∀k n,L k (n+1)=F k n)(h:Ok F P):Ok L P:=by
 obtain⟨v,e,h⟩:=h
 exact⟨v,Evt.step hL e,h⟩
theorem Ok.eq{f g:Nat→Nat→Option α}{P:α→Prop}(e:∀k n,g k n=f k n)(h:Ok f P):Ok g P:=by
 obtain⟨v,e2,h⟩:=h
 exact⟨v,Evt.eq e2 e,h⟩
theorem Ok.lt{a b:Int}{f g:Nat→Nat→Option α}{P:α→Prop}(hc:a<b)(h:Ok f P):Ok (fun k n=>bif decide (a<b)then f k n else g k n) P:=Ok.ct (decide_eq_true hc) h
theorem Ok.le{a b:Int}{f g:Nat→Nat→Option α}{P:α→Prop}(hc:a≤b)(h:Ok f P):Ok (fun k n=>bif decide (a≤b)then f k n else g k n) P:=Ok.ct (decide_eq_true hc) h
theorem Ok.ltN{a b:Nat}{f g:Nat→Nat→Option α}{P:α→Prop}(hc:a<b)(h:Ok f P):Ok (fun k n=>bif decide (a<b)then f k n else g k n) P:=Ok.ct (decide_eq_true hc) h
end

section
variable {ks : List Int}
theorem pickK(hk:bytesOk ks){c:Cu}{m:Nat}(h:CurOk c m)(hm:m+2≤1000000000){n:Int}(hn:n≤1000000):Ok (fun _ _=>spec_l1Cur_pick ks c n) (fun r=>CurOk r.2 (m+2)∧0≤r.1∧(1≤n→r.1<n)):=by
 obtain⟨r,c',e,h1,h2⟩:=pick_ok hk h hm hn
 exact .const e ⟨h1,h2⟩
theorem amongK(hk:bytesOk ks){c:Cu}{m:Nat}(h:CurOk c m)(hm:m+2≤1000000000){l:List Int}(h0:l ≠ [])(hl:l.length≤1000):Ok (fun _ _=>spec_l1Cur_among ks c l) (fun r=>CurOk r.2 (m+2)∧r.1∈l):=by
 obtain⟨r,c',e,h1,h2⟩:=among_ok hk h hm h0 hl
 exact .const e ⟨h1,h2⟩
theorem oneK(hk:bytesOk ks){c:Cu}{m:Nat}(h:CurOk c m)(hm:m+2≤1000000000){n:Int}(hn:n≤1000000):Ok (fun _ _=>spec_l1Cur_one ks c n) (fun r=>CurOk r.2 (m+2)):=by
 obtain⟨r,c',e,h1⟩:=one_ok hk h hm hn
 exact .const e h1
end
end Go.Ev.G

namespace Go.Ev.G
open Go Go.Ev
set_option maxRecDepth 100000

abbrev Tm:=Int×Int×Int×Int
def tmGd(t:Tm):Prop:=(-1000≤t.1∧t.1≤1000)∧(0≤t.2.1∧t.2.1≤4)∧(0≤t.2.2.1∧t.2.2.1≤4)∧(0≤t.2.2.2∧t.2.2.2≤4)∧t.2.1+t.2.2.1+t.2.2.2≤4
instance:DecidablePred tmGd:=fun x=>by unfold tmGd;exact inferInstance

theorem cmpI_zero(a b:Int):cmpI a b=0↔a=b:=by
 unfold cmpI
 split <;> (try split) <;> omega
end Go.Ev.G

namespace Go.Ev.G
open Go Go.Ev
set_option maxRecDepth 100000

theorem mostO(a b:Int):Ok (fun _ _=>spec_l1Most a b) (fun r=>r=max a b):=by
 unfold spec_l1Most
 refine Ok.ite (fun h => .pure ?_) (fun h => .pure ?_)
 ·have:=of_decide_eq_true h;omega
 ·have:=of_decide_eq_false h;omega
abbrev Bx3:=Int×List Int×List Int
def bxN(n:Nat)(b:Bx3):Prop:=b.2.1.length=n∧b.2.2.length=n
section
variable {ks : List Int}
def bxS(b:Bx3):Prop:=b.2.1.length≤4∧b.2.2.length≤4
theorem bxN.s{n:Nat}{b:Bx3}(hn:n≤4)(h:bxN n b):bxS b:=⟨by rw [h.1];omega,by rw [h.2];omega⟩
end
end Go.Ev.G

namespace Go.Ev.G
open Go Go.Ev
set_option maxRecDepth 100000

theorem curZ:CurOk ((),0,0) 0:=⟨by decide,by decide,by decide⟩
section
variable {ks : List Int}
theorem sidesK(hk:bytesOk ks){c:Cu}{m:Nat}(h:CurOk c m)(hm:m+2≤1000000000):Ok (fun _ _=>spec_l1Cur_sides ks c) (fun r=>CurOk r.2 (m+2)∧1≤r.1∧r.1≤3):=by
 unfold spec_l1Cur_sides
 refine Ok.bind (amongK hk h hm (by simp) (by simp)) fun r h1 => .pure ⟨h1.1,?_⟩
 have m1:=h1.2
 simp only [List.mem_cons,List.not_mem_nil,or_false]at m1
 simp only;omega
end
end Go.Ev.G

namespace Go.Ev.G
open Go Go.Ev
set_option maxRecDepth 100000

def sgI(i:Iv):Int:=if 0<i.1.1 then 1 else if i.2.1<0 then -1 else 0
end Go.Ev.G

namespace Go.Ev.G
open Go Go.Ev
set_option maxRecDepth 100000

def pw(t:Tm)(j:Nat):Int:=if j=0 then t.2.1 else if j=1 then t.2.2.1 else t.2.2.2
end Go.Ev.G

namespace Go.Ev.G
open Go Go.Ev
set_option maxRecDepth 100000

def tmW(t:Tm):Prop:=(-10000≤t.1∧t.1≤10000)∧(0≤t.2.1∧t.2.1≤4)∧(0≤t.2.2.1∧t.2.2.1≤4)∧(0≤t.2.2.2∧t.2.2.2≤4)
def sgl(a:Int×Int):Iv:=(a,a)
theorem sgl_iv{a:Int×Int}(h:gd a):ivGd (sgl a):=⟨h,h,Int.le_refl _⟩
def stepO(s:Iv)(e:Nat)(o:Option Iv):Option Iv:=o.bind fun a=>(powO s e).bind fun q=>mulO a q
def partF(t:Tm):Nat→Option Iv→List Iv→Option Iv
 | _,o,[]=>o
 | j,o,s::r=>partF t (j+1) (stepO s (pw t j).toNat o) r
def monO(t:Tm)(sides:List Iv):Option Iv:=partF t 0 (some (sgl (t.1,0))) sides
def accO(p o:Option Iv):Option Iv:=o.bind fun a=>p.bind fun q=>addO a q
def valF(sides:List Iv):Option Iv→List Tm→Option Iv
 | o,[]=>o
 | o,t::r=>valF sides (accO (monO t sides) o) r
def valO(p:List Tm)(sides:List Iv):Option Iv:=valF sides (some zI) p

theorem gd_int{n:Int}(h : -10000≤n∧n≤10000):gd (n,0):=⟨Int.le_refl _,by simp,by simp only;omega,by simp only;omega,.inl rfl⟩
theorem zI_iv:ivGd zI:=⟨by decide,by decide,Int.le_refl _⟩
end Go.Ev.G

namespace Go.Ev.G
open Go Go.Ev
set_option maxRecDepth 100000

def hV(m:Nat)(s:List (List Tm))(sides:List Iv)(r:Nat):Bool:=match valO (s.getD (r % m) []) sides with
 | some v=>sgI v==(if r<m then 1 else -1)
 | none=>false
structure Sd(s:List (List Tm))(sides:List Iv):Prop where
 sd:∀i∈sides,ivGd i
 ln:sides.length≤3
 tm:∀p∈s,∀t∈p,tmW t
 lp:∀p∈s,p.length<lenB
theorem getD_in{α:Type}{l:List α}{j:Nat}{z:α}(h:j<l.length):l.getD j z∈l:=by
 rw [List.getD_eq_getElem?_getD,List.getElem?_eq_getElem h]
 exact List.getElem_mem h
abbrev Ed:=Int×(Int×Int)×(Int×Int)×Int×Int
def sidesE(e:Ed):List Iv:=if e.1=0 then [sgl e.2.1,(minD e.2.2.1 e.2.2.2,maxD e.2.2.1 e.2.2.2)]else [(minD e.2.2.1 e.2.2.2,maxD e.2.2.1 e.2.2.2),sgl e.2.1]
structure EdOk(e:Ed):Prop where
 sd:e.1=0∨e.1=1
 a:gd e.2.1
 f:gd e.2.2.1
 t:gd e.2.2.2
theorem along_iv{a b:Int×Int}(ha:gd a)(hb:gd b):ivGd (minD a b,maxD a b):=⟨minD_gd ha hb,maxD_gd ha hb,by simp only [minD_sv,maxD_sv];omega⟩
theorem EdOk.sides{e:Ed}(h:EdOk e):∀i∈sidesE e,ivGd i:=by
 intro i hi
 have q:=along_iv h.f h.t
 have r:=sgl_iv h.a
 unfold sidesE at hi
 split at hi <;> (simp only [List.mem_cons,List.not_mem_nil,or_false]at hi;rcases hi with rfl | rfl <;> assumption)
theorem EdOk.len(e:Ed):(sidesE e).length=2:=by unfold sidesE;split <;> rfl
theorem Sd.edge{s:List (List Tm)}(h1:∀p∈s,∀t∈p,tmW t)(h2:∀p∈s,p.length<lenB){e:Ed}(h:EdOk e):Sd s (sidesE e):=⟨h.sides,by rw [EdOk.len];omega,h1,h2⟩
end Go.Ev.G

namespace Go.Ev.G
open Go Go.Ev
set_option maxRecDepth 100000

theorem dyadic_ok{ks:List Int}(hk:bytesOk ks){c:Cu}{m:Nat}(h:CurOk c m)(hm:m+14≤1000000000):∃v c',Evt (fun k _=>spec_l1Cur_dyadic k ks c) (v,c')∧CurOk c' (m+14):=by
 obtain⟨r1,c1,e1,h1,a1,b1⟩:=pick_ok hk h (by omega) (n:=65) (by omega)
 obtain⟨r2,c2,e2,h2,a2,b2⟩:=pick_ok hk h1 (by omega) (n:=60000) (by omega)
 have b1:=b1 (by omega)
 have b2:=b2 (by omega)
 have w1:IntKind.wrap .i64 (r1 - 32)=r1 - 32:=w64 (by omega) (by omega)
 have w2:IntKind.wrap .i64 (r2 - 30000)=r2 - 30000:=w64 (by omega) (by omega)
 obtain⟨r3,c3,e3,h3,m3⟩:=among_ok hk h2 (by omega) (l := [0,1,(-1),3,(-5),7,r1 - 32,r2 - 30000]) (by simp) (by simp)
 obtain⟨r4,c4,e4,h4,m4⟩:=among_ok hk h3 (by omega) (l := [0,0,1,2,3,8,16,24]) (by simp) (by simp)
 obtain⟨r6,c6,e6,h6⟩:=one_ok hk h4 (by omega) (n:=16) (by omega)
 obtain⟨r7,c7,e7,h7,m7⟩:=among_ok hk h6 (by omega) (l := [1099511627776,(-1099511627776),1099511627775,(-1099511627775)]) (by simp) (by simp)
 obtain⟨r8,c8,e8,h8,m8⟩:=among_ok hk h7 (by omega) (l := [0,1,24]) (by simp) (by simp)
 have hb3 : -40000≤r3∧r3≤40000:=by
  simp only [List.mem_cons,List.not_mem_nil,or_false]at m3
  omega
 have hb4:0≤r4∧r4≤24:=by
  simp only [List.mem_cons,List.not_mem_nil,or_false]at m4
  omega
 have hb7 : -1099511627776≤r7∧r7≤1099511627776:=by
  simp only [List.mem_cons,List.not_mem_nil,or_false]at m7
  omega
 have hb8:0≤r8∧r8≤24:=by
  simp only [List.mem_cons,List.not_mem_nil,or_false]at m8
  omega
 have d1:Evt (fun k _=>spec_dyMake k r3 r4) (mkD r3 r4.toNat):=by
  have:=dyMake_ev (n:=r3) (m:=r4.toNat) (by omega) (by omega) (by omega)
  rw [show((r4.toNat:Nat):Int)=r4 by omega]at this
  exact this
 have d2:Evt (fun k _=>spec_dyMake k r7 r8) (mkD r7 r8.toNat):=by
  have:=dyMake_ev (n:=r7) (m:=r8.toNat) (by omega) (by omega) (by omega)
  rw [show((r8.toNat:Nat):Int)=r8 by omega]at this
  exact this
 have e1:spec_l1Cur_pick ks ((),c.2) 65=some (r1,c1):=e1
 have e2:spec_l1Cur_pick ks ((),c1.2) 60000=some (r2,c2):=e2
 have e3:spec_l1Cur_among ks ((),c2.2) [0,1,(-1),3,(-5),7,r1 - 32,r2 - 30000]=some (r3,c3):=e3
 have e4:spec_l1Cur_among ks ((),c3.2) [0,0,1,2,3,8,16,24]=some (r4,c4):=e4
 have e6:spec_l1Cur_one ks ((),c4.2) 16=some (r6,c6):=e6
 have e7:spec_l1Cur_among ks ((),c6.2) [1099511627776,(-1099511627776),1099511627775,(-1099511627775)]=some (r7,c7):=e7
 have e8:spec_l1Cur_among ks ((),c7.2) [0,1,24]=some (r8,c8):=e8
 have i1:spec_dyInt 1=some (1,0):=rfl
 have fin:∀(p q:Int×Int) (b:Bool) (c9:Cu),CurOk c9 (m+14)→∃v c',Evt (fun _ _=>(bif (!b)then(Option.bind (spec_dyInt 1) fun r11=>some (r11,(),c9.2))else some (q,(),c9.2))) (v,c')∧CurOk c' (m+14):=by
  intro p q b c9 h9
  cases b with
  | true=>exact⟨q,_,Evt.cfalse rfl .pure,h9⟩
  | false=>exact⟨(1,0),_,Evt.ctrue rfl (Evt.bind (.const i1) .pure),h9⟩
 have main:∃v c',Evt (fun k n=>(both (R:=(Int×Int)×Unit×Int×Int) (P:=(Int×Int)×(Int×Int)×Bool×(Unit×Int×Int)×Unit) ((bif r6 then(Option.bind (spec_l1Cur_among ks ((),c6.2) ([1099511627776,(-1099511627776),1099511627775,(-1099511627775)]:List Int)) fun r7=>(Option.bind (spec_l1Cur_among ks ((),r7.2.2) ([0,1,24]:List Int)) fun r8=>(Option.bind (spec_dyMake k r7.1 r8.1) fun r9=>some (Sum.inr ((0,0),r9.1,r9.2,((),r8.2.2),())))))else some (Sum.inr ((0,0),(mkD r3 r4.toNat).1,(mkD r3 r4.toNat).2,((),c6.2),())))) (fun q12=>some q12) (fun y10=>(bif (!y10.2.2.1)then(Option.bind (spec_dyInt 1) fun r11=>some (r11,(),y10.2.2.2.1.2))else some (y10.2.1,(),y10.2.2.2.1.2))))) (v,c')∧CurOk c' (m+14):=by
  cases r6 with
  | true =>
   obtain⟨v,c',ev,hc⟩:=fin (0,0) (mkD r7 r8.toNat).1 (mkD r7 r8.toNat).2 c8 (h8.mono (by omega) (by omega))
   exact⟨v,c',Evt.inr (Evt.ctrue rfl (Evt.bind (.const e7) (Evt.bind (.const e8) (Evt.bind d2 .pure)))) ev,hc⟩
  | false =>
   obtain⟨v,c',ev,hc⟩:=fin (0,0) (mkD r3 r4.toNat).1 (mkD r3 r4.toNat).2 c6 (h6.mono (by omega) (by omega))
   exact⟨v,c',Evt.inr (Evt.cfalse rfl .pure) ev,hc⟩
 obtain⟨v,c',ev,hc⟩:=main
 refine⟨v,c',Evt.eq (f:=fun k q=>_) ?_ (fun k q=>by rw [spec_l1Cur_dyadic]),hc⟩
 refine Evt.bind (.const e1) (Evt.bind (.const e2) ?_)
 simp only [w1,w2]
 exact Evt.bind (.const e3) (Evt.bind (.const e4) (Evt.bind d1 (Evt.eq ev (fun k q=>by rw [e6];rfl))))
theorem anyDyadic_ok{ks:List Int}(hk:bytesOk ks){c:Cu}{m:Nat}(h:CurOk c m)(hm:m+20≤1000000000):∃v c',Evt (fun k _=>spec_l1Cur_anyDyadic k ks c) (v,c')∧CurOk c' (m+20):=by
 obtain⟨v,c1,ev,h1⟩:=dyadic_ok hk h (by omega)
 obtain⟨r2,c2,e2,h2,_⟩:=pick_ok hk h1 (by omega) (n:=30) (by omega)
 obtain⟨r3,c3,e3,h3,_⟩:=among_ok hk h2 (by omega) (l := [(-1),25,4611686018427387904]) (by simp) (by simp)
 obtain⟨r4,c4,e4,h4,_⟩:=among_ok hk h2 (by omega) (l := [1099511627777,(-1099511627777),(-9223372036854775808)]) (by simp) (by simp)
 obtain⟨r5,c5,e5,h5,_⟩:=pick_ok hk h2 (by omega) (n:=9) (by omega)
 obtain⟨r6,c6,e6,h6,_⟩:=pick_ok hk h5 (by omega) (n:=4) (by omega)
 have e2:spec_l1Cur_pick ks ((),c1.2) 30=some (r2,c2):=e2
 have e3:spec_l1Cur_among ks ((),c2.2) [(-1),25,4611686018427387904]=some (r3,c3):=e3
 have e4:spec_l1Cur_among ks ((),c2.2) [1099511627777,(-1099511627777),(-9223372036854775808)]=some (r4,c4):=e4
 have e5:spec_l1Cur_pick ks ((),c2.2) 9=some (r5,c5):=e5
 have e6:spec_l1Cur_pick ks ((),c5.2) 4=some (r6,c6):=e6
 have fin:∃w c',Evt (fun k n=>(bif (r2==0)then(Option.bind (spec_l1Cur_among ks ((),c2.2) ([(-1),25,4611686018427387904]:List Int)) fun r3=>some ((v.1,r3.1),(),r3.2.2))else(bif (r2==1)then(Option.bind (spec_l1Cur_among ks ((),c2.2) ([1099511627777,(-1099511627777),(-9223372036854775808)]:List Int)) fun r4=>some ((r4.1,v.2),(),r4.2.2))else(bif (r2==2)then(Option.bind (spec_l1Cur_pick ks ((),c2.2) 9) fun r5=>(Option.bind (spec_l1Cur_pick ks ((),r5.2.2) 4) fun r6=>some (((IntKind.wrap .i64 (2*r5.1)),(IntKind.wrap .i64 (1+r6.1))),(),r6.2.2)))else some (v,(),c2.2))))) (w,c')∧CurOk c' (m+20):=by
  cases hq:(r2==0)with
  | true=>exact⟨_,_,Evt.ctrue rfl (Evt.bind (.const e3) .pure),h3.mono (by omega) (by omega)⟩
  | false =>
   cases hq1:(r2==1)with
   | true=>exact⟨_,_,Evt.cfalse rfl (Evt.ctrue rfl (Evt.bind (.const e4) .pure)),h4.mono (by omega) (by omega)⟩
   | false =>
    cases hq2:(r2==2)with
    | true=>exact⟨_,_,Evt.cfalse rfl (Evt.cfalse rfl (Evt.ctrue rfl (Evt.bind (.const e5) (Evt.bind (.const e6) .pure)))),h6.mono (by omega) (by omega)⟩
    | false=>exact⟨_,_,Evt.cfalse rfl (Evt.cfalse rfl (Evt.cfalse rfl .pure)),h2.mono (by omega) (by omega)⟩
 obtain⟨w,c',ew,hc⟩:=fin
 refine⟨w,c',Evt.eq (f:=fun k q=>_) ?_ (fun k q=>by rw [spec_l1Cur_anyDyadic]),hc⟩
 exact Evt.bind ev (Evt.bind (.const e2) ew)
theorem entry_ok{ks:List Int}(hk:bytesOk ks){c:Cu}{m:Nat}(h:CurOk c m)(hm:m+22≤1000000000):∃v c',Evt (fun k _=>spec_l1Cur_entry k ks c) (v,c')∧CurOk c' (m+22):=by
 obtain⟨r1,c1,e1,h1⟩:=one_ok hk h (by omega) (n:=40) (by omega)
 have e1:spec_l1Cur_one ks ((),c.2) 40=some (r1,c1):=e1
 cases r1 with
 | true =>
  obtain⟨v,c',ev,hc⟩:=anyDyadic_ok hk h1 (by omega)
  refine⟨v,c',Evt.eq (f:=fun k q=>_) ?_ (fun k q=>by rw [spec_l1Cur_entry]),hc.mono (by omega) (by omega)⟩
  exact Evt.bind (.const e1) (Evt.ctrue rfl (Evt.bind ev .pure))
 | false =>
  obtain⟨r3,c3,e3,h3,a3,b3⟩:=pick_ok hk h1 (by omega) (n:=41) (by omega)
  have b3:=b3 (by omega)
  have w3:IntKind.wrap .i64 (r3 - 20)=r3 - 20:=w64 (by omega) (by omega)
  obtain⟨r4,c4,e4,h4,m4⟩:=among_ok hk h3 (by omega) (l := [0,0,1,(-1),2,3,r3 - 20]) (by simp) (by simp)
  obtain⟨r5,c5,e5,h5,m5⟩:=among_ok hk h4 (by omega) (l := [0,0,1,2,4]) (by simp) (by simp)
  have e3:spec_l1Cur_pick ks ((),c1.2) 41=some (r3,c3):=e3
  have e4:spec_l1Cur_among ks ((),c3.2) [0,0,1,(-1),2,3,r3 - 20]=some (r4,c4):=e4
  have e5:spec_l1Cur_among ks ((),c4.2) [0,0,1,2,4]=some (r5,c5):=e5
  have hb4 : -40≤r4∧r4≤40:=by
   simp only [List.mem_cons,List.not_mem_nil,or_false]at m4
   omega
  have hb5:0≤r5∧r5≤24:=by
   simp only [List.mem_cons,List.not_mem_nil,or_false]at m5
   omega
  have d1:Evt (fun k _=>spec_dyMake k r4 r5) (mkD r4 r5.toNat):=by
   have:=dyMake_ev (n:=r4) (m:=r5.toNat) (by omega) (by omega) (by omega)
   rw [show((r5.toNat:Nat):Int)=r5 by omega]at this
   exact this
  refine⟨(mkD r4 r5.toNat).1,c5,Evt.eq (f:=fun k q=>_) ?_ (fun k q=>by rw [spec_l1Cur_entry]),h5.mono (by omega) (by omega)⟩
  refine Evt.bind (.const e1) (Evt.cfalse rfl (Evt.bind (.const e3) ?_))
  simp only [w3]
  exact Evt.bind (.const e4) (Evt.bind (.const e5) (Evt.bind d1 .pure))
theorem row_ok{ks:List Int}(hk:bytesOk ks){n:Nat}(hn:n≤4){T:List Pt}:∀(j:Nat) (row:Pt) (c:Cu) (m:Nat),row.length+j=n→CurOk c m→m+22*j≤1000000000 →
  ∃r c',Evt (fun k q=>spec_l1Cur_table_L1812 k ks q c n T row) (.inr (c',(n:Int),T,r,()))∧CurOk c' (m+22*j)∧r.length=n
 | 0,row,c,m,hl,hc,hm=>by
  refine⟨row,c,Evt.step (fun k q=>spec_l1Cur_table_L1812.eq_2 k ks _ _ _ _ q) (Evt.cfalse (decide_eq_false (by omega)) .pure),hc.mono (by omega) (by omega),by omega⟩
 | j+1,row,c,m,hl,hc,hm=>by
  obtain⟨v,c1,ev,h1⟩:=entry_ok hk hc (by omega)
  obtain⟨r,c',er,hc',hr⟩:=row_ok hk hn j (row ++ [v]) c1 (m+22) (by simp;omega) h1 (by omega)
  refine⟨r,c',Evt.step (fun k q=>spec_l1Cur_table_L1812.eq_2 k ks _ _ _ _ q) (Evt.ctrue (decide_eq_true (by omega)) (Evt.bind ev (Evt.ctrue (decide_eq_true (by simp;omega)) er))),hc'.mono (by omega) (by omega),hr⟩
theorem rows_ok{ks:List Int}(hk:bytesOk ks){n:Nat}(hn:n≤4):∀(j:Nat) (T:List Pt) (c:Cu) (m:Nat),T.length+j=n→(∀r∈T,r.length=n)→CurOk c m→m+88*j≤1000000000 →
  ∃T' c',Evt (fun k q=>spec_l1Cur_table_L28 k ks q c n T) (.inr (c',(n:Int),T',()))∧CurOk c' (m+88*j)∧T'.length=n∧∀r∈T',r.length=n
 | 0,T,c,m,hl,hT,hc,hm=>by
  refine⟨T,c,Evt.step (fun k q=>spec_l1Cur_table_L28.eq_2 k ks _ _ _ q) (Evt.cfalse (decide_eq_false (by omega)) .pure),hc.mono (by omega) (by omega),by omega,hT⟩
 | j+1,T,c,m,hl,hT,hc,hm=>by
  obtain⟨r,c1,er,h1,hr⟩:=row_ok hk hn (T:=T) n [] c m (by simp) hc (by omega)
  obtain⟨T',c',eT,hc',hT',hrs⟩:=rows_ok hk hn j (T ++ [r]) c1 (m+88) (by simp;omega) (by
   intro x hx
   rcases List.mem_append.1 hx with hx | hx
   ·exact hT x hx
   ·simp at hx;rw [hx];exact hr) (h1.mono (by omega) (by omega)) (by omega)
  refine⟨T',c',Evt.step (fun k q=>spec_l1Cur_table_L28.eq_2 k ks _ _ _ q) (Evt.ctrue (decide_eq_true (by omega)) (Evt.inr (Evt.diag er) (Evt.ctrue (decide_eq_true (by simp;omega)) eT))),hc'.mono (by omega) (by omega),hT',hrs⟩
def small4(T:List Pt):Prop:=T.length≤4∧∀r∈T,r.length≤4
theorem table_ok{ks:List Int}(hk:bytesOk ks){c:Cu}{m:Nat}(h:CurOk c m)(hm:m+400≤1000000000){n:Nat}(hn1:1≤n)(hn:n≤4):∃T c',Evt (fun k _=>spec_l1Cur_table k ks c n) (T,c')∧CurOk c' (m+400)∧small4 T:=by
 obtain⟨T,c1,eT,h1,hl,hr⟩:=rows_ok hk hn n [] c m (by simp) (by simp) h (by omega)
 obtain⟨r8,c8,e8,h8,_⟩:=pick_ok hk (h1.mono (m':=m+352) (by omega) (by omega)) (by omega) (n:=40) (by omega)
 have e8:spec_l1Cur_pick ks ((),c1.2) 40=some (r8,c8):=e8
 have h8:=h8.mono (m':=m+400) (by omega) (by omega)
 have hT4:small4 T:=⟨by omega,fun r hr'=>by rw [hr r hr'];omega⟩
 have w1:IntKind.wrap .i64 ((n:Int) - 1)=((n - 1:Nat):Int):=by rw [w64 (by omega) (by omega)];omega
 have hset:∀(i:Nat) (r:Pt),r.length≤4→small4 (T.set i r):=by
  intro i r hr4
  refine⟨by simpa using hT4.1,fun x hx => ?_⟩
  rcases List.mem_or_eq_of_mem_set hx with hx | hx
  ·exact hT4.2 x hx
  ·rw [hx];exact hr4
 have hg0:(T.getD 0 []).length=n:=by
  have h0:0<T.length:=by omega
  rw [List.getD_eq_getElem?_getD,List.getElem?_eq_getElem h0]
  exact hr _ (List.getElem_mem h0)
 have fin:∃w,Evt (fun k q=>(bif (r8==0)then(bif (decide (0<(T.length:Int)))then(bif (decide (1≤((T.getD 0 []).length:Int)))then(bif (decide (0<(T.length:Int)))then some ((T.set 0 ((T.getD 0 []).drop 1)),(),c8.2)else none)else none)else none)else(bif (r8==1)then some (([]:List (List (Int×Int))),(),c8.2)else(bif (r8==2)then(bif (decide (0<(T.length:Int)))then(bif (decide (([]:List (Int×Int)).length+(T.getD 0 []).length<274877906944))then(bif (decide (0≤(IntKind.wrap .i64 ((n:Int) - 1))))then(bif (decide ((IntKind.wrap .i64 ((n:Int) - 1))<(T.length:Int)))then some ((T.set (Int.toNat (IntKind.wrap .i64 ((n:Int) - 1))) (([]:List (Int×Int))++(T.getD 0 []))),(),c8.2)else none)else none)else none)else none)else some (T,(),c8.2))))) (w,c8)∧small4 w:=by
  rw [w1]
  cases hq:(r8==0)with
  | true=>exact⟨_,Evt.ctrue rfl (Evt.ctrue (decide_eq_true (by omega)) (Evt.ctrue (decide_eq_true (by omega)) (Evt.ctrue (decide_eq_true (by omega)) .pure))),hset _ _ (by rw [List.length_drop];omega)⟩
  | false =>
   cases hq1:(r8==1)with
   | true=>exact⟨_,Evt.cfalse rfl (Evt.ctrue rfl .pure),⟨by simp,by simp⟩⟩
   | false =>
    cases hq2:(r8==2)with
    | true=>exact⟨_,Evt.cfalse rfl (Evt.cfalse rfl (Evt.ctrue rfl (Evt.ctrue (decide_eq_true (by omega)) (Evt.ctrue (decide_eq_true (by rw [hg0];simp;omega)) (Evt.ctrue (decide_eq_true (by omega)) (Evt.ctrue (decide_eq_true (by omega)) .pure)))))),hset _ _ (by rw [List.nil_append];omega)⟩
    | false=>exact⟨_,Evt.cfalse rfl (Evt.cfalse rfl (Evt.cfalse rfl .pure)),hT4⟩
 obtain⟨w,ew,hw⟩:=fin
 refine⟨w,c8,Evt.eq (f:=fun k q=>_) ?_ (fun k q=>by rw [spec_l1Cur_table]),h8,hw⟩
 exact Evt.inr (Evt.diag eT) (Evt.bind (.const e8) ew)
end Go.Ev.G

namespace Go.Ev.G
open Go Go.Ev
set_option maxRecDepth 100000

theorem pSamePoint_ev{x:Pt}(hb:x.length<lenB):Evt (fun k _=>laws_pSamePoint k x x) true:=by
 refine Evt.eq (f:=fun k q=>_) ?_ (fun k q=>by rw [laws_pSamePoint])
 refine Evt.cfalse (by simp) ?_
 have key:∀(r d:Pt),d++r=x→Evt (fun k n=>laws_pSamePoint_L58 k n x x (x.length:Int) d.length) (.inr ()):=by
  intro r
  induction r with
  | nil =>
   intro d h
   rw [List.append_nil]at h
   subst h
   refine Evt.step (fun k n=>laws_pSamePoint_L58.eq_2 k _ _ _ _ n) ?_
   rw [mid_end]
   exact Evt.cfalse rfl .pure
  | cons e r ih =>
   intro d h
   subst h
   refine Evt.step (fun k n=>laws_pSamePoint_L58.eq_2 k _ _ _ _ n) (Evt.ctrue mid_lt (Evt.ctrue mid_ge (Evt.ctrue mid_lt (Evt.ctrue mid_ge (Evt.ctrue mid_lt ?_)))))
   rw [mid_get]
   refine Evt.cfalse (by simp) ?_
   rw [w64_next (by simp at hb;omega)]
   have:=ih (d ++ [e]) (by simp)
   rw [show(d ++ [e]).length=d.length+1 by simp]at this
   exact this
 exact Evt.inr (Evt.diag (key x [] rfl)) .pure
theorem pSameTable_ev{x:List Pt}(hb:x.length<lenB)(hr:∀r∈x,r.length<lenB):Evt (fun k _=>laws_pSameTable k x x) true:=by
 refine Evt.eq (f:=fun k q=>_) ?_ (fun k q=>by rw [laws_pSameTable])
 refine Evt.cfalse (by simp) ?_
 have key:∀(r d:List Pt),d++r=x→Evt (fun k n=>laws_pSameTable_L58 k n x x (x.length:Int) d.length) (.inr ()):=by
  intro r
  induction r with
  | nil =>
   intro d h
   rw [List.append_nil]at h
   subst h
   refine Evt.step (fun k n=>laws_pSameTable_L58.eq_2 k _ _ _ _ n) ?_
   rw [mid_end]
   exact Evt.cfalse rfl .pure
  | cons e r ih =>
   intro d h
   subst h
   refine Evt.step (fun k n=>laws_pSameTable_L58.eq_2 k _ _ _ _ n) (Evt.ctrue mid_lt (Evt.ctrue mid_ge (Evt.ctrue mid_lt (Evt.ctrue mid_ge (Evt.ctrue mid_lt ?_)))))
   rw [mid_get]
   refine Evt.bind (pSamePoint_ev (hr e (by simp))) (Evt.cfalse rfl ?_)
   rw [w64_next (by simp at hb;omega)]
   have:=ih (d ++ [e]) (by simp)
   rw [show(d ++ [e]).length=d.length+1 by simp]at this
   exact this
 exact Evt.inr (Evt.diag (key x [] rfl)) .pure
end Go.Ev.G

namespace Go.Ev.G
open Go Go.Ev
set_option maxRecDepth 100000

def D62(a:Int×Int):Prop:=(-9223372036854775808≤a.1∧a.1≤9223372036854775807) ∧ -1≤a.2∧a.2≤4611686018427387904
theorem gd.d62{a:Int×Int}(h:gd a):D62 a:=by
 obtain⟨h1,h2,h3,h4,_⟩:=h
 exact⟨by omega,by omega,by omega⟩
theorem dyMakeL{z:Int×Int}:∀(j:Nat) (n k:Int),n.natAbs<2 ^ j→n≠0→j≤64→(-9223372036854775808≤n∧n≤9223372036854775807)→(-9223372036854775808≤k∧k≤4611686018427387904)→Ok (fun q i=>spec_dyMake_L28 q i n k z) (fun s=>∃y,s = .inr y)
 | 0,n,k,h,h0,_,_,_=>by simp at h;omega
 | j+1,n,k,h,h0,hj,hn,hk=>by
  refine Ok.step (fun q i=>spec_dyMake_L28.eq_2 q _ _ _ i) (Ok.ite (fun hp=>Ok.ite (fun he => ?_) (fun _ => .pure ⟨_,rfl⟩)) (fun _ => .pure ⟨_,rfl⟩))
  have hp:=of_decide_eq_true hp
  have he:Int.tmod n 2=0:=by simpa using he
  have h2:n=2*Int.tdiv n 2:=by have:=Int.mul_tdiv_add_tmod n 2;omega
  have e:2 ^ (j+1)=2*2 ^ j:=by rw [Nat.pow_succ,Nat.mul_comm]
  rw [w64 (n:=Int.tdiv n 2) (by omega) (by omega),w64 (n:=k - 1) (by omega) (by omega)]
  exact dyMakeL j _ _ (by omega) (by omega) (by omega) (by omega) (by omega)
theorem dyMakeO{n k:Int}(hn : -9223372036854775808≤n∧n≤9223372036854775807)(hk : -9223372036854775808≤k∧k≤4611686018427387904):Ok (fun q _=>spec_dyMake q n k) (fun _=>True):=by
 refine Ok.eq (fun q i=>by rw [spec_dyMake]) ?_
 have tail:∀(n k:Int) (z:Int×Int),(n=0→k≤0)→(-9223372036854775808≤n∧n≤9223372036854775807)→(-9223372036854775808≤k∧k≤4611686018427387904)→Ok (fun q i=>spec_dyMake_L28 q i n k z) (fun s=>∃y,s = .inr y):=by
  intro n k z h0 h1 h2
  by_cases hz:n=0
  ·exact Ok.step (fun q i=>spec_dyMake_L28.eq_2 q _ _ _ i) (Ok.cf (decide_eq_false (by have:=h0 hz;omega)) (.pure ⟨_,rfl⟩))
  ·exact dyMakeL 64 n k (by omega) hz (by omega) h1 h2
 refine Ok.bth (P:=fun y=>(y.1=0→y.2.1≤0)∧(-9223372036854775808≤y.1∧y.1≤9223372036854775807)∧(-9223372036854775808≤y.2.1∧y.2.1≤4611686018427387904)) ?_ fun y hy => ?_
 ·refine Ok.ite (fun _=>Ok.ite (fun _ => .pure ⟨_,rfl,by simp,hn,by simp only;omega⟩) (fun h => .pure ⟨_,rfl,?_,hn,hk⟩)) (fun h => .pure ⟨_,rfl,?_,hn,hk⟩)
  ·have:=of_decide_eq_false h
   intro _;simp only;omega
  ·intro h2
   simp only at h2
   rw [h2]at h;cases h
 ·refine Ok.bth (P:=fun _=>True) ((Ok.diag (tail _ _ y.2.2.1 hy.1 hy.2.1 hy.2.2)).mono fun s hs=>by obtain⟨z,e⟩:=hs;exact⟨z,e,trivial⟩) fun z _ => ?_
  refine Ok.bind (Ok.const (dyGood_eq _) (P:=fun _=>True) trivial) fun r _=>Ok.ite (fun _ => .pure trivial) (fun _ => .pure trivial)
theorem l1InO(a b c:Int):Ok (fun _ _=>spec_l1In a b c) (fun r=>r=decide (b≤a∧a≤c)):=by
 unfold spec_l1In
 refine Ok.ite (fun h => .pure ?_) (fun h => .pure ?_)
 ·have:=of_decide_eq_true h
  rw [decide_eq_decide];omega
 ·have:=of_decide_eq_false h
  symm;rw [decide_eq_false_iff_not];omega
theorem dyAtL{k:Int}(hk:k≤4611686018427387904):∀(j:Nat) (a:Int×Int) (i:Int),1152921504606846976<a.1.natAbs*2 ^ j → -9223372036854775808≤i→Ok (fun q n=>spec_dyAt_L58 q n k a i) (fun s=>(∃y,s = .inr y)∨∃y,s = .inl y)
 | 0,a,i,h,hi=>by
  refine Ok.step (fun q n=>spec_dyAt_L58.eq_2 q _ _ _ n) (Ok.ite (fun _ => ?_) (fun _ => .pure (.inl ⟨_,rfl⟩)))
  refine Ok.bind (Ok.const (dyPower_eq (m:=60) (by omega)) (P:=fun r=>r=1152921504606846976) rfl) fun r1 e1=>Ok.bind (Ok.const (dyPower_eq (m:=60) (by omega)) (P:=fun r=>r=1152921504606846976) rfl) fun r2 e2=>Ok.bind (l1InO _ _ _) fun r3 e3=>Ok.ct ?_ (.pure (.inr ⟨_,rfl⟩))
  rw [e3,e1,e2,w64 (by omega) (by omega)]
  simp only [Bool.not_eq_true',decide_eq_false_iff_not]
  simp at h
  omega
 | j+1,a,i,h,hi=>by
  refine Ok.step (fun q n=>spec_dyAt_L58.eq_2 q _ _ _ n) (Ok.ite (fun hl => ?_) (fun _ => .pure (.inl ⟨_,rfl⟩)))
  have hl:=of_decide_eq_true hl
  refine Ok.bind (Ok.const (dyPower_eq (m:=60) (by omega)) (P:=fun r=>r=1152921504606846976) rfl) fun r1 e1=>Ok.bind (Ok.const (dyPower_eq (m:=60) (by omega)) (P:=fun r=>r=1152921504606846976) rfl) fun r2 e2=>Ok.bind (l1InO _ _ _) fun r3 e3=>Ok.ite (fun _ => .pure (.inr ⟨_,rfl⟩)) (fun h3 => ?_)
  have h3:r3=true:=by simpa using h3
  rw [e3,e1,e2,w64 (by omega) (by omega),decide_eq_true_eq]at h3
  rw [w64 (n:=a.1*2) (by omega) (by omega),w64 (n:=i+1) (by omega) (by omega)]
  refine dyAtL hk j (a.1*2,a.2) (i+1) ?_ (by omega)
  have e:2 ^ (j+1)=2*2 ^ j:=by rw [Nat.pow_succ,Nat.mul_comm]
  rw [e]at h
  have e2:(a.1*2).natAbs=a.1.natAbs*2:=by omega
  simp only
  rw [e2,Nat.mul_assoc]
  exact h
theorem dyAtO{a:Int×Int}{k:Int}(ha:D62 a)(hk:k≤4611686018427387904):Ok (fun q _=>spec_dyAt q a k) (fun _=>True):=by
 refine Ok.eq (fun q i=>by rw [spec_dyAt]) ?_
 refine Ok.ite (fun _ => .pure trivial) (fun hz => ?_)
 have hz:a.1≠0:=by simpa using hz
 have hn1:1≤a.1.natAbs:=by omega
 refine Ok.bothl (Ok.diag (dyAtL hk 61 a a.2 (by omega) (by have:=ha.2;omega))) (fun q _ => .pure trivial) (fun y _ => .pure trivial)
theorem dyAddO{a b:Int×Int}(ha:D62 a)(hb:D62 b):Ok (fun k _=>spec_dyAdd k a b) (fun _=>True):=by
 refine Ok.eq (fun k q=>by rw [spec_dyAdd]) ?_
 have h1:=ha.2
 have h2:=hb.2
 refine Ok.bind (mostO _ _) fun r1 e1 => ?_
 refine Ok.bind (dyAtO ha (by omega)) fun r2 _=>Ok.bind (dyAtO hb (by omega)) fun r3 _=>Ok.ite (fun _ => .pure trivial) (fun _=>Ok.ite (fun _ => .pure trivial) (fun _ => ?_))
 exact Ok.bind (dyMakeO (by rw [IntKind.wrap_i64];omega) (by omega)) fun r4 _ => .pure trivial

section
variable {ks : List Int}
theorem dyadicO(hk:bytesOk ks){c:Cu}{m:Nat}(h:CurOk c m)(hm:m+14≤1000000000):Ok (fun k _=>spec_l1Cur_dyadic k ks c) (fun r=>CurOk r.2 (m+14)∧gd r.1):=by
 refine Ok.eq (fun k q=>by rw [spec_l1Cur_dyadic]) ?_
 have mk:∀ {n p:Int},(-9223372036854775808<n∧n<9223372036854775808)→0≤p→p≤100→Ok (fun k _=>spec_dyMake k n p) (fun r=>gd r.1):=by
  intro n p hn h0 h1
  have:=dyMake_ev (n:=n) (m:=p.toNat) hn.1 hn.2 (by omega)
  rw [show((p.toNat:Nat):Int)=p by omega]at this
  exact .of this (mkD_gd _ _)
 refine Ok.bind (pickK hk h (by omega) (by omega)) fun r1 h1=>Ok.bind (pickK hk h1.1 (by omega) (by omega)) fun r2 h2 => ?_
 have b1:=h1.2.2 (by omega)
 have b2:=h2.2.2 (by omega)
 have a1:=h1.2.1
 have a2:=h2.2.1
 rw [w64 (n:=r1.1 - 32) (by omega) (by omega),w64 (n:=r2.1 - 30000) (by omega) (by omega)]
 refine Ok.bind (amongK hk h2.1 (by omega) (by simp) (by simp)) fun r3 h3=>Ok.bind (amongK hk h3.1 (by omega) (by simp) (by simp)) fun r4 h4 => ?_
 have m3:=h3.2
 have m4:=h4.2
 simp only [List.mem_cons,List.not_mem_nil,or_false]at m3 m4
 refine Ok.bind (mk (by omega) (by omega) (by omega)) fun r5 h5 => ?_
 refine Ok.bth (P:=fun y=>gd y.2.1∧CurOk y.2.2.2.1 (m+14)) ?_ fun y hy => ?_
 ·refine Ok.bind (oneK hk h4.1 (by omega) (by omega)) fun r6 h6=>Ok.ite (fun _ => ?_) (fun _ => .pure ⟨_,rfl,h5,h6.mono (by omega) (by omega)⟩)
  refine Ok.bind (amongK hk h6 (by omega) (by simp) (by simp)) fun r7 h7=>Ok.bind (amongK hk h7.1 (by omega) (by simp) (by simp)) fun r8 h8 => ?_
  have m7:=h7.2
  have m8:=h8.2
  simp only [List.mem_cons,List.not_mem_nil,or_false]at m7 m8
  exact Ok.bind (mk (by omega) (by omega) (by omega)) fun r9 h9 => .pure ⟨_,rfl,h9,h8.1.mono (by omega) (by omega)⟩
 ·exact Ok.ite (fun _=>Ok.bind (Ok.const (v:=(1,0)) rfl (P:=fun r=>gd r) (by decide)) fun r11 h11 => .pure ⟨hy.2,h11⟩) (fun _ => .pure ⟨hy.2,hy.1⟩)
theorem anyDyadicO(hk:bytesOk ks){c:Cu}{m:Nat}(h:CurOk c m)(hm:m+20≤1000000000):Ok (fun k _=>spec_l1Cur_anyDyadic k ks c) (fun r=>CurOk r.2 (m+20)∧D62 r.1):=by
 refine Ok.eq (fun k q=>by rw [spec_l1Cur_anyDyadic]) ?_
 refine Ok.bind (dyadicO hk h (by omega)) fun r1 h1=>Ok.bind (pickK hk h1.1 (by omega) (by omega)) fun r2 h2 => ?_
 have d:=h1.2.d62
 refine Ok.ite (fun _ => ?_) fun _=>Ok.ite (fun _ => ?_) fun _=>Ok.ite (fun _ => ?_) fun _ => .pure ⟨h2.1.mono (by omega) (by omega),d⟩
 ·refine Ok.bind (amongK hk h2.1 (by omega) (by simp) (by simp)) fun r3 h3 => .pure ⟨h3.1.mono (by omega) (by omega),d.1,?_⟩
  have m3:=h3.2
  simp only [List.mem_cons,List.not_mem_nil,or_false]at m3
  simp only;omega
 ·refine Ok.bind (amongK hk h2.1 (by omega) (by simp) (by simp)) fun r3 h3 => .pure ⟨h3.1.mono (by omega) (by omega),?_,d.2⟩
  have m3:=h3.2
  simp only [List.mem_cons,List.not_mem_nil,or_false]at m3
  simp only;omega
 ·refine Ok.bind (pickK hk h2.1 (by omega) (by omega)) fun r5 h5=>Ok.bind (pickK hk h5.1 (by omega) (by omega)) fun r6 h6 => .pure ⟨h6.1.mono (by omega) (by omega),?_,?_⟩
  ·have b5:=h5.2.2 (by omega)
   have a5:=h5.2.1
   simp only
   rw [w64 (by omega) (by omega)];omega
  ·have b6:=h6.2.2 (by omega)
   have a6:=h6.2.1
   simp only
   rw [w64 (by omega) (by omega)];omega
theorem entryO(hk:bytesOk ks){c:Cu}{m:Nat}(h:CurOk c m)(hm:m+24≤1000000000):Ok (fun k _=>spec_l1Cur_entry k ks c) (fun r=>CurOk r.2 (m+24)∧D62 r.1):=by
 refine Ok.eq (fun k q=>by rw [spec_l1Cur_entry]) ?_
 refine Ok.bind (oneK hk h (by omega) (by omega)) fun r1 h1=>Ok.ite (fun _ => ?_) (fun _ => ?_)
 ·exact Ok.bind (anyDyadicO hk h1 (by omega)) fun r2 h2 => .pure ⟨h2.1.mono (by omega) (by omega),h2.2⟩
 ·refine Ok.bind (pickK hk h1 (by omega) (by omega)) fun r3 h3 => ?_
  have b3:=h3.2.2 (by omega)
  have a3:=h3.2.1
  rw [w64 (n:=r3.1 - 20) (by omega) (by omega)]
  refine Ok.bind (amongK hk h3.1 (by omega) (by simp) (by simp)) fun r4 h4=>Ok.bind (amongK hk h4.1 (by omega) (by simp) (by simp)) fun r5 h5 => ?_
  have m4:=h4.2
  have m5:=h5.2
  simp only [List.mem_cons,List.not_mem_nil,or_false]at m4 m5
  have:=dyMake_ev (n:=r4.1) (m:=r5.1.toNat) (by omega) (by omega) (by omega)
  rw [show((r5.1.toNat:Nat):Int)=r5.1 by omega]at this
  exact Ok.bind (Ok.of this (P:=fun r=>gd r.1) (mkD_gd _ _)) fun r6 h6 => .pure ⟨h5.1.mono (by omega) (by omega),h6.d62⟩
theorem intervalO(hk:bytesOk ks){c:Cu}{m:Nat}(h:CurOk c m)(hm:m+34≤1000000000):Ok (fun k _=>spec_l1Cur_interval k ks c) (fun r=>CurOk r.2 (m+34)):=by
 refine Ok.eq (fun k q=>by rw [spec_l1Cur_interval]) ?_
 refine Ok.bind (dyadicO hk h (by omega)) fun r1 h1=>Ok.bind (dyadicO hk h1.1 (by omega)) fun r2 h2 => ?_
 refine Ok.bth (P:=fun y=>CurOk y.1 (m+32)∧gd y.2.2.1∧gd y.2.2.2.1) ?_ fun y hy => ?_
 ·refine Ok.bind (oneK hk h2.1 (by omega) (by omega)) fun r3 h3=>Ok.ite (fun _ => ?_) (fun _ => .pure ⟨_,rfl,h3.mono (by omega) (by omega),h1.2,h2.2⟩)
  refine Ok.bind (amongK hk h3 (by omega) (by simp) (by simp)) fun r4 h4 => ?_
  have m4:=h4.2
  simp only [List.mem_cons,List.not_mem_nil,or_false]at m4
  have hg:gd (1,r4.1):=⟨by simp only;omega,by simp only;omega,by simp,by simp,by simp⟩
  exact Ok.bind (Ok.of (dyAdd_ev h1.2 hg) (P:=fun r=>gd r.1) (sumD_gd _ _)) fun r5 h5=>Ok.ite (fun _ => .pure ⟨_,rfl,h4.1.mono (by omega) (by omega),h1.2,h5⟩) (fun _ => .pure ⟨_,rfl,h4.1.mono (by omega) (by omega),h1.2,h2.2⟩)
 ·refine Ok.bth (P:=fun z=>gd z.2.1∧gd z.2.2.1∧CurOk z.2.2.2.1 (m+34)) ?_ fun z hz => ?_
  ·exact Ok.bind (oneK hk hy.1 (by omega) (by omega)) fun r7 h7=>Ok.ite (fun _ => .pure ⟨_,rfl,hy.2.1,hy.2.1,h7.mono (by omega) (by omega)⟩) (fun _ => .pure ⟨_,rfl,hy.2.1,hy.2.2,h7.mono (by omega) (by omega)⟩)
  ·refine Ok.bind (Ok.of (ivEnds_ev (x:=z.2.1) (xs := [z.2.2.1]) (by
    intro y hy
    simp only [List.mem_cons,List.not_mem_nil,or_false]at hy
    rcases hy with rfl | rfl
    ·exact hz.1
    ·exact hz.2.1) (by simp [lenB])) (P:=fun _=>True) trivial) fun r9 _ => .pure hz.2.2
theorem anyIntervalO(hk:bytesOk ks){c:Cu}{m:Nat}(h:CurOk c m)(hm:m+60≤1000000000):Ok (fun k _=>spec_l1Cur_anyInterval k ks c) (fun r=>CurOk r.2 (m+60)):=by
 refine Ok.eq (fun k q=>by rw [spec_l1Cur_anyInterval]) ?_
 refine Ok.bind (intervalO hk h (by omega)) fun r1 h1=>Ok.bind (pickK hk h1 (by omega) (by omega)) fun r2 h2 => ?_
 refine Ok.ite (fun _ => ?_) fun _=>Ok.ite (fun _ => ?_) fun _=>Ok.ite (fun _ => ?_) fun _ => .pure (h2.1.mono (by omega) (by omega))
 ·exact Ok.bind (anyDyadicO hk h2.1 (by omega)) fun r3 h3 => .pure (h3.1.mono (by omega) (by omega))
 ·exact Ok.bind (anyDyadicO hk h2.1 (by omega)) fun r3 h3 => .pure (h3.1.mono (by omega) (by omega))
 ·exact .pure (h2.1.mono (by omega) (by omega))
theorem ivRowL(hk:bytesOk ks){n:Nat}(hn:n≤4){T:List (List Iv)}{sm:Bool}:∀(j:Nat) (row:List Iv) (c:Cu) (m:Nat),row.length+j=n→CurOk c m→m+40*j≤1000000000 →
  Ok (fun k q=>spec_l1Cur_intervals_L3860 k ks q c n T sm row) (fun s=>∃y,s = .inr y∧CurOk y.1 (m+40*j)∧y.2.1=(n:Int)∧y.2.2.1=T∧y.2.2.2.1=sm∧y.2.2.2.2.1.length=n)
 | 0,row,c,m,h,hc,hm=>Ok.step (fun k q=>spec_l1Cur_intervals_L3860.eq_2 k ks _ _ _ _ _ q) (Ok.cf (decide_eq_false (by omega)) (.pure ⟨_,rfl,hc.mono (by omega) (by omega),rfl,rfl,rfl,by simp only;omega⟩))
 | j+1,row,c,m,h,hc,hm=>by
  refine Ok.step (fun k q=>spec_l1Cur_intervals_L3860.eq_2 k ks _ _ _ _ _ q) (Ok.lt (by omega) (Ok.bind (entryO hk hc (by omega)) fun r2 h2 => ?_))
  refine Ok.bth (P:=fun y=>CurOk y.1 (m+30)∧y.2.1=(n:Int)∧y.2.2.1=T∧y.2.2.2.1=sm∧y.2.2.2.2.1=row∧D62 y.2.2.2.2.2.1) ?_ fun y hy => ?_
  ·refine Ok.ite (fun e => ?_) (fun e => .pure ⟨_,rfl,h2.1.mono (by omega) (by omega),rfl,rfl,by rw [e],rfl,h2.2⟩)
   refine Ok.bind (pickK hk h2.1 (by omega) (by omega)) fun r3 h3 => ?_
   have b3:=h3.2.2 (by omega)
   have a3:=h3.2.1
   rw [w64 (n:=r3.1 - 4) (by omega) (by omega)]
   have:=dyMake_ev (n:=r3.1 - 4) (m:=4) (by omega) (by omega) (by omega)
   exact Ok.bind (Ok.of this (P:=fun r=>gd r.1) (mkD_gd _ _)) fun r4 h4 => .pure ⟨_,rfl,h3.1.mono (by omega) (by omega),rfl,rfl,by rw [e],rfl,h4.d62⟩
  ·obtain⟨y1,y2,y3,y4,y5,y6⟩:=hy
   refine Ok.bind (amongK hk y1 (by omega) (by simp) (by simp)) fun r6 h6 => ?_
   have m6:=h6.2
   simp only [List.mem_cons,List.not_mem_nil,or_false]at m6
   have d6:D62 (r6.1,0):=⟨by simp only;omega,by simp,by simp⟩
   refine Ok.bind (dyAddO y6 d6) fun r7 _ => ?_
   refine Ok.bth (P:=fun z=>CurOk z.1 (m+36)∧z.2.1=(n:Int)∧z.2.2.1=T∧z.2.2.2.1=sm∧z.2.2.2.2.1=row) ?_ fun z hz => ?_
   ·refine Ok.ite (fun _ => ?_) (fun _ => .pure ⟨_,rfl,h6.1.mono (by omega) (by omega),y2,y3,y4,y5⟩)
    refine Ok.bind (amongK hk h6.1 (by omega) (by simp) (by simp)) fun r8 h8 => ?_
    have m8:=h8.2
    simp only [List.mem_cons,List.not_mem_nil,or_false]at m8
    have d8:D62 (1,r8.1):=⟨by simp,by simp only;omega,by simp only;omega⟩
    exact Ok.bind (dyAddO y6 d8) fun r9 _ => .pure ⟨_,rfl,h8.1.mono (by omega) (by omega),y2,y3,y4,y5⟩
   ·obtain⟨z1,z2,z3,z4,z5⟩:=hz
    refine Ok.bth (P:=fun w=>CurOk w.1 (m+36)∧w.2.1=(n:Int)∧w.2.2.1=T∧w.2.2.2.1=sm∧w.2.2.2.2.1=row) ?_ fun w hw => ?_
    ·exact Ok.ite (fun _ => .pure ⟨_,rfl,z1,z2,z3,z4,z5⟩) (fun _ => .pure ⟨_,rfl,z1,z2,z3,z4,z5⟩)
    ·obtain⟨w1,w2,w3,w4,w5⟩:=hw
     refine Ok.ltN (by rw [w5];simp;omega) ?_
     rw [w2,w3,w4,w5]
     have:=ivRowL hk hn (T:=T) (sm:=sm) j (row ++ [(w.2.2.2.2.2.1,w.2.2.2.2.2.2.1)]) w.1 (m+40) (by simp;omega) (w1.mono (by omega) (by omega)) (by omega)
     exact this.mono fun s hs=>by obtain⟨v,e,v1,v2⟩:=hs;exact⟨v,e,v1.mono (by omega) (by omega),v2⟩
theorem ivRowsL(hk:bytesOk ks){n:Nat}(hn:n≤4){sm:Bool}:∀(j:Nat) (T:List (List Iv)) (c:Cu) (m:Nat),T.length+j=n→(∀r∈T,r.length=n)→CurOk c m→m+160*j≤1000000000 →
  Ok (fun k q=>spec_l1Cur_intervals_L60 k ks q c n T sm) (fun s=>∃y,s = .inr y∧CurOk y.1 (m+160*j)∧y.2.1=(n:Int)∧y.2.2.1.length=n∧∀r∈y.2.2.1,r.length=n)
 | 0,T,c,m,h,hT,hc,hm=>Ok.step (fun k q=>spec_l1Cur_intervals_L60.eq_2 k ks _ _ _ _ q) (Ok.cf (decide_eq_false (by omega)) (.pure ⟨_,rfl,hc.mono (by omega) (by omega),rfl,by simp only;omega,hT⟩))
 | j+1,T,c,m,h,hT,hc,hm=>by
  refine Ok.step (fun k q=>spec_l1Cur_intervals_L60.eq_2 k ks _ _ _ _ q) (Ok.lt (by omega) ?_)
  refine Ok.bth (Ok.diag (ivRowL hk hn (T:=T) (sm:=sm) n [] c m (by simp) hc (by omega))) fun y hy => ?_
  obtain⟨y1,y2,y3,y4,y5⟩:=hy
  refine Ok.ltN (by rw [y3];simp;omega) ?_
  rw [y2,y3,y4]
  have:=ivRowsL hk hn (sm:=sm) j (T ++ [y.2.2.2.2.1]) y.1 (m+160) (by simp;omega) (by
   intro x hx
   rcases List.mem_append.1 hx with hx | hx
   ·exact hT x hx
   ·simp at hx;rw [hx];exact y5) (y1.mono (by omega) (by omega)) (by omega)
  exact this.mono fun s hs=>by obtain⟨v,e,v1,v2⟩:=hs;exact⟨v,e,v1.mono (by omega) (by omega),v2⟩
def smallV(T:List (List Iv)):Prop:=T.length≤5∧∀r∈T,r.length≤5
theorem intervalsO(hk:bytesOk ks){c:Cu}{m:Nat}(h:CurOk c m)(hm:m+800≤1000000000){n:Nat}(hn1:1≤n)(hn:n≤4):Ok (fun k _=>spec_l1Cur_intervals k ks c n) (fun r=>smallV r.1):=by
 refine Ok.eq (fun k q=>by rw [spec_l1Cur_intervals]) ?_
 refine Ok.bind (oneK hk h (by omega) (by omega)) fun r1 h1 => ?_
 refine Ok.bth (Ok.diag (ivRowsL hk hn n [] r1.2 _ (by simp) (by simp) h1 (by omega))) fun y hy => ?_
 obtain⟨y1,y2,y3,y4⟩:=hy
 refine Ok.bind (pickK hk y1 (by omega) (by omega)) fun r21 h21 => ?_
 have hs:smallV y.2.2.1:=⟨by omega,fun r hr=>by rw [y4 r hr];omega⟩
 rw [y2]
 have w:IntKind.wrap .i64 ((n:Int) - 1)=((n - 1:Nat):Int):=by rw [w64 (by omega) (by omega)];omega
 rw [w]
 have hg:∀i,i<n→(y.2.2.1.getD i []).length=n:=fun i hi=>y4 _ (getD_in (by omega))
 have hset:∀(i:Nat) (r:List Iv),r.length≤5→smallV (y.2.2.1.set i r):=by
  intro i r hr
  refine⟨by simpa using hs.1,fun x hx => ?_⟩
  rcases List.mem_or_eq_of_mem_set hx with hx | hx
  ·exact hs.2 x hx
  ·rw [hx];exact hr
 refine Ok.ite (fun _ => ?_) fun _=>Ok.ite (fun _ => ?_) fun _ => .pure hs
 ·simp only [Int.toNat_natCast]
  have e:=hg (n - 1) (by omega)
  exact Ok.le (by omega) (Ok.lt (by omega) (Ok.ltN (by rw [e];simp;omega) (Ok.le (by omega) (Ok.lt (by omega) (Ok.ct (Nat.beq_refl _) (.pure (hset _ _ (by rw [List.length_append,e];simp;omega))))))))
 ·have e:=hg 0 (by omega)
  exact Ok.lt (by omega) (Ok.bind (anyIntervalO hk h21.1 (by omega)) fun r22 _=>Ok.lt (by rw [e];omega) (.pure (hset _ _ (by rw [List.length_set,e];omega))))
theorem drawDetInO(hk:bytesOk ks):Ok (fun k _=>spec_DrawDeterminantIn k ks) smallV:=by
 refine Ok.eq (fun k q=>by rw [spec_DrawDeterminantIn]) ?_
 refine Ok.bind (amongK hk curZ (by omega) (by simp) (by simp)) fun r1 h1=>Ok.bind (amongK hk h1.1 (by omega) (by simp) (by simp)) fun r2 h2 => ?_
 have m1:=h1.2
 have m2:=h2.2
 simp only [List.mem_cons,List.not_mem_nil,or_false]at m1 m2
 obtain⟨n,hn,hn1,hn4⟩:∃n:Nat,r2.1=(n:Int)∧1≤n∧n≤4:=⟨r2.1.toNat,by omega,by omega,by omega⟩
 rw [hn]
 exact Ok.bind (intervalsO hk h2.1 (by omega) hn1 hn4) fun r3 h3 => .pure h3
theorem tableO(hk:bytesOk ks){c:Cu}{m:Nat}(h:CurOk c m)(hm:m+400≤1000000000){n:Nat}(hn1:1≤n)(hn:n≤4):Ok (fun k _=>spec_l1Cur_table k ks c n) (fun r=>CurOk r.2 (m+400)∧small4 r.1):=by
 obtain⟨T,c',e,h1,h2⟩:=table_ok hk h hm hn1 hn
 exact .of e ⟨h1,h2⟩
theorem drawTimesInO(hk:bytesOk ks):Ok (fun k _=>spec_DrawTimesIntervals k ks) (fun r=>small4 r.1∧smallV r.2):=by
 refine Ok.eq (fun k q=>by rw [spec_DrawTimesIntervals]) ?_
 refine Ok.bind (sidesK hk curZ (by omega)) fun r1 h1 => ?_
 obtain⟨n,hn,hn1,hn3⟩:∃n:Nat,r1.1=(n:Int)∧1≤n∧n≤3:=⟨r1.1.toNat,by omega,by omega,by omega⟩
 rw [hn]
 refine Ok.bind (tableO hk h1.1 (by omega) hn1 (by omega)) fun r2 h2 => ?_
 refine Ok.bth (P:=fun y=>CurOk y.1 410∧1≤y.2.1∧y.2.1≤3∧y.2.2.1=r2.1) ?_ fun y hy => ?_
 ·refine Ok.bind (oneK hk h2.1 (by omega) (by omega)) fun r3 h3=>Ok.ite (fun _ => ?_) (fun _ => .pure ⟨_,rfl,h3.mono (by omega) (by omega),by simp only;omega,by simp only;omega,rfl⟩)
  exact Ok.bind (sidesK hk h3 (by omega)) fun r4 h4 => .pure ⟨_,rfl,h4.1.mono (by omega) (by omega),h4.2.1,h4.2.2,rfl⟩
 ·obtain⟨y1,y2,y3,y4⟩:=hy
  obtain⟨n2,hn2,hn21,hn23⟩:∃n:Nat,y.2.1=(n:Int)∧1≤n∧n≤3:=⟨y.2.1.toNat,by omega,by omega,by omega⟩
  rw [hn2,y4]
  exact Ok.bind (intervalsO hk y1 (by omega) hn21 (by omega)) fun r6 h6 => .pure ⟨h2.2,h6⟩
theorem drawRoundedO(hk:bytesOk ks):Ok (fun k _=>spec_DrawRoundedInverse k ks) (fun r=>small4 r.1):=by
 refine Ok.eq (fun k q=>by rw [spec_DrawRoundedInverse]) ?_
 refine Ok.bind (sidesK hk curZ (by omega)) fun r1 h1 => ?_
 obtain⟨n,hn,hn1,hn3⟩:∃n:Nat,r1.1=(n:Int)∧1≤n∧n≤3:=⟨r1.1.toNat,by omega,by omega,by omega⟩
 rw [hn]
 refine Ok.bind (tableO hk h1.1 (by omega) hn1 (by omega)) fun r2 h2 => ?_
 refine Ok.bind (P:=fun _=>True) ?_ fun r3 _ => .pure h2.2
 unfold spec_l1Cur_placesOf
 exact Ok.bind (amongK hk h2.1 (by omega) (by simp) (by simp)) fun r3 h3=>Ok.bind (amongK hk h3.1 (by omega) (by simp) (by simp)) fun r4 _ => .pure trivial
end
end Go.Ev.G

namespace Go.Ev.G
open Go Go.Ev
set_option maxRecDepth 100000

def mem(N D:Int)(i:Iv):Prop:=sv i.1*D≤N*TT∧N*TT≤sv i.2*D
theorem mul_btw1{c d y:Int}(a:Int)(h3:c≤y)(h4:y≤d):min (a*c) (a*d)≤a*y∧a*y≤max (a*c) (a*d):=by
 rcases Int.le_total 0 a with h | h
 ·have e1:=Int.mul_le_mul_of_nonneg_left h3 h
  have e2:=Int.mul_le_mul_of_nonneg_left h4 h
  omega
 ·have e1:=Int.mul_le_mul_of_nonpos_left h h3
  have e2:=Int.mul_le_mul_of_nonpos_left h h4
  omega
theorem mul_btw{a b c d x y:Int}(h1:a≤x)(h2:x≤b)(h3:c≤y)(h4:y≤d):min (min (a*c) (a*d)) (min (b*c) (b*d))≤x*y∧x*y≤max (max (a*c) (a*d)) (max (b*c) (b*d)):=by
 have p1:=mul_btw1 a h3 h4
 have p2:=mul_btw1 b h3 h4
 have p3:=mul_btw1 y h1 h2
 rw [Int.mul_comm y a,Int.mul_comm y b,Int.mul_comm y x]at p3
 omega
theorem sv_ng2(a:Int×Int):sv (ng a) = -sv a:=sv_neg a
theorem rdI_out{p:Nat}{x:Iv}(h:gdI x)(hp:p≤24):sv (rdI p x).1≤sv x.1∧sv x.2≤sv (rdI p x).2:=by
 refine⟨rdD_sv h.1 hp,?_⟩
 have hg:gd (ng x.2):=by
  obtain⟨h1,h2,h3,h4,h5⟩:=h.2
  exact⟨h1,h2,by simp only [ng];omega,by simp only [ng];omega,by simp only [ng];omega⟩
 have h1:=rdD_sv (p:=p) hg hp
 have e:sv (rdI p x).2 = -sv (rdD p (ng x.2)):=sv_ng2 _
 rw [e]
 rw [sv_ng2]at h1
 omega
theorem mulO_parts{i k t:Iv}(h:mulO i k=some t):∃a b c d,prO (i.1,k.1)=some a∧prO (i.1,k.2)=some b∧prO (i.2,k.1)=some c∧prO (i.2,k.2)=some d∧t=rdI 16 (ends4 a b c d):=by
 unfold mulO at h
 split at h
 ·rename_i a b c d h1 h2 h3 h4
  cases h
  exact⟨a,b,c,d,h1,h2,h3,h4,rfl⟩
 ·cases h
theorem mem_mul{N D N' D':Int}{i k t:Iv}(hi:gdI i)(hk:gdI k)(hD:0<D)(hD':0<D')(h:mem N D i)(h':mem N' D' k)(e:mulO i k=some t):mem (N*N') (D*D') t:=by
 obtain⟨a,b,c,d,ha,hb,hc,hd,rfl⟩:=mulO_parts e
 have ga:=prO_gd ha
 have gb:=prO_gd hb
 have gc:=prO_gd hc
 have g4:=prO_gd hd
 have sa:=prO_sv hi.1 hk.1 ha
 have sb:=prO_sv hi.1 hk.2 hb
 have sc:=prO_sv hi.2 hk.1 hc
 have sd:=prO_sv hi.2 hk.2 hd
 rw [two24]at sa sb sc sd
 have out:=rdI_out (p:=16) (ends4_gd ga gb gc g4) (by omega)
 have o1:sv (ends4 a b c d).1=min (min (sv a) (sv b)) (min (sv c) (sv d)):=by
  unfold ends4
  simp only [minD_sv]
 have o2:sv (ends4 a b c d).2=max (max (sv a) (sv b)) (max (sv c) (sv d)):=by
  unfold ends4
  simp only [maxD_sv]
 rw [o1,o2]at out
 have main:=mul_btw h.1 h.2 h'.1 h'.2
 have r:∀u v w:Int,w*TT=u*v→u*D*(v*D')=w*(D*D')*TT:=by
  intro u v w hw
  rw [Int.mul_assoc w,Int.mul_comm (D*D') TT,←Int.mul_assoc w,hw]
  grind
 rw [r _ _ _ sa,r _ _ _ sb,r _ _ _ sc,r _ _ _ sd]at main
 have e2:N*TT*(N'*TT)=N*N'*TT*TT:=by grind
 rw [e2]at main
 have hE:0≤D*D':=Int.le_of_lt (Int.mul_pos hD hD')
 unfold mem
 generalize D*D'=E at main hE ⊢
 generalize N*N'*TT=P at main ⊢
 generalize rdI 16 (ends4 a b c d)=t at out ⊢
 have m:∀ {u v:Int},u≤v→u*E≤v*E:=fun h=>Int.mul_le_mul_of_nonneg_right h hE
 have q1:=Int.le_min.1 out.1
 have q2:=Int.le_min.1 q1.1
 have q3:=Int.le_min.1 q1.2
 have q4:=Int.max_le.1 out.2
 have q5:=Int.max_le.1 q4.1
 have q6:=Int.max_le.1 q4.2
 have l1:=m q2.1
 have l2:=m q2.2
 have l3:=m q3.1
 have l4:=m q3.2
 have u1:=m q5.1
 have u2:=m q5.2
 have u3:=m q6.1
 have u4:=m q6.2
 have k:∀ {u v:Int},u*E≤v*E→u*E*TT≤v*E*TT:=fun h=>Int.mul_le_mul_of_nonneg_right h (by decide)
 have lo:=Int.le_trans (Int.le_min.2 ⟨Int.le_min.2 ⟨k l1,k l2⟩,Int.le_min.2 ⟨k l3,k l4⟩⟩) main.1
 have hi2:=Int.le_trans main.2 (Int.max_le.2 ⟨Int.max_le.2 ⟨k u1,k u2⟩,Int.max_le.2 ⟨k u3,k u4⟩⟩)
 have tp:(0:Int)<TT:=by decide
 exact⟨Int.le_of_mul_le_mul_right lo tp,Int.le_of_mul_le_mul_right hi2 tp⟩
theorem addO_parts{i k t:Iv}(h:addO i k=some t):∃a b,smO i.1 k.1=some a∧smO i.2 k.2=some b∧t=(a,b):=by
 unfold addO at h
 split at h
 ·rename_i a b h1 h2
  cases h
  exact⟨a,b,h1,h2,rfl⟩
 ·cases h
theorem smO_sv{a b t:Int×Int}(ha:gd a)(hb:gd b)(h:smO a b=some t):sv t=sv a+sv b:=by
 unfold smO at h
 split at h
 ·rename_i hs
  cases h
  exact sumD_sv ha hb hs
 ·cases h
theorem mem_add{N N' D:Int}{i k t:Iv}(hi:gdI i)(hk:gdI k)(h:mem N D i)(h':mem N' D k)(e:addO i k=some t):mem (N+N') D t:=by
 obtain⟨a,b,ha,hb,rfl⟩:=addO_parts e
 unfold mem at h h' ⊢
 rw [smO_sv hi.1 hk.1 ha,smO_sv hi.2 hk.2 hb,Int.add_mul,Int.add_mul,Int.add_mul]
 omega
theorem ng_gd{a:Int×Int}(h:gd a):gd (ng a):=by
 obtain⟨h1,h2,h3,h4,h5⟩:=h
 exact⟨h1,h2,by simp only [ng];omega,by simp only [ng];omega,by simp only [ng];omega⟩
theorem mem_sub{N N' D:Int}{i k t:Iv}(hi:gdI i)(hk:gdI k)(h:mem N D i)(h':mem N' D k)(e:subO i k=some t):mem (N - N') D t:=by
 have h2:mem (-N') D (ng k.2,ng k.1):=by
  unfold mem at h' ⊢
  simp only [sv_ng2,Int.neg_mul]
  omega
 rw [Int.sub_eq_add_neg]
 exact mem_add hi ⟨ng_gd hk.2,ng_gd hk.1⟩ h h2 e
end Go.Ev.G

namespace Go.Ev.G
open Go Go.Ev
set_option maxRecDepth 100000

def memD(x:Int×Int)(i:Iv):Prop:=sv i.1≤sv x∧sv x≤sv i.2
theorem memD_mem{x:Int×Int}{i:Iv}(h:memD x i):mem (sv x) TT i:=⟨Int.mul_le_mul_of_nonneg_right h.1 (by decide),Int.mul_le_mul_of_nonneg_right h.2 (by decide)⟩
theorem mem_memD{x:Int×Int}{i:Iv}(h:mem (sv x) TT i):memD x i:=⟨Int.le_of_mul_le_mul_right h.1 (by decide),Int.le_of_mul_le_mul_right h.2 (by decide)⟩
theorem memD_zero:memD (0,0) zI:=by unfold memD;simp [sv]
theorem memD_self{x:Int×Int}{i:Iv}(hi:ivGd i)(h:x=i.1∨x=i.2):memD x i:=by
 rcases h with rfl | rfl
 ·exact⟨Int.le_refl _,hi.2.2⟩
 ·exact⟨hi.2.2,Int.le_refl _⟩
theorem memD_mul{a d p:Int×Int}{i k t:Iv}(ga:gd a)(gdd:gd d)(hi:gdI i)(hk:gdI k)(h1:memD a i)(h2:memD d k)(hp:(prodD a d).2=true)(e:p=(prodD a d).1)(ht:mulO i k=some t):memD p t:=by
 have hm:=mem_mul hi hk (by decide) (by decide) (memD_mem h1) (memD_mem h2) ht
 have hs:=sv_prod ga gdd hp
 rw [←e]at hs
 unfold mem at hm
 rw [←hs]at hm
 have r1:sv t.1*(TT*TT)=sv t.1*TT*TT:=by rw [Int.mul_assoc]
 have r2:sv t.2*(TT*TT)=sv t.2*TT*TT:=by rw [Int.mul_assoc]
 rw [r1,r2]at hm
 have tp:(0:Int)<TT:=by decide
 exact⟨Int.le_of_mul_le_mul_right (Int.le_of_mul_le_mul_right hm.1 tp) tp,Int.le_of_mul_le_mul_right (Int.le_of_mul_le_mul_right hm.2 tp) tp⟩
theorem memD_acc{c:Nat}{s p:Int×Int}{S U t:Iv}(gs:gd s)(gp:gd p)(hS:gdI S)(hU:gdI U)(h1:memD s S)(h2:memD p U)(hs:(sumD s (ngD c p)).2=true)(ht:accI c (some S) (some U)=some t):memD (sumD s (ngD c p)).1 t:=by
 refine mem_memD ?_
 rw [sv_sum gs (ngD_gd gp) hs,sv_ng]
 unfold accI at ht
 simp only at ht
 split at ht
 ·rename_i hc
  rw [if_pos hc]
  exact mem_sub hS hU (memD_mem h1) (memD_mem h2) ht
 ·rename_i hc
  rw [if_neg hc]
  exact mem_add hS hU (memD_mem h1) (memD_mem h2) ht
def TermR(c:Nat)(t:Int×Int)(T:Option Iv):Prop:=∃p U,t=ngD c p∧gd p∧(∀V,T=some V→V=U∧gdI U∧memD p U)
theorem memD_fold:∀(ts:List (Int×Int)) (Ts:List (Option Iv)) (c:Nat) (s:Int×Int) (S t:_) (iv:Iv),ts.length=Ts.length→(∀j,j<ts.length→TermR (c+j) (ts.getD j (0,0)) (Ts.getD j none))→gd s→gdI S→memD s S→osum s ts=some t→foldI c (some S) Ts=some iv→memD t iv
 | [],[],_,_,_,_,_,_,_,_,_,h,e,e2=>by cases e;cases e2;exact h
 | [],_::_,_,_,_,_,_,hl,_,_,_,_,_,_=>by simp at hl
 | _::_,[],_,_,_,_,_,hl,_,_,_,_,_,_=>by simp at hl
 | x::ts,X::Ts,c,s,S,t,iv,hl,hr,gs,gS,h,e,e2=>by
  obtain⟨p,U,e3,gp,hU⟩:=hr 0 (by simp)
  simp only [Nat.add_zero,List.getD_cons_zero]at e3 hU
  rw [osum]at e
  split at e
  ·rename_i hs
   rw [foldI]at e2
   cases hX:X with
   | none =>
    rw [hX]at e2
    have:accI c (some S) none=none:=rfl
    rw [this,foldI_none]at e2
    cases e2
   | some V =>
    obtain⟨rfl,gU,hm⟩:=hU V hX
    rw [hX]at e2
    cases ha:accI c (some S) (some V)with
    | none=>rw [ha,foldI_none]at e2;cases e2
    | some W =>
     rw [ha]at e2
     rw [e3]at e hs
     refine memD_fold ts Ts (c+1) (sumD s (ngD c p)).1 W t iv (by simpa using hl) (fun j hj => ?_) (sumD_gd _ _) (accI_gd ha) (memD_acc gs gp gS gU h hm hs ha) e e2
     have:=hr (j+1) (by simp;omega)
     simpa [Nat.add_assoc,Nat.add_comm 1 j] using this
  ·cases e
def memT(m:List Pt)(M:List (List Iv)):Prop:=∀i j,memD ((m.getD i []).getD j (0,0)) ((M.getD i []).getD j zI)
theorem erase_getD{α:Type}{l:List α}{c j:Nat}{d:α}:(l.eraseIdx c).getD j d=if j<c then l.getD j d else l.getD (j+1) d:=by
 rw [List.getD_eq_getElem?_getD,List.getElem?_eraseIdx]
 split <;> rw [List.getD_eq_getElem?_getD]
theorem part_getD{α:Type}{m:List (List α)}{c i:Nat}:(partV m 0 c).getD i []=(m.getD (i+1) []).eraseIdx c:=by
 unfold partV
 rw [List.getD_eq_getElem?_getD,List.getElem?_map,List.getElem?_eraseIdx,if_neg (by omega),List.getD_eq_getElem?_getD]
 cases m[i+1]? with
 | none=>simp
 | some r=>rfl
theorem memT_part{m:List Pt}{M:List (List Iv)}(h:memT m M)(c:Nat):memT (partV m 0 c) (partV M 0 c):=by
 intro i j
 rw [part_getD,part_getD,erase_getD,erase_getD]
 split
 ·exact h _ _
 ·exact h _ _
theorem det_in:∀(n:Nat) (m:List Pt) (M:List (List Iv)) (t:Int×Int) (iv:Iv),sq gd (n+1) m→sq ivGd (n+1) M→memT m M→detO n m=some t→detIO n M=some iv→memD t iv
 | 0,m,M,t,iv,_,_,h,e,e2=>by
  cases e;cases e2
  exact h 0 0
 | n+1,m,M,t,iv,hm,hM,h,e,e2=>by
  have e:(if ((List.range (n+2)).map fun c=>tmO c ((m.getD 0 []).getD c (0,0)) (detO n (partV m 0 c))).all (·.isSome)then osum (0,0) (((List.range (n+2)).map fun c=>tmO c ((m.getD 0 []).getD c (0,0)) (detO n (partV m 0 c))).map fun o=>o.getD (0,0))else none)=some t:=e
  split at e
  ·rename_i hall
   rw [List.all_eq_true]at hall
   have g0:∀c,c≤n+1→gd ((m.getD 0 []).getD c (0,0)):=by
    intro c hc
    have h0:0<m.length:=by rw [hm.1];omega
    have hr:=hm.2 _ (getD_in (z := []) h0)
    exact hr.2 _ (getD_in (by rw [hr.1];omega))
   have G0:∀c,c≤n+1→ivGd ((M.getD 0 []).getD c zI):=by
    intro c hc
    have h0:0<M.length:=by rw [hM.1];omega
    have hr:=hM.2 _ (getD_in (z := []) h0)
    exact hr.2 _ (getD_in (by rw [hr.1];omega))
   refine memD_fold _ _ 0 (0,0) zI t iv (by simp) (fun c hc => ?_) (by decide) zI_gd memD_zero e e2
   simp only [List.length_map,List.length_range]at hc
   rw [Nat.zero_add]
   have r1:((((List.range (n+2)).map fun c=>tmO c ((m.getD 0 []).getD c (0,0)) (detO n (partV m 0 c))).map fun o=>o.getD (0,0)).getD c (0,0))=(tmO c ((m.getD 0 []).getD c (0,0)) (detO n (partV m 0 c))).getD (0,0):=by
    rw [List.getD_eq_getElem?_getD,List.getElem?_map,List.getElem?_map,List.getElem?_range hc]
    rfl
   have r2:(((List.range (n+2)).map fun c=>tmI ((M.getD 0 []).getD c zI) (detIO n (partV M 0 c))).getD c none)=tmI ((M.getD 0 []).getD c zI) (detIO n (partV M 0 c)):=by
    rw [List.getD_eq_getElem?_getD,List.getElem?_map,List.getElem?_range hc]
    rfl
   rw [r1,r2]
   have hsome:=hall _ (List.mem_map_of_mem (f:=fun c=>tmO c ((m.getD 0 []).getD c (0,0)) (detO n (partV m 0 c))) (List.mem_range.2 hc))
   obtain⟨v,hv⟩:=Option.isSome_iff_exists.1 hsome
   rw [hv]
   unfold tmO at hv
   split at hv
   ·cases hv
   ·rename_i d hd
    split at hv
    ·rename_i hp
     cases hv
     have gdd:=detO_gd n _ d (sq_part (i:=0) (j:=c) hm (by omega) (by omega)) hd
     refine⟨(prodD ((m.getD 0 []).getD c (0,0)) d).1,(tmI ((M.getD 0 []).getD c zI) (detIO n (partV M 0 c))).getD zI,rfl,prodD_gd _ _,fun V hV => ?_⟩
     rw [hV]
     refine⟨rfl,tmI_gd hV,?_⟩
     unfold tmI at hV
     split at hV
     ·cases hV
     ·rename_i D hD
      have hsq:=sq_part (i:=0) (j:=c) hM (by omega) (by omega)
      have hd2:=det_in n (partV m 0 c) (partV M 0 c) d D (sq_part (i:=0) (j:=c) hm (by omega) (by omega)) hsq (memT_part h c) hd hD
      have gi:=G0 c (by omega)
      exact memD_mul (g0 c (by omega)) gdd ⟨gi.1,gi.2.1⟩ (detIO_gd n _ D hsq hD) (h 0 c) hd2 hp rfl hV
    ·cases hv
  ·cases e
end Go.Ev.G

namespace Go.Ev.G
open Go

theorem kn_lt{u y n B:Nat}(hu:u<y)(hn:n<B):(u*B+n) / y<B:=by
 have hy:0<y:=by omega
 rw [Nat.div_lt_iff_lt_mul hy]
 have:(u+1)*B≤y*B:=Nat.mul_le_mul_right B hu
 have e:(u+1)*B=u*B+B:=Nat.succ_mul u B
 have:B*y=y*B:=Nat.mul_comm _ _
 omega

theorem kn_mul(q y1 y0 B:Nat):q*(y1*B+y0)=q*y1*B+q*y0:=by rw [Nat.mul_add,Nat.mul_assoc]

theorem kn_exit{u y1 y0 n B q r:Nat}(hy:0<y1*B+y0)(h1:q*y1+r=u)(h2:(u*B+n) / (y1*B+y0)≤q)(h3:q*y0≤B*r+n):q=(u*B+n) / (y1*B+y0):=by
 refine Nat.le_antisymm ?_ h2
 rw [Nat.le_div_iff_mul_le hy,kn_mul,←h1,Nat.add_mul]
 have:B*r=r*B:=Nat.mul_comm _ _
 omega

theorem kn_break{u y1 y0 n B q r:Nat}(hy:0<y1*B+y0)(hy0:y0<B)(h1:q*y1+r=u)(h2:(u*B+n) / (y1*B+y0)≤q)(h3:q≤B)(h4:B≤r):q=(u*B+n) / (y1*B+y0):=by
 refine kn_exit hy h1 h2 ?_
 have a:q*y0≤B*y0:=Nat.mul_le_mul_right y0 h3
 have b:B*y0≤B*r:=Nat.mul_le_mul_left B (by omega)
 omega

theorem kn_init{u y1 y0 n B:Nat}(hy1:0<y1)(hn:n<B):(u*B+n) / (y1*B+y0)≤u / y1:=by
 rw [Nat.le_div_iff_mul_le hy1]
 have h:(u*B+n) / (y1*B+y0)*(y1*B+y0)≤u*B+n:=Nat.div_mul_le_self _ _
 rw [kn_mul]at h
 have hB:0<B:=by omega
 have h2:(u*B+n) / (y1*B+y0)*y1*B<(u+1)*B:=by rw [Nat.succ_mul];omega
 have:=Nat.lt_of_mul_lt_mul_right h2
 omega

theorem kn_most{u y1 y0 B:Nat}(hu:u<y1*B+y0)(hy0:y0<B)(hb:B≤2*y1):u / y1≤B+1:=by
 have hy:0<y1:=by omega
 have:u / y1<B+2:=by
  rw [Nat.div_lt_iff_lt_mul hy]
  have:(B+2)*y1=y1*B+2*y1:=by rw [Nat.add_mul,Nat.mul_comm]
  omega
 omega

theorem kn_join{u n1 n0 y B:Nat}(hy:0<y)(hn0:n0<B) :
  (u*B+n1) / y*B+((u*B+n1) % y*B+n0) / y=((u*B+n1)*B+n0) / y∧((u*B+n1) % y*B+n0) % y=((u*B+n1)*B+n0) % y:=by
 have e:(u*B+n1)*B+n0=y*((u*B+n1) / y*B)+((u*B+n1) % y*B+n0):=by
  conv=>lhs;rw [←Nat.div_add_mod (u*B+n1) y]
  rw [Nat.add_mul,Nat.mul_assoc,Nat.add_assoc]
 rw [e]
 generalize (u*B+n1) / y*B=p
 generalize (u*B+n1) % y*B+n0=m
 exact⟨by rw [Nat.mul_add_div hy],by rw [Nat.mul_add_mod]⟩
end Go.Ev.G

namespace Go.Ev.G
open Go Go.Ev
set_option maxRecDepth 100000

def tabB:ByteArray:=⟨#[0,1,2,2,3,3,3,3,4,4,4,4,4,4,4,4,5,5,5,5,5,5,5,5,5,5,5,5,5,5,5,5,6,6,6,6,6,6,6,6,6,6,6,6,6,6,6,6,6,6,6,6,6,6,6,6,6,6,6,6,6,6,6,6,7,7,7,7,7,7,7,7,7,7,7,7,7,7,7,7,7,7,7,7,7,7,7,7,7,7,7,7,7,7,7,7,7,7,7,7,7,7,7,7,7,7,7,7,7,7,7,7,7,7,7,7,7,7,7,7,7,7,7,7,7,7,7,7,8,8,8,8,8,8,8,8,8,8,8,8,8,8,8,8,8,8,8,8,8,8,8,8,8,8,8,8,8,8,8,8,8,8,8,8,8,8,8,8,8,8,8,8,8,8,8,8,8,8,8,8,8,8,8,8,8,8,8,8,8,8,8,8,8,8,8,8,8,8,8,8,8,8,8,8,8,8,8,8,8,8,8,8,8,8,8,8,8,8,8,8,8,8,8,8,8,8,8,8,8,8,8,8,8,8,8,8,8,8,8,8,8,8,8,8,8,8,8,8,8,8,8,8,8,8,8,8]⟩
def tab8(x:Nat):Nat:=((tabB:ByteArray).data.getD x 0).toNat
theorem tab8_all:∀x:Fin 256,x.val=0∨(1≤tab8 x.val∧tab8 x.val≤8∧2 ^ (tab8 x.val - 1)≤x.val∧x.val<2 ^ tab8 x.val):=by decide +kernel
theorem tab8_ok{x:Nat}(h0:0<x)(h:x<256):1≤tab8 x∧tab8 x≤8∧2 ^ (tab8 x - 1)≤x∧x<2 ^ tab8 x:=by
 rcases tab8_all ⟨x,h⟩with h | h
 ·simp only at h;omega
 ·exact h
def len8(x n:Nat):Option Int:=(bif (decide (0≤(IntKind.wrap .u8 (x:Int))))then(bif (decide ((IntKind.wrap .u8 (x:Int))<((tabB:ByteArray).size:Int)))then some (IntKind.wrap .i64 ((n:Int)+(IntKind.wrap .i64 ((((tabB:ByteArray).data.getD (Int.toNat (IntKind.wrap .u8 (x:Int))) 0).toNat):Int))))else none)else none)
theorem len8_eq{x n:Nat}(h:x<256)(hn:n≤56):len8 x n=some ((n+tab8 x:Nat):Int):=by
 have hw:IntKind.wrap .u8 (x:Int)=(x:Int):=by
  have:IntKind.wrap .u8 (x:Int)=(x:Int) % 256:=by rfl
  omega
 have ht:tab8 x<256:=UInt8.toNat_lt _
 unfold len8
 rw [hw,decide_eq_true (by omega),decide_eq_true (show(x:Int)<_ by show(x:Int)<256;omega)]
 simp only [cond_true,Int.toNat_natCast]
 have e:((((tabB:ByteArray).data.getD x 0).toNat:Nat):Int)=(tab8 x:Int):=rfl
 rw [e,w64 (n:=(tab8 x:Int)) (by omega) (by omega),w64 (by omega) (by omega)]
 rfl

theorem both_inr{R P β:Type}{p:P}{f:R→Option β}{g:P→Option β}:both (some (Sum.inr p)) f g=g p:=rfl
theorem len64_ok{y:Nat}(h0:0<y)(h:y<B64):∃L:Nat,math_bits_Len64 (y:Int)=some (L:Int)∧1≤L∧L≤64∧2 ^ (L - 1)≤y∧y<2 ^ L:=by
 have fin:∀(x n:Nat),0<x→x<256→n≤56→x*2 ^ n≤y→y<(x+1)*2 ^ n→∃L:Nat,len8 x n=some (L:Int)∧1≤L∧L≤64∧2 ^ (L - 1)≤y∧y<2 ^ L:=by
  intro x n hx0 hx hn h1 h2
  obtain⟨t1,t2,t3,t4⟩:=tab8_ok hx0 hx
  refine⟨n+tab8 x,len8_eq hx hn,by omega,by omega,?_,?_⟩
  ·have e:n+tab8 x - 1=(tab8 x - 1)+n:=by omega
   rw [e,Nat.pow_add]
   exact Nat.le_trans (Nat.mul_le_mul_right _ t3) h1
  ·rw [Nat.add_comm,Nat.pow_add]
   exact Nat.lt_of_lt_of_le h2 (Nat.mul_le_mul_right _ t4)
 have div:∀(x n b:Nat),x*2 ^ n≤y→y<(x+1)*2 ^ n→(x / 2 ^ b)*2 ^ (n+b)≤y∧y<(x / 2 ^ b+1)*2 ^ (n+b):=by
  intro x n b h1 h2
  have hb:0<2 ^ b:=Nat.pow_pos (by decide)
  have e1:x / 2 ^ b*2 ^ b≤x:=Nat.div_mul_le_self _ _
  have e2:x<(x / 2 ^ b+1)*2 ^ b:=by
   have:=Nat.lt_div_mul_add hb (a:=x)
   rw [Nat.add_mul,Nat.one_mul]
   omega
  rw [Nat.add_comm n b,Nat.pow_add,←Nat.mul_assoc,←Nat.mul_assoc]
  exact⟨Nat.le_trans (Nat.mul_le_mul_right _ e1) h1,Nat.lt_of_lt_of_le h2 (Nat.mul_le_mul_right _ e2)⟩
 have p64:B64=2 ^ 64:=by decide
 have hB:y<18446744073709551616:=h
  -- the stages, told by cases
 have key:∃x n:Nat,math_bits_Len64 (y:Int)=len8 x n∧0<x∧x<256∧n≤56∧x*2 ^ n≤y∧y<(x+1)*2 ^ n:=by
  have s0:y*2 ^ 0≤y∧y<(y+1)*2 ^ 0:=by simp
  unfold math_bits_Len64
  have fd:∀(a b:Nat),b≤32→Int.fdiv (a:Int) (2 ^ min (Int.toNat (b:Int)) (IntKind.bits .u64))=((a / 2 ^ b:Nat):Int):=by
   intro a b hb
   have e:min (Int.toNat (b:Int)) (IntKind.bits .u64)=b:=by simp [IntKind.bits];omega
   rw [e,fdiv_pow]
  have f32:=fun a=>fd a 32 (by omega)
  have f16:=fun a=>fd a 16 (by omega)
  have f8:=fun a=>fd a 8 (by omega)
  have w:∀(a b:Nat),a≤100→b≤100→IntKind.wrap .i64 ((a:Int)+(b:Int))=((a+b:Nat):Int):=fun a b ha hb=>by rw [w64 (by omega) (by omega)];rfl
    -- one stage each
  have st3:∀(x n:Nat),0<x→x<65536→n≤48→x*2 ^ n≤y→y<(x+1)*2 ^ n→∃x' n':Nat,(both (R:=Int) (P:=Int×Int×Unit) (bif (decide ((x:Int)≥256))then some (Sum.inr ((Int.fdiv (x:Int) (2 ^ min (Int.toNat 8) (IntKind.bits .u64))),(IntKind.wrap .i64 ((n:Int)+8)),()))else some (Sum.inr ((x:Int),(n:Int),()))) (fun q=>some q) (fun y3=>(bif (decide (0≤(IntKind.wrap .u8 y3.1)))then(bif (decide ((IntKind.wrap .u8 y3.1)<((tabB:ByteArray).size:Int)))then some (IntKind.wrap .i64 (y3.2.1+(IntKind.wrap .i64 ((((tabB:ByteArray).data.getD (Int.toNat (IntKind.wrap .u8 y3.1)) 0).toNat):Int))))else none)else none)))=len8 x' n'∧0<x'∧x'<256∧n'≤56∧x'*2 ^ n'≤y∧y<(x'+1)*2 ^ n':=by
   intro x n hx0 hx hn h1 h2
   by_cases hc:256≤x
   ·refine⟨x / 2 ^ 8,n+8,?_,?_,?_,by omega,(div x n 8 h1 h2).1,(div x n 8 h1 h2).2⟩
    ·rw [decide_eq_true (by omega),cond_true,show(Int.fdiv (x:Int) (2 ^ min (Int.toNat 8) (IntKind.bits .u64)))=((x / 2 ^ 8:Nat):Int)from f8 x,show IntKind.wrap .i64 ((n:Int)+8)=((n+8:Nat):Int)from w n 8 (by omega) (by omega)]
     rfl
    ·omega
    ·omega
   ·refine⟨x,n,?_,hx0,by omega,by omega,h1,h2⟩
    rw [decide_eq_false (by omega),cond_false]
    rfl
  have st2:∀(x n:Nat),0<x→x<4294967296→n≤32→x*2 ^ n≤y→y<(x+1)*2 ^ n→∃x' n':Nat,(bif (decide ((x:Int)≥65536))then some (Sum.inr ((Int.fdiv (x:Int) (2 ^ min (Int.toNat 16) (IntKind.bits .u64))),(IntKind.wrap .i64 ((n:Int)+16)),()))else some (Sum.inr ((x:Int),(n:Int),())):Option (Int ⊕ (Int×Int×Unit)))=some (.inr ((x':Int),(n':Int),()))∧0<x'∧x'<65536∧n'≤48∧x'*2 ^ n'≤y∧y<(x'+1)*2 ^ n':=by
   intro x n hx0 hx hn h1 h2
   by_cases hc:65536≤x
   ·refine⟨x / 2 ^ 16,n+16,?_,?_,?_,by omega,(div x n 16 h1 h2).1,(div x n 16 h1 h2).2⟩
    ·rw [decide_eq_true (by omega),cond_true,show(Int.fdiv (x:Int) (2 ^ min (Int.toNat 16) (IntKind.bits .u64)))=((x / 2 ^ 16:Nat):Int)from f16 x,show IntKind.wrap .i64 ((n:Int)+16)=((n+16:Nat):Int)from w n 16 (by omega) (by omega)]
    ·omega
    ·omega
   ·refine⟨x,n,?_,hx0,by omega,by omega,h1,h2⟩
    rw [decide_eq_false (by omega),cond_false]
  have st1:∃x' n':Nat,(bif (decide ((y:Int)≥4294967296))then some (Sum.inr ((Int.fdiv (y:Int) (2 ^ min (Int.toNat 32) (IntKind.bits .u64))),(32:Int),()))else some (Sum.inr ((y:Int),(0:Int),())):Option (Int ⊕ (Int×Int×Unit)))=some (.inr ((x':Int),(n':Int),()))∧0<x'∧x'<4294967296∧n'≤32∧x'*2 ^ n'≤y∧y<(x'+1)*2 ^ n':=by
   by_cases hc:4294967296≤y
   ·refine⟨y / 2 ^ 32,32,?_,?_,?_,by omega,(div y 0 32 s0.1 s0.2).1,(div y 0 32 s0.1 s0.2).2⟩
    ·rw [decide_eq_true (by omega),cond_true,show(Int.fdiv (y:Int) (2 ^ min (Int.toNat 32) (IntKind.bits .u64)))=((y / 2 ^ 32:Nat):Int)from f32 y]
     rfl
    ·omega
    ·omega
   ·refine⟨y,0,?_,h0,by omega,by omega,s0.1,s0.2⟩
    rw [decide_eq_false (by omega),cond_false]
    rfl
  obtain⟨x1,n1,e1,a1,a2,a3,a4,a5⟩:=st1
  obtain⟨x2,n2,e2,b1,b2,b3,b4,b5⟩:=st2 x1 n1 a1 a2 a3 a4 a5
  obtain⟨x3,n3,e3,c1,c2,c3,c4,c5⟩:=st3 x2 n2 b1 b2 b3 b4 b5
  refine⟨x3,n3,?_,c1,c2,c3,c4,c5⟩
  simp only [e1,both_inr,e2]
  exact e3
 obtain⟨x,n,e,k1,k2,k3,k4,k5⟩:=key
 rw [e]
 exact fin x n k1 k2 k3 k4 k5

theorem dv_loop1{y1 y0 u n:Nat}{x2 x8 x11 x14:Int}(hy1:2147483648≤y1)(hy1':y1<4294967296)(hy0:y0<4294967296)(hn:n<4294967296)(hu:u<y1*4294967296+y0):∀(d q r:Nat),q=(u*4294967296+n) / (y1*4294967296+y0)+d→q*y1+r=u→r<4294967296→q≤4294967297 →
  Evt (fun k m=>math_bits_Div64_L131068 k m x2 x8 (y1:Int) (y0:Int) x11 (n:Int) x14 (q:Int) (r:Int)) (.inr (x2,x8,(y1:Int),(y0:Int),x11,(n:Int),x14,(((u*4294967296+n) / (y1*4294967296+y0):Nat):Int),())):=by
 have hy:0<y1*4294967296+y0:=by omega
 have hqt:=kn_lt (n:=n) hu hn
 have hstep:=fun(k m:Nat) (q r:Int)=>math_bits_Div64_L131068.eq_2 k x2 x8 (y1:Int) (y0:Int) x11 (n:Int) x14 q r m
 have ex1 := @kn_exit u y1 y0 n 4294967296
 have ex2 := @kn_break u y1 y0 n 4294967296
 have ex3:((u*4294967296+n) / (y1*4294967296+y0))*(y1*4294967296+y0)≤u*4294967296+n:=Nat.div_mul_le_self _ _
 generalize (u*4294967296+n) / (y1*4294967296+y0)=qt at hqt ex1 ex2 ex3 ⊢
 intro d
 induction d with
 | zero =>
  intro q r hq hr hrB hqB
  rw [Nat.add_zero]at hq
  have hle:q*y0≤4294967296*r+n:=by
   have h1:q*(y1*4294967296+y0)≤u*4294967296+n:=by rw [hq];exact ex3
   rw [kn_mul,←hr,Nat.add_mul]at h1
   omega
  refine Evt.step (fun k m=>hstep k m q r) ?_
  have hb:q*y0≤4294967296*4294967295:=Nat.mul_le_mul (by omega) (by omega)
  refine Evt.cfalse (decide_eq_false (by omega)) (Evt.cfalse (decide_eq_false ?_) ?_)
  ·have e1:(q:Int)*(y0:Int)=((q*y0:Nat):Int):=by simp
   rw [e1,wu64 (n:=((q*y0:Nat):Int)) (by omega) (by omega),wu64 (n:=4294967296*(r:Int)) (by omega) (by omega),wu64 (by omega) (by omega)]
   omega
  ·rw [←hq]
   exact .pure
 | succ d ih =>
  intro q r hq hr hrB hqB
  have hne : ¬ q*y0≤4294967296*r+n:=by
   intro hle
   have:=ex1 hy hr (by omega) hle
   omega
  have hgo:Evt (fun k m=>(bif (decide ((IntKind.wrap .u64 ((r:Int)+(y1:Int)))≥4294967296))then some (Sum.inr (x2,x8,(y1:Int),(y0:Int),x11,(n:Int),x14,(IntKind.wrap .u64 ((q:Int) - 1)),()))else(math_bits_Div64_L131068 k m x2 x8 (y1:Int) (y0:Int) x11 (n:Int) x14 (IntKind.wrap .u64 ((q:Int) - 1)) (IntKind.wrap .u64 ((r:Int)+(y1:Int)))))) (.inr  (x2,x8,(y1:Int),(y0:Int),x11,(n:Int),x14,(qt:Int),())):=by
   have w1:IntKind.wrap .u64 ((r:Int)+(y1:Int))=((r+y1:Nat):Int):=by rw [wu64 (by omega) (by omega)];rfl
   have w2:IntKind.wrap .u64 ((q:Int) - 1)=((q - 1:Nat):Int):=by rw [wu64 (by omega) (by omega)];omega
   have hr':(q - 1)*y1+(r+y1)=u:=by
    have:q=(q - 1)+1:=by omega
    rw [this,Nat.add_mul,Nat.one_mul]at hr
    omega
   rw [w1,w2]
   by_cases hc:4294967296≤r+y1
   ·have:=ex2 hy hy0 hr' (by omega) (by omega) hc
    rw [←this]
    exact Evt.ctrue (decide_eq_true (by omega)) .pure
   ·exact Evt.cfalse (decide_eq_false (by omega)) (ih (q - 1) (r+y1) (by omega) hr' (by omega) (by omega))
  refine Evt.step (fun k m=>hstep k m q r) ?_
  by_cases hB:4294967296≤q
  ·exact Evt.ctrue (decide_eq_true (by omega)) hgo
  ·have hb:q*y0≤4294967296*4294967295:=Nat.mul_le_mul (by omega) (by omega)
   refine Evt.cfalse (decide_eq_false (by omega)) (Evt.ctrue (decide_eq_true ?_) hgo)
   have e1:(q:Int)*(y0:Int)=((q*y0:Nat):Int):=by simp
   rw [e1,wu64 (n:=((q*y0:Nat):Int)) (by omega) (by omega),wu64 (n:=4294967296*(r:Int)) (by omega) (by omega),wu64 (by omega) (by omega)]
   omega

theorem dv_loop2{y1 y0 u n:Nat}{x2 x8 x15 x17:Int}(hy1:2147483648≤y1)(hy1':y1<4294967296)(hy0:y0<4294967296)(hn:n<4294967296)(hu:u<y1*4294967296+y0):∀(d q r:Nat),q=(u*4294967296+n) / (y1*4294967296+y0)+d→q*y1+r=u→r<4294967296→q≤4294967297 →
  Evt (fun k m=>math_bits_Div64_L2097148 k m x2 x8 (y1:Int) (y0:Int) (n:Int) x15 (r:Int) x17 (q:Int)) (.inr (x2,x8,(n:Int),x15,x17,(((u*4294967296+n) / (y1*4294967296+y0):Nat):Int),())):=by
 have hy:0<y1*4294967296+y0:=by omega
 have hqt:=kn_lt (n:=n) hu hn
 have hstep:=fun(k m:Nat) (q r:Int)=>math_bits_Div64_L2097148.eq_2 k x2 x8 (y1:Int) (y0:Int) (n:Int) x15 r x17 q m
 have ex1 := @kn_exit u y1 y0 n 4294967296
 have ex2 := @kn_break u y1 y0 n 4294967296
 have ex3:((u*4294967296+n) / (y1*4294967296+y0))*(y1*4294967296+y0)≤u*4294967296+n:=Nat.div_mul_le_self _ _
 generalize (u*4294967296+n) / (y1*4294967296+y0)=qt at hqt ex1 ex2 ex3 ⊢
 intro d
 induction d with
 | zero =>
  intro q r hq hr hrB hqB
  rw [Nat.add_zero]at hq
  have hle:q*y0≤4294967296*r+n:=by
   have h1:q*(y1*4294967296+y0)≤u*4294967296+n:=by rw [hq];exact ex3
   rw [kn_mul,←hr,Nat.add_mul]at h1
   omega
  refine Evt.step (fun k m=>hstep k m q r) ?_
  have hb:q*y0≤4294967296*4294967295:=Nat.mul_le_mul (by omega) (by omega)
  refine Evt.cfalse (decide_eq_false (by omega)) (Evt.cfalse (decide_eq_false ?_) ?_)
  ·have e1:(q:Int)*(y0:Int)=((q*y0:Nat):Int):=by simp
   rw [e1,wu64 (n:=((q*y0:Nat):Int)) (by omega) (by omega),wu64 (n:=4294967296*(r:Int)) (by omega) (by omega),wu64 (by omega) (by omega)]
   omega
  ·rw [←hq]
   exact .pure
 | succ d ih =>
  intro q r hq hr hrB hqB
  have hne : ¬ q*y0≤4294967296*r+n:=by
   intro hle
   have:=ex1 hy hr (by omega) hle
   omega
  have hgo:Evt (fun k m=>(bif (decide ((IntKind.wrap .u64 ((r:Int)+(y1:Int)))≥4294967296))then some (Sum.inr (x2,x8,(n:Int),x15,x17,(IntKind.wrap .u64 ((q:Int) - 1)),()))else(math_bits_Div64_L2097148 k m x2 x8 (y1:Int) (y0:Int) (n:Int) x15 (IntKind.wrap .u64 ((r:Int)+(y1:Int))) x17 (IntKind.wrap .u64 ((q:Int) - 1))))) (.inr  (x2,x8,(n:Int),x15,x17,(qt:Int),())):=by
   have w1:IntKind.wrap .u64 ((r:Int)+(y1:Int))=((r+y1:Nat):Int):=by rw [wu64 (by omega) (by omega)];rfl
   have w2:IntKind.wrap .u64 ((q:Int) - 1)=((q - 1:Nat):Int):=by rw [wu64 (by omega) (by omega)];omega
   have hr':(q - 1)*y1+(r+y1)=u:=by
    have:q=(q - 1)+1:=by omega
    rw [this,Nat.add_mul,Nat.one_mul]at hr
    omega
   rw [w1,w2]
   by_cases hc:4294967296≤r+y1
   ·have:=ex2 hy hy0 hr' (by omega) (by omega) hc
    rw [←this]
    exact Evt.ctrue (decide_eq_true (by omega)) .pure
   ·exact Evt.cfalse (decide_eq_false (by omega)) (ih (q - 1) (r+y1) (by omega) hr' (by omega) (by omega))
  refine Evt.step (fun k m=>hstep k m q r) ?_
  by_cases hB:4294967296≤q
  ·exact Evt.ctrue (decide_eq_true (by omega)) hgo
  ·have hb:q*y0≤4294967296*4294967295:=Nat.mul_le_mul (by omega) (by omega)
   refine Evt.cfalse (decide_eq_false (by omega)) (Evt.ctrue (decide_eq_true ?_) hgo)
   have e1:(q:Int)*(y0:Int)=((q*y0:Nat):Int):=by simp
   rw [e1,wu64 (n:=((q*y0:Nat):Int)) (by omega) (by omega),wu64 (n:=4294967296*(r:Int)) (by omega) (by omega),wu64 (by omega) (by omega)]
   omega

theorem u64N(n:Nat)(h:n<B64):IntKind.wrap .u64 (n:Int)=(n:Int):=by rw [wu64_mod,Nat.mod_eq_of_lt h]
theorem mask32{a:Nat}(h:a<B64):IntKind.wrap .u64 (BitVec.toNat (BitVec.ofInt (IntKind.bits .u64) (a:Int) &&& BitVec.ofInt (IntKind.bits .u64) 4294967295):Int)=((a % 4294967296:Nat):Int):=by
 have e:(BitVec.toNat (BitVec.ofInt (IntKind.bits .u64) (a:Int) &&& BitVec.ofInt (IntKind.bits .u64) 4294967295):Nat)=a % 4294967296:=by
  rw [BitVec.toNat_and]
  have h1:(BitVec.ofInt (IntKind.bits .u64) (a:Int)).toNat=a:=by
   rw [BitVec.toNat_ofInt]
   simp only [IntKind.bits]
   have:B64=18446744073709551616:=rfl
   omega
  have h2:(BitVec.ofInt (IntKind.bits .u64) 4294967295).toNat=2 ^ 32 - 1:=by decide
  rw [h1,h2,Nat.and_two_pow_sub_one_eq_mod]
 rw [e,u64N _ (by have:B64=18446744073709551616:=rfl;omega)]
theorem sub_w{a b c r:Nat}(h:a+b=c+r)(hr:r<B64)(hb:b<B64):IntKind.wrap .u64 ((IntKind.wrap .u64 ((IntKind.wrap .u64 (a:Int))+(b:Int))) - (IntKind.wrap .u64 (c:Int)))=(r:Int):=by
 have:B64=18446744073709551616:=rfl
 rw [IntKind.wrap_u64,IntKind.wrap_u64,IntKind.wrap_u64,IntKind.wrap_u64]
 omega
theorem sub_w0{a c r:Nat}(h:a=c+r)(hr:r<B64)(ha:a<B64):IntKind.wrap .u64 ((a:Int) - (IntKind.wrap .u64 (c:Int)))=(r:Int):=by
 have:B64=18446744073709551616:=rfl
 rw [IntKind.wrap_u64,IntKind.wrap_u64]
 omega

theorem mk_w{a b:Nat}(ha:a<4294967296)(hb:b<4294967296):IntKind.wrap .u64 ((IntKind.wrap .u64 ((a:Int)*4294967296))+(b:Int))=((a*4294967296+b:Nat):Int):=by
 rw [wu64 (n:=(a:Int)*4294967296) (by omega) (by omega),wu64 (by omega) (by omega)]
 simp
theorem e4_w{u n1 n0 z:Nat}(h:n1*4294967296+n0=z):u*B64+z=(u*4294967296+n1)*4294967296+n0:=by
 subst h
 have hB:B64=4294967296*4294967296:=by decide
 rw [hB,←Nat.mul_assoc,Nat.add_mul (u*4294967296),Nat.add_assoc]
set_option maxHeartbeats 1000000 in
theorem div64_ev{hi lo y:Nat}(hhi:hi<y)(hlo:lo<B64)(hy:y<B64):Evt (fun k _=>math_bits_Div64 k (hi:Int) (lo:Int) (y:Int)) ((((hi*B64+lo) / y:Nat):Int),(((hi*B64+lo) % y:Nat):Int)):=by
 have hB:B64=18446744073709551616:=rfl
 refine Evt.eq (f:=fun k q=>_) ?_ (fun k q=>by rw [math_bits_Div64])
 have hy0:0<y:=by omega
 refine Evt.cfalse (by simp;omega) (Evt.cfalse (decide_eq_false (by omega)) ?_)
 by_cases h0:hi=0
 ·subst h0
  refine Evt.ctrue rfl (Evt.cfalse (by simp;omega) (Evt.cfalse (by simp;omega) ?_))
  have e1:Int.tdiv (lo:Int) (y:Int)=((lo / y:Nat):Int):=rfl
  have e2:Int.tmod (lo:Int) (y:Int)=((lo % y:Nat):Int):=rfl
  rw [e1,e2,u64N _ (Nat.lt_of_le_of_lt (Nat.div_le_self _ _) hlo),Nat.zero_mul,Nat.zero_add]
  exact .pure
 ·refine Evt.cfalse (by simp;omega) ?_
  obtain⟨L,hL,l1,l2,l3,l4⟩:=len64_ok hy0 hy
  have hlz:math_bits_LeadingZeros64 (y:Int)=some ((64 - L:Nat):Int):=by
   unfold math_bits_LeadingZeros64
   rw [hL]
   simp only [Option.bind_some]
   rw [w64 (by omega) (by omega)]
   congr 1
   omega
  generalize hs:64 - L=s at hlz
  have hsL:s+L=64:=by omega
  have hY:y*2 ^ s<B64:=by
   have:=Nat.mul_lt_mul_of_pos_right l4 (Nat.pow_pos (a:=2) (n:=s) (by decide))
   rw [←Nat.pow_add,Nat.add_comm L s,hsL]at this
   exact this
  have hY2:9223372036854775808≤y*2 ^ s:=by
   have:=Nat.mul_le_mul_right (2 ^ s) l3
   rw [←Nat.pow_add,show L - 1+s=63 by omega]at this
   exact this
  have hp64:2 ^ (64 - s)*2 ^ s=B64:=by rw [←Nat.pow_add,show 64 - s+s=64 by omega];rfl
  have hs64:s≤63:=by omega
  have hps:0<2 ^ s:=Nat.pow_pos (by decide)
  refine Evt.bind (.const hlz) ?_
  have w1:IntKind.wrap .u64 ((s:Nat):Int)=(s:Int):=u64N s (by omega)
  have w2:IntKind.wrap .u64 (64 - (s:Int))=((64 - s:Nat):Int):=by rw [wu64 (by omega) (by omega)];omega
  have m1:min (Int.toNat (s:Int)) (IntKind.bits .u64)=s:=by simp [IntKind.bits];omega
  have m2:min (Int.toNat ((64 - s:Nat):Int)) (IntKind.bits .u64)=64 - s:=by simp [IntKind.bits]
  have m3:min (Int.toNat 32) (IntKind.bits .u64)=32:=by simp [IntKind.bits]
  have hhs:hi*2 ^ s<y*2 ^ s:=Nat.mul_lt_mul_of_pos_right hhi hps
  have a1:IntKind.wrap .u64 ((y:Int)*2 ^ s)=((y*2 ^ s:Nat):Int):=by rw [mul_powN,u64N _ hY]
  have a2:IntKind.wrap .u64 ((hi:Int)*2 ^ s)=((hi*2 ^ s:Nat):Int):=by rw [mul_powN,u64N _ (by omega)]
  have a3:IntKind.wrap .u64 ((lo:Int)*2 ^ s)=((lo*2 ^ s % B64:Nat):Int):=by rw [mul_powN,wu64_mod]
  have hlt:lo / 2 ^ (64 - s)<2 ^ s:=by
   rw [Nat.div_lt_iff_lt_mul (Nat.pow_pos (by decide)),Nat.mul_comm,hp64]
   exact hlo
  have a4:IntKind.wrap .u64 (BitVec.toNat (BitVec.ofInt (IntKind.bits .u64) ((hi*2 ^ s:Nat):Int) ||| BitVec.ofInt (IntKind.bits .u64) (((lo / 2 ^ (64 - s):Nat)):Int)):Int)=((hi*2 ^ s+lo / 2 ^ (64 - s):Nat):Int):=by
   have hb2:lo / 2 ^ (64 - s)<B64:=Nat.lt_of_le_of_lt (Nat.div_le_self _ _) hlo
   rw [orw (by omega) hb2,or_add s hlt (by omega)]
   refine u64N _ ?_
   have:(hi+1)*2 ^ s≤y*2 ^ s:=Nat.mul_le_mul_right _ hhi
   rw [Nat.add_mul,Nat.one_mul]at this
   omega
  have hdiv:lo*2 ^ s / B64=lo / 2 ^ (64 - s):=by rw [←hp64,Nat.mul_div_mul_right _ _ hps]
  have hN:(hi*B64+lo)*2 ^ s=(hi*2 ^ s+lo / 2 ^ (64 - s))*B64+lo*2 ^ s % B64:=by
   have:=Nat.div_add_mod (lo*2 ^ s) B64
   rw [hdiv]at this
   rw [Nat.add_mul,Nat.add_mul,Nat.mul_right_comm]
   rw [Nat.mul_comm (lo / 2 ^ (64 - s)) B64]
   omega
  have hu:hi*2 ^ s+lo / 2 ^ (64 - s)<y*2 ^ s:=by
   have:(hi+1)*2 ^ s≤y*2 ^ s:=Nat.mul_le_mul_right _ hhi
   rw [Nat.add_mul,Nat.one_mul]at this
   omega
  simp only [w1,w2,m1,m2,m3,fdiv_pow,a1,a2,a3,a4]
  have hun10:lo*2 ^ s % B64<B64:=Nat.mod_lt _ (by decide)
  have hqN:(hi*B64+lo) / y=(hi*B64+lo)*2 ^ s / (y*2 ^ s):=(Nat.mul_div_mul_right _ _ hps).symm
  have hrN:(hi*B64+lo) % y=(hi*B64+lo)*2 ^ s % (y*2 ^ s) / 2 ^ s:=by rw [Nat.mul_mod_mul_right,Nat.mul_div_cancel _ hps]
  rw [hqN,hrN,hN]
  generalize hi*2 ^ s+lo / 2 ^ (64 - s)=u at hu ⊢
  generalize lo*2 ^ s % B64=z at hun10 ⊢
  generalize y*2 ^ s=Y at hY hY2 hu ⊢
  rw [mask32 hY,mask32 hun10]
  have p32:(2:Nat) ^ 32=4294967296:=by decide
  rw [p32]
  have hy1:2147483648≤Y / 4294967296:=by omega
  have hy1':Y / 4294967296<4294967296:=by omega
  have hyy:Y / 4294967296*4294967296+Y % 4294967296=Y:=Nat.div_add_mod' Y 4294967296
  have hz:z / 4294967296*4294967296+z % 4294967296=z:=Nat.div_add_mod' z 4294967296
  have hz1:z / 4294967296<4294967296:=by omega
  have hz0:z % 4294967296<4294967296:=Nat.mod_lt _ (by decide)
  have hyl:Y % 4294967296<4294967296:=Nat.mod_lt _ (by decide)
  generalize Y / 4294967296=y1 at hy1 hy1' hyy ⊢
  generalize Y % 4294967296=y0 at hyl hyy ⊢
  generalize z / 4294967296=n1 at hz hz1 ⊢
  generalize z % 4294967296=n0 at hz hz0 ⊢
  subst hyy
    -- a guess and what is left
  have guess:∀(v n:Nat),v<y1*4294967296+y0→n<4294967296→IntKind.wrap .u64 (Int.tdiv (v:Int) (y1:Int))=((v / y1:Nat):Int)∧IntKind.wrap .u64 ((v:Int) - (IntKind.wrap .u64 (((v / y1:Nat):Int)*(y1:Int))))=((v % y1:Nat):Int)∧v / y1≤4294967297∧(∃d,v / y1=(v*4294967296+n) / (y1*4294967296+y0)+d)∧v / y1*y1+v % y1=v∧v % y1<4294967296:=by
   intro v n hv hn
   have hd:v / y1*y1+v % y1=v:=by rw [Nat.mul_comm];exact Nat.div_add_mod v y1
   have hm:v % y1<y1:=Nat.mod_lt _ (by omega)
   refine⟨?_,?_,kn_most hv hyl (by omega),?_,hd,by omega⟩
   ·exact u64N (v / y1) (Nat.lt_of_le_of_lt (Nat.div_le_self _ _) (by omega))
   ·have e:((v / y1:Nat):Int)*(y1:Int)=((v / y1*y1:Nat):Int):=by simp
    rw [e]
    exact sub_w0 hd.symm (by omega) (by omega)
   ·have:=kn_init (u:=v) (y0:=y0) (B:=4294967296) (show 0<y1 by omega) hn
    exact⟨v / y1 - (v*4294967296+n) / (y1*4294967296+y0),by omega⟩
  obtain⟨g1,g2,g3,⟨d1,g4⟩,g5,g6⟩:=guess u n1 hu hz1
  refine Evt.cfalse (decide_eq_false (by omega)) (Evt.cfalse (decide_eq_false (by omega)) (Evt.cfalse (decide_eq_false (by omega)) (Evt.cfalse (decide_eq_false (by omega)) (Evt.cfalse (by simp;omega) ?_))))
  rw [g1,g2]
  refine Evt.inr (Evt.diag (dv_loop1 hy1 hy1' hyl hz1 hu d1 _ _ g4 g5 g6 g3)) ?_
  dsimp only
  refine Evt.cfalse (by simp;omega) ?_
  have hq1:=kn_lt (n:=n1) hu hz1
  have hdm:(u*4294967296+n1) / (y1*4294967296+y0)*(y1*4294967296+y0)+(u*4294967296+n1) % (y1*4294967296+y0)=u*4294967296+n1:=by rw [Nat.mul_comm];exact Nat.div_add_mod _ _
  have hr1:(u*4294967296+n1) % (y1*4294967296+y0)<y1*4294967296+y0:=Nat.mod_lt _ (by omega)
  have hj:=kn_join (u:=u) (n1:=n1) (n0:=n0) (y:=y1*4294967296+y0) (B:=4294967296) (by omega) hz0
  obtain⟨q1,q1e⟩:∃q,q=(u*4294967296+n1) / (y1*4294967296+y0):=⟨_,rfl⟩
  rw [←q1e]at hq1 hdm hj ⊢
  obtain⟨r1,r1e⟩:∃q,q=(u*4294967296+n1) % (y1*4294967296+y0):=⟨_,rfl⟩
  rw [←r1e]at hr1 hdm hj
  have s1:IntKind.wrap .u64 ((IntKind.wrap .u64 ((IntKind.wrap .u64 ((u:Int)*4294967296))+(n1:Int))) - (IntKind.wrap .u64 ((q1:Int)*((y1*4294967296+y0:Nat):Int))))=(r1:Int):=by
   have e1:(u:Int)*4294967296=((u*4294967296:Nat):Int):=by simp
   have e2:(q1:Int)*((y1*4294967296+y0:Nat):Int)=((q1*(y1*4294967296+y0):Nat):Int):=by simp
   rw [e1,e2]
   exact sub_w hdm.symm (Nat.lt_trans hr1 hY) (Nat.lt_trans hz1 (by decide))
  rw [s1]
  obtain⟨k1,k2,k3,⟨d2,k4⟩,k5,k6⟩:=guess r1 n0 hr1 hz0
  rw [k1,k2]
  refine Evt.inr (Evt.diag (dv_loop2 hy1 hy1' hyl hz0 hr1 d2 _ _ k4 k5 k6 k3)) ?_
  dsimp only
  refine Evt.cfalse (decide_eq_false (by omega)) ?_
  have hq0:=kn_lt (n:=n0) hr1 hz0
  have hdm2:(r1*4294967296+n0) / (y1*4294967296+y0)*(y1*4294967296+y0)+(r1*4294967296+n0) % (y1*4294967296+y0)=r1*4294967296+n0:=by rw [Nat.mul_comm];exact Nat.div_add_mod _ _
  have hr0:(r1*4294967296+n0) % (y1*4294967296+y0)<y1*4294967296+y0:=Nat.mod_lt _ (by omega)
  obtain⟨q0,q0e⟩:∃q,q=(r1*4294967296+n0) / (y1*4294967296+y0):=⟨_,rfl⟩
  rw [←q0e]at hq0 hdm2 hj ⊢
  obtain⟨r0,r0e⟩:∃q,q=(r1*4294967296+n0) % (y1*4294967296+y0):=⟨_,rfl⟩
  rw [←r0e]at hr0 hdm2 hj
  have s2:IntKind.wrap .u64 ((IntKind.wrap .u64 ((IntKind.wrap .u64 ((r1:Int)*4294967296))+(n0:Int))) - (IntKind.wrap .u64 ((q0:Int)*((y1*4294967296+y0:Nat):Int))))=(r0:Int):=by
   have e1:(r1:Int)*4294967296=((r1*4294967296:Nat):Int):=by simp
   have e2:(q0:Int)*((y1*4294967296+y0:Nat):Int)=((q0*(y1*4294967296+y0):Nat):Int):=by simp
   rw [e1,e2]
   exact sub_w hdm2.symm (Nat.lt_trans hr0 hY) (Nat.lt_trans hz0 (by decide))
  have s3:IntKind.wrap .u64 ((IntKind.wrap .u64 ((q1:Int)*4294967296))+(q0:Int))=((q1*4294967296+q0:Nat):Int):=by
   exact mk_w hq1 hq0
  rw [s2,s3,m1,fdiv_pow]
  have e4:u*B64+z=(u*4294967296+n1)*4294967296+n0:=e4_w hz
  rw [e4,←hj.1,←hj.2]
  exact .pure
end Go.Ev.G

namespace Go.Ev.G
open Go Go.Ev
set_option maxRecDepth 100000

theorem strip_scale(k:Nat)(n:Int):∀D:Nat,strip (k+D) (n*2 ^ D)=strip k n
 | 0=>by simp
 | D+1=>by
  have e:n*2 ^ (D+1)=(n*2 ^ D)*2:=by rw [Int.pow_succ,Int.mul_assoc]
  rw [e,←Nat.add_assoc,strip,if_pos (by omega),Int.mul_ediv_cancel _ (by decide)]
  exact strip_scale k n D
theorem mkD_scale(k D:Nat)(n:Int):mkD (n*2 ^ D) (k+D)=mkD n k:=by
 unfold mkD
 rw [strip_scale]
end Go.Ev.G

namespace Go.Ev.G
open Go Go.Ev
set_option maxRecDepth 100000

def nnI(n d:Int):Int:=if d<0 then -n else n
def quotV(n d s:Int):Int:=(nnI n d*2 ^ s.toNat) / ((d.natAbs*2 ^ (-s).toNat:Nat):Int)

theorem wN_join{neg:Bool}{h x:Nat}(hx:x<B64):wN neg (h*B64+x)=(neg,(h:Int),(x:Int)):=by
 have hB:0<B64:=by decide
 unfold wN
 rw [Nat.mul_comm h B64,Nat.mul_add_div hB,Nat.div_eq_of_lt hx,Nat.add_zero,Nat.mul_add_mod,Nat.mod_eq_of_lt hx]

theorem quot_val{n d s:Int}(hd:d≠0):quotV n d s=wV (!(decide (n<0)==decide (d<0))) ((n.natAbs*2 ^ s.toNat) / (d.natAbs*2 ^ (-s).toNat)+(if (!(decide (n<0)==decide (d<0))) && !decide (d.natAbs*2 ^ (-s).toNat ∣ n.natAbs*2 ^ s.toNat)then 1 else 0)):=by
 unfold quotV
 have hD:0<d.natAbs*2 ^ (-s).toNat:=Nat.mul_pos (by omega) (Nat.pow_pos (by decide))
 generalize d.natAbs*2 ^ (-s).toNat=D at hD ⊢
 have hA:nnI n d*2 ^ s.toNat=if (!(decide (n<0)==decide (d<0)))=true then -((n.natAbs*2 ^ s.toNat:Nat):Int)else((n.natAbs*2 ^ s.toNat:Nat):Int):=by
  have e:((n.natAbs*2 ^ s.toNat:Nat):Int)=(n.natAbs:Int)*2 ^ s.toNat:=by simp
  rw [e]
  unfold nnI
  by_cases h1:n<0
  ·by_cases h2:d<0
   ·rw [if_pos h2,decide_eq_true h1,decide_eq_true h2]
    simp only [beq_self_eq_true,Bool.not_true,Bool.false_eq_true,if_false]
    congr 1
    omega
   ·rw [if_neg h2,decide_eq_true h1,decide_eq_false h2]
    rw [if_pos (by rfl),←Int.neg_mul]
    congr 1
    omega
  ·by_cases h2:d<0
   ·rw [if_pos h2,decide_eq_false h1,decide_eq_true h2]
    rw [if_pos (by rfl),←Int.neg_mul]
    congr 1
    omega
   ·rw [if_neg h2,decide_eq_false h1,decide_eq_false h2]
    simp only [beq_self_eq_true,Bool.not_true,Bool.false_eq_true,if_false]
    congr 1
    omega
 rw [hA]
 generalize n.natAbs*2 ^ s.toNat=A
 cases (!(decide (n<0)==decide (d<0)))with
 | false=>simp [wV]
 | true =>
  simp only [if_true,Bool.true_and,wV]
  rw [Int.neg_ediv]
  have hs:(D:Int).sign=1:=Int.sign_eq_one_of_pos (by omega)
  by_cases hdv:D ∣ A
  ·rw [if_pos (Int.natCast_dvd_natCast.2 hdv),decide_eq_true hdv]
   simp
  ·rw [if_neg (fun h=>hdv (Int.natCast_dvd_natCast.1 h)),decide_eq_false hdv,hs]
   simp only [Bool.not_false,if_true]
   have:((A / D+1:Nat):Int)=(A:Int) / (D:Int)+1:=by simp
   rw [this]
   omega

theorem quotientDown_ev{n k d:Int}{p:Nat}(h1 : -1099511627776≤n∧n≤1099511627776)(h2 : -1099511627776≤d∧d≤1099511627776)(hd:d≠0)(hk : -24≤k∧k≤24)(hp:p≤24) :
  Evt (fun kk _=>impl_quotientDown kk n k d (p:Int)) (mkD (quotV n d (k+p)) p):=by
 refine Evt.eq (f:=fun k q=>_) ?_ (fun k q=>by rw [impl_quotientDown])
 rw [quot_val hd]
 have hBd:(2:Nat) ^ 64=B64:=by decide
 have hD0:0<d.natAbs:=by omega
 have hDB:d.natAbs<B64:=Nat.lt_of_le_of_lt (show d.natAbs≤1099511627776 by omega) (by decide)
 have ws:IntKind.wrap .i64 (k+(p:Int))=k+p:=w64 (by omega) (by omega)
 have ws2:IntKind.wrap .i64 (IntKind.wrap .i64 (0 - k) - (p:Int)) = -(k+p):=by rw [w64 (n:=0 - k) (by omega) (by omega),w64 (by omega) (by omega)];omega
 have e1:(if k+(p:Int)<0 then 0 else k+(p:Int))=(((k+p).toNat:Nat):Int):=by split <;> omega
 have e2:(if -(k+(p:Int))<0 then 0 else -(k+(p:Int)))=(((-(k+p)).toNat:Nat):Int):=by split <;> omega
 have he:(k+(p:Int)).toNat≤48:=by omega
 have hj:(-(k+(p:Int))).toNat≤24:=by omega
 have hA:n.natAbs*2 ^ (k+(p:Int)).toNat≤1099511627776*2 ^ 48:=Nat.mul_le_mul (by omega) (Nat.pow_le_pow_right (by decide) he)
 have hAB:n.natAbs*2 ^ (k+(p:Int)).toNat<B64*B64:=Nat.lt_of_le_of_lt hA (by decide)
 simp only [ws,ws2,e1,e2]
 refine Evt.bind (.const (wideOf_eq (by omega) (by omega))) (Evt.bind (.const (shl_eq (by omega) hAB)) (Evt.bind (.const (size_eq (by omega) (by omega))) ?_))
 generalize hTe:n.natAbs*2 ^ (k+(p:Int)).toNat=T at hAB hA ⊢
 have d1:Evt (fun k _=>math_bits_Div64 k 0 ((T / B64:Nat):Int) (d.natAbs:Int)) (((T / B64 / d.natAbs:Nat):Int),((T / B64 % d.natAbs:Nat):Int)):=by
  have:=div64_ev (hi:=0) (lo:=T / B64) hD0 ((Nat.div_lt_iff_lt_mul (by decide)).2 hAB) hDB
  rw [Nat.zero_mul,Nat.zero_add]at this
  exact this
 refine Evt.bind d1 (Evt.bind (.const (size_eq (by omega) (by omega))) ?_)
 have hm:T / B64 % d.natAbs<d.natAbs:=Nat.mod_lt _ hD0
 have hl:T % B64<B64:=Nat.mod_lt _ (by decide)
 refine Evt.bind (div64_ev hm hl hDB) ?_
 have hjn:=kn_join (u:=0) (n1:=T / B64) (n0:=T % B64) (y:=d.natAbs) (B:=B64) hD0 hl
 rw [Nat.zero_mul,Nat.zero_add,Nat.div_add_mod']at hjn
 have hx:=kn_lt (B:=B64) hm hl
 rw [hjn.2]
 have hw:((!(decide (n<0)==decide (d<0))),((T / B64 / d.natAbs:Nat):Int),(((T / B64 % d.natAbs*B64+T % B64) / d.natAbs:Nat):Int))=wN (!(decide (n<0)==decide (d<0))) (T / d.natAbs):=by
  rw [←hjn.1,wN_join hx]
 dsimp only
 rw [hw]
 have hqB:T / d.natAbs<B64*B64:=Nat.lt_of_le_of_lt (Nat.div_le_self _ _) hAB
 have hneg:∀b:Bool,(b=(!(decide (n<0)==decide (d<0))))→True:=fun _ _=>trivial
 clear hneg
  -- the shift down
 have hsh:impl_wide_shift (wN (!(decide (n<0)==decide (d<0))) (T / d.natAbs)) (if 0<k+(p:Int)then 0 else k+(p:Int))=some (wN (!(decide (n<0)==decide (d<0))) (T / d.natAbs / 2 ^ (-(k+(p:Int))).toNat)):=by
  by_cases hz:k+(p:Int)<0
  ·rw [if_neg (by omega)]
   have e:k+(p:Int) = -(((-(k+(p:Int))).toNat:Nat):Int):=by omega
   conv=>lhs;rw [e]
   exact shr_eq (by omega) (by omega) hqB
  ·have e:(if 0<k+(p:Int)then 0 else k+(p:Int))=((0:Nat):Int):=by split <;> omega
   have e0:(-(k+(p:Int))).toNat=0:=by omega
   rw [e,e0,shl_eq (by omega) (by rw [Nat.pow_zero,Nat.mul_one];exact hqB)]
   rw [Nat.pow_zero,Nat.mul_one,Nat.div_one]
 refine Evt.bind (.const hsh) ?_
 generalize hjj:(-(k+(p:Int))).toNat=j at hj ⊢
 have hM:T / d.natAbs / 2 ^ j=T / (d.natAbs*2 ^ j):=Nat.div_div_eq_div_mul _ _ _
 have hMb:T / (d.natAbs*2 ^ j)≤1099511627776*2 ^ 48:=Nat.le_trans (Nat.div_le_self _ _) hA
 have hMB:T / (d.natAbs*2 ^ j)+1<B64*B64:=Nat.lt_of_le_of_lt (Nat.add_le_add_right hMb 1) (by decide)
  -- what is exact
 have hex:(d.natAbs*2 ^ j ∣ T)↔(T % d.natAbs=0∧T / d.natAbs / 2 ^ j*2 ^ j=T / d.natAbs):=by
  constructor
  ·rintro⟨c,hc⟩
   have e:T=d.natAbs*(2 ^ j*c):=by rw [hc,Nat.mul_assoc]
   have e3:T / d.natAbs=2 ^ j*c:=by rw [e,Nat.mul_div_cancel_left _ hD0]
   refine⟨by rw [e,Nat.mul_mod_right],?_⟩
   rw [e3,Nat.mul_div_cancel_left _ (Nat.pow_pos (by decide)),Nat.mul_comm]
  ·rintro⟨h1,h2⟩
   refine⟨T / d.natAbs / 2 ^ j,?_⟩
   rw [Nat.mul_assoc,Nat.mul_comm (2 ^ j),h2,Nat.mul_comm]
   exact(Nat.div_mul_cancel (Nat.dvd_of_mod_eq_zero h1)).symm
 have w1:impl_wideOf (-1)=some (wN true 1):=wideOf_eq (n := -1) (by omega) (by omega)
 rw [hM]
 generalize hng:(!(decide (n<0)==decide (d<0)))=neg
 have fin:∀(M:Nat),M<B64*B64→Evt (fun k _=>(Option.bind (impl_wide_fit k (wN neg M) (p:Int)) fun r13=>some (r13.1,r13.2))) (mkD (wV neg M) p):=fun M hM=>Evt.bind (fit_ev hM (by omega)) .pure
 by_cases hr:T % d.natAbs=0
 ·refine Evt.ctrue (by simp [hr]) ?_
  have hsh2:impl_wide_shift (wN neg (T / (d.natAbs*2 ^ j))) (j:Int)=some (wN neg (T / (d.natAbs*2 ^ j)*2 ^ j)):=shl_eq (by omega) (by
   rw [←hM]
   exact Nat.lt_of_le_of_lt (Nat.div_mul_le_self _ _) hqB)
  refine Evt.bind (.const hsh2) (Evt.bind (sizes_ev _ _ _ _) ?_)
  cases neg with
  | false =>
   simp only [Bool.false_and,Bool.false_eq_true,if_false,Nat.add_zero]
   exact Evt.inr (Evt.cfalse rfl .pure) (fin _ (by omega))
  | true =>
   by_cases hx2:d.natAbs*2 ^ j ∣ T
   ·have h3:=(hex.1 hx2).2
    rw [hM]at h3
    rw [decide_eq_true hx2]
    simp only [Bool.not_true,Bool.and_false,Bool.false_eq_true,if_false,Nat.add_zero]
    refine Evt.inr (Evt.ctrue rfl (Evt.cfalse ?_ .pure)) (fin _ (by omega))
    rw [h3,(cmpI_zero _ _).2 rfl]
    rfl
   ·rw [decide_eq_false hx2]
    simp only [Bool.not_false,Bool.and_true,if_true]
    refine Evt.inr (Evt.ctrue rfl (Evt.ctrue ?_ (Evt.bind (.const w1) (Evt.bind (Evt.eq Evt.pure (fun k _=>add_same hMB k)) .pure)))) (fin _ hMB)
    have:cmpI ((T / (d.natAbs*2 ^ j)*2 ^ j:Nat):Int) ((T / d.natAbs:Nat):Int)≠0:=by
     intro h
     have:=(cmpI_zero _ _).1 h
     exact hx2 (hex.2 ⟨hr,by rw [hM];omega⟩)
    simpa using this
 ·have hr2:(((T % d.natAbs:Nat):Int)==0)=false:=by
   generalize T % d.natAbs=t at hr ⊢
   rw [beq_eq_false_iff_ne]
   omega
  refine Evt.cfalse hr2 ?_
  have hx2 : ¬ d.natAbs*2 ^ j ∣ T:=fun h=>hr (hex.1 h).1
  rw [decide_eq_false hx2]
  cases neg with
  | false =>
   simp only [Bool.false_and,Bool.false_eq_true,if_false,Nat.add_zero]
   exact Evt.inr (Evt.cfalse rfl .pure) (fin _ (by omega))
  | true =>
   simp only [Bool.not_false,Bool.and_true,if_true]
   exact Evt.inr (Evt.ctrue rfl (Evt.bind (.const w1) (Evt.bind (Evt.eq Evt.pure (fun k _=>add_same hMB k)) .pure))) (fin _ hMB)
end Go.Ev.G

namespace Go.Ev.G
open Go Go.Ev
set_option maxRecDepth 100000

theorem two_step{x D g t:Nat}(h:x=D*g+t)(ht:t<D):(if D≤2*t then(2*x / D=2*g+1∧2*x % D=2*t - D)else(2*x / D=2*g∧2*x % D=2*t)):=by
 have hD:0<D:=by omega
 have e:2*x=D*(2*g)+2*t:=by rw [h,Nat.mul_add,Nat.mul_left_comm]
 split
 ·have e2:2*x=D*(2*g+1)+(2*t - D):=by rw [Nat.mul_add,Nat.mul_one];omega
  rw [e2]
  exact⟨by rw [Nat.mul_add_div hD,Nat.div_eq_of_lt (by omega),Nat.add_zero],by rw [Nat.mul_add_mod,Nat.mod_eq_of_lt (by omega)]⟩
 ·rw [e]
  exact⟨by rw [Nat.mul_add_div hD,Nat.div_eq_of_lt (by omega),Nat.add_zero],by rw [Nat.mul_add_mod,Nat.mod_eq_of_lt (by omega)]⟩

theorem digits1{q p:Int}{z:Int×Int}{r d s:Nat}(hr:r<d)(hd:d≤1099511627776)(hs:s≤48):∀(m i:Nat),i+m=s →
  Evt (fun k n=>spec_dyDigits_L58 k n q ((r*2 ^ i % d:Nat):Int) (d:Int) (s:Int) p z ((r*2 ^ i / d:Nat):Int) (i:Int)) (.inr (q,(s:Int),p,z,((r*2 ^ s / d:Nat):Int),())):=by
 intro m
 induction m with
 | zero =>
  intro i hi
  refine Evt.step (fun k n=>spec_dyDigits_L58.eq_2 k _ _ _ _ _ _ _ _ n) ?_
  rw [Nat.add_zero]at hi
  subst hi
  exact Evt.cfalse (decide_eq_false (by omega)) .pure
 | succ m ih =>
  intro i hi
  have ih:=ih (i+1) (by omega)
  have hst:=two_step (x:=r*2 ^ i) (D:=d) (Nat.div_add_mod _ _).symm (Nat.mod_lt _ (by omega))
  have e2:r*2 ^ (i+1)=2*(r*2 ^ i):=by rw [Nat.pow_succ,←Nat.mul_assoc,Nat.mul_comm]
  rw [e2]at ih
  have ht:r*2 ^ i % d<d:=Nat.mod_lt _ (by omega)
  have hg:r*2 ^ i / d<2 ^ i:=by
   rw [Nat.div_lt_iff_lt_mul (by omega)]
   exact(Nat.mul_comm d (2 ^ i)) ▸ Nat.mul_lt_mul_of_pos_right hr (Nat.pow_pos (by decide))
  have hp:2 ^ i≤2 ^ 48:=Nat.pow_le_pow_right (by decide) (by omega)
  have h48:(2:Nat) ^ 48=281474976710656:=by decide
  refine Evt.step (fun k n=>spec_dyDigits_L58.eq_2 k _ _ _ _ _ _ _ _ n) (Evt.ctrue (decide_eq_true (by omega)) ?_)
  generalize r*2 ^ i / d=g at hst hg ⊢
  generalize r*2 ^ i % d=t at hst ht ⊢
  have w1:IntKind.wrap .i64 ((t:Int)*2)=(t:Int)*2:=w64 (by omega) (by omega)
  have w2:IntKind.wrap .i64 ((g:Int)*2)=(g:Int)*2:=w64 (by omega) (by omega)
  have w3:IntKind.wrap .i64 ((t:Int)*2 - (d:Int))=(t:Int)*2 - (d:Int):=w64 (by omega) (by omega)
  have w4:IntKind.wrap .i64 ((g:Int)*2+1)=(g:Int)*2+1:=w64 (by omega) (by omega)
  have w5:IntKind.wrap .i64 ((i:Int)+1)=((i+1:Nat):Int):=by rw [w64 (by omega) (by omega)];rfl
  simp only [w1,w2,w3,w4,w5]
  by_cases hc:d≤2*t
  ·rw [if_pos hc]at hst
   rw [hst.1,hst.2]at ih
   have c1:((2*t - d:Nat):Int)=(t:Int)*2 - (d:Int):=by omega
   have c2:((2*g+1:Nat):Int)=(g:Int)*2+1:=by omega
   rw [c1,c2]at ih
   exact Evt.ctrue (decide_eq_true (by omega)) ih
  ·rw [if_neg hc]at hst
   rw [hst.1,hst.2]at ih
   have c1:((2*t:Nat):Int)=(t:Int)*2:=by omega
   have c2:((2*g:Nat):Int)=(g:Int)*2:=by omega
   rw [c1,c2]at ih
   exact Evt.cfalse (decide_eq_false (by omega)) ih

theorem mkD_two(n:Int)(k:Nat):mkD (2*n) (k+1)=mkD n k:=by
 have:=mkD_scale k 1 n
 rw [Int.pow_succ,Int.pow_zero,Int.one_mul,Int.mul_comm]at this
 exact this

theorem digits2{q:Int}{z:Int×Int}:∀(s p g:Nat),s≤48→p≤24→g<2 ^ s→∃s' p' g':Nat,s'≤s∧p'≤p∧g'<2 ^ s'∧(p'=0∨s'=0∨g' % 2=1)∧mkD (q*2 ^ s'+g') p'=mkD (q*2 ^ s+g) p ∧
  Evt (fun k n=>spec_dyDigits_L60 k n q (s:Int) (p:Int) z (g:Int)) (.inr (q,(s':Int),(p':Int),z,(g':Int),())):=by
 intro s
 induction s with
 | zero =>
  intro p g hs hp hg
  refine⟨0,p,g,by omega,by omega,hg,.inr (.inl rfl),rfl,Evt.step (fun k n=>spec_dyDigits_L60.eq_2 k _ _ _ _ _ n) ?_⟩
  by_cases hp0:p=0
  ·exact Evt.cfalse (decide_eq_false (by omega)) .pure
  ·exact Evt.ctrue (decide_eq_true (by omega)) (Evt.cfalse (decide_eq_false (by omega)) .pure)
 | succ s ih =>
  intro p g hs hp hg
  by_cases hp0:p=0
  ·subst hp0
   exact⟨s+1,0,g,by omega,by omega,hg,.inl rfl,rfl,Evt.step (fun k n=>spec_dyDigits_L60.eq_2 k _ _ _ _ _ n) (Evt.cfalse (decide_eq_false (by omega)) .pure)⟩
  ·have hm:Int.tmod (g:Int) 2=((g % 2:Nat):Int):=rfl
   by_cases hg2:g % 2=0
   ·have hgh:g / 2<2 ^ s:=by rw [Nat.pow_succ]at hg;omega
    obtain⟨s',p',g',a1,a2,a3,a4,a5,a6⟩:=ih (p - 1) (g / 2) (by omega) (by omega) hgh
    refine⟨s',p',g',by omega,by omega,a3,a4,?_,Evt.step (fun k n=>spec_dyDigits_L60.eq_2 k _ _ _ _ _ n) ?_⟩
    ·rw [a5]
     have e:q*2 ^ (s+1)+(g:Int)=2*(q*2 ^ s+((g / 2:Nat):Int)):=by
      rw [Int.pow_succ,Int.mul_add,←Int.mul_assoc,Int.mul_comm (q*2 ^ s) 2]
      omega
     have ep:p=(p - 1)+1:=by omega
     rw [e]
     conv=>rhs;rw [ep]
     rw [mkD_two]
    ·have w1:IntKind.wrap .i64 (((s+1:Nat):Int) - 1)=(s:Int):=by rw [w64 (by omega) (by omega)];omega
     have w2:IntKind.wrap .i64 ((p:Int) - 1)=((p - 1:Nat):Int):=by rw [w64 (by omega) (by omega)];omega
     have hgB:g<2 ^ 48:=Nat.lt_of_lt_of_le hg (Nat.pow_le_pow_right (by decide) hs)
     have h48:(2:Nat) ^ 48=281474976710656:=by decide
     have w3:IntKind.wrap .i64 (Int.tdiv (g:Int) 2)=((g / 2:Nat):Int):=by
      have:Int.tdiv (g:Int) 2=((g / 2:Nat):Int):=rfl
      rw [this,w64 (by omega) (by omega)]
     rw [w1,w2,w3,hm]
     exact Evt.ctrue (decide_eq_true (by omega)) (Evt.ctrue (decide_eq_true (by omega)) (Evt.ctrue (by rw [hg2];rfl) a6))
   ·refine⟨s+1,p,g,by omega,by omega,hg,.inr (.inr (by omega)),rfl,Evt.step (fun k n=>spec_dyDigits_L60.eq_2 k _ _ _ _ _ n) ?_⟩
    rw [hm]
    have hg1:g % 2=1:=by omega
    exact Evt.ctrue (decide_eq_true (by omega)) (Evt.ctrue (decide_eq_true (by omega)) (Evt.cfalse (by rw [hg1];rfl) .pure))

theorem mkD_large{n:Int}(h:n < -1099511627776∨1099511627776<n):mkD n 0=((0,0),false):=by
 unfold mkD strip
 rw [if_neg]
 simp only
 omega

theorem digits_ev{q:Int}{r d s p:Nat}(hq : -1099511627777≤q∧q≤1099511627777)(hr:r<d)(hd:d≤1099511627776)(hs:s≤48)(hp:p≤24) :
  Evt (fun k _=>spec_dyDigits k q (r:Int) (d:Int) (s:Int) (p:Int)) (mkD (q*2 ^ s+((r*2 ^ s / d:Nat):Int)) p):=by
 refine Evt.eq (f:=fun k q=>_) ?_ (fun k q=>by rw [spec_dyDigits])
 have h1:=digits1 (q:=q) (p:=(p:Int)) (z:=(0,0)) hr hd hs s 0 (by omega)
 have e0:r*2 ^ 0 % d=r:=by rw [Nat.pow_zero,Nat.mul_one,Nat.mod_eq_of_lt hr]
 have e1:r*2 ^ 0 / d=0:=by rw [Nat.pow_zero,Nat.mul_one,Nat.div_eq_of_lt hr]
 rw [e0,e1]at h1
 have hg:r*2 ^ s / d<2 ^ s:=by
  rw [Nat.div_lt_iff_lt_mul (by omega)]
  exact(Nat.mul_comm d (2 ^ s)) ▸ Nat.mul_lt_mul_of_pos_right hr (Nat.pow_pos (by decide))
 generalize r*2 ^ s / d=g at h1 hg ⊢
 obtain⟨s',p',g',a1,a2,a3,a4,a5,a6⟩:=digits2 (q:=q) (z:=(0,0)) s p g hs hp hg
 refine Evt.inr (Evt.diag h1) (Evt.inr (Evt.diag a6) ?_)
 rw [←a5]
 dsimp only
 have w1:IntKind.wrap .i64 (62 - (s':Int))=((62 - s':Nat):Int):=by rw [w64 (by omega) (by omega)];omega
 rw [w1]
 refine Evt.bind (.const (abs_eq (by omega) (by omega))) (Evt.bind (.const (dyPower_eq (by omega))) ?_)
 have hps:0<2 ^ s':=Nat.pow_pos (by decide)
 have h62:2 ^ (62 - s')*2 ^ s'=4611686018427387904:=by rw [←Nat.pow_add,show 62 - s'+s'=62 by omega]
 have hs48:2 ^ s'≤2 ^ 48:=Nat.pow_le_pow_right (by decide) (by omega)
 have h48:(2:Nat) ^ 48=281474976710656:=by decide
 have ep:((2 ^ s':Nat):Int)=(2:Int) ^ s':=by simp
 have eq1:q*2 ^ s'=q*((2 ^ s':Nat):Int):=by rw [ep]
 by_cases hc:2 ^ (62 - s')<q.natAbs
 ·refine Evt.ctrue (decide_eq_true (by omega)) ?_
  have hbig:(2 ^ (62 - s')+1)*2 ^ s'≤q.natAbs*2 ^ s':=Nat.mul_le_mul_right _ hc
  rw [Nat.add_mul,h62,Nat.one_mul]at hbig
  have hl:q*2 ^ s'+(g':Int) < -1099511627776∨1099511627776<q*2 ^ s'+(g':Int):=by
   have ea:((q.natAbs*2 ^ s':Nat):Int)=(q.natAbs:Int)*((2 ^ s':Nat):Int):=by simp
   rw [eq1]
   rcases Int.lt_or_le q 0 with h | h
   ·have:(q.natAbs:Int) = -q:=by omega
    rw [this,Int.neg_mul]at ea
    left
    omega
   ·have:(q.natAbs:Int)=q:=by omega
    rw [this]at ea
    right
    omega
  rcases a4 with rfl | rfl | h
  ·rw [mkD_large hl]
   exact .pure
  ·exfalso
   have:(2:Nat) ^ (62 - 0)=4611686018427387904:=by decide
   rw [this]at hc
   omega
  ·have hs0:s'≠0:=by
    intro h0
    subst h0
    rw [Nat.pow_zero]at a3
    omega
   obtain⟨t,rfl⟩:=Nat.exists_eq_succ_of_ne_zero hs0
   rw [mkD_odd (by rw [Int.pow_succ,←Int.mul_assoc];omega) hl]
   exact .pure
 ·refine Evt.cfalse (decide_eq_false (by omega)) (Evt.bind (.const (dyPower_eq (by omega))) ?_)
  have hsm:q.natAbs*2 ^ s'≤4611686018427387904:=by
   rw [←h62]
   exact Nat.mul_le_mul_right _ (by omega)
  have hb : -4611686018427387904≤q*((2 ^ s':Nat):Int)∧q*((2 ^ s':Nat):Int)≤4611686018427387904:=by
   have ea:((q.natAbs*2 ^ s':Nat):Int)=(q.natAbs:Int)*((2 ^ s':Nat):Int):=by simp
   rcases Int.lt_or_le q 0 with h | h
   ·have:(q.natAbs:Int) = -q:=by omega
    rw [this,Int.neg_mul]at ea
    omega
   ·have:(q.natAbs:Int)=q:=by omega
    rw [this]at ea
    omega
  rw [w64 (n:=q*((2 ^ s':Nat):Int)) (by omega) (by omega),w64 (by omega) (by omega),eq1]
  exact Evt.bind (dyMake_ev (by omega) (by omega) (by omega)) .pure

theorem dyDivide_ev{a b:Int×Int}{p:Nat}(ha:gd a)(hb:gd b)(hz:b.1≠0)(hp:p≤24):Evt (fun k _=>spec_dyDivide k a b (p:Int)) (mkD (quotV a.1 b.1 (b.2 - a.2+p)) p):=by
 refine Evt.eq (f:=fun k q=>_) ?_ (fun k q=>by rw [spec_dyDivide])
 have hbz:(b.1==0)=false:=beq_eq_false_iff_ne.2 hz
 obtain⟨a1,a2,a3,a4,_⟩:=ha
 obtain⟨b1,b2,b3,b4,_⟩:=hb
 have core:∀(n d:Int),-1099511627776≤n∧n≤1099511627776→0<d→d≤1099511627776→Evt (fun k _=>(Option.bind (spec_dyDown n d) fun r4=>(bif (decide ((IntKind.wrap .i64 ((IntKind.wrap .i64 (b.2+(p:Int))) - a.2))<0))then(Option.bind (spec_dyPower (IntKind.wrap .i64 (0 - (IntKind.wrap .i64 ((IntKind.wrap .i64 (b.2+(p:Int))) - a.2))))) fun r5=>(Option.bind (spec_dyDown r4 r5) fun r6=>(Option.bind (spec_dyMake k r6 (p:Int)) fun r7=>some (r7.1,r7.2))))else(Option.bind (spec_dyDigits k r4 (IntKind.wrap .i64 (n - (IntKind.wrap .i64 (r4*d)))) d (IntKind.wrap .i64 ((IntKind.wrap .i64 (b.2+(p:Int))) - a.2)) (p:Int)) fun r8=>some (r8.1,r8.2))))) (mkD ((n*2 ^ (b.2 - a.2+p).toNat) / ((d.natAbs*2 ^ (-(b.2 - a.2+p)).toNat:Nat):Int)) p):=by
  intro n d hn hd hd2
  have w1:IntKind.wrap .i64 ((IntKind.wrap .i64 (b.2+(p:Int))) - a.2)=b.2 - a.2+p:=by rw [w64 (n:=b.2+(p:Int)) (by omega) (by omega),w64 (by omega) (by omega)];omega
  simp only [w1]
  have hdn:((d.natAbs:Nat):Int)=d:=by omega
  have hdd:=dyDown_eq (n:=n) (p:=d.natAbs) (by omega) (by omega) (by omega)
  rw [hdn]at hdd
  have hq1 : -1099511627777≤n / d∧n / d≤1099511627777:=by
   have h1:=Int.mul_ediv_add_emod n d
   have h2:=Int.emod_nonneg n (show d≠0 by omega)
   have h3:=Int.emod_lt_of_pos n hd
   constructor
   ·rcases Int.lt_or_le (n / d) (-1099511627777)with h | h
    ·exfalso
     have:d*(n / d+1)≤1*(n / d+1):=Int.mul_le_mul_of_nonpos_right (show(1:Int)≤d by omega) (by omega)
     rw [Int.mul_add]at this
     omega
    ·exact h
   ·rcases Int.lt_or_le 1099511627777 (n / d)with h | h
    ·exfalso
     have:1*(n / d)≤d*(n / d):=Int.mul_le_mul_of_nonneg_right (show(1:Int)≤d by omega) (by omega)
     omega
    ·exact h
  refine Evt.bind (.const hdd) ?_
  by_cases hs:b.2 - a.2+(p:Int)<0
  ·refine Evt.ctrue (decide_eq_true hs) ?_
   have e0:(b.2 - a.2+(p:Int)).toNat=0:=by omega
   have wj:IntKind.wrap .i64 (0 - (b.2 - a.2+(p:Int)))=(((-(b.2 - a.2+(p:Int))).toNat:Nat):Int):=by rw [w64 (by omega) (by omega)];omega
   rw [e0,wj]
   generalize hj:(-(b.2 - a.2+(p:Int))).toNat=j
   refine Evt.bind (.const (dyPower_eq (by omega))) (Evt.bind (.const (dyDown_eq (Nat.pow_pos (by decide)) (by omega) (by omega))) ?_)
   have ev:n*2 ^ 0 / ((d.natAbs*2 ^ j:Nat):Int)=n / d / ((2 ^ j:Nat):Int):=by
    have ec:((d.natAbs*2 ^ j:Nat):Int)=d*((2 ^ j:Nat):Int):=by rw [Int.natCast_mul,hdn]
    rw [ec,Int.pow_zero,Int.mul_one,Int.ediv_ediv,if_neg (fun h=>by have:=h.1;omega),Int.sub_zero]
   rw [ev]
   have hb3:=div_bound (n:=n / d) (q:=2 ^ j)
   have hpos:(0:Int)<((2 ^ j:Nat):Int):=by have:=Nat.pow_pos (a:=2) (n:=j) (by decide);omega
   have hbd : -1099511627777≤n / d / ((2 ^ j:Nat):Int)∧n / d / ((2 ^ j:Nat):Int)≤1099511627777:=by
    have h1:=Int.mul_ediv_add_emod (n / d) ((2 ^ j:Nat):Int)
    have h2:=Int.emod_nonneg (n / d) (show((2 ^ j:Nat):Int)≠0 by omega)
    have h3:=Int.emod_lt_of_pos (n / d) hpos
    generalize n / d / ((2 ^ j:Nat):Int)=v at h1 ⊢
    generalize ((2 ^ j:Nat):Int)=w at h1 h2 h3 hpos
    constructor
    ·rcases Int.lt_or_le v (-1099511627777)with h | h
     ·exfalso
      have:w*(v+1)≤1*(v+1):=Int.mul_le_mul_of_nonpos_right (show(1:Int)≤w by omega) (by omega)
      rw [Int.mul_add]at this
      omega
     ·exact h
    ·rcases Int.lt_or_le 1099511627777 v with h | h
     ·exfalso
      have:1*v≤w*v:=Int.mul_le_mul_of_nonneg_right (show(1:Int)≤w by omega) (by omega)
      omega
     ·exact h
   exact Evt.bind (dyMake_ev (by omega) (by omega) (by omega)) .pure
  ·refine Evt.cfalse (decide_eq_false hs) ?_
   have e0:(-(b.2 - a.2+(p:Int))).toNat=0:=by omega
   have es:b.2 - a.2+(p:Int)=(((b.2 - a.2+(p:Int)).toNat:Nat):Int):=by omega
   rw [e0,Nat.pow_zero,Nat.mul_one,hdn]
   generalize hsn:(b.2 - a.2+(p:Int)).toNat=s at es ⊢
   rw [es]
   have h1:=Int.mul_ediv_add_emod n d
   have h2:=Int.emod_nonneg n (show d≠0 by omega)
   have h3:=Int.emod_lt_of_pos n hd
   have hm:n / d*d=n - n % d:=by rw [Int.mul_comm];omega
   have w2:IntKind.wrap .i64 (n - (IntKind.wrap .i64 (n / d*d)))=(((n % d).toNat:Nat):Int):=by rw [hm,w64 (n:=n - n % d) (by omega) (by omega),w64 (by omega) (by omega)];omega
   rw [w2]
   have hdig:=digits_ev (q:=n / d) (r:=(n % d).toNat) (d:=d.natAbs) (s:=s) (p:=p) (by omega) (by omega) (by omega) (by omega) hp
   rw [hdn]at hdig
   have ev:n*2 ^ s / d=n / d*2 ^ s+(((n % d).toNat*2 ^ s / d.natAbs:Nat):Int):=by
    have e1:(((n % d).toNat*2 ^ s / d.natAbs:Nat):Int)=(n % d*2 ^ s) / d:=by
     have e3:(((n % d).toNat:Nat):Int)=n % d:=by omega
     rw [Int.natCast_ediv,Int.natCast_mul,hdn,e3]
     simp
    rw [e1]
    have e2:n*2 ^ s=n % d*2 ^ s+n / d*2 ^ s*d:=by
     conv=>lhs;rw [←h1]
     rw [Int.add_mul,Int.add_comm,Int.mul_comm d,Int.mul_right_comm]
    rw [e2,Int.add_mul_ediv_right _ _ (show d≠0 by omega),Int.add_comm]
   rw [ev]
   exact Evt.bind hdig .pure
 refine Evt.cfalse hbz ?_
 unfold quotV nnI
 by_cases hneg:b.1<0
 ·have hc:=core (-a.1) (-b.1) (by omega) (by omega) (by omega)
  rw [Int.natAbs_neg]at hc
  rw [if_pos hneg]
  exact Evt.inr (Evt.ctrue (decide_eq_true hneg) (Evt.bind (.const (dyMinus_eq ⟨a1,a2,a3,a4,by assumption⟩)) (Evt.bind (.const (dyMinus_eq ⟨b1,b2,b3,b4,by assumption⟩)) .pure))) hc
 ·have hc:=core a.1 b.1 (by omega) (by omega) (by omega)
  rw [if_neg hneg]
  exact Evt.inr (Evt.cfalse (decide_eq_false hneg) .pure) hc
end Go.Ev.G

namespace Go.Ev.G
open Go Go.Ev
set_option maxRecDepth 100000

section
variable {V : Type}
end
structure Pl(s:List (List Tm)):Prop where
 ln:s.length=2
 tm:∀p∈s,∀t∈p,tmW t
 lp:∀p∈s,p.length<lenB
theorem Pl.sd{s:List (List Tm)}(h:Pl s){e:Ed}(he:EdOk e):Sd s (sidesE e):=Sd.edge h.tm h.lp he
end Go.Ev.G

namespace Go.Ev.G
open Go Go.Ev
set_option maxRecDepth 100000

def halfD(a b:Int×Int):(Int×Int)×Bool:=mkD (sumN a b) (exA a b+1)
theorem halfD_gd(a b:Int×Int):gd (halfD a b).1:=mkD_gd _ _
theorem EdOk.left{e:Ed}(h:EdOk e):EdOk (e.1,e.2.1,e.2.2.1,(halfD e.2.2.1 e.2.2.2).1):=⟨h.sd,h.a,h.f,halfD_gd _ _⟩
theorem EdOk.right{e:Ed}(h:EdOk e):EdOk (e.1,e.2.1,(halfD e.2.2.1 e.2.2.2).1,e.2.2.2):=⟨h.sd,h.a,halfD_gd _ _,h.t⟩
end Go.Ev.G

namespace Go.Ev.G
open Go Go.Ev
set_option maxRecDepth 100000

def allO{α β:Type}(g:α→Option β)(z:β)(l:List α):Option (List β):=if (l.all fun x=>(g x).isSome)then some (l.map fun x=>(g x).getD z)else none
def oL{β:Type}(o:Option (List β)):List β×Bool:=match o with
 | some l=>(l,true)
 | none=>([],false)
end Go.Ev.G

namespace Go.Ev.G
open Go Go.Ev
set_option maxRecDepth 100000

theorem allO_some{α β:Type}{g:α→Option β}{z:β}{l:List α}{m:List β}(h:allO g z l=some m):m=l.map (fun x=>(g x).getD z)∧∀x∈l,(g x).isSome=true:=by
 unfold allO at h
 split at h
 ·rename_i ha
  cases h
  exact⟨rfl,List.all_eq_true.1 ha⟩
 ·cases h
theorem allO_len{α β:Type}{g:α→Option β}{z:β}{l:List α}{m:List β}(h:allO g z l=some m):m.length=l.length:=by
 rw [(allO_some h).1,List.length_map]
theorem allO_mem{α β:Type}{g:α→Option β}{z:β}{l:List α}{m:List β}(h:allO g z l=some m):∀y∈m,∃x∈l,g x=some y:=by
 obtain⟨h1,h2⟩:=allO_some h
 subst h1
 intro y hy
 obtain⟨x,hx,rfl⟩:=List.mem_map.1 hy
 refine⟨x,hx,?_⟩
 have:=h2 x hx
 cases hg:g x with
 | none=>rw [hg]at this;cases this
 | some v=>rfl
theorem keep_val(c:Bool)(x:Int×Int)(ok:Bool):∃v,impl_reckoner_keep c x ok=some (v,c&&ok)∧(c=true→ok=true→v=x):=by
 cases c with
 | false=>exact⟨(0,0),rfl,fun h=>by cases h⟩
 | true =>
  cases ok with
  | false=>exact⟨(0,0),rfl,fun _ h=>by cases h⟩
  | true=>exact⟨x,rfl,fun _ _=>rfl⟩

def small3(t:List Pt):Prop:=t.length≤3∧∀r∈t,r.length≤3
end Go.Ev.G

namespace Go.Ev.G
open Go Go.Ev
set_option maxRecDepth 100000

def adW:Nat→List Pt→List Pt×Bool
 | 0,_=>([[(1,0)]],true)
 | n+1,m=>adjV n m
theorem spec_adW{n:Nat}{m:List Pt}(hn:n≤2)(h:sq gd (n+1) m):Evt (fun k _=>spec_mxAdjoint k m) (adW n m):=by
 cases n with
 | zero =>
  have h1:=h.1
  refine Evt.eq (f:=fun k q=>_) ?_ (fun k q=>by rw [spec_mxAdjoint])
  exact Evt.ctrue (by rw [h1];rfl) (Evt.bind (a:=(1,0)) (.const rfl) .pure)
 | succ n=>exact spec_adjoint_ev (by omega) h
theorem impl_adW{n:Nat}{m:List Pt}(hn:n≤2)(h:sq gd (n+1) m):Evt (fun k _=>impl_adjoint k m) (adW n m):=by
 cases n with
 | zero =>
  have h1:=h.1
  refine Evt.eq (f:=fun k q=>_) ?_ (fun k q=>by rw [impl_adjoint])
  exact Evt.ctrue (by rw [h1];rfl) (Evt.bind (a:=(1,0)) (.const rfl) .pure)
 | succ n=>exact impl_adjoint_ev (by omega) h
theorem adW_ok{n:Nat}{m:List Pt}(hn:n≤2)(h:sq gd (n+1) m):(adW n m).1.length≤3∧∀r∈(adW n m).1,r.length≤3∧∀x∈r,gd x:=by
 cases n with
 | zero =>
  refine⟨by simp [adW],fun r hr => ?_⟩
  simp only [adW,List.mem_singleton]at hr
  subst hr
  refine⟨by simp,fun x hx => ?_⟩
  simp only [List.mem_singleton]at hx
  subst hx
  exact gd_int (n:=1) (by omega)
 | succ n =>
  show(adjV n m).1.length≤3∧∀r∈(adjV n m).1,r.length≤3∧∀x∈r,gd x
  unfold adjV
  split
  ·rename_i hall
   refine⟨by simp;omega,fun r hr => ?_⟩
   obtain⟨i,hi,rfl⟩:=List.mem_map.1 hr
   have hs:=List.all_eq_true.1 hall i hi
   have hil:=List.mem_range.1 hi
   unfold adjRow at hs ⊢
   split at hs
   ·rename_i ha
    rw [if_pos ha]
    refine⟨by simp [adjT];omega,fun x hx => ?_⟩
    obtain⟨o,ho,rfl⟩:=List.mem_map.1 hx
    have hos:=List.all_eq_true.1 ha o ho
    unfold adjT at ho
    obtain⟨c,hc,rfl⟩:=List.mem_map.1 ho
    have hcl:=List.mem_range.1 hc
    cases hd:detO n (partV m c i)with
    | none=>rw [hd]at hos;cases hos
    | some t =>
     simp only [Option.map_some,Option.getD_some]
     exact ngD_gd (detO_gd n _ t (sq_part h (by omega) (by omega)) hd)
   ·cases hs
  ·exact⟨by simp,by simp⟩

def dvO(d:Int×Int)(p:Nat)(x:Int×Int):Option (Int×Int):=if (mkD (quotV x.1 d.1 (d.2 - x.2+p)) p).2 then some (mkD (quotV x.1 d.1 (d.2 - x.2+p)) p).1 else none
def rwO(d:Int×Int)(p:Nat)(row:Pt):Option Pt:=allO (dvO d p) (0,0) row
def invV(n:Nat)(m:List Pt)(p:Nat):List Pt×Bool:=match detO n m with
 | none=>([],false)
 | some d=>if (adW n m).2 then(if d.1=0 then([],false)else oL (allO (rwO d p) [] (adW n m).1))else([],false)

theorem mxInverse_ev{n:Nat}{m:List Pt}{p:Nat}(hn:n≤2)(h:sq gd (n+1) m)(hp:p≤24):Evt (fun k _=>spec_mxInverse k m (p:Int)) (invV n m p):=by
 refine Evt.eq (f:=fun k q=>_) ?_ (fun k q=>by rw [spec_mxInverse])
 refine Evt.bind (spec_det_ev hn h) (Evt.bind (spec_adW hn h) ?_)
 obtain⟨al,ar⟩:=adW_ok hn h
 unfold invV
 cases hd:detO n m with
 | none=>exact Evt.ctrue rfl .pure
 | some d =>
 have hdg:=detO_gd n m d h hd
 refine Evt.cfalse rfl ?_
 cases ha:(adW n m).2 with
 | false=>exact Evt.ctrue rfl .pure
 | true =>
 refine Evt.cfalse rfl ?_
 dsimp only
 rw [if_pos rfl]
 simp only [oV]
 by_cases hz:d.1=0
 ·rw [if_pos hz]
  exact Evt.ctrue (beq_iff_eq.2 hz) .pure
 ·rw [if_neg hz]
  refine Evt.cfalse (beq_eq_false_iff_ne.2 hz) ?_
  generalize (adW n m).1=a at al ar ⊢
  have inner:∀(row:Pt) (x10 x39:List Pt) (x40 x41:Int),row.length≤3→(∀x∈row,gd x)→∀(r e:Pt),e++r=row →
    Evt (fun k n=>spec_mxInverse_L518554 k n (p:Int) d x10 (e.map fun i=>(dvO d p i).getD (0,0)) x39 x40 x41 row (row.length:Int) e.length) (if (r.all fun i=>(dvO d p i).isSome)then .inr ((p:Int),d,x10,row.map fun i=>(dvO d p i).getD (0,0),x39,x40,x41,())else .inl ([],false)):=by
   intro row x10 x39 x40 x41 hl hg r
   induction r with
   | nil =>
    intro e h
    refine Evt.step (fun k n=>spec_mxInverse_L518554.eq_2 k _ _ _ _ _ _ _ _ _ _ n) ?_
    rw [List.append_nil]at h
    subst h
    exact Evt.rng0 .pure
   | cons x r ih =>
    intro e h
    have hxl:=congrArg List.length h
    simp at hxl
    have ih:=ih (e ++ [x]) (by simpa using h)
    rw [←len_next (r:=r) (by rw [h];simp only [lenB];omega),List.map_append]at ih
    have hx:=hg x (by rw [←h];simp)
    have g:row.getD (Int.toNat (e.length:Int)) (0,0)=x:=by rw [←h];exact mid_get
    refine Evt.step (fun k n=>spec_mxInverse_L518554.eq_2 k _ _ _ _ _ _ _ _ _ _ n) ?_
    rw [g]
    refine Evt.ctrue (by rw [←h];exact mid_lt) (Evt.ctrue mid_ge (Evt.ctrue (by rw [←h];exact mid_lt) (Evt.bind (dyDivide_ev hx hdg hz hp) ?_)))
    cases hh:(mkD (quotV x.1 d.1 (d.2 - x.2+p)) p).2 with
    | false =>
     have ho:dvO d p x=none:=by unfold dvO;rw [hh];rfl
     simp only [List.all_cons,ho,Option.isSome_none,Bool.false_and]
     exact Evt.ctrue rfl .pure
    | true =>
     have ho:dvO d p x=some (mkD (quotV x.1 d.1 (d.2 - x.2+p)) p).1:=by unfold dvO;rw [hh];rfl
     simp only [List.map_cons,List.map_nil,ho]at ih
     simp only [List.all_cons,ho,Option.isSome_some,Bool.true_and]
     exact Evt.cfalse rfl (Evt.ctrue (by simp;omega) ih)
  have key:∀(r e:List Pt),e++r=a→Evt (fun k n=>spec_mxInverse_L506 k n (p:Int) d (e.map fun r=>(rwO d p r).getD []) a (a.length:Int) e.length) (if (r.all fun r=>(rwO d p r).isSome)then .inr (a.map fun r=>(rwO d p r).getD [],())else .inl ([],false)):=by
   intro r
   induction r with
   | nil =>
    intro e h
    refine Evt.step (fun k n=>spec_mxInverse_L506.eq_2 k _ _ _ _ _ _ n) ?_
    rw [List.append_nil]at h
    subst h
    exact Evt.rng0 .pure
   | cons x r ih =>
    intro e h
    have hxl:=congrArg List.length h
    simp at hxl
    have ih:=ih (e ++ [x]) (by simpa using h)
    rw [←len_next (r:=r) (by rw [h];simp only [lenB];omega),List.map_append]at ih
    obtain⟨hel,heg⟩:=ar x (by rw [←h];simp)
    have g:a.getD (Int.toNat (e.length:Int)) []=x:=by rw [←h];exact mid_get
    refine Evt.step (fun k n=>spec_mxInverse_L506.eq_2 k _ _ _ _ _ _ n) ?_
    rw [g]
    have hi:=inner x (e.map fun r=>(rwO d p r).getD []) a (a.length:Int) (e.length:Int) hel heg x [] rfl
    simp only [List.map_nil,List.length_nil]at hi
    refine Evt.ctrue (by rw [←h];exact mid_lt) (Evt.ctrue mid_ge (Evt.ctrue (by rw [←h];exact mid_lt) ?_))
    cases hall:x.all fun i=>(dvO d p i).isSome with
    | false =>
     have ho:rwO d p x=none:=by unfold rwO allO;rw [hall];rfl
     rw [hall]at hi
     simp only [List.all_cons,ho,Option.isSome_none,Bool.false_and]
     exact Evt.inl (Evt.diag hi) .pure
    | true =>
     have ho:rwO d p x=some (x.map fun i=>(dvO d p i).getD (0,0)):=by unfold rwO allO;rw [hall];rfl
     rw [hall]at hi
     simp only [List.map_cons,List.map_nil,ho]at ih
     simp only [List.all_cons,ho,Option.isSome_some,Bool.true_and]
     exact Evt.inr (Evt.diag hi) (Evt.ctrue (by simp;omega) ih)
  have h0:=key a [] rfl
  simp only [List.map_nil,List.length_nil]at h0
  unfold allO
  cases hall:a.all fun r=>(rwO d p r).isSome with
  | true=>rw [hall]at h0;exact Evt.inr (Evt.diag h0) .pure
  | false=>rw [hall]at h0;exact Evt.inl (Evt.diag h0) .pure

theorem roundedInverse_ev{n:Nat}{m:List Pt}{p:Nat}(hn:n≤2)(h:sq gd (n+1) m)(hp:p≤24):Evt (fun k _=>impl_roundedInverse k m (p:Int)) (invV n m p):=by
 refine Evt.eq (f:=fun k q=>_) ?_ (fun k q=>by rw [impl_roundedInverse])
 obtain⟨v,hv1,hv2,hv3⟩:=impl_det_ev hn h true
 refine Evt.bind hv3 (Evt.bind (impl_adW hn h) ?_)
 obtain⟨al,ar⟩:=adW_ok hn h
 unfold invV
 cases hd:detO n m with
 | none=>exact Evt.ctrue rfl .pure
 | some d =>
 have hdg:=detO_gd n m d h hd
 have hvd:v=d:=by
  have:=hv2 rfl (by rw [hd];rfl)
  rw [hd]at this
  cases this
  rfl
 subst hvd
 refine Evt.cfalse rfl ?_
 cases ha:(adW n m).2 with
 | false=>exact Evt.ctrue rfl .pure
 | true =>
 refine Evt.cfalse rfl ?_
 dsimp only
 rw [if_pos rfl]
 by_cases hz:v.1=0
 ·rw [if_pos hz]
  exact Evt.ctrue (beq_iff_eq.2 hz) .pure
 ·rw [if_neg hz]
  refine Evt.cfalse (beq_eq_false_iff_ne.2 hz) ?_
  generalize (adW n m).1=a at al ar ⊢
  have inner:∀(row:Pt) (A R:List Pt) (x39 x40:Int),row.length≤3→(∀x∈row,gd x)→∀(b0:Bool) (r e:Pt) (c:Bool) (o:Pt),e++r=row→Flag (dvO v p) (0,0) b0 e c o →
    ∃c' o',Flag (dvO v p) (0,0) b0 row c' o'∧Evt (fun k n=>impl_roundedInverse_L129638 k n () () A.length (p:Int) c v (A++(o++r)::R) x39 x40 (row.length:Int) e.length) (.inr ((),(p:Int),c',v,A++o'::R,x39,x40,())):=by
   intro row A R x39 x40 hl hg b0 r
   induction r with
   | nil =>
    intro e c o h hf
    rw [List.append_nil]at h
    subst h
    refine⟨c,o,hf,Evt.step (fun k n=>impl_roundedInverse_L129638.eq_2 k _ _ _ _ _ _ _ _ _ _ _ n) ?_⟩
    rw [List.append_nil]
    exact Evt.cfalse (by simp) .pure
   | cons x r ih =>
    intro e c o h hf
    have hxl:=congrArg List.length h
    simp at hxl
    have hx:=hg x (by rw [←h];simp)
    have hol:=hf.1
    obtain⟨w,hw,hwx⟩:=keep_val c (mkD (quotV x.1 v.1 (v.2 - x.2+p)) p).1 (mkD (quotV x.1 v.1 (v.2 - x.2+p)) p).2
    have e1:(dvO v p x).isSome=(mkD (quotV x.1 v.1 (v.2 - x.2+p)) p).2:=by unfold dvO;cases (mkD (quotV x.1 v.1 (v.2 - x.2+p)) p).2 <;> rfl
    have hst:=Flag.step (e:=x) (v:=w) hf (by
     intro hc hs
     rw [e1]at hs
     rw [hwx hc hs]
     unfold dvO
     rw [if_pos hs])
    rw [e1]at hst
    obtain⟨c',o',q1,q2⟩:=ih (e ++ [x]) _ _ (by simpa using h) hst
    refine⟨c',o',q1,Evt.step (fun k n=>impl_roundedInverse_L129638.eq_2 k _ _ _ _ _ _ _ _ _ _ _ n) ?_⟩
    rw [←len_next (r:=r) (by rw [h];simp only [lenB];omega)]at q2
    have gr:(A++(o++x::r)::R).getD A.length []=o++x::r:=by simp
    have hoe:(e.length:Int)=(o.length:Int):=by omega
    have gx:(o++x::r).getD (Int.toNat (e.length:Int)) (0,0)=x:=by rw [hoe];exact mid_get
    have sx:(A++(o++x::r)::R).set A.length ((o++x::r).set (Int.toNat (e.length:Int)) w)=A++((o ++ [w])++r)::R:=by rw [hoe,mid_set];simp
    have lr:(o++x::r).length=row.length:=by simp;omega
    have wk:IntKind.wrap .i64 (v.2 - x.2)=v.2 - x.2:=by
     obtain⟨a1,a2,_⟩:=hdg
     obtain⟨b1,b2,_⟩:=hx
     exact w64 (by omega) (by omega)
    have hq:=quotientDown_ev (n:=x.1) (k:=v.2 - x.2) (d:=v.1) (p:=p) ⟨hx.2.2.1,hx.2.2.2.1⟩ ⟨hdg.2.2.1,hdg.2.2.2.1⟩ hz (by
     obtain⟨a1,a2,_⟩:=hdg
     obtain⟨b1,b2,_⟩:=hx
     omega) hp
    rw [gr,gx,lr,wk]
    have c0:decide ((e.length:Int)<(row.length:Int))=true:=decide_eq_true (by omega)
    refine Evt.ctrue c0 (Evt.ctrue mid_ge (Evt.ctrue c0 (Evt.bind hq (Evt.bind (.const hw) (Evt.ctrue mid_ge (Evt.ctrue c0 ?_))))))
    dsimp only
    rw [sx]
    exact q2
  have key:∀(r e:List Pt) (c:Bool) (o:List Pt),e++r=a→Flag (rwO v p) [] true e c o →
    ∃c' o',Flag (rwO v p) [] true a c' o'∧Evt (fun k n=>impl_roundedInverse_L506 k n () (p:Int) c v (o++r) (a.length:Int) e.length) (.inr (c',o',())):=by
   intro r
   induction r with
   | nil =>
    intro e c o h hf
    rw [List.append_nil]at h
    subst h
    refine⟨c,o,hf,Evt.step (fun k n=>impl_roundedInverse_L506.eq_2 k _ _ _ _ _ _ _ n) ?_⟩
    rw [List.append_nil]
    exact Evt.cfalse (by simp) .pure
   | cons x r ih =>
    intro e c o h hf
    have hxl:=congrArg List.length h
    simp at hxl
    obtain⟨hel,heg⟩:=ar x (by rw [←h];simp)
    have hol:=hf.1
    obtain⟨c1,o1,⟨f1,f2,f3⟩,q0⟩:=inner x o r (a.length:Int) (e.length:Int) (by omega) heg c x [] c [] rfl Flag.nil
    simp only [List.length_nil,List.nil_append]at q0
    have hst:=Flag.step (e:=x) (v:=o1) hf (by
     intro hc hs
     subst hc
     unfold rwO allO at hs ⊢
     split at hs
     ·rename_i hall
      rw [if_pos hall,←f3 (by rw [f2,hall];rfl)]
     ·cases hs)
    have e2:(c&&(rwO v p x).isSome)=c1:=by
     rw [f2]
     unfold rwO allO
     cases x.all fun i=>(dvO v p i).isSome <;> rfl
    rw [e2]at hst
    obtain⟨c',o',q1,q2⟩:=ih (e ++ [x]) c1 (o ++ [o1]) (by simpa using h) hst
    refine⟨c',o',q1,Evt.step (fun k n=>impl_roundedInverse_L506.eq_2 k _ _ _ _ _ _ _ n) ?_⟩
    rw [←len_next (r:=r) (by rw [h];simp only [lenB];omega)]at q2
    have hoe:(e.length:Int)=(o.length:Int):=by omega
    have gx:(o++x::r).getD (Int.toNat (e.length:Int)) []=x:=by rw [hoe];exact mid_get
    have hn2:Int.toNat (e.length:Int)=o.length:=by omega
    have lo:((o++x::r).length:Int)=(a.length:Int):=by simp;omega
    rw [gx]
    rw [hn2]
    have q3:o ++ [o1]++r=o++o1::r:=by simp
    rw [q3]at q2
    exact Evt.ctrue (decide_eq_true (by omega)) (Evt.ctrue mid_ge (Evt.ctrue (decide_eq_true (by omega)) (Evt.inr (Evt.diag q0) q2)))
  obtain⟨c',o',⟨f1,f2,f3⟩,q2⟩:=key a [] true [] rfl Flag.nil
  rw [Bool.true_and]at f2
  simp only [List.length_nil,List.nil_append]at q2
  refine Evt.inr (Evt.diag q2) ?_
  unfold allO
  rw [←f2]
  cases c' with
  | true=>rw [←f3 rfl];exact Evt.cfalse rfl .pure
  | false=>exact Evt.ctrue rfl .pure
theorem invV_small{n p:Nat}{m:List Pt}(hn:n≤2)(h:sq gd (n+1) m):small3 (invV n m p).1:=by
 obtain⟨al,ar⟩:=adW_ok hn h
 unfold invV
 split
 ·exact⟨by simp,by simp⟩
 ·split
  ·split
   ·exact⟨by simp,by simp⟩
   ·rename_i d _ _ _
    cases ho:allO (rwO d p) [] (adW n m).1 with
    | none=>exact⟨by simp [oL],by simp [oL]⟩
    | some M =>
     refine⟨by simp only [oL];rw [allO_len ho];exact al,fun r hr => ?_⟩
     obtain⟨x,hx,hg⟩:=allO_mem ho r hr
     rw [allO_len hg]
     exact(ar x hx).1
  ·exact⟨by simp,by simp⟩
end Go.Ev.G

namespace Go.Ev.G
open Go Go.Ev
set_option maxRecDepth 100000

theorem between{m D:Nat}{l h x:Int}(hl : -(8*2 ^ m)≤l)(hlh:l<h)(hh:h≤8*2 ^ m)(h0:0≤x)(h1:x≤2 ^ D):(l*2 ^ D+x*(h - l)).natAbs≤8*2 ^ (m+D):=by
 have hP:(0:Int)≤2 ^ D:=Int.le_of_lt (Int.pow_pos (by decide))
 have e1:l*2 ^ D+x*(h - l)=l*(2 ^ D - x)+h*x:=by rw [Int.mul_sub,Int.mul_sub,Int.mul_comm x h,Int.mul_comm x l];omega
 have a1 : -(8*2 ^ m)*(2 ^ D - x)≤l*(2 ^ D - x):=Int.mul_le_mul_of_nonneg_right hl (by omega)
 have a2 : -(8*2 ^ m)*x≤h*x:=Int.mul_le_mul_of_nonneg_right (by omega) h0
 have b1:l*(2 ^ D - x)≤8*2 ^ m*(2 ^ D - x):=Int.mul_le_mul_of_nonneg_right (by omega) (by omega)
 have b2:h*x≤8*2 ^ m*x:=Int.mul_le_mul_of_nonneg_right hh h0
 have e2:(8:Int)*2 ^ m*(2 ^ D - x)+8*2 ^ m*x=8*2 ^ m*2 ^ D:=by rw [←Int.mul_add];congr 1;omega
 have e3:((8*2 ^ (m+D):Nat):Int)=8*2 ^ m*2 ^ D:=by rw [Nat.pow_add,←Nat.mul_assoc];simp
 rw [Int.neg_mul]at a1 a2
 omega
def qq(a b:Int):Option Int:=if a=0∧b=0 then none else some (if 0<a∧0≤b then 0 else if a≤0∧0<b then 1 else if a<0 then 2 else 3)
end Go.Ev.G

namespace Go.Ev.G
open Go Go.Ev
set_option maxRecDepth 100000

theorem ivGd.gdI{x:Iv}(h:ivGd x):gdI x:=⟨h.1,h.2.1⟩
def stT(o:Option Iv)(x:Int×Int)(y:Iv):Option Iv:=match o with
 | none=>none
 | some s=>match mulO (x,x) y with
  | none=>none
  | some p=>addO s p
def foldT:Option Iv→Pt→List Iv→Option Iv
 | o,x::xs,y::ys=>foldT (stT o x y) xs ys
 | o,_,_=>o
theorem foldT_none:∀(xs:Pt) (ys:List Iv),foldT none xs ys=none
 | [],_=>by cases ‹List Iv› <;> rfl
 | _::_,[]=>rfl
 | _::xs,_::ys=>foldT_none xs ys
def colI(m:List (List Iv))(j:Nat):List Iv:=m.map fun r=>r.getD j zI
def colsI(m:List (List Iv)):List (List Iv):=(List.range m.length).map (colI m)
def inI(row:Pt)(c:List Iv):Option Iv:=foldT (some zI) row c
def rowI(m:List (List Iv))(row:Pt):Option (List Iv):=if ((colsI m).all fun c=>(inI row c).isSome)then some ((colsI m).map fun c=>(inI row c).getD zI)else none
def tiV(a:List Pt)(m:List (List Iv)):List (List Iv)×Bool :=
 if tab gd a&&(tab ivGd m&&(decide (a.length=m.length)&&a.all fun r=>(rowI m r).isSome))then(a.map fun r=>(rowI m r).getD [],true)else([],false)
theorem colsI_len(b:List (List Iv)):(colsI b).length=b.length:=by simp [colsI]
theorem colsI_at{b:List (List Iv)}{d r:List (List Iv)}{e:List Iv}(h:d++e::r=colsI b):e=colI b d.length∧d.length<b.length:=by
 have hl:=congrArg List.length h
 rw [colsI_len]at hl
 simp at hl
 have h1:d.length<b.length:=by omega
 have h2:(d++e::r)[d.length]? = some e:=by simp
 rw [h]at h2
 unfold colsI at h2
 rw [List.getElem?_map,List.getElem?_range h1]at h2
 simp only [Option.map_some,Option.some.injEq]at h2
 exact⟨h2.symm,h1⟩
theorem stT_some{s:Iv}{x:Int×Int}{y:Iv}:stT (some s) x y=(mulO (x,x) y).bind (addO s):=by unfold stT;cases mulO (x,x) y <;> rfl

theorem tiSpec_in{m:List (List Iv)}{row:Pt}{c:Nat}(hm:∀r∈m,c<r.length∧∀x∈r,ivGd x)(hr:∀x∈row,gd x)(hl:row.length=m.length)(hb:row.length<lenB)(x6:List (List Iv))(x9:List Iv)(x18:List Pt)(x19 x20 x25 x26:Int):∀(r:Pt) (r2:List (List Iv)) (d:Pt) (d2:List (List Iv)) (s:Iv),d++r=row→d2++r2=m→d.length=d2.length→gdI s →
  Evt (fun k n=>spec_mxTimesIn_L61237658 k n m x6 row x9 (c:Int) s x18 x19 x20 x25 x26 row (row.length:Int) d.length) (match foldT (some s) r (r2.map fun q=>q.getD c zI)with | some t => .inr (m,x6,row,x9,t,x18,x19,x20,x25,x26,()) | none => .inl ([],false)):=by
 intro r
 induction r with
 | nil =>
  intro r2 d d2 s h h2 hd hs
  refine Evt.step (fun k n=>spec_mxTimesIn_L61237658.eq_2 k _ _ _ _ _ _ _ _ _ _ _ _ _ _ n) ?_
  rw [List.append_nil]at h
  subst h
  have e:foldT (some s) [] (r2.map fun q=>q.getD c zI)=some s:=by cases r2 <;> rfl
  rw [e]
  exact Evt.rng0 .pure
 | cons e r ih =>
  intro r2 d d2 s h h2 hd hs
  refine Evt.step (fun k n=>spec_mxTimesIn_L61237658.eq_2 k _ _ _ _ _ _ _ _ _ _ _ _ _ _ n) ?_
  have hxl:=congrArg List.length h
  have hyl:=congrArg List.length h2
  simp at hxl hyl
  cases r2 with
  | nil=>simp at hyl;omega
  | cons f r2 =>
  have hf:=hm f (by rw [←h2];simp)
  have e1:row.getD (Int.toNat (d.length:Int)) (0,0)=e:=by rw [←h];exact mid_get
  have e2:m.getD (Int.toNat (d.length:Int)) []=f:=by rw [←h2,hd];exact mid_get
  refine Evt.ctrue (by rw [←h];exact mid_lt) (Evt.ctrue mid_ge (Evt.ctrue (by rw [←h];exact mid_lt) (Evt.ctrue mid_ge (Evt.ctrue (decide_eq_true (by omega)) (Evt.ctrue (decide_eq_true (by omega)) ?_)))))
  rw [e1,e2]
  have e3:Int.toNat (c:Int)=c:=by omega
  rw [e3]
  refine Evt.ctrue (decide_eq_true (by have:=hf.1;omega)) (Evt.bind (ivMul_ev ⟨hr e (by rw [←h];simp),hr e (by rw [←h];simp)⟩ (ivGd.gdI (hf.2 _ (getI_mem hf.1)))) ?_)
  simp only [List.map_cons,foldT,stT]
  cases hmu:mulO (e,e) (f.getD c zI)with
  | none =>
   simp only [foldT_none]
   exact Evt.ctrue rfl .pure
  | some p =>
   refine Evt.cfalse rfl (Evt.bind (ivAdd_ev hs (mulO_gd hmu)) ?_)
   simp only
   cases had:addO s p with
   | none =>
    simp only [foldT_none]
    exact Evt.ctrue rfl .pure
   | some t =>
    have ih:=ih r2 (d ++ [e]) (d2 ++ [f]) t (by simpa using h) (by simpa using h2) (by simp [hd]) (addO_gd had)
    rw [←len_next (r:=r) (by rw [h];exact hb)]at ih
    exact Evt.cfalse rfl ih

theorem mxTimesIn_ev{a:List Pt}{m:List (List Iv)}(hb:a.length<274877906944)(hm:∀r∈a,r.length<lenB)(hb':m.length<274877906944)(hm':∀r∈m,r.length<lenB)(ht:tab gd a=true)(ht':tab ivGd m=true)(hl:a.length=m.length):Evt (fun k _=>spec_mxTimesIn k a m) (if (a.all fun r=>(rowI m r).isSome)then(a.map fun r=>(rowI m r).getD [],true)else([],false)):=by
 have hg:=tab_gd ht
 obtain⟨n,hn,hsq⟩:=sq_tab ht'
 have hg':∀j,j<m.length→∀r∈m,j<r.length∧∀x∈r,ivGd x:=fun j hj r hr=>⟨by rw [(hsq.2 r hr).1,←hsq.1];exact hj,(hsq.2 r hr).2⟩
 have inner:∀(row:Pt) (x6:List (List Iv)) (x18:List Pt) (x19 x20:Int),row.length=m.length→(∀x∈row,gd x)→∀(r d:List (List Iv)),d++r=colsI m →
   Evt (fun k n=>spec_mxTimesIn_L59802 k n m x6 row (d.map fun c=>(inI row c).getD zI) x18 x19 x20 (m.length:Int) d.length) (if (r.all fun c=>(inI row c).isSome)then .inr (m,x6,(colsI m).map fun c=>(inI row c).getD zI,x18,x19,x20,())else .inl ([],false)):=by
  intro row x6 x18 x19 x20 hrl hrg r
  induction r with
  | nil =>
   intro d h
   refine Evt.step (fun k n=>spec_mxTimesIn_L59802.eq_2 k _ _ _ _ _ _ _ _ _ n) ?_
   rw [List.append_nil]at h
   rw [h,colsI_len]
   exact Evt.cfalse (decide_eq_false (by omega)) .pure
  | cons e r ih =>
   intro d h
   obtain⟨he,hd⟩:=colsI_at h
   refine Evt.step (fun k n=>spec_mxTimesIn_L59802.eq_2 k _ _ _ _ _ _ _ _ _ n) (Evt.ctrue (decide_eq_true (by omega)) ?_)
   have ih:=ih (d ++ [e]) (by simpa using h)
   rw [←len_next (e:=e) (r:=r) (by rw [h,colsI_len];simp only [lenB];omega)]at ih
   have hi:=tiSpec_in (m:=m) (row:=row) (hg' d.length hd) hrg hrl (by simp only [lenB];omega) x6 (d.map fun c=>(inI row c).getD zI) x18 x19 x20 (m.length:Int) (d.length:Int) row m [] [] zI rfl rfl rfl zI_gd
   simp only [List.length_nil]at hi
   have e4:foldT (some zI) row (m.map fun q=>q.getD d.length zI)=inI row e:=by rw [he];rfl
   rw [e4]at hi
   rw [List.map_append,List.map_cons]at ih
   cases ho:inI row e with
   | none =>
    rw [ho]at hi
    simp only [List.all_cons,ho,Option.isSome_none,Bool.false_and]
    exact Evt.inl (Evt.diag hi) .pure
   | some t =>
    rw [ho]at ih hi
    simp only [List.all_cons,ho,Option.isSome_some,Bool.true_and]
    exact Evt.inr (Evt.diag hi) (Evt.ctrue (by simp;omega) ih)
 have key:∀(r d:List Pt),d++r=a→Evt (fun k n=>spec_mxTimesIn_L58 k n m (d.map fun r=>(rowI m r).getD []) a (a.length:Int) d.length) (if (r.all fun r=>(rowI m r).isSome)then .inr (a.map fun r=>(rowI m r).getD [],())else .inl ([],false)):=by
  intro r
  induction r with
  | nil =>
   intro d h
   refine Evt.step (fun k n=>spec_mxTimesIn_L58.eq_2 k _ _ _ _ _ n) ?_
   rw [List.append_nil]at h
   subst h
   exact Evt.rng0 .pure
  | cons e r ih =>
   intro d h
   refine Evt.step (fun k n=>spec_mxTimesIn_L58.eq_2 k _ _ _ _ _ n) ?_
   have hme:e∈a:=by rw [←h];simp
   have hge:=hg e hme
   have hi:=inner e (d.map fun r=>(rowI m r).getD []) a (a.length:Int) (d.length:Int) (by omega) hge.2 (colsI m) [] rfl
   simp only [List.length_nil,List.map_nil]at hi
   have ih:=ih (d ++ [e]) (by simpa using h)
   rw [←len_next (r:=r) (by rw [h];simp only [lenB];omega)]at ih
   have hxl:=congrArg List.length h
   simp at hxl
   subst h
   refine Evt.ctrue mid_lt (Evt.ctrue mid_ge (Evt.ctrue mid_lt ?_))
   rw [mid_get]
   rw [List.map_append,List.map_cons]at ih
   cases hall:(colsI m).all fun c=>(inI e c).isSome with
   | false =>
    rw [hall]at hi
    have hmr:rowI m e=none:=by unfold rowI;rw [hall];rfl
    simp only [List.all_cons,hmr,Option.isSome_none,Bool.false_and]
    exact Evt.inl (Evt.diag hi) .pure
   | true =>
    rw [hall]at hi
    have hmr:rowI m e=some ((colsI m).map fun c=>(inI e c).getD zI):=by unfold rowI;rw [hall];rfl
    rw [hmr]at ih
    simp only [List.all_cons,hmr,Option.isSome_some,Bool.true_and]
    exact Evt.inr (Evt.diag hi) (Evt.ctrue (by simp;omega) ih)
 have h0:=key a [] rfl
 simp only [List.length_nil,List.map_nil]at h0
 refine Evt.eq (f:=fun k q=>_) ?_ (fun k q=>by rw [spec_mxTimesIn])
 cases hall:a.all fun r=>(rowI m r).isSome with
 | true=>rw [hall]at h0;exact Evt.inr (Evt.diag h0) .pure
 | false=>rw [hall]at h0;exact Evt.inl (Evt.diag h0) .pure

theorem tiSpec_ev{a:List Pt}{m:List (List Iv)}(hb:a.length<274877906944)(hm:∀r∈a,r.length<lenB)(hb':m.length<274877906944)(hm':∀r∈m,r.length<lenB):Evt (fun k _=>spec_TimesIntervals k a m) (tiV a m):=by
 refine Evt.eq (f:=fun k q=>_) ?_ (fun k q=>by rw [spec_TimesIntervals])
 refine Evt.bind (mxGood_ev hb hm) ?_
 unfold tiV
 cases ht:tab gd a with
 | false=>exact Evt.ctrue rfl .pure
 | true =>
 refine Evt.cfalse rfl (Evt.bind (mxFits_ev hb' hm') ?_)
 cases ht':tab ivGd m with
 | false=>exact Evt.ctrue rfl .pure
 | true =>
 refine Evt.cfalse rfl ?_
 by_cases hl : ¬ a.length=m.length
 ·refine Evt.ctrue (by rw [bne_iff_ne];omega) ?_
  rw [decide_eq_false hl]
  exact .pure
 have hl:=Decidable.not_not.1 hl
 refine Evt.cfalse (by simp [hl]) ?_
 rw [decide_eq_true hl]
 exact Evt.bind (mxTimesIn_ev hb hm hb' hm' ht ht' hl) .pure

def Fl(b0 c:Bool)(o:Option Iv)(v:Iv):Prop:=gdI v∧c=(b0&&o.isSome)∧(c=true→o=some v)

theorem tiImpl_in{a:List Pt}{m:List (List Iv)}{row:Pt}{c i:Nat}(hi:i<a.length)(hrow:a.getD (Int.toNat (i:Int)) []=row)(hm:∀r∈m,c<r.length∧∀x∈r,ivGd x)(hr:∀x∈row,gd x)(hl:row.length=m.length)(hb:row.length<lenB)(b0:Bool)(x7:List (List Iv))(x9:List Iv)(x16 x17 x21 x22:Int) :
  ∀(r:Pt) (r2:List (List Iv)) (d:Pt) (d2:List (List Iv)) (f0:Bool) (o:Option Iv) (s:Iv),d++r=row→d2++r2=m→d.length=d2.length→Fl b0 f0 o s →
  ∃f1 s1,Fl b0 f1 (foldT o r (r2.map fun q=>q.getD c zI)) s1∧Evt (fun k n=>impl_timesIntervals_L128346522 k n a m f0 x7 (i:Int) x9 (c:Int) s d.length x16 x17 x21 x22) (.inr (a,m,f1,x7,(i:Int),x9,s1,x16,x17,x21,x22,())):=by
 intro r
 induction r with
 | nil =>
  intro r2 d d2 f0 o s h h2 hd hs
  have e:foldT o [] (r2.map fun q=>q.getD c zI)=o:=by cases r2 <;> rfl
  rw [e]
  refine⟨f0,s,hs,Evt.step (fun k n=>impl_timesIntervals_L128346522.eq_2 k _ _ _ _ _ _ _ _ _ _ _ _ _ n) ?_⟩
  rw [List.append_nil]at h
  exact Evt.cfalse (decide_eq_false (by rw [h];omega)) .pure
 | cons e r ih =>
  intro r2 d d2 f0 o s h h2 hd hs
  have hxl:=congrArg List.length h
  have hyl:=congrArg List.length h2
  simp at hxl hyl
  cases r2 with
  | nil=>simp at hyl;omega
  | cons f r2 =>
  have hf:=hm f (by rw [←h2];simp)
  have he:=hr e (by rw [←h];simp)
  have e1:row.getD (Int.toNat (d.length:Int)) (0,0)=e:=by rw [←h];exact mid_get
  have e2:m.getD (Int.toNat (d.length:Int)) []=f:=by rw [←h2,hd];exact mid_get
  obtain⟨v1,g1,w1,ev1⟩:=multiply_ev (b:=f0) (i:=(e,e)) (k':=f.getD c zI) ⟨he,he⟩ (ivGd.gdI (hf.2 _ (getI_mem hf.1)))
  obtain⟨v2,g2,w2,ev2⟩:=addI_ev (b:=f0&&(mulO (e,e) (f.getD c zI)).isSome) (i:=s) (k':=v1) hs.1 g1
  have hfl:Fl b0 (f0&&(mulO (e,e) (f.getD c zI)).isSome&&(addO s v1).isSome) (stT o e (f.getD c zI)) v2:=by
   obtain⟨q1,q2,q3⟩:=hs
   refine⟨g2,?_,?_⟩
   ·cases f0 with
    | true =>
     rw [q3 rfl]at q2 ⊢
     simp only [Option.isSome_some,Bool.and_true]at q2
     subst q2
     cases hmu:mulO (e,e) (f.getD c zI)with
     | none=>rw [stT_some,hmu];rfl
     | some p =>
      have:=w1 rfl (by rw [hmu];rfl)
      rw [hmu]at this
      cases this
      rw [stT_some,hmu]
      rfl
    | false =>
     simp only [Bool.false_and]
     cases o with
     | none=>simp [stT]
     | some z=>simp at q2;simp [q2]
   ·intro hc
    simp only [Bool.and_eq_true]at hc
    obtain⟨⟨c1,c2⟩,c3⟩:=hc
    subst c1
    rw [q3 rfl]
    have w1:=w1 rfl c2
    have w2:=w2 (by rw [c2];rfl) c3
    rw [stT_some,w1]
    exact w2
  obtain⟨f1,s1,k1,k2⟩:=ih r2 (d ++ [e]) (d2 ++ [f]) _ _ v2 (by simpa using h) (by simpa using h2) (by simp [hd]) hfl
  refine⟨f1,s1,k1,Evt.step (fun k n=>impl_timesIntervals_L128346522.eq_2 k _ _ _ _ _ _ _ _ _ _ _ _ _ n) ?_⟩
  rw [←len_next (r:=r) (by rw [h];exact hb)]at k2
  refine Evt.ctrue (decide_eq_true (by omega)) (Evt.ctrue mid_ge (Evt.ctrue (decide_eq_true (by omega)) (Evt.ctrue mid_ge ?_)))
  rw [hrow]
  refine Evt.ctrue (decide_eq_true (by omega)) (Evt.bind (Evt.const (r:=(e,e)) (by rw [e1];rfl)) (Evt.ctrue mid_ge (Evt.ctrue (decide_eq_true (by omega)) (Evt.ctrue mid_ge ?_))))
  rw [e2]
  have e3:Int.toNat (c:Int)=c:=by omega
  rw [e3]
  exact Evt.ctrue (decide_eq_true (by have:=hf.1;omega)) (Evt.bind ev1 (Evt.bind ev2 k2))

theorem timesIn_ev{a:List Pt}{m:List (List Iv)}(hb:a.length<lenB)(hm:∀r∈a,r.length<lenB)(hb':m.length<lenB)(hm':∀r∈m,r.length<lenB)(ht:tab gd a=true)(ht':tab ivGd m=true)(hl:a.length=m.length):Evt (fun k _=>impl_timesIntervals k a m) (if (a.all fun r=>(rowI m r).isSome)then(a.map fun r=>(rowI m r).getD [],true)else([],false)):=by
 have hg:=tab_gd ht
 obtain⟨n,hn,hsq⟩:=sq_tab ht'
 have hg':∀j,j<m.length→∀r∈m,j<r.length∧∀x∈r,ivGd x:=fun j hj r hr=>⟨by rw [(hsq.2 r hr).1,←hsq.1];exact hj,(hsq.2 r hr).2⟩
 have inner:∀(row:Pt) (i:Nat) (x7:List (List Iv)) (x16 x17:Int),a.getD (Int.toNat (i:Int)) []=row→i<a.length→row∈a→∀(b0:Bool) (r d:List (List Iv)) (c:Bool) (o:List Iv),d++r=colsI m→Flag (fun c=>inI row c) zI b0 d c o →
   ∃c' o',Flag (fun c=>inI row c) zI b0 (colsI m) c' o'∧Evt (fun k n=>impl_timesIntervals_L125338 k n a m c x7 (i:Int) o x16 x17 (m.length:Int) d.length) (.inr (a,m,c',x7,o',x16,x17,())):=by
  intro row i x7 x16 x17 hrow hi hra b0 r
  have hgr:=hg row hra
  induction r with
  | nil =>
   intro d c o h hf
   rw [List.append_nil]at h
   subst h
   refine⟨c,o,hf,Evt.step (fun k n=>impl_timesIntervals_L125338.eq_2 k _ _ _ _ _ _ _ _ _ _ n) ?_⟩
   rw [colsI_len]
   exact Evt.cfalse (decide_eq_false (by omega)) .pure
  | cons e r ih =>
   intro d c o h hf
   obtain⟨he,hd⟩:=colsI_at h
   have hcm:=hg' d.length hd
      -- the first product
   have hdm:0<m.length:=by omega
   obtain⟨f0,mr,hm0⟩:=List.exists_cons_of_length_pos hdm
   obtain⟨x0,rr,hr0⟩:=List.exists_cons_of_length_pos (show 0<row.length by have:=hgr.1;omega)
   have hf0:=hcm f0 (by rw [hm0];simp)
   have hx0:=hgr.2 x0 (by rw [hr0];simp)
   obtain⟨v1,g1,w1,ev1⟩:=multiply_ev (b:=c) (i:=(x0,x0)) (k':=f0.getD d.length zI) ⟨hx0,hx0⟩ (ivGd.gdI (hf0.2 _ (getI_mem hf0.1)))
   have hfl:Fl c (c&&(mulO (x0,x0) (f0.getD d.length zI)).isSome) (stT (some zI) x0 (f0.getD d.length zI)) v1:=by
    have ez:stT (some zI) x0 (f0.getD d.length zI)=mulO (x0,x0) (f0.getD d.length zI):=by
     unfold stT
     cases hmu:mulO (x0,x0) (f0.getD d.length zI)with
     | none=>rfl
     | some p=>exact addO_zero (mulO_gd hmu)
    rw [ez]
    refine⟨g1,rfl,fun hc => ?_⟩
    simp only [Bool.and_eq_true]at hc
    exact w1 hc.1 hc.2
   obtain⟨f1,s1,k1,k2⟩:=tiImpl_in (a:=a) (m:=m) (row:=row) (c:=d.length) (i:=i) hi hrow hcm hgr.2 (by omega) (by omega) c x7 o x16 x17 (m.length:Int) (d.length:Int) rr mr [x0] [f0] _ _ v1 (by rw [hr0];rfl) (by rw [hm0];rfl) rfl hfl
   have hin:foldT (stT (some zI) x0 (f0.getD d.length zI)) rr (mr.map fun q=>q.getD d.length zI)=inI row e:=by
    rw [he,hr0]
    unfold inI colI
    rw [hm0]
    rfl
   rw [hin]at k1
   obtain⟨q1,q2,q3⟩:=k1
   have hst:=Flag.step (e:=e) (v:=s1) hf (by
    intro hc hs
    exact q3 (by rw [q2,hc,hs];rfl))
   rw [←q2]at hst
   obtain⟨c',o',p1,p2⟩:=ih (d ++ [e]) _ _ (by simpa using h) hst
   refine⟨c',o',p1,?_⟩
   refine Evt.step (fun k n=>impl_timesIntervals_L125338.eq_2 k _ _ _ _ _ _ _ _ _ _ n) ?_
   rw [←len_next (r:=r) (by rw [h,colsI_len];exact hb')]at p2
   have hol:=hf.1
   refine Evt.ctrue (decide_eq_true (by omega)) (Evt.ctrue mid_ge (Evt.ctrue (decide_eq_true (by omega)) ?_))
   have e5:row.getD 0 (0,0)=x0:=by rw [hr0];rfl
   have e6:m.getD 0 []=f0:=by rw [hm0];rfl
   rw [hrow,e6]
   refine Evt.ctrue (decide_eq_true (by omega)) (Evt.bind (Evt.const (r:=(x0,x0)) (by rw [e5];rfl)) (Evt.ctrue (decide_eq_true (by omega)) (Evt.ctrue mid_ge ?_)))
   have e3:Int.toNat (d.length:Int)=d.length:=by omega
   rw [e3]
   refine Evt.ctrue (decide_eq_true (by have:=hf0.1;omega)) (Evt.bind ev1 ?_)
   simp only [List.length_cons,List.length_nil]at k2
   exact Evt.inr (Evt.diag k2) (Evt.ctrue (by simp;omega) p2)
 have key:∀(r d:List Pt) (c:Bool) (o:List (List Iv)),d++r=a→Flag (rowI m) [] true d c o →
   ∃c' o',Flag (rowI m) [] true a c' o'∧Evt (fun k n=>impl_timesIntervals_L122 k n a m c o (a.length:Int) d.length) (.inr (c',o',())):=by
  intro r
  induction r with
  | nil =>
   intro d c o h hf
   rw [List.append_nil]at h
   subst h
   exact⟨c,o,hf,Evt.step (fun k n=>impl_timesIntervals_L122.eq_2 k _ _ _ _ _ _ n) (Evt.cfalse (decide_eq_false (by omega)) .pure)⟩
  | cons e r ih =>
   intro d c o h hf
   have hxl:=congrArg List.length h
   simp at hxl
   have hme:e∈a:=by rw [←h];simp
   obtain⟨c1,o1,⟨f1,f2,f3⟩,q0⟩:=inner e d.length o (a.length:Int) (d.length:Int) (by rw [←h];exact mid_get) (by omega) hme c (colsI m) [] c [] rfl Flag.nil
   simp only [List.length_nil]at q0
   have hst:=Flag.step (e:=e) (v:=o1) hf (by
    intro hc hs
    subst hc
    unfold rowI at hs ⊢
    split at hs
    ·rename_i hall
     rw [if_pos hall,←f3 (by rw [f2,hall];rfl)]
    ·cases hs)
   have e2:(c&&(rowI m e).isSome)=c1:=by
    rw [f2]
    unfold rowI
    cases (colsI m).all fun c=>(inI e c).isSome <;> rfl
   rw [e2]at hst
   obtain⟨c',o',q1,q2⟩:=ih (d ++ [e]) c1 (o ++ [o1]) (by simpa using h) hst
   refine⟨c',o',q1,Evt.step (fun k n=>impl_timesIntervals_L122.eq_2 k _ _ _ _ _ _ n) ?_⟩
   rw [←len_next (r:=r) (by rw [h];exact hb)]at q2
   have hol:=hf.1
   exact Evt.ctrue (decide_eq_true (by omega)) (Evt.inr (Evt.diag q0) (Evt.ctrue (by have:=(hg e hme).1;simp;omega) q2))
 obtain⟨c',o',⟨f1,f2,f3⟩,q2⟩:=key a [] true [] rfl Flag.nil
 rw [Bool.true_and]at f2
 simp only [List.length_nil]at q2
 refine Evt.eq (f:=fun k q=>_) ?_ (fun k q=>by rw [impl_timesIntervals])
 refine Evt.inr (Evt.diag q2) ?_
 rw [←f2]
 cases c' with
 | true=>rw [←f3 rfl];exact Evt.cfalse rfl .pure
 | false=>exact Evt.ctrue rfl .pure

theorem tiImpl_ev{a:List Pt}{m:List (List Iv)}(hb:a.length<lenB)(hm:∀r∈a,r.length<lenB)(hb':m.length<lenB)(hm':∀r∈m,r.length<lenB):Evt (fun k _=>impl_TimesIntervals k a m) (tiV a m):=by
 refine Evt.eq (f:=fun k q=>_) ?_ (fun k q=>by rw [impl_TimesIntervals])
 refine Evt.bind (isTable_ev hb hm) ?_
 unfold tiV
 cases ht:tab gd a with
 | false=>exact Evt.ctrue rfl .pure
 | true =>
 refine Evt.cfalse rfl (Evt.bind (isIntervalTable_ev hb' hm') ?_)
 cases ht':tab ivGd m with
 | false=>exact Evt.ctrue rfl .pure
 | true =>
 refine Evt.cfalse rfl ?_
 by_cases hl : ¬ a.length=m.length
 ·refine Evt.ctrue (by rw [bne_iff_ne];omega) ?_
  rw [decide_eq_false hl]
  exact .pure
 have hl:=Decidable.not_not.1 hl
 refine Evt.cfalse (by simp [hl]) ?_
 rw [decide_eq_true hl]
 exact Evt.bind (timesIn_ev hb hm hb' hm' ht ht' hl) .pure

theorem tiV_len{a:List Pt}{m:List (List Iv)}:(tiV a m).1.length≤3∧∀r∈(tiV a m).1,r.length≤3:=by
 unfold tiV
 split
 ·rename_i h
  simp only [Bool.and_eq_true,decide_eq_true_eq]at h
  have ha:a.length≤3:=by
   have:=h.1
   unfold tab at this
   simp only [Bool.and_eq_true,decide_eq_true_eq]at this
   exact this.1.2
  refine⟨by simp;exact ha,?_⟩
  intro r hr
  obtain⟨x,_,rfl⟩:=List.mem_map.1 hr
  unfold rowI
  split
  ·simp [colsI_len];omega
  ·simp
 ·simp

end Go.Ev.G

namespace Go.Ev.G
open Go Go.Ev
set_option maxRecDepth 100000

def invO(n:Nat)(m:List Pt)(p:Nat):Option (List Pt):=match detO n m with
 | none=>none
 | some d=>if (adW n m).2 then(if d.1=0 then none else allO (rwO d p) [] (adW n m).1)else none
theorem invV_oL{n p:Nat}{m:List Pt}:invV n m p=oL (invO n m p):=by
 unfold invO invV
 cases detO n m with
 | none=>rfl
 | some d =>
  simp only
  cases (adW n m).2 with
  | false=>rfl
  | true =>
   simp only [if_true]
   by_cases hz:d.1=0
   ·rw [if_pos hz,if_pos hz];rfl
   ·rw [if_neg hz,if_neg hz]
end Go.Ev.G

namespace Go.Ev.G
open Go Go.Ev
set_option maxRecDepth 100000

theorem subO_iv{i k t:Iv}(hi:ivGd i)(hk:ivGd k)(h:subO i k=some t):ivGd t:=by
 unfold subO at h
 refine addO_iv hi ⟨gd_neg hk.2.1,gd_neg hk.1,?_⟩ h
 have:=hk.2.2
 show sv (ng k.2)≤sv (ng k.1)
 unfold ng
 rw [sv_neg,sv_neg]
 omega

end Go.Ev.G

namespace Go.Ev.G
open Go Go.Ev
set_option maxRecDepth 100000

def riV(m:List Pt)(p:Int):List Pt×Bool:=if tab gd m&&decide (0≤p∧p≤24)then invV (m.length - 1) m p.toNat else([],false)
theorem riV_small(m:List Pt)(p:Int):small3 (riV m p).1:=by
 unfold riV
 split
 ·rename_i h
  rw [Bool.and_eq_true]at h
  obtain⟨n,hn,hsq⟩:=sq_tab h.1
  have e:m.length - 1=n:=by have:=hsq.1;omega
  rw [e]
  exact invV_small hn hsq
 ·exact⟨by simp,by simp⟩
end Go.Ev.G

namespace Go.Ev.G
open Go Go.Ev
set_option maxRecDepth 100000

structure Sm(m:List Pt):Prop where
 l:m.length≤1000
 r:∀r∈m,r.length≤1000
theorem Sm.of{m:List Pt}(h:small4 m):Sm m:=⟨by have:=h.1;omega,fun r hr=>by have:=h.2 r hr;omega⟩
theorem Sm.lb{m:List Pt}(h:Sm m):m.length<lenB:=by have:=h.l;simp only [lenB];omega
theorem Sm.lr{m:List Pt}(h:Sm m):∀r∈m,r.length<lenB:=fun r hr=>by have:=h.r r hr;simp only [lenB];omega
theorem Sm.lm{m:List Pt}(h:Sm m):m.length<274877906944:=by have:=h.l;omega
theorem detS_ev{a:List Pt}(h:Sm a):Evt (fun k _=>spec_DeterminantOf k a) (dtV a):=by
 refine Evt.eq (f:=fun k q=>_) ?_ (fun k q=>by rw [spec_DeterminantOf])
 refine Evt.bind (mxGood_ev h.lm h.lr) ?_
 unfold dtV
 cases ht:tab gd a with
 | false=>exact Evt.ctrue rfl .pure
 | true =>
  obtain⟨n,hn,hsq⟩:=sq_tab ht
  have e:a.length - 1=n:=by have:=hsq.1;omega
  rw [e]
  exact Evt.cfalse rfl (Evt.bind (spec_det_ev hn hsq) .pure)
theorem detI_ev{a:List Pt}(h:Sm a):Evt (fun k _=>impl_DeterminantOf k a) (dtV a):=by
 refine Evt.eq (f:=fun k q=>_) ?_ (fun k q=>by rw [impl_DeterminantOf])
 refine Evt.bind (isTable_ev h.lb h.lr) ?_
 unfold dtV
 cases ht:tab gd a with
 | false=>exact Evt.ctrue rfl .pure
 | true =>
  obtain⟨n,hn,hsq⟩:=sq_tab ht
  have e:a.length - 1=n:=by have:=hsq.1;omega
  rw [e]
  obtain⟨v,⟨gv,hz0⟩,hv,hev⟩:=impl_det_ev hn hsq true
  refine Evt.cfalse rfl (Evt.bind hev (.const ?_))
  simp only [Bool.true_and,if_true]
  rw [Bool.true_and]at hz0
  cases hdo:detO n a with
  | some t =>
   have:=hv rfl (by rw [hdo];rfl)
   rw [hdo]at this
   cases this
   rfl
  | none =>
   have hn1:1≤n:=by
    cases n with
    | zero=>simp [detO]at hdo
    | succ n=>omega
   rw [hz0 hn1 (by rw [hdo];rfl)]
   rfl
theorem big_eq(a b:List Int):laws_big a b=some (decide (¬ (a.length≤1048576∧b.length+a.length≤1048576))):=by
 unfold laws_big
 by_cases h1:(a.length:Int)>1048576
 ·rw [decide_eq_true h1,cond_true,decide_eq_true (by omega)]
 ·rw [decide_eq_false h1,cond_false,w64 (by omega) (by omega)]
  congr 1
  rw [decide_eq_decide]
  omega

theorem bytes_of{a:List Int}(h:WfT (.sl (.int .u8)) a):bytesOk a:=by
 intro x hx
 have h2:(decide (IntKind.u8.min≤x)&&decide (x≤IntKind.u8.max))=true:=h.2 x hx
 rw [Bool.and_eq_true]at h2
 have h3:=of_decide_eq_true h2.1
 have h4:=of_decide_eq_true h2.2
 have e1:IntKind.u8.min=0:=rfl
 have e2:IntKind.u8.max=255:=rfl
 rw [e1]at h3
 rw [e2]at h4
 exact⟨h3,h4⟩
end Go.Ev.G

namespace Go.Ev.G
open Go Go.Ev
set_option maxRecDepth 100000

theorem dyTwo_eq(a b:Int×Int):spec_dyTwo a b=some (decide (gd a∧gd b)):=by
 unfold spec_dyTwo
 rw [dyGood_eq,Option.bind_some]
 by_cases ha:gd a
 ·rw [decide_eq_true ha,cond_true,dyGood_eq]
  simp [ha]
 ·rw [decide_eq_false ha,cond_false]
  simp [ha]
theorem compDy_ev{a b:Int×Int}(ha:gd a)(hb:gd b):Evt (fun k _=>spec_CompareDyadic k a b) (cmpI (sv a) (sv b),true):=by
 refine Evt.eq (f:=fun k q=>_) ?_ (fun k q=>by rw [spec_CompareDyadic])
 exact Evt.bind (.const (dyTwo_eq a b)) (Evt.cfalse (by rw [decide_eq_true ⟨ha,hb⟩];rfl) (Evt.bind (dyCmp_ev ha hb) .pure))
theorem same_all{α:Type}{L:Nat→Nat→Int→Option (Bool ⊕ Unit)}{xs:List α}{z:α}{e:Nat→α→Option Bool}(hb:xs.length<lenB)(he:∀x∈xs,Evt (fun k _=>e k x) true)
  (hL:∀k n i,L k (n+1) i=(bif (decide (i<(xs.length:Int)))then(bif (decide (0≤i))then(bif (decide (i<(xs.length:Int)))then(bif (decide (0≤i))then(bif (decide (i<(xs.length:Int)))then(Option.bind (e k (xs.getD (Int.toNat i) z)) fun r=>(bif (!r)then some (Sum.inl false)else L k n (IntKind.wrap .i64 (i+1))))else none)else none)else none)else none)else some (.inr ()))) :
  Evt (fun k n=>L k n 0) (.inr ()):=by
 have key:∀(r d:List α),d++r=xs→Evt (fun k n=>L k n d.length) (.inr ()):=by
  intro r
  induction r with
  | nil =>
   intro d h
   rw [List.append_nil]at h
   subst h
   refine Evt.step (fun k n=>hL k n _) ?_
   rw [mid_end]
   exact Evt.cfalse rfl .pure
  | cons x r ih =>
   intro d h
   subst h
   refine Evt.step (fun k n=>hL k n _) (Evt.ctrue mid_lt (Evt.ctrue mid_ge (Evt.ctrue mid_lt (Evt.ctrue mid_ge (Evt.ctrue mid_lt ?_)))))
   rw [mid_get]
   refine Evt.bind (he x (by simp)) (Evt.cfalse rfl ?_)
   rw [len_next hb]
   exact ih (d ++ [x]) (by simp)
 exact key xs [] rfl
end Go.Ev.G

namespace Go.Ev.G
open Go Go.Ev
set_option maxRecDepth 100000

def lowT(m:List (List Iv)):List Pt:=m.map fun r=>r.map (·.1)
def highT(m:List (List Iv)):List Pt:=m.map fun r=>r.map (·.2)
theorem endsRow_ev{row:List Iv}(hb:row.length≤1000)(x1:List Int)(x8:Iv)(x11 x12:Bool)(x14 x15:List Pt)(x104:List (List Iv))(x105 x106:Int):∀(r d:List Iv),d++r=row →
  Evt (fun k n=>laws_FnTablesIn_L67021210 k n x1 x8 x11 x12 x14 x15 (d.map (·.1)) (d.map (·.2)) x104 x105 x106 row (row.length:Int) d.length) (.inr (x1,x8,x11,x12,x14,x15,row.map (·.1),row.map (·.2),x104,x105,x106,()))
 | [],d,h=>by
  rw [List.append_nil]at h
  subst h
  exact Evt.step (fun k n=>laws_FnTablesIn_L67021210.eq_2 k _ _ _ _ _ _ _ _ _ _ _ _ _ _ n) (Evt.cfalse mid_end .pure)
 | e::r,d,h=>by
  have hl:=congrArg List.length h
  simp only [List.length_append,List.length_cons]at hl
  refine Evt.step (fun k n=>laws_FnTablesIn_L67021210.eq_2 k _ _ _ _ _ _ _ _ _ _ _ _ _ _ n) ?_
  have ih:=endsRow_ev hb x1 x8 x11 x12 x14 x15 x104 x105 x106 r (d ++ [e]) (by simpa using h)
  subst h
  refine Evt.ctrue mid_lt (Evt.ctrue mid_ge (Evt.ctrue mid_lt ?_))
  rw [mid_get]
  refine Evt.ctrue (decide_eq_true (by simp;omega)) (Evt.ctrue (decide_eq_true (by simp;omega)) ?_)
  rw [len_next (e:=e) (r:=r) (by simp only [List.length_append,List.length_cons,lenB];omega)]
  simpa using ih
theorem ends_ev{m:List (List Iv)}(hb:m.length≤1000)(hr:∀r∈m,r.length≤1000)(x1:List Int)(x8:Iv)(x11 x12:Bool):∀(r d:List (List Iv)),d++r=m →
  Evt (fun k n=>laws_FnTablesIn_L65450 k n x1 x8 x11 x12 (lowT d) (highT d) m (m.length:Int) d.length) (.inr (x1,x8,x11,x12,lowT m,highT m,()))
 | [],d,h=>by
  rw [List.append_nil]at h
  subst h
  exact Evt.step (fun k n=>laws_FnTablesIn_L65450.eq_2 k _ _ _ _ _ _ _ _ _ n) (Evt.cfalse mid_end .pure)
 | e::r,d,h=>by
  have hl:=congrArg List.length h
  simp only [List.length_append,List.length_cons]at hl
  have ih:=ends_ev hb hr x1 x8 x11 x12 r (d ++ [e]) (by simpa using h)
  have he:=hr e (by rw [←h];simp)
  refine Evt.step (fun k n=>laws_FnTablesIn_L65450.eq_2 k _ _ _ _ _ _ _ _ _ n) ?_
  subst h
  refine Evt.ctrue mid_lt (Evt.ctrue mid_ge (Evt.ctrue mid_lt ?_))
  rw [mid_get]
  have h1:=endsRow_ev (row:=e) he x1 x8 x11 x12 (lowT d) (highT d) (d++e::r) ((d++e::r).length:Int) (d.length:Int) e [] rfl
  refine Evt.inr (Evt.diag h1) ?_
  refine Evt.ctrue (decide_eq_true (by simp [lowT];omega)) (Evt.ctrue (decide_eq_true (by simp [highT];omega)) ?_)
  simp only
  rw [len_next (e:=e) (r:=r) (by simp only [List.length_append,List.length_cons,lenB];omega)]
  have e1:lowT (d ++ [e])=lowT d ++ [e.map (·.1)]:=by simp [lowT]
  have e2:highT (d ++ [e])=highT d ++ [e.map (·.2)]:=by simp [highT]
  rw [e1,e2]at ih
  exact ih
theorem pOrder_ev{a b:Int×Int}(ha:gd a)(hb:gd b):Evt (fun k _=>laws_pOrder k a b) (cmpI (sv a) (sv b)):=by
 refine Evt.eq (f:=fun k q=>_) ?_ (fun k q=>by rw [laws_pOrder])
 exact Evt.bind (compDy_ev ha hb) .pure
theorem cmpI_lt'{a b:Int}(h:a≤b):decide (cmpI b a<0)=false:=by
 rw [cmpI_lt]
 exact decide_eq_false (by omega)
theorem cmpI_ge{a b:Int}(h:a<b):decide (cmpI a b≥0)=false:=by
 unfold cmpI
 rw [if_pos h]
 rfl
theorem below_ev{ts:Pt}(hb:ts.length≤1000)(hg:∀x∈ts,gd x∧sv x<sv (1,0))(x1:List Int)(x8:Iv)(x11 x12:Bool)(x138:List (List Pt))(x139 x140:Int):∀(r d:Pt),d++r=ts →
  Evt (fun k n=>laws_FnTablesIn_L4289619934 k n x1 x8 x11 x12 x138 x139 x140 ts (ts.length:Int) d.length) (.inr (x1,x8,x11,x12,x138,x139,x140,()))
 | [],d,h=>by
  rw [List.append_nil]at h
  subst h
  exact Evt.step (fun k n=>laws_FnTablesIn_L4289619934.eq_2 k _ _ _ _ _ _ _ _ _ _ n) (Evt.cfalse mid_end .pure)
 | e::r,d,h=>by
  have hl:=congrArg List.length h
  simp only [List.length_append,List.length_cons]at hl
  have ih:=below_ev hb hg x1 x8 x11 x12 x138 x139 x140 r (d ++ [e]) (by simpa using h)
  obtain⟨ge,he⟩:=hg e (by rw [←h];simp)
  refine Evt.step (fun k n=>laws_FnTablesIn_L4289619934.eq_2 k _ _ _ _ _ _ _ _ _ _ n) ?_
  subst h
  refine Evt.ctrue mid_lt (Evt.ctrue mid_ge (Evt.ctrue mid_lt ?_))
  rw [mid_get]
  refine Evt.bind (pOrder_ev ge one_gd) (Evt.cfalse (cmpI_ge he) ?_)
  rw [len_next (e:=e) (r:=r) (by simp only [List.length_append,List.length_cons,lenB];omega)]
  exact ih

theorem mag_ge(x:Iv):sv (absD x.1)≤sv (magI x)∧sv (absD x.2)≤sv (magI x):=by
 unfold magI
 split <;> omega
theorem sum_le{α:Type}{f g:α→Int}:∀ {l:List α},(∀x∈l,f x≤g x)→(l.map f).sum≤(l.map g).sum
 | [],_=>Int.le_refl _
 | x::l,h=>by
  have h1:=h x (by simp)
  have h2:=sum_le (l:=l) (fun y hy=>h y (by simp [hy]))
  simp only [List.map_cons,List.sum_cons]
  omega
theorem row_below{r:List Iv}{f:Iv→Int×Int}(hf:∀x,sv (absD (f x))≤sv (magI x))(hg:∀x∈r,ivGd x)(hgf:∀x∈r,gd (f x)){s t:Int×Int}(h1:irow r=some s)(h2:orow (r.map f)=some t):gd t∧sv t≤sv s:=by
 unfold irow at h1
 unfold orow at h2
 have e1:=sv_osum (by decide) (fun x hx=>by
  obtain⟨y,hy,rfl⟩:=List.mem_map.1 hx
  exact magI_gd (hg y hy)) h1
 have e2:=sv_osum (by decide) (fun x hx=>by
  rw [List.map_map]at hx
  obtain⟨y,hy,rfl⟩:=List.mem_map.1 hx
  exact absD_gd (hgf y hy)) h2
 refine⟨osum_gd _ _ _ (by decide) h2,?_⟩
 rw [e1,e2,List.map_map,List.map_map,List.map_map]
 have:=sum_le (l:=r) (f:=(sv ∘ absD) ∘ f) (g:=sv ∘ magI) (fun x _=>hf x)
 exact Int.add_le_add_left this _
theorem ends_below{m:List (List Iv)}{f:Iv→Int×Int}(hf:∀x,sv (absD (f x))≤sv (magI x))(hgf:∀r∈m,∀x∈r,gd (f x))(hg:∀r∈m,∀x∈r,ivGd x)(h:shV m=(true,true)):∀x∈(rsV (m.map fun r=>r.map f)).1,gd x∧sv x<sv (1,0):=by
 intro x hx
 unfold rsV at hx
 split at hx
 ·rename_i ht
  rw [Bool.and_eq_true,List.all_eq_true]at ht
  simp only [List.map_map,List.mem_map]at hx
  obtain⟨r,hr,rfl⟩:=hx
  obtain⟨t,e2⟩:=Option.isSome_iff_exists.1 (ht.2 _ (List.mem_map_of_mem (f:=fun r=>r.map f) hr))
  unfold shV at h
  split at h
  ·rename_i hs
   rw [List.all_eq_true]at hs
   obtain⟨s,e1⟩:=Option.isSome_iff_exists.1 (hs r hr)
   simp only [Prod.mk.injEq,and_true]at h
   rw [List.all_eq_true]at h
   have hb:=h r hr
   unfold below1 at hb
   rw [e1]at hb
   have hb:=of_decide_eq_true hb
   simp only [Option.getD_some]at hb
   have e2':orow (r.map f)=some t:=e2
   obtain⟨g,hle⟩:=row_below hf (hg r hr) (hgf r hr) e1 e2'
   simp only [Function.comp,e2',Option.getD_some]
   exact⟨g,by omega⟩
  ·cases h
 ·simp at hx
end Go.Ev.G

namespace Go.Ev.G
open Go Go.Ev
set_option maxRecDepth 100000

theorem foldI_iv:∀(r:List (Option Iv)) (c:Nat) (S v:Iv),ivGd S→(∀o∈r,∀t,o=some t→ivGd t)→foldI c (some S) r=some v→ivGd v
 | [],_,S,v,hS,_,h=>by cases h;exact hS
 | o::r,c,S,v,hS,hr,h=>by
  rw [foldI]at h
  cases ho:o with
  | none =>
   rw [ho]at h
   have:accI c (some S) none=none:=rfl
   rw [this,foldI_none]at h
   cases h
  | some p =>
   rw [ho]at h
   have hp:=hr o (by simp) p ho
   cases ha:accI c (some S) (some p)with
   | none=>rw [ha,foldI_none]at h;cases h
   | some W =>
    rw [ha]at h
    refine foldI_iv r (c+1) W v ?_ (fun o' ho'=>hr o' (by simp [ho'])) h
    unfold accI at ha
    simp only at ha
    split at ha
    ·exact subO_iv hS hp ha
    ·exact addO_iv hS hp ha
theorem detIO_iv:∀(n:Nat) (M:List (List Iv)) (v:Iv),sq ivGd (n+1) M→detIO n M=some v→ivGd v
 | 0,M,v,hM,h=>by
  cases h
  have h0:0<M.length:=by rw [hM.1];omega
  have hr:=hM.2 _ (getD_in (z := []) h0)
  exact hr.2 _ (getD_in (by rw [hr.1];omega))
 | n+1,M,v,hM,h=>by
  refine foldI_iv _ 0 zI v zI_iv (fun o ho t ht => ?_) h
  obtain⟨c,hc,rfl⟩:=List.mem_map.1 ho
  unfold tmI at ht
  split at ht
  ·cases ht
  ·exact mulO_iv ht
section
variable {a : List (List Iv)} (hl : a.length ≤ 1000) (hr' : ∀ r ∈ a, r.length ≤ 1000)
include hl hr'
theorem detInS_ev:Evt (fun k _=>spec_DeterminantIn k a) (diV a):=by
 have hb:a.length<274877906944:=by omega
 have hr:∀r∈a,r.length<lenB:=fun r hr=>by have:=hr' r hr;simp only [lenB];omega
 refine Evt.eq (f:=fun k q=>_) ?_ (fun k q=>by rw [spec_DeterminantIn])
 refine Evt.bind (mxFits_ev hb hr) ?_
 unfold diV
 cases ht:tab ivGd a with
 | false=>exact Evt.ctrue rfl .pure
 | true =>
  obtain⟨n,hn,hsq⟩:=sq_tab ht
  have e:a.length - 1=n:=by have:=hsq.1;omega
  rw [e]
  have hd:Evt (fun k _=>spec_mxDetIn k a) (oI (detIO n a)):=Evt.eq (Evt.diag (mxDetIn_ev n a hn hsq)) (fun k q=>by rw [spec_mxDetIn])
  exact Evt.cfalse rfl (Evt.bind hd .pure)
theorem detInI_ev:Evt (fun k _=>impl_DeterminantIn k a) (diV a):=by
 have hr:∀r∈a,r.length<lenB:=fun r hr=>by have:=hr' r hr;simp only [lenB];omega
 refine Evt.eq (f:=fun k q=>_) ?_ (fun k q=>by rw [impl_DeterminantIn])
 refine Evt.bind (isIntervalTable_ev (by simp only [lenB];omega) hr) ?_
 unfold diV
 cases ht:tab ivGd a with
 | false=>exact Evt.ctrue rfl .pure
 | true =>
  obtain⟨n,hn,hsq⟩:=sq_tab ht
  have e:a.length - 1=n:=by have:=hsq.1;omega
  rw [e]
  obtain⟨v,gv,hv,hev⟩:=detIn_ev n a hn hsq true
  have hev:Evt (fun k _=>impl_reckoner_determinantIn k true a) (v,true&&(detIO n a).isSome):=Evt.eq (Evt.diag hev) (fun k q=>by rw [impl_reckoner_determinantIn])
  refine Evt.cfalse rfl (Evt.bind hev (.const ?_))
  unfold impl_reckoner_result
  cases hdo:detIO n a with
  | some t =>
   have:=hv rfl (by rw [hdo];rfl)
   rw [hdo]at this
   cases this
   rfl
  | none=>rfl
theorem shrS_ev:Evt (fun k _=>spec_IsShrinking k a) (isV a):=by
 have hr:∀r∈a,r.length<lenB:=fun r hr=>by have:=hr' r hr;simp only [lenB];omega
 refine Evt.eq (f:=fun k q=>_) ?_ (fun k q=>by rw [spec_IsShrinking])
 refine Evt.bind (mxFits_ev (by omega) hr) ?_
 unfold isV
 cases ht:tab ivGd a with
 | false=>exact Evt.ctrue rfl .pure
 | true=>exact Evt.cfalse rfl (Evt.bind (mxShrinking_ev (by omega) hr (fun r hr=>(tab_all ht r hr).2)) .pure)
theorem shrI_ev:Evt (fun k _=>impl_IsShrinking k a) (isV a):=by
 have hr:∀r∈a,r.length<lenB:=fun r hr=>by have:=hr' r hr;simp only [lenB];omega
 refine Evt.eq (f:=fun k q=>_) ?_ (fun k q=>by rw [impl_IsShrinking])
 refine Evt.bind (isIntervalTable_ev (by simp only [lenB];omega) hr) ?_
 unfold isV
 cases ht:tab ivGd a with
 | false=>exact Evt.ctrue rfl .pure
 | true=>exact Evt.cfalse rfl (Evt.bind (impl_isShrinking_ev ht) .pure)
end
theorem riS_ev{a:List Pt}(h:Sm a)(p:Int):Evt (fun k _=>spec_RoundedInverse k a p) (riV a p):=by
 refine Evt.eq (f:=fun k q=>_) ?_ (fun k q=>by rw [spec_RoundedInverse])
 refine Evt.bind (mxGood_ev h.lm h.lr) ?_
 unfold riV
 cases ht:tab gd a with
 | false=>exact Evt.ctrue rfl .pure
 | true =>
  refine Evt.cfalse rfl (Evt.bind (.const (l1In_eq p 0 24)) ?_)
  by_cases hp:0≤p∧p≤24
  ·obtain⟨n,hn,hsq⟩:=sq_tab ht
   have e:a.length - 1=n:=by have:=hsq.1;omega
   have ep:p=((p.toNat:Nat):Int):=by omega
   have hi:=mxInverse_ev (p:=p.toNat) hn hsq (by omega)
   rw [←ep]at hi
   rw [decide_eq_true hp,e]
   exact Evt.cfalse rfl (Evt.bind hi .pure)
  ·rw [decide_eq_false hp]
   exact Evt.ctrue rfl .pure
theorem riI_ev{a:List Pt}(h:Sm a)(p:Int):Evt (fun k _=>impl_RoundedInverse k a p) (riV a p):=by
 refine Evt.eq (f:=fun k q=>_) ?_ (fun k q=>by rw [impl_RoundedInverse])
 refine Evt.bind (isTable_ev h.lb h.lr) ?_
 unfold riV
 cases ht:tab gd a with
 | false=>exact Evt.ctrue rfl .pure
 | true =>
  refine Evt.cfalse rfl (Evt.bind (.const (isPlaces_eq p)) ?_)
  by_cases hp:0≤p∧p≤24
  ·obtain⟨n,hn,hsq⟩:=sq_tab ht
   have e:a.length - 1=n:=by have:=hsq.1;omega
   have ep:p=((p.toNat:Nat):Int):=by omega
   have hi:=roundedInverse_ev (p:=p.toNat) hn hsq (by omega)
   rw [←ep]at hi
   rw [decide_eq_true hp,e]
   exact Evt.cfalse rfl (Evt.bind hi .pure)
  ·rw [decide_eq_false hp]
   exact Evt.ctrue rfl .pure
theorem pSameSides_ev{x:List Iv}(hb:x.length<lenB):Evt (fun k _=>laws_pSameSides k x x) true:=by
 refine Evt.eq (f:=fun k q=>_) ?_ (fun k q=>by rw [laws_pSameSides])
 exact Evt.cfalse (by simp) (Evt.inr (Evt.diag (same_all (L:=fun k n i=>laws_pSameSides_L58 k n x x (x.length:Int) i) (z:=((0,0),0,0)) (e:=fun _ y=>some (((y.1.1==y.1.1)&&((y.1.2==y.1.2)&&true))&&(((y.2.1==y.2.1)&&((y.2.2==y.2.2)&&true))&&true))) hb (fun y _ => .const (by simp)) (fun k n i=>by rw [laws_pSameSides_L58.eq_2];rfl))) .pure)
theorem pSameGrid_ev{x:List (List Iv)}(hb:x.length<lenB)(hr:∀r∈x,r.length<lenB):Evt (fun k _=>laws_pSameGrid k x x) true:=by
 refine Evt.eq (f:=fun k q=>_) ?_ (fun k q=>by rw [laws_pSameGrid])
 exact Evt.cfalse (by simp) (Evt.inr (Evt.diag (same_all (L:=fun k n i=>laws_pSameGrid_L58 k n x x (x.length:Int) i) (z := []) (e:=fun k y=>laws_pSameSides k y y) hb (fun y hy=>pSameSides_ev (hr y hy)) (fun k n i=>by rw [laws_pSameGrid_L58.eq_2]))) .pure)

structure EndF(f:Iv→Int×Int):Prop where
 mem:∀x,ivGd x→memD (f x) x
 mag:∀x,sv (absD (f x))≤sv (magI x)
 g:∀x,ivGd x→gd (f x)
 z:f zI=(0,0)
theorem endLo:EndF (·.1):=⟨fun _ h=>memD_self h (.inl rfl),fun x=>(mag_ge x).1,fun _ h=>h.1,rfl⟩
theorem endHi:EndF (·.2):=⟨fun _ h=>memD_self h (.inr rfl),fun x=>(mag_ge x).2,fun _ h=>h.2.1,rfl⟩
theorem end_mem{f:Iv→Int×Int}(hf:EndF f){m:List (List Iv)}(hg:∀r∈m,∀x∈r,ivGd x):memT (m.map fun r=>r.map f) m:=by
 intro i j
 have e:(((m.map fun r=>r.map f).getD i []).getD j (0,0))=f ((m.getD i []).getD j zI):=by
  have e1:(m.map fun r=>r.map f).getD i []=(m.getD i []).map f:=by
   rw [List.getD_eq_getElem?_getD,List.getElem?_map,List.getD_eq_getElem?_getD]
   cases m[i]? <;> rfl
  rw [e1]
  generalize m.getD i []=row
  rw [List.getD_eq_getElem?_getD,List.getElem?_map,List.getD_eq_getElem?_getD]
  cases row[j]? with
  | none=>exact hf.z.symm
  | some x=>rfl
 rw [e]
 refine hf.mem _ ?_
 by_cases hi:i<m.length
 ·by_cases hj:j<(m.getD i []).length
  ·exact hg _ (getD_in (z := []) hi) _ (getD_in hj)
  ·rw [List.getD_eq_getElem?_getD,List.getElem?_eq_none (by omega)];exact zI_iv
 ·have e0:m.getD i [] = []:=by rw [List.getD_eq_getElem?_getD,List.getElem?_eq_none (by omega)];rfl
  rw [e0];exact zI_iv
theorem end_sm{f:Iv→Int×Int}{m:List (List Iv)}(hm:smallV m):Sm (m.map fun r=>r.map f):=⟨by have:=hm.1;simp;omega,fun r hr=>by
 obtain⟨q,hq,rfl⟩:=List.mem_map.1 hr
 have:=hm.2 q hq
 simp;omega⟩
theorem tables_ev{m:List (List Iv)}{iv:Iv}(hm:smallV m)(ht:tab ivGd m=true)(hd:detIO (m.length - 1) m=some iv)(x1:List Int){ts:List (List Pt)}(hts:ts.length≤5)(hall:∀t∈ts,∃f,EndF f∧t=m.map fun r=>r.map f):∀(r d:List (List Pt)),d++r=ts →
  Evt (fun k n=>laws_FnTablesIn_L65454 k n x1 iv (isV m).2 (isV m).1 ts (ts.length:Int) d.length) (.inr (x1,()))
 | [],d,h=>by
  rw [List.append_nil]at h
  subst h
  exact Evt.step (fun k n=>laws_FnTablesIn_L65454.eq_2 k _ _ _ _ _ _ _ n) (Evt.cfalse mid_end .pure)
 | e::r,d,h=>by
  have hl:=congrArg List.length h
  simp only [List.length_append,List.length_cons]at hl
  have ih:=tables_ev hm ht hd x1 hts hall r (d ++ [e]) (by simpa using h)
  obtain⟨f,hf,he⟩:=hall e (by rw [←h];simp)
  have hg:=fun r hr=>(tab_all ht r hr).2
  have hsm:Sm e:=by rw [he];exact end_sm hm
  obtain⟨n,hn,hsq⟩:=sq_tab ht
  have en:m.length - 1=n:=by have:=hsq.1;omega
  rw [en]at hd
  have giv:=detIO_iv n m iv hsq hd
  refine Evt.step (fun k n=>laws_FnTablesIn_L65454.eq_2 k _ _ _ _ _ _ _ n) ?_
  rw [←len_next (e:=e) (r:=r) (by rw [h];simp only [lenB];omega)]at ih
  refine Evt.ctrue (by rw [←h];exact mid_lt) (Evt.ctrue mid_ge (Evt.ctrue (by rw [←h];exact mid_lt) ?_))
  have eg:ts.getD (Int.toNat (d.length:Int)) []=e:=by rw [←h];exact mid_get
  rw [eg]
  refine Evt.bind (detI_ev hsm) (Evt.bind (detS_ev hsm) ?_)
  refine Evt.inr (y:=(x1,iv,(isV m).2,(isV m).1,e,ts,(ts.length:Int),(d.length:Int),())) ?_ ?_
  ·refine Evt.cfalse (by simp) (Evt.cfalse (by simp) (Evt.ite (fun hk => ?_) (fun _ => .pure)))
   obtain⟨hte,hde⟩:=dt_some (m:=e) (d:=(dtV e).1) (by rw [←hk])
   have el:e.length=m.length:=by rw [he];simp
   rw [el,en]at hde
   have hsqe:sq gd (n+1) e:=⟨by rw [el];exact hsq.1,fun q hq=>by
    have:=(tab_iff hte).2 q hq
    exact⟨by rw [this.1,el];exact hsq.1,this.2⟩⟩
   have gde:=detO_gd n e _ hsqe hde
   have hin:=det_in n e m _ iv hsqe hsq (by rw [he];exact end_mem hf hg) hde hd
   exact Evt.bind (pOrder_ev gde giv.1) (Evt.cfalse (cmpI_lt' hin.1) (Evt.bind (pOrder_ev giv.2.1 gde) (Evt.cfalse (cmpI_lt' hin.2) .pure)))
  ·refine Evt.ite (fun h11=>Evt.ite (fun h12 => ?_) (fun _=>ih)) (fun _=>ih)
   have h11:(isV m).2=true:=h11
   have h12:(isV m).1=true:=h12
   have hsh:shV m=(true,true):=by
    unfold isV at h11 h12
    rw [if_pos ht]at h11 h12
    exact Prod.ext h12 h11
   have hbel:=ends_below (f:=f) hf.mag (fun r hr x hx=>hf.g x (hg r hr x hx)) hg hsh
   rw [←he]at hbel
   have hrl:(rsV e).1.length≤1000:=by
    have:=hsm.l
    unfold rsV
    split
    ·simp;omega
    ·simp
   refine Evt.bind (impl_rowSums_ev hsm.lb hsm.lr) (Evt.bind (spec_rowSums_ev hsm.lm hsm.lr) (Evt.cfalse (by simp) (Evt.bind (pSamePoint_ev (by simp only [lenB];omega)) (Evt.cfalse rfl ?_))))
   exact Evt.inr (Evt.diag (below_ev hrl hbel x1 iv (isV m).2 (isV m).1 ts (ts.length:Int) (d.length:Int) (rsV e).1 [] rfl)) ih

theorem placesRow_ev{row:Pt}{p:Int}(hb:row.length≤1000)(hp:∀x∈row,x.2≤p)(x40 x267:List Pt)(x268 x269:Int):∀(r d:Pt),d++r=row →
  Evt (fun k n=>laws_FnTablesIn_L4294955622 k n x40 p x267 x268 x269 row (row.length:Int) d.length) (.inr (x40,p,x267,x268,x269,()))
 | [],d,h=>by
  rw [List.append_nil]at h
  subst h
  exact Evt.step (fun k n=>laws_FnTablesIn_L4294955622.eq_2 k _ _ _ _ _ _ _ _ n) (Evt.cfalse mid_end .pure)
 | e::r,d,h=>by
  have hl:=congrArg List.length h
  simp only [List.length_append,List.length_cons]at hl
  have ih:=placesRow_ev hb hp x40 x267 x268 x269 r (d ++ [e]) (by simpa using h)
  have he:=hp e (by rw [←h];simp)
  refine Evt.step (fun k n=>laws_FnTablesIn_L4294955622.eq_2 k _ _ _ _ _ _ _ _ n) ?_
  subst h
  refine Evt.ctrue mid_lt (Evt.ctrue mid_ge (Evt.ctrue mid_lt ?_))
  rw [mid_get]
  refine Evt.cfalse (decide_eq_false (by omega)) ?_
  rw [len_next (e:=e) (r:=r) (by simp only [List.length_append,List.length_cons,lenB];omega)]
  exact ih
theorem places_ev{t:List Pt}{p:Int}(hb:t.length≤1000)(hr:∀r∈t,r.length≤1000)(hp:∀r∈t,∀x∈r,x.2≤p)(x40:List Pt):∀(r d:List Pt),d++r=t →
  Evt (fun k n=>laws_FnTablesIn_L16777170 k n x40 p t (t.length:Int) d.length) (.inr (x40,()))
 | [],d,h=>by
  rw [List.append_nil]at h
  subst h
  exact Evt.step (fun k n=>laws_FnTablesIn_L16777170.eq_2 k _ _ _ _ _ n) (Evt.cfalse mid_end .pure)
 | e::r,d,h=>by
  have hl:=congrArg List.length h
  simp only [List.length_append,List.length_cons]at hl
  have ih:=places_ev hb hr hp x40 r (d ++ [e]) (by simpa using h)
  have hme:e∈t:=by rw [←h];simp
  have he:=hp e hme
  have hre:=hr e hme
  refine Evt.step (fun k n=>laws_FnTablesIn_L16777170.eq_2 k _ _ _ _ _ n) ?_
  subst h
  refine Evt.ctrue mid_lt (Evt.ctrue mid_ge (Evt.ctrue mid_lt ?_))
  rw [mid_get]
  refine Evt.inr (Evt.diag (placesRow_ev hre he x40 (d++e::r) ((d++e::r).length:Int) (d.length:Int) e [] rfl)) ?_
  simp only
  rw [len_next (e:=e) (r:=r) (by simp only [List.length_append,List.length_cons,lenB];omega)]
  exact ih
theorem mkD_k(n:Int)(k:Nat):(mkD n k).1.2≤(k:Int):=by
 unfold mkD
 split
 ·have:=strip_le k n
  simp only
  omega
 ·simp only
  omega
theorem dvO_k{d x y:Int×Int}{p:Nat}(h:dvO d p x=some y):y.2≤(p:Int):=by
 unfold dvO at h
 split at h
 ·cases h
  exact mkD_k _ _
 ·cases h
theorem allO_in{α β:Type}{g:α→Option β}{z:β}{l:List α}{m:List β}(h:allO g z l=some m){y:β}(hy:y∈m):∃x∈l,g x=some y:=by
 obtain⟨h1,h2⟩:=allO_some h
 rw [h1]at hy
 obtain⟨x,hx,rfl⟩:=List.mem_map.1 hy
 obtain⟨v,hv⟩:=Option.isSome_iff_exists.1 (h2 x hx)
 exact⟨x,hx,by rw [hv];rfl⟩
theorem riV_told{m:List Pt}{p:Int}(h:(riV m p).2=true):(dtV m).2=true∧(dtV m).1.1≠0∧∀r∈(riV m p).1,∀x∈r,x.2≤p:=by
 unfold riV at h ⊢
 split at h
 ·rename_i hc
  rw [if_pos hc]
  rw [Bool.and_eq_true]at hc
  have hp:=of_decide_eq_true hc.2
  rw [invV_oL]at h ⊢
  cases hi:invO (m.length - 1) m p.toNat with
  | none=>rw [hi]at h;cases h
  | some T =>
   unfold invO at hi
   split at hi
   ·cases hi
   ·rename_i d hd
    split at hi
    ·split at hi
     ·cases hi
     ·rename_i h0
      have e:dtV m=(d,true):=by
       unfold dtV
       rw [if_pos hc.1,hd]
       rfl
      rw [e]
      refine⟨rfl,h0,fun r hr x hx => ?_⟩
      obtain⟨row,_,e2⟩:=allO_in hi hr
      unfold rwO at e2
      obtain⟨y,_,e3⟩:=allO_in e2 hx
      have:=dvO_k e3
      omega
    ·cases hi
 ·cases h
theorem fnTablesIn_law(a b:List Int)(ha:bytesOk a)(hb:bytesOk b):∃k,laws_FnTablesIn k a b=some true:=by
 refine Evt.get (Evt.eq (f:=fun k q=>_) ?_ (fun k q=>by rw [laws_FnTablesIn]))
 refine Evt.bind (.const (big_eq a b)) (Evt.ite (fun _ => .pure) (fun _ => ?_))
 obtain⟨m,em,sm⟩:=drawDetInO ha
 have ml:m.length≤1000:=by have:=sm.1;omega
 have mr:∀r∈m,r.length≤1000:=fun r hr=>by have:=sm.2 r hr;omega
 refine Evt.bind em (Evt.bind (detInI_ev ml mr) (Evt.bind (detInS_ev ml mr) (Evt.bind (shrI_ev ml mr) (Evt.bind (shrS_ev ml mr) ?_))))
 have told:(diV m).2=true→tab ivGd m=true∧detIO (m.length - 1) m=some (diV m).1:=by
  intro h
  unfold diV at h ⊢
  split at h
  ·rename_i ht
   rw [if_pos ht]
   refine⟨ht,?_⟩
   cases hd:detIO (m.length - 1) m with
   | none=>rw [hd]at h;cases h
   | some v=>rfl
  ·cases h
 refine Evt.inr (y:=(b,m,(diV m).2,(diV m).1,(isV m).2,(isV m).1,())) ?_ ?_
 ·refine Evt.cfalse (by simp) (Evt.cfalse (by simp) (Evt.cfalse (by simp) (Evt.cfalse (by simp) (Evt.ite (fun hd => ?_) (fun _ => .pure)))))
  obtain⟨ht,hd⟩:=told hd
  obtain⟨n,hn,hsq⟩:=sq_tab ht
  have en:m.length - 1=n:=by have:=hsq.1;omega
  rw [en]at hd
  have g:=detIO_iv n m _ hsq hd
  refine Evt.bind (Evt.eq (Evt.bind (isInterval_ev (diV m).1) .pure) (fun k q=>by rw [impl_IsInterval])) (Evt.cfalse (by rw [decide_eq_true g];rfl) .pure)
 refine Evt.inr (y:=(b,())) ?_ ?_
 ·refine Evt.ite (fun hd => ?_) (fun _ => .pure)
  obtain⟨ht,hd⟩:=told hd
  refine Evt.inr (Evt.diag (ends_ev ml mr b (diV m).1 (isV m).2 (isV m).1 m [] rfl)) ?_
  refine Evt.inr (Evt.diag (tables_ev sm ht hd b (ts := [lowT m,highT m]) (by simp) (fun t ht => ?_) [lowT m,highT m] [] rfl)) .pure
  simp only [List.mem_cons,List.mem_nil_iff,or_false]at ht
  rcases ht with rfl | rfl
  ·exact⟨_,endLo,rfl⟩
  ·exact⟨_,endHi,rfl⟩
 obtain⟨⟨t,M⟩,eT,sT,sM⟩:=drawTimesInO hb
 simp only at sT sM
 have sT:=Sm.of sT
 have Ml:M.length<lenB:=by have:=sM.1;simp only [lenB];omega
 have Ml0:M.length<274877906944:=by have:=sM.1;omega
 have Mr:∀r∈M,r.length<lenB:=fun r hr=>by have:=sM.2 r hr;simp only [lenB];omega
 obtain⟨tl,tr⟩:=tiV_len (a:=t) (m:=M)
 refine Evt.bind eT (Evt.bind (tiImpl_ev sT.lb sT.lr Ml Mr) (Evt.bind (tiSpec_ev sT.lm sT.lr Ml0 Mr) (Evt.cfalse (by simp) (Evt.bind (pSameGrid_ev (by simp only [lenB];omega) (fun r hr=>by have:=tr r hr;simp only [lenB];omega)) (Evt.cfalse rfl ?_)))))
 obtain⟨⟨u,p⟩,eR,sR⟩:=drawRoundedO hb
 simp only at sR
 have sR:=Sm.of sR
 obtain⟨rl,rr⟩:=riV_small u p
 refine Evt.bind eR (Evt.bind (riI_ev sR p) (Evt.bind (riS_ev sR p) (Evt.cfalse (by simp) (Evt.bind (pSameTable_ev (by simp only [lenB];omega) (fun r hr=>by have:=rr r hr;simp only [lenB];omega)) (Evt.cfalse rfl (Evt.ite (fun hk => ?_) (fun _ => .pure)))))))
 obtain⟨h1,h2,h3⟩:=riV_told hk
 refine Evt.inr (Evt.diag (places_ev (by omega) (fun r hr=>by have:=rr r hr;omega) h3 u (riV u p).1 [] rfl)) ?_
 exact Evt.bind (detI_ev sR) (Evt.cfalse (by rw [h1];rfl) (Evt.cfalse (by simpa using h2) .pure))
theorem fnTablesIn_row(a b:List Int)(h:WfT (.sl (.int .u8)) a)(h':WfT (.sl (.int .u8)) b):∃k,laws_FnTablesIn k a b=some true:=fnTablesIn_law a b (bytes_of h) (bytes_of h')
end Go.Ev.G

