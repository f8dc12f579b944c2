/- What the plain functions of the law compute, for all inputs within the sizes that the theorems name. -/
import Derived.Test.YtbkhmofhdbjpcaaGreatPFnInverses2
import Derived.Test.YtbkhmofhdbjpcaaGreatAFnInverses1
set_option linter.unusedVariables false
namespace Go.Ev.G
open Go Go.Ev
set_option maxRecDepth 100000

theorem poOrderK(a b:Tm):∃r,spec_poOrder a b=some r:=by
 have hs:∀x:Int,∃r,spec_l1Sign x=some r:=by
  intro x
  unfold spec_l1Sign
  cases decide (x>0)
  ·cases decide (x<0) <;> exact⟨_,rfl⟩
  ·exact⟨_,rfl⟩
 unfold spec_poOrder
 obtain⟨r1,e1⟩:=hs (IntKind.wrap .i64 (a.2.1 - b.2.1))
 obtain⟨r2,e2⟩:=hs (IntKind.wrap .i64 (a.2.2.1 - b.2.2.1))
 obtain⟨r3,e3⟩:=hs (IntKind.wrap .i64 (a.2.2.2 - b.2.2.2))
 rw [e1,e2,e3]
 cases (a.2.1 != b.2.1)
 ·cases (a.2.2.1 != b.2.2.1) <;> exact⟨_,rfl⟩
 ·exact⟨_,rfl⟩
theorem poOrderO(a b:Tm):Ok (fun _ _=>spec_poOrder a b) (fun _=>True):=by
 obtain⟨r,e⟩:=poOrderK a b
 exact .const e trivial
theorem poPutL{R:List Tm}{t:Tm}(hR:R.length≤1000000):∀(j i:Nat),i+j=R.length→Ok (fun k n=>spec_poPut_L28 k n R t i) (fun s=>∃y,s = .inr y∧∃p:Nat,y=(R,t,(p:Int),())∧p≤R.length)
 | 0,i,h=>Ok.step (fun k n=>spec_poPut_L28.eq_2 k _ _ _ n) (Ok.cf (decide_eq_false (by omega)) (.pure ⟨_,rfl,i,rfl,by omega⟩))
 | j+1,i,h=>by
  refine Ok.step (fun k n=>spec_poPut_L28.eq_2 k _ _ _ n) (Ok.lt (by omega) (Ok.le (by omega) (Ok.lt (by omega) (Ok.bind (poOrderO _ _) fun r _=>Ok.ite (fun _ => ?_) (fun _ => .pure ⟨_,rfl,i,rfl,by omega⟩)))))
  rw [w64_next (by simp only [lenB];omega)]
  exact poPutL hR j (i+1) (by omega)
theorem poPutO{R:List Tm}{t:Tm}(hR:R.length≤1000000):Ok (fun k _=>spec_poPut k R t) (fun R'=>R'.length≤R.length+1):=by
 refine Ok.eq (fun k q=>by rw [spec_poPut]) ?_
 refine Ok.bth (Ok.diag (poPutL hR R.length 0 (by omega))) fun y hy => ?_
 obtain⟨p,rfl,hp⟩:=hy
 refine Ok.le (by simp only;omega) (Ok.le (by simp only;omega) ?_)
 refine Ok.bth (P:=fun y=>y.1=R∧y.2.2.1=(p:Int)∧y.2.2.2.1.length+p≤R.length) ?_ fun y hy => ?_
 ·refine Ok.ite (fun hc => ?_) (fun _ => .pure ⟨_,rfl,rfl,rfl,by simp;omega⟩)
  have hc:=of_decide_eq_true hc
  simp only at hc
  refine Ok.le (by simp only;omega) (Ok.lt hc (Ok.bind (poOrderO _ _) fun r _=>Ok.ite (fun _ => ?_) (fun _ => .pure ⟨_,rfl,rfl,rfl,by simp;omega⟩)))
  simp only [w64_next (show p<lenB by simp only [lenB];omega)]
  exact Ok.le (by omega) (Ok.lt hc (Ok.le (by omega) (Ok.le (by omega) (.pure ⟨_,rfl,rfl,rfl,by simp;omega⟩))))
 ·obtain⟨h1,h2,h3⟩:=hy
  simp only [h1,h2,Int.toNat_natCast]
  have hl:(([]:List Tm)++List.drop 0 (List.take p R)).length=p:=by simp;omega
  refine Ok.le (by omega) (Ok.le (by omega) (Ok.ltN (by simp;omega) ?_))
  refine Ok.bth (P:=fun z=>z.1=y.2.2.2.1∧z.2.1.length≤p+1) ?_ fun z hz => ?_
  ·refine Ok.ite (fun _=>Ok.ltN (by rw [hl];simp;omega) (.pure ⟨_,rfl,rfl,?_⟩)) (fun _ => .pure ⟨_,rfl,rfl,?_⟩)
   ·rw [List.length_append,hl];simp
   ·rw [hl];omega
  ·obtain⟨h4,h5⟩:=hz
   rw [h4]
   exact Ok.ltN (by omega) (.pure (by rw [List.length_append];omega))
theorem poSumL{ts:List Tm}(ht:ts.length≤100000):∀(j i:Nat) (R:List Tm),i+j=ts.length→R.length≤i→Ok (fun k n=>spec_poSum_L58 k n R ts (ts.length:Int) i) (fun s=>∃y,s = .inr y∧y.1.length≤ts.length)
 | 0,i,R,h,hR=>Ok.step (fun k n=>spec_poSum_L58.eq_2 k _ _ _ _ n) (Ok.cf (decide_eq_false (by omega)) (.pure ⟨_,rfl,by simp only;omega⟩))
 | j+1,i,R,h,hR=>by
  refine Ok.step (fun k n=>spec_poSum_L58.eq_2 k _ _ _ _ n) (Ok.lt (by omega) (Ok.le (by omega) (Ok.lt (by omega) (Ok.bind (poPutO (by omega)) fun R' hR' => ?_))))
  rw [w64_next (by simp only [lenB];omega)]
  exact poSumL ht j (i+1) R' (by omega) (by omega)
theorem poSumO{ts:List Tm}(ht:ts.length≤100000):Ok (fun k _=>spec_poSum k ts) (fun r=>r.1.length≤ts.length):=by
 refine Ok.eq (fun k q=>by rw [spec_poSum]) ?_
 refine Ok.bth (Ok.diag (poSumL ht ts.length 0 [] (by omega) (by simp))) fun y hy => ?_
 refine Ok.bind (Ok.of (poGood_ev (by simp only [lenB];omega)) trivial (P:=fun _=>True)) fun r _=>Ok.ite (fun _ => .pure (by simp)) (fun _ => .pure hy)
theorem poAddO{p q:List Tm}(hp:p.length≤50000)(hq:q.length≤50000):Ok (fun k _=>spec_poAdd k p q) (fun r=>r.1.length≤p.length+q.length):=by
 refine Ok.eq (fun k q=>by rw [spec_poAdd]) ?_
 refine Ok.ltN (by simp;omega) (Ok.ltN (by simp;omega) (Ok.bind (poSumO (by simp;omega)) fun r hr => .pure ?_))
 simpa using hr
theorem poWithO(t:Tm)(i e:Int):Ok (fun _ _=>spec_poWith t i e) (fun _=>True):=by
 unfold spec_poWith
 exact Ok.ite (fun _ => .pure trivial) (fun _=>Ok.ite (fun _ => .pure trivial) (fun _ => .pure trivial))

section
variable {ks : List Int}
theorem termL(hk:bytesOk ks){n:Nat}(hn:n≤4){x4:Tm}:∀(j i:Nat) (c:Cu) (m:Nat) (t:Tm) (l:Int),i+j=n→CurOk c m→m+4*j≤1000000000→0≤l→l≤4 →
  Ok (fun k q=>spec_l1Cur_term_L122 k ks q c n x4 t l i) (fun s=>∃y,s = .inr y∧CurOk y.1 (m+4*j))
 | 0,i,c,m,t,l,h,hc,hm,l0,l4=>Ok.step (fun k q=>spec_l1Cur_term_L122.eq_2 k ks _ _ _ _ _ _ q) (Ok.cf (decide_eq_false (by omega)) (.pure ⟨_,rfl,hc.mono (by omega) (by omega)⟩))
 | j+1,i,c,m,t,l,h,hc,hm,l0,l4=>by
  refine Ok.step (fun k q=>spec_l1Cur_term_L122.eq_2 k ks _ _ _ _ _ _ q) (Ok.lt (by omega) ?_)
  rw [w64 (n:=l+1) (by omega) (by omega)]
  refine Ok.bind (pickK hk hc (by omega) (by omega)) fun r3 h3 => ?_
  have b3:=h3.2.2 (by omega)
  have a3:=h3.2.1
  refine Ok.bind (amongK hk h3.1 (by omega) (by simp) (by simp)) fun r4 h4 => ?_
  have m4:=h4.2
  simp only [List.mem_cons,List.not_mem_nil,or_false]at m4
  refine Ok.bth (P:=fun y=>CurOk y.1 (m+4)∧y.2.1=(n:Int)∧y.2.2.1=x4∧y.2.2.2.2.1=l∧y.2.2.2.2.2.1=(i:Int)∧0≤y.2.2.2.2.2.2.1∧y.2.2.2.2.2.2.1≤l) ?_ fun y hy => ?_
  ·refine Ok.ite (fun _ => .pure ⟨_,rfl,h4.1.mono (by omega) (by omega),rfl,rfl,rfl,rfl,l0,Int.le_refl _⟩) (fun hq => .pure ⟨_,rfl,h4.1.mono (by omega) (by omega),rfl,rfl,rfl,rfl,by simp only;omega,?_⟩)
   have:=of_decide_eq_false hq
   simp only;omega
  ·obtain⟨y1,y2,y3,y4,y5,y6,y7⟩:=hy
   refine Ok.bind (poWithO _ _ _) fun r6 _ => ?_
   rw [y2,y3,y4,y5,w64_next (m:=i) (by simp only [lenB];omega),w64 (n:=l - y.2.2.2.2.2.2.1) (by omega) (by omega)]
   have:=termL hk hn (x4:=x4) j (i+1) y.1 (m+4) r6 (l - y.2.2.2.2.2.2.1) (by omega) y1 (by omega) (by omega) (by omega)
   exact this.mono fun s hs=>by obtain⟨z,e,hz⟩:=hs;exact⟨z,e,hz.mono (by omega) (by omega)⟩
theorem termO(hk:bytesOk ks){c:Cu}{m:Nat}(h:CurOk c m)(hm:m+24≤1000000000){n:Nat}(hn:n≤4):Ok (fun k _=>spec_l1Cur_term k ks c n) (fun r=>CurOk r.2 (m+24)):=by
 refine Ok.eq (fun k q=>by rw [spec_l1Cur_term]) ?_
 refine Ok.bind (pickK hk h (by omega) (by omega)) fun r1 h1=>Ok.bind (amongK hk h1.1 (by omega) (by simp) (by simp)) fun r2 h2 => ?_
 refine Ok.bth (Ok.diag (termL hk hn n 0 r2.2 (m+4) _ 4 (by omega) (h2.1.mono (by omega) (by omega)) (by omega) (by omega) (by omega))) fun y hy => ?_
 refine Ok.bind (oneK hk (hy.mono (m':=m+20) (by omega) (by omega)) (by omega) (by omega)) fun r h11=>Ok.ite (fun _ => ?_) (fun _ => .pure (h11.mono (by omega) (by omega)))
 exact Ok.bind (amongK hk h11 (by omega) (by simp) (by simp)) fun r12 h12 => .pure (h12.1.mono (by omega) (by omega))
theorem polyL(hk:bytesOk ks){n:Nat}(hn:n≤4){M:Nat}(hM:M≤100):∀(j i:Nat) (c:Cu) (m:Nat) (p:List Tm),i+j=M→CurOk c m→m+24*j≤1000000000→p.length≤i →
  Ok (fun k q=>spec_l1Cur_poly_L250 k ks q c n p M i) (fun s=>∃y,s = .inr y∧CurOk y.1 (m+24*j)∧y.2.1.length≤M)
 | 0,i,c,m,p,h,hc,hm,hp=>Ok.step (fun k q=>spec_l1Cur_poly_L250.eq_2 k ks _ _ _ _ _ q) (Ok.cf (decide_eq_false (by omega)) (.pure ⟨_,rfl,hc.mono (by omega) (by omega),by simp only;omega⟩))
 | j+1,i,c,m,p,h,hc,hm,hp=>by
  refine Ok.step (fun k q=>spec_l1Cur_poly_L250.eq_2 k ks _ _ _ _ _ q) (Ok.lt (by omega) (Ok.bind (termO hk hc (by omega) hn) fun r4 h4=>Ok.bind (poAddO (by omega) (by simp)) fun r5 h5 => ?_))
  rw [w64_next (m:=i) (by simp only [lenB];omega)]
  have fin:∀p':List Tm,p'.length≤i+1→Ok (fun k q=>spec_l1Cur_poly_L250 k ks q r4.2 n p' M ((i+1:Nat):Int)) (fun s=>∃y,s = .inr y∧CurOk y.1 (m+24*(j+1))∧y.2.1.length≤M):=by
   intro p' hp'
   have:=polyL hk hn hM j (i+1) r4.2 (m+24) p' (by omega) h4 (by omega) hp'
   exact this.mono fun s hs=>by obtain⟨z,e,hz⟩:=hs;exact⟨z,e,hz.1.mono (by omega) (by omega),hz.2⟩
  exact Ok.ite (fun _=>fin r5.1 (by simp at h5;omega)) (fun _=>fin p (by omega))
theorem polyO(hk:bytesOk ks){c:Cu}{m:Nat}(h:CurOk c m)(hm:m+600≤1000000000){n:Nat}(hn:n≤4):Ok (fun k _=>spec_l1Cur_poly k ks c n) (fun r=>CurOk r.2 (m+600)∧r.1.length≤24):=by
 refine Ok.eq (fun k q=>by rw [spec_l1Cur_poly]) ?_
 refine Ok.bind (pickK hk h (by omega) (by omega)) fun r1 h1 => ?_
 have b1:=h1.2.2 (by omega)
 have a1:=h1.2.1
 refine Ok.bth (P:=fun y=>CurOk y.1 (m+4)∧y.2.1=(n:Int)∧y.2.2.1 = []∧∃M:Nat,y.2.2.2.1=(M:Int)∧M≤24) ?_ fun y hy => ?_
 ·refine Ok.bind (oneK hk h1.1 (by omega) (by omega)) fun r2 h2=>Ok.ite (fun _ => .pure ⟨_,rfl,h2,rfl,rfl,24,rfl,by omega⟩) (fun _ => .pure ⟨_,rfl,h2,rfl,rfl,(1+r1.1).toNat,?_,by omega⟩)
  rw [w64 (by omega) (by omega)]
  simp only;omega
 ·obtain⟨y1,y2,y3,M,y4,hM⟩:=hy
  rw [y2,y3,y4]
  refine Ok.bth (Ok.diag (polyL hk hn (M:=M) (by omega) M 0 y.1 (m+4) [] (by omega) y1 (by omega) (by simp))) fun z hz => ?_
  refine Ok.bind (oneK hk (hz.1.mono (m':=m+590) (by omega) (by omega)) (by omega) (by omega)) fun r9 h9=>Ok.ite (fun _ => .pure ⟨h9.mono (by omega) (by omega),by simp⟩) (fun _ => .pure ⟨h9.mono (by omega) (by omega),by have:=hz.2;simp only;omega⟩)
theorem systemL(hk:bytesOk ks){n:Nat}(hn:n≤4):∀(j:Nat) (s:List (List Tm)) (c:Cu) (m:Nat),s.length+j=n→(∀r∈s,r.length≤24)→CurOk c m→m+600*j≤1000000000 →
  Ok (fun k q=>spec_l1Cur_system_L28 k ks q c n s) (fun z=>∃y,z = .inr y∧CurOk y.2.1 (m+600*j)∧y.1.length=n∧∀r∈y.1,r.length≤24)
 | 0,s,c,m,h,hs,hc,hm=>Ok.step (fun k q=>spec_l1Cur_system_L28.eq_2 k ks _ _ _ q) (Ok.cf (decide_eq_false (by omega)) (.pure ⟨_,rfl,hc.mono (by omega) (by omega),by simp only;omega,hs⟩))
 | j+1,s,c,m,h,hs,hc,hm=>by
  refine Ok.step (fun k q=>spec_l1Cur_system_L28.eq_2 k ks _ _ _ q) (Ok.lt (by omega) (Ok.bind (polyO hk hc (by omega) hn) fun r1 h1=>Ok.ltN (by simp;omega) ?_))
  have:=systemL hk hn j (s ++ [r1.1]) r1.2 (m+600) (by simp;omega) (by
   intro r hr
   rcases List.mem_append.1 hr with hr | hr
   ·exact hs r hr
   ·simp at hr;rw [hr];exact h1.2) h1.1 (by omega)
  exact this.mono fun s hs=>by obtain⟨z,e,hz⟩:=hs;exact⟨z,e,hz.1.mono (by omega) (by omega),hz.2⟩
theorem systemO(hk:bytesOk ks){c:Cu}{m:Nat}(h:CurOk c m)(hm:m+2400≤1000000000){n:Nat}(hn:n≤4):Ok (fun k _=>spec_l1Cur_system k ks c n) (fun r=>CurOk r.2 (m+2400)∧r.1.length=n∧∀x∈r.1,x.length≤24):=by
 refine Ok.eq (fun k q=>by rw [spec_l1Cur_system]) ?_
 exact Ok.bth (Ok.diag (systemL hk hn n [] c m (by simp) (by simp) h (by omega))) fun y hy => .pure ⟨hy.1.mono (by omega) (by omega),hy.2⟩
end
end Go.Ev.G

namespace Go.Ev.G
open Go Go.Ev
set_option maxRecDepth 100000

theorem dyPowO{m:Int}(h0:0≤m)(h:m≤20):Ok (fun _ _=>spec_dyPower m) (fun r=>r=((2 ^ m.toNat:Nat):Int)∧1≤r∧r≤1048576):=by
 have e:=dyPower_eq (m:=m.toNat) (by omega)
 rw [show((m.toNat:Nat):Int)=m by omega]at e
 have h1:2 ^ m.toNat≤2 ^ 20:=Nat.pow_le_pow_right (by omega) (by omega)
 have h2:0<2 ^ m.toNat:=Nat.two_pow_pos _
 exact .const e ⟨rfl,by omega,by omega⟩
theorem dyPowS{m:Int}(h0:0≤m)(h:m≤8):Ok (fun _ _=>spec_dyPower m) (fun r=>r=((2 ^ m.toNat:Nat):Int)∧1≤r∧r≤256):=by
 obtain⟨r,e,hr,h1,_⟩:=dyPowO h0 (by omega)
 have h3:2 ^ m.toNat≤2 ^ 8:=Nat.pow_le_pow_right (by omega) (by omega)
 exact⟨r,e,hr,h1,by omega⟩
theorem leastO(a b:Int):Ok (fun _ _=>spec_l1Least a b) (fun r=>r=min a b):=by
 unfold spec_l1Least
 refine Ok.ite (fun h => .pure ?_) (fun h => .pure ?_)
 ·have:=of_decide_eq_true h;omega
 ·have:=of_decide_eq_false h;omega
theorem mostO(a b:Int):Ok (fun _ _=>spec_l1Most a b) (fun r=>r=max a b):=by
 unfold spec_l1Most
 refine Ok.ite (fun h => .pure ?_) (fun h => .pure ?_)
 ·have:=of_decide_eq_true h;omega
 ·have:=of_decide_eq_false h;omega
theorem ownO{l:List Int}(h:l.length≤1000):Ok (fun _ _=>spec_l1Own l) (fun r=>r=l):=by
 unfold spec_l1Own
 exact Ok.ltN (by simp;omega) (.pure (by simp))
abbrev Bx3:=Int×List Int×List Int
def bxN(n:Nat)(b:Bx3):Prop:=b.2.1.length=n∧b.2.2.length=n
theorem bxEvenL{b:Bx3}{n:Nat}(hb:bxN n b)(hn:n≤100):∀(j i:Nat),i+j=n→Ok (fun k q=>spec_bxEven_L26 k q b b.2.1 (b.2.1.length:Int) i) (fun _=>True)
 | 0,i,h=>Ok.step (fun k q=>spec_bxEven_L26.eq_2 k _ _ _ _ q) (Ok.cf (decide_eq_false (by rw [hb.1];omega)) (.pure trivial))
 | j+1,i,h=>by
  refine Ok.step (fun k q=>spec_bxEven_L26.eq_2 k _ _ _ _ q) (Ok.lt (by rw [hb.1];omega) (Ok.le (by omega) (Ok.lt (by rw [hb.1];omega) (Ok.ite (fun _ => .pure trivial) (fun _=>Ok.le (by omega) (Ok.lt (by rw [hb.2];omega) (Ok.ite (fun _ => .pure trivial) (fun _ => ?_))))))))
  rw [w64_next (m:=i) (by simp only [lenB];omega)]
  exact bxEvenL hb hn j (i+1) (by omega)
theorem bxEvenO{b:Bx3}{n:Nat}(hb:bxN n b)(hn:n≤100):Ok (fun k _=>spec_bxEven k b) (fun _=>True):=by
 refine Ok.eq (fun k q=>by rw [spec_bxEven]) ?_
 exact Ok.bothl (Ok.diag (bxEvenL hb hn n 0 (by omega))) (fun q _ => .pure trivial) (fun y _ => .pure trivial)
theorem halveL{z:Bx3}{n:Nat}(hn:n≤100):∀(j i:Nat) (b:Bx3),i+j=n→bxN n b→Ok (fun k q=>spec_bxMake_L1814 k q z b (n:Int) i) (fun s=>∃y,s = .inr y∧bxN n y.2.1∧y.2.1.1=b.1∧y.1=z)
 | 0,i,b,h,hb=>Ok.step (fun k q=>spec_bxMake_L1814.eq_2 k _ _ _ _ q) (Ok.cf (decide_eq_false (by omega)) (.pure ⟨_,rfl,hb,rfl,rfl⟩))
 | j+1,i,b,h,hb=>by
  have h1:(i:Int)<(b.2.1.length:Int):=by rw [hb.1];omega
  have h2:(i:Int)<(b.2.2.length:Int):=by rw [hb.2];omega
  refine Ok.step (fun k q=>spec_bxMake_L1814.eq_2 k _ _ _ _ q) (Ok.lt (by omega) (Ok.le (by omega) (Ok.lt h1 (Ok.le (by omega) (Ok.lt h1 (Ok.le (by omega) (Ok.lt h2 (Ok.le (by omega) (Ok.lt h2 ?_)))))))))
  rw [w64_next (m:=i) (by simp only [lenB];omega)]
  have:=halveL (z:=z) hn j (i+1) (b.1,(b.2.1.set (Int.toNat i) (IntKind.wrap .i64 (Int.tdiv (b.2.1.getD (Int.toNat i) 0) 2))),(b.2.2.set (Int.toNat i) (IntKind.wrap .i64 (Int.tdiv (b.2.2.getD (Int.toNat i) 0) 2)))) (by omega) ⟨by simpa using hb.1,by simpa using hb.2⟩
  exact this
theorem makeL{z:Bx3}{n:Nat}(hn:n≤100):∀(j:Nat) (b:Bx3),b.1≤j→j≤1000→bxN n b→Ok (fun k q=>spec_bxMake_L28 k q z b) (fun s=>∃y,s = .inr y∧bxN n y.2.1)
 | 0,b,h,hj,hb=>Ok.step (fun k q=>spec_bxMake_L28.eq_2 k _ _ q) (Ok.cf (decide_eq_false (by omega)) (.pure ⟨_,rfl,hb⟩))
 | j+1,b,h,hj,hb=>by
  refine Ok.step (fun k q=>spec_bxMake_L28.eq_2 k _ _ q) (Ok.ite (fun hp => ?_) (fun _ => .pure ⟨_,rfl,hb⟩))
  have hp:=of_decide_eq_true hp
  refine Ok.bind (bxEvenO hb hn) fun r _=>Ok.ite (fun _ => ?_) (fun _ => .pure ⟨_,rfl,hb⟩)
  have hl:=halveL (z:=z) hn n 0 (IntKind.wrap .i64 (b.1 - 1),b.2) (by omega) hb
  rw [hb.1]
  refine Ok.bth (Ok.diag hl) fun y hy => ?_
  obtain⟨y1,y2,y3⟩:=hy
  rw [y3]
  refine makeL hn j y.2.1 ?_ (by omega) y1
  rw [y2]
  simp only
  rw [w64 (by omega) (by omega)]
  omega
theorem bxMakeO{K:Int}{lo hi:List Int}{n:Nat}(hK:K≤1000)(hn:n≤100)(h1:lo.length=n)(h2:hi.length=n):Ok (fun k _=>spec_bxMake k K lo hi) (fun r=>r.2=true→bxN n r.1):=by
 refine Ok.eq (fun k q=>by rw [spec_bxMake]) ?_
 refine Ok.bind (ownO (by omega)) fun r1 e1=>Ok.bind (ownO (by omega)) fun r2 e2 => ?_
 rw [e1,e2]
 refine Ok.bth (Ok.diag (makeL hn 1000 (K,lo,hi) hK (by omega) ⟨h1,h2⟩)) fun y hy => ?_
 refine Ok.bind (Ok.of (bxGood_ev (by rw [hy.1];simp only [lenB];omega)) trivial (P:=fun _=>True)) fun r _=>Ok.ite (fun _ => .pure (by simp)) (fun _ => .pure (fun _=>hy))

section
variable {ks : List Int}
theorem boxL(hk:bytesOk ks){n:Nat}(hn:n≤4){z:Bx3}{K:Int}(hK:0≤K∧K≤8){M:Int}(hM:8≤M∧M≤2048):∀(j:Nat) (lo hi:List Int) (c:Cu) (m:Nat),lo.length+j=n→hi.length=lo.length→CurOk c m→m+12*j≤1000000000 →
  Ok (fun k q=>spec_l1Cur_box_L124 k ks q c n z K M lo hi) (fun s=>∃y,s = .inr y∧y.1=(n:Int)∧y.2.2.1=K∧y.2.2.2.1.length=n∧y.2.2.2.2.1.length=n∧CurOk y.2.2.2.2.2.1 (m+12*j))
 | 0,lo,hi,c,m,h,h2,hc,hm=>Ok.step (fun k q=>spec_l1Cur_box_L124.eq_2 k ks _ _ _ _ _ _ _ q) (Ok.cf (decide_eq_false (by omega)) (.pure ⟨_,rfl,rfl,rfl,by simp only;omega,by simp only;omega,hc.mono (by omega) (by omega)⟩))
 | j+1,lo,hi,c,m,h,h2,hc,hm=>by
  refine Ok.step (fun k q=>spec_l1Cur_box_L124.eq_2 k ks _ _ _ _ _ _ _ q) (Ok.lt (by omega) ?_)
  have w2:IntKind.wrap .i64 (2*M)=2*M:=w64 (by omega) (by omega)
  rw [w2]
  refine Ok.bind (dyPowS hK.1 hK.2) fun r3 h3=>Ok.bind (pickK hk hc (by omega) (by omega)) fun r4 h4=>Ok.bind (pickK hk h4.1 (by omega) (by omega)) fun r5 h5=>Ok.bind (amongK hk h5.1 (by omega) (by simp) (by simp)) fun r6 h6 => ?_
  refine Ok.bind (dyPowS hK.1 hK.2) fun r7 h7=>Ok.bind (dyPowS hK.1 hK.2) fun r8 h8=>Ok.bind (pickK hk h6.1 (by omega) (by omega)) fun r9 h9=>Ok.bind (pickK hk h9.1 (by omega) (by omega)) fun r10 h10=>Ok.bind (amongK hk h10.1 (by omega) (by simp) (by simp)) fun r11 h11 => ?_
  refine Ok.bind (leastO _ _) fun r12 _=>Ok.bind (mostO _ _) fun r13 _=>Ok.ltN (by simp;omega) (Ok.bind (leastO _ _) fun r14 _=>Ok.bind (mostO _ _) fun r15 _=>Ok.ltN (by simp;omega) ?_)
  have:=boxL hk hn (z:=z) hK hM j (lo ++ [r13]) (hi ++ [r15]) r11.2 (m+12) (by simp;omega) (by simp;omega) (h11.1.mono (by omega) (by omega)) (by omega)
  exact this.mono fun s hs=>by obtain⟨y,e,y1,y2,y3,y4,y5⟩:=hs;exact⟨y,e,y1,y2,y3,y4,y5.mono (by omega) (by omega)⟩
theorem unitL{n:Nat}(hn:n≤4){z:Bx3}{c:Cu}{m:Nat}(hc:CurOk c m):∀(j:Nat) (lo hi:List Int),lo.length+j=n→hi.length=lo.length →
  Ok (fun k q=>spec_l1Cur_box_L8148 k ks q n z lo hi c) (fun s=>∃y,s = .inr y∧y.2.1.length=n∧y.2.2.1.length=n∧CurOk y.2.2.2.1 m)
 | 0,lo,hi,h,h2=>Ok.step (fun k q=>spec_l1Cur_box_L8148.eq_2 k ks _ _ _ _ _ q) (Ok.cf (decide_eq_false (by omega)) (.pure ⟨_,rfl,by simp only;omega,by simp only;omega,hc⟩))
 | j+1,lo,hi,h,h2=>by
  refine Ok.step (fun k q=>spec_l1Cur_box_L8148.eq_2 k ks _ _ _ _ _ q) (Ok.lt (by omega) (Ok.ltN (by simp;omega) (Ok.ltN (by simp;omega) ?_)))
  exact unitL hn hc j (lo ++ [0]) (hi ++ [1]) (by simp;omega) (by simp;omega)
theorem boxO(hk:bytesOk ks){c:Cu}{m:Nat}(h:CurOk c m)(hm:m+60≤1000000000){n:Nat}(hn:n≤4):Ok (fun k _=>spec_l1Cur_box k ks c n) (fun r=>CurOk r.2 (m+60)∧bxN n r.1):=by
 refine Ok.eq (fun k q=>by rw [spec_l1Cur_box]) ?_
 refine Ok.bind (amongK hk h (by omega) (by simp) (by simp)) fun r1 h1 => ?_
 have m1:=h1.2
 simp only [List.mem_cons,List.not_mem_nil,or_false]at m1
 have hK:0≤r1.1∧r1.1≤8:=by omega
 refine Ok.bind (dyPowS hK.1 hK.2) fun r2 h2 => ?_
 have w:IntKind.wrap .i64 (8*r2)=8*r2:=w64 (by omega) (by omega)
 rw [w]
 refine Ok.bth (Ok.diag (boxL hk hn hK (by omega) n [] [] r1.2 (m+2) (by simp) rfl h1.1 (by omega))) fun y hy => ?_
 obtain⟨y1,y2,y3,y4,y5⟩:=hy
 rw [y1,y2]
 refine Ok.bind (bxMakeO (n:=n) (by omega) (by omega) y3 y4) fun r19 h19=>Ok.ite (fun hr => ?_) (fun hr => .pure ⟨y5.mono (by omega) (by omega),h19 (by simpa using hr)⟩)
 refine Ok.bth (Ok.diag (unitL hn y5 n [] [] (by simp) rfl)) fun z hz => .pure ⟨hz.2.2.mono (by omega) (by omega),hz.1,hz.2.1⟩
def bxS(b:Bx3):Prop:=b.2.1.length≤4∧b.2.2.length≤4
theorem bxN.s{n:Nat}{b:Bx3}(hn:n≤4)(h:bxN n b):bxS b:=⟨by rw [h.1];omega,by rw [h.2];omega⟩
theorem anyBoxO(hk:bytesOk ks){c:Cu}{m:Nat}(h:CurOk c m)(hm:m+70≤1000000000){n:Nat}(hn1:1≤n)(hn:n≤4):Ok (fun k _=>spec_l1Cur_anyBox k ks c n) (fun r=>CurOk r.2 (m+70)∧bxS r.1):=by
 refine Ok.eq (fun k q=>by rw [spec_l1Cur_anyBox]) ?_
 refine Ok.bind (boxO hk h (by omega) hn) fun r1 h1=>Ok.bind (pickK hk h1.1 (by omega) (by omega)) fun r2 h2 => ?_
 have hs:=h1.2.s hn
 have g1:(0:Int)<(r1.1.2.1.length:Int):=by rw [h1.2.1];omega
 have g2:(0:Int)<(r1.1.2.2.length:Int):=by rw [h1.2.2];omega
 have w:IntKind.wrap .i64 ((n:Int) - 1)=(n:Int) - 1:=w64 (by omega) (by omega)
 refine Ok.ite (fun _ => ?_) fun _=>Ok.ite (fun _ => ?_) fun _=>Ok.ite (fun _ => ?_) fun _=>Ok.ite (fun _ => ?_) fun _=>Ok.ite (fun _ => ?_) fun _ => ?_
 ·exact Ok.bind (amongK hk h2.1 (by omega) (by simp) (by simp)) fun r3 h3 => .pure ⟨h3.1.mono (by omega) (by omega),hs⟩
 ·refine Ok.lt g2 (Ok.bind (leastO _ _) fun r4 e4=>Ok.bind (mostO _ _) fun r5 e5=>Ok.bind (dyPowO (by omega) (by omega)) fun r6 _=>Ok.bind (amongK hk h2.1 (by omega) (by simp) (by simp)) fun r7 h7=>Ok.lt g1 (.pure ⟨h7.1.mono (by omega) (by omega),?_⟩))
  exact⟨by simpa using hs.1,hs.2⟩
 ·refine Ok.bind (leastO _ _) fun r4 e4=>Ok.bind (mostO _ _) fun r5 e5=>Ok.bind (dyPowO (by omega) (by omega)) fun r6 _=>Ok.bind (amongK hk h2.1 (by omega) (by simp) (by simp)) fun r7 h7=>Ok.lt g2 (.pure ⟨h7.1.mono (by omega) (by omega),?_⟩)
  exact⟨hs.1,by simpa using hs.2⟩
 ·rw [w]
  refine Ok.le (by omega) (Ok.le (by rw [h1.2.2];omega) (.pure ⟨h2.1.mono (by omega) (by omega),hs.1,?_⟩))
  have:=hs.2
  simp only [List.length_take];omega
 ·exact .pure ⟨h2.1.mono (by omega) (by omega),by simp,by simp⟩
 ·exact .pure ⟨h2.1.mono (by omega) (by omega),hs⟩
theorem coarseL(hk:bytesOk ks){n:Nat}(hn:n≤4){z:Bx3}{K:Int}(hK:0≤K∧K≤8){M:Int}(hM:8≤M∧M≤2048):∀(j:Nat) (lo hi:List Int) (c:Cu) (m:Nat),lo.length+j=n→hi.length=lo.length→CurOk c m→m+12*j≤1000000000 →
  Ok (fun k q=>spec_l1Cur_coarse_L124 k ks q c n z K M lo hi) (fun s=>∃y,s = .inr y∧CurOk y.1 (m+12*j)∧y.2.1=(n:Int)∧y.2.2.2.1=K∧y.2.2.2.2.1.length=n∧y.2.2.2.2.2.1.length=n)
 | 0,lo,hi,c,m,h,h2,hc,hm=>Ok.step (fun k q=>spec_l1Cur_coarse_L124.eq_2 k ks _ _ _ _ _ _ _ q) (Ok.cf (decide_eq_false (by omega)) (.pure ⟨_,rfl,hc.mono (by omega) (by omega),rfl,rfl,by simp only;omega,by simp only;omega⟩))
 | j+1,lo,hi,c,m,h,h2,hc,hm=>by
  refine Ok.step (fun k q=>spec_l1Cur_coarse_L124.eq_2 k ks _ _ _ _ _ _ _ q) (Ok.lt (by omega) ?_)
  have w2:IntKind.wrap .i64 (2*M)=2*M:=w64 (by omega) (by omega)
  rw [w2]
  refine Ok.bind (dyPowS hK.1 hK.2) fun r3 h3=>Ok.bind (pickK hk hc (by omega) (by omega)) fun r4 h4=>Ok.bind (amongK hk h4.1 (by omega) (by simp) (by simp)) fun r5 h5 => ?_
  refine Ok.bind (dyPowS hK.1 hK.2) fun r6 h6=>Ok.bind (dyPowS hK.1 hK.2) fun r7 h7=>Ok.bind (pickK hk h5.1 (by omega) (by omega)) fun r8 h8=>Ok.bind (amongK hk h8.1 (by omega) (by simp) (by simp)) fun r9 h9 => ?_
  refine Ok.bind (leastO _ _) fun r12 _=>Ok.bind (mostO _ _) fun r13 _=>Ok.ltN (by simp;omega) (Ok.bind (leastO _ _) fun r14 _=>Ok.bind (mostO _ _) fun r15 _=>Ok.ltN (by simp;omega) ?_)
  have:=coarseL hk hn (z:=z) hK hM j (lo ++ [r13]) (hi ++ [r15]) r9.2 (m+12) (by simp;omega) (by simp;omega) (h9.1.mono (by omega) (by omega)) (by omega)
  exact this.mono fun s hs=>by obtain⟨y,e,y1,y2⟩:=hs;exact⟨y,e,y1.mono (by omega) (by omega),y2⟩
theorem coarseO(hk:bytesOk ks){c:Cu}{m:Nat}(h:CurOk c m)(hm:m+120≤1000000000){n:Nat}(hn:n≤4):Ok (fun k _=>spec_l1Cur_coarse k ks c n) (fun r=>CurOk r.2 (m+120)∧bxN n r.1):=by
 refine Ok.eq (fun k q=>by rw [spec_l1Cur_coarse]) ?_
 refine Ok.bind (amongK hk h (by omega) (by simp) (by simp)) fun r1 h1 => ?_
 have m1:=h1.2
 simp only [List.mem_cons,List.not_mem_nil,or_false]at m1
 have hK:0≤r1.1∧r1.1≤8:=by omega
 refine Ok.bind (dyPowS hK.1 hK.2) fun r2 h2 => ?_
 have w:IntKind.wrap .i64 (8*r2)=8*r2:=w64 (by omega) (by omega)
 rw [w]
 refine Ok.bth (Ok.diag (coarseL hk hn hK (by omega) n [] [] r1.2 (m+2) (by simp) rfl h1.1 (by omega))) fun y hy => ?_
 obtain⟨y1,y2,y3,y4,y5⟩:=hy
 rw [y2,y3]
 refine Ok.bind (bxMakeO (n:=n) (by omega) (by omega) y4 y5) fun r19 h19=>Ok.ite (fun hr => ?_) (fun hr => .pure ⟨y1.mono (by omega) (by omega),h19 (by simpa using hr)⟩)
 exact Ok.bind (boxO hk y1 (by omega) hn) fun r18 h18 => .pure ⟨h18.1.mono (by omega) (by omega),h18.2⟩

theorem apZ(hk:bytesOk ks){x y:Nat}(hx:x≤5)(hy:y≤5):∀(j z:Nat) (c:Cu) (m:Nat) (p:List Tm),z+j=5→CurOk c m→m+2*j≤1000000000→p.length≤21 →
  Ok (fun k q=>spec_l1Cur_anyPoly_L494888082 k ks q c p x y z) (fun s=>∃w,s = .inr w∧CurOk w.1 (m+2*j)∧w.2.1.length≤21∧w.2.2.1=(x:Int)∧w.2.2.2.1=(y:Int))
 | 0,z,c,m,p,h,hc,hm,hp=>by
  refine Ok.step (fun k q=>spec_l1Cur_anyPoly_L494888082.eq_2 k ks _ _ _ _ _ q) (Ok.cf (decide_eq_false ?_) (.pure ⟨_,rfl,hc.mono (by omega) (by omega),hp,rfl,rfl⟩))
  rw [w64 (n:=(x:Int)+y) (by omega) (by omega),w64 (by omega) (by omega)]
  omega
 | j+1,z,c,m,p,h,hc,hm,hp=>by
  refine Ok.step (fun k q=>spec_l1Cur_anyPoly_L494888082.eq_2 k ks _ _ _ _ _ q) (Ok.ite (fun _ => ?_) (fun _ => .pure ⟨_,rfl,hc.mono (by omega) (by omega),hp,rfl,rfl⟩))
  refine Ok.bind (pickK hk hc (by omega) (by omega)) fun r6 h6 => ?_
  have b6:=h6.2.2 (by omega)
  have a6:=h6.2.1
  refine Ok.ite (fun hl => ?_) (fun _ => .pure ⟨_,rfl,h6.1.mono (by omega) (by omega),hp,rfl,rfl⟩)
  have hl:=of_decide_eq_true hl
  rw [w64 (by omega) (by omega)]at hl
  refine Ok.ltN (by simp;omega) ?_
  rw [w64_next (m:=z) (by simp only [lenB];omega)]
  have:=apZ hk hx hy j (z+1) r6.2 (m+2) (p ++ [(1,(x:Int),(y:Int),(z:Int))]) (by omega) h6.1 (by omega) (by simp;omega)
  exact this.mono fun s hs=>by obtain⟨w,e,w1,w2⟩:=hs;exact⟨w,e,w1.mono (by omega) (by omega),w2⟩
theorem apY(hk:bytesOk ks){x:Nat}(hx:x≤5):∀(j y:Nat) (c:Cu) (m:Nat) (p:List Tm),y+j=5→CurOk c m→m+10*j≤1000000000→p.length≤21 →
  Ok (fun k q=>spec_l1Cur_anyPoly_L7732626 k ks q c p x y) (fun s=>∃w,s = .inr w∧CurOk w.1 (m+10*j)∧w.2.1.length≤21∧w.2.2.1=(x:Int))
 | 0,y,c,m,p,h,hc,hm,hp=>by
  refine Ok.step (fun k q=>spec_l1Cur_anyPoly_L7732626.eq_2 k ks _ _ _ _ q) (Ok.cf (decide_eq_false ?_) (.pure ⟨_,rfl,hc.mono (by omega) (by omega),hp,rfl⟩))
  rw [w64 (n:=(x:Int)+y) (by omega) (by omega)]
  omega
 | j+1,y,c,m,p,h,hc,hm,hp=>by
  refine Ok.step (fun k q=>spec_l1Cur_anyPoly_L7732626.eq_2 k ks _ _ _ _ q) (Ok.ite (fun _ => ?_) (fun _ => .pure ⟨_,rfl,hc.mono (by omega) (by omega),hp,rfl⟩))
  refine Ok.bth (Ok.diag (apZ hk hx (y:=y) (by omega) 5 0 c m p (by omega) hc (by omega) hp)) fun w hw => ?_
  obtain⟨w1,w2,w3,w4⟩:=hw
  rw [w3,w4,w64_next (m:=y) (by simp only [lenB];omega)]
  have:=apY hk hx j (y+1) w.1 (m+10) w.2.1 (by omega) w1 (by omega) w2
  exact this.mono fun s hs=>by obtain⟨v,e,v1,v2⟩:=hs;exact⟨v,e,v1.mono (by omega) (by omega),v2⟩
theorem apX(hk:bytesOk ks):∀(j x:Nat) (c:Cu) (m:Nat) (p:List Tm),x+j=5→CurOk c m→m+50*j≤1000000000→p.length≤21 →
  Ok (fun k q=>spec_l1Cur_anyPoly_L120822 k ks q c p x) (fun s=>∃w,s = .inr w∧w.1.length≤21∧CurOk w.2.1 (m+50*j))
 | 0,x,c,m,p,h,hc,hm,hp=>Ok.step (fun k q=>spec_l1Cur_anyPoly_L120822.eq_2 k ks _ _ _ q) (Ok.cf (decide_eq_false (by omega)) (.pure ⟨_,rfl,hp,hc.mono (by omega) (by omega)⟩))
 | j+1,x,c,m,p,h,hc,hm,hp=>by
  refine Ok.step (fun k q=>spec_l1Cur_anyPoly_L120822.eq_2 k ks _ _ _ q) (Ok.le (by omega) ?_)
  refine Ok.bth (Ok.diag (apY hk (x:=x) (by omega) 5 0 c m p (by omega) hc (by omega) hp)) fun w hw => ?_
  obtain⟨w1,w2,w3⟩:=hw
  rw [w3,w64_next (m:=x) (by simp only [lenB];omega)]
  have:=apX hk j (x+1) w.1 (m+50) w.2.1 (by omega) w1 (by omega) w2
  exact this.mono fun s hs=>by obtain⟨v,e,v1,v2⟩:=hs;exact⟨v,e,v1,v2.mono (by omega) (by omega)⟩
theorem anyPolyO(hk:bytesOk ks){c:Cu}{m:Nat}(h:CurOk c m)(hm:m+900≤1000000000){n:Nat}(hn:n≤4):Ok (fun k _=>spec_l1Cur_anyPoly k ks c n) (fun r=>CurOk r.2 (m+900)∧r.1.length≤48):=by
 refine Ok.eq (fun k q=>by rw [spec_l1Cur_anyPoly]) ?_
 refine Ok.bind (polyO hk h (by omega) hn) fun r1 h1=>Ok.bind (pickK hk h1.1 (by omega) (by omega)) fun r2 h2 => ?_
 have l1:=h1.2
 refine Ok.ite (fun _ => ?_) fun _=>Ok.ite (fun _ => ?_) fun _=>Ok.ite (fun _ => ?_) fun _=>Ok.ite (fun _ => ?_) fun _ => ?_
 ·exact Ok.bind (amongK hk h2.1 (by omega) (by simp) (by simp)) fun r3 h3=>Ok.ltN (by simp;omega) (.pure ⟨h3.1.mono (by omega) (by omega),by simp;omega⟩)
 ·exact Ok.bind (amongK hk h2.1 (by omega) (by simp) (by simp)) fun r3 h3=>Ok.bind (amongK hk h3.1 (by omega) (by simp) (by simp)) fun r4 h4=>Ok.ltN (by simp;omega) (.pure ⟨h4.1.mono (by omega) (by omega),by simp;omega⟩)
 ·exact Ok.ltN (by omega) (.pure ⟨h2.1.mono (by omega) (by omega),by simp;omega⟩)
 ·exact Ok.bth (Ok.diag (apX hk 5 0 r2.2 _ [] (by omega) h2.1 (by omega) (by simp))) fun y hy => .pure ⟨hy.2.mono (by omega) (by omega),by have:=hy.1;simp only;omega⟩
 ·exact .pure ⟨h2.1.mono (by omega) (by omega),by simp only;omega⟩
def syS(s:List (List Tm)):Prop:=s.length≤4∧∀r∈s,r.length≤48
theorem anySystemO(hk:bytesOk ks){c:Cu}{m:Nat}(h:CurOk c m)(hm:m+6000≤1000000000):Ok (fun k _=>spec_l1Cur_anySystem k ks c) (fun r=>CurOk r.2 (m+6000)∧syS r.1):=by
 refine Ok.eq (fun k q=>by rw [spec_l1Cur_anySystem]) ?_
 refine Ok.bind (amongK hk h (by omega) (by simp) (by simp)) fun r1 h1 => ?_
 have m1:=h1.2
 simp only [List.mem_cons,List.not_mem_nil,or_false]at m1
 obtain⟨n,hn,hn1,hn3⟩:∃n:Nat,r1.1=(n:Int)∧1≤n∧n≤3:=⟨r1.1.toNat,by omega,by omega,by omega⟩
 rw [hn]
 refine Ok.bind (systemO hk h1.1 (by omega) (n:=n) (by omega)) fun r2 h2=>Ok.bind (pickK hk h2.1 (by omega) (by omega)) fun r3 h3 => ?_
 have hs:syS r2.1:=⟨by rw [h2.2.1];omega,fun r hr=>by have:=h2.2.2 r hr;omega⟩
 refine Ok.ite (fun _ => ?_) fun _=>Ok.ite (fun _ => ?_) fun _=>Ok.ite (fun _ => ?_) fun _ => ?_
 ·refine Ok.bind (pickK hk h3.1 (by omega) (by omega)) fun r4 h4=>Ok.bind (anyPolyO hk h4.1 (by omega) (n:=3) (by omega)) fun r5 h5 => ?_
  have b4:=h4.2.2 (by omega)
  refine Ok.le h4.2.1 (Ok.lt (by rw [h2.2.1];omega) (.pure ⟨h5.1.mono (by omega) (by omega),by simpa using hs.1,fun x hx => ?_⟩))
  rcases List.mem_or_eq_of_mem_set hx with hx | hx
  ·exact hs.2 x hx
  ·rw [hx];exact h5.2
 ·exact .pure ⟨h3.1.mono (by omega) (by omega),by simp,by simp⟩
 ·exact Ok.bind (systemO hk h3.1 (by omega) (n:=4) (by omega)) fun r6 h6 => .pure ⟨h6.1.mono (by omega) (by omega),by rw [h6.2.1];omega,fun r hr=>by have:=h6.2.2 r hr;omega⟩
 ·exact .pure ⟨h3.1.mono (by omega) (by omega),hs⟩
end
end Go.Ev.G

namespace Go.Ev.G
open Go Go.Ev
set_option maxRecDepth 100000

theorem curZ:CurOk ((),0,0) 0:=⟨by decide,by decide,by decide⟩
section
variable {ks : List Int}
theorem restL(hk:bytesOk ks):∀(j i:Nat) (c:Cu) (m:Nat) (l:List Int),i+j=40→CurOk c m→m+2*j≤1000000000→l.length=i→bytesOk l →
  Ok (fun k q=>spec_l1Cur_rest_L58 k ks q c l i) (fun s=>∃y,s = .inr y∧bytesOk y.1∧CurOk y.2.1 (m+2*j))
 | 0,i,c,m,l,h,hc,hm,hl,hb=>Ok.step (fun k q=>spec_l1Cur_rest_L58.eq_2 k ks _ _ _ q) (Ok.cf (decide_eq_false (by omega)) (.pure ⟨_,rfl,hb,hc.mono (by omega) (by omega)⟩))
 | j+1,i,c,m,l,h,hc,hm,hl,hb=>by
  refine Ok.step (fun k q=>spec_l1Cur_rest_L58.eq_2 k ks _ _ _ q) (Ok.lt (by omega) (Ok.bind (pickK hk hc (by omega) (by omega)) fun r1 h1=>Ok.ltN (by simp;omega) ?_))
  have b1:=h1.2.2 (by omega)
  have a1:=h1.2.1
  have w:IntKind.wrap .u8 r1.1=r1.1:=by
   have:IntKind.wrap .u8 r1.1=r1.1 % 256:=rfl
   rw [this];omega
  rw [w,w64_next (m:=i) (by simp only [lenB];omega)]
  have:=restL hk j (i+1) r1.2 (m+2) (l ++ [r1.1]) (by omega) h1.1 (by omega) (by simp;omega) (by
   intro x hx
   rcases List.mem_append.1 hx with hx | hx
   ·exact hb x hx
   ·simp at hx;rw [hx];omega)
  exact this.mono fun s hs=>by obtain⟨v,e,v1,v2⟩:=hs;exact⟨v,e,v1,v2.mono (by omega) (by omega)⟩
theorem restO(hk:bytesOk ks){c:Cu}{m:Nat}(h:CurOk c m)(hm:m+80≤1000000000):Ok (fun k _=>spec_l1Cur_rest k ks c) (fun r=>bytesOk r.1∧CurOk r.2 (m+80)):=by
 refine Ok.eq (fun k q=>by rw [spec_l1Cur_rest]) ?_
 exact Ok.bth (Ok.diag (restL hk 40 0 c m [] (by omega) h (by omega) rfl (fun x hx=>by simp at hx))) fun y hy => .pure ⟨hy.1,hy.2.mono (by omega) (by omega)⟩
theorem sidesK(hk:bytesOk ks){c:Cu}{m:Nat}(h:CurOk c m)(hm:m+2≤1000000000):Ok (fun _ _=>spec_l1Cur_sides ks c) (fun r=>CurOk r.2 (m+2)∧1≤r.1∧r.1≤3):=by
 unfold spec_l1Cur_sides
 refine Ok.bind (amongK hk h hm (by simp) (by simp)) fun r h1 => .pure ⟨h1.1,?_⟩
 have m1:=h1.2
 simp only [List.mem_cons,List.not_mem_nil,or_false]at m1
 simp only;omega
theorem systemOverO(hk:bytesOk ks):Ok (fun k _=>spec_DrawSystemOver k ks) (fun r=>syS r.1∧bxS r.2):=by
 refine Ok.eq (fun k q=>by rw [spec_DrawSystemOver]) ?_
 refine Ok.bind (anySystemO hk curZ (by omega)) fun r1 h1=>Ok.bind (leastO _ _) fun r2 e2=>Ok.bind (mostO _ _) fun r3 e3 => ?_
 refine Ok.bth (P:=fun y=>CurOk y.2.1 6010∧y.2.2.1=r1.1∧1≤y.2.2.2.1∧y.2.2.2.1≤3) ?_ fun y hy => ?_
 ·refine Ok.bind (oneK hk h1.1 (by omega) (by omega)) fun r4 h4=>Ok.ite (fun _ => ?_) (fun _ => .pure ⟨_,rfl,h4.mono (by omega) (by omega),rfl,by simp only;omega,by simp only;omega⟩)
  exact Ok.bind (sidesK hk h4 (by omega)) fun r5 h5 => .pure ⟨_,rfl,h5.1.mono (by omega) (by omega),rfl,h5.2⟩
 ·obtain⟨y1,y2,y3,y4⟩:=hy
  obtain⟨n,hn,hn1,hn3⟩:∃n:Nat,y.2.2.2.1=(n:Int)∧1≤n∧n≤3:=⟨y.2.2.2.1.toNat,by omega,by omega,by omega⟩
  rw [hn,y2]
  exact Ok.bind (anyBoxO hk y1 (by omega) (n:=n) hn1 (by omega)) fun r7 h7 => .pure ⟨h1.2,h7.2⟩
theorem excludedO(hk:bytesOk ks){c:Cu}{m:Nat}(h:CurOk c m)(hm:m+3000≤1000000000):Ok (fun k _=>spec_l1Cur_excluded k ks c) (fun r=>syS r.1∧bxS r.2.1):=by
 refine Ok.eq (fun k q=>by rw [spec_l1Cur_excluded]) ?_
 refine Ok.bind (oneK hk h (by omega) (by omega)) fun r1 h1=>Ok.ite (fun _ => ?_) (fun _ => ?_)
 ·exact Ok.bind (restO hk h1 (by omega)) fun r2 h2=>Ok.bind (systemOverO h2.1) fun r3 h3 => .pure h3
 ·refine Ok.bind (amongK hk h1 (by omega) (by simp) (by simp)) fun r4 h4 => ?_
  have m4:=h4.2
  simp only [List.mem_cons,List.not_mem_nil,or_false]at m4
  obtain⟨n,hn,hn1,hn3⟩:∃n:Nat,r4.1=(n:Int)∧1≤n∧n≤3:=⟨r4.1.toNat,by omega,by omega,by omega⟩
  rw [hn]
  refine Ok.bind (systemO hk h4.1 (by omega) (n:=n) (by omega)) fun r5 h5=>Ok.bind (oneK hk h5.1 (by omega) (by omega)) fun r6 h6 => ?_
  have hs:syS r5.1:=⟨by rw [h5.2.1];omega,fun r hr=>by have:=h5.2.2 r hr;omega⟩
  exact Ok.ite (fun _=>Ok.bind (coarseO hk h6 (by omega) (n:=n) (by omega)) fun r7 h7 => .pure ⟨hs,h7.2.s (by omega)⟩) (fun _=>Ok.bind (boxO hk h6 (by omega) (n:=n) (by omega)) fun r8 h8 => .pure ⟨hs,h8.2.s (by omega)⟩)

theorem nearI(hk:bytesOk ks){z:Bx3}{n i:Int}{s:List (List Tm)}{ts:List Tm}(ht:ts.length≤10):∀(j a:Nat) (c:Cu) (m:Nat) (p:List Tm),a+j=ts.length→CurOk c m→m+2*j≤1000000000→p.length≤10+a →
  Ok (fun k q=>spec_l1Cur_newtonPair_L64074 k ks q c z n s i p ts (ts.length:Int) a) (fun w=>∃y,w = .inr y∧CurOk y.1 (m+2*j)∧y.2.1=z∧y.2.2.1=n∧y.2.2.2.1=s∧y.2.2.2.2.1=i∧y.2.2.2.2.2.1.length≤20)
 | 0,a,c,m,p,h,hc,hm,hp=>Ok.step (fun k q=>spec_l1Cur_newtonPair_L64074.eq_2 k ks _ _ _ _ _ _ _ _ _ q) (Ok.cf (decide_eq_false (by omega)) (.pure ⟨_,rfl,hc.mono (by omega) (by omega),rfl,rfl,rfl,rfl,by simp only;omega⟩))
 | j+1,a,c,m,p,h,hc,hm,hp=>by
  refine Ok.step (fun k q=>spec_l1Cur_newtonPair_L64074.eq_2 k ks _ _ _ _ _ _ _ _ _ q) (Ok.lt (by omega) (Ok.le (by omega) (Ok.lt (by omega) (Ok.bind (poAddO (by omega) (by simp)) fun r20 h20 => ?_))))
  rw [w64_next (m:=a) (by simp only [lenB];omega)]
  have fin:∀(c':Cu) (p':List Tm),CurOk c' (m+2)→p'.length≤10+(a+1)→Ok (fun k q=>spec_l1Cur_newtonPair_L64074 k ks q c' z n s i p' ts (ts.length:Int) ((a+1:Nat):Int)) (fun w=>∃y,w = .inr y∧CurOk y.1 (m+2*(j+1))∧y.2.1=z∧y.2.2.1=n∧y.2.2.2.1=s∧y.2.2.2.2.1=i∧y.2.2.2.2.2.1.length≤20):=by
   intro c' p' hc' hp'
   have:=nearI hk (z:=z) (n:=n) (i:=i) (s:=s) ht j (a+1) c' (m+2) p' (by omega) hc' (by omega) hp'
   exact this.mono fun w hw=>by obtain⟨v,e,v1,v2⟩:=hw;exact⟨v,e,v1.mono (by omega) (by omega),v2⟩
  simp only [List.length_cons,List.length_nil]at h20
  exact Ok.ite (fun _=>Ok.bind (oneK hk hc (by omega) (by omega)) fun r21 h21=>Ok.ite (fun _=>fin _ _ h21 (by omega)) (fun _=>fin _ _ h21 (by omega))) (fun _=>fin _ _ (hc.mono (by omega) (by omega)) (by omega))
theorem nearL(hk:bytesOk ks){z:Bx3}{n:Nat}(hn1:1≤n)(hn:n≤3):∀(j i:Nat) (c:Cu) (m:Nat) (s:List (List Tm)),i+j=n→CurOk c m→m+20*j≤1000000000→s.length=i→(∀r∈s,r.length≤20) →
  Ok (fun k q=>spec_l1Cur_newtonPair_L250 k ks q c z n s i) (fun w=>∃y,w = .inr y∧CurOk y.1 (m+20*j)∧y.2.1=z∧y.2.2.1=(n:Int)∧y.2.2.2.1.length=n∧∀r∈y.2.2.2.1,r.length≤20)
 | 0,i,c,m,s,h,hc,hm,hl,hs=>Ok.step (fun k q=>spec_l1Cur_newtonPair_L250.eq_2 k ks _ _ _ _ _ q) (Ok.cf (decide_eq_false (by omega)) (.pure ⟨_,rfl,hc.mono (by omega) (by omega),rfl,rfl,by simp only;omega,hs⟩))
 | j+1,i,c,m,s,h,hc,hm,hl,hs=>by
  refine Ok.step (fun k q=>spec_l1Cur_newtonPair_L250.eq_2 k ks _ _ _ _ _ q) (Ok.lt (by omega) ?_)
  refine Ok.bind (amongK hk hc (by omega) (by simp) (by simp)) fun r14 h14=>Ok.bind (poWithO _ _ _) fun r15 _=>Ok.bind (amongK hk h14.1 (by omega) (by simp) (by simp)) fun r16 h16=>Ok.bind (amongK hk h16.1 (by omega) (by simp) (by simp)) fun r17 h17 => ?_
  refine Ok.cf (by rw [beq_eq_false_iff_ne];omega) (Ok.bind (pickK hk h17.1 (by omega) (by omega)) fun r18 h18=>Ok.bind (poWithO _ _ _) fun r19 _ => ?_)
  refine Ok.bth (Ok.diag (nearI hk (ts := [(r16.1,0,0,0),r19]) (by simp) 2 0 r18.2 (m+8) [r15] (by simp) (h18.1.mono (by omega) (by omega)) (by omega) (by simp))) fun y hy => ?_
  obtain⟨y1,y2,y3,y4,y5,y6⟩:=hy
  rw [y4]
  refine Ok.ltN (by simp;omega) ?_
  rw [y2,y3,y5,w64_next (m:=i) (by simp only [lenB];omega)]
  have:=nearL hk (z:=z) hn1 hn j (i+1) y.1 (m+20) (s ++ [y.2.2.2.2.2.1]) (by omega) (y1.mono (by omega) (by omega)) (by omega) (by simp;omega) (by
   intro r hr
   rcases List.mem_append.1 hr with hr | hr
   ·exact hs r hr
   ·simp at hr;rw [hr];exact y6)
  exact this.mono fun w hw=>by obtain⟨v,e,v1,v2⟩:=hw;exact⟨v,e,v1.mono (by omega) (by omega),v2⟩
theorem nearB(hk:bytesOk ks){z b:Bx3}{s:List (List Tm)}{n:Nat}(hn:n≤4){K:Int}(hK:0≤K∧K≤8):∀(j:Nat) (lo hi:List Int) (c:Cu) (m:Nat),lo.length+j=n→hi.length=lo.length→CurOk c m→m+4*j≤1000000000 →
  Ok (fun k q=>spec_l1Cur_newtonPair_L16300 k ks q c z n s b K lo hi) (fun w=>∃y,w = .inr y∧y.2.1=s∧y.2.2.1=b∧y.2.2.2.1=K∧y.2.2.2.2.1.length=n∧y.2.2.2.2.2.1.length=n)
 | 0,lo,hi,c,m,h,h2,hc,hm=>Ok.step (fun k q=>spec_l1Cur_newtonPair_L16300.eq_2 k ks _ _ _ _ _ _ _ _ q) (Ok.cf (decide_eq_false (by omega)) (.pure ⟨_,rfl,rfl,rfl,rfl,by simp only;omega,by simp only;omega⟩))
 | j+1,lo,hi,c,m,h,h2,hc,hm=>by
  refine Ok.step (fun k q=>spec_l1Cur_newtonPair_L16300.eq_2 k ks _ _ _ _ _ _ _ _ q) (Ok.lt (by omega) (Ok.bind (pickK hk hc (by omega) (by omega)) fun r31 h31=>Ok.bind (dyPowS hK.1 hK.2) fun r32 h32=>Ok.ltN (by simp;omega) (Ok.bind (dyPowS hK.1 hK.2) fun r33 h33 => ?_)))
  rw [w64 (n:=2*r33) (by omega) (by omega)]
  refine Ok.bind (pickK hk h31.1 (by omega) (by omega)) fun r34 h34=>Ok.ltN (by simp;omega) ?_
  exact nearB hk (z:=z) (b:=b) (s:=s) hn hK j _ _ r34.2 (m+4) (by simp;omega) (by simp;omega) (h34.1.mono (by omega) (by omega)) (by omega)
theorem newtonPairO(hk:bytesOk ks){c:Cu}{m:Nat}(h:CurOk c m)(hm:m+4000≤1000000000):Ok (fun k _=>spec_l1Cur_newtonPair k ks c) (fun r=>syS r.1∧bxS r.2.1):=by
 refine Ok.eq (fun k q=>by rw [spec_l1Cur_newtonPair]) ?_
 refine Ok.bind (pickK hk h (by omega) (by omega)) fun r1 h1=>Ok.ite (fun _ => ?_) fun _=>Ok.ite (fun _ => ?_) fun _ => ?_
 ·exact Ok.bind (excludedO hk h1.1 (by omega)) fun r2 h2 => .pure h2
 ·refine Ok.bind (amongK hk h1.1 (by omega) (by simp) (by simp)) fun r3 h3 => ?_
  refine Ok.bth (P:=fun y=>CurOk y.1 (m+4)∧syS y.2.2.1) ?_ fun y hy => ?_
  ·exact Ok.ite (fun _ => .pure ⟨_,rfl,h3.1.mono (by omega) (by omega),by simp,by simp⟩) (fun _ => .pure ⟨_,rfl,h3.1.mono (by omega) (by omega),by simp,by simp⟩)
  ·refine Ok.bind (pickK hk hy.1 (by omega) (by omega)) fun r5 h5 => ?_
   have b5:=h5.2.2 (by omega)
   have a5:=h5.2.1
   have hK:0≤r5.1∧r5.1≤8:=by omega
   refine Ok.bind (dyPowS hK.1 hK.2) fun r6 h6=>Ok.bind (dyPowS hK.1 hK.2) fun r7 h7 => ?_
   rw [w64 (n:=2*r7) (by omega) (by omega)]
   refine Ok.bind (pickK hk h5.1 (by omega) (by omega)) fun r8 h8=>Ok.bind (dyPowS hK.1 hK.2) fun r9 h9=>Ok.bind (pickK hk h8.1 (by omega) (by omega)) fun r10 h10 => ?_
   refine Ok.bind (bxMakeO (n:=1) (by omega) (by omega) rfl rfl) fun r11 h11=>Ok.ite (fun e => .pure ⟨hy.2,(h11 e).s (by omega)⟩) (fun _ => .pure ⟨hy.2,by simp,by simp⟩)
 ·refine Ok.bind (amongK hk h1.1 (by omega) (by simp) (by simp)) fun r13 h13 => ?_
  have m13:=h13.2
  simp only [List.mem_cons,List.not_mem_nil,or_false]at m13
  obtain⟨n,hn,hn1,hn3⟩:∃n:Nat,r13.1=(n:Int)∧1≤n∧n≤3:=⟨r13.1.toNat,by omega,by omega,by omega⟩
  rw [hn]
  refine Ok.bth (Ok.diag (nearL hk hn1 hn3 n 0 r13.2 (m+4) [] (by omega) (h13.1.mono (by omega) (by omega)) (by omega) rfl (by simp))) fun y hy => ?_
  obtain⟨y1,y2,y3,y4,y5⟩:=hy
  rw [y3]
  have hs:syS y.2.2.2.1:=⟨by omega,fun r hr=>by have:=y5 r hr;omega⟩
  refine Ok.bind (coarseO hk y1 (by omega) (n:=n) (by omega)) fun r28 h28=>Ok.bind (oneK hk h28.1 (by omega) (by omega)) fun r29 h29=>Ok.ite (fun _ => ?_) (fun _ => .pure ⟨hs,h28.2.s (by omega)⟩)
  refine Ok.bind (pickK hk h29 (by omega) (by omega)) fun r30 h30 => ?_
  have b30:=h30.2.2 (by omega)
  have a30:=h30.2.1
  refine Ok.bth (Ok.diag (nearB hk (n:=n) (by omega) (K:=r30.1) (by omega) n [] [] r30.2 _ (by simp) rfl h30.1 (by omega))) fun w hw => ?_
  obtain⟨w1,w2,w3,w4,w5⟩:=hw
  rw [w1,w2,w3]
  exact Ok.bind (bxMakeO (n:=n) (by omega) (by omega) w4 w5) fun r38 h38=>Ok.ite (fun e => .pure ⟨hs,(h38 e).s (by omega)⟩) (fun _ => .pure ⟨hs,h28.2.s (by omega)⟩)
theorem drawMiddleO(hk:bytesOk ks):Ok (fun k _=>spec_DrawMiddleJacobian k ks) (fun r=>syS r.1∧bxS r.2):=by
 refine Ok.eq (fun k q=>by rw [spec_DrawMiddleJacobian]) ?_
 exact Ok.bind (newtonPairO hk curZ (by omega)) fun r1 h1 => .pure h1
end
end Go.Ev.G

namespace Go.Ev.G
open Go

theorem kn_lt{u y n B:Nat}(hu:u<y)(hn:n<B):(u*B+n) / y<B:=by
 have hy:0<y:=by omega
 rw [Nat.div_lt_iff_lt_mul hy]
 have:(u+1)*B≤y*B:=Nat.mul_le_mul_right B hu
 have e:(u+1)*B=u*B+B:=Nat.succ_mul u B
 have:B*y=y*B:=Nat.mul_comm _ _
 omega

theorem kn_mul(q y1 y0 B:Nat):q*(y1*B+y0)=q*y1*B+q*y0:=by rw [Nat.mul_add,Nat.mul_assoc]

theorem kn_exit{u y1 y0 n B q r:Nat}(hy:0<y1*B+y0)(h1:q*y1+r=u)(h2:(u*B+n) / (y1*B+y0)≤q)(h3:q*y0≤B*r+n):q=(u*B+n) / (y1*B+y0):=by
 refine Nat.le_antisymm ?_ h2
 rw [Nat.le_div_iff_mul_le hy,kn_mul,←h1,Nat.add_mul]
 have:B*r=r*B:=Nat.mul_comm _ _
 omega

theorem kn_break{u y1 y0 n B q r:Nat}(hy:0<y1*B+y0)(hy0:y0<B)(h1:q*y1+r=u)(h2:(u*B+n) / (y1*B+y0)≤q)(h3:q≤B)(h4:B≤r):q=(u*B+n) / (y1*B+y0):=by
 refine kn_exit hy h1 h2 ?_
 have a:q*y0≤B*y0:=Nat.mul_le_mul_right y0 h3
 have b:B*y0≤B*r:=Nat.mul_le_mul_left B (by omega)
 omega

theorem kn_init{u y1 y0 n B:Nat}(hy1:0<y1)(hn:n<B):(u*B+n) / (y1*B+y0)≤u / y1:=by
 rw [Nat.le_div_iff_mul_le hy1]
 have h:(u*B+n) / (y1*B+y0)*(y1*B+y0)≤u*B+n:=Nat.div_mul_le_self _ _
 rw [kn_mul]at h
 have hB:0<B:=by omega
 have h2:(u*B+n) / (y1*B+y0)*y1*B<(u+1)*B:=by rw [Nat.succ_mul];omega
 have:=Nat.lt_of_mul_lt_mul_right h2
 omega

theorem kn_most{u y1 y0 B:Nat}(hu:u<y1*B+y0)(hy0:y0<B)(hb:B≤2*y1):u / y1≤B+1:=by
 have hy:0<y1:=by omega
 have:u / y1<B+2:=by
  rw [Nat.div_lt_iff_lt_mul hy]
  have:(B+2)*y1=y1*B+2*y1:=by rw [Nat.add_mul,Nat.mul_comm]
  omega
 omega

theorem kn_join{u n1 n0 y B:Nat}(hy:0<y)(hn0:n0<B) :
  (u*B+n1) / y*B+((u*B+n1) % y*B+n0) / y=((u*B+n1)*B+n0) / y∧((u*B+n1) % y*B+n0) % y=((u*B+n1)*B+n0) % y:=by
 have e:(u*B+n1)*B+n0=y*((u*B+n1) / y*B)+((u*B+n1) % y*B+n0):=by
  conv=>lhs;rw [←Nat.div_add_mod (u*B+n1) y]
  rw [Nat.add_mul,Nat.mul_assoc,Nat.add_assoc]
 rw [e]
 generalize (u*B+n1) / y*B=p
 generalize (u*B+n1) % y*B+n0=m
 exact⟨by rw [Nat.mul_add_div hy],by rw [Nat.mul_add_mod]⟩
end Go.Ev.G

namespace Go.Ev.G
open Go Go.Ev
set_option maxRecDepth 100000

def tabB:ByteArray:=⟨#[0,1,2,2,3,3,3,3,4,4,4,4,4,4,4,4,5,5,5,5,5,5,5,5,5,5,5,5,5,5,5,5,6,6,6,6,6,6,6,6,6,6,6,6,6,6,6,6,6,6,6,6,6,6,6,6,6,6,6,6,6,6,6,6,7,7,7,7,7,7,7,7,7,7,7,7,7,7,7,7,7,7,7,7,7,7,7,7,7,7,7,7,7,7,7,7,7,7,7,7,7,7,7,7,7,7,7,7,7,7,7,7,7,7,7,7,7,7,7,7,7,7,7,7,7,7,7,7,8,8,8,8,8,8,8,8,8,8,8,8,8,8,8,8,8,8,8,8,8,8,8,8,8,8,8,8,8,8,8,8,8,8,8,8,8,8,8,8,8,8,8,8,8,8,8,8,8,8,8,8,8,8,8,8,8,8,8,8,8,8,8,8,8,8,8,8,8,8,8,8,8,8,8,8,8,8,8,8,8,8,8,8,8,8,8,8,8,8,8,8,8,8,8,8,8,8,8,8,8,8,8,8,8,8,8,8,8,8,8,8,8,8,8,8,8,8,8,8,8,8,8,8,8,8,8,8]⟩
def tab8(x:Nat):Nat:=((tabB:ByteArray).data.getD x 0).toNat
theorem tab8_all:∀x:Fin 256,x.val=0∨(1≤tab8 x.val∧tab8 x.val≤8∧2 ^ (tab8 x.val - 1)≤x.val∧x.val<2 ^ tab8 x.val):=by decide +kernel
theorem tab8_ok{x:Nat}(h0:0<x)(h:x<256):1≤tab8 x∧tab8 x≤8∧2 ^ (tab8 x - 1)≤x∧x<2 ^ tab8 x:=by
 rcases tab8_all ⟨x,h⟩with h | h
 ·simp only at h;omega
 ·exact h
def len8(x n:Nat):Option Int:=(bif (decide (0≤(IntKind.wrap .u8 (x:Int))))then(bif (decide ((IntKind.wrap .u8 (x:Int))<((tabB:ByteArray).size:Int)))then some (IntKind.wrap .i64 ((n:Int)+(IntKind.wrap .i64 ((((tabB:ByteArray).data.getD (Int.toNat (IntKind.wrap .u8 (x:Int))) 0).toNat):Int))))else none)else none)
theorem len8_eq{x n:Nat}(h:x<256)(hn:n≤56):len8 x n=some ((n+tab8 x:Nat):Int):=by
 have hw:IntKind.wrap .u8 (x:Int)=(x:Int):=by
  have:IntKind.wrap .u8 (x:Int)=(x:Int) % 256:=by rfl
  omega
 have ht:tab8 x<256:=UInt8.toNat_lt _
 unfold len8
 rw [hw,decide_eq_true (by omega),decide_eq_true (show(x:Int)<_ by show(x:Int)<256;omega)]
 simp only [cond_true,Int.toNat_natCast]
 have e:((((tabB:ByteArray).data.getD x 0).toNat:Nat):Int)=(tab8 x:Int):=rfl
 rw [e,w64 (n:=(tab8 x:Int)) (by omega) (by omega),w64 (by omega) (by omega)]
 rfl

theorem both_inr{R P β:Type}{p:P}{f:R→Option β}{g:P→Option β}:both (some (Sum.inr p)) f g=g p:=rfl
theorem len64_ok{y:Nat}(h0:0<y)(h:y<B64):∃L:Nat,math_bits_Len64 (y:Int)=some (L:Int)∧1≤L∧L≤64∧2 ^ (L - 1)≤y∧y<2 ^ L:=by
 have fin:∀(x n:Nat),0<x→x<256→n≤56→x*2 ^ n≤y→y<(x+1)*2 ^ n→∃L:Nat,len8 x n=some (L:Int)∧1≤L∧L≤64∧2 ^ (L - 1)≤y∧y<2 ^ L:=by
  intro x n hx0 hx hn h1 h2
  obtain⟨t1,t2,t3,t4⟩:=tab8_ok hx0 hx
  refine⟨n+tab8 x,len8_eq hx hn,by omega,by omega,?_,?_⟩
  ·have e:n+tab8 x - 1=(tab8 x - 1)+n:=by omega
   rw [e,Nat.pow_add]
   exact Nat.le_trans (Nat.mul_le_mul_right _ t3) h1
  ·rw [Nat.add_comm,Nat.pow_add]
   exact Nat.lt_of_lt_of_le h2 (Nat.mul_le_mul_right _ t4)
 have div:∀(x n b:Nat),x*2 ^ n≤y→y<(x+1)*2 ^ n→(x / 2 ^ b)*2 ^ (n+b)≤y∧y<(x / 2 ^ b+1)*2 ^ (n+b):=by
  intro x n b h1 h2
  have hb:0<2 ^ b:=Nat.pow_pos (by decide)
  have e1:x / 2 ^ b*2 ^ b≤x:=Nat.div_mul_le_self _ _
  have e2:x<(x / 2 ^ b+1)*2 ^ b:=by
   have:=Nat.lt_div_mul_add hb (a:=x)
   rw [Nat.add_mul,Nat.one_mul]
   omega
  rw [Nat.add_comm n b,Nat.pow_add,←Nat.mul_assoc,←Nat.mul_assoc]
  exact⟨Nat.le_trans (Nat.mul_le_mul_right _ e1) h1,Nat.lt_of_lt_of_le h2 (Nat.mul_le_mul_right _ e2)⟩
 have p64:B64=2 ^ 64:=by decide
 have hB:y<18446744073709551616:=h
  -- the stages, told by cases
 have key:∃x n:Nat,math_bits_Len64 (y:Int)=len8 x n∧0<x∧x<256∧n≤56∧x*2 ^ n≤y∧y<(x+1)*2 ^ n:=by
  have s0:y*2 ^ 0≤y∧y<(y+1)*2 ^ 0:=by simp
  unfold math_bits_Len64
  have fd:∀(a b:Nat),b≤32→Int.fdiv (a:Int) (2 ^ min (Int.toNat (b:Int)) (IntKind.bits .u64))=((a / 2 ^ b:Nat):Int):=by
   intro a b hb
   have e:min (Int.toNat (b:Int)) (IntKind.bits .u64)=b:=by simp [IntKind.bits];omega
   rw [e,fdiv_pow]
  have f32:=fun a=>fd a 32 (by omega)
  have f16:=fun a=>fd a 16 (by omega)
  have f8:=fun a=>fd a 8 (by omega)
  have w:∀(a b:Nat),a≤100→b≤100→IntKind.wrap .i64 ((a:Int)+(b:Int))=((a+b:Nat):Int):=fun a b ha hb=>by rw [w64 (by omega) (by omega)];rfl
    -- one stage each
  have st3:∀(x n:Nat),0<x→x<65536→n≤48→x*2 ^ n≤y→y<(x+1)*2 ^ n→∃x' n':Nat,(both (R:=Int) (P:=Int×Int×Unit) (bif (decide ((x:Int)≥256))then some (Sum.inr ((Int.fdiv (x:Int) (2 ^ min (Int.toNat 8) (IntKind.bits .u64))),(IntKind.wrap .i64 ((n:Int)+8)),()))else some (Sum.inr ((x:Int),(n:Int),()))) (fun q=>some q) (fun y3=>(bif (decide (0≤(IntKind.wrap .u8 y3.1)))then(bif (decide ((IntKind.wrap .u8 y3.1)<((tabB:ByteArray).size:Int)))then some (IntKind.wrap .i64 (y3.2.1+(IntKind.wrap .i64 ((((tabB:ByteArray).data.getD (Int.toNat (IntKind.wrap .u8 y3.1)) 0).toNat):Int))))else none)else none)))=len8 x' n'∧0<x'∧x'<256∧n'≤56∧x'*2 ^ n'≤y∧y<(x'+1)*2 ^ n':=by
   intro x n hx0 hx hn h1 h2
   by_cases hc:256≤x
   ·refine⟨x / 2 ^ 8,n+8,?_,?_,?_,by omega,(div x n 8 h1 h2).1,(div x n 8 h1 h2).2⟩
    ·rw [decide_eq_true (by omega),cond_true,show(Int.fdiv (x:Int) (2 ^ min (Int.toNat 8) (IntKind.bits .u64)))=((x / 2 ^ 8:Nat):Int)from f8 x,show IntKind.wrap .i64 ((n:Int)+8)=((n+8:Nat):Int)from w n 8 (by omega) (by omega)]
     rfl
    ·omega
    ·omega
   ·refine⟨x,n,?_,hx0,by omega,by omega,h1,h2⟩
    rw [decide_eq_false (by omega),cond_false]
    rfl
  have st2:∀(x n:Nat),0<x→x<4294967296→n≤32→x*2 ^ n≤y→y<(x+1)*2 ^ n→∃x' n':Nat,(bif (decide ((x:Int)≥65536))then some (Sum.inr ((Int.fdiv (x:Int) (2 ^ min (Int.toNat 16) (IntKind.bits .u64))),(IntKind.wrap .i64 ((n:Int)+16)),()))else some (Sum.inr ((x:Int),(n:Int),())):Option (Int ⊕ (Int×Int×Unit)))=some (.inr ((x':Int),(n':Int),()))∧0<x'∧x'<65536∧n'≤48∧x'*2 ^ n'≤y∧y<(x'+1)*2 ^ n':=by
   intro x n hx0 hx hn h1 h2
   by_cases hc:65536≤x
   ·refine⟨x / 2 ^ 16,n+16,?_,?_,?_,by omega,(div x n 16 h1 h2).1,(div x n 16 h1 h2).2⟩
    ·rw [decide_eq_true (by omega),cond_true,show(Int.fdiv (x:Int) (2 ^ min (Int.toNat 16) (IntKind.bits .u64)))=((x / 2 ^ 16:Nat):Int)from f16 x,show IntKind.wrap .i64 ((n:Int)+16)=((n+16:Nat):Int)from w n 16 (by omega) (by omega)]
    ·omega
    ·omega
   ·refine⟨x,n,?_,hx0,by omega,by omega,h1,h2⟩
    rw [decide_eq_false (by omega),cond_false]
  have st1:∃x' n':Nat,(bif (decide ((y:Int)≥4294967296))then some (Sum.inr ((Int.fdiv (y:Int) (2 ^ min (Int.toNat 32) (IntKind.bits .u64))),(32:Int),()))else some (Sum.inr ((y:Int),(0:Int),())):Option (Int ⊕ (Int×Int×Unit)))=some (.inr ((x':Int),(n':Int),()))∧0<x'∧x'<4294967296∧n'≤32∧x'*2 ^ n'≤y∧y<(x'+1)*2 ^ n':=by
   by_cases hc:4294967296≤y
   ·refine⟨y / 2 ^ 32,32,?_,?_,?_,by omega,(div y 0 32 s0.1 s0.2).1,(div y 0 32 s0.1 s0.2).2⟩
    ·rw [decide_eq_true (by omega),cond_true,show(Int.fdiv (y:Int) (2 ^ min (Int.toNat 32) (IntKind.bits .u64)))=((y / 2 ^ 32:Nat):Int)from f32 y]
     rfl
    ·omega
    ·omega
   ·refine⟨y,0,?_,h0,by omega,by omega,s0.1,s0.2⟩
    rw [decide_eq_false (by omega),cond_false]
    rfl
  obtain⟨x1,n1,e1,a1,a2,a3,a4,a5⟩:=st1
  obtain⟨x2,n2,e2,b1,b2,b3,b4,b5⟩:=st2 x1 n1 a1 a2 a3 a4 a5
  obtain⟨x3,n3,e3,c1,c2,c3,c4,c5⟩:=st3 x2 n2 b1 b2 b3 b4 b5
  refine⟨x3,n3,?_,c1,c2,c3,c4,c5⟩
  simp only [e1,both_inr,e2]
  exact e3
 obtain⟨x,n,e,k1,k2,k3,k4,k5⟩:=key
 rw [e]
 exact fin x n k1 k2 k3 k4 k5

theorem dv_loop1{y1 y0 u n:Nat}{x2 x8 x11 x14:Int}(hy1:2147483648≤y1)(hy1':y1<4294967296)(hy0:y0<4294967296)(hn:n<4294967296)(hu:u<y1*4294967296+y0):∀(d q r:Nat),q=(u*4294967296+n) / (y1*4294967296+y0)+d→q*y1+r=u→r<4294967296→q≤4294967297 →
  Evt (fun k m=>math_bits_Div64_L131068 k m x2 x8 (y1:Int) (y0:Int) x11 (n:Int) x14 (q:Int) (r:Int)) (.inr (x2,x8,(y1:Int),(y0:Int),x11,(n:Int),x14,(((u*4294967296+n) / (y1*4294967296+y0):Nat):Int),())):=by
 have hy:0<y1*4294967296+y0:=by omega
 have hqt:=kn_lt (n:=n) hu hn
 have hstep:=fun(k m:Nat) (q r:Int)=>math_bits_Div64_L131068.eq_2 k x2 x8 (y1:Int) (y0:Int) x11 (n:Int) x14 q r m
 have ex1 := @kn_exit u y1 y0 n 4294967296
 have ex2 := @kn_break u y1 y0 n 4294967296
 have ex3:((u*4294967296+n) / (y1*4294967296+y0))*(y1*4294967296+y0)≤u*4294967296+n:=Nat.div_mul_le_self _ _
 generalize (u*4294967296+n) / (y1*4294967296+y0)=qt at hqt ex1 ex2 ex3 ⊢
 intro d
 induction d with
 | zero =>
  intro q r hq hr hrB hqB
  rw [Nat.add_zero]at hq
  have hle:q*y0≤4294967296*r+n:=by
   have h1:q*(y1*4294967296+y0)≤u*4294967296+n:=by rw [hq];exact ex3
   rw [kn_mul,←hr,Nat.add_mul]at h1
   omega
  refine Evt.step (fun k m=>hstep k m q r) ?_
  have hb:q*y0≤4294967296*4294967295:=Nat.mul_le_mul (by omega) (by omega)
  refine Evt.cfalse (decide_eq_false (by omega)) (Evt.cfalse (decide_eq_false ?_) ?_)
  ·have e1:(q:Int)*(y0:Int)=((q*y0:Nat):Int):=by simp
   rw [e1,wu64 (n:=((q*y0:Nat):Int)) (by omega) (by omega),wu64 (n:=4294967296*(r:Int)) (by omega) (by omega),wu64 (by omega) (by omega)]
   omega
  ·rw [←hq]
   exact .pure
 | succ d ih =>
  intro q r hq hr hrB hqB
  have hne : ¬ q*y0≤4294967296*r+n:=by
   intro hle
   have:=ex1 hy hr (by omega) hle
   omega
  have hgo:Evt (fun k m=>(bif (decide ((IntKind.wrap .u64 ((r:Int)+(y1:Int)))≥4294967296))then some (Sum.inr (x2,x8,(y1:Int),(y0:Int),x11,(n:Int),x14,(IntKind.wrap .u64 ((q:Int) - 1)),()))else(math_bits_Div64_L131068 k m x2 x8 (y1:Int) (y0:Int) x11 (n:Int) x14 (IntKind.wrap .u64 ((q:Int) - 1)) (IntKind.wrap .u64 ((r:Int)+(y1:Int)))))) (.inr  (x2,x8,(y1:Int),(y0:Int),x11,(n:Int),x14,(qt:Int),())):=by
   have w1:IntKind.wrap .u64 ((r:Int)+(y1:Int))=((r+y1:Nat):Int):=by rw [wu64 (by omega) (by omega)];rfl
   have w2:IntKind.wrap .u64 ((q:Int) - 1)=((q - 1:Nat):Int):=by rw [wu64 (by omega) (by omega)];omega
   have hr':(q - 1)*y1+(r+y1)=u:=by
    have:q=(q - 1)+1:=by omega
    rw [this,Nat.add_mul,Nat.one_mul]at hr
    omega
   rw [w1,w2]
   by_cases hc:4294967296≤r+y1
   ·have:=ex2 hy hy0 hr' (by omega) (by omega) hc
    rw [←this]
    exact Evt.ctrue (decide_eq_true (by omega)) .pure
   ·exact Evt.cfalse (decide_eq_false (by omega)) (ih (q - 1) (r+y1) (by omega) hr' (by omega) (by omega))
  refine Evt.step (fun k m=>hstep k m q r) ?_
  by_cases hB:4294967296≤q
  ·exact Evt.ctrue (decide_eq_true (by omega)) hgo
  ·have hb:q*y0≤4294967296*4294967295:=Nat.mul_le_mul (by omega) (by omega)
   refine Evt.cfalse (decide_eq_false (by omega)) (Evt.ctrue (decide_eq_true ?_) hgo)
   have e1:(q:Int)*(y0:Int)=((q*y0:Nat):Int):=by simp
   rw [e1,wu64 (n:=((q*y0:Nat):Int)) (by omega) (by omega),wu64 (n:=4294967296*(r:Int)) (by omega) (by omega),wu64 (by omega) (by omega)]
   omega

theorem dv_loop2{y1 y0 u n:Nat}{x2 x8 x15 x17:Int}(hy1:2147483648≤y1)(hy1':y1<4294967296)(hy0:y0<4294967296)(hn:n<4294967296)(hu:u<y1*4294967296+y0):∀(d q r:Nat),q=(u*4294967296+n) / (y1*4294967296+y0)+d→q*y1+r=u→r<4294967296→q≤4294967297 →
  Evt (fun k m=>math_bits_Div64_L2097148 k m x2 x8 (y1:Int) (y0:Int) (n:Int) x15 (r:Int) x17 (q:Int)) (.inr (x2,x8,(n:Int),x15,x17,(((u*4294967296+n) / (y1*4294967296+y0):Nat):Int),())):=by
 have hy:0<y1*4294967296+y0:=by omega
 have hqt:=kn_lt (n:=n) hu hn
 have hstep:=fun(k m:Nat) (q r:Int)=>math_bits_Div64_L2097148.eq_2 k x2 x8 (y1:Int) (y0:Int) (n:Int) x15 r x17 q m
 have ex1 := @kn_exit u y1 y0 n 4294967296
 have ex2 := @kn_break u y1 y0 n 4294967296
 have ex3:((u*4294967296+n) / (y1*4294967296+y0))*(y1*4294967296+y0)≤u*4294967296+n:=Nat.div_mul_le_self _ _
 generalize (u*4294967296+n) / (y1*4294967296+y0)=qt at hqt ex1 ex2 ex3 ⊢
 intro d
 induction d with
 | zero =>
  intro q r hq hr hrB hqB
  rw [Nat.add_zero]at hq
  have hle:q*y0≤4294967296*r+n:=by
   have h1:q*(y1*4294967296+y0)≤u*4294967296+n:=by rw [hq];exact ex3
   rw [kn_mul,←hr,Nat.add_mul]at h1
   omega
  refine Evt.step (fun k m=>hstep k m q r) ?_
  have hb:q*y0≤4294967296*4294967295:=Nat.mul_le_mul (by omega) (by omega)
  refine Evt.cfalse (decide_eq_false (by omega)) (Evt.cfalse (decide_eq_false ?_) ?_)
  ·have e1:(q:Int)*(y0:Int)=((q*y0:Nat):Int):=by simp
   rw [e1,wu64 (n:=((q*y0:Nat):Int)) (by omega) (by omega),wu64 (n:=4294967296*(r:Int)) (by omega) (by omega),wu64 (by omega) (by omega)]
   omega
  ·rw [←hq]
   exact .pure
 | succ d ih =>
  intro q r hq hr hrB hqB
  have hne : ¬ q*y0≤4294967296*r+n:=by
   intro hle
   have:=ex1 hy hr (by omega) hle
   omega
  have hgo:Evt (fun k m=>(bif (decide ((IntKind.wrap .u64 ((r:Int)+(y1:Int)))≥4294967296))then some (Sum.inr (x2,x8,(n:Int),x15,x17,(IntKind.wrap .u64 ((q:Int) - 1)),()))else(math_bits_Div64_L2097148 k m x2 x8 (y1:Int) (y0:Int) (n:Int) x15 (IntKind.wrap .u64 ((r:Int)+(y1:Int))) x17 (IntKind.wrap .u64 ((q:Int) - 1))))) (.inr  (x2,x8,(n:Int),x15,x17,(qt:Int),())):=by
   have w1:IntKind.wrap .u64 ((r:Int)+(y1:Int))=((r+y1:Nat):Int):=by rw [wu64 (by omega) (by omega)];rfl
   have w2:IntKind.wrap .u64 ((q:Int) - 1)=((q - 1:Nat):Int):=by rw [wu64 (by omega) (by omega)];omega
   have hr':(q - 1)*y1+(r+y1)=u:=by
    have:q=(q - 1)+1:=by omega
    rw [this,Nat.add_mul,Nat.one_mul]at hr
    omega
   rw [w1,w2]
   by_cases hc:4294967296≤r+y1
   ·have:=ex2 hy hy0 hr' (by omega) (by omega) hc
    rw [←this]
    exact Evt.ctrue (decide_eq_true (by omega)) .pure
   ·exact Evt.cfalse (decide_eq_false (by omega)) (ih (q - 1) (r+y1) (by omega) hr' (by omega) (by omega))
  refine Evt.step (fun k m=>hstep k m q r) ?_
  by_cases hB:4294967296≤q
  ·exact Evt.ctrue (decide_eq_true (by omega)) hgo
  ·have hb:q*y0≤4294967296*4294967295:=Nat.mul_le_mul (by omega) (by omega)
   refine Evt.cfalse (decide_eq_false (by omega)) (Evt.ctrue (decide_eq_true ?_) hgo)
   have e1:(q:Int)*(y0:Int)=((q*y0:Nat):Int):=by simp
   rw [e1,wu64 (n:=((q*y0:Nat):Int)) (by omega) (by omega),wu64 (n:=4294967296*(r:Int)) (by omega) (by omega),wu64 (by omega) (by omega)]
   omega

theorem u64N(n:Nat)(h:n<B64):IntKind.wrap .u64 (n:Int)=(n:Int):=by rw [wu64_mod,Nat.mod_eq_of_lt h]
theorem mask32{a:Nat}(h:a<B64):IntKind.wrap .u64 (BitVec.toNat (BitVec.ofInt (IntKind.bits .u64) (a:Int) &&& BitVec.ofInt (IntKind.bits .u64) 4294967295):Int)=((a % 4294967296:Nat):Int):=by
 have e:(BitVec.toNat (BitVec.ofInt (IntKind.bits .u64) (a:Int) &&& BitVec.ofInt (IntKind.bits .u64) 4294967295):Nat)=a % 4294967296:=by
  rw [BitVec.toNat_and]
  have h1:(BitVec.ofInt (IntKind.bits .u64) (a:Int)).toNat=a:=by
   rw [BitVec.toNat_ofInt]
   simp only [IntKind.bits]
   have:B64=18446744073709551616:=rfl
   omega
  have h2:(BitVec.ofInt (IntKind.bits .u64) 4294967295).toNat=2 ^ 32 - 1:=by decide
  rw [h1,h2,Nat.and_two_pow_sub_one_eq_mod]
 rw [e,u64N _ (by have:B64=18446744073709551616:=rfl;omega)]
theorem sub_w{a b c r:Nat}(h:a+b=c+r)(hr:r<B64)(hb:b<B64):IntKind.wrap .u64 ((IntKind.wrap .u64 ((IntKind.wrap .u64 (a:Int))+(b:Int))) - (IntKind.wrap .u64 (c:Int)))=(r:Int):=by
 have:B64=18446744073709551616:=rfl
 rw [IntKind.wrap_u64,IntKind.wrap_u64,IntKind.wrap_u64,IntKind.wrap_u64]
 omega
theorem sub_w0{a c r:Nat}(h:a=c+r)(hr:r<B64)(ha:a<B64):IntKind.wrap .u64 ((a:Int) - (IntKind.wrap .u64 (c:Int)))=(r:Int):=by
 have:B64=18446744073709551616:=rfl
 rw [IntKind.wrap_u64,IntKind.wrap_u64]
 omega

theorem mk_w{a b:Nat}(ha:a<4294967296)(hb:b<4294967296):IntKind.wrap .u64 ((IntKind.wrap .u64 ((a:Int)*4294967296))+(b:Int))=((a*4294967296+b:Nat):Int):=by
 rw [wu64 (n:=(a:Int)*4294967296) (by omega) (by omega),wu64 (by omega) (by omega)]
 simp
theorem e4_w{u n1 n0 z:Nat}(h:n1*4294967296+n0=z):u*B64+z=(u*4294967296+n1)*4294967296+n0:=by
 subst h
 have hB:B64=4294967296*4294967296:=by decide
 rw [hB,←Nat.mul_assoc,Nat.add_mul (u*4294967296),Nat.add_assoc]
set_option maxHeartbeats 1000000 in
theorem div64_ev{hi lo y:Nat}(hhi:hi<y)(hlo:lo<B64)(hy:y<B64):Evt (fun k _=>math_bits_Div64 k (hi:Int) (lo:Int) (y:Int)) ((((hi*B64+lo) / y:Nat):Int),(((hi*B64+lo) % y:Nat):Int)):=by
 have hB:B64=18446744073709551616:=rfl
 refine Evt.eq (f:=fun k q=>_) ?_ (fun k q=>by rw [math_bits_Div64])
 have hy0:0<y:=by omega
 refine Evt.cfalse (by simp;omega) (Evt.cfalse (decide_eq_false (by omega)) ?_)
 by_cases h0:hi=0
 ·subst h0
  refine Evt.ctrue rfl (Evt.cfalse (by simp;omega) (Evt.cfalse (by simp;omega) ?_))
  have e1:Int.tdiv (lo:Int) (y:Int)=((lo / y:Nat):Int):=rfl
  have e2:Int.tmod (lo:Int) (y:Int)=((lo % y:Nat):Int):=rfl
  rw [e1,e2,u64N _ (Nat.lt_of_le_of_lt (Nat.div_le_self _ _) hlo),Nat.zero_mul,Nat.zero_add]
  exact .pure
 ·refine Evt.cfalse (by simp;omega) ?_
  obtain⟨L,hL,l1,l2,l3,l4⟩:=len64_ok hy0 hy
  have hlz:math_bits_LeadingZeros64 (y:Int)=some ((64 - L:Nat):Int):=by
   unfold math_bits_LeadingZeros64
   rw [hL]
   simp only [Option.bind_some]
   rw [w64 (by omega) (by omega)]
   congr 1
   omega
  generalize hs:64 - L=s at hlz
  have hsL:s+L=64:=by omega
  have hY:y*2 ^ s<B64:=by
   have:=Nat.mul_lt_mul_of_pos_right l4 (Nat.pow_pos (a:=2) (n:=s) (by decide))
   rw [←Nat.pow_add,Nat.add_comm L s,hsL]at this
   exact this
  have hY2:9223372036854775808≤y*2 ^ s:=by
   have:=Nat.mul_le_mul_right (2 ^ s) l3
   rw [←Nat.pow_add,show L - 1+s=63 by omega]at this
   exact this
  have hp64:2 ^ (64 - s)*2 ^ s=B64:=by rw [←Nat.pow_add,show 64 - s+s=64 by omega];rfl
  have hs64:s≤63:=by omega
  have hps:0<2 ^ s:=Nat.pow_pos (by decide)
  refine Evt.bind (.const hlz) ?_
  have w1:IntKind.wrap .u64 ((s:Nat):Int)=(s:Int):=u64N s (by omega)
  have w2:IntKind.wrap .u64 (64 - (s:Int))=((64 - s:Nat):Int):=by rw [wu64 (by omega) (by omega)];omega
  have m1:min (Int.toNat (s:Int)) (IntKind.bits .u64)=s:=by simp [IntKind.bits];omega
  have m2:min (Int.toNat ((64 - s:Nat):Int)) (IntKind.bits .u64)=64 - s:=by simp [IntKind.bits]
  have m3:min (Int.toNat 32) (IntKind.bits .u64)=32:=by simp [IntKind.bits]
  have hhs:hi*2 ^ s<y*2 ^ s:=Nat.mul_lt_mul_of_pos_right hhi hps
  have a1:IntKind.wrap .u64 ((y:Int)*2 ^ s)=((y*2 ^ s:Nat):Int):=by rw [mul_powN,u64N _ hY]
  have a2:IntKind.wrap .u64 ((hi:Int)*2 ^ s)=((hi*2 ^ s:Nat):Int):=by rw [mul_powN,u64N _ (by omega)]
  have a3:IntKind.wrap .u64 ((lo:Int)*2 ^ s)=((lo*2 ^ s % B64:Nat):Int):=by rw [mul_powN,wu64_mod]
  have hlt:lo / 2 ^ (64 - s)<2 ^ s:=by
   rw [Nat.div_lt_iff_lt_mul (Nat.pow_pos (by decide)),Nat.mul_comm,hp64]
   exact hlo
  have a4:IntKind.wrap .u64 (BitVec.toNat (BitVec.ofInt (IntKind.bits .u64) ((hi*2 ^ s:Nat):Int) ||| BitVec.ofInt (IntKind.bits .u64) (((lo / 2 ^ (64 - s):Nat)):Int)):Int)=((hi*2 ^ s+lo / 2 ^ (64 - s):Nat):Int):=by
   have hb2:lo / 2 ^ (64 - s)<B64:=Nat.lt_of_le_of_lt (Nat.div_le_self _ _) hlo
   rw [orw (by omega) hb2,or_add s hlt (by omega)]
   refine u64N _ ?_
   have:(hi+1)*2 ^ s≤y*2 ^ s:=Nat.mul_le_mul_right _ hhi
   rw [Nat.add_mul,Nat.one_mul]at this
   omega
  have hdiv:lo*2 ^ s / B64=lo / 2 ^ (64 - s):=by rw [←hp64,Nat.mul_div_mul_right _ _ hps]
  have hN:(hi*B64+lo)*2 ^ s=(hi*2 ^ s+lo / 2 ^ (64 - s))*B64+lo*2 ^ s % B64:=by
   have:=Nat.div_add_mod (lo*2 ^ s) B64
   rw [hdiv]at this
   rw [Nat.add_mul,Nat.add_mul,Nat.mul_right_comm]
   rw [Nat.mul_comm (lo / 2 ^ (64 - s)) B64]
   omega
  have hu:hi*2 ^ s+lo / 2 ^ (64 - s)<y*2 ^ s:=by
   have:(hi+1)*2 ^ s≤y*2 ^ s:=Nat.mul_le_mul_right _ hhi
   rw [Nat.add_mul,Nat.one_mul]at this
   omega
  simp only [w1,w2,m1,m2,m3,fdiv_pow,a1,a2,a3,a4]
  have hun10:lo*2 ^ s % B64<B64:=Nat.mod_lt _ (by decide)
  have hqN:(hi*B64+lo) / y=(hi*B64+lo)*2 ^ s / (y*2 ^ s):=(Nat.mul_div_mul_right _ _ hps).symm
  have hrN:(hi*B64+lo) % y=(hi*B64+lo)*2 ^ s % (y*2 ^ s) / 2 ^ s:=by rw [Nat.mul_mod_mul_right,Nat.mul_div_cancel _ hps]
  rw [hqN,hrN,hN]
  generalize hi*2 ^ s+lo / 2 ^ (64 - s)=u at hu ⊢
  generalize lo*2 ^ s % B64=z at hun10 ⊢
  generalize y*2 ^ s=Y at hY hY2 hu ⊢
  rw [mask32 hY,mask32 hun10]
  have p32:(2:Nat) ^ 32=4294967296:=by decide
  rw [p32]
  have hy1:2147483648≤Y / 4294967296:=by omega
  have hy1':Y / 4294967296<4294967296:=by omega
  have hyy:Y / 4294967296*4294967296+Y % 4294967296=Y:=Nat.div_add_mod' Y 4294967296
  have hz:z / 4294967296*4294967296+z % 4294967296=z:=Nat.div_add_mod' z 4294967296
  have hz1:z / 4294967296<4294967296:=by omega
  have hz0:z % 4294967296<4294967296:=Nat.mod_lt _ (by decide)
  have hyl:Y % 4294967296<4294967296:=Nat.mod_lt _ (by decide)
  generalize Y / 4294967296=y1 at hy1 hy1' hyy ⊢
  generalize Y % 4294967296=y0 at hyl hyy ⊢
  generalize z / 4294967296=n1 at hz hz1 ⊢
  generalize z % 4294967296=n0 at hz hz0 ⊢
  subst hyy
    -- a guess and what is left
  have guess:∀(v n:Nat),v<y1*4294967296+y0→n<4294967296→IntKind.wrap .u64 (Int.tdiv (v:Int) (y1:Int))=((v / y1:Nat):Int)∧IntKind.wrap .u64 ((v:Int) - (IntKind.wrap .u64 (((v / y1:Nat):Int)*(y1:Int))))=((v % y1:Nat):Int)∧v / y1≤4294967297∧(∃d,v / y1=(v*4294967296+n) / (y1*4294967296+y0)+d)∧v / y1*y1+v % y1=v∧v % y1<4294967296:=by
   intro v n hv hn
   have hd:v / y1*y1+v % y1=v:=by rw [Nat.mul_comm];exact Nat.div_add_mod v y1
   have hm:v % y1<y1:=Nat.mod_lt _ (by omega)
   refine⟨?_,?_,kn_most hv hyl (by omega),?_,hd,by omega⟩
   ·exact u64N (v / y1) (Nat.lt_of_le_of_lt (Nat.div_le_self _ _) (by omega))
   ·have e:((v / y1:Nat):Int)*(y1:Int)=((v / y1*y1:Nat):Int):=by simp
    rw [e]
    exact sub_w0 hd.symm (by omega) (by omega)
   ·have:=kn_init (u:=v) (y0:=y0) (B:=4294967296) (show 0<y1 by omega) hn
    exact⟨v / y1 - (v*4294967296+n) / (y1*4294967296+y0),by omega⟩
  obtain⟨g1,g2,g3,⟨d1,g4⟩,g5,g6⟩:=guess u n1 hu hz1
  refine Evt.cfalse (decide_eq_false (by omega)) (Evt.cfalse (decide_eq_false (by omega)) (Evt.cfalse (decide_eq_false (by omega)) (Evt.cfalse (decide_eq_false (by omega)) (Evt.cfalse (by simp;omega) ?_))))
  rw [g1,g2]
  refine Evt.inr (Evt.diag (dv_loop1 hy1 hy1' hyl hz1 hu d1 _ _ g4 g5 g6 g3)) ?_
  dsimp only
  refine Evt.cfalse (by simp;omega) ?_
  have hq1:=kn_lt (n:=n1) hu hz1
  have hdm:(u*4294967296+n1) / (y1*4294967296+y0)*(y1*4294967296+y0)+(u*4294967296+n1) % (y1*4294967296+y0)=u*4294967296+n1:=by rw [Nat.mul_comm];exact Nat.div_add_mod _ _
  have hr1:(u*4294967296+n1) % (y1*4294967296+y0)<y1*4294967296+y0:=Nat.mod_lt _ (by omega)
  have hj:=kn_join (u:=u) (n1:=n1) (n0:=n0) (y:=y1*4294967296+y0) (B:=4294967296) (by omega) hz0
  obtain⟨q1,q1e⟩:∃q,q=(u*4294967296+n1) / (y1*4294967296+y0):=⟨_,rfl⟩
  rw [←q1e]at hq1 hdm hj ⊢
  obtain⟨r1,r1e⟩:∃q,q=(u*4294967296+n1) % (y1*4294967296+y0):=⟨_,rfl⟩
  rw [←r1e]at hr1 hdm hj
  have s1:IntKind.wrap .u64 ((IntKind.wrap .u64 ((IntKind.wrap .u64 ((u:Int)*4294967296))+(n1:Int))) - (IntKind.wrap .u64 ((q1:Int)*((y1*4294967296+y0:Nat):Int))))=(r1:Int):=by
   have e1:(u:Int)*4294967296=((u*4294967296:Nat):Int):=by simp
   have e2:(q1:Int)*((y1*4294967296+y0:Nat):Int)=((q1*(y1*4294967296+y0):Nat):Int):=by simp
   rw [e1,e2]
   exact sub_w hdm.symm (Nat.lt_trans hr1 hY) (Nat.lt_trans hz1 (by decide))
  rw [s1]
  obtain⟨k1,k2,k3,⟨d2,k4⟩,k5,k6⟩:=guess r1 n0 hr1 hz0
  rw [k1,k2]
  refine Evt.inr (Evt.diag (dv_loop2 hy1 hy1' hyl hz0 hr1 d2 _ _ k4 k5 k6 k3)) ?_
  dsimp only
  refine Evt.cfalse (decide_eq_false (by omega)) ?_
  have hq0:=kn_lt (n:=n0) hr1 hz0
  have hdm2:(r1*4294967296+n0) / (y1*4294967296+y0)*(y1*4294967296+y0)+(r1*4294967296+n0) % (y1*4294967296+y0)=r1*4294967296+n0:=by rw [Nat.mul_comm];exact Nat.div_add_mod _ _
  have hr0:(r1*4294967296+n0) % (y1*4294967296+y0)<y1*4294967296+y0:=Nat.mod_lt _ (by omega)
  obtain⟨q0,q0e⟩:∃q,q=(r1*4294967296+n0) / (y1*4294967296+y0):=⟨_,rfl⟩
  rw [←q0e]at hq0 hdm2 hj ⊢
  obtain⟨r0,r0e⟩:∃q,q=(r1*4294967296+n0) % (y1*4294967296+y0):=⟨_,rfl⟩
  rw [←r0e]at hr0 hdm2 hj
  have s2:IntKind.wrap .u64 ((IntKind.wrap .u64 ((IntKind.wrap .u64 ((r1:Int)*4294967296))+(n0:Int))) - (IntKind.wrap .u64 ((q0:Int)*((y1*4294967296+y0:Nat):Int))))=(r0:Int):=by
   have e1:(r1:Int)*4294967296=((r1*4294967296:Nat):Int):=by simp
   have e2:(q0:Int)*((y1*4294967296+y0:Nat):Int)=((q0*(y1*4294967296+y0):Nat):Int):=by simp
   rw [e1,e2]
   exact sub_w hdm2.symm (Nat.lt_trans hr0 hY) (Nat.lt_trans hz0 (by decide))
  have s3:IntKind.wrap .u64 ((IntKind.wrap .u64 ((q1:Int)*4294967296))+(q0:Int))=((q1*4294967296+q0:Nat):Int):=by
   exact mk_w hq1 hq0
  rw [s2,s3,m1,fdiv_pow]
  have e4:u*B64+z=(u*4294967296+n1)*4294967296+n0:=e4_w hz
  rw [e4,←hj.1,←hj.2]
  exact .pure
end Go.Ev.G

namespace Go.Ev.G
open Go Go.Ev
set_option maxRecDepth 100000

theorem tmod2N(n:Nat):Int.tmod (n:Int) 2=((n % 2:Nat):Int):=rfl
theorem rO_none{a:Int×Int}{j:Nat}(h:rO a j=none):∀ {m:Nat},rO a (j+m)=none
 | 0=>h
 | m+1=>by
  have:=rO_none h (m:=m)
  rw [←Nat.add_assoc,rO,this]
theorem ivRaise_loop{a z:Int×Int}(ha:gd a){N:Nat}(hN:N≤4):∀(m j:Nat) (t:Int×Int),j+m=N→rO a j=some t→Evt (fun k n=>spec_ivRaise_L28 k n m a z t) (match rO a N with | some v => .inr (z,v,()) | none => .inl ((0,0),false))
 | 0,j,t,hj,ht=>by
  refine Evt.step (fun k n=>spec_ivRaise_L28.eq_2 k _ _ _ _ n) (Evt.cfalse rfl ?_)
  have:j=N:=by omega
  rw [←this,ht]
  exact .pure
 | m+1,j,t,hj,ht=>by
  refine Evt.step (fun k n=>spec_ivRaise_L28.eq_2 k _ _ _ _ n) (Evt.ctrue (decide_eq_true (by omega)) ?_)
  refine Evt.bind (mul1_ev (rO_gd ht) ha) ?_
  have e:rO a (j+1)=prO (t,a):=by rw [rO,ht]
  cases h:prO (t,a)with
  | none =>
   rw [h]at e
   have:=rO_none e (m:=m)
   rw [show j+1+m=N by omega]at this
   rw [this]
   exact Evt.ctrue rfl .pure
  | some v =>
   rw [h]at e
   refine Evt.cfalse rfl ?_
   have w:IntKind.wrap .i64 (((m+1:Nat):Int) - 1)=(m:Int):=by rw [w64 (by omega) (by omega)];omega
   rw [w]
   exact ivRaise_loop ha hN m (j+1) v (by omega) e
theorem ivRaise_ev{a:Int×Int}{n:Nat}(ha:gd a)(hn:n≤4):Evt (fun k _=>spec_ivRaise k a n) (match rO a n with | some v=>(v,true) | none=>((0,0),false)):=by
 refine Evt.eq (f:=fun k q=>_) ?_ (fun k q=>by rw [spec_ivRaise])
 refine Evt.bind (.const rfl) ?_
 have h:=ivRaise_loop (z:=(0,0)) ha hn n 0 (1,0) (by omega) rfl
 cases hr:rO a n with
 | none=>rw [hr]at h;exact Evt.inl (Evt.diag h) .pure
 | some v=>rw [hr]at h;exact Evt.inr (Evt.diag h) .pure
theorem ivZero_eq(i:Iv):spec_ivZero i=some (zin i):=by
 unfold spec_ivZero zin
 cases h:decide (i.1.1≤0) <;> simp
theorem foldE_iv{x:Int×Int}:∀ {xs:Pt} {s:Iv},gdI s→(∀y∈xs,gd y)→gdI (foldE s xs)
 | [],s,hs,_=>hs
 | y::r,s,hs,h=>by
  unfold foldE
  exact foldE_iv (x:=x) ⟨minD_gd hs.1 (h y (by simp)),maxD_gd hs.2 (h y (by simp))⟩ (fun z hz=>h z (by simp [hz]))
theorem ivPower_ev{i:Iv}{n:Nat}(hi:ivGd i)(hn:n≤4):Evt (fun k _=>spec_ivPower k i n) (oI (powO i n)):=by
 refine Evt.eq (f:=fun k q=>_) ?_ (fun k q=>by rw [spec_ivPower])
 refine Evt.bind (ivRaise_ev hi.1 hn) (Evt.bind (ivRaise_ev hi.2.1 hn) ?_)
 by_cases h0:n=0
 ·subst h0
  refine Evt.cfalse rfl (Evt.cfalse rfl ?_)
  refine Evt.inr (y:=(((0,0),0,0),[(1,0),(1,0)],())) (Evt.cfalse rfl .pure) ?_
  refine Evt.bind (ivEnds_ev (x:=(1,0)) (xs := [(1,0)]) (by simp [one_gd]) (by simp [lenB])) ?_
  have e:foldE ((1,0),1,0) [(1,0),(1,0)]=((1,0),1,0):=by decide
  rw [e]
  refine Evt.bind (ivRound_ev (p:=16) ⟨one_gd,one_gd⟩ (by omega)) ?_
  rw [rdI_one]
  exact .pure
 ·unfold powO
  rw [if_neg h0]
  cases h1:rO i.1 n with
  | none=>exact Evt.ctrue rfl .pure
  | some l =>
   refine Evt.cfalse rfl ?_
   cases h2:rO i.2 n with
   | none=>exact Evt.ctrue rfl .pure
   | some h =>
    refine Evt.cfalse rfl ?_
    have gl:=rO_gd h1
    have gh:=rO_gd h2
    have g0:gd (0,0):=by decide
    have ends:=pow_ends hi hn h0 h1 h2
    have tm:Int.tmod (n:Int) 2=((n % 2:Nat):Int):=tmod2N n
    have fin:∀xs:Pt,(∀y∈l::xs,gd y)→(l::xs).length≤3→Evt (fun k _=>Option.bind (spec_ivEnds k (l::xs)) fun r6=>Option.bind (spec_ivRound k r6 16) fun r7=>some (r7,true)) (rdI 16 (foldE (l,l) (l::xs)),true):=by
     intro xs hx hlen
     refine Evt.bind (ivEnds_ev (x:=l) (xs:=xs) hx (by simp only [lenB];omega)) (Evt.bind (ivRound_ev (p:=16) (foldE_iv (x:=l) ⟨gl,gl⟩ hx) (by omega)) .pure)
    by_cases he:n % 2=0
    ·cases hz:zin i with
     | true =>
      refine Evt.inr (y:=(((0,0),0,0),[l,h,(0,0)],())) (Evt.ctrue (decide_eq_true (by omega)) (Evt.ctrue (by rw [tm,he];rfl) (Evt.bind (.const (ivZero_eq i)) ?_))) ?_
      ·rw [hz]
       exact Evt.ctrue rfl (Evt.bind (.const rfl) (Evt.ctrue rfl .pure))
      ·rw [if_pos ⟨he,hz⟩]at ends
       rw [hz]at ends
       have:=fin [h,(0,0)] (by simp [gl,gh,g0]) (by simp)
       rw [ends]at this
       exact this
     | false =>
      refine Evt.inr (y:=(((0,0),0,0),[l,h],())) (Evt.ctrue (decide_eq_true (by omega)) (Evt.ctrue (by rw [tm,he];rfl) (Evt.bind (.const (ivZero_eq i)) ?_))) ?_
      ·rw [hz]
       exact Evt.cfalse rfl .pure
      ·rw [if_neg (by simp [hz])]at ends
       rw [hz]at ends
       have:=fin [h] (by simp [gl,gh]) (by simp)
       rw [ends]at this
       exact this
    ·refine Evt.inr (y:=(((0,0),0,0),[l,h],())) (Evt.ctrue (decide_eq_true (by omega)) (Evt.cfalse ?_ .pure)) ?_
     ·rw [tm]
      have:n % 2=1:=by omega
      rw [this];rfl
     ·rw [if_neg (by simp [he])]at ends
      have:=fin [h] (by simp [gl,gh]) (by simp)
      rw [ends]at this
      exact this

def sgI(i:Iv):Int:=if 0<i.1.1 then 1 else if i.2.1<0 then -1 else 0
theorem signOf_eq(i:Iv):impl_signOf i=some (sgI i):=by
 unfold impl_signOf sgI
 by_cases h:0<i.1.1
 ·rw [decide_eq_true h,if_pos h];rfl
 ·rw [decide_eq_false h,if_neg h]
  by_cases h2:i.2.1<0
  ·rw [decide_eq_true h2,if_pos h2];rfl
  ·rw [decide_eq_false h2,if_neg h2];rfl
theorem sgI_zero(i:Iv):(sgI i==0)=zin i:=by
 unfold sgI zin
 by_cases h:0<i.1.1
 ·rw [if_pos h,decide_eq_false (by omega)];rfl
 ·rw [if_neg h,decide_eq_true (by omega)]
  by_cases h2:i.2.1<0
  ·rw [if_pos h2,decide_eq_false (by omega)];rfl
  ·rw [if_neg h2,decide_eq_true (by omega)];rfl
def bothP(i:Iv)(j:Nat):Bool:=(rO i.1 j).isSome&&(rO i.2 j).isSome
theorem prod_flag1{c:Bool}{s a:Int×Int}:(if c=true then prodD s a else((0,0),false)).2=(c&&(prO (s,a)).isSome):=by
 cases c with
 | false=>rfl
 | true =>
  unfold prO
  simp only [if_true,Bool.true_and]
  cases (prodD s a).2 <;> rfl
theorem prod_val1{c:Bool}{s a v:Int×Int}(hc:c=true)(h:prO (s,a)=some v):(if c=true then prodD s a else((0,0),false)).1=v:=by
 subst hc
 unfold prO at h
 simp only [if_true]
 split at h
 ·cases h;rfl
 ·cases h
theorem prod_gd1{c:Bool}{s a:Int×Int}:gd (if c=true then prodD s a else((0,0),false)).1:=by
 split
 ·exact prodD_gd _ _
 ·decide
theorem power_loop{b:Bool}{i z:Iv}{x2:Int}(hi:ivGd i){N:Nat}(hN:N≤3):∀(m j:Nat) (c:Bool) (l h:Int×Int),j+m=N→gd l→gd h→c=(b&&bothP i (j+1))→(c=true→rO i.1 (j+1)=some l∧rO i.2 (j+1)=some h) →
  ∃l' h',gd l'∧gd h'∧((b&&bothP i (N+1))=true→rO i.1 (N+1)=some l'∧rO i.2 (N+1)=some h')∧Evt (fun k n=>impl_reckoner_power_L122 k n c x2 i z l h N j) (.inr (x2,i,z,l',h',b&&bothP i (N+1),()))
 | 0,j,c,l,h,hj,gl,gh,hc,hv=>by
  have e:j=N:=by omega
  subst e
  refine⟨l,h,gl,gh,by rw [←hc];exact hv,?_⟩
  refine Evt.step (fun k n=>impl_reckoner_power_L122.eq_2 k _ _ _ _ _ _ _ _ n) (Evt.cfalse (decide_eq_false (by omega)) ?_)
  rw [hc]
  exact .pure
 | m+1,j,c,l,h,hj,gl,gh,hc,hv=>by
  have e1:=reckoner_product_ev (b:=c) gl hi.1
  have e2:=reckoner_product_ev (b:=(if c=true then prodD l i.1 else((0,0),false)).2) gh hi.2.1
  have hstep:∀(a:Int×Int) (s:Int×Int),rO a (j+1)=some s→rO a (j+1+1)=prO (s,a):=by
   intro a s hs
   rw [rO,hs]
  have hflag:(if (if c=true then prodD l i.1 else((0,0),false)).2=true then prodD h i.2 else((0,0),false)).2=(b&&bothP i (j+1+1)):=by
   rw [prod_flag1,prod_flag1]
   cases hcc:c with
   | true =>
    obtain⟨q1,q2⟩:=hv hcc
    rw [hcc]at hc
    have hb:b=true:=by cases b with | false=>cases hc | true=>rfl
    unfold bothP
    rw [hstep _ _ q1,hstep _ _ q2,hb]
    rfl
   | false =>
    rw [hcc]at hc
    cases b with
    | false=>rfl
    | true =>
     unfold bothP at hc ⊢
     cases q1:rO i.1 (j+1)with
     | none =>
      have:=rO_none q1 (m:=1)
      rw [this];rfl
     | some _ =>
      cases q2:rO i.2 (j+1)with
      | none =>
       have:=rO_none q2 (m:=1)
       rw [this];simp
      | some _=>rw [q1,q2]at hc;cases hc
  obtain⟨l',h',r1,r2,r3,r4⟩:=power_loop hi hN m (j+1) (b&&bothP i (j+1+1)) (if c=true then prodD l i.1 else((0,0),false)).1 (if (if c=true then prodD l i.1 else((0,0),false)).2=true then prodD h i.2 else((0,0),false)).1 (by omega) prod_gd1 prod_gd1 rfl (by
   intro hf
   rw [←hflag]at hf
   rw [prod_flag1]at hf
   have hf1:=hf
   rw [Bool.and_eq_true]at hf
   have hf2:=hf.1
   rw [prod_flag1,Bool.and_eq_true]at hf2
   obtain⟨q1,q2⟩:=hv hf2.1
   obtain⟨v1,w1⟩:=Option.isSome_iff_exists.1 hf2.2
   obtain⟨v2,w2⟩:=Option.isSome_iff_exists.1 hf.2
   rw [hstep _ _ q1,hstep _ _ q2,w1,w2,prod_val1 hf2.1 w1,prod_val1 hf.1 w2]
   exact⟨rfl,rfl⟩)
  refine⟨l',h',r1,r2,r3,?_⟩
  refine Evt.step (fun k n=>impl_reckoner_power_L122.eq_2 k _ _ _ _ _ _ _ _ n) (Evt.ctrue (decide_eq_true (by omega)) ?_)
  refine Evt.bind e1 (Evt.bind e2 ?_)
  have w:IntKind.wrap .i64 ((j:Int)+1)=((j+1:Nat):Int):=by rw [w64 (by omega) (by omega)];omega
  rw [w,hflag]
  exact r4
theorem power_ev{b:Bool}{i:Iv}{n:Nat}(hi:ivGd i)(hn:n≤4):∃v,gdI v∧(b=true→(powO i n).isSome=true→powO i n=some v)∧Evt (fun k _=>impl_reckoner_power k b i n) (v,b&&(powO i n).isSome):=by
 by_cases h0:n=0
 ·subst h0
  refine⟨((1,0),1,0),⟨one_gd,one_gd⟩,fun _ _=>rfl,?_⟩
  refine Evt.eq (f:=fun k q=>_) ?_ (fun k q=>by rw [impl_reckoner_power])
  rw [show(powO i 0).isSome=true from rfl,Bool.and_true]
  exact Evt.ctrue rfl (Evt.bind (.const rfl) (Evt.bind (.const rfl) .pure))
 ·obtain⟨N,rfl⟩:∃N,n=N+1:=⟨n - 1,by omega⟩
  have g0:gd (0,0):=by decide
  obtain⟨l,h,gl,gh,hv,hl⟩:=power_loop (b:=b) (z:=((0,0),0,0)) (x2:=((N+1:Nat):Int)) hi (N:=N) (by omega) N 0 b i.1 i.2 (by omega) hi.1 hi.2.1 (by unfold bothP;rw [rO_one hi.1,rO_one hi.2.1];simp) (fun _=>⟨rO_one hi.1,rO_one hi.2.1⟩)
  have hflag:(powO i (N+1)).isSome=bothP i (N+1):=by
   unfold powO bothP
   rw [if_neg h0]
   cases rO i.1 (N+1) <;> cases rO i.2 (N+1) <;> rfl
  have tm:Int.tmod ((N+1:Nat):Int) 2=(((N+1) % 2:Nat):Int):=tmod2N (N+1)
  let w:Iv:=if (N+1) % 2=0 then(if zin i then(0,0)else minD l h,maxD l h)else(l,h)
  have gw:gdI w:=by
   show gdI (if (N+1) % 2=0 then(if zin i then(0,0)else minD l h,maxD l h)else(l,h))
   split
   ·refine⟨?_,maxD_gd gl gh⟩
    simp only
    split
    ·exact g0
    ·exact minD_gd gl gh
   ·exact⟨gl,gh⟩
  refine⟨rdI 16 w,rdI_gd gw,?_,?_⟩
  ·intro hb hs
   rw [hflag]at hs
   obtain⟨q1,q2⟩:=hv (by rw [hb,hs];rfl)
   unfold powO
   rw [if_neg h0,q1,q2]
  ·refine Evt.eq (f:=fun k q=>_) ?_ (fun k q=>by rw [impl_reckoner_power])
   refine Evt.cfalse (by simp;omega) ?_
   have wN:IntKind.wrap .i64 (((N+1:Nat):Int) - 1)=(N:Int):=by rw [w64 (by omega) (by omega)];omega
   rw [wN,hflag]
   refine Evt.inr (Evt.diag hl) ?_
   refine Evt.inr (y:=(((0,0),0,0),w.1,w.2,b&&bothP i (N+1),())) ?_ ?_
   ·by_cases he:(N+1) % 2=0
    ·refine Evt.ctrue (by rw [tm,he];rfl) ?_
     refine Evt.bind (lesser_ev gl gh) (Evt.bind (greater_ev2 gl gh) (Evt.bind (.const (signOf_eq i)) ?_))
     rw [sgI_zero]
     have ew:w=(if zin i then(0,0)else minD l h,maxD l h):=if_pos he
     rw [ew]
     cases hz:zin i with
     | true=>exact Evt.ctrue rfl (Evt.bind (.const rfl) .pure)
     | false=>exact Evt.cfalse rfl .pure
    ·have ew:w=(l,h):=if_neg he
     rw [ew]
     refine Evt.cfalse ?_ .pure
     rw [tm]
     have:(N+1) % 2=1:=by omega
     rw [this];rfl
   ·exact Evt.bind (roundOut_ev (p:=16) gw (by omega)) .pure
end Go.Ev.G

namespace Go.Ev.G
open Go Go.Ev
set_option maxRecDepth 100000

def pw(t:Tm)(j:Nat):Int:=if j=0 then t.2.1 else if j=1 then t.2.2.1 else t.2.2.2
def big(xs:List Tm)(j:Nat):Bool:=xs.any fun t=>decide (pw t j>0)
def needs(n:Nat)(xs:List Tm):Bool:=(decide (n≤0)&&big xs 0)||((decide (n≤1)&&big xs 1)||(decide (n≤2)&&big xs 2))

theorem poPower_eq(t:Tm)(j:Nat):spec_poPower t j=some (pw t j):=by
 unfold spec_poPower pw
 by_cases h:j=0
 ·subst h;rfl
 ·rw [if_neg h,show((j:Int)==0)=false by simp;omega,cond_false]
  by_cases h1:j=1
  ·subst h1;rfl
  ·rw [if_neg h1,show((j:Int)==1)=false by simp;omega,cond_false]

def degV(j:Nat):Int→List Tm→Int
 | m,[]=>m
 | m,t::r=>degV j (max m (pw t j)) r
theorem degV_pos(j:Nat):∀(xs:List Tm) (m:Int),decide (degV j m xs>0)=(decide (m>0)||big xs j)
 | [],m=>by simp [degV,big]
 | t::r,m=>by
  rw [degV,degV_pos j r]
  unfold big
  rw [List.any_cons,←Bool.or_assoc]
  congr 1
  rw [Bool.eq_iff_iff]
  simp only [Bool.or_eq_true,decide_eq_true_eq]
  omega

theorem degreeIn_ev{xs:List Tm}{j:Nat}(hb:xs.length<lenB):Evt (fun k _=>spec_poDegreeIn k xs j) (degV j (-1) xs):=by
 refine Evt.eq (f:=fun k q=>_) ?_ (fun k q=>by rw [spec_poDegreeIn])
 have key:∀(r d:List Tm) (m:Int),d++r=xs→Evt (fun k n=>spec_poDegreeIn_L58 k n j m xs (xs.length:Int) d.length) (.inr (degV j m r,())):=by
  intro r
  induction r with
  | nil =>
   intro d m h
   refine Evt.step (fun k n=>spec_poDegreeIn_L58.eq_2 k _ _ _ _ _ n) ?_
   rw [List.append_nil]at h
   subst h
   exact Evt.rng0 .pure
  | cons e r ih =>
   intro d m h
   refine Evt.step (fun k n=>spec_poDegreeIn_L58.eq_2 k _ _ _ _ _ n) ?_
   have ih:=ih (d ++ [e]) (max m (pw e j)) (by simpa using h)
   rw [←len_next (r:=r) (by rw [h];exact hb)]at ih
   subst h
   refine Evt.ctrue mid_lt (Evt.ctrue mid_ge (Evt.ctrue mid_lt ?_))
   rw [mid_get]
   exact Evt.bind (.const (poPower_eq _ _)) (Evt.bind (.const (most_eq _ _)) ih)
 have h0:=key xs [] (-1) rfl
 simp only [List.length_nil]at h0
 exact Evt.inr (Evt.diag h0) .pure

theorem system_inner{n:Nat}{xs:List Tm}(hb:xs.length<lenB)(x0 x6:List (List Tm))(x7 x8:Int) :
  Evt (fun k m=>spec_poSystem_L13518 k m x0 xs (n:Int) x6 x7 x8) (if needs n xs then .inl false else .inr (x0,x6,x7,x8,())):=by
 have l3:∀j:Nat,3≤j→Evt (fun k m=>spec_poSystem_L13518 k m x0 xs (j:Int) x6 x7 x8) (.inr (x0,x6,x7,x8,())):=by
  intro j hj
  exact Evt.step (fun k m=>spec_poSystem_L13518.eq_2 k _ _ _ _ _ _ m) (Evt.cfalse (decide_eq_false (by omega)) .pure)
 have st:∀(j:Nat) (b:Bool),j<3→Evt (fun k m=>spec_poSystem_L13518 k m x0 xs ((j+1:Nat):Int) x6 x7 x8) (if b then .inl false else .inr (x0,x6,x7,x8,()))→Evt (fun k m=>spec_poSystem_L13518 k m x0 xs (j:Int) x6 x7 x8) (if (big xs j||b)then .inl false else .inr (x0,x6,x7,x8,())):=by
  intro j b hj h
  refine Evt.step (fun k m=>spec_poSystem_L13518.eq_2 k _ _ _ _ _ _ m) (Evt.ctrue (decide_eq_true (by omega)) (Evt.bind (degreeIn_ev hb) ?_))
  rw [degV_pos]
  rw [w64_next (by simp only [lenB];omega)]
  cases big xs j with
  | true=>exact Evt.ctrue rfl .pure
  | false=>exact Evt.cfalse rfl (by simpa using h)
 have l2:=st 2 false (by omega) (by simpa using l3 3 (by omega))
 have l1:=st 1 _ (by omega) l2
 have l0:=st 0 _ (by omega) l1
 match n with
 | 0=>simpa [needs] using l0
 | 1=>simpa [needs] using l1
 | 2=>simpa [needs] using l2
 | m+3 =>
  have:=l3 (m+3) (by omega)
  have e:needs (m+3) xs=false:=by simp [needs]
  rw [e]
  exact this

def sysV(m:List (List Tm)):Bool:=(m.all fun xs=>polyV xs && !needs m.length xs)&&decide (1≤(m.length:Int)∧(m.length:Int)≤3)

theorem poSystem_ev{m:List (List Tm)}(hb:m.length<lenB)(hm:∀r∈m,r.length<lenB):Evt (fun k _=>spec_poSystem k m) (sysV m):=by
 refine Evt.eq (f:=fun k q=>_) ?_ (fun k q=>by rw [spec_poSystem])
 have key:∀(r d:List (List Tm)),d++r=m→Evt (fun k n=>spec_poSystem_L26 k n m m (m.length:Int) d.length) (if (r.all fun xs=>polyV xs && !needs m.length xs)then .inr (m,())else .inl false):=by
  intro r
  induction r with
  | nil =>
   intro d h
   refine Evt.step (fun k n=>spec_poSystem_L26.eq_2 k _ _ _ _ n) ?_
   rw [List.append_nil]at h
   subst h
   exact Evt.rng0 .pure
  | cons e r ih =>
   intro d h
   refine Evt.step (fun k n=>spec_poSystem_L26.eq_2 k _ _ _ _ n) ?_
   have he:=hm e (by rw [←h];simp)
   have ih:=ih (d ++ [e]) (by simpa using h)
   rw [←len_next (r:=r) (by rw [h];exact hb)]at ih
   have hi:=system_inner (n:=m.length) he m m (m.length:Int) (d.length:Int)
   subst h
   refine Evt.ctrue mid_lt (Evt.ctrue mid_ge (Evt.ctrue mid_lt ?_))
   rw [mid_get]
   refine Evt.bind (poGood_ev he) ?_
   cases hp:polyV e with
   | false=>simp only [List.all_cons,hp,Bool.false_and];exact Evt.ctrue rfl .pure
   | true =>
    refine Evt.cfalse rfl ?_
    cases hn:needs (d++e::r).length e with
    | true=>rw [hn]at hi;simp only [List.all_cons,hp,hn,Bool.not_true,Bool.and_false,Bool.false_and];exact Evt.inl (Evt.diag hi) .pure
    | false=>rw [hn]at hi;simp only [List.all_cons,hp,hn,Bool.not_false,Bool.true_and];exact Evt.inr (Evt.diag hi) ih
 have h0:=key m [] rfl
 simp only [List.length_nil]at h0
 unfold sysV
 cases hall:(m.all fun xs=>polyV xs && !needs m.length xs)with
 | true=>rw [hall]at h0;exact Evt.inr (Evt.diag h0) (Evt.bind (.const (l1In_eq _ _ _)) .pure)
 | false=>rw [hall]at h0;exact Evt.inl (Evt.diag h0) .pure

def needsT(n:Nat)(t:Tm):Bool:=(decide (n≤0)&&decide (t.2.1>0))||((decide (n≤1)&&decide (t.2.2.1>0))||(decide (n≤2)&&decide (t.2.2.2>0)))
theorem needs_any(n:Nat)(xs:List Tm):needs n xs=xs.any (needsT n):=by
 rw [Bool.eq_iff_iff]
 simp only [needs,big,Bool.or_eq_true,Bool.and_eq_true,decide_eq_true_eq,List.any_eq_true,needsT,pw]
 constructor
 ·rintro(⟨h,t,ht,hp⟩ | ⟨h,t,ht,hp⟩ | ⟨h,t,ht,hp⟩)
  ·exact⟨t,ht,.inl ⟨h,by simpa using hp⟩⟩
  ·exact⟨t,ht,.inr (.inl ⟨h,by simpa using hp⟩)⟩
  ·exact⟨t,ht,.inr (.inr ⟨h,by simpa using hp⟩)⟩
 ·rintro⟨t,ht,⟨h,hp⟩ | ⟨h,hp⟩ | ⟨h,hp⟩⟩
  ·exact .inl ⟨h,t,ht,by simpa using hp⟩
  ·exact .inr (.inl ⟨h,t,ht,by simpa using hp⟩)
  ·exact .inr (.inr ⟨h,t,ht,by simpa using hp⟩)

theorem needs_inner(n:Nat)(t:Tm)(x9:List Tm)(x10 x11:Int) :
  Evt (fun k m=>impl_needsAtMost_L6758 k m (n:Int) x9 x10 x11 t.2 0) (if needsT n t then .inl false else .inr ((n:Int),x9,x10,x11,())):=by
 have w1:IntKind.wrap .i64 (0+1)=1:=by decide
 have w2:IntKind.wrap .i64 (1+1)=2:=by decide
 have w3:IntKind.wrap .i64 (2+1)=3:=by decide
 have l3:Evt (fun k m=>impl_needsAtMost_L6758 k m (n:Int) x9 x10 x11 t.2 3) (.inr ((n:Int),x9,x10,x11,())) :=
  Evt.step (fun k m=>impl_needsAtMost_L6758.eq_2 k _ _ _ _ _ _ m) (Evt.cfalse rfl .pure)
 have l2:Evt (fun k m=>impl_needsAtMost_L6758 k m (n:Int) x9 x10 x11 t.2 2) (if (decide (n≤2)&&decide (t.2.2.2>0))then .inl false else .inr ((n:Int),x9,x10,x11,())):=by
  refine Evt.step (fun k m=>impl_needsAtMost_L6758.eq_2 k _ _ _ _ _ _ m) (Evt.ctrue rfl (Evt.cfalse rfl (Evt.cfalse rfl (Evt.ctrue rfl ?_))))
  rw [w3]
  by_cases h:n≤2
  ·refine Evt.ctrue (decide_eq_true (by omega)) ?_
   simp only [decide_eq_true h,Bool.true_and]
   cases decide (t.2.2.2>0)with
   | true=>exact Evt.ctrue rfl .pure
   | false=>exact Evt.cfalse rfl l3
  ·simp only [decide_eq_false h,Bool.false_and]
   exact Evt.cfalse (decide_eq_false (by omega)) l3
 have l1:Evt (fun k m=>impl_needsAtMost_L6758 k m (n:Int) x9 x10 x11 t.2 1) (if ((decide (n≤1)&&decide (t.2.2.1>0))||(decide (n≤2)&&decide (t.2.2.2>0)))then .inl false else .inr ((n:Int),x9,x10,x11,())):=by
  refine Evt.step (fun k m=>impl_needsAtMost_L6758.eq_2 k _ _ _ _ _ _ m) (Evt.ctrue rfl (Evt.cfalse rfl (Evt.ctrue rfl ?_)))
  rw [w2]
  by_cases h:n≤1
  ·refine Evt.ctrue (decide_eq_true (by omega)) ?_
   simp only [decide_eq_true h,Bool.true_and]
   cases decide (t.2.2.1>0)with
   | true=>exact Evt.ctrue rfl .pure
   | false=>exact Evt.cfalse rfl l2
  ·simp only [decide_eq_false h,Bool.false_and,Bool.false_or]
   exact Evt.cfalse (decide_eq_false (by omega)) l2
 refine Evt.step (fun k m=>impl_needsAtMost_L6758.eq_2 k _ _ _ _ _ _ m) (Evt.ctrue rfl (Evt.ctrue rfl ?_))
 rw [w1]
 unfold needsT
 by_cases h:n≤0
 ·refine Evt.ctrue (decide_eq_true (by omega)) ?_
  simp only [decide_eq_true h,Bool.true_and]
  cases decide (t.2.1>0)with
  | true=>exact Evt.ctrue rfl .pure
  | false=>exact Evt.cfalse rfl l1
 ·simp only [decide_eq_false h,Bool.false_and,Bool.false_or]
  exact Evt.cfalse (decide_eq_false (by omega)) l1

theorem needsAtMost_ev{xs:List Tm}{n:Nat}(hb:xs.length<lenB):Evt (fun k _=>impl_needsAtMost k xs n) (!needs n xs):=by
 refine Evt.eq (f:=fun k q=>_) ?_ (fun k q=>by rw [impl_needsAtMost])
 rw [needs_any]
 have key:∀(r d:List Tm),d++r=xs→Evt (fun k m=>impl_needsAtMost_L26 k m n xs (xs.length:Int) d.length) (if r.any (needsT n)then .inl false else .inr ()):=by
  intro r
  induction r with
  | nil =>
   intro d h
   refine Evt.step (fun k m=>impl_needsAtMost_L26.eq_2 k _ _ _ _ m) ?_
   rw [List.append_nil]at h
   subst h
   exact Evt.rng0 .pure
  | cons e r ih =>
   intro d h
   refine Evt.step (fun k m=>impl_needsAtMost_L26.eq_2 k _ _ _ _ m) ?_
   have ih:=ih (d ++ [e]) (by simpa using h)
   rw [←len_next (r:=r) (by rw [h];exact hb)]at ih
   have hi:=needs_inner n e xs (xs.length:Int) (d.length:Int)
   subst h
   refine Evt.ctrue mid_lt (Evt.ctrue mid_ge (Evt.ctrue mid_lt ?_))
   rw [mid_get]
   refine Evt.bind (.const rfl) ?_
   cases hn:needsT n e with
   | true=>rw [hn]at hi;simp only [List.any_cons,hn,Bool.true_or];exact Evt.inl (Evt.diag hi) .pure
   | false=>rw [hn]at hi;simp only [List.any_cons,hn,Bool.false_or];exact Evt.inr (Evt.diag hi) ih
 have h0:=key xs [] rfl
 simp only [List.length_nil]at h0
 cases hall:xs.any (needsT n)with
 | true=>rw [hall]at h0;exact Evt.inl (Evt.diag h0) .pure
 | false=>rw [hall]at h0;exact Evt.inr (Evt.diag h0) .pure

theorem isSystem_ev{m:List (List Tm)}(hb:m.length<lenB)(hm:∀r∈m,r.length<lenB):Evt (fun k _=>impl_isSystem k m) (sysV m):=by
 refine Evt.eq (f:=fun k q=>_) ?_ (fun k q=>by rw [impl_isSystem])
 have key:∀(r d:List (List Tm)),d++r=m→Evt (fun k n=>impl_isSystem_L26 k n m m (m.length:Int) d.length) (if (r.all fun xs=>polyV xs && !needs m.length xs)then .inr (m,())else .inl false):=by
  intro r
  induction r with
  | nil =>
   intro d h
   refine Evt.step (fun k n=>impl_isSystem_L26.eq_2 k _ _ _ _ n) ?_
   rw [List.append_nil]at h
   subst h
   exact Evt.rng0 .pure
  | cons e r ih =>
   intro d h
   refine Evt.step (fun k n=>impl_isSystem_L26.eq_2 k _ _ _ _ n) ?_
   have he:=hm e (by rw [←h];simp)
   have ih:=ih (d ++ [e]) (by simpa using h)
   rw [←len_next (r:=r) (by rw [h];exact hb)]at ih
   subst h
   refine Evt.ctrue mid_lt (Evt.ctrue mid_ge (Evt.ctrue mid_lt ?_))
   rw [mid_get]
   refine Evt.bind (isPoly_ev he) ?_
   cases hp:polyV e with
   | false=>simp only [List.all_cons,hp,Bool.false_and];exact Evt.ctrue rfl .pure
   | true =>
    refine Evt.cfalse rfl (Evt.bind (needsAtMost_ev he) ?_)
    cases hn:needs (d++e::r).length e with
    | true=>simp only [List.all_cons,hp,hn,Bool.not_true,Bool.and_false,Bool.false_and];exact Evt.ctrue rfl .pure
    | false=>simp only [List.all_cons,hp,hn,Bool.not_false,Bool.true_and];exact Evt.cfalse rfl ih
 have h0:=key m [] rfl
 simp only [List.length_nil]at h0
 unfold sysV
 cases hall:(m.all fun xs=>polyV xs && !needs m.length xs)with
 | true=>rw [hall]at h0;exact Evt.inr (Evt.diag h0) (Evt.bind (.const (inside_eq _ _ _)) .pure)
 | false=>rw [hall]at h0;exact Evt.inl (Evt.diag h0) .pure

end Go.Ev.G

namespace Go.Ev.G
open Go Go.Ev
set_option maxRecDepth 100000

def tmW(t:Tm):Prop:=(-10000≤t.1∧t.1≤10000)∧(0≤t.2.1∧t.2.1≤4)∧(0≤t.2.2.1∧t.2.2.1≤4)∧(0≤t.2.2.2∧t.2.2.2≤4)
def sgl(a:Int×Int):Iv:=(a,a)
theorem sgl_iv{a:Int×Int}(h:gd a):ivGd (sgl a):=⟨h,h,Int.le_refl _⟩
def stepO(s:Iv)(e:Nat)(o:Option Iv):Option Iv:=o.bind fun a=>(powO s e).bind fun q=>mulO a q
def partF(t:Tm):Nat→Option Iv→List Iv→Option Iv
 | _,o,[]=>o
 | j,o,s::r=>partF t (j+1) (stepO s (pw t j).toNat o) r
def monO(t:Tm)(sides:List Iv):Option Iv:=partF t 0 (some (sgl (t.1,0))) sides
def accO(p o:Option Iv):Option Iv:=o.bind fun a=>p.bind fun q=>addO a q
def valF(sides:List Iv):Option Iv→List Tm→Option Iv
 | o,[]=>o
 | o,t::r=>valF sides (accO (monO t sides) o) r
def valO(p:List Tm)(sides:List Iv):Option Iv:=valF sides (some zI) p

theorem partF_none{t:Tm}:∀(r:List Iv) (j:Nat),partF t j none r=none
 | [],_=>rfl
 | _::r,j=>partF_none r (j+1)
theorem valF_none{sides:List Iv}:∀(r:List Tm),valF sides none r=none
 | []=>rfl
 | _::r=>valF_none r
theorem partF_iv{t:Tm}:∀(r:List Iv) (j:Nat) (o:Option Iv) (v:Iv),(∀a,o=some a→ivGd a)→partF t j o r=some v→ivGd v
 | [],_,o,v,ho,h=>ho v h
 | s::r,j,o,v,ho,h=>by
  refine partF_iv r (j+1) _ v ?_ h
  intro a ha
  unfold stepO at ha
  obtain⟨x,_,hx⟩:=Option.bind_eq_some_iff.1 ha
  obtain⟨q,_,hq⟩:=Option.bind_eq_some_iff.1 hx
  exact mulO_iv hq
theorem gd_int{n:Int}(h : -10000≤n∧n≤10000):gd (n,0):=⟨Int.le_refl _,by simp,by simp only;omega,by simp only;omega,.inl rfl⟩
theorem monO_iv{t:Tm}{sides:List Iv}{v:Iv}(ht:tmW t)(h:monO t sides=some v):ivGd v :=
 partF_iv sides 0 _ v (fun a ha=>by cases ha;exact sgl_iv (gd_int ht.1)) h
theorem valF_iv{sides:List Iv}:∀(r:List Tm) (o:Option Iv) (v:Iv),(∀t∈r,tmW t)→(∀a,o=some a→ivGd a)→valF sides o r=some v→ivGd v
 | [],o,v,_,ho,h=>ho v h
 | t::r,o,v,ht,ho,h=>by
  refine valF_iv r _ v (fun x hx=>ht x (by simp [hx])) ?_ h
  intro a ha
  unfold accO at ha
  obtain⟨x,hx0,hx⟩:=Option.bind_eq_some_iff.1 ha
  obtain⟨q,hq0,hq⟩:=Option.bind_eq_some_iff.1 hx
  exact addO_iv (ho x hx0) (monO_iv (ht t (by simp)) hq0) hq
theorem zI_iv:ivGd zI:=⟨by decide,by decide,Int.le_refl _⟩
theorem valO_iv{p:List Tm}{sides:List Iv}{v:Iv}(ht:∀t∈p,tmW t)(h:valO p sides=some v):ivGd v:=valF_iv p _ v ht (fun a ha=>by cases ha;exact zI_iv) h
theorem pw_nat{t:Tm}(ht:tmW t)(j:Nat):∃e:Nat,pw t j=e∧e≤4:=by
 obtain⟨_,h2,h3,h4⟩:=ht
 unfold pw
 split
 ·exact⟨t.2.1.toNat,by omega,by omega⟩
 ·split
  ·exact⟨t.2.2.1.toNat,by omega,by omega⟩
  ·exact⟨t.2.2.2.toNat,by omega,by omega⟩

theorem vaOver_inner{t:Tm}{sides:List Iv}(ht:tmW t)(hs:∀s∈sides,ivGd s)(hb:sides.length<lenB)(x1:List Iv)(x4 x6:Iv)(x20:List Tm)(x21 x22:Int) :
  ∀(r d:List Iv) (o:Iv),d++r=sides→gdI o→Evt (fun k n=>spec_vaOver_L59802 k n x1 x4 x6 t o x20 x21 x22 sides (sides.length:Int) d.length) (match partF t d.length (some o) r with | some v => .inr (x1,x4,x6,v,x20,x21,x22,()) | none => .inl (zI,false))
 | [],d,o,hd,ho=>by
  rw [List.append_nil]at hd
  subst hd
  refine Evt.step (fun k n=>spec_vaOver_L59802.eq_2 k _ _ _ _ _ _ _ _ _ _ _ n) (Evt.rng0 .pure)
 | s::r,d,o,hd,ho=>by
  refine Evt.step (fun k n=>spec_vaOver_L59802.eq_2 k _ _ _ _ _ _ _ _ _ _ _ n) ?_
  have gs:ivGd s:=hs s (by rw [←hd];simp)
  obtain⟨e,he,he4⟩:=pw_nat ht d.length
  rw [←hd]
  refine Evt.ctrue mid_lt (Evt.ctrue mid_ge (Evt.ctrue mid_lt ?_))
  rw [mid_get]
  refine Evt.bind (.const (poPower_eq t d.length)) ?_
  rw [he]
  refine Evt.bind (ivPower_ev gs he4) ?_
  have es:partF t d.length (some o) (s::r)=partF t (d.length+1) (stepO s e (some o)) r:=by rw [partF,he];rfl
  rw [es]
  unfold stepO
  rw [Option.bind_some]
  cases hp:powO s e with
  | none =>
   rw [Option.bind_none,partF_none]
   exact Evt.ctrue rfl .pure
  | some q =>
   refine Evt.cfalse rfl ?_
   rw [Option.bind_some]
   have hmul:=ivMul_ev ho (powO_gd hp)
   cases hm:mulO o q with
   | none =>
    rw [hm]at hmul
    rw [partF_none]
    exact Evt.bind hmul (Evt.ctrue rfl .pure)
   | some v =>
    rw [hm]at hmul
    refine Evt.bind hmul (Evt.cfalse rfl ?_)
    have ih:=vaOver_inner ht hs hb x1 x4 x6 x20 x21 x22 r (d ++ [s]) v (by simpa using hd) (mulO_gd hm)
    rw [←hd]at ih
    rw [len_next (by rw [hd];exact hb)]
    simpa using ih
theorem vaOver_ev{p:List Tm}{sides:List Iv}(ht:∀t∈p,tmW t)(hs:∀s∈sides,ivGd s)(hb:sides.length<lenB)(hp:p.length<lenB):Evt (fun k _=>spec_vaOver k p sides) (oI (valO p sides)):=by
 refine Evt.eq (f:=fun k q=>_) ?_ (fun k q=>by rw [spec_vaOver])
 refine Evt.bind (.const rfl) (Evt.bind (.const rfl) ?_)
 have key:∀(r d:List Tm) (o:Iv),d++r=p→gdI o→Evt (fun k n=>spec_vaOver_L58 k n sides zI o p (p.length:Int) d.length) (match valF sides (some o) r with | some v => .inr (zI,v,()) | none => .inl (zI,false)):=by
  intro r
  induction r with
  | nil =>
   intro d o hd ho
   rw [List.append_nil]at hd
   subst hd
   exact Evt.step (fun k n=>spec_vaOver_L58.eq_2 k _ _ _ _ _ _ n) (Evt.rng0 .pure)
  | cons t r ih =>
   intro d o hd ho
   refine Evt.step (fun k n=>spec_vaOver_L58.eq_2 k _ _ _ _ _ _ n) ?_
   have gt:=ht t (by rw [←hd];simp)
   rw [←hd]
   refine Evt.ctrue mid_lt (Evt.ctrue mid_ge (Evt.ctrue mid_lt ?_))
   rw [mid_get]
   refine Evt.bind (.const rfl) (Evt.bind (.const rfl) ?_)
   have hin:=vaOver_inner gt hs hb sides zI o (d++t::r) ((d++t::r).length:Int) (d.length:Int) sides [] (sgl (t.1,0)) rfl ⟨gd_int gt.1,gd_int gt.1⟩
   simp only [List.length_nil]at hin
   have es:valF sides (some o) (t::r)=valF sides (accO (monO t sides) (some o)) r:=rfl
   rw [es]
   unfold accO
   rw [Option.bind_some]
   have em:partF t 0 (some (sgl (t.1,0))) sides=monO t sides:=rfl
   rw [em]at hin
   cases hm:monO t sides with
   | none =>
    rw [hm]at hin
    rw [Option.bind_none,valF_none]
    exact Evt.inl (Evt.diag hin) .pure
   | some q =>
    rw [hm]at hin
    rw [Option.bind_some]
    refine Evt.inr (Evt.diag hin) ?_
    have gq:=monO_iv gt hm
    refine Evt.bind (ivAdd_ev ho ⟨gq.1,gq.2.1⟩) ?_
    cases ha:addO o q with
    | none =>
     rw [valF_none]
     exact Evt.ctrue rfl .pure
    | some v =>
     refine Evt.cfalse rfl ?_
     have ih:=ih (d ++ [t]) v (by simpa using hd) (addO_gd ha)
     rw [←hd]at ih
     simp only
     rw [len_next (by rw [hd];exact hp)]
     exact ih
 have hk:=key p [] zI rfl zI_gd
 simp only [List.length_nil]at hk
 unfold valO
 cases hv:valF sides (some zI) p with
 | none=>rw [hv]at hk;exact Evt.inl (Evt.diag hk) .pure
 | some v=>rw [hv]at hk;exact Evt.inr (Evt.diag hk) .pure

theorem step_flag{b c:Bool}{o:Option Iv}{s v v1:Iv}{e:Nat}(hc:c=(b&&o.isSome))(ho:c=true→o=some v)(h1:c=true→(powO s e).isSome=true→powO s e=some v1) :
  ((c&&(powO s e).isSome)&&(mulO v v1).isSome)=(b&&(stepO s e o).isSome):=by
 cases hcc:c with
 | false =>
  rw [hcc]at hc
  cases b with
  | false=>rfl
  | true =>
   cases o with
   | none=>rfl
   | some _=>cases hc
 | true =>
  have h2:=ho hcc
  subst h2
  have hb:b=true:=by rw [hcc]at hc;cases b with | false=>cases hc | true=>rfl
  rw [hb]
  unfold stepO
  rw [Option.bind_some]
  cases hp:powO s e with
  | none=>rfl
  | some q =>
   have:=h1 hcc (by rw [hp];rfl)
   rw [hp]at this
   cases this
   rw [Option.bind_some]
   rfl
theorem step_val{b c:Bool}{o:Option Iv}{s v v1 v2:Iv}{e:Nat}(ho:c=true→o=some v)(h1:c=true→(powO s e).isSome=true→powO s e=some v1)
  (h2:(c&&(powO s e).isSome)=true→(mulO v v1).isSome=true→mulO v v1=some v2) (h:((c&&(powO s e).isSome)&&(mulO v v1).isSome)=true):stepO s e o=some v2:=by
 rw [Bool.and_eq_true,Bool.and_eq_true]at h
 have q1:=ho h.1.1
 have q2:=h1 h.1.1 h.1.2
 have q3:=h2 (by rw [h.1.1,h.1.2];rfl) h.2
 rw [q1]
 unfold stepO
 rw [Option.bind_some,q2,Option.bind_some,q3]
theorem valueOver_inner{b:Bool}{t:Tm}{sides:List Iv}(ht:tmW t)(hs:∀s∈sides,ivGd s)(hb:sides.length≤3)(x1:List Iv)(x4 x7:Iv)(x16:List Tm)(x17 x18:Int) :
  ∀(r d:List Iv) (c:Bool) (v:Iv) (o:Option Iv),d++r=sides→gdI v→c=(b&&o.isSome)→(c=true→o=some v) →
   ∃v',gdI v'∧((b&&(partF t d.length o r).isSome)=true→partF t d.length o r=some v')∧Evt (fun k n=>impl_valueOver_L125338 k n x1 x4 c x7 t v x16 x17 x18 sides (sides.length:Int) d.length) (.inr (x1,x4,b&&(partF t d.length o r).isSome,x7,v',x16,x17,x18,()))
 | [],d,c,v,o,hd,gv,hc,ho=>by
  rw [List.append_nil]at hd
  subst hd
  refine⟨v,gv,fun h=>ho (by rw [hc];exact h),Evt.step (fun k n=>impl_valueOver_L125338.eq_2 k _ _ _ _ _ _ _ _ _ _ _ _ n) (Evt.rng0 ?_)⟩
  rw [hc]
  exact .pure
 | s::r,d,c,v,o,hd,gv,hc,ho=>by
  have gs:ivGd s:=hs s (by rw [←hd];simp)
  have hl:d.length≤2:=by
   have:=congrArg List.length hd
   simp at this;omega
  obtain⟨e,he,he4⟩:=pw_nat ht d.length
  obtain⟨v1,g1,q1,e1⟩:=power_ev (b:=c) gs he4
  obtain⟨v2,g2,q2,e2⟩:=multiply_ev (b:=(c&&(powO s e).isSome)) gv g1
  have es:partF t d.length o (s::r)=partF t (d.length+1) (stepO s e o) r:=by rw [partF,he];rfl
  have hf:=step_flag (s:=s) (v1:=v1) (e:=e) hc ho q1
  obtain⟨v',g',hv',hl'⟩:=valueOver_inner ht hs hb x1 x4 x7 x16 x17 x18 r (d ++ [s]) ((c&&(powO s e).isSome)&&(mulO v v1).isSome) v2 (stepO s e o) (by simpa using hd) g2 hf (step_val (b:=b) ho q1 q2)
  rw [show(d ++ [s]).length=d.length+1 by simp]at hv' hl'
  rw [es]
  refine⟨v',g',hv',Evt.step (fun k n=>impl_valueOver_L125338.eq_2 k _ _ _ _ _ _ _ _ _ _ _ _ n) ?_⟩
  rw [←hd]at hl' ⊢
  refine Evt.ctrue mid_lt (Evt.ctrue mid_ge (Evt.ctrue mid_lt ?_))
  rw [mid_get,len_next (by rw [hd];simp only [lenB];omega),show(d ++ [s]).length=d.length+1 by simp]
  refine Evt.bind (.const rfl) ?_
  have hj:d.length=0∨d.length=1∨d.length=2:=by omega
  rcases hj with hj | hj | hj
  ·have hpw:t.2.1=(e:Int):=by rw [←he,hj];rfl
   refine Evt.ctrue (by rw [hj];rfl) ?_
   simp only [hpw]
   exact Evt.bind e1 (Evt.bind e2 hl')
  ·have hpw:t.2.2.1=(e:Int):=by rw [←he,hj];rfl
   refine Evt.cfalse (by rw [hj];rfl) (Evt.ctrue (by rw [hj];rfl) ?_)
   simp only [hpw]
   exact Evt.bind e1 (Evt.bind e2 hl')
  ·have hpw:t.2.2.2=(e:Int):=by rw [←he,hj];rfl
   refine Evt.cfalse (by rw [hj];rfl) (Evt.cfalse (by rw [hj];rfl) (Evt.ctrue (by rw [hj];rfl) ?_))
   simp only [hpw]
   exact Evt.bind e1 (Evt.bind e2 hl')
theorem valueOver_ev{p:List Tm}{sides:List Iv}(ht:∀t∈p,tmW t)(hs:∀s∈sides,ivGd s)(hb:sides.length≤3)(hp:p.length<lenB):Evt (fun k _=>impl_valueOver k p sides) (oI (valO p sides)):=by
 refine Evt.eq (f:=fun k q=>_) ?_ (fun k q=>by rw [impl_valueOver])
 have key:∀(r d:List Tm) (c:Bool) (v:Iv) (o:Option Iv),d++r=p→gdI v→c=o.isSome→(c=true→o=some v) →
   ∃v',((valF sides o r).isSome=true→valF sides o r=some v')∧Evt (fun k n=>impl_valueOver_L122 k n sides zI c v p (p.length:Int) d.length) (.inr (zI,(valF sides o r).isSome,v',())):=by
  intro r
  induction r with
  | nil =>
   intro d c v o hd gv hc ho
   rw [List.append_nil]at hd
   subst hd
   refine⟨v,fun h=>ho (by rw [hc];exact h),Evt.step (fun k n=>impl_valueOver_L122.eq_2 k _ _ _ _ _ _ _ n) (Evt.rng0 ?_)⟩
   rw [hc]
   exact .pure
  | cons t r ih =>
   intro d c v o hd gv hc ho
   have gt:=ht t (by rw [←hd];simp)
   obtain⟨q,gq,hq,hin⟩:=valueOver_inner (b:=c) gt hs hb sides zI v (d++t::r) ((d++t::r).length:Int) (d.length:Int) sides [] c (sgl (t.1,0)) (some (sgl (t.1,0))) rfl ⟨gd_int gt.1,gd_int gt.1⟩ (by simp) (fun _=>rfl)
   simp only [List.length_nil]at hq hin
   have em:partF t 0 (some (sgl (t.1,0))) sides=monO t sides:=rfl
   rw [em]at hq hin
   obtain⟨w,gw,hw,ha⟩:=addI_ev (b:=(c&&(monO t sides).isSome)) gv gq
   have hf:((c&&(monO t sides).isSome)&&(addO v q).isSome)=(accO (monO t sides) o).isSome:=by
    cases hcc:c with
    | false =>
     rw [hcc]at hc
     cases o with
     | none=>rfl
     | some _=>cases hc
    | true =>
     have h2:=ho hcc
     subst h2
     unfold accO
     rw [Option.bind_some]
     cases hm:monO t sides with
     | none=>rfl
     | some q' =>
      have:=hq (by rw [hcc,hm];rfl)
      rw [hm]at this
      cases this
      rfl
   obtain⟨v',hv',hl'⟩:=ih (d ++ [t]) ((c&&(monO t sides).isSome)&&(addO v q).isSome) w (accO (monO t sides) o) (by simpa using hd) gw hf (by
    intro h
    rw [Bool.and_eq_true]at h
    have h1:=h.1
    rw [Bool.and_eq_true]at h1
    rw [ho h1.1,hq h.1]
    exact hw h.1 h.2)
   have es:valF sides o (t::r)=valF sides (accO (monO t sides) o) r:=rfl
   rw [es]
   refine⟨v',hv',Evt.step (fun k n=>impl_valueOver_L122.eq_2 k _ _ _ _ _ _ _ n) ?_⟩
   rw [←hd]at hl' ⊢
   refine Evt.ctrue mid_lt (Evt.ctrue mid_ge (Evt.ctrue mid_lt ?_))
   rw [mid_get]
   refine Evt.bind (.const rfl) (Evt.bind (.const rfl) (Evt.inr (Evt.diag hin) (Evt.bind ha ?_)))
   simp only
   rw [len_next (by rw [hd];exact hp)]
   exact hl'
 obtain⟨v',hv',hl'⟩:=key p [] true zI (some zI) rfl zI_gd rfl (fun _=>rfl)
 simp only [List.length_nil]at hl'
 refine Evt.inr (Evt.diag hl') ?_
 unfold impl_reckoner_result valO
 cases hv:(valF sides (some zI) p).isSome with
 | true =>
  rw [hv' hv]
  exact Evt.bind (.const rfl) .pure
 | false =>
  have:valF sides (some zI) p=none:=by simpa using hv
  rw [this]
  exact Evt.bind (.const rfl) .pure
end Go.Ev.G

namespace Go.Ev.G
open Go Go.Ev
set_option maxRecDepth 100000

def hV(m:Nat)(s:List (List Tm))(sides:List Iv)(r:Nat):Bool:=match valO (s.getD (r % m) []) sides with
 | some v=>sgI v==(if r<m then 1 else -1)
 | none=>false
structure Sd(s:List (List Tm))(sides:List Iv):Prop where
 sd:∀i∈sides,ivGd i
 ln:sides.length≤3
 tm:∀p∈s,∀t∈p,tmW t
 lp:∀p∈s,p.length<lenB
theorem getD_in{α:Type}{l:List α}{j:Nat}{z:α}(h:j<l.length):l.getD j z∈l:=by
 rw [List.getD_eq_getElem?_getD,List.getElem?_eq_getElem h]
 exact List.getElem_mem h
abbrev Ed:=Int×(Int×Int)×(Int×Int)×Int×Int
def sidesE(e:Ed):List Iv:=if e.1=0 then [sgl e.2.1,(minD e.2.2.1 e.2.2.2,maxD e.2.2.1 e.2.2.2)]else [(minD e.2.2.1 e.2.2.2,maxD e.2.2.1 e.2.2.2),sgl e.2.1]
structure EdOk(e:Ed):Prop where
 sd:e.1=0∨e.1=1
 a:gd e.2.1
 f:gd e.2.2.1
 t:gd e.2.2.2
theorem along_iv{a b:Int×Int}(ha:gd a)(hb:gd b):ivGd (minD a b,maxD a b):=⟨minD_gd ha hb,maxD_gd ha hb,by simp only [minD_sv,maxD_sv];omega⟩
theorem EdOk.sides{e:Ed}(h:EdOk e):∀i∈sidesE e,ivGd i:=by
 intro i hi
 have q:=along_iv h.f h.t
 have r:=sgl_iv h.a
 unfold sidesE at hi
 split at hi <;> (simp only [List.mem_cons,List.not_mem_nil,or_false]at hi;rcases hi with rfl | rfl <;> assumption)
theorem EdOk.len(e:Ed):(sidesE e).length=2:=by unfold sidesE;split <;> rfl
theorem Sd.edge{s:List (List Tm)}(h1:∀p∈s,∀t∈p,tmW t)(h2:∀p∈s,p.length<lenB){e:Ed}(h:EdOk e):Sd s (sidesE e):=⟨h.sides,by rw [EdOk.len];omega,h1,h2⟩
end Go.Ev.G

namespace Go.Ev.G
open Go Go.Ev
set_option maxRecDepth 100000

abbrev Bx:=Int×List Int×List Int
theorem strip_scale(k:Nat)(n:Int):∀D:Nat,strip (k+D) (n*2 ^ D)=strip k n
 | 0=>by simp
 | D+1=>by
  have e:n*2 ^ (D+1)=(n*2 ^ D)*2:=by rw [Int.pow_succ,Int.mul_assoc]
  rw [e,←Nat.add_assoc,strip,if_pos (by omega),Int.mul_ediv_cancel _ (by decide)]
  exact strip_scale k n D
theorem mkD_scale(k D:Nat)(n:Int):mkD (n*2 ^ D) (k+D)=mkD n k:=by
 unfold mkD
 rw [strip_scale]
end Go.Ev.G

namespace Go.Ev.G
open Go Go.Ev
set_option maxRecDepth 100000

def nnI(n d:Int):Int:=if d<0 then -n else n
def quotV(n d s:Int):Int:=(nnI n d*2 ^ s.toNat) / ((d.natAbs*2 ^ (-s).toNat:Nat):Int)

theorem wN_join{neg:Bool}{h x:Nat}(hx:x<B64):wN neg (h*B64+x)=(neg,(h:Int),(x:Int)):=by
 have hB:0<B64:=by decide
 unfold wN
 rw [Nat.mul_comm h B64,Nat.mul_add_div hB,Nat.div_eq_of_lt hx,Nat.add_zero,Nat.mul_add_mod,Nat.mod_eq_of_lt hx]

theorem quot_val{n d s:Int}(hd:d≠0):quotV n d s=wV (!(decide (n<0)==decide (d<0))) ((n.natAbs*2 ^ s.toNat) / (d.natAbs*2 ^ (-s).toNat)+(if (!(decide (n<0)==decide (d<0))) && !decide (d.natAbs*2 ^ (-s).toNat ∣ n.natAbs*2 ^ s.toNat)then 1 else 0)):=by
 unfold quotV
 have hD:0<d.natAbs*2 ^ (-s).toNat:=Nat.mul_pos (by omega) (Nat.pow_pos (by decide))
 generalize d.natAbs*2 ^ (-s).toNat=D at hD ⊢
 have hA:nnI n d*2 ^ s.toNat=if (!(decide (n<0)==decide (d<0)))=true then -((n.natAbs*2 ^ s.toNat:Nat):Int)else((n.natAbs*2 ^ s.toNat:Nat):Int):=by
  have e:((n.natAbs*2 ^ s.toNat:Nat):Int)=(n.natAbs:Int)*2 ^ s.toNat:=by simp
  rw [e]
  unfold nnI
  by_cases h1:n<0
  ·by_cases h2:d<0
   ·rw [if_pos h2,decide_eq_true h1,decide_eq_true h2]
    simp only [beq_self_eq_true,Bool.not_true,Bool.false_eq_true,if_false]
    congr 1
    omega
   ·rw [if_neg h2,decide_eq_true h1,decide_eq_false h2]
    rw [if_pos (by rfl),←Int.neg_mul]
    congr 1
    omega
  ·by_cases h2:d<0
   ·rw [if_pos h2,decide_eq_false h1,decide_eq_true h2]
    rw [if_pos (by rfl),←Int.neg_mul]
    congr 1
    omega
   ·rw [if_neg h2,decide_eq_false h1,decide_eq_false h2]
    simp only [beq_self_eq_true,Bool.not_true,Bool.false_eq_true,if_false]
    congr 1
    omega
 rw [hA]
 generalize n.natAbs*2 ^ s.toNat=A
 cases (!(decide (n<0)==decide (d<0)))with
 | false=>simp [wV]
 | true =>
  simp only [if_true,Bool.true_and,wV]
  rw [Int.neg_ediv]
  have hs:(D:Int).sign=1:=Int.sign_eq_one_of_pos (by omega)
  by_cases hdv:D ∣ A
  ·rw [if_pos (Int.natCast_dvd_natCast.2 hdv),decide_eq_true hdv]
   simp
  ·rw [if_neg (fun h=>hdv (Int.natCast_dvd_natCast.1 h)),decide_eq_false hdv,hs]
   simp only [Bool.not_false,if_true]
   have:((A / D+1:Nat):Int)=(A:Int) / (D:Int)+1:=by simp
   rw [this]
   omega

theorem quotientDown_ev{n k d:Int}{p:Nat}(h1 : -1099511627776≤n∧n≤1099511627776)(h2 : -1099511627776≤d∧d≤1099511627776)(hd:d≠0)(hk : -24≤k∧k≤24)(hp:p≤24) :
  Evt (fun kk _=>impl_quotientDown kk n k d (p:Int)) (mkD (quotV n d (k+p)) p):=by
 refine Evt.eq (f:=fun k q=>_) ?_ (fun k q=>by rw [impl_quotientDown])
 rw [quot_val hd]
 have hBd:(2:Nat) ^ 64=B64:=by decide
 have hD0:0<d.natAbs:=by omega
 have hDB:d.natAbs<B64:=Nat.lt_of_le_of_lt (show d.natAbs≤1099511627776 by omega) (by decide)
 have ws:IntKind.wrap .i64 (k+(p:Int))=k+p:=w64 (by omega) (by omega)
 have ws2:IntKind.wrap .i64 (IntKind.wrap .i64 (0 - k) - (p:Int)) = -(k+p):=by rw [w64 (n:=0 - k) (by omega) (by omega),w64 (by omega) (by omega)];omega
 have e1:(if k+(p:Int)<0 then 0 else k+(p:Int))=(((k+p).toNat:Nat):Int):=by split <;> omega
 have e2:(if -(k+(p:Int))<0 then 0 else -(k+(p:Int)))=(((-(k+p)).toNat:Nat):Int):=by split <;> omega
 have he:(k+(p:Int)).toNat≤48:=by omega
 have hj:(-(k+(p:Int))).toNat≤24:=by omega
 have hA:n.natAbs*2 ^ (k+(p:Int)).toNat≤1099511627776*2 ^ 48:=Nat.mul_le_mul (by omega) (Nat.pow_le_pow_right (by decide) he)
 have hAB:n.natAbs*2 ^ (k+(p:Int)).toNat<B64*B64:=Nat.lt_of_le_of_lt hA (by decide)
 simp only [ws,ws2,e1,e2]
 refine Evt.bind (.const (wideOf_eq (by omega) (by omega))) (Evt.bind (.const (shl_eq (by omega) hAB)) (Evt.bind (.const (size_eq (by omega) (by omega))) ?_))
 generalize hTe:n.natAbs*2 ^ (k+(p:Int)).toNat=T at hAB hA ⊢
 have d1:Evt (fun k _=>math_bits_Div64 k 0 ((T / B64:Nat):Int) (d.natAbs:Int)) (((T / B64 / d.natAbs:Nat):Int),((T / B64 % d.natAbs:Nat):Int)):=by
  have:=div64_ev (hi:=0) (lo:=T / B64) hD0 ((Nat.div_lt_iff_lt_mul (by decide)).2 hAB) hDB
  rw [Nat.zero_mul,Nat.zero_add]at this
  exact this
 refine Evt.bind d1 (Evt.bind (.const (size_eq (by omega) (by omega))) ?_)
 have hm:T / B64 % d.natAbs<d.natAbs:=Nat.mod_lt _ hD0
 have hl:T % B64<B64:=Nat.mod_lt _ (by decide)
 refine Evt.bind (div64_ev hm hl hDB) ?_
 have hjn:=kn_join (u:=0) (n1:=T / B64) (n0:=T % B64) (y:=d.natAbs) (B:=B64) hD0 hl
 rw [Nat.zero_mul,Nat.zero_add,Nat.div_add_mod']at hjn
 have hx:=kn_lt (B:=B64) hm hl
 rw [hjn.2]
 have hw:((!(decide (n<0)==decide (d<0))),((T / B64 / d.natAbs:Nat):Int),(((T / B64 % d.natAbs*B64+T % B64) / d.natAbs:Nat):Int))=wN (!(decide (n<0)==decide (d<0))) (T / d.natAbs):=by
  rw [←hjn.1,wN_join hx]
 dsimp only
 rw [hw]
 have hqB:T / d.natAbs<B64*B64:=Nat.lt_of_le_of_lt (Nat.div_le_self _ _) hAB
 have hneg:∀b:Bool,(b=(!(decide (n<0)==decide (d<0))))→True:=fun _ _=>trivial
 clear hneg
  -- the shift down
 have hsh:impl_wide_shift (wN (!(decide (n<0)==decide (d<0))) (T / d.natAbs)) (if 0<k+(p:Int)then 0 else k+(p:Int))=some (wN (!(decide (n<0)==decide (d<0))) (T / d.natAbs / 2 ^ (-(k+(p:Int))).toNat)):=by
  by_cases hz:k+(p:Int)<0
  ·rw [if_neg (by omega)]
   have e:k+(p:Int) = -(((-(k+(p:Int))).toNat:Nat):Int):=by omega
   conv=>lhs;rw [e]
   exact shr_eq (by omega) (by omega) hqB
  ·have e:(if 0<k+(p:Int)then 0 else k+(p:Int))=((0:Nat):Int):=by split <;> omega
   have e0:(-(k+(p:Int))).toNat=0:=by omega
   rw [e,e0,shl_eq (by omega) (by rw [Nat.pow_zero,Nat.mul_one];exact hqB)]
   rw [Nat.pow_zero,Nat.mul_one,Nat.div_one]
 refine Evt.bind (.const hsh) ?_
 generalize hjj:(-(k+(p:Int))).toNat=j at hj ⊢
 have hM:T / d.natAbs / 2 ^ j=T / (d.natAbs*2 ^ j):=Nat.div_div_eq_div_mul _ _ _
 have hMb:T / (d.natAbs*2 ^ j)≤1099511627776*2 ^ 48:=Nat.le_trans (Nat.div_le_self _ _) hA
 have hMB:T / (d.natAbs*2 ^ j)+1<B64*B64:=Nat.lt_of_le_of_lt (Nat.add_le_add_right hMb 1) (by decide)
  -- what is exact
 have hex:(d.natAbs*2 ^ j ∣ T)↔(T % d.natAbs=0∧T / d.natAbs / 2 ^ j*2 ^ j=T / d.natAbs):=by
  constructor
  ·rintro⟨c,hc⟩
   have e:T=d.natAbs*(2 ^ j*c):=by rw [hc,Nat.mul_assoc]
   have e3:T / d.natAbs=2 ^ j*c:=by rw [e,Nat.mul_div_cancel_left _ hD0]
   refine⟨by rw [e,Nat.mul_mod_right],?_⟩
   rw [e3,Nat.mul_div_cancel_left _ (Nat.pow_pos (by decide)),Nat.mul_comm]
  ·rintro⟨h1,h2⟩
   refine⟨T / d.natAbs / 2 ^ j,?_⟩
   rw [Nat.mul_assoc,Nat.mul_comm (2 ^ j),h2,Nat.mul_comm]
   exact(Nat.div_mul_cancel (Nat.dvd_of_mod_eq_zero h1)).symm
 have w1:impl_wideOf (-1)=some (wN true 1):=wideOf_eq (n := -1) (by omega) (by omega)
 rw [hM]
 generalize hng:(!(decide (n<0)==decide (d<0)))=neg
 have fin:∀(M:Nat),M<B64*B64→Evt (fun k _=>(Option.bind (impl_wide_fit k (wN neg M) (p:Int)) fun r13=>some (r13.1,r13.2))) (mkD (wV neg M) p):=fun M hM=>Evt.bind (fit_ev hM (by omega)) .pure
 by_cases hr:T % d.natAbs=0
 ·refine Evt.ctrue (by simp [hr]) ?_
  have hsh2:impl_wide_shift (wN neg (T / (d.natAbs*2 ^ j))) (j:Int)=some (wN neg (T / (d.natAbs*2 ^ j)*2 ^ j)):=shl_eq (by omega) (by
   rw [←hM]
   exact Nat.lt_of_le_of_lt (Nat.div_mul_le_self _ _) hqB)
  refine Evt.bind (.const hsh2) (Evt.bind (sizes_ev _ _ _ _) ?_)
  cases neg with
  | false =>
   simp only [Bool.false_and,Bool.false_eq_true,if_false,Nat.add_zero]
   exact Evt.inr (Evt.cfalse rfl .pure) (fin _ (by omega))
  | true =>
   by_cases hx2:d.natAbs*2 ^ j ∣ T
   ·have h3:=(hex.1 hx2).2
    rw [hM]at h3
    rw [decide_eq_true hx2]
    simp only [Bool.not_true,Bool.and_false,Bool.false_eq_true,if_false,Nat.add_zero]
    refine Evt.inr (Evt.ctrue rfl (Evt.cfalse ?_ .pure)) (fin _ (by omega))
    rw [h3,(cmpI_zero _ _).2 rfl]
    rfl
   ·rw [decide_eq_false hx2]
    simp only [Bool.not_false,Bool.and_true,if_true]
    refine Evt.inr (Evt.ctrue rfl (Evt.ctrue ?_ (Evt.bind (.const w1) (Evt.bind (Evt.eq Evt.pure (fun k _=>add_same hMB k)) .pure)))) (fin _ hMB)
    have:cmpI ((T / (d.natAbs*2 ^ j)*2 ^ j:Nat):Int) ((T / d.natAbs:Nat):Int)≠0:=by
     intro h
     have:=(cmpI_zero _ _).1 h
     exact hx2 (hex.2 ⟨hr,by rw [hM];omega⟩)
    simpa using this
 ·have hr2:(((T % d.natAbs:Nat):Int)==0)=false:=by
   generalize T % d.natAbs=t at hr ⊢
   rw [beq_eq_false_iff_ne]
   omega
  refine Evt.cfalse hr2 ?_
  have hx2 : ¬ d.natAbs*2 ^ j ∣ T:=fun h=>hr (hex.1 h).1
  rw [decide_eq_false hx2]
  cases neg with
  | false =>
   simp only [Bool.false_and,Bool.false_eq_true,if_false,Nat.add_zero]
   exact Evt.inr (Evt.cfalse rfl .pure) (fin _ (by omega))
  | true =>
   simp only [Bool.not_false,Bool.and_true,if_true]
   exact Evt.inr (Evt.ctrue rfl (Evt.bind (.const w1) (Evt.bind (Evt.eq Evt.pure (fun k _=>add_same hMB k)) .pure))) (fin _ hMB)
end Go.Ev.G

namespace Go.Ev.G
open Go Go.Ev
set_option maxRecDepth 100000

theorem two_step{x D g t:Nat}(h:x=D*g+t)(ht:t<D):(if D≤2*t then(2*x / D=2*g+1∧2*x % D=2*t - D)else(2*x / D=2*g∧2*x % D=2*t)):=by
 have hD:0<D:=by omega
 have e:2*x=D*(2*g)+2*t:=by rw [h,Nat.mul_add,Nat.mul_left_comm]
 split
 ·have e2:2*x=D*(2*g+1)+(2*t - D):=by rw [Nat.mul_add,Nat.mul_one];omega
  rw [e2]
  exact⟨by rw [Nat.mul_add_div hD,Nat.div_eq_of_lt (by omega),Nat.add_zero],by rw [Nat.mul_add_mod,Nat.mod_eq_of_lt (by omega)]⟩
 ·rw [e]
  exact⟨by rw [Nat.mul_add_div hD,Nat.div_eq_of_lt (by omega),Nat.add_zero],by rw [Nat.mul_add_mod,Nat.mod_eq_of_lt (by omega)]⟩

theorem digits1{q p:Int}{z:Int×Int}{r d s:Nat}(hr:r<d)(hd:d≤1099511627776)(hs:s≤48):∀(m i:Nat),i+m=s →
  Evt (fun k n=>spec_dyDigits_L58 k n q ((r*2 ^ i % d:Nat):Int) (d:Int) (s:Int) p z ((r*2 ^ i / d:Nat):Int) (i:Int)) (.inr (q,(s:Int),p,z,((r*2 ^ s / d:Nat):Int),())):=by
 intro m
 induction m with
 | zero =>
  intro i hi
  refine Evt.step (fun k n=>spec_dyDigits_L58.eq_2 k _ _ _ _ _ _ _ _ n) ?_
  rw [Nat.add_zero]at hi
  subst hi
  exact Evt.cfalse (decide_eq_false (by omega)) .pure
 | succ m ih =>
  intro i hi
  have ih:=ih (i+1) (by omega)
  have hst:=two_step (x:=r*2 ^ i) (D:=d) (Nat.div_add_mod _ _).symm (Nat.mod_lt _ (by omega))
  have e2:r*2 ^ (i+1)=2*(r*2 ^ i):=by rw [Nat.pow_succ,←Nat.mul_assoc,Nat.mul_comm]
  rw [e2]at ih
  have ht:r*2 ^ i % d<d:=Nat.mod_lt _ (by omega)
  have hg:r*2 ^ i / d<2 ^ i:=by
   rw [Nat.div_lt_iff_lt_mul (by omega)]
   exact(Nat.mul_comm d (2 ^ i)) ▸ Nat.mul_lt_mul_of_pos_right hr (Nat.pow_pos (by decide))
  have hp:2 ^ i≤2 ^ 48:=Nat.pow_le_pow_right (by decide) (by omega)
  have h48:(2:Nat) ^ 48=281474976710656:=by decide
  refine Evt.step (fun k n=>spec_dyDigits_L58.eq_2 k _ _ _ _ _ _ _ _ n) (Evt.ctrue (decide_eq_true (by omega)) ?_)
  generalize r*2 ^ i / d=g at hst hg ⊢
  generalize r*2 ^ i % d=t at hst ht ⊢
  have w1:IntKind.wrap .i64 ((t:Int)*2)=(t:Int)*2:=w64 (by omega) (by omega)
  have w2:IntKind.wrap .i64 ((g:Int)*2)=(g:Int)*2:=w64 (by omega) (by omega)
  have w3:IntKind.wrap .i64 ((t:Int)*2 - (d:Int))=(t:Int)*2 - (d:Int):=w64 (by omega) (by omega)
  have w4:IntKind.wrap .i64 ((g:Int)*2+1)=(g:Int)*2+1:=w64 (by omega) (by omega)
  have w5:IntKind.wrap .i64 ((i:Int)+1)=((i+1:Nat):Int):=by rw [w64 (by omega) (by omega)];rfl
  simp only [w1,w2,w3,w4,w5]
  by_cases hc:d≤2*t
  ·rw [if_pos hc]at hst
   rw [hst.1,hst.2]at ih
   have c1:((2*t - d:Nat):Int)=(t:Int)*2 - (d:Int):=by omega
   have c2:((2*g+1:Nat):Int)=(g:Int)*2+1:=by omega
   rw [c1,c2]at ih
   exact Evt.ctrue (decide_eq_true (by omega)) ih
  ·rw [if_neg hc]at hst
   rw [hst.1,hst.2]at ih
   have c1:((2*t:Nat):Int)=(t:Int)*2:=by omega
   have c2:((2*g:Nat):Int)=(g:Int)*2:=by omega
   rw [c1,c2]at ih
   exact Evt.cfalse (decide_eq_false (by omega)) ih

theorem mkD_two(n:Int)(k:Nat):mkD (2*n) (k+1)=mkD n k:=by
 have:=mkD_scale k 1 n
 rw [Int.pow_succ,Int.pow_zero,Int.one_mul,Int.mul_comm]at this
 exact this

theorem digits2{q:Int}{z:Int×Int}:∀(s p g:Nat),s≤48→p≤24→g<2 ^ s→∃s' p' g':Nat,s'≤s∧p'≤p∧g'<2 ^ s'∧(p'=0∨s'=0∨g' % 2=1)∧mkD (q*2 ^ s'+g') p'=mkD (q*2 ^ s+g) p ∧
  Evt (fun k n=>spec_dyDigits_L60 k n q (s:Int) (p:Int) z (g:Int)) (.inr (q,(s':Int),(p':Int),z,(g':Int),())):=by
 intro s
 induction s with
 | zero =>
  intro p g hs hp hg
  refine⟨0,p,g,by omega,by omega,hg,.inr (.inl rfl),rfl,Evt.step (fun k n=>spec_dyDigits_L60.eq_2 k _ _ _ _ _ n) ?_⟩
  by_cases hp0:p=0
  ·exact Evt.cfalse (decide_eq_false (by omega)) .pure
  ·exact Evt.ctrue (decide_eq_true (by omega)) (Evt.cfalse (decide_eq_false (by omega)) .pure)
 | succ s ih =>
  intro p g hs hp hg
  by_cases hp0:p=0
  ·subst hp0
   exact⟨s+1,0,g,by omega,by omega,hg,.inl rfl,rfl,Evt.step (fun k n=>spec_dyDigits_L60.eq_2 k _ _ _ _ _ n) (Evt.cfalse (decide_eq_false (by omega)) .pure)⟩
  ·have hm:Int.tmod (g:Int) 2=((g % 2:Nat):Int):=rfl
   by_cases hg2:g % 2=0
   ·have hgh:g / 2<2 ^ s:=by rw [Nat.pow_succ]at hg;omega
    obtain⟨s',p',g',a1,a2,a3,a4,a5,a6⟩:=ih (p - 1) (g / 2) (by omega) (by omega) hgh
    refine⟨s',p',g',by omega,by omega,a3,a4,?_,Evt.step (fun k n=>spec_dyDigits_L60.eq_2 k _ _ _ _ _ n) ?_⟩
    ·rw [a5]
     have e:q*2 ^ (s+1)+(g:Int)=2*(q*2 ^ s+((g / 2:Nat):Int)):=by
      rw [Int.pow_succ,Int.mul_add,←Int.mul_assoc,Int.mul_comm (q*2 ^ s) 2]
      omega
     have ep:p=(p - 1)+1:=by omega
     rw [e]
     conv=>rhs;rw [ep]
     rw [mkD_two]
    ·have w1:IntKind.wrap .i64 (((s+1:Nat):Int) - 1)=(s:Int):=by rw [w64 (by omega) (by omega)];omega
     have w2:IntKind.wrap .i64 ((p:Int) - 1)=((p - 1:Nat):Int):=by rw [w64 (by omega) (by omega)];omega
     have hgB:g<2 ^ 48:=Nat.lt_of_lt_of_le hg (Nat.pow_le_pow_right (by decide) hs)
     have h48:(2:Nat) ^ 48=281474976710656:=by decide
     have w3:IntKind.wrap .i64 (Int.tdiv (g:Int) 2)=((g / 2:Nat):Int):=by
      have:Int.tdiv (g:Int) 2=((g / 2:Nat):Int):=rfl
      rw [this,w64 (by omega) (by omega)]
     rw [w1,w2,w3,hm]
     exact Evt.ctrue (decide_eq_true (by omega)) (Evt.ctrue (decide_eq_true (by omega)) (Evt.ctrue (by rw [hg2];rfl) a6))
   ·refine⟨s+1,p,g,by omega,by omega,hg,.inr (.inr (by omega)),rfl,Evt.step (fun k n=>spec_dyDigits_L60.eq_2 k _ _ _ _ _ n) ?_⟩
    rw [hm]
    have hg1:g % 2=1:=by omega
    exact Evt.ctrue (decide_eq_true (by omega)) (Evt.ctrue (decide_eq_true (by omega)) (Evt.cfalse (by rw [hg1];rfl) .pure))

theorem mkD_large{n:Int}(h:n < -1099511627776∨1099511627776<n):mkD n 0=((0,0),false):=by
 unfold mkD strip
 rw [if_neg]
 simp only
 omega

theorem digits_ev{q:Int}{r d s p:Nat}(hq : -1099511627777≤q∧q≤1099511627777)(hr:r<d)(hd:d≤1099511627776)(hs:s≤48)(hp:p≤24) :
  Evt (fun k _=>spec_dyDigits k q (r:Int) (d:Int) (s:Int) (p:Int)) (mkD (q*2 ^ s+((r*2 ^ s / d:Nat):Int)) p):=by
 refine Evt.eq (f:=fun k q=>_) ?_ (fun k q=>by rw [spec_dyDigits])
 have h1:=digits1 (q:=q) (p:=(p:Int)) (z:=(0,0)) hr hd hs s 0 (by omega)
 have e0:r*2 ^ 0 % d=r:=by rw [Nat.pow_zero,Nat.mul_one,Nat.mod_eq_of_lt hr]
 have e1:r*2 ^ 0 / d=0:=by rw [Nat.pow_zero,Nat.mul_one,Nat.div_eq_of_lt hr]
 rw [e0,e1]at h1
 have hg:r*2 ^ s / d<2 ^ s:=by
  rw [Nat.div_lt_iff_lt_mul (by omega)]
  exact(Nat.mul_comm d (2 ^ s)) ▸ Nat.mul_lt_mul_of_pos_right hr (Nat.pow_pos (by decide))
 generalize r*2 ^ s / d=g at h1 hg ⊢
 obtain⟨s',p',g',a1,a2,a3,a4,a5,a6⟩:=digits2 (q:=q) (z:=(0,0)) s p g hs hp hg
 refine Evt.inr (Evt.diag h1) (Evt.inr (Evt.diag a6) ?_)
 rw [←a5]
 dsimp only
 have w1:IntKind.wrap .i64 (62 - (s':Int))=((62 - s':Nat):Int):=by rw [w64 (by omega) (by omega)];omega
 rw [w1]
 refine Evt.bind (.const (abs_eq (by omega) (by omega))) (Evt.bind (.const (dyPower_eq (by omega))) ?_)
 have hps:0<2 ^ s':=Nat.pow_pos (by decide)
 have h62:2 ^ (62 - s')*2 ^ s'=4611686018427387904:=by rw [←Nat.pow_add,show 62 - s'+s'=62 by omega]
 have hs48:2 ^ s'≤2 ^ 48:=Nat.pow_le_pow_right (by decide) (by omega)
 have h48:(2:Nat) ^ 48=281474976710656:=by decide
 have ep:((2 ^ s':Nat):Int)=(2:Int) ^ s':=by simp
 have eq1:q*2 ^ s'=q*((2 ^ s':Nat):Int):=by rw [ep]
 by_cases hc:2 ^ (62 - s')<q.natAbs
 ·refine Evt.ctrue (decide_eq_true (by omega)) ?_
  have hbig:(2 ^ (62 - s')+1)*2 ^ s'≤q.natAbs*2 ^ s':=Nat.mul_le_mul_right _ hc
  rw [Nat.add_mul,h62,Nat.one_mul]at hbig
  have hl:q*2 ^ s'+(g':Int) < -1099511627776∨1099511627776<q*2 ^ s'+(g':Int):=by
   have ea:((q.natAbs*2 ^ s':Nat):Int)=(q.natAbs:Int)*((2 ^ s':Nat):Int):=by simp
   rw [eq1]
   rcases Int.lt_or_le q 0 with h | h
   ·have:(q.natAbs:Int) = -q:=by omega
    rw [this,Int.neg_mul]at ea
    left
    omega
   ·have:(q.natAbs:Int)=q:=by omega
    rw [this]at ea
    right
    omega
  rcases a4 with rfl | rfl | h
  ·rw [mkD_large hl]
   exact .pure
  ·exfalso
   have:(2:Nat) ^ (62 - 0)=4611686018427387904:=by decide
   rw [this]at hc
   omega
  ·have hs0:s'≠0:=by
    intro h0
    subst h0
    rw [Nat.pow_zero]at a3
    omega
   obtain⟨t,rfl⟩:=Nat.exists_eq_succ_of_ne_zero hs0
   rw [mkD_odd (by rw [Int.pow_succ,←Int.mul_assoc];omega) hl]
   exact .pure
 ·refine Evt.cfalse (decide_eq_false (by omega)) (Evt.bind (.const (dyPower_eq (by omega))) ?_)
  have hsm:q.natAbs*2 ^ s'≤4611686018427387904:=by
   rw [←h62]
   exact Nat.mul_le_mul_right _ (by omega)
  have hb : -4611686018427387904≤q*((2 ^ s':Nat):Int)∧q*((2 ^ s':Nat):Int)≤4611686018427387904:=by
   have ea:((q.natAbs*2 ^ s':Nat):Int)=(q.natAbs:Int)*((2 ^ s':Nat):Int):=by simp
   rcases Int.lt_or_le q 0 with h | h
   ·have:(q.natAbs:Int) = -q:=by omega
    rw [this,Int.neg_mul]at ea
    omega
   ·have:(q.natAbs:Int)=q:=by omega
    rw [this]at ea
    omega
  rw [w64 (n:=q*((2 ^ s':Nat):Int)) (by omega) (by omega),w64 (by omega) (by omega),eq1]
  exact Evt.bind (dyMake_ev (by omega) (by omega) (by omega)) .pure

theorem dyDivide_ev{a b:Int×Int}{p:Nat}(ha:gd a)(hb:gd b)(hz:b.1≠0)(hp:p≤24):Evt (fun k _=>spec_dyDivide k a b (p:Int)) (mkD (quotV a.1 b.1 (b.2 - a.2+p)) p):=by
 refine Evt.eq (f:=fun k q=>_) ?_ (fun k q=>by rw [spec_dyDivide])
 have hbz:(b.1==0)=false:=beq_eq_false_iff_ne.2 hz
 obtain⟨a1,a2,a3,a4,_⟩:=ha
 obtain⟨b1,b2,b3,b4,_⟩:=hb
 have core:∀(n d:Int),-1099511627776≤n∧n≤1099511627776→0<d→d≤1099511627776→Evt (fun k _=>(Option.bind (spec_dyDown n d) fun r4=>(bif (decide ((IntKind.wrap .i64 ((IntKind.wrap .i64 (b.2+(p:Int))) - a.2))<0))then(Option.bind (spec_dyPower (IntKind.wrap .i64 (0 - (IntKind.wrap .i64 ((IntKind.wrap .i64 (b.2+(p:Int))) - a.2))))) fun r5=>(Option.bind (spec_dyDown r4 r5) fun r6=>(Option.bind (spec_dyMake k r6 (p:Int)) fun r7=>some (r7.1,r7.2))))else(Option.bind (spec_dyDigits k r4 (IntKind.wrap .i64 (n - (IntKind.wrap .i64 (r4*d)))) d (IntKind.wrap .i64 ((IntKind.wrap .i64 (b.2+(p:Int))) - a.2)) (p:Int)) fun r8=>some (r8.1,r8.2))))) (mkD ((n*2 ^ (b.2 - a.2+p).toNat) / ((d.natAbs*2 ^ (-(b.2 - a.2+p)).toNat:Nat):Int)) p):=by
  intro n d hn hd hd2
  have w1:IntKind.wrap .i64 ((IntKind.wrap .i64 (b.2+(p:Int))) - a.2)=b.2 - a.2+p:=by rw [w64 (n:=b.2+(p:Int)) (by omega) (by omega),w64 (by omega) (by omega)];omega
  simp only [w1]
  have hdn:((d.natAbs:Nat):Int)=d:=by omega
  have hdd:=dyDown_eq (n:=n) (p:=d.natAbs) (by omega) (by omega) (by omega)
  rw [hdn]at hdd
  have hq1 : -1099511627777≤n / d∧n / d≤1099511627777:=by
   have h1:=Int.mul_ediv_add_emod n d
   have h2:=Int.emod_nonneg n (show d≠0 by omega)
   have h3:=Int.emod_lt_of_pos n hd
   constructor
   ·rcases Int.lt_or_le (n / d) (-1099511627777)with h | h
    ·exfalso
     have:d*(n / d+1)≤1*(n / d+1):=Int.mul_le_mul_of_nonpos_right (show(1:Int)≤d by omega) (by omega)
     rw [Int.mul_add]at this
     omega
    ·exact h
   ·rcases Int.lt_or_le 1099511627777 (n / d)with h | h
    ·exfalso
     have:1*(n / d)≤d*(n / d):=Int.mul_le_mul_of_nonneg_right (show(1:Int)≤d by omega) (by omega)
     omega
    ·exact h
  refine Evt.bind (.const hdd) ?_
  by_cases hs:b.2 - a.2+(p:Int)<0
  ·refine Evt.ctrue (decide_eq_true hs) ?_
   have e0:(b.2 - a.2+(p:Int)).toNat=0:=by omega
   have wj:IntKind.wrap .i64 (0 - (b.2 - a.2+(p:Int)))=(((-(b.2 - a.2+(p:Int))).toNat:Nat):Int):=by rw [w64 (by omega) (by omega)];omega
   rw [e0,wj]
   generalize hj:(-(b.2 - a.2+(p:Int))).toNat=j
   refine Evt.bind (.const (dyPower_eq (by omega))) (Evt.bind (.const (dyDown_eq (Nat.pow_pos (by decide)) (by omega) (by omega))) ?_)
   have ev:n*2 ^ 0 / ((d.natAbs*2 ^ j:Nat):Int)=n / d / ((2 ^ j:Nat):Int):=by
    have ec:((d.natAbs*2 ^ j:Nat):Int)=d*((2 ^ j:Nat):Int):=by rw [Int.natCast_mul,hdn]
    rw [ec,Int.pow_zero,Int.mul_one,Int.ediv_ediv,if_neg (fun h=>by have:=h.1;omega),Int.sub_zero]
   rw [ev]
   have hb3:=div_bound (n:=n / d) (q:=2 ^ j)
   have hpos:(0:Int)<((2 ^ j:Nat):Int):=by have:=Nat.pow_pos (a:=2) (n:=j) (by decide);omega
   have hbd : -1099511627777≤n / d / ((2 ^ j:Nat):Int)∧n / d / ((2 ^ j:Nat):Int)≤1099511627777:=by
    have h1:=Int.mul_ediv_add_emod (n / d) ((2 ^ j:Nat):Int)
    have h2:=Int.emod_nonneg (n / d) (show((2 ^ j:Nat):Int)≠0 by omega)
    have h3:=Int.emod_lt_of_pos (n / d) hpos
    generalize n / d / ((2 ^ j:Nat):Int)=v at h1 ⊢
    generalize ((2 ^ j:Nat):Int)=w at h1 h2 h3 hpos
    constructor
    ·rcases Int.lt_or_le v (-1099511627777)with h | h
     ·exfalso
      have:w*(v+1)≤1*(v+1):=Int.mul_le_mul_of_nonpos_right (show(1:Int)≤w by omega) (by omega)
      rw [Int.mul_add]at this
      omega
     ·exact h
    ·rcases Int.lt_or_le 1099511627777 v with h | h
     ·exfalso
      have:1*v≤w*v:=Int.mul_le_mul_of_nonneg_right (show(1:Int)≤w by omega) (by omega)
      omega
     ·exact h
   exact Evt.bind (dyMake_ev (by omega) (by omega) (by omega)) .pure
  ·refine Evt.cfalse (decide_eq_false hs) ?_
   have e0:(-(b.2 - a.2+(p:Int))).toNat=0:=by omega
   have es:b.2 - a.2+(p:Int)=(((b.2 - a.2+(p:Int)).toNat:Nat):Int):=by omega
   rw [e0,Nat.pow_zero,Nat.mul_one,hdn]
   generalize hsn:(b.2 - a.2+(p:Int)).toNat=s at es ⊢
   rw [es]
   have h1:=Int.mul_ediv_add_emod n d
   have h2:=Int.emod_nonneg n (show d≠0 by omega)
   have h3:=Int.emod_lt_of_pos n hd
   have hm:n / d*d=n - n % d:=by rw [Int.mul_comm];omega
   have w2:IntKind.wrap .i64 (n - (IntKind.wrap .i64 (n / d*d)))=(((n % d).toNat:Nat):Int):=by rw [hm,w64 (n:=n - n % d) (by omega) (by omega),w64 (by omega) (by omega)];omega
   rw [w2]
   have hdig:=digits_ev (q:=n / d) (r:=(n % d).toNat) (d:=d.natAbs) (s:=s) (p:=p) (by omega) (by omega) (by omega) (by omega) hp
   rw [hdn]at hdig
   have ev:n*2 ^ s / d=n / d*2 ^ s+(((n % d).toNat*2 ^ s / d.natAbs:Nat):Int):=by
    have e1:(((n % d).toNat*2 ^ s / d.natAbs:Nat):Int)=(n % d*2 ^ s) / d:=by
     have e3:(((n % d).toNat:Nat):Int)=n % d:=by omega
     rw [Int.natCast_ediv,Int.natCast_mul,hdn,e3]
     simp
    rw [e1]
    have e2:n*2 ^ s=n % d*2 ^ s+n / d*2 ^ s*d:=by
     conv=>lhs;rw [←h1]
     rw [Int.add_mul,Int.add_comm,Int.mul_comm d,Int.mul_right_comm]
    rw [e2,Int.add_mul_ediv_right _ _ (show d≠0 by omega),Int.add_comm]
   rw [ev]
   exact Evt.bind hdig .pure
 refine Evt.cfalse hbz ?_
 unfold quotV nnI
 by_cases hneg:b.1<0
 ·have hc:=core (-a.1) (-b.1) (by omega) (by omega) (by omega)
  rw [Int.natAbs_neg]at hc
  rw [if_pos hneg]
  exact Evt.inr (Evt.ctrue (decide_eq_true hneg) (Evt.bind (.const (dyMinus_eq ⟨a1,a2,a3,a4,by assumption⟩)) (Evt.bind (.const (dyMinus_eq ⟨b1,b2,b3,b4,by assumption⟩)) .pure))) hc
 ·have hc:=core a.1 b.1 (by omega) (by omega) (by omega)
  rw [if_neg hneg]
  exact Evt.inr (Evt.cfalse (decide_eq_false hneg) .pure) hc
end Go.Ev.G

namespace Go.Ev.G
open Go Go.Ev
set_option maxRecDepth 100000

def keyT(t:Tm):Int:=25*t.2.1+5*t.2.2.1+t.2.2.2
def exOk(t:Tm):Prop:=(0≤t.2.1∧t.2.1≤4)∧(0≤t.2.2.1∧t.2.2.1≤4)∧(0≤t.2.2.2∧t.2.2.2≤4)
theorem lexI_lt{a b:Tm}(ha:exOk a)(hb:exOk b):lexI a b<0↔keyT a<keyT b:=by
 unfold lexI cmpI keyT
 obtain⟨⟨_,_⟩,⟨_,_⟩,_,_⟩:=ha
 obtain⟨⟨_,_⟩,⟨_,_⟩,_,_⟩:=hb
 split
 ·split
  ·omega
  ·split <;> omega
 ·split
  ·split
   ·omega
   ·split <;> omega
  ·split
   ·omega
   ·split <;> omega
theorem lexI_zero{a b:Tm}:lexI a b=0↔a.2=b.2:=by
 unfold lexI
 obtain⟨c,x,y,z⟩:=a
 obtain⟨c',x',y',z'⟩:=b
 simp only [Prod.mk.injEq]
 split
 ·rw [cmpI_zero];omega
 ·split
  ·rw [cmpI_zero];omega
  ·rw [cmpI_zero];omega
def srt(l:List Tm):Prop:=l.Pairwise fun a b=>keyT a≤keyT b

theorem ins_loop{x2 x8:Int}{e:Tm}{R:List Tm}(he:exOk e):∀(m:Nat) (P1 P2:List Tm),P1.length=m→(P1++e::P2++R).length<lenB→(∀t∈P1++P2,exOk t)→srt (P1++P2)→(∀p∈P2,keyT e≤keyT p) →
  ∃Y,Y.Perm (P1++e::P2)∧srt Y∧Evt (fun k n=>slices_insertionSortCmpFunc_Term_impl_compareTerms_L402 k n (P1++e::(P2++R)) 0 x2 () x8 P1.length) (.inr (Y++R,0,x2,(),x8,())):=by
 intro m
 induction m with
 | zero =>
  intro P1 P2 hm hb hx hs hp
  have hn:P1 = []:=List.eq_nil_of_length_eq_zero hm
  subst hn
  refine⟨e::P2,.refl _,List.pairwise_cons.2 ⟨hp,hs⟩,Evt.step (fun k n=>slices_insertionSortCmpFunc_Term_impl_compareTerms_L402.eq_2 k _ _ _ _ _ _ n) ?_⟩
  exact Evt.cfalse (by simp) .pure
 | succ m ih =>
  intro P1 P2 hm hb hx hs hp
  obtain⟨Q,p,hQ⟩:∃Q p,P1=Q ++ [p]:=⟨P1.dropLast,P1.getLast (by intro h;rw [h]at hm;simp at hm),(List.dropLast_concat_getLast _).symm⟩
  subst hQ
  have hQl:Q.length=m:=by simpa using hm
  have hpx:exOk p:=hx p (by simp)
  have e0:Q ++ [p]++e::(P2++R)=Q++p::e::(P2++R):=by simp
  have hlen:(Q ++ [p]++e::(P2++R)).length=Q.length+2+P2.length+R.length:=by simp;omega
  simp only [List.length_append,List.length_cons,List.length_nil,lenB]at hb
  have hj:IntKind.wrap .i64 (((Q ++ [p]).length:Int) - 1)=(Q.length:Int):=by rw [w64 (by simp <;> omega) (by simp <;> omega)];simp
  have g1:(Q ++ [p]++e::(P2++R)).getD (Int.toNat ((Q ++ [p]).length:Int)) (0,0,0,0)=e:=mid_get
  have g2:(Q ++ [p]++e::(P2++R)).getD (Int.toNat (Q.length:Int)) (0,0,0,0)=p:=by rw [e0];exact mid_get
  have s1:(Q ++ [p]++e::(P2++R)).set (Int.toNat ((Q ++ [p]).length:Int)) p=Q++p::(p::(P2++R)):=by rw [mid_set];simp
  have c1:decide (((Q ++ [p]).length:Int)<((Q ++ [p]++e::(P2++R)).length:Int))=true:=mid_lt
  have c2:decide ((Q.length:Int)<((Q ++ [p]++e::(P2++R)).length:Int))=true:=decide_eq_true (by rw [hlen];omega)
  have hstep:=fun(k n:Nat)=>slices_insertionSortCmpFunc_Term_impl_compareTerms_L402.eq_2 k (Q ++ [p]++e::(P2++R)) 0 x2 () x8 ((Q ++ [p]).length:Int) n
  simp only [hj,g1,g2,s1]at hstep
  by_cases hc:lexI e p<0
  ·obtain⟨Y,q1,q2,q3⟩:=ih Q (p::P2) hQl (by simp only [List.length_append,List.length_cons,lenB];omega) (by simpa using hx) (by simpa [srt] using hs) (by
    intro q hq
    have hep:=(lexI_lt he hpx).1 hc
    rcases List.mem_cons.1 hq with rfl | hq
    ·omega
    ·have h2:=(List.pairwise_append.1 hs).2.2 p (by simp) q hq
     omega)
   refine⟨Y,q1.trans ?_,q2,Evt.step (fun k n=>hstep k n) ?_⟩
   ·rw [List.append_assoc]
    exact List.Perm.append_left Q (List.Perm.swap p e P2)
   ·refine Evt.ctrue (decide_eq_true (by simp)) (Evt.ctrue mid_ge (Evt.ctrue c1 (Evt.ctrue mid_ge (Evt.ctrue c2 (Evt.bind (compareTerms_ev e p) (Evt.ctrue (decide_eq_true hc) (Evt.ctrue mid_ge (Evt.ctrue c2 (Evt.ctrue mid_ge (Evt.ctrue c1 (Evt.ctrue mid_ge (Evt.ctrue c1 (Evt.ctrue mid_ge (Evt.ctrue mid_lt ?_))))))))))))))
    rw [mid_set]
    exact q3
  ·refine⟨Q ++ [p]++e::P2,.refl _,?_,Evt.step (fun k n=>hstep k n) ?_⟩
   ·have hpe:keyT p≤keyT e:=by
     have:=mt (lexI_lt he hpx).2 hc
     omega
    refine List.pairwise_append.2 ⟨(List.pairwise_append.1 hs).1,List.pairwise_cons.2 ⟨hp,(List.pairwise_append.1 hs).2.1⟩,fun a ha b hb => ?_⟩
    have hap:keyT a≤keyT p:=by
     rcases List.mem_append.1 ha with ha | ha
     ·exact(List.pairwise_append.1 (List.pairwise_append.1 hs).1).2.2 a ha p (by simp)
     ·simp at ha;subst ha;exact Int.le_refl _
    rcases List.mem_cons.1 hb with rfl | hb
    ·omega
    ·have:=hp b hb
     omega
   ·refine Evt.ctrue (decide_eq_true (by simp)) (Evt.ctrue mid_ge (Evt.ctrue c1 (Evt.ctrue mid_ge (Evt.ctrue c2 (Evt.bind (compareTerms_ev e p) (Evt.cfalse (decide_eq_false hc) ?_))))))
    have:Q ++ [p]++e::(P2++R)=Q ++ [p]++e::P2++R:=by simp
    rw [this]
    exact .pure

theorem sort_loop:∀(r P:List Tm),(P++r).length<lenB→(∀t∈P++r,exOk t)→srt P →
  ∃Y,Y.Perm (P++r)∧srt Y∧Evt (fun k n=>slices_insertionSortCmpFunc_Term_impl_compareTerms_L6 k n (P++r) 0 ((P++r).length:Int) () P.length) (.inr (Y,())):=by
 intro r
 induction r with
 | nil =>
  intro P hb hx hs
  rw [List.append_nil]
  exact⟨P,.refl _,hs,Evt.step (fun k n=>slices_insertionSortCmpFunc_Term_impl_compareTerms_L6.eq_2 k _ _ _ _ _ n) (Evt.cfalse (by simp) .pure)⟩
 | cons e r ih =>
  intro P hb hx hs
  obtain⟨Y,q1,q2,q3⟩:=ins_loop (x2:=((P++e::r).length:Int)) (x8:=(P.length:Int)) (R:=r) (hx e (by simp)) P.length P [] rfl (by simpa using hb) (fun t ht=>hx t (by simp at ht;simp [ht])) (by simpa using hs) (by simp)
  have hl:=q1.length_eq
  have hl2:Y.length=P.length+1:=by simpa using hl
  have hmem:∀t∈Y++r,exOk t:=by
   intro t ht
   rcases List.mem_append.1 ht with ht | ht
   ·have:=q1.mem_iff.1 ht
    exact hx t (by simp at this;rcases this with h | h <;> simp [h])
   ·exact hx t (by simp [ht])
  have hlen:(Y++r).length=(P++e::r).length:=by simp;omega
  obtain⟨Z,z1,z2,z3⟩:=ih Y (by rw [hlen];exact hb) hmem q2
  refine⟨Z,z1.trans ?_,z2,Evt.step (fun k n=>slices_insertionSortCmpFunc_Term_impl_compareTerms_L6.eq_2 k _ _ _ _ _ n) ?_⟩
  ·have:=List.Perm.append_right r q1
   simpa using this
  ·refine Evt.ctrue mid_lt (Evt.inr (Evt.diag q3) ?_)
   rw [hlen,hl2]at z3
   have hb2:P.length<lenB:=by simp at hb;simp only [lenB]at hb ⊢; omega
   simp only [w64_next hb2]
   exact z3

theorem insSort_ev{l:List Tm}(hb:l.length<lenB)(hx:∀t∈l,exOk t):∃Y,Y.Perm l∧srt Y∧Evt (fun k _=>slices_insertionSortCmpFunc_Term_impl_compareTerms k l 0 (l.length:Int) ()) Y:=by
 cases l with
 | nil =>
  refine⟨[],.refl _,List.Pairwise.nil,Evt.eq (f:=fun k q=>_) ?_ (fun k q=>by rw [slices_insertionSortCmpFunc_Term_impl_compareTerms])⟩
  have h1:Evt (fun k n=>slices_insertionSortCmpFunc_Term_impl_compareTerms_L6 k n [] 0 (([]:List Tm).length:Int) () (IntKind.wrap .i64 (0+1))) (.inr ([],())):=Evt.step (fun k n=>slices_insertionSortCmpFunc_Term_impl_compareTerms_L6.eq_2 k _ _ _ _ _ n) (Evt.cfalse (by decide) .pure)
  exact Evt.inr (Evt.diag h1) .pure
 | cons a r =>
  obtain⟨Y,q1,q2,q3⟩:=sort_loop r [a] hb hx (List.pairwise_singleton _ _)
  refine⟨Y,q1,q2,Evt.eq (f:=fun k q=>_) ?_ (fun k q=>by rw [slices_insertionSortCmpFunc_Term_impl_compareTerms])⟩
  exact Evt.inr (Evt.diag q3) .pure
theorem insNone_ev{l:List Tm}{m:Nat}(hm:m<lenB):Evt (fun k _=>slices_insertionSortCmpFunc_Term_impl_compareTerms k l m m ()) l:=by
 refine Evt.eq (f:=fun k q=>_) ?_ (fun k q=>by rw [slices_insertionSortCmpFunc_Term_impl_compareTerms])
 have h1:Evt (fun k n=>slices_insertionSortCmpFunc_Term_impl_compareTerms_L6 k n l (m:Int) (m:Int) () (IntKind.wrap .i64 ((m:Int)+1))) (.inr (l,())):=by
  refine Evt.step (fun k n=>slices_insertionSortCmpFunc_Term_impl_compareTerms_L6.eq_2 k _ _ _ _ _ n) (Evt.cfalse (decide_eq_false ?_) .pure)
  rw [w64_next hm]
  omega
 exact Evt.inr (Evt.diag h1) .pure

theorem stable_ev{l:List Tm}(hb:l.length≤20)(hx:∀t∈l,exOk t):∃Y,Y.Perm l∧srt Y∧Evt (fun k _=>slices_SortStableFunc_Term_Term_impl_compareTerms k l ()) Y:=by
 obtain⟨Y,q1,q2,q3⟩:=insSort_ev (l:=l) (by simp only [lenB];omega) hx
 refine⟨Y,q1,q2,Evt.eq (f:=fun k q=>_) ?_ (fun k q=>by rw [slices_SortStableFunc_Term_Term_impl_compareTerms])⟩
 refine Evt.bind (a:=Y) ?_ .pure
 refine Evt.eq (f:=fun k q=>_) ?_ (fun k q=>by rw [slices_stableCmpFunc_Term_impl_compareTerms])
 have hend:Evt (fun k n=>slices_stableCmpFunc_Term_impl_compareTerms_L62 k n Y (l.length:Int) () 20) (.inr (Y,())) :=
  Evt.step (fun k n=>slices_stableCmpFunc_Term_impl_compareTerms_L62.eq_2 k _ _ _ _ n) (Evt.cfalse (decide_eq_false (by omega)) .pure)
 by_cases h20:l.length=20
 ·have hl:(l.length:Int)=20:=by omega
  have h1:Evt (fun k n=>slices_stableCmpFunc_Term_impl_compareTerms_L28 k n l (l.length:Int) () 20 0 20) (.inr (Y,(l.length:Int),(),20,20,())):=by
   refine Evt.step (fun k n=>slices_stableCmpFunc_Term_impl_compareTerms_L28.eq_2 k _ _ _ _ _ _ n) (Evt.ctrue (decide_eq_true (by omega)) ?_)
   rw [hl]at q3 ⊢
   refine Evt.bind q3 ?_
   exact Evt.step (fun k n=>slices_stableCmpFunc_Term_impl_compareTerms_L28.eq_2 k _ _ _ _ _ _ n) (Evt.cfalse (by decide) .pure)
  refine Evt.inr (Evt.diag h1) (Evt.bind (a:=Y) ?_ (Evt.inr (Evt.diag hend) .pure))
  rw [hl]
  exact insNone_ev (m:=20) (by simp only [lenB];omega)
 ·have h1:Evt (fun k n=>slices_stableCmpFunc_Term_impl_compareTerms_L28 k n l (l.length:Int) () 20 0 20) (.inr (l,(l.length:Int),(),20,0,())) :=
   Evt.step (fun k n=>slices_stableCmpFunc_Term_impl_compareTerms_L28.eq_2 k _ _ _ _ _ _ n) (Evt.cfalse (decide_eq_false (by omega)) .pure)
  exact Evt.inr (Evt.diag h1) (Evt.bind q3 (Evt.inr (Evt.diag hend) .pure))

def mgR:Option Tm→List Tm→List Tm
 | none,[] => []
 | none,t::r=>mgR (some t) r
 | some q,[] => [q]
 | some q,t::r=>if lexI q t=0 then mgR (some (q.1+t.1,q.2)) r else q::mgR (some t) r
theorem mgR_len:∀(r:List Tm) (o:Option Tm),(mgR o r).length≤r.length+1
 | [],none=>by simp [mgR]
 | [],some q=>by simp [mgR]
 | t::r,none=>by have:=mgR_len r (some t);simp [mgR];omega
 | t::r,some q=>by
  unfold mgR
  split
  ·have:=mgR_len r (some (q.1+t.1,q.2));simp;omega
  ·have:=mgR_len r (some t);simp;omega

theorem merge_loop{xs:List Tm}(hb:xs.length≤20):∀(r dd d:List Tm) (q:Tm),dd++r=xs→d.length≤dd.length→(∀t∈r,-4000≤t.1∧t.1≤4000) → -1000000+4000*(r.length:Int)≤q.1→q.1≤1000000 - 4000*(r.length:Int) →
  Evt (fun k n=>impl_collect_L250 k n (d ++ [q]) xs (xs.length:Int) dd.length) (.inr (d++mgR (some q) r,())):=by
 intro r
 induction r with
 | nil =>
  intro dd d q h _ _ _ _
  refine Evt.step (fun k n=>impl_collect_L250.eq_2 k _ _ _ _ n) ?_
  rw [List.append_nil]at h
  subst h
  exact Evt.cfalse (by simp) .pure
 | cons t r ih =>
  intro dd d q h hd ht h1 h2
  have hl:=congrArg List.length h
  simp at hl
  have hq1:=ht t (by simp)
  simp only [List.length_cons]at h1 h2
  have hw:IntKind.wrap .i64 (((d ++ [q]).length:Int) - 1)=(d.length:Int):=by rw [w64 (by simp <;> omega) (by simp <;> omega)];simp
  have g1:(d ++ [q]).getD (Int.toNat (d.length:Int)) (0,0,0,0)=q:=mid_get
  have g2:xs.getD (Int.toNat (dd.length:Int)) (0,0,0,0)=t:=by rw [←h];exact mid_get
  have hstep:=fun(k n:Nat)=>impl_collect_L250.eq_2 k (d ++ [q]) xs (xs.length:Int) (dd.length:Int) n
  simp only [hw,g1,g2]at hstep
  refine Evt.step (fun k n=>hstep k n) ?_
  have c0:decide ((dd.length:Int)<(xs.length:Int))=true:=by rw [←h];exact mid_lt
  have c1:decide ((d.length:Int)<((d ++ [q]).length:Int))=true:=mid_lt
  have hnx:=len_next (d:=dd) (r:=r) (e:=t) (by rw [h];simp only [lenB];omega)
  refine Evt.ctrue c0 (Evt.ctrue mid_ge (Evt.ctrue c0 (Evt.ctrue (decide_eq_true (by simp)) (Evt.ctrue mid_ge (Evt.ctrue c1 (Evt.bind (compareTerms_ev q t) ?_))))))
  rw [hnx]
  unfold mgR
  by_cases hz:lexI q t=0
  ·rw [if_pos hz]
   have ih:=ih (dd ++ [t]) d (q.1+t.1,q.2) (by simpa using h) (by simp;omega) (fun u hu=>ht u (by simp [hu])) (by simp only;omega) (by simp only;omega)
   refine Evt.ctrue (by simp [hz]) (Evt.ctrue mid_ge (Evt.ctrue c1 (Evt.ctrue mid_ge (Evt.ctrue c1 ?_))))
   rw [mid_set,w64 (n:=q.1+t.1) (by omega) (by omega)]
   exact ih
  ·rw [if_neg hz]
   have ih:=ih (dd ++ [t]) (d ++ [q]) t (by simpa using h) (by simp;omega) (fun u hu=>ht u (by simp [hu])) (by omega) (by omega)
   refine Evt.cfalse (by simpa using hz) (Evt.ctrue (decide_eq_true (by simp;omega)) ?_)
   rw [List.append_assoc d [q] (mgR _ _)]at ih
   exact ih
theorem merge_ev{xs:List Tm}(hb:xs.length≤20)(ht:∀t∈xs,-4000≤t.1∧t.1≤4000):Evt (fun k n=>impl_collect_L250 k n [] xs (xs.length:Int) 0) (.inr (mgR none xs,())):=by
 cases xs with
 | nil=>exact Evt.step (fun k n=>impl_collect_L250.eq_2 k _ _ _ _ n) (Evt.cfalse (by decide) .pure)
 | cons t r =>
  have ht1:=ht t (by simp)
  simp at hb
  have hm:=merge_loop (xs:=t::r) (by simpa using hb) r [t] [] t rfl (by simp) (fun u hu=>ht u (by simp [hu])) (by omega) (by omega)
  refine Evt.step (fun k n=>impl_collect_L250.eq_2 k _ _ _ _ n) ?_
  refine Evt.ctrue (decide_eq_true (by simp <;> omega)) (Evt.ctrue (by decide) (Evt.ctrue (decide_eq_true (by simp <;> omega)) (Evt.cfalse (by decide) (Evt.ctrue (decide_eq_true (by simp)) ?_))))
  exact hm

def nzT(t:Tm):Bool := !(t.1==0)
theorem index_ev{l:List Tm}(hb:l.length<lenB):(l.all nzT=true→Evt (fun k _=>slices_IndexFunc_Term_Term_impl_collect_1 k l ()) (-1))∧(l.all nzT=false→∃A b r,l=A++b::r∧A.all nzT=true∧nzT b=false∧Evt (fun k _=>slices_IndexFunc_Term_Term_impl_collect_1 k l ()) (A.length:Int)):=by
 have key:∀(r d:List Tm),d++r=l→d.all nzT=true→(r.all nzT=true→Evt (fun k n=>slices_IndexFunc_Term_Term_impl_collect_1_L26 k n l () (l.length:Int) d.length) (.inr ())) ∧
   (r.all nzT=false→∃A b r',l=A++b::r'∧A.all nzT=true∧nzT b=false∧Evt (fun k n=>slices_IndexFunc_Term_Term_impl_collect_1_L26 k n l () (l.length:Int) d.length) (.inl (A.length:Int))):=by
  intro r
  induction r with
  | nil =>
   intro d h hd
   refine⟨fun _=>Evt.step (fun k n=>slices_IndexFunc_Term_Term_impl_collect_1_L26.eq_2 k _ _ _ _ n) ?_,fun h=>by simp at h⟩
   rw [List.append_nil]at h
   subst h
   exact Evt.cfalse (by simp) .pure
  | cons e r ih =>
   intro d h hd
   have hnx:=len_next (d:=d) (r:=r) (e:=e) (by rw [h];exact hb)
   have g:l.getD (Int.toNat (d.length:Int)) (0,0,0,0)=e:=by rw [←h];exact mid_get
   have c0:decide ((d.length:Int)<(l.length:Int))=true:=by rw [←h];exact mid_lt
   have hstep:=fun(k n:Nat)=>slices_IndexFunc_Term_Term_impl_collect_1_L26.eq_2 k l () (l.length:Int) (d.length:Int) n
   simp only [g,hnx]at hstep
   cases he:nzT e with
   | true =>
    obtain⟨i1,i2⟩:=ih (d ++ [e]) (by simpa using h) (by simp only [List.all_append,hd,Bool.true_and,List.all_cons,he,List.all_nil])
    have hz:(e.1==0)=false:=by unfold nzT at he;simpa using he
    have st:∀v,Evt (fun k n=>slices_IndexFunc_Term_Term_impl_collect_1_L26 k n l () (l.length:Int) (d ++ [e]).length) v→Evt (fun k n=>slices_IndexFunc_Term_Term_impl_collect_1_L26 k n l () (l.length:Int) d.length) v:=fun v hv =>
     Evt.step (fun k n=>hstep k n) (Evt.ctrue c0 (Evt.ctrue mid_ge (Evt.ctrue c0 (Evt.bind (.const (r:=false) (by unfold impl_collect_1;rw [hz])) hv))))
    refine⟨fun ha=>st _ (i1 (by simpa [he] using ha)),fun ha => ?_⟩
    obtain⟨A,b,r',e1,e2,e3,e4⟩:=i2 (by simpa [he] using ha)
    exact⟨A,b,r',e1,e2,e3,st _ e4⟩
   | false =>
    have hz:(e.1==0)=true:=by unfold nzT at he;simpa using he
    refine⟨fun ha=>by simp [he]at ha,fun _=>⟨d,e,r,h.symm,hd,he,?_⟩⟩
    exact Evt.step (fun k n=>hstep k n) (Evt.ctrue c0 (Evt.ctrue mid_ge (Evt.ctrue c0 (Evt.bind (.const (r:=true) (by unfold impl_collect_1;rw [hz])) .pure))))
 obtain⟨k1,k2⟩:=key l [] rfl rfl
 refine⟨fun h=>Evt.eq (f:=fun k q=>_) ?_ (fun k q=>by rw [slices_IndexFunc_Term_Term_impl_collect_1]),fun h => ?_⟩
 ·exact Evt.inr (Evt.diag (k1 h)) .pure
 ·obtain⟨A,b,r',e1,e2,e3,e4⟩:=k2 h
  refine⟨A,b,r',e1,e2,e3,Evt.eq (f:=fun k q=>_) ?_ (fun k q=>by rw [slices_IndexFunc_Term_Term_impl_collect_1])⟩
  exact Evt.inl (Evt.diag e4) .pure

theorem delete_loop:∀(r A:List Tm) (b:Tm) (B:List Tm),(A++b::B++r).length<lenB→∃X,X.length=(A++b::B++r).length∧X.take (A++r.filter nzT).length=A++r.filter nzT ∧
  Evt (fun k n=>slices_DeleteFunc_Term_Term_impl_collect_1_L122 k n (A++b::(B++r)) () A.length ((A++b::B).length:Int)) (.inr (X,((A++r.filter nzT).length:Int),())):=by
 intro r
 induction r with
 | nil =>
  intro A b B hb
  refine⟨A++b::B,by simp,by simp,Evt.step (fun k n=>slices_DeleteFunc_Term_Term_impl_collect_1_L122.eq_2 k _ _ _ _ n) ?_⟩
  simp only [List.append_nil,List.filter_nil]
  exact Evt.cfalse (by simp) .pure
 | cons e r ih =>
  intro A b B hb
  have g:(A++b::(B++e::r)).getD (Int.toNat ((A++b::B).length:Int)) (0,0,0,0)=e:=by
   have:A++b::(B++e::r)=(A++b::B)++e::r:=by simp
   rw [this]
   exact mid_get
  have c0:decide (((A++b::B).length:Int)<((A++b::(B++e::r)).length:Int))=true:=decide_eq_true (by simp;omega)
  have c1:decide ((A.length:Int)<((A++b::(B++e::r)).length:Int))=true:=mid_lt
  have hlt:(A++b::B).length<lenB:=by simp at hb ⊢; simp only [lenB]at hb ⊢; omega
  have hlA:A.length<lenB:=by simp at hb ⊢; simp only [lenB]at hb ⊢; omega
  have hn1:=w64_next hlt
  have hn2:=w64_next hlA
  have hstep:=fun(k n:Nat)=>slices_DeleteFunc_Term_Term_impl_collect_1_L122.eq_2 k (A++b::(B++e::r)) () (A.length:Int) ((A++b::B).length:Int) n
  simp only [g,hn1,hn2]at hstep
  cases he:nzT e with
  | true =>
   have hz:(e.1==0)=false:=by unfold nzT at he;simpa using he
   cases B with
   | nil =>
    obtain⟨X,x1,x2,x3⟩:=ih (A ++ [e]) e [] (by simpa using hb)
    refine⟨X,by rw [x1];simp,by simpa [he] using x2,Evt.step (fun k n=>hstep k n) ?_⟩
    refine Evt.ctrue c0 (Evt.ctrue mid_ge (Evt.ctrue c0 (Evt.bind (.const (r:=false) (by unfold impl_collect_1;rw [hz])) (Evt.ctrue rfl (Evt.ctrue mid_ge (Evt.ctrue c1 ?_))))))
    rw [mid_set]
    have e3:A ++ [e]++e::([]++r)=A++e::([]++e::r):=by simp
    rw [e3]at x3
    have e4:A ++ [e]++r.filter nzT=A++(e::r).filter nzT:=by simp [he]
    have l1:(A ++ [e]).length=A.length+1:=by simp
    have l2:(A ++ [e]++e :: []).length=(A++b :: []).length+1:=by simp
    rw [e4,l1,l2]at x3
    exact x3
   | cons b' B =>
    obtain⟨X,x1,x2,x3⟩:=ih (A ++ [e]) b' (B ++ [e]) (by simp at hb ⊢; simp only [lenB]at hb ⊢; omega)
    refine⟨X,by rw [x1];simp,by simpa [he] using x2,Evt.step (fun k n=>hstep k n) ?_⟩
    refine Evt.ctrue c0 (Evt.ctrue mid_ge (Evt.ctrue c0 (Evt.bind (.const (r:=false) (by unfold impl_collect_1;rw [hz])) (Evt.ctrue rfl (Evt.ctrue mid_ge (Evt.ctrue c1 ?_))))))
    rw [mid_set]
    have e4:A ++ [e]++r.filter nzT=A++(e::r).filter nzT:=by simp [he]
    have l1:(A ++ [e]).length=A.length+1:=by simp
    have l2:(A ++ [e]++b'::(B ++ [e])).length=(A++b::b'::B).length+1:=by simp;omega
    have e3:A ++ [e]++b'::(B ++ [e]++r)=A++e::(b'::B++e::r):=by simp
    rw [e4,l1,l2,e3]at x3
    exact x3
  | false =>
   have hz:(e.1==0)=true:=by unfold nzT at he;simpa using he
   obtain⟨X,x1,x2,x3⟩:=ih A b (B ++ [e]) (by simpa using hb)
   refine⟨X,by rw [x1];simp,by simpa [he] using x2,Evt.step (fun k n=>hstep k n) ?_⟩
   refine Evt.ctrue c0 (Evt.ctrue mid_ge (Evt.ctrue c0 (Evt.bind (.const (r:=true) (by unfold impl_collect_1;rw [hz])) (Evt.cfalse rfl ?_))))
   have e4:A++r.filter nzT=A++(e::r).filter nzT:=by simp [he]
   have l2:(A++b::(B ++ [e])).length=(A++b::B).length+1:=by simp;omega
   have e3:A++b::(B ++ [e]++r)=A++b::(B++e::r):=by simp
   rw [e4,l2,e3]at x3
   exact x3

theorem delete_ev{l:List Tm}(hb:l.length<lenB):Evt (fun k _=>slices_DeleteFunc_Term_Term_impl_collect_1 k l ()) (l.filter nzT):=by
 refine Evt.eq (f:=fun k q=>_) ?_ (fun k q=>by rw [slices_DeleteFunc_Term_Term_impl_collect_1])
 obtain⟨i1,i2⟩:=index_ev hb
 cases ha:l.all nzT with
 | true =>
  have:l.filter nzT=l:=List.filter_eq_self.2 (List.all_eq_true.1 ha)
  rw [this]
  exact Evt.bind (i1 ha) (Evt.ctrue rfl .pure)
 | false =>
  obtain⟨A,b,r,rfl,hA,hbz,hev⟩:=i2 ha
  obtain⟨X,x1,x2,x3⟩:=delete_loop r A b [] (by simpa using hb)
  have hlA:A.length<lenB:=by simp at hb ⊢; simp only [lenB]at hb ⊢; omega
  have hn2:=w64_next hlA
  have e1:(A++b::r).filter nzT=A++r.filter nzT:=by rw [List.filter_append,List.filter_eq_self.2 (List.all_eq_true.1 hA),List.filter_cons,hbz];rfl
  rw [e1]
  have hle:(A++r.filter nzT).length<X.length:=by
   rw [x1]
   have:=List.length_filter_le nzT r
   simp
   omega
  refine Evt.bind hev (Evt.cfalse (by simp) ?_)
  have hx3:Evt (fun k n=>slices_DeleteFunc_Term_Term_impl_collect_1_L122 k n (A++b::r) () (A.length:Int) (IntKind.wrap .i64 ((A.length:Int)+1))) (.inr (X,((A++r.filter nzT).length:Int),())):=by
   rw [hn2]
   simpa using x3
  refine Evt.inr (Evt.diag hx3) ?_
  dsimp only
  generalize A++r.filter nzT=F at hle x2
  have hn:Int.toNat (F.length:Int)=F.length:=Int.toNat_natCast _
  have e2:(X.take F.length++List.replicate (X.length - F.length) ((0,0,0,0):Tm)).take F.length=F:=by
   rw [List.take_append_of_le_length (by rw [List.length_take];omega),List.take_take,Nat.min_self,x2]
  rw [hn]
  refine Evt.ctrue mid_ge (Evt.ctrue (decide_eq_true (by omega)) (Evt.ctrue mid_ge (Evt.ctrue (decide_eq_true (by rw [List.length_append,List.length_take,List.length_replicate,Nat.min_eq_left (Nat.le_of_lt hle)];omega)) ?_)))
  rw [e2]
  exact .pure

theorem mgR_filter:∀(r:List Tm) (q:Tm),(∀t∈q::r,exOk t)→srt (q::r)→((q::r).filter nzT).Pairwise (fun a b=>keyT a<keyT b)→(mgR (some q) r).filter nzT=(q::r).filter nzT
 | [],q,_,_,_=>rfl
 | t::r,q,hx,hs,hp=>by
  have hq:=hx q (by simp)
  have ht:=hx t (by simp)
  obtain⟨s1,s2⟩:=List.pairwise_cons.1 hs
  obtain⟨s3,s4⟩:=List.pairwise_cons.1 s2
  unfold mgR
  by_cases hz:lexI q t=0
  ·rw [if_pos hz]
   have h2:=lexI_zero.1 hz
   have hk:keyT q=keyT t:=by unfold keyT;rw [h2]
   by_cases hq0:q.1=0
   ·have e1:((q.1+t.1,q.2):Tm)=t:=by rw [hq0,h2,Int.zero_add]
    have nq:nzT q=false:=by unfold nzT;simp [hq0]
    rw [e1,List.filter_cons (x:=q),nq]
    rw [List.filter_cons (x:=q),nq]at hp
    exact mgR_filter r t (fun u hu=>hx u (by simp at hu ⊢; exact .inr hu)) s2 hp
   ·by_cases ht0:t.1=0
    ·have e1:((q.1+t.1,q.2):Tm)=q:=by rw [ht0,Int.add_zero]
     have nq:nzT q=true:=by unfold nzT;simp [hq0]
     have nt:nzT t=false:=by unfold nzT;simp [ht0]
     rw [e1,mgR_filter r q (fun u hu=>hx u (by simp at hu ⊢; rcases hu with h | h <;> simp [h])) (List.pairwise_cons.2 ⟨fun u hu=>s1 u (by simp [hu]),s4⟩) (by
      rw [List.filter_cons,if_pos nq,List.filter_cons,nt]at hp
      rw [List.filter_cons,if_pos nq]
      exact hp)]
     rw [List.filter_cons,List.filter_cons (x:=q),List.filter_cons (x:=t),nt,nq]
     rfl
    ·exfalso
     have nq:nzT q=true:=by unfold nzT;simp [hq0]
     have nt:nzT t=true:=by unfold nzT;simp [ht0]
     rw [List.filter_cons,if_pos nq,List.filter_cons,if_pos nt]at hp
     have:=(List.pairwise_cons.1 hp).1 t (by simp)
     omega
  ·rw [if_neg hz]
   have h2:((t::r).filter nzT).Pairwise (fun a b=>keyT a<keyT b):=by
    rw [List.filter_cons]at hp
    split at hp
    ·exact(List.pairwise_cons.1 hp).2
    ·exact hp
   have ih:=mgR_filter r t (fun u hu=>hx u (by simp at hu ⊢; exact .inr hu)) s2 h2
   rw [List.filter_cons,List.filter_cons (x:=q),ih]

theorem collect_ev{l:List Tm}(hb:l.length≤20)(hx:∀t∈l,exOk t)(hc:∀t∈l,-4000≤t.1∧t.1≤4000)(hp:(l.filter nzT).Pairwise fun a b=>keyT a<keyT b):Evt (fun k _=>impl_collect k l) (l.filter nzT):=by
 obtain⟨Y,q1,q2,q3⟩:=stable_ev hb hx
 refine Evt.eq (f:=fun k q=>_) ?_ (fun k q=>by rw [impl_collect])
 have hcl:slices_Clone_Term_Term l=some l:=by
  unfold slices_Clone_Term_Term
  rw [decide_eq_true (by simp;omega)]
  rfl
 have hl:=q1.length_eq
 have hm:=merge_ev (xs:=Y) (by omega) (fun t ht=>hc t (q1.mem_iff.1 ht))
 have hlen:(mgR none Y).length<lenB:=by
  have:=mgR_len Y none
  simp only [lenB];omega
 refine Evt.bind (.const hcl) (Evt.bind q3 (Evt.inr (Evt.diag hm) (Evt.bind (delete_ev hlen) ?_)))
 have hf:Y.filter nzT=l.filter nzT:=by
  refine List.Perm.eq_of_pairwise (le:=fun a b=>keyT a≤keyT b) ?_ (List.Pairwise.filter _ q2) (hp.imp (fun h=>Int.le_of_lt h)) (q1.filter _)
  intro a b ha hb' h1 h2
  have hk:keyT a=keyT b:=Int.le_antisymm h1 h2
  have ha':a∈l.filter nzT:=(q1.filter nzT).mem_iff.1 ha
  obtain⟨i,hi,rfl⟩:=List.getElem_of_mem ha'
  obtain⟨j,hj,rfl⟩:=List.getElem_of_mem hb'
  rcases Nat.lt_trichotomy i j with h | h | h
  ·have:=List.pairwise_iff_getElem.1 hp i j hi hj h;omega
  ·subst h;rfl
  ·have:=List.pairwise_iff_getElem.1 hp j i hj hi h;omega
 have hg:(mgR none Y).filter nzT=l.filter nzT:=by
  cases Y with
  | nil=>rw [←hf];rfl
  | cons t r =>
   rw [←hf]
   exact mgR_filter r t (fun u hu=>hx u (q1.mem_iff.1 hu)) q2 (by rw [hf];exact hp)
 rw [hg]
 exact .pure
end Go.Ev.G

namespace Go.Ev.G
open Go Go.Ev
set_option maxRecDepth 100000

def dn1(e:Int):Int:=if e - 1<0 then 0 else e - 1
def exI(i:Nat)(t:Tm):Int:=match i with
 | 0=>t.2.1
 | 1=>t.2.2.1
 | _=>t.2.2.2
def lw(i:Nat)(t:Tm):Tm:=match i with
 | 0=>(t.1*t.2.1,dn1 t.2.1,t.2.2)
 | 1=>(t.1*t.2.2.1,t.2.1,dn1 t.2.2.1,t.2.2.2)
 | _=>(t.1*t.2.2.2,t.2.1,t.2.2.1,dn1 t.2.2.2)
def dV(i:Nat)(p:List Tm):List Tm:=(p.filter fun t=>decide (0<exI i t)).map (lw i)

theorem mul_bd{c e:Int}(h1 : -1000≤c∧c≤1000)(h2:0≤e∧e≤4) : -4000≤c*e∧c*e≤4000:=by
 have:e=0∨e=1∨e=2∨e=3∨e=4:=by omega
 rcases this with h | h | h | h | h <;> subst h <;> omega
theorem tmGd_ex{t:Tm}(h:tmGd t):exOk t:=⟨h.2.1,h.2.2.1,h.2.2.2.1⟩
theorem exI_bd{i:Nat}{t:Tm}(h:tmGd t):0≤exI i t∧exI i t≤4:=by
 unfold exI
 split
 ·exact h.2.1
 ·exact h.2.2.1
 ·exact h.2.2.2.1
theorem dn1_bd{e:Int}(h:0≤e∧e≤4):0≤dn1 e∧dn1 e≤4:=by unfold dn1;split <;> omega
theorem lw_ex{i:Nat}{t:Tm}(h:tmGd t):exOk (lw i t):=by
 unfold lw
 split
 ·exact⟨dn1_bd h.2.1,h.2.2.1,h.2.2.2.1⟩
 ·exact⟨h.2.1,dn1_bd h.2.2.1,h.2.2.2.1⟩
 ·exact⟨h.2.1,h.2.2.1,dn1_bd h.2.2.2.1⟩
theorem lw_c(i:Nat)(t:Tm):(lw i t).1=t.1*exI i t:=by
 unfold lw exI
 split <;> rfl
theorem lw_bd{i:Nat}{t:Tm}(h:tmGd t) : -4000≤(lw i t).1∧(lw i t).1≤4000:=by
 rw [lw_c]
 exact mul_bd h.1 (exI_bd h)
def wI(i:Nat):Int:=match i with
 | 0=>25
 | 1=>5
 | _=>1
theorem lw_key{i:Nat}{t:Tm}(h:0<exI i t):keyT (lw i t)=keyT t - wI i:=by
 unfold exI at h
 unfold lw keyT wI dn1
 split
 ·simp only at h ⊢; rw [if_neg (by omega)];omega
 ·simp only at h ⊢; rw [if_neg (by omega)];omega
 ·rename_i h0 h1
  split at h
  ·exact absurd rfl h0
  ·exact absurd rfl h1
  ·simp only;rw [if_neg (by omega)];omega

theorem okFrom_pw:∀(r:List Tm) (o:Option Tm),okFrom o r=true→(∀q,o=some q→tmGd q)→r.Pairwise (fun a b=>keyT a<keyT b)∧∀q,o=some q→∀t∈r,keyT q<keyT t
 | [],_,_,_=>⟨.nil,fun _ _ t ht=>by simp at ht⟩
 | e::r,o,h,ho=>by
  have hg:=okFrom_gd (e::r) o h
  unfold okFrom at h
  simp only [Bool.and_eq_true,decide_eq_true_eq]at h
  obtain⟨i1,i2⟩:=okFrom_pw r (some e) h.2.2 (fun q hq=>by cases hq;exact h.1.1)
  refine⟨List.pairwise_cons.2 ⟨fun t ht=>i2 e rfl t ht,i1⟩,fun q hq t ht => ?_⟩
  subst hq
  have hlt:keyT q<keyT e:=(lexI_lt (tmGd_ex (ho q rfl)) (tmGd_ex h.1.1)).1 (by simpa using h.2.1)
  rcases List.mem_cons.1 ht with rfl | ht
  ·exact hlt
  ·have:=i2 e rfl t ht
   omega
theorem okFrom_nz:∀(r:List Tm) (o:Option Tm),okFrom o r=true→∀t∈r,t.1≠0
 | [],_,_=>by simp
 | e::r,o,h=>by
  unfold okFrom at h
  simp only [Bool.and_eq_true,decide_eq_true_eq]at h
  intro t ht
  rcases List.mem_cons.1 ht with rfl | ht
  ·have:=h.1.2
   simpa using this
  ·exact okFrom_nz r _ h.2.2 t ht
theorem polyV_len{p:List Tm}(h:polyV p=true):p.length≤20:=by
 unfold polyV at h
 rw [Bool.and_eq_true,decide_eq_true_eq]at h
 omega
theorem polyV_ok{p:List Tm}(h:polyV p=true):okFrom none p=true:=by
 unfold polyV at h
 rw [Bool.and_eq_true]at h
 exact h.1

theorem dV_filter{i:Nat}{p:List Tm}(h:polyV p=true):(p.map (lw i)).filter nzT=dV i p:=by
 rw [List.filter_map]
 unfold dV
 congr 1
 refine List.filter_congr fun t ht => ?_
 have hz:=okFrom_nz p none (polyV_ok h) t ht
 have hb:=exI_bd (i:=i) (polyV_gd h t ht)
 show(!((lw i t).1==0))=decide (0<exI i t)
 rw [lw_c]
 by_cases h0:exI i t=0
 ·simp [h0]
 ·have hm:t.1*exI i t≠0:=Int.mul_ne_zero hz h0
  rw [decide_eq_true (by omega)]
  simp [hm]
theorem dV_pw{i:Nat}{p:List Tm}(h:polyV p=true):(dV i p).Pairwise fun a b=>keyT a<keyT b:=by
 unfold dV
 rw [List.pairwise_map]
 have h1:=(okFrom_pw p none (polyV_ok h) (fun q hq=>by cases hq)).1
 rw [List.pairwise_filter]
 refine h1.imp fun {a b} hab ha hb => ?_
 rw [lw_key (of_decide_eq_true ha),lw_key (of_decide_eq_true hb)]
 omega

theorem derive_step{i:Nat}(hi:i<3)(k n:Nat)(x5 x10:List Tm)(x11 x12:Int){t:Tm}(hx:x10.getD (Int.toNat x12) (0,0,0,0)=t)(ht:tmGd t) :
  impl_derive_L58 k (n+1) (i:Int) x5 x10 x11 x12=(bif (decide (x12<x11))then(bif (decide (0≤x12))then(bif (decide (x12<(x10.length:Int)))then(bif (decide (x5.length+([lw i t]:List Tm).length<274877906944))then(impl_derive_L58 k n (i:Int) (x5 ++ [lw i t]) x10 x11 (IntKind.wrap .i64 (x12+1)))else none)else none)else none)else some (Sum.inr (x5,()))):=by
 have w1:∀e:Int,0≤e∧e≤4→IntKind.wrap .i64 (e - 1)=e - 1:=fun e he=>w64 (by omega) (by omega)
 have w2:∀e:Int,0≤e∧e≤4→IntKind.wrap .i64 (t.1*e)=t.1*e:=fun e he=>by have:=mul_bd ht.1 he;exact w64 (by omega) (by omega)
 rw [impl_derive_L58.eq_2,hx]
 have:i=0∨i=1∨i=2:=by omega
 rcases this with rfl | rfl | rfl
 ·simp only [impl_Term_exponents,impl_termOf,Option.bind_some,show((((0:Nat):Int))==0)=true from rfl,cond_true,w1 _ ht.2.1,w2 _ ht.2.1]
  rfl
 ·simp only [impl_Term_exponents,impl_termOf,Option.bind_some,show((((1:Nat):Int))==0)=false from rfl,show((((1:Nat):Int))==1)=true from rfl,cond_true,cond_false,w1 _ ht.2.2.1,w2 _ ht.2.2.1]
  rfl
 ·simp only [impl_Term_exponents,impl_termOf,Option.bind_some,show((((2:Nat):Int))==0)=false from rfl,show((((2:Nat):Int))==1)=false from rfl,show((((2:Nat):Int))==2)=true from rfl,cond_true,cond_false,w1 _ ht.2.2.2.1,w2 _ ht.2.2.2.1]
  rfl

theorem derive_ev{i:Nat}{p:List Tm}(hi:i<3)(h:polyV p=true):Evt (fun k _=>impl_derive k p (i:Int)) (dV i p):=by
 refine Evt.eq (f:=fun k q=>_) ?_ (fun k q=>by rw [impl_derive])
 have hl:=polyV_len h
 have hg:=polyV_gd h
 have key:∀(r d:List Tm),d++r=p→Evt (fun k n=>impl_derive_L58 k n (i:Int) (d.map (lw i)) p (p.length:Int) d.length) (.inr (p.map (lw i),())):=by
  intro r
  induction r with
  | nil =>
   intro d hd
   refine Evt.step (fun k n=>impl_derive_L58.eq_2 k _ _ _ _ _ n) ?_
   rw [List.append_nil]at hd
   subst hd
   exact Evt.cfalse (by simp) .pure
  | cons e r ih =>
   intro d hd
   have ih:=ih (d ++ [e]) (by simpa using hd)
   rw [←len_next (r:=r) (by rw [hd];simp only [lenB];omega),List.map_append]at ih
   refine Evt.step (fun k n=>derive_step hi k n _ _ _ _ (by rw [←hd];exact mid_get) (hg e (by rw [←hd];simp))) ?_
   have hll:=congrArg List.length hd
   simp at hll
   exact Evt.ctrue (by rw [←hd];exact mid_lt) (Evt.ctrue mid_ge (Evt.ctrue (by rw [←hd];exact mid_lt) (Evt.ctrue (decide_eq_true (by simp;omega)) ih)))
 have hc:=collect_ev (l:=p.map (lw i)) (by simpa using hl) (fun t ht=>by
   obtain⟨u,hu,rfl⟩:=List.mem_map.1 ht
   exact lw_ex (hg u hu)) (fun t ht=>by
   obtain⟨u,hu,rfl⟩:=List.mem_map.1 ht
   exact lw_bd (hg u hu)) (by rw [dV_filter h];exact dV_pw h)
 rw [dV_filter h]at hc
 exact Evt.inr (Evt.diag (key p [] rfl)) (Evt.bind hc .pure)

theorem poWith_eq{i:Nat}(hi:i<3){t:Tm}(h:0<exI i t):spec_poPower t (i:Int)=some (exI i t)∧spec_poWith t (i:Int) (exI i t - 1)=some (t.1,(lw i t).2):=by
 have:i=0∨i=1∨i=2:=by omega
 unfold lw dn1
 rcases this with rfl | rfl | rfl
 ·simp only [exI]at h ⊢
  rw [if_neg (by omega)]
  exact⟨rfl,rfl⟩
 ·simp only [exI]at h ⊢
  rw [if_neg (by omega)]
  exact⟨rfl,rfl⟩
 ·simp only [exI]at h ⊢
  rw [if_neg (by omega)]
  exact⟨rfl,rfl⟩
theorem poPower_eq3{i:Nat}(hi:i<3)(t:Tm):spec_poPower t (i:Int)=some (exI i t):=by
 have:i=0∨i=1∨i=2:=by omega
 rcases this with rfl | rfl | rfl <;> rfl

theorem poDerive_ev{i:Nat}{p:List Tm}(hi:i<3)(h:polyV p=true):Evt (fun k _=>spec_poDerive k p (i:Int)) (dV i p):=by
 refine Evt.eq (f:=fun k q=>_) ?_ (fun k q=>by rw [spec_poDerive])
 have hl:=polyV_len h
 have hg:=polyV_gd h
 have key:∀(r d:List Tm),d++r=p→Evt (fun k n=>spec_poDerive_L58 k n (i:Int) (dV i d) p (p.length:Int) d.length) (.inr (dV i p,())):=by
  intro r
  induction r with
  | nil =>
   intro d hd
   refine Evt.step (fun k n=>spec_poDerive_L58.eq_2 k _ _ _ _ _ n) ?_
   rw [List.append_nil]at hd
   subst hd
   exact Evt.cfalse (by simp) .pure
  | cons e r ih =>
   intro d hd
   have ih:=ih (d ++ [e]) (by simpa using hd)
   rw [←len_next (r:=r) (by rw [hd];simp only [lenB];omega)]at ih
   have he:=hg e (by rw [←hd];simp)
   have hb:=exI_bd (i:=i) he
   refine Evt.step (fun k n=>spec_poDerive_L58.eq_2 k _ _ _ _ _ n) ?_
   have hll:=congrArg List.length hd
   simp at hll
   have e1:p.getD (Int.toNat (d.length:Int)) (0,0,0,0)=e:=by rw [←hd];exact mid_get
   rw [e1]
   refine Evt.ctrue (by rw [←hd];exact mid_lt) (Evt.ctrue mid_ge (Evt.ctrue (by rw [←hd];exact mid_lt) (Evt.bind (.const (poPower_eq3 hi e)) ?_)))
   by_cases hz:0<exI i e
   ·have hm:=mul_bd he.1 hb
    refine Evt.ctrue (decide_eq_true hz) (Evt.bind (.const (r:=(e.1,(lw i e).2)) (by rw [w64 (by omega) (by omega)];exact(poWith_eq hi hz).2)) ?_)
    have hl2:(dV i d).length≤d.length:=by unfold dV;rw [List.length_map];exact List.length_filter_le _ _
    have e2:dV i (d ++ [e])=dV i d ++ [(e.1*exI i e,(lw i e).2)]:=by
     unfold dV
     rw [List.filter_append,List.map_append,List.filter_cons,if_pos (decide_eq_true hz),List.filter_nil,List.map_cons,List.map_nil]
     congr 2
     rw [←lw_c]
    rw [e2]at ih
    simp only
    rw [w64 (n:=e.1*exI i e) (by omega) (by omega)]
    exact Evt.ctrue (decide_eq_true (by simp;omega)) ih
   ·have e2:dV i (d ++ [e])=dV i d:=by
     unfold dV
     rw [List.filter_append,List.filter_cons,if_neg (by simpa using hz),List.filter_nil,List.append_nil]
    rw [e2]at ih
    exact Evt.cfalse (decide_eq_false hz) ih
 exact Evt.inr (Evt.diag (key p [] rfl)) .pure
end Go.Ev.G

namespace Go.Ev.G
open Go Go.Ev
set_option maxRecDepth 100000

section
variable {V : Type}
end
structure Pl(s:List (List Tm)):Prop where
 ln:s.length=2
 tm:∀p∈s,∀t∈p,tmW t
 lp:∀p∈s,p.length<lenB
theorem Pl.sd{s:List (List Tm)}(h:Pl s){e:Ed}(he:EdOk e):Sd s (sidesE e):=Sd.edge h.tm h.lp he
end Go.Ev.G

namespace Go.Ev.G
open Go Go.Ev
set_option maxRecDepth 100000

def halfD(a b:Int×Int):(Int×Int)×Bool:=mkD (sumN a b) (exA a b+1)
theorem halfD_gd(a b:Int×Int):gd (halfD a b).1:=mkD_gd _ _
theorem dyHalf_ev{a b:Int×Int}(ha:gd a)(hb:gd b):Evt (fun k _=>spec_dyHalf k a b) (halfD a b):=by
 obtain⟨n,j⟩:=a
 obtain⟨m,i⟩:=b
 obtain⟨a1,a2,a3,a4,a5⟩:=ha
 obtain⟨b1,b2,b3,b4,b5⟩:=hb
 simp only at *
 obtain⟨j,rfl⟩:=Int.eq_ofNat_of_zero_le a1
 obtain⟨i,rfl⟩:=Int.eq_ofNat_of_zero_le b1
 refine Evt.eq (f:=fun k q=>_) ?_ (fun k q=>by rw [spec_dyHalf])
 refine Evt.bind (.const (most_eq _ _)) ?_
 have hmax:max ((j:Nat):Int) (i:Int)=((max j i:Nat):Int):=by omega
 simp only [hmax]
 have e:halfD (n,(j:Int)) (m,(i:Int))=mkD (n*2 ^ (max j i - j)+m*2 ^ (max j i - i)) (max j i+1):=by simp [halfD,sumN,exA]
 rw [e]
 refine Evt.bind (dyAt_ev (by omega) (by omega) (by omega) (by omega)) (Evt.bind (dyAt_ev (by omega) (by omega) (by omega) (by omega)) ?_)
 have hbn:=mul_pow_bound (n:=n) (m:=max j i - j) (by omega) (B:=1099511627776) (by omega) a3 a4
 have hbm:=mul_pow_bound (n:=m) (m:=max j i - i) (by omega) (B:=1099511627776) (by omega) b3 b4
 cases h1:(atV (max j i - j) n).2 with
 | false =>
  refine Evt.ctrue rfl ?_
  obtain⟨hpos,hl⟩:=atV_large _ _ h1
  have hij:max j i=i:=by omega
  have hodd:m % 2≠0:=by
   rcases b5 with h | h
   ·omega
   ·exact h
  have hev:=even_pow (n:=n) hpos
  rw [hij]at hl hev ⊢
  simp only [Nat.sub_self,Int.pow_zero,Int.mul_one]
  rw [mkD_odd (by omega) (by omega)]
  exact .pure
 | true =>
  refine Evt.cfalse rfl ?_
  cases h2:(atV (max j i - i) m).2 with
  | false =>
   refine Evt.ctrue rfl ?_
   obtain⟨hpos,hl⟩:=atV_large _ _ h2
   have hij:max j i=j:=by omega
   have hodd:n % 2≠0:=by
    rcases a5 with h | h
    ·omega
    ·exact h
   have hev:=even_pow (n:=m) hpos
   rw [hij]at hl hev ⊢
   simp only [Nat.sub_self,Int.pow_zero,Int.mul_one]
   rw [mkD_odd (by omega) (by omega)]
   exact .pure
  | true =>
   refine Evt.cfalse rfl ?_
   rw [atV_true _ _ h1,atV_true _ _ h2]
      -- neither is too large: the sum fits
   have hsum : -9223372036854775808<n*2 ^ (max j i - j)+m*2 ^ (max j i - i)∧n*2 ^ (max j i - j)+m*2 ^ (max j i - i)<9223372036854775808:=by
    have g1:∀(q:Nat) (z:Int),-1099511627776≤z→z≤1099511627776→(atV q z).2=true → -2305843009213693952≤z*2 ^ q∧z*2 ^ q≤2305843009213693952:=by
     intro q
     induction q with
     | zero=>intro z h1 h2 _;simp;omega
     | succ q ih =>
      intro z _ _ h
      have key:∀(q:Nat) (z:Int),(atV (q+1) z).2=true → -1152921504606846976≤z*2 ^ q∧z*2 ^ q≤1152921504606846976:=by
       intro q
       induction q with
       | zero =>
        intro z h
        unfold atV at h
        split at h
        ·rename_i hc;simpa using hc
        ·cases h
       | succ q ih =>
        intro z h
        unfold atV at h
        split at h
        ·have:=ih (z*2) h
         rw [show z*2 ^ (q+1)=z*2*2 ^ q by rw [Int.pow_succ,Int.mul_assoc,Int.mul_comm 2]]
         exact this
        ·cases h
      have:=key q z h
      rw [Int.pow_succ,←Int.mul_assoc]
      omega
    have u1:=g1 _ _ a3 a4 h1
    have u2:=g1 _ _ b3 b4 h2
    omega
   have hk:IntKind.wrap .i64 (((max j i:Nat):Int)+1)=((max j i+1:Nat):Int):=w64_next (by simp only [lenB];omega)
   rw [w64 (by omega) (by omega),hk]
   exact Evt.bind (dyMake_ev hsum.1 hsum.2 (by omega)) .pure

theorem middleOf_ev{a b:Int×Int}(ha:gd a)(hb:gd b):Evt (fun k _=>impl_middleOf k a b) (halfD a b):=by
 obtain⟨n,j,rfl,a1,a2,a3,a4⟩:=gd_nat ha
 obtain⟨m,i,rfl,b1,b2,b3,b4⟩:=gd_nat hb
 refine Evt.eq (f:=fun k q=>_) ?_ (fun k q=>by rw [impl_middleOf])
 simp only [max_if]
 have hmax:max ((j:Nat):Int) (i:Int)=((max j i:Nat):Int):=by omega
 simp only [hmax]
 obtain⟨u1,u2,u3,u4⟩:=wide_at (n:=n) (j:=j) (K:=max j i) (by omega) (by omega) a2 a3
 obtain⟨v1,v2,v3,v4⟩:=wide_at (n:=m) (j:=i) (K:=max j i) (by omega) (by omega) b2 b3
 refine Evt.bind (.const u1) (Evt.bind (.const u2) (Evt.bind (.const v1) (Evt.bind (.const v2) ?_)))
 obtain⟨neg,M,hM,hv,hev⟩:=add_ev (n1:=decide (n<0)) (n2:=decide (m<0)) (M1:=n.natAbs*2 ^ (max j i - j)) (M2:=m.natAbs*2 ^ (max j i - i)) (by simp only [B64]at *; omega)
 have hk:IntKind.wrap .i64 (((max j i:Nat):Int)+1)=((max j i+1:Nat):Int):=w64_next (by simp only [lenB];omega)
 rw [hk]
 refine Evt.bind hev (Evt.bind (fit_ev (by simp only [B64]at *; omega) (by omega)) ?_)
 rw [hv,u4,v4]
 have e:halfD (n,(j:Int)) (m,(i:Int))=mkD (n*2 ^ (max j i - j)+m*2 ^ (max j i - i)) (max j i+1):=by simp [halfD,sumN,exA]
 rw [e]
 exact .pure


theorem EdOk.left{e:Ed}(h:EdOk e):EdOk (e.1,e.2.1,e.2.2.1,(halfD e.2.2.1 e.2.2.2).1):=⟨h.sd,h.a,h.f,halfD_gd _ _⟩
theorem EdOk.right{e:Ed}(h:EdOk e):EdOk (e.1,e.2.1,(halfD e.2.2.1 e.2.2.2).1,e.2.2.2):=⟨h.sd,h.a,halfD_gd _ _,h.t⟩
end Go.Ev.G

namespace Go.Ev.G
open Go Go.Ev
set_option maxRecDepth 100000

def nwV(s:List (List Tm))(b:Bx):Bool:=sysV s&&(bxV b&&(((s.length:Int)==(b.2.1.length:Int))&&decide (b.1≤4)))
theorem nwGood_ev{s:List (List Tm)}{b:Bx}(hb:s.length<lenB)(hm:∀r∈s,r.length<lenB)(hx:b.2.1.length<lenB):Evt (fun k _=>spec_nwGood k s b) (nwV s b):=by
 refine Evt.eq (f:=fun k q=>_) ?_ (fun k q=>by rw [spec_nwGood,spec_vaBoth])
 unfold nwV
 have h1:=poSystem_ev hb hm
 have h2:=bxGood_ev hx
 cases hs:sysV s with
 | false =>
  rw [hs]at h1
  exact Evt.bind (Evt.bind h1 (Evt.cfalse rfl .pure)) (Evt.cfalse rfl .pure)
 | true =>
  rw [hs]at h1
  cases hv:bxV b with
  | false =>
   rw [hv]at h2
   exact Evt.bind (Evt.bind h1 (Evt.ctrue rfl (Evt.bind h2 (Evt.cfalse rfl .pure)))) (Evt.cfalse rfl .pure)
  | true =>
   rw [hv]at h2
   refine Evt.bind (Evt.bind h1 (Evt.ctrue rfl (Evt.bind h2 (Evt.ctrue rfl .pure)))) ?_
   cases hl:((s.length:Int)==(b.2.1.length:Int))with
   | false=>exact Evt.cfalse rfl .pure
   | true=>exact Evt.ctrue rfl .pure
theorem newtonFits_ev{s:List (List Tm)}{b:Bx}(hb:s.length<lenB)(hm:∀r∈s,r.length<lenB)(hx:b.2.1.length<lenB):Evt (fun k _=>impl_newtonFits k s b) (nwV s b):=by
 refine Evt.eq (f:=fun k q=>_) ?_ (fun k q=>by rw [impl_newtonFits,impl_systemOver])
 unfold nwV
 have h1:=isSystem_ev hb hm
 have h2:=isBox_ev hx
 cases hs:sysV s with
 | false =>
  rw [hs]at h1
  exact Evt.bind (Evt.bind h1 (Evt.cfalse rfl .pure)) (Evt.cfalse rfl .pure)
 | true =>
  rw [hs]at h1
  cases hv:bxV b with
  | false =>
   rw [hv]at h2
   exact Evt.bind (Evt.bind h1 (Evt.ctrue rfl (Evt.bind h2 (Evt.cfalse rfl .pure)))) (Evt.cfalse rfl .pure)
  | true =>
   rw [hv]at h2
   refine Evt.bind (Evt.bind h1 (Evt.ctrue rfl (Evt.bind h2 (Evt.ctrue rfl .pure)))) ?_
   cases hl:((s.length:Int)==(b.2.1.length:Int))with
   | false=>exact Evt.cfalse rfl .pure
   | true=>exact Evt.ctrue rfl .pure

structure NwOk(s:List (List Tm))(m:Nat)(lo hi:List Int):Prop where
 po:∀p∈s,polyV p=true
 n1:1≤lo.length∧lo.length≤3
 sl:s.length=lo.length
 hl:hi.length=lo.length
 m4:m≤4
 bd:∀p∈lo.zip hi,-128≤p.1∧p.1<p.2∧p.2≤128
 nd:∀p∈s,needs s.length p=false
 b8:∀p∈lo.zip hi,-(8*2 ^ m)≤p.1∧p.2≤8*2 ^ m
theorem nwV_form{s:List (List Tm)}{b:Bx}(h:nwV s b=true):∃m:Nat,b=((m:Int),b.2.1,b.2.2)∧NwOk s m b.2.1 b.2.2:=by
 obtain⟨d8,los,his⟩:=b
 unfold nwV bxV sysV at h
 simp only [Bool.and_eq_true,decide_eq_true_eq,beq_iff_eq,List.all_eq_true]at h
 obtain⟨⟨p1,p2⟩,⟨g1,g2,g3,g4,_⟩,g5,g6⟩:=h
 refine⟨d8.toNat,by rw [Int.toNat_of_nonneg g1.1],?_⟩
 show NwOk s d8.toNat los his
 have g2:1≤(los.length:Int)∧(los.length:Int)≤3:=g2
 have g5:(s.length:Int)=(los.length:Int):=g5
 refine⟨fun p hp=>(p1 p hp).1,by omega,by omega,g3,by omega,fun p hp => ?_,fun p hp=>by simpa using (p1 p hp).2,fun p hp=>by
  have hq:=g4 p hp
  unfold sideOk at hq
  have hq:=of_decide_eq_true hq
  exact⟨hq.1.1,hq.2.1.2⟩⟩
 have hq:=g4 p hp
 unfold sideOk at hq
 have hq:=of_decide_eq_true hq
 have hp:(8:Int)*2 ^ d8.toNat≤128:=by
  have h1:(2:Nat) ^ d8.toNat≤2 ^ 4:=Nat.pow_le_pow_right (by omega) (by omega)
  have h2:((2:Int) ^ d8.toNat)=((2 ^ d8.toNat:Nat):Int):=by simp
  have:(2:Nat) ^ 4=16:=by decide
  rw [h2]
  omega
 omega

def sidesB(m:Nat)(lo hi:List Int):List Iv:=(lo.zip hi).map fun p=>((mkD p.1 m).1,(mkD p.2 m).1)
theorem sidesB_len{s:List (List Tm)}{m:Nat}{lo hi:List Int}(h:NwOk s m lo hi):(sidesB m lo hi).length=lo.length:=by
 have:=h.hl
 simp [sidesB]
 omega
theorem sidesB_iv{s:List (List Tm)}{m:Nat}{lo hi:List Int}(h:NwOk s m lo hi):∀x∈sidesB m lo hi,ivGd x:=by
 intro x hx
 obtain⟨p,hp,rfl⟩:=List.mem_map.1 hx
 obtain⟨b1,b2,b3⟩:=h.bd p hp
 refine⟨mkD_gd _ _,mkD_gd _ _,?_⟩
 have e1:=sv_mkD (mkD_ok (n:=p.1) (k:=m) (by omega) (by omega) (by have:=h.m4;omega))
 have e2:=sv_mkD (mkD_ok (n:=p.2) (k:=m) (by omega) (by omega) (by have:=h.m4;omega))
 have hle:sv (mkD p.1 m).1*2 ^ m≤sv (mkD p.2 m).1*2 ^ m:=by
  rw [e1,e2]
  omega
 exact Int.le_of_mul_le_mul_right hle (Int.pow_pos (by decide))

theorem bxNumber_ev{x:Int}{m:Nat}(hx : -128≤x∧x≤128)(hm:m≤4):Evt (fun k _=>spec_bxNumber k x (m:Int)) (mkD x m).1:=by
 refine Evt.eq (f:=fun k q=>_) ?_ (fun k q=>by rw [spec_bxNumber])
 exact Evt.bind (dyMake_ev (n:=x) (m:=m) (by omega) (by omega) (by omega)) .pure
theorem boxDyadic_ev{x:Int}{m:Nat}{lo hi:List Int}(hx : -128≤x∧x≤128)(hm:m≤4):Evt (fun k _=>impl_Box_dyadic k ((m:Int),lo,hi) x) (mkD x m).1:=by
 refine Evt.eq (f:=fun k q=>_) ?_ (fun k q=>by rw [impl_Box_dyadic])
 exact Evt.bind (.const (wideOf_eq (by omega) (by omega))) (Evt.bind (fitD_ev (n:=x) (p:=m) (by omega) (by omega) (by omega)) .pure)

theorem vaSides_ev{s:List (List Tm)}{m:Nat}{lo hi:List Int}(h:NwOk s m lo hi):Evt (fun k _=>spec_vaSides k ((m:Int),lo,hi)) (sidesB m lo hi):=by
 refine Evt.eq (f:=fun k q=>_) ?_ (fun k q=>by rw [spec_vaSides])
 have key:∀(r d r2 d2:List Int),d++r=lo→d2++r2=hi→d.length=d2.length→Evt (fun k n=>spec_vaSides_L58 k n ((m:Int),lo,hi) (sidesB m d d2) lo (lo.length:Int) d.length) (.inr (sidesB m lo hi,())):=by
  intro r
  induction r with
  | nil =>
   intro d r2 d2 hd hd2 hl
   refine Evt.step (fun k n=>spec_vaSides_L58.eq_2 k _ _ _ _ _ n) ?_
   rw [List.append_nil]at hd
   subst hd
   have hn:r2 = []:=by
    have h1:=congrArg List.length hd2
    have h2:=h.hl
    simp at h1
    exact List.eq_nil_of_length_eq_zero (by omega)
   subst hn
   rw [List.append_nil]at hd2
   subst hd2
   exact Evt.cfalse (by simp) .pure
  | cons e r ih =>
   intro d r2 d2 hd hd2 hl
   have hxl:=congrArg List.length hd
   have hyl:=congrArg List.length hd2
   have hh:=h.hl
   have hn:=h.n1
   simp at hxl hyl
   cases r2 with
   | nil=>simp at hyl;omega
   | cons f r2 =>
   have ih:=ih (d ++ [e]) r2 (d2 ++ [f]) (by simpa using hd) (by simpa using hd2) (by simp [hl])
   rw [←len_next (r:=r) (by rw [hd];simp only [lenB];omega)]at ih
   have e2:sidesB m (d ++ [e]) (d2 ++ [f])=sidesB m d d2 ++ [((mkD e m).1,(mkD f m).1)]:=by
    unfold sidesB
    rw [List.zip_append hl,List.map_append]
    rfl
   rw [e2]at ih
   have hmem:(e,f)∈lo.zip hi:=by
    rw [←hd,←hd2,List.zip_append hl]
    exact List.mem_append.2 (.inr (by simp))
   obtain⟨b1,b2,b3⟩:=h.bd _ hmem
   simp only at b1 b2 b3
   have g1:lo.getD (Int.toNat (d.length:Int)) 0=e:=by rw [←hd];exact mid_get
   have g2:hi.getD (Int.toNat (d.length:Int)) 0=f:=by rw [←hd2,hl];exact mid_get
   have hsl:(sidesB m d d2).length≤3:=by simp [sidesB];omega
   refine Evt.step (fun k n=>spec_vaSides_L58.eq_2 k _ _ _ _ _ n) ?_
   simp only [g1,g2]
   exact Evt.ctrue (decide_eq_true (by omega)) (Evt.ctrue mid_ge (Evt.ctrue (decide_eq_true (by omega)) (Evt.bind (bxNumber_ev (by omega) h.m4) (Evt.ctrue mid_ge (Evt.ctrue (decide_eq_true (by omega)) (Evt.bind (bxNumber_ev (by omega) h.m4) (Evt.ctrue (decide_eq_true (by simp;omega)) ih)))))))
 exact Evt.inr (Evt.diag (key lo [] hi [] rfl rfl rfl)) .pure

theorem boxSide_ev{s:List (List Tm)}{m:Nat}{lo hi d r d2 r2:List Int}{e f:Int}(h:NwOk s m lo hi)(hd:d++e::r=lo)(hd2:d2++f::r2=hi)(hl:d.length=d2.length):Evt (fun k _=>impl_Box_side k ((m:Int),lo,hi) (d.length:Int)) ((mkD e m).1,(mkD f m).1):=by
 have hxl:=congrArg List.length hd
 have hyl:=congrArg List.length hd2
 simp at hxl hyl
 have hmem:(e,f)∈lo.zip hi:=by
  rw [←hd,←hd2,List.zip_append hl]
  exact List.mem_append.2 (.inr (by simp))
 obtain⟨b1,b2,b3⟩:=h.bd _ hmem
 simp only at b1 b2 b3
 have g1:lo.getD (Int.toNat (d.length:Int)) 0=e:=by rw [←hd];exact mid_get
 have g2:hi.getD (Int.toNat (d.length:Int)) 0=f:=by rw [←hd2,hl];exact mid_get
 refine Evt.eq (f:=fun k q=>_) ?_ (fun k q=>by rw [impl_Box_side])
 simp only [g1,g2]
 exact Evt.ctrue mid_ge (Evt.ctrue (decide_eq_true (by omega)) (Evt.bind (boxDyadic_ev (by omega) h.m4) (Evt.ctrue mid_ge (Evt.ctrue (decide_eq_true (by omega)) (Evt.bind (boxDyadic_ev (by omega) h.m4) .pure)))))
theorem boxSides_ev{s:List (List Tm)}{m:Nat}{lo hi:List Int}(h:NwOk s m lo hi):Evt (fun k _=>impl_Box_sides k ((m:Int),lo,hi)) (sidesB m lo hi):=by
 refine Evt.eq (f:=fun k q=>_) ?_ (fun k q=>by rw [impl_Box_sides])
 have key:∀(r d r2 d2:List Int),d++r=lo→d2++r2=hi→d.length=d2.length→Evt (fun k n=>impl_Box_sides_L58 k n ((m:Int),lo,hi) (sidesB m d d2) (lo.length:Int) d.length) (.inr (sidesB m lo hi,())):=by
  intro r
  induction r with
  | nil =>
   intro d r2 d2 hd hd2 hl
   refine Evt.step (fun k n=>impl_Box_sides_L58.eq_2 k _ _ _ _ n) ?_
   rw [List.append_nil]at hd
   subst hd
   have hn:r2 = []:=by
    have h1:=congrArg List.length hd2
    have h2:=h.hl
    simp at h1
    exact List.eq_nil_of_length_eq_zero (by omega)
   subst hn
   rw [List.append_nil]at hd2
   subst hd2
   exact Evt.cfalse (by simp) .pure
  | cons e r ih =>
   intro d r2 d2 hd hd2 hl
   have hxl:=congrArg List.length hd
   have hyl:=congrArg List.length hd2
   have hh:=h.hl
   have hn:=h.n1
   simp at hxl hyl
   cases r2 with
   | nil=>simp at hyl;omega
   | cons f r2 =>
   have ih:=ih (d ++ [e]) r2 (d2 ++ [f]) (by simpa using hd) (by simpa using hd2) (by simp [hl])
   rw [←len_next (r:=r) (by rw [hd];simp only [lenB];omega)]at ih
   have e2:sidesB m (d ++ [e]) (d2 ++ [f])=sidesB m d d2 ++ [((mkD e m).1,(mkD f m).1)]:=by
    unfold sidesB
    rw [List.zip_append hl,List.map_append]
    rfl
   rw [e2]at ih
   have hsl:(sidesB m d d2).length≤3:=by simp [sidesB];omega
   refine Evt.step (fun k n=>impl_Box_sides_L58.eq_2 k _ _ _ _ n) ?_
   exact Evt.ctrue (decide_eq_true (by omega)) (Evt.bind (boxSide_ev h hd hd2 hl) (Evt.ctrue (decide_eq_true (by simp;omega)) ih))
 exact Evt.inr (Evt.diag (key lo [] hi [] rfl rfl rfl)) .pure

theorem dV_W{i:Nat}{p:List Tm}(h:polyV p=true):∀t∈dV i p,tmW t:=by
 intro t ht
 obtain⟨u,hu,rfl⟩:=List.mem_map.1 ht
 have hu:=polyV_gd h u (List.mem_filter.1 hu).1
 have h1:=lw_bd (i:=i) hu
 have h2:=lw_ex (i:=i) hu
 exact⟨by omega,h2.1,h2.2.1,h2.2.2⟩
theorem dV_len{i:Nat}{p:List Tm}(h:polyV p=true):(dV i p).length<lenB:=by
 have:=polyV_len h
 have h2:(dV i p).length≤p.length:=by unfold dV;rw [List.length_map];exact List.length_filter_le _ _
 simp only [lenB];omega
def allO{α β:Type}(g:α→Option β)(z:β)(l:List α):Option (List β):=if (l.all fun x=>(g x).isSome)then some (l.map fun x=>(g x).getD z)else none
def grO(sides:List Iv)(p:List Tm):Option (List Iv):=allO (fun i=>valO (dV i p) sides) zI (List.range sides.length)
def jaO(sides:List Iv)(s:List (List Tm)):Option (List (List Iv)):=allO (grO sides) [] s
def oL{β:Type}(o:Option (List β)):List β×Bool:=match o with
 | some l=>(l,true)
 | none=>([],false)
theorem range_at{N:Nat}{d r:List Nat}{e:Nat}(h:d++e::r=List.range N):e=d.length∧d.length<N:=by
 have hl:=congrArg List.length h
 simp at hl
 have h1:d.length<N:=by omega
 have h2:(d++e::r)[d.length]? = some e:=by simp
 rw [h,List.getElem?_range h1]at h2
 simp only [Option.some.injEq]at h2
 exact⟨h2.symm,h1⟩

theorem vaGradient_ev{sides:List Iv}{p:List Tm}(h:polyV p=true)(hs:∀x∈sides,ivGd x)(hl:sides.length≤3):Evt (fun k _=>spec_vaGradient k p sides) (oL (grO sides p)):=by
 refine Evt.eq (f:=fun k q=>_) ?_ (fun k q=>by rw [spec_vaGradient])
 have key:∀(r d:List Nat),d++r=List.range sides.length→Evt (fun k n=>spec_vaGradient_L58 k n p sides (d.map fun i=>(valO (dV i p) sides).getD zI) (sides.length:Int) d.length) (if (r.all fun i=>(valO (dV i p) sides).isSome)then .inr ((List.range sides.length).map fun i=>(valO (dV i p) sides).getD zI,())else .inl ([],false)):=by
  intro r
  induction r with
  | nil =>
   intro d hd
   refine Evt.step (fun k n=>spec_vaGradient_L58.eq_2 k _ _ _ _ _ n) ?_
   rw [List.append_nil]at hd
   have:=congrArg List.length hd
   simp at this
   rw [hd]
   exact Evt.cfalse (decide_eq_false (by simp)) .pure
  | cons e r ih =>
   intro d hd
   obtain⟨rfl,hlt⟩:=range_at hd
   have ih:=ih (d ++ [d.length]) (by simpa using hd)
   rw [←len_next (r:=r) (by rw [hd];simp [lenB];omega),List.map_append]at ih
   refine Evt.step (fun k n=>spec_vaGradient_L58.eq_2 k _ _ _ _ _ n) (Evt.ctrue (decide_eq_true (by omega)) ?_)
   refine Evt.bind (poDerive_ev (by omega) h) (Evt.bind (vaOver_ev (dV_W h) hs (by simp only [lenB];omega) (dV_len h)) ?_)
   cases hv:valO (dV d.length p) sides with
   | none =>
    simp only [List.all_cons,hv,Option.isSome_none,Bool.false_and]
    exact Evt.ctrue rfl .pure
   | some v =>
    simp only [List.map_cons,List.map_nil,hv]at ih
    simp only [List.all_cons,hv,Option.isSome_some,Bool.true_and]
    exact Evt.cfalse rfl (Evt.ctrue (by simp;omega) ih)
 have h0:=key (List.range sides.length) [] rfl
 simp only [List.map_nil,List.length_nil]at h0
 unfold grO allO
 cases ha:(List.range sides.length).all fun i=>(valO (dV i p) sides).isSome with
 | true=>rw [ha]at h0;exact Evt.inr (Evt.diag h0) .pure
 | false=>rw [ha]at h0;exact Evt.inl (Evt.diag h0) .pure

theorem gradientOver_ev{s:List (List Tm)}{m:Nat}{lo hi:List Int}{p:List Tm}(hN:NwOk s m lo hi)(h:polyV p=true):Evt (fun k _=>impl_gradientOver k p ((m:Int),lo,hi)) (oL (grO (sidesB m lo hi) p)):=by
 refine Evt.eq (f:=fun k q=>_) ?_ (fun k q=>by rw [impl_gradientOver])
 have hsl:=sidesB_len hN
 have hn:=hN.n1
 have key:∀(r d:List Nat),d++r=List.range (sidesB m lo hi).length→Evt (fun k n=>impl_gradientOver_L58 k n p ((m:Int),lo,hi) (d.map fun i=>(valO (dV i p) (sidesB m lo hi)).getD zI) (lo.length:Int) d.length) (if (r.all fun i=>(valO (dV i p) (sidesB m lo hi)).isSome)then .inr ((List.range (sidesB m lo hi).length).map fun i=>(valO (dV i p) (sidesB m lo hi)).getD zI,())else .inl ([],false)):=by
  intro r
  induction r with
  | nil =>
   intro d hd
   refine Evt.step (fun k n=>impl_gradientOver_L58.eq_2 k _ _ _ _ _ n) ?_
   rw [List.append_nil]at hd
   have:=congrArg List.length hd
   simp at this
   rw [hd]
   exact Evt.cfalse (decide_eq_false (by simp;omega)) .pure
  | cons e r ih =>
   intro d hd
   obtain⟨rfl,hlt⟩:=range_at hd
   have ih:=ih (d ++ [d.length]) (by simpa using hd)
   rw [←len_next (r:=r) (by rw [hd];simp [lenB];omega),List.map_append]at ih
   refine Evt.step (fun k n=>impl_gradientOver_L58.eq_2 k _ _ _ _ _ n) (Evt.ctrue (decide_eq_true (by omega)) ?_)
   refine Evt.bind (derive_ev (by omega) h) (Evt.bind (boxSides_ev hN) (Evt.bind (valueOver_ev (dV_W h) (sidesB_iv hN) (by omega) (dV_len h)) ?_))
   cases hv:valO (dV d.length p) (sidesB m lo hi)with
   | none =>
    simp only [List.all_cons,hv,Option.isSome_none,Bool.false_and]
    exact Evt.ctrue rfl .pure
   | some v =>
    simp only [List.map_cons,List.map_nil,hv]at ih
    simp only [List.all_cons,hv,Option.isSome_some,Bool.true_and]
    exact Evt.cfalse rfl (Evt.ctrue (by simp;omega) ih)
 have h0:=key (List.range (sidesB m lo hi).length) [] rfl
 simp only [List.map_nil,List.length_nil]at h0
 unfold grO allO
 cases ha:(List.range (sidesB m lo hi).length).all fun i=>(valO (dV i p) (sidesB m lo hi)).isSome with
 | true=>rw [ha]at h0;exact Evt.inr (Evt.diag h0) .pure
 | false=>rw [ha]at h0;exact Evt.inl (Evt.diag h0) .pure

theorem vaJacobian_ev{s:List (List Tm)}{m:Nat}{lo hi:List Int}(h:NwOk s m lo hi):Evt (fun k _=>spec_vaJacobian k s ((m:Int),lo,hi)) (oL (jaO (sidesB m lo hi) s)):=by
 refine Evt.eq (f:=fun k q=>_) ?_ (fun k q=>by rw [spec_vaJacobian])
 have hsl:=sidesB_len h
 have hn:=h.n1
 have hss:=h.sl
 have key:∀(r d:List (List Tm)),d++r=s→Evt (fun k n=>spec_vaJacobian_L58 k n ((m:Int),lo,hi) (d.map fun p=>(grO (sidesB m lo hi) p).getD []) s (s.length:Int) d.length) (if (r.all fun p=>(grO (sidesB m lo hi) p).isSome)then .inr (s.map fun p=>(grO (sidesB m lo hi) p).getD [],())else .inl ([],false)):=by
  intro r
  induction r with
  | nil =>
   intro d hd
   refine Evt.step (fun k n=>spec_vaJacobian_L58.eq_2 k _ _ _ _ _ n) ?_
   rw [List.append_nil]at hd
   subst hd
   exact Evt.rng0 .pure
  | cons e r ih =>
   intro d hd
   have hxl:=congrArg List.length hd
   simp at hxl
   have ih:=ih (d ++ [e]) (by simpa using hd)
   rw [←len_next (r:=r) (by rw [hd];simp only [lenB];omega),List.map_append]at ih
   refine Evt.step (fun k n=>spec_vaJacobian_L58.eq_2 k _ _ _ _ _ n) ?_
   have g:s.getD (Int.toNat (d.length:Int)) []=e:=by rw [←hd];exact mid_get
   rw [g]
   refine Evt.ctrue (by rw [←hd];exact mid_lt) (Evt.ctrue mid_ge (Evt.ctrue (by rw [←hd];exact mid_lt) (Evt.bind (vaSides_ev h) (Evt.bind (vaGradient_ev (h.po e (by rw [←hd];simp)) (sidesB_iv h) (by omega)) ?_))))
   cases hv:grO (sidesB m lo hi) e with
   | none =>
    simp only [List.all_cons,hv,Option.isSome_none,Bool.false_and]
    exact Evt.ctrue rfl .pure
   | some v =>
    simp only [List.map_cons,List.map_nil,hv]at ih
    simp only [List.all_cons,hv,Option.isSome_some,Bool.true_and]
    exact Evt.cfalse rfl (Evt.ctrue (by simp;omega) ih)
 have h0:=key s [] rfl
 simp only [List.map_nil,List.length_nil]at h0
 unfold jaO allO
 cases ha:s.all fun p=>(grO (sidesB m lo hi) p).isSome with
 | true=>rw [ha]at h0;exact Evt.inr (Evt.diag h0) .pure
 | false=>rw [ha]at h0;exact Evt.inl (Evt.diag h0) .pure
theorem jacobianOver_ev{s:List (List Tm)}{m:Nat}{lo hi:List Int}(h:NwOk s m lo hi):Evt (fun k _=>impl_jacobianOver k s ((m:Int),lo,hi)) (oL (jaO (sidesB m lo hi) s)):=by
 refine Evt.eq (f:=fun k q=>_) ?_ (fun k q=>by rw [impl_jacobianOver])
 have hsl:=sidesB_len h
 have hn:=h.n1
 have hss:=h.sl
 have key:∀(r d:List (List Tm)),d++r=s→Evt (fun k n=>impl_jacobianOver_L58 k n ((m:Int),lo,hi) (d.map fun p=>(grO (sidesB m lo hi) p).getD []) s (s.length:Int) d.length) (if (r.all fun p=>(grO (sidesB m lo hi) p).isSome)then .inr (s.map fun p=>(grO (sidesB m lo hi) p).getD [],())else .inl ([],false)):=by
  intro r
  induction r with
  | nil =>
   intro d hd
   refine Evt.step (fun k n=>impl_jacobianOver_L58.eq_2 k _ _ _ _ _ n) ?_
   rw [List.append_nil]at hd
   subst hd
   exact Evt.rng0 .pure
  | cons e r ih =>
   intro d hd
   have hxl:=congrArg List.length hd
   simp at hxl
   have ih:=ih (d ++ [e]) (by simpa using hd)
   rw [←len_next (r:=r) (by rw [hd];simp only [lenB];omega),List.map_append]at ih
   refine Evt.step (fun k n=>impl_jacobianOver_L58.eq_2 k _ _ _ _ _ n) ?_
   have g:s.getD (Int.toNat (d.length:Int)) []=e:=by rw [←hd];exact mid_get
   rw [g]
   refine Evt.ctrue (by rw [←hd];exact mid_lt) (Evt.ctrue mid_ge (Evt.ctrue (by rw [←hd];exact mid_lt) (Evt.bind (gradientOver_ev h (h.po e (by rw [←hd];simp))) ?_)))
   cases hv:grO (sidesB m lo hi) e with
   | none =>
    simp only [List.all_cons,hv,Option.isSome_none,Bool.false_and]
    exact Evt.ctrue rfl .pure
   | some v =>
    simp only [List.map_cons,List.map_nil,hv]at ih
    simp only [List.all_cons,hv,Option.isSome_some,Bool.true_and]
    exact Evt.cfalse rfl (Evt.ctrue (by simp;omega) ih)
 have h0:=key s [] rfl
 simp only [List.map_nil,List.length_nil]at h0
 unfold jaO allO
 cases ha:s.all fun p=>(grO (sidesB m lo hi) p).isSome with
 | true=>rw [ha]at h0;exact Evt.inr (Evt.diag h0) .pure
 | false=>rw [ha]at h0;exact Evt.inl (Evt.diag h0) .pure
end Go.Ev.G

namespace Go.Ev.G
open Go Go.Ev
set_option maxRecDepth 100000

def hfO(i:Iv):Option (Int×Int):=if (halfD i.1 i.2).2 then some (halfD i.1 i.2).1 else none
def rmO(row:List Iv):Option Pt:=allO hfO (0,0) row
def miO(J:List (List Iv)):Option (List Pt):=allO rmO [] J
theorem allO_some{α β:Type}{g:α→Option β}{z:β}{l:List α}{m:List β}(h:allO g z l=some m):m=l.map (fun x=>(g x).getD z)∧∀x∈l,(g x).isSome=true:=by
 unfold allO at h
 split at h
 ·rename_i ha
  cases h
  exact⟨rfl,List.all_eq_true.1 ha⟩
 ·cases h
theorem allO_len{α β:Type}{g:α→Option β}{z:β}{l:List α}{m:List β}(h:allO g z l=some m):m.length=l.length:=by
 rw [(allO_some h).1,List.length_map]
theorem allO_mem{α β:Type}{g:α→Option β}{z:β}{l:List α}{m:List β}(h:allO g z l=some m):∀y∈m,∃x∈l,g x=some y:=by
 obtain⟨h1,h2⟩:=allO_some h
 subst h1
 intro y hy
 obtain⟨x,hx,rfl⟩:=List.mem_map.1 hy
 refine⟨x,hx,?_⟩
 have:=h2 x hx
 cases hg:g x with
 | none=>rw [hg]at this;cases this
 | some v=>rfl
theorem jaO_ok{s:List (List Tm)}{m:Nat}{lo hi:List Int}(h:NwOk s m lo hi){J:List (List Iv)}(hJ:jaO (sidesB m lo hi) s=some J):J.length=lo.length∧∀r∈J,r.length=lo.length∧∀x∈r,ivGd x:=by
 refine⟨by rw [allO_len hJ,h.sl],fun r hr => ?_⟩
 obtain⟨p,hp,hg⟩:=allO_mem hJ r hr
 refine⟨by rw [allO_len hg,List.length_range,sidesB_len h],fun x hx => ?_⟩
 obtain⟨i,_,hv⟩:=allO_mem hg x hx
 exact valO_iv (dV_W (h.po p hp)) hv

theorem nwMiddle_ev{J:List (List Iv)}(hJ:J.length≤3)(hr:∀r∈J,r.length≤3∧∀x∈r,ivGd x):Evt (fun k _=>spec_nwMiddle k J) (oL (miO J)):=by
 refine Evt.eq (f:=fun k q=>_) ?_ (fun k q=>by rw [spec_nwMiddle])
 have inner:∀(row:List Iv) (x4:List Pt) (x12:List (List Iv)) (x13 x14:Int),row.length≤3→(∀x∈row,ivGd x)→∀(r d:List Iv),d++r=row →
   Evt (fun k n=>spec_nwMiddle_L59802 k n x4 (d.map fun i=>(hfO i).getD (0,0)) x12 x13 x14 row (row.length:Int) d.length) (if (r.all fun i=>(hfO i).isSome)then .inr (x4,row.map fun i=>(hfO i).getD (0,0),x12,x13,x14,())else .inl ([],false)):=by
  intro row x4 x12 x13 x14 hl hg r
  induction r with
  | nil =>
   intro d h
   refine Evt.step (fun k n=>spec_nwMiddle_L59802.eq_2 k _ _ _ _ _ _ _ _ n) ?_
   rw [List.append_nil]at h
   subst h
   exact Evt.rng0 .pure
  | cons e r ih =>
   intro d h
   have hxl:=congrArg List.length h
   simp at hxl
   have ih:=ih (d ++ [e]) (by simpa using h)
   rw [←len_next (r:=r) (by rw [h];simp only [lenB];omega),List.map_append]at ih
   have he:=hg e (by rw [←h];simp)
   have g:row.getD (Int.toNat (d.length:Int)) ((0,0),0,0)=e:=by rw [←h];exact mid_get
   refine Evt.step (fun k n=>spec_nwMiddle_L59802.eq_2 k _ _ _ _ _ _ _ _ n) ?_
   rw [g]
   refine Evt.ctrue (by rw [←h];exact mid_lt) (Evt.ctrue mid_ge (Evt.ctrue (by rw [←h];exact mid_lt) (Evt.bind (dyHalf_ev he.1 he.2.1) ?_)))
   cases hh:(halfD e.1 e.2).2 with
   | false =>
    have ho:hfO e=none:=by unfold hfO;rw [hh];rfl
    simp only [List.all_cons,ho,Option.isSome_none,Bool.false_and]
    exact Evt.ctrue rfl .pure
   | true =>
    have ho:hfO e=some (halfD e.1 e.2).1:=by unfold hfO;rw [hh];rfl
    simp only [List.map_cons,List.map_nil,ho]at ih
    simp only [List.all_cons,ho,Option.isSome_some,Bool.true_and]
    exact Evt.cfalse rfl (Evt.ctrue (by simp;omega) ih)
 have key:∀(r d:List (List Iv)),d++r=J→Evt (fun k n=>spec_nwMiddle_L58 k n (d.map fun r=>(rmO r).getD []) J (J.length:Int) d.length) (if (r.all fun r=>(rmO r).isSome)then .inr (J.map fun r=>(rmO r).getD [],())else .inl ([],false)):=by
  intro r
  induction r with
  | nil =>
   intro d h
   refine Evt.step (fun k n=>spec_nwMiddle_L58.eq_2 k _ _ _ _ n) ?_
   rw [List.append_nil]at h
   subst h
   exact Evt.rng0 .pure
  | cons e r ih =>
   intro d h
   have hxl:=congrArg List.length h
   simp at hxl
   have ih:=ih (d ++ [e]) (by simpa using h)
   rw [←len_next (r:=r) (by rw [h];simp only [lenB];omega),List.map_append]at ih
   obtain⟨hel,heg⟩:=hr e (by rw [←h];simp)
   have g:J.getD (Int.toNat (d.length:Int)) []=e:=by rw [←h];exact mid_get
   refine Evt.step (fun k n=>spec_nwMiddle_L58.eq_2 k _ _ _ _ n) ?_
   rw [g]
   have hi:=inner e (d.map fun r=>(rmO r).getD []) J (J.length:Int) (d.length:Int) hel heg e [] rfl
   simp only [List.map_nil,List.length_nil]at hi
   refine Evt.ctrue (by rw [←h];exact mid_lt) (Evt.ctrue mid_ge (Evt.ctrue (by rw [←h];exact mid_lt) ?_))
   cases ha:e.all fun i=>(hfO i).isSome with
   | false =>
    have ho:rmO e=none:=by unfold rmO allO;rw [ha];rfl
    rw [ha]at hi
    simp only [List.all_cons,ho,Option.isSome_none,Bool.false_and]
    exact Evt.inl (Evt.diag hi) .pure
   | true =>
    have ho:rmO e=some (e.map fun i=>(hfO i).getD (0,0)):=by unfold rmO allO;rw [ha];rfl
    rw [ha]at hi
    simp only [List.map_cons,List.map_nil,ho]at ih
    simp only [List.all_cons,ho,Option.isSome_some,Bool.true_and]
    exact Evt.inr (Evt.diag hi) (Evt.ctrue (by simp;omega) ih)
 have h0:=key J [] rfl
 simp only [List.map_nil,List.length_nil]at h0
 unfold miO allO
 cases ha:J.all fun r=>(rmO r).isSome with
 | true=>rw [ha]at h0;exact Evt.inr (Evt.diag h0) .pure
 | false=>rw [ha]at h0;exact Evt.inl (Evt.diag h0) .pure

theorem keep_val(c:Bool)(x:Int×Int)(ok:Bool):∃v,impl_reckoner_keep c x ok=some (v,c&&ok)∧(c=true→ok=true→v=x):=by
 cases c with
 | false=>exact⟨(0,0),rfl,fun h=>by cases h⟩
 | true =>
  cases ok with
  | false=>exact⟨(0,0),rfl,fun _ h=>by cases h⟩
  | true=>exact⟨x,rfl,fun _ _=>rfl⟩

theorem middleJacobian_ev{s:List (List Tm)}{m:Nat}{lo hi:List Int}(h:NwOk s m lo hi):Evt (fun k _=>impl_middleJacobian k s ((m:Int),lo,hi)) (oL ((jaO (sidesB m lo hi) s).bind miO)):=by
 refine Evt.eq (f:=fun k q=>_) ?_ (fun k q=>by rw [impl_middleJacobian])
 refine Evt.bind (jacobianOver_ev h) ?_
 cases hj:jaO (sidesB m lo hi) s with
 | none=>exact Evt.ctrue rfl .pure
 | some J =>
 obtain⟨hJ,hr⟩:=jaO_ok h hj
 have hn:=h.n1
 refine Evt.cfalse rfl ?_
 simp only [oL,Option.bind_some]
 have inner:∀(row:List Iv) (x9:List Pt) (x25:List (List Iv)) (x26 x27:Int),row.length≤3→(∀x∈row,ivGd x)→∀(b0:Bool) (r d:List Iv) (c:Bool) (o:Pt),d++r=row→Flag hfO (0,0) b0 d c o →
   ∃c' o',Flag hfO (0,0) b0 row c' o'∧Evt (fun k n=>impl_middleJacobian_L518554 k n c x9 o x25 x26 x27 row (row.length:Int) d.length) (.inr (c',x9,o',x25,x26,x27,())):=by
  intro row x9 x25 x26 x27 hl hg b0 r
  induction r with
  | nil =>
   intro d c o h hf
   rw [List.append_nil]at h
   subst h
   exact⟨c,o,hf,Evt.step (fun k n=>impl_middleJacobian_L518554.eq_2 k _ _ _ _ _ _ _ _ _ n) (Evt.cfalse (by simp) .pure)⟩
  | cons e r ih =>
   intro d c o h hf
   have hxl:=congrArg List.length h
   simp at hxl
   have he:=hg e (by rw [←h];simp)
   obtain⟨v,hv,hvx⟩:=keep_val c (halfD e.1 e.2).1 (halfD e.1 e.2).2
   have e1:(hfO e).isSome=(halfD e.1 e.2).2:=by unfold hfO;cases (halfD e.1 e.2).2 <;> rfl
   have hst:=Flag.step (e:=e) (v:=v) hf (by
    intro hc hs
    rw [e1]at hs
    rw [hvx hc hs]
    unfold hfO
    rw [if_pos hs])
   rw [e1]at hst
   obtain⟨c',o',q1,q2⟩:=ih (d ++ [e]) _ _ (by simpa using h) hst
   refine⟨c',o',q1,Evt.step (fun k n=>impl_middleJacobian_L518554.eq_2 k _ _ _ _ _ _ _ _ _ n) ?_⟩
   rw [←len_next (r:=r) (by rw [h];simp only [lenB];omega)]at q2
   have g:row.getD (Int.toNat (d.length:Int)) ((0,0),0,0)=e:=by rw [←h];exact mid_get
   have hol:=hf.1
   rw [g]
   exact Evt.ctrue (by rw [←h];exact mid_lt) (Evt.ctrue mid_ge (Evt.ctrue (by rw [←h];exact mid_lt) (Evt.bind (middleOf_ev he.1 he.2.1) (Evt.bind (.const hv) (Evt.ctrue (by simp;omega) q2)))))
 have key:∀(r d:List (List Iv)) (c:Bool) (o:List Pt),d++r=J→Flag rmO [] true d c o →
   ∃c' o',Flag rmO [] true J c' o'∧Evt (fun k n=>impl_middleJacobian_L506 k n c o J (J.length:Int) d.length) (.inr (c',o',())):=by
  intro r
  induction r with
  | nil =>
   intro d c o h hf
   rw [List.append_nil]at h
   subst h
   exact⟨c,o,hf,Evt.step (fun k n=>impl_middleJacobian_L506.eq_2 k _ _ _ _ _ n) (Evt.cfalse (by simp) .pure)⟩
  | cons e r ih =>
   intro d c o h hf
   have hxl:=congrArg List.length h
   simp at hxl
   obtain⟨hel,heg⟩:=hr e (by rw [←h];simp)
   obtain⟨c1,o1,⟨f1,f2,f3⟩,q0⟩:=inner e o J (J.length:Int) (d.length:Int) (by omega) heg c e [] c [] rfl Flag.nil
   simp only [List.length_nil]at q0
   have hst:=Flag.step (e:=e) (v:=o1) hf (by
    intro hc hs
    subst hc
    unfold rmO allO at hs ⊢
    split at hs
    ·rename_i hall
     rw [if_pos hall,←f3 (by rw [f2,hall];rfl)]
    ·cases hs)
   have e2:(c&&(rmO e).isSome)=c1:=by
    rw [f2]
    unfold rmO allO
    cases e.all fun i=>(hfO i).isSome <;> rfl
   rw [e2]at hst
   obtain⟨c',o',q1,q2⟩:=ih (d ++ [e]) c1 (o ++ [o1]) (by simpa using h) hst
   refine⟨c',o',q1,Evt.step (fun k n=>impl_middleJacobian_L506.eq_2 k _ _ _ _ _ n) ?_⟩
   rw [←len_next (r:=r) (by rw [h];simp only [lenB];omega)]at q2
   have hol:=hf.1
   have g:J.getD (Int.toNat (d.length:Int)) []=e:=by rw [←h];exact mid_get
   rw [g]
   exact Evt.ctrue (by rw [←h];exact mid_lt) (Evt.ctrue mid_ge (Evt.ctrue (by rw [←h];exact mid_lt) (Evt.inr (Evt.diag q0) (Evt.ctrue (by simp;omega) q2))))
 obtain⟨c',o',⟨f1,f2,f3⟩,q2⟩:=key J [] true [] rfl Flag.nil
 rw [Bool.true_and]at f2
 simp only [List.length_nil]at q2
 refine Evt.inr (Evt.diag q2) ?_
 unfold miO allO
 rw [←f2]
 cases c' with
 | true=>rw [←f3 rfl];exact Evt.cfalse rfl .pure
 | false=>exact Evt.ctrue rfl .pure

def mjV(s:List (List Tm))(b:Bx):List Pt×Bool:=if nwV s b then oL ((jaO (sidesB b.1.toNat b.2.1 b.2.2) s).bind miO)else([],false)
theorem spec_middleJacobian_ev{s:List (List Tm)}{b:Bx}(hb:s.length<lenB)(hm:∀r∈s,r.length<lenB)(hx:b.2.1.length<lenB):Evt (fun k _=>spec_MiddleJacobian k s b) (mjV s b):=by
 refine Evt.eq (f:=fun k q=>_) ?_ (fun k q=>by rw [spec_MiddleJacobian])
 refine Evt.bind (nwGood_ev hb hm hx) ?_
 unfold mjV
 cases hv:nwV s b with
 | false=>exact Evt.ctrue rfl .pure
 | true =>
  obtain⟨m,hbm,hN⟩:=nwV_form hv
  have e1:b.1.toNat=m:=by rw [hbm];exact Int.toNat_natCast m
  refine Evt.cfalse rfl ?_
  rw [if_pos rfl,e1]
  have hja:=vaJacobian_ev hN
  rw [←hbm]at hja
  refine Evt.bind hja ?_
  cases hj:jaO (sidesB m b.2.1 b.2.2) s with
  | none=>exact Evt.ctrue rfl .pure
  | some J =>
   obtain⟨hJ,hr⟩:=jaO_ok hN hj
   have hn:=hN.n1
   exact Evt.cfalse rfl (Evt.bind (nwMiddle_ev (J:=J) (by omega) (fun r h=>⟨by have:=(hr r h).1;omega,(hr r h).2⟩)) .pure)
theorem impl_middleJacobian_ev{s:List (List Tm)}{b:Bx}(hb:s.length<lenB)(hm:∀r∈s,r.length<lenB)(hx:b.2.1.length<lenB):Evt (fun k _=>impl_MiddleJacobian k s b) (mjV s b):=by
 refine Evt.eq (f:=fun k q=>_) ?_ (fun k q=>by rw [impl_MiddleJacobian])
 refine Evt.bind (newtonFits_ev hb hm hx) ?_
 unfold mjV
 cases hv:nwV s b with
 | false=>exact Evt.ctrue rfl .pure
 | true =>
  obtain⟨m,hbm,hN⟩:=nwV_form hv
  have e1:b.1.toNat=m:=by rw [hbm];exact Int.toNat_natCast m
  have hja:=middleJacobian_ev hN
  rw [←hbm]at hja
  rw [if_pos rfl,e1]
  exact Evt.cfalse rfl (Evt.bind hja .pure)

def small3(t:List Pt):Prop:=t.length≤3∧∀r∈t,r.length≤3
theorem mjV_small(s:List (List Tm))(b:Bx):small3 (mjV s b).1:=by
 unfold mjV
 split
 ·rename_i hv
  obtain⟨m,hbm,hN⟩:=nwV_form hv
  have e1:b.1.toNat=m:=by rw [hbm];exact Int.toNat_natCast m
  rw [e1]
  cases hj:jaO (sidesB m b.2.1 b.2.2) s with
  | none=>exact⟨by simp [oL],by simp [oL]⟩
  | some J =>
   obtain⟨hJ,hr⟩:=jaO_ok hN hj
   have hn:=hN.n1
   simp only [Option.bind_some]
   cases hm:miO J with
   | none=>exact⟨by simp [oL],by simp [oL]⟩
   | some M =>
    refine⟨by simp only [oL];rw [allO_len hm];omega,fun r h => ?_⟩
    obtain⟨x,hx,hg⟩:=allO_mem hm r h
    rw [allO_len hg]
    have:=(hr x hx).1
    omega
 ·exact⟨by simp,by simp⟩

end Go.Ev.G

