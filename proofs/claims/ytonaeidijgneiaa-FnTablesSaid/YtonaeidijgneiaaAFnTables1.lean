/- What the plain functions of the law compute, for all inputs within the sizes that the theorems name. -/
import Derived.Test.YtonaeidijgneiaaPFnTables1
import Derived.IntWalk
import Derived.Laws.Bits64
set_option linter.unusedVariables false
namespace Go.Ev
open Go

def Evt{α:Type}(f:Nat→Nat→Option α)(r:α):Prop:=∃k0,∀k n,k0≤k→k0≤n→f k n=some r

section
variable {α β γ δ : Type}

theorem Evt.const{o:Option α}{r:α}(h:o=some r):Evt (fun _ _=>o) r:=⟨0,fun _ _ _ _=>h⟩
theorem Evt.pure{r:α}:Evt (fun _ _=>some r) r:=⟨0,fun _ _ _ _=>rfl⟩
theorem Evt.bind{f:Nat→Nat→Option α}{g:Nat→Nat→α→Option β}{a:α}{r:β}(h:Evt f a)(h':Evt (fun k n=>g k n a) r):Evt (fun k n=>Option.bind (f k n) fun x=>g k n x) r:=by
 obtain⟨k1,h1⟩:=h
 obtain⟨k2,h2⟩:=h'
 refine⟨max k1 k2,fun k n hk hn => ?_⟩
 exact(congrArg (fun o=>Option.bind o fun x=>g k n x) (h1 k n (by omega) (by omega))).trans (h2 k n (by omega) (by omega))
theorem Evt.inr{R P A:Type}{f:Nat→Nat→Option (R ⊕ P)}{G:Nat→Nat→R→Option A}{K:Nat→Nat→P→Option A}{y:P}{r:A}(h:Evt f (.inr y))(h':Evt (fun k n=>K k n y) r):Evt (fun k n=>both (f k n) (G k n) (K k n)) r:=by
 obtain⟨k1,h1⟩:=h
 obtain⟨k2,h2⟩:=h'
 refine⟨max k1 k2,fun k n hk hn => ?_⟩
 exact(congrArg (fun o=>both o (G k n) (K k n)) (h1 k n (by omega) (by omega))).trans (h2 k n (by omega) (by omega))
theorem Evt.inl{R P A:Type}{f:Nat→Nat→Option (R ⊕ P)}{G:Nat→Nat→R→Option A}{K:Nat→Nat→P→Option A}{q:R}{r:A}(h:Evt f (.inl q))(h':Evt (fun k n=>G k n q) r):Evt (fun k n=>both (f k n) (G k n) (K k n)) r:=by
 obtain⟨k1,h1⟩:=h
 obtain⟨k2,h2⟩:=h'
 refine⟨max k1 k2,fun k n hk hn => ?_⟩
 exact(congrArg (fun o=>both o (G k n) (K k n)) (h1 k n (by omega) (by omega))).trans (h2 k n (by omega) (by omega))
theorem Evt.ctrue{c:Bool}{f g:Nat→Nat→Option α}{r:α}(hc:c=true)(h:Evt f r):Evt (fun k n=>bif c then f k n else g k n) r:=by subst hc;exact h
theorem Evt.cfalse{c:Bool}{f g:Nat→Nat→Option α}{r:α}(hc:c=false)(h:Evt g r):Evt (fun k n=>bif c then f k n else g k n) r:=by subst hc;exact h
theorem Evt.diag{f:Nat→Nat→Option α}{r:α}(h:Evt f r):Evt (fun k _=>f k k) r:=by
 obtain⟨k1,h1⟩:=h
 exact⟨k1,fun k n hk _=>h1 k k hk hk⟩
theorem Evt.step{L F:Nat→Nat→Option α}{r:α}(hL:∀k n,L k (n+1)=F k n)(h:Evt F r):Evt L r:=by
 obtain⟨k1,h1⟩:=h
 refine⟨k1+1,fun k n hk hn => ?_⟩
 obtain⟨m,rfl⟩:∃m,n=m+1:=⟨n - 1,by omega⟩
 rw [hL]
 exact h1 k m (by omega) (by omega)
theorem Evt.eq{f g:Nat→Nat→Option α}{r:α}(h:Evt f r)(e:∀k n,g k n=f k n):Evt g r:=by
 obtain⟨k1,h1⟩:=h
 exact⟨k1,fun k n hk hn=>by rw [e];exact h1 k n hk hn⟩
theorem Evt.get{f:Nat→Option α}{r:α}(h:Evt (fun k _=>f k) r):∃k,f k=some r:=by
 obtain⟨k1,h1⟩:=h
 exact⟨k1,h1 k1 k1 (Nat.le_refl _) (Nat.le_refl _)⟩
end

def lenB:Nat:=4611686018427387904
theorem w64{n:Int}(h0 : -9223372036854775808≤n)(h1:n≤9223372036854775807):IntKind.wrap .i64 n=n:=by rw [IntKind.wrap_i64];omega
theorem w64_next{m:Nat}(h:m<lenB):IntKind.wrap .i64 ((m:Int)+1)=((m+1:Nat):Int):=by
 simp only [lenB]at h
 rw [w64] <;> omega
theorem wu64{n:Int}(h0:0≤n)(h1:n≤18446744073709551615):IntKind.wrap .u64 n=n:=by
 rw [IntKind.wrap_u64];omega

section
variable {α : Type}
theorem mid_lt{d r:List α}{e:α}:decide ((d.length:Int)<((d++e::r).length:Int))=true:=by simp;omega
theorem mid_ge{m:Nat}:decide ((0:Int)≤(m:Int))=true:=by simp
theorem mid_get{d r:List α}{e z:α}:(d++e::r).getD (Int.toNat (d.length:Int)) z=e:=by simp
theorem mid_end{d:List α}:decide ((d.length:Int)<(d.length:Int))=false:=by simp
end
end Go.Ev

namespace Go.Ev
open Go

section
variable {α β : Type}

theorem Evt.rng{d r:List α}{e z:α}{F:Nat→Nat→α→Option β}{G:Nat→Nat→Option β}{res:β}(h:Evt (fun k n=>F k n e) res) :
  Evt (fun k n=>bif (decide ((d.length:Int)<((d++e::r).length:Int)))then(bif (decide (0≤(d.length:Int)))then(bif (decide ((d.length:Int)<((d++e::r).length:Int)))then F k n ((d++e::r).getD (Int.toNat (d.length:Int)) z)else none)else none)else G k n) res:=by
 refine Evt.ctrue mid_lt (Evt.ctrue mid_ge (Evt.ctrue mid_lt ?_))
 rw [mid_get]
 exact h
theorem Evt.rng0{d:List α}{F G:Nat→Nat→Option β}{res:β}(h:Evt G res):Evt (fun k n=>bif (decide ((d.length:Int)<(d.length:Int)))then F k n else G k n) res:=Evt.cfalse mid_end h

theorem len_next{d r:List α}{e:α}(h:(d++e::r).length<lenB):IntKind.wrap .i64 ((d.length:Int)+1)=((d ++ [e]).length:Int):=by
 rw [w64_next (by simp at h;omega)];simp

theorem index_all{d0:α}{L:Nat→Nat→Int→Option (Int ⊕ Unit)}{xs:List α}{p:Nat→α→Option Bool}{P:α→Bool}(hp:∀x∈xs,Evt (fun k _=>p k x) (P x))
  (hL:∀k n i,L k (n+1) i=(bif (decide (i<(xs.length:Int)))then(bif (decide (0≤i))then(bif (decide (i<(xs.length:Int)))then(Option.bind (p k (xs.getD (Int.toNat i) d0)) fun r1=>(bif r1 then some (Sum.inl i)else L k n (IntKind.wrap .i64 (i+1))))else none)else none)else some (.inr ())))
  (hb:xs.length<lenB):Evt (fun k n=>L k n 0) (match xs.findIdx? P with | some j => .inl (j:Int) | none => .inr ()):=by
 have key:∀(r d:List α),d++r=xs→Evt (fun k n=>L k n d.length) (match r.findIdx? P with | some j => .inl ((d.length+j:Nat):Int) | none => .inr ()):=by
  intro r
  induction r with
  | nil =>
   intro d h
   rw [List.append_nil]at h
   refine Evt.step (fun k n=>hL k n _) ?_
   rw [←h]
   exact Evt.rng0 .pure
  | cons e r ih =>
   intro d h
   refine Evt.step (fun k n=>hL k n _) ?_
   rw [←h]
   refine Evt.rng (F:=fun k n x=>(Option.bind (p k x) fun r1=>(bif r1 then some (Sum.inl (d.length:Int))else L k n (IntKind.wrap .i64 ((d.length:Int)+1))))) ?_
   refine Evt.bind (hp e (by rw [←h];simp)) ?_
   rw [List.findIdx?_cons]
   cases hP:P e with
   | true=>exact Evt.ctrue rfl .pure
   | false =>
    refine Evt.cfalse rfl ?_
    rw [len_next (e:=e) (r:=r) (by rw [h];exact hb)]
    have:=ih (d ++ [e]) (by simpa using h)
    cases hr:r.findIdx? P with
    | none=>rw [hr]at this;simpa using this
    | some j =>
     rw [hr]at this
     have e2:(d ++ [e]).length+j=d.length+(j+1):=by simp;omega
     simp only [e2]at this
     exact this
 have:=key xs [] rfl
 simpa using this

theorem findIdx?_any{P:α→Bool}(xs:List α):(xs.findIdx? P).isSome=xs.any P:=by
 induction xs with
 | nil=>rfl
 | cons x xs ih =>
  rw [List.findIdx?_cons,List.any_cons]
  cases P x with
  | true=>rfl
  | false=>simp [ih]
end
end Go.Ev

namespace Go.Ev.G
open Go Go.Ev
set_option maxRecDepth 100000

def gd(a:Int×Int):Prop:=0≤a.2∧a.2≤24 ∧ -1099511627776≤a.1∧a.1≤1099511627776∧(a.2=0∨a.1 % 2≠0)
instance (a:Int×Int):Decidable (gd a):=by unfold gd;infer_instance

theorem tmod2(n:Int):(Int.tmod n 2=0)↔n % 2=0:=by
 rw [←Int.dvd_iff_tmod_eq_zero,Int.dvd_iff_emod_eq_zero]
theorem tdiv2{n:Int}(h:n % 2=0):Int.tdiv n 2=n / 2:=Int.tdiv_eq_ediv_of_dvd (Int.dvd_of_emod_eq_zero h)

theorem l1In_eq(n lo hi:Int):spec_l1In n lo hi=some (decide (lo≤n∧n≤hi)):=by
 unfold spec_l1In
 by_cases h:lo≤n
 ·have:decide (n≥lo)=true:=by simpa using h
  rw [this];simp [h]
 ·have:decide (n≥lo)=false:=by simpa using h
  rw [this];simp [h]
theorem inside_eq(n lo hi:Int):impl_inside n lo hi=some (decide (lo≤n∧n≤hi)):=l1In_eq n lo hi
theorem isPlaces_eq(n:Int):impl_isPlaces n=some (decide (0≤n∧n≤24)):=by
 unfold impl_isPlaces
 rw [inside_eq];rfl

theorem dyGood_eq(a:Int×Int):spec_dyGood a=some (decide (gd a)):=by
 unfold spec_dyGood
 rw [l1In_eq,l1In_eq]
 have h0:=tmod2 a.1
 by_cases h1:0≤a.2∧a.2≤24
 ·simp only [h1,and_self,decide_true,Option.bind_some,cond_true]
  by_cases h2 : -1099511627776≤a.1∧a.1≤1099511627776
  ·simp only [h2,and_self,decide_true,cond_true]
   by_cases h3:a.2=0
   ·have:gd a:=⟨h1.1,h1.2,h2.1,h2.2,.inl h3⟩
    simp [h3,this]
   ·have e:(a.2==0)=false:=by simpa using h3
    rw [e]
    by_cases h4:a.1 % 2=0
    ·have : ¬ gd a:=fun h=>by rcases h.2.2.2.2 with h | h <;> contradiction
     simp [h0.2 h4,this]
    ·have h5:gd a:=⟨h1.1,h1.2,h2.1,h2.2,.inr h4⟩
     have : ¬ Int.tmod a.1 2=0:=fun h=>h4 (h0.1 h)
     simp [this,h5]
  ·have : ¬ gd a:=fun h=>h2 ⟨h.2.2.1,h.2.2.2.1⟩
   simp only [h2,decide_false,cond_false,this]
 ·have : ¬ gd a:=fun h=>h1 ⟨h.1,h.2.1⟩
  simp only [h1,decide_false,Option.bind_some,cond_false,this]
theorem isDyadic_eq(a:Int×Int):impl_isDyadic a=some (decide (gd a)):=by
 rw [←dyGood_eq]
 unfold impl_isDyadic spec_dyGood
 rw [isPlaces_eq,l1In_eq,inside_eq,l1In_eq]

def strip:Nat→Int→Int×Nat
 | 0,n=>(n,0)
 | k+1,n=>if n % 2=0 then strip k (n / 2)else(n,k+1)

def mkD(n:Int)(k:Nat):(Int×Int)×Bool :=
 if -1099511627776≤(strip k n).1∧(strip k n).1≤1099511627776∧(strip k n).2≤24 then(((strip k n).1,((strip k n).2:Int)),true)else((0,0),false)

theorem strip_form:∀(k:Nat) (n:Int),(strip k n).2=0∨(strip k n).1 % 2≠0
 | 0,n => .inl rfl
 | k+1,n=>by
  unfold strip
  split
  ·exact strip_form k _
  ·rename_i h;exact .inr h
theorem strip_le:∀(k:Nat) (n:Int),(strip k n).2≤k
 | 0,n=>Nat.le_refl _
 | k+1,n=>by
  unfold strip
  split
  ·have:=strip_le k (n / 2);omega
  ·exact Nat.le_refl _
theorem strip_zero:∀(k:Nat),strip k 0=(0,0)
 | 0=>rfl
 | k+1=>by unfold strip;simp [strip_zero k]
theorem strip_neg:∀(k:Nat) (n:Int),strip k (-n)=(-(strip k n).1,(strip k n).2)
 | 0,n=>rfl
 | k+1,n=>by
  unfold strip
  by_cases h:n % 2=0
  ·have h':(-n) % 2=0:=by omega
   rw [if_pos h,if_pos h',show -n / 2 = -(n / 2)by omega,strip_neg k]
  ·have h' : ¬ (-n) % 2=0:=by omega
   rw [if_neg h,if_neg h']
theorem strip_bound:∀(k:Nat) (n:Int),0≤n→0≤(strip k n).1∧(strip k n).1≤n
 | 0,n,h=>⟨h,Int.le_refl _⟩
 | k+1,n,h=>by
  unfold strip
  split
  ·have:=strip_bound k (n / 2) (by omega);omega
  ·exact⟨h,Int.le_refl _⟩
theorem strip_ne:∀(k:Nat) (n:Int),n≠0→(strip k n).1≠0
 | 0,n,h=>h
 | k+1,n,h=>by
  unfold strip
  split
  ·exact strip_ne k _ (by omega)
  ·exact h
theorem strip_odd{k:Nat}{n:Int}(h:n % 2≠0):strip k n=(n,k):=by
 cases k with
 | zero=>rfl
 | succ k=>unfold strip;rw [if_neg h]
theorem strip_val:∀(k:Nat) (n:Int),(strip k n).1*2 ^ (k - (strip k n).2)=n
 | 0,n=>by simp [strip]
 | k+1,n=>by
  unfold strip
  split
  ·rename_i h
   have h1:=strip_val k (n / 2)
   have h2:=strip_le k (n / 2)
   rw [show k+1 - (strip k (n / 2)).2=(k - (strip k (n / 2)).2)+1 by omega,Int.pow_succ,←Int.mul_assoc,h1]
   omega
  ·simp

theorem mkD_gd(n:Int)(k:Nat):gd (mkD n k).1:=by
 unfold mkD
 split
 ·rename_i h
  have:=strip_form k n
  refine⟨by simp,by simp;omega,h.1,h.2.1,?_⟩
  rcases this with h | h
  ·left;simp [h]
  ·right;exact h
 ·exact⟨by simp,by simp,by simp,by simp,.inl rfl⟩

theorem mkD_zero(k:Nat):mkD 0 k=((0,0),true):=by simp [mkD,strip_zero]

theorem mkD_self{a:Int×Int}(h:gd a):mkD a.1 a.2.toNat=(a,true):=by
 obtain⟨n,k⟩:=a
 obtain⟨h1,h2,h3,h4,h5⟩:=h
 simp only at *
 obtain⟨m,rfl⟩:=Int.eq_ofNat_of_zero_le h1
 have e:strip m n=(n,m):=by
  rcases h5 with h5 | h5
  ·have:m=0:=by omega
   subst this;rfl
  ·exact strip_odd h5
 simp only [Int.toNat_natCast,mkD,e]
 rw [if_pos ⟨h3,h4,by omega⟩]

theorem dyMake_loop:∀(m:Nat) (n:Int) (z:Int×Int),-9223372036854775808<n→n<9223372036854775808→m<9223372036854775808 →
  Evt (fun k q=>spec_dyMake_L28 k q n m z) (.inr ((strip m n).1,((strip m n).2:Int),z,()))
 | 0,n,z,_,_,_=>Evt.step (fun k q=>spec_dyMake_L28.eq_2 k n _ z q) (Evt.cfalse (by simp) .pure)
 | m+1,n,z,h1,h2,h3=>by
  refine Evt.step (fun k q=>spec_dyMake_L28.eq_2 k n _ z q) (Evt.ctrue (by simp <;> omega) ?_)
  by_cases h:n % 2=0
  ·refine Evt.ctrue (by simp [(tmod2 n).2 h]) ?_
   rw [tdiv2 h,w64 (by omega) (by omega),show((m+1:Nat):Int) - 1=(m:Int)by omega,w64 (by omega) (by omega)]
   have:=dyMake_loop m (n / 2) z (by omega) (by omega) (by omega)
   rw [strip,if_pos h]
   exact this
  ·have h' : ¬ Int.tmod n 2=0:=fun e=>h ((tmod2 n).1 e)
   refine Evt.cfalse (by simp [h']) ?_
   rw [strip,if_neg h]
   exact .pure

theorem dyMake_ev{n:Int}{m:Nat}(h1 : -9223372036854775808<n)(h2:n<9223372036854775808)(h3:m<9223372036854775808):Evt (fun k _=>spec_dyMake k n m) (mkD n m):=by
 refine Evt.eq (f:=fun k q=>_) ?_ (fun k q=>by rw [spec_dyMake])
 have key:∀(m':Nat),strip m' n=strip m n→m'≤m→Evt (fun k q=>both (R:=(Int×Int)×Bool) (P:=Int×Int×(Int×Int)×Unit) (spec_dyMake_L28 k k n m' (0,0)) (fun q4=>some q4) (fun y3=>(Option.bind (spec_dyGood (y3.1,y3.2.1)) fun r5=>(bif (!r5)then some ((0,0),false)else some ((y3.1,y3.2.1),true))))) (mkD n m):=by
  intro m' hm hle
  refine Evt.inr (Evt.diag (dyMake_loop m' n (0,0) h1 h2 (by omega))) ?_
  simp only [dyGood_eq,Option.bind_some,hm]
  have hf:=strip_form m n
  unfold mkD
  by_cases hg : -1099511627776≤(strip m n).1∧(strip m n).1≤1099511627776∧(strip m n).2≤24
  ·rw [if_pos hg]
   have:gd ((strip m n).1,((strip m n).2:Int)):=⟨by simp,by simp;omega,hg.1,hg.2.1,by rcases hf with h | h;left;simp [h];right;exact h⟩
   simp only [this,decide_true,Bool.not_true]
   exact Evt.cfalse rfl .pure
  ·rw [if_neg hg]
   have : ¬ gd ((strip m n).1,((strip m n).2:Int)):=fun h=>hg ⟨h.2.2.1,h.2.2.2.1,by have:=h.2.1;simp at this;omega⟩
   simp only [this,decide_false,Bool.not_false]
   exact Evt.ctrue rfl .pure
 by_cases h0:n=0
 ·subst h0
  refine Evt.inr (y:=((0:Int),(0:Int),((0,0):Int×Int),())) ?_ (key 0 (by rw [strip_zero,strip_zero]) (by omega))
  by_cases hm:m=0
  ·subst hm;exact .const rfl
  ·have:decide ((m:Int)>0)=true:=by simp;omega
   refine .const ?_
   simp only [this];rfl
 ·refine Evt.inr (y:=(n,(m:Int),((0,0):Int×Int),())) (.const ?_) (key m rfl (Nat.le_refl _))
  have:(n==0)=false:=by simpa using h0
  simp only [this];rfl

def atV:Nat→Int→Int×Bool
 | 0,n=>(n,true)
 | m+1,n=>if -1152921504606846976≤n∧n≤1152921504606846976 then atV m (n*2)else(0,false)

theorem dyPower_eq{m:Nat}(h:m≤62):spec_dyPower m=some (((2 ^ m:Nat):Int)):=by
 unfold spec_dyPower
 have h1:IntKind.wrap .u64 (m:Int)=m:=wu64 (by omega) (by omega)
 have h2:min (Int.toNat (m:Int)) (IntKind.bits .i64)=m:=by simp [IntKind.bits];omega
 rw [h1,h2]
 have h3:(2:Nat) ^ m≤4611686018427387904:=Nat.pow_le_pow_right (n:=2) (by omega) h
 have h4:(1:Int)*2 ^ m=((2 ^ m:Nat):Int):=by simp
 have h5:decide ((m:Int)<0)=false:=by simp
 rw [h4]
 generalize 2 ^ m=p at *
 rw [w64 (by omega) (by omega),h5]
 rfl

theorem dyPower60:spec_dyPower 60=some 1152921504606846976:=by
 have:=dyPower_eq (m:=60) (by omega)
 simpa using this

theorem dyAt_loop(K j:Int):∀(m:Nat) (n:Int) (i:Nat),K=i+m→K<1000000 → -4611686018427387904≤n→n≤4611686018427387904 →
  Evt (fun k q=>spec_dyAt_L58 k q K (n,j) i) (if (atV m n).2 then .inr (((atV m n).1,j),())else .inl (0,false)):=by
 intro m
 induction m with
 | zero =>
  intro n i hK hi _ _
  refine Evt.step (fun k q=>spec_dyAt_L58.eq_2 k K (n,j) i q) (Evt.cfalse (by simp;omega) ?_)
  simp only [atV,if_true]
  exact .pure
 | succ m ih =>
  intro n i hK hi h1 h2
  refine Evt.step (fun k q=>spec_dyAt_L58.eq_2 k K (n,j) i q) (Evt.ctrue (by simp;omega) ?_)
  refine Evt.bind (.const dyPower60) (Evt.bind (.const dyPower60) ?_)
  have hw:IntKind.wrap .i64 (0 - 1152921504606846976) = -1152921504606846976:=by rw [w64] <;> omega
  rw [hw]
  refine Evt.bind (.const (l1In_eq _ _ _)) ?_
  unfold atV
  by_cases hn : -1152921504606846976≤n∧n≤1152921504606846976
  ·refine Evt.cfalse (by simp [hn]) ?_
   rw [if_pos hn,w64 (n:=n*2) (by omega) (by omega),w64_next (by simp only [lenB];omega)]
   exact ih (n*2) (i+1) (by omega) hi (by omega) (by omega)
  ·refine Evt.ctrue (by rw [decide_eq_false hn];rfl) ?_
   rw [if_neg hn]
   exact .pure

theorem atV_zero:∀m,atV m 0=(0,true)
 | 0=>rfl
 | m+1=>by unfold atV;simp [atV_zero m]

theorem dyAt_ev{n:Int}{j K:Nat}(hjK:j≤K)(hK:K<1000)(h1 : -4611686018427387904≤n)(h2:n≤4611686018427387904):Evt (fun k _=>spec_dyAt k (n,j) K) (atV (K - j) n):=by
 refine Evt.eq (f:=fun k q=>_) ?_ (fun k q=>by rw [spec_dyAt])
 by_cases h0:n=0
 ·subst h0
  rw [atV_zero]
  exact Evt.ctrue (by simp) .pure
 ·refine Evt.cfalse (by simpa using h0) ?_
  have:=dyAt_loop K j (K - j) n j (by omega) (by omega) h1 h2
  cases hb:(atV (K - j) n).2 with
  | true =>
   rw [hb]at this
   refine Evt.inr (Evt.diag this) (.const ?_)
   simp only
   rw [←hb]
  | false =>
   rw [hb]at this
   have hz:∀(m:Nat) (n:Int),(atV m n).2=false→atV m n=(0,false):=by
    intro m
    induction m with
    | zero=>intro n h;simp [atV]at h
    | succ m ih =>
     intro n h
     unfold atV at h ⊢
     split at h
     ·rename_i hc;rw [if_pos hc];exact ih _ h
     ·rename_i hc;rw [if_neg hc]
   rw [hz _ _ hb]
   exact Evt.inl (Evt.diag this) .pure

theorem atV_true:∀(m:Nat) (n:Int),(atV m n).2=true→(atV m n).1=n*2 ^ m
 | 0,n,_=>by simp [atV]
 | m+1,n,h=>by
  unfold atV at h ⊢
  split at h
  ·rename_i hc
   rw [if_pos hc,atV_true m _ h,Int.pow_succ,Int.mul_assoc,Int.mul_comm 2]
  ·cases h
theorem atV_small:∀(m:Nat) (n:Int),-1152921504606846976≤n*2 ^ m→n*2 ^ m≤1152921504606846976→(atV m n).2=true
 | 0,n,_,_=>rfl
 | m+1,n,h1,h2=>by
  have e:n*2 ^ (m+1)=n*2*2 ^ m:=by rw [Int.pow_succ,Int.mul_assoc,Int.mul_comm 2]
  have hp:(1:Int)≤2 ^ m:=by have:=Int.pow_pos (n:=2) (m:=m) (by omega);omega
  unfold atV
  rw [if_pos]
  ·exact atV_small m (n*2) (by rw [←e];exact h1) (by rw [←e];exact h2)
  ·rw [e]at h1 h2
   constructor
   ·rcases Int.le_total 0 n with h | h
    ·omega
    ·have:n*2*2 ^ m≤n*2*1:=Int.mul_le_mul_of_nonpos_left (by omega) hp
     omega
   ·rcases Int.le_total 0 n with h | h
    ·have:n*2*1≤n*2*2 ^ m:=Int.mul_le_mul_of_nonneg_left hp (by omega)
     omega
    ·omega
theorem atV_large:∀(m:Nat) (n:Int),(atV m n).2=false→0<m∧(n*2 ^ m < -1152921504606846976∨1152921504606846976<n*2 ^ m)
 | m,n,h=>by
  refine⟨?_,?_⟩
  ·cases m with
   | zero=>simp [atV]at h
   | succ m=>omega
  ·rcases Int.lt_or_le (n*2 ^ m) (-1152921504606846976)with h1 | h1
   ·exact .inl h1
   ·rcases Int.lt_or_le 1152921504606846976 (n*2 ^ m)with h2 | h2
    ·exact .inr h2
    ·rw [atV_small m n h1 h2]at h;cases h
end Go.Ev.G

namespace Go.Ev.G
open Go Go.Ev
set_option maxRecDepth 100000

def exA(a b:Int×Int):Nat:=max a.2.toNat b.2.toNat
def sumN(a b:Int×Int):Int:=a.1*2 ^ (exA a b - a.2.toNat)+b.1*2 ^ (exA a b - b.2.toNat)
def sumD(a b:Int×Int):(Int×Int)×Bool:=mkD (sumN a b) (exA a b)

theorem most_eq(a b:Int):spec_l1Most a b=some (max a b):=by
 unfold spec_l1Most
 by_cases h:a>b
 ·have:decide (a>b)=true:=by simpa using h
  rw [this];simp only [cond_true];congr 1;omega
 ·have:decide (a>b)=false:=by simpa using h
  rw [this];simp only [cond_false];congr 1;omega

theorem pow_mono(m:Nat)(h:m≤24):(1:Int)≤2 ^ m∧(2:Int) ^ m≤16777216:=by
 have h1:(2:Nat) ^ m≤2 ^ 24:=Nat.pow_le_pow_right (by omega) h
 have h2:(0:Nat)<2 ^ m:=Nat.pow_pos (by omega)
 have h3:((2 ^ m:Nat):Int)=(2:Int) ^ m:=by simp
 rw [←h3]
 omega

theorem mul_pow_bound{n:Int}{m:Nat}(h:m≤24){B:Int}(hB:0≤B)(h1 : -B≤n)(h2:n≤B) : -(B*16777216)≤n*2 ^ m∧n*2 ^ m≤B*16777216:=by
 have hp:=pow_mono m h
 constructor
 ·rcases Int.le_total 0 n with hn | hn
  ·have:0≤n*2 ^ m:=Int.mul_nonneg hn (by omega)
   have:0≤B*16777216:=Int.mul_nonneg hB (by omega)
   omega
  ·have e1:n*16777216≤n*2 ^ m:=Int.mul_le_mul_of_nonpos_left hn hp.2
   omega
 ·rcases Int.le_total 0 n with hn | hn
  ·have e1:n*2 ^ m≤n*16777216:=Int.mul_le_mul_of_nonneg_left hp.2 hn
   omega
  ·have:n*2 ^ m≤0:=Int.mul_nonpos_of_nonpos_of_nonneg hn (by omega)
   have:0≤B*16777216:=Int.mul_nonneg hB (by omega)
   omega

theorem mkD_odd{n:Int}{k:Nat}(h:n % 2≠0)(hl:n < -1099511627776∨1099511627776<n):mkD n k=((0,0),false):=by
 unfold mkD
 rw [strip_odd h]
 rw [if_neg]
 intro hc
 have:=hc.1
 have:=hc.2.1
 simp at *
 omega

theorem even_pow{n:Int}{m:Nat}(h:0<m):(n*2 ^ m) % 2=0:=by
 obtain⟨q,rfl⟩:∃q,m=q+1:=⟨m - 1,by omega⟩
 rw [Int.pow_succ,←Int.mul_assoc]
 omega

theorem dyAdd_ev{a b:Int×Int}(ha:gd a)(hb:gd b):Evt (fun k _=>spec_dyAdd k a b) (sumD a b):=by
 obtain⟨n,j⟩:=a
 obtain⟨m,i⟩:=b
 obtain⟨a1,a2,a3,a4,a5⟩:=ha
 obtain⟨b1,b2,b3,b4,b5⟩:=hb
 simp only at *
 obtain⟨j,rfl⟩:=Int.eq_ofNat_of_zero_le a1
 obtain⟨i,rfl⟩:=Int.eq_ofNat_of_zero_le b1
 refine Evt.eq (f:=fun k q=>_) ?_ (fun k q=>by rw [spec_dyAdd])
 refine Evt.bind (.const (most_eq _ _)) ?_
 have hmax:max ((j:Nat):Int) (i:Int)=((max j i:Nat):Int):=by omega
 simp only [hmax]
 have e:sumD (n,(j:Int)) (m,(i:Int))=mkD (n*2 ^ (max j i - j)+m*2 ^ (max j i - i)) (max j i):=by simp [sumD,sumN,exA]
 rw [e]
 refine Evt.bind (dyAt_ev (by omega) (by omega) (by omega) (by omega)) (Evt.bind (dyAt_ev (by omega) (by omega) (by omega) (by omega)) ?_)
 have hbn:=mul_pow_bound (n:=n) (m:=max j i - j) (by omega) (B:=1099511627776) (by omega) a3 a4
 have hbm:=mul_pow_bound (n:=m) (m:=max j i - i) (by omega) (B:=1099511627776) (by omega) b3 b4
 cases h1:(atV (max j i - j) n).2 with
 | false =>
  refine Evt.ctrue rfl ?_
  obtain⟨hpos,hl⟩:=atV_large _ _ h1
  have hij:max j i=i:=by omega
  have hodd:m % 2≠0:=by
   rcases b5 with h | h
   ·omega
   ·exact h
  have hev:=even_pow (n:=n) hpos
  rw [hij]at hl hev ⊢
  simp only [Nat.sub_self,Int.pow_zero,Int.mul_one]
  rw [mkD_odd (by omega) (by omega)]
  exact .pure
 | true =>
  refine Evt.cfalse rfl ?_
  cases h2:(atV (max j i - i) m).2 with
  | false =>
   refine Evt.ctrue rfl ?_
   obtain⟨hpos,hl⟩:=atV_large _ _ h2
   have hij:max j i=j:=by omega
   have hodd:n % 2≠0:=by
    rcases a5 with h | h
    ·omega
    ·exact h
   have hev:=even_pow (n:=m) hpos
   rw [hij]at hl hev ⊢
   simp only [Nat.sub_self,Int.pow_zero,Int.mul_one]
   rw [mkD_odd (by omega) (by omega)]
   exact .pure
  | true =>
   refine Evt.cfalse rfl ?_
   rw [atV_true _ _ h1,atV_true _ _ h2]
      -- neither is too large: the sum fits
   have hsum : -9223372036854775808<n*2 ^ (max j i - j)+m*2 ^ (max j i - i)∧n*2 ^ (max j i - j)+m*2 ^ (max j i - i)<9223372036854775808:=by
    have g1:∀(q:Nat) (z:Int),-1099511627776≤z→z≤1099511627776→(atV q z).2=true → -2305843009213693952≤z*2 ^ q∧z*2 ^ q≤2305843009213693952:=by
     intro q
     induction q with
     | zero=>intro z h1 h2 _;simp;omega
     | succ q ih =>
      intro z _ _ h
      have key:∀(q:Nat) (z:Int),(atV (q+1) z).2=true → -1152921504606846976≤z*2 ^ q∧z*2 ^ q≤1152921504606846976:=by
       intro q
       induction q with
       | zero =>
        intro z h
        unfold atV at h
        split at h
        ·rename_i hc;simpa using hc
        ·cases h
       | succ q ih =>
        intro z h
        unfold atV at h
        split at h
        ·have:=ih (z*2) h
         rw [show z*2 ^ (q+1)=z*2*2 ^ q by rw [Int.pow_succ,Int.mul_assoc,Int.mul_comm 2]]
         exact this
        ·cases h
      have:=key q z h
      rw [Int.pow_succ,←Int.mul_assoc]
      omega
    have u1:=g1 _ _ a3 a4 h1
    have u2:=g1 _ _ b3 b4 h2
    omega
   rw [w64 (by omega) (by omega)]
   exact Evt.bind (dyMake_ev hsum.1 hsum.2 (by omega)) .pure

theorem sumD_gd(a b:Int×Int):gd (sumD a b).1:=mkD_gd _ _

theorem sumD_zero{x:Int×Int}(h:gd x):sumD (0,0) x=(x,true):=by
 have e:exA (0,0) x=x.2.toNat:=by simp [exA]
 have e2:sumN (0,0) x=x.1:=by simp [sumN,e]
 rw [sumD,e,e2,mkD_self h]
end Go.Ev.G

namespace Go.Ev.G
open Go Go.Ev
set_option maxRecDepth 100000

def B64:Nat:=18446744073709551616
def wN(neg:Bool)(M:Nat):Bool×Int×Int:=(neg,((M / B64:Nat):Int),((M % B64:Nat):Int))
def wV(neg:Bool)(M:Nat):Int:=if neg then -(M:Int)else M

theorem wu64_mod(n:Nat):IntKind.wrap .u64 (n:Int)=((n % B64:Nat):Int):=by
 rw [IntKind.wrap_u64];simp [B64]

theorem size_eq{n:Int}(h1 : -9223372036854775808<n)(h2:n<9223372036854775808):impl_size n=some (n.natAbs:Int):=by
 unfold impl_size
 by_cases h:n<0
 ·have:decide (n<0)=true:=by simpa using h
  have e1:IntKind.wrap .i64 (0 - n) = -n:=by rw [w64] <;> omega
  have e2:IntKind.wrap .u64 (-n) = -n:=by rw [wu64] <;> omega
  rw [this,e1,e2]
  simp only [cond_true];congr 1;omega
 ·have:decide (n<0)=false:=by simpa using h
  have e2:IntKind.wrap .u64 n=n:=by rw [wu64] <;> omega
  rw [this,e2]
  simp only [cond_false];congr 1;omega

theorem wideOf_eq{n:Int}(h1 : -9223372036854775808<n)(h2:n<9223372036854775808):impl_wideOf n=some (wN (decide (n<0)) n.natAbs):=by
 unfold impl_wideOf wN
 rw [size_eq h1 h2]
 simp only [Option.bind_some]
 have e1:n.natAbs / B64=0:=Nat.div_eq_of_lt (by simp only [B64];omega)
 have e2:n.natAbs % B64=n.natAbs:=Nat.mod_eq_of_lt (by simp only [B64];omega)
 rw [e1,e2];rfl

theorem wV_of(n:Int):wV (decide (n<0)) n.natAbs=n:=by
 unfold wV
 by_cases h:n<0
 ·simp [h];omega
 ·simp [h];omega

theorem or_add{a b:Nat}(i:Nat)(hb:b<2 ^ i)(ha:a*2 ^ i<B64):(a*2 ^ i) ||| b=a*2 ^ i+b:=by
 have:=Nat.shiftLeft_add_eq_or_of_lt hb a
 rw [Nat.shiftLeft_eq]at this
 exact this.symm

theorem orw{a b:Nat}(ha:a<B64)(hb:b<B64):(BitVec.toNat (BitVec.ofInt (IntKind.bits .u64) (a:Int) ||| BitVec.ofInt (IntKind.bits .u64) (b:Int)):Int)=((a ||| b:Nat):Int):=by
 have key:∀c:Nat,c<B64→(BitVec.ofInt (IntKind.bits .u64) (c:Int)).toNat=c:=by
  intro c hc
  simp only [B64]at hc
  rw [BitVec.toNat_ofInt]
  simp only [IntKind.bits]
  omega
 rw [BitVec.toNat_or,key a ha,key b hb]

theorem fdiv_pow(a m:Nat):Int.fdiv (a:Int) (2 ^ m)=((a / 2 ^ m:Nat):Int):=by
 rw [show(2:Int) ^ m=((2 ^ m:Nat):Int)by simp]
 rw [Int.fdiv_eq_ediv_of_nonneg _ (Int.natCast_nonneg _)]
 exact(Int.natCast_ediv a (2 ^ m)).symm
theorem mul_powN(a m:Nat):(a:Int)*2 ^ m=((a*2 ^ m:Nat):Int):=by simp

theorem shl_eq{neg:Bool}{M s:Nat}(hs:s<64)(hM:M*2 ^ s<B64*B64):impl_wide_shift (wN neg M) s=some (wN neg (M*2 ^ s)):=by
 have hp:0<2 ^ s:=Nat.pow_pos (by omega)
 have h64:2 ^ s*2 ^ (64 - s)=B64:=by
  rw [←Nat.pow_add,show s+(64 - s)=64 by omega];rfl
 unfold impl_wide_shift
 have c1:decide ((s:Int)≥0)=true:=by simp
 have c2:decide ((s:Int)≥64)=false:=by simp;omega
 have c3:decide ((s:Int)<0)=false:=by simp
 have w1:IntKind.wrap .i64 (64 - (s:Int))=((64 - s:Nat):Int):=by rw [w64] <;> omega
 have c4:decide (((64 - s:Nat):Int)<0)=false:=by simp
 rw [c1,c2,c3,w1,c4]
 simp only [cond_true,cond_false]
 have m1:min (Int.toNat (s:Int)) (IntKind.bits .u64)=s:=by simp [IntKind.bits];omega
 have m2:min (Int.toNat ((64 - s:Nat):Int)) (IntKind.bits .u64)=64 - s:=by simp [IntKind.bits]
 rw [m1,m2]
 simp only [wN]
 rw [mul_powN,mul_powN,fdiv_pow,wu64_mod (M / B64*2 ^ s)]
 have hlo:M % B64<B64:=Nat.mod_lt _ (by simp [B64])
 have hdiv:M % B64 / 2 ^ (64 - s)<2 ^ s:=by
  apply Nat.div_lt_of_lt_mul
  rw [Nat.mul_comm,h64];exact hlo
 have hhi:M / B64*2 ^ s<B64:=by
  have h1:M / B64*B64≤M:=Nat.div_mul_le_self M B64
  have h2:M / B64*2 ^ s*B64≤M*2 ^ s:=by
   rw [Nat.mul_right_comm];exact Nat.mul_le_mul_right _ h1
  exact Nat.lt_of_mul_lt_mul_right (Nat.lt_of_le_of_lt h2 hM)
 rw [Nat.mod_eq_of_lt hhi,orw hhi (Nat.lt_of_lt_of_le hdiv (by rw [←h64];exact Nat.le_mul_of_pos_right _ (Nat.pow_pos (by omega)))),or_add s hdiv hhi,wu64_mod,wu64_mod]
 have e:M*2 ^ s=(M / B64*2 ^ s+M % B64 / 2 ^ (64 - s))*B64+(M % B64*2 ^ s) % B64:=by
  have e1:M=M / B64*B64+M % B64:=by rw [Nat.mul_comm];exact(Nat.div_add_mod M B64).symm
  have e2:M % B64*2 ^ s / B64=M % B64 / 2 ^ (64 - s):=by
   rw [←h64,Nat.mul_comm (M % (2 ^ s*2 ^ (64 - s)))]
   exact Nat.mul_div_mul_left _ _ hp
  have e3:M % B64*2 ^ s=M % B64 / 2 ^ (64 - s)*B64+(M % B64*2 ^ s) % B64:=by
   have:=Nat.div_add_mod (M % B64*2 ^ s) B64
   rw [e2,Nat.mul_comm B64]at this
   exact this.symm
  have e4:M*2 ^ s=M / B64*2 ^ s*B64+M % B64*2 ^ s:=by
   conv=>lhs;rw [e1]
   rw [Nat.add_mul,Nat.mul_right_comm]
  rw [Nat.add_mul,Nat.add_assoc,←e3]
  exact e4
 have hlt:(M % B64*2 ^ s) % B64<B64:=Nat.mod_lt _ (by simp [B64])
 have f1:M*2 ^ s / B64=M / B64*2 ^ s+M % B64 / 2 ^ (64 - s):=by
  rw [e,Nat.mul_comm,Nat.mul_add_div (by simp [B64]),Nat.div_eq_of_lt hlt,Nat.add_zero]
 have f2:M*2 ^ s % B64=(M % B64*2 ^ s) % B64:=by
  conv=>lhs;rw [e]
  rw [Nat.mul_comm,Nat.mul_add_mod,Nat.mod_mod]
 rw [f1,f2]
 have f3:M / B64*2 ^ s+M % B64 / 2 ^ (64 - s)<B64:=by
  rw [←f1]
  exact Nat.div_lt_of_lt_mul hM
 rw [Nat.mod_eq_of_lt f3]

theorem shr_eq{neg:Bool}{M j:Nat}(hj:0<j)(hs:j<64)(hM:M<B64*B64):impl_wide_shift (wN neg M) (-(j:Int))=some (wN neg (M / 2 ^ j)):=by
 have hp:0<2 ^ j:=Nat.pow_pos (by omega)
 have h64:2 ^ (64 - j)*2 ^ j=B64:=by
  rw [←Nat.pow_add,show 64 - j+j=64 by omega];rfl
 unfold impl_wide_shift
 have c1:decide (-(j:Int)≥0)=false:=by simp;omega
 have w0:IntKind.wrap .i64 (0 - -(j:Int))=(j:Int):=by rw [w64] <;> omega
 have c2:decide ((j:Int)≥64)=false:=by simp;omega
 have c3:decide ((j:Int)<0)=false:=by simp
 have w1:IntKind.wrap .i64 (64 - (j:Int))=((64 - j:Nat):Int):=by rw [w64] <;> omega
 have c4:decide (((64 - j:Nat):Int)<0)=false:=by simp
 rw [c1]
 simp only [cond_false,w0,c2,c3,w1,c4]
 have m1:min (Int.toNat (j:Int)) (IntKind.bits .u64)=j:=by simp [IntKind.bits];omega
 have m2:min (Int.toNat ((64 - j:Nat):Int)) (IntKind.bits .u64)=64 - j:=by simp [IntKind.bits]
 rw [m1,m2]
 simp only [wN]
 rw [mul_powN,fdiv_pow,fdiv_pow,wu64_mod (M / B64*2 ^ (64 - j))]
 have hlo:M % B64<B64:=Nat.mod_lt _ (by simp [B64])
 have hhi:M / B64<B64:=Nat.div_lt_of_lt_mul hM
  -- the high part's low bits
 have hq:(M / B64*2 ^ (64 - j)) % B64=(M / B64 % 2 ^ j)*2 ^ (64 - j):=by
  rw [←h64,Nat.mul_comm (M / (2 ^ (64 - j)*2 ^ j)),Nat.mul_mod_mul_left,Nat.mul_comm]
 have hdiv:M % B64 / 2 ^ j<2 ^ (64 - j):=by
  apply Nat.div_lt_of_lt_mul
  rw [Nat.mul_comm,h64];exact hlo
 have hql:(M / B64 % 2 ^ j)*2 ^ (64 - j)<B64:=by
  rw [←h64,Nat.mul_comm]
  exact Nat.mul_lt_mul_of_pos_left (Nat.mod_lt _ hp) (Nat.pow_pos (by omega))
 rw [hq,orw (Nat.lt_of_lt_of_le hdiv (by rw [←h64];exact Nat.le_mul_of_pos_right _ hp)) hql,Nat.or_comm,or_add (64 - j) hdiv hql,wu64_mod]
 have f1:M / 2 ^ j / B64=M / B64 / 2 ^ j:=by rw [Nat.div_div_eq_div_mul,Nat.div_div_eq_div_mul,Nat.mul_comm]
 have f2:M / 2 ^ j % B64=(M / B64 % 2 ^ j)*2 ^ (64 - j)+M % B64 / 2 ^ j:=by
  have e1:M=(M / B64 / 2 ^ j*2 ^ j+M / B64 % 2 ^ j)*B64+M % B64:=by
   have a1:=Nat.div_add_mod M B64
   have a2:=Nat.div_add_mod (M / B64) (2 ^ j)
   rw [Nat.mul_comm (M / B64 / 2 ^ j),a2,Nat.mul_comm]
   exact a1.symm
  have e2:M / 2 ^ j=M / B64 / 2 ^ j*B64+((M / B64 % 2 ^ j)*2 ^ (64 - j)+M % B64 / 2 ^ j):=by
   have e3:M=2 ^ j*(M / B64 / 2 ^ j*B64+(M / B64 % 2 ^ j)*2 ^ (64 - j))+M % B64:=by
    conv=>lhs;rw [e1]
    have e5:∀a:Nat,a*B64=2 ^ j*(a*2 ^ (64 - j)):=fun a=>by
      rw [Nat.mul_left_comm,Nat.mul_comm (2 ^ j),h64]
    rw [Nat.add_mul,e5 (M / B64 % 2 ^ j),Nat.mul_add,Nat.mul_comm (M / B64 / 2 ^ j) (2 ^ j),Nat.mul_assoc]
   conv=>lhs;rw [e3]
   rw [Nat.mul_add_div hp,Nat.add_assoc]
  rw [e2,Nat.mul_comm (M / B64 / 2 ^ j),Nat.mul_add_mod,Nat.mod_eq_of_lt]
  have:=Nat.mod_lt (M / B64) hp
  have h3:(M / B64 % 2 ^ j+1)*2 ^ (64 - j)≤B64:=Nat.le_trans (Nat.mul_le_mul_right _ this) (by rw [Nat.mul_comm,h64];exact Nat.le_refl _)
  rw [Nat.add_mul,Nat.one_mul]at h3
  omega
 rw [f1,f2]
 have f3:(M / B64 % 2 ^ j)*2 ^ (64 - j)+M % B64 / 2 ^ j<B64:=by rw [←f2];exact Nat.mod_lt _ (by simp [B64])
 rw [Nat.mod_eq_of_lt f3]
end Go.Ev.G

namespace Go.Ev.G
open Go Go.Ev
set_option maxRecDepth 100000

def cmpI(a b:Int):Int:=if a<b then -1 else if b<a then 1 else 0

theorem cmpU_eq(a b:Int):cmp_Compare_uint64 a b=some (cmpI a b):=by
 unfold cmp_Compare_uint64 cmp_isNaN_uint64 cmpI
 by_cases h1:a<b
 ·have:decide (a<b)=true:=by simpa using h1
  simp [h1]
 ·by_cases h2:b<a
  ·simp [h1,h2]
  ·simp [h1,h2]

def orI(x y:Int):Int:=bif x==0 then y else x
theorem orI_ne{x:Int}(h:x≠0)(y:Int):orI x y=x:=by
 have:(x==0)=false:=by simpa using h
 rw [orI,this];rfl
theorem orI_z(y:Int):orI 0 y=y:=rfl

theorem or2_ev(x y:Int):Evt (fun k _=>cmp_Or_int k [x,y]) (orI x y):=by
 refine Evt.eq (f:=fun k q=>_) ?_ (fun k q=>by rw [cmp_Or_int])
 have step:∀(i:Nat) (F:Nat→Nat→Option _) r,(∀k q,cmp_Or_int_L58 k (q+1) 0 [x,y] ([x,y].length:Int) i=F k q)→Evt F r→Evt (fun k q=>cmp_Or_int_L58 k q 0 [x,y] ([x,y].length:Int) i) r:=fun i F r h h'=>Evt.step h h'
 by_cases hx:x=0
 ·subst hx
  by_cases hy:y=0
  ·subst hy
   refine Evt.inr (y:=(0,())) (Evt.diag (f:=fun k q=>cmp_Or_int_L58 k q 0 [0,0] ([0,0].length:Int) 0) ?_) .pure
   refine step 0 _ _ (fun k q=>cmp_Or_int_L58.eq_2 k _ _ _ _ q) ?_
   refine Evt.ctrue rfl (Evt.ctrue rfl (Evt.ctrue rfl (Evt.cfalse rfl ?_)))
   refine step 1 _ _ (fun k q=>cmp_Or_int_L58.eq_2 k _ _ _ _ q) ?_
   refine Evt.ctrue rfl (Evt.ctrue rfl (Evt.ctrue rfl (Evt.cfalse rfl ?_)))
   refine step 2 _ _ (fun k q=>cmp_Or_int_L58.eq_2 k _ _ _ _ q) ?_
   exact Evt.cfalse rfl .pure
  ·refine Evt.inl (q:=y) (Evt.diag (f:=fun k q=>cmp_Or_int_L58 k q 0 [0,y] ([0,y].length:Int) 0) ?_) (by rw [orI_z];exact .pure)
   refine step 0 _ _ (fun k q=>cmp_Or_int_L58.eq_2 k _ _ _ _ q) ?_
   refine Evt.ctrue rfl (Evt.ctrue rfl (Evt.ctrue rfl (Evt.cfalse rfl ?_)))
   refine step 1 _ _ (fun k q=>cmp_Or_int_L58.eq_2 k _ _ _ _ q) ?_
   refine Evt.ctrue rfl (Evt.ctrue rfl (Evt.ctrue rfl (Evt.ctrue ?_ .pure)))
   show(y != 0)=true
   simpa using hy
 ·refine Evt.inl (q:=x) (Evt.diag (f:=fun k q=>cmp_Or_int_L58 k q 0 [x,y] ([x,y].length:Int) 0) ?_) (by rw [orI_ne hx];exact .pure)
  refine step 0 _ _ (fun k q=>cmp_Or_int_L58.eq_2 k _ _ _ _ q) ?_
  refine Evt.ctrue rfl (Evt.ctrue rfl (Evt.ctrue rfl (Evt.ctrue ?_ .pure)))
  show(x != 0)=true
  simpa using hx

theorem sizes_ev(n1 n2:Bool)(M1 M2:Nat):Evt (fun k _=>impl_compareSizes k (wN n1 M1) (wN n2 M2)) (cmpI M1 M2):=by
 refine Evt.eq (f:=fun k q=>_) ?_ (fun k q=>by rw [impl_compareSizes])
 refine Evt.bind (.const (cmpU_eq _ _)) (Evt.bind (.const (cmpU_eq _ _)) (Evt.bind (or2_ev _ _) ?_))
 refine .const ?_
 congr 1
 simp only [wN]
 have e1:=Nat.div_add_mod M1 B64
 have e2:=Nat.div_add_mod M2 B64
 have l1:=Nat.mod_lt M1 (y:=B64) (by simp [B64])
 have l2:=Nat.mod_lt M2 (y:=B64) (by simp [B64])
 rcases Nat.lt_trichotomy (M1 / B64) (M2 / B64)with h | h | h
 ·have:M1<M2:=by
   have:(M1 / B64+1)*B64≤M2 / B64*B64:=Nat.mul_le_mul_right _ h
   rw [Nat.add_mul,Nat.one_mul,Nat.mul_comm,Nat.mul_comm (M2 / B64)]at this
   omega
  have c1:cmpI ((M1 / B64:Nat):Int) ((M2 / B64:Nat):Int) = -1:=by unfold cmpI;rw [if_pos (by omega)]
  have c2:cmpI M1 M2 = -1:=by unfold cmpI;rw [if_pos (by omega)]
  rw [c1,c2];rfl
 ·rw [h]at e1
  have c1:cmpI ((M1 / B64:Nat):Int) ((M2 / B64:Nat):Int)=0:=by unfold cmpI;rw [if_neg (by omega),if_neg (by omega)]
  rw [c1,orI_z]
  have i1:(((M1 % B64:Nat):Int)<((M2 % B64:Nat):Int))↔((M1:Int)<M2):=by omega
  have i2:(((M2 % B64:Nat):Int)<((M1 % B64:Nat):Int))↔((M2:Int)<M1):=by omega
  unfold cmpI
  simp only [i1,i2]
 ·have:M2<M1:=by
   have:(M2 / B64+1)*B64≤M1 / B64*B64:=Nat.mul_le_mul_right _ h
   rw [Nat.add_mul,Nat.one_mul,Nat.mul_comm,Nat.mul_comm (M1 / B64)]at this
   omega
  have c1:cmpI ((M1 / B64:Nat):Int) ((M2 / B64:Nat):Int)=1:=by unfold cmpI;rw [if_neg (by omega),if_pos (by omega)]
  have c2:cmpI M1 M2=1:=by unfold cmpI;rw [if_neg (by omega),if_pos (by omega)]
  rw [c1,c2];rfl

theorem isZero_eq(neg:Bool)(M:Nat):impl_wide_isZero (wN neg M)=some (decide (M=0)):=by
 unfold impl_wide_isZero wN
 have e1:=Nat.div_add_mod M B64
 by_cases h:M=0
 ·subst h;simp
 ·have hd:decide (M=0)=false:=by simpa using h
  rw [hd]
  by_cases h1:M / B64=0
  ·have h2:M % B64≠0:=by
    intro h2
    rw [h1,h2]at e1
    omega
   have:((((M % B64:Nat):Int))==0)=false:=by rw [beq_eq_false_iff_ne];intro h3;exact h2 (Int.ofNat.inj h3)
   simp only [h1,this]
   rfl
  ·have:((((M / B64:Nat):Int))==0)=false:=by
    rw [beq_eq_false_iff_ne];intro h3;exact h1 (Int.ofNat.inj h3)
   simp only [this]
   rfl

theorem wV_cmp(n1 n2:Bool)(M1 M2:Nat):Evt (fun k _=>impl_compareWide k (wN n1 M1) (wN n2 M2)) (cmpI (wV n1 M1) (wV n2 M2)):=by
 refine Evt.eq (f:=fun k q=>_) ?_ (fun k q=>by rw [impl_compareWide])
 have rest : ¬ (M1=0∧M2=0)→∀(f:Nat→Nat→Option (Int ⊕ ((Bool×Int×Int)×(Bool×Int×Int)×Unit))),(∀k q,f k q=(bif (!((wN n1 M1).1==(wN n2 M2).1))then(bif (wN n1 M1).1 then some (Sum.inl (-1))else some (Sum.inl 1))else(bif (wN n1 M1).1 then(Option.bind (impl_compareSizes k (wN n2 M2) (wN n1 M1)) fun r4=>some (Sum.inl r4))else some (Sum.inr (wN n1 M1,wN n2 M2,()))))) →
   Evt (fun k q=>both (R:=Int) (P:=(Bool×Int×Int)×(Bool×Int×Int)×Unit) (f k q) (fun q7=>some q7) (fun y5=>(Option.bind (impl_compareSizes k y5.1 y5.2.1) fun r6=>some r6))) (cmpI (wV n1 M1) (wV n2 M2)):=by
  intro hne f hf
  cases n1 <;> cases n2
  ·refine Evt.inr (y:=(wN false M1,wN false M2,())) (Evt.eq (f:=fun _ _=>some _) .pure (fun k q=>by rw [hf];rfl)) ?_
   exact Evt.bind (sizes_ev _ _ _ _) .pure
  ·refine Evt.inl (q:=1) (Evt.eq (f:=fun _ _=>some _) .pure (fun k q=>by rw [hf];rfl)) ?_
   refine .const ?_
   congr 1
   simp only [cmpI,wV]
   simp <;> omega
  ·refine Evt.inl (q := -1) (Evt.eq (f:=fun _ _=>some _) .pure (fun k q=>by rw [hf];rfl)) ?_
   refine .const ?_
   congr 1
   simp only [cmpI,wV]
   simp <;> omega
  ·refine Evt.inl (q:=cmpI M2 M1) (Evt.eq (f:=fun k q=>Option.bind (impl_compareSizes k (wN true M2) (wN true M1)) fun r4=>some (Sum.inl r4)) (Evt.bind (sizes_ev _ _ _ _) .pure) (fun k q=>by rw [hf];rfl)) ?_
   refine .const ?_
   congr 1
   simp only [cmpI,wV]
   simp
 by_cases h1:M1=0
 ·by_cases h2:M2=0
  ·refine Evt.inl (q:=0) ?_ ?_
   ·exact Evt.bind (.const (isZero_eq _ _)) (Evt.ctrue (by simp [h1]) (Evt.bind (.const (isZero_eq _ _)) (Evt.ctrue (by simp [h2]) .pure)))
   ·refine .const ?_
    subst h1;subst h2
    cases n1 <;> cases n2 <;> rfl
  ·refine rest (fun h=>h2 h.2) _ (fun k q => ?_)
   rw [isZero_eq,isZero_eq]
   simp [h1,h2]
 ·refine rest (fun h=>h1 h.1) _ (fun k q => ?_)
  rw [isZero_eq]
  simp [h1]

theorem add64_eq{a b:Nat}{c:Nat}(hc:c≤1):math_bits_Add64 a b c=some ((((a+b+c) % B64:Nat):Int),(((a+b+c) / B64:Nat):Int)):=by
 unfold math_bits_Add64
 have:((c:Int)==0||(c:Int)==1)=true:=by
  have:c=0∨c=1:=by omega
  rcases this with rfl | rfl <;> rfl
 rw [this]
 rfl
theorem sub64_eq{a b:Nat}{c:Nat}(hc:c≤1):math_bits_Sub64 a b c=some ((((a+B64 - b - c) % B64:Nat):Int),((if a<b+c then 1 else 0:Nat):Int)):=by
 unfold math_bits_Sub64
 have:((c:Int)==0||(c:Int)==1)=true:=by
  have:c=0∨c=1:=by omega
  rcases this with rfl | rfl <;> rfl
 rw [this]
 rfl

theorem divmod_unique{a q r:Nat}(h:a=q*B64+r)(hr:r<B64):a / B64=q∧a % B64=r:=by
 subst h
 constructor
 ·rw [Nat.mul_comm,Nat.mul_add_div (by simp [B64]),Nat.div_eq_of_lt hr,Nat.add_zero]
 ·rw [Nat.mul_comm,Nat.mul_add_mod,Nat.mod_eq_of_lt hr]

theorem add_same{neg:Bool}{M1 M2:Nat}(h:M1+M2<B64*B64)(k:Nat):impl_wide_add k (wN neg M1) (wN neg M2)=some (wN neg (M1+M2)):=by
 unfold impl_wide_add
 have e:((wN neg M1).1==(wN neg M2).1)=true:=by simp [wN]
 rw [e]
 simp only [cond_true,wN]
 have a1:=add64_eq (a:=M1 % B64) (b:=M2 % B64) (c:=0) (by omega)
 simp only [Nat.add_zero]at a1
 rw [show((0:Nat):Int)=0 from rfl]at a1
 rw [a1]
 simp only [Option.bind_some]
 have l1:=Nat.mod_lt M1 (y:=B64) (by simp [B64])
 have l2:=Nat.mod_lt M2 (y:=B64) (by simp [B64])
 have hc:(M1 % B64+M2 % B64) / B64≤1:=by
  have:(M1 % B64+M2 % B64) / B64<2:=Nat.div_lt_of_lt_mul (by omega)
  omega
 rw [add64_eq hc]
 simp only [Option.bind_some]
 have e1:=Nat.div_add_mod M1 B64
 have e2:=Nat.div_add_mod M2 B64
 have e3:=Nat.div_add_mod (M1 % B64+M2 % B64) B64
 have l3:=Nat.mod_lt (M1 % B64+M2 % B64) (y:=B64) (by simp [B64])
 have hs:M1+M2=(M1 / B64+M2 / B64+(M1 % B64+M2 % B64) / B64)*B64+(M1 % B64+M2 % B64) % B64:=by
  rw [Nat.add_mul,Nat.add_mul,Nat.mul_comm (M1 / B64),Nat.mul_comm (M2 / B64),Nat.mul_comm ((M1 % B64+M2 % B64) / B64)]
  omega
 obtain⟨u1,u2⟩:=divmod_unique hs l3
 have hq:(M1+M2) / B64<B64:=Nat.div_lt_of_lt_mul h
 rw [u1]at hq
 rw [u1,u2,Nat.mod_eq_of_lt hq]

theorem sub_big{neg n2:Bool}{M1 M2:Nat}(h:M2≤M1)(hM:M1<B64*B64):(Option.bind (math_bits_Sub64 (wN neg M1).2.2 (wN n2 M2).2.2 0) fun r5=>(Option.bind (math_bits_Sub64 (wN neg M1).2.1 (wN n2 M2).2.1 r5.2) fun r6=>some ((wN neg M1).1,r6.1,r5.1)))=some (wN neg (M1 - M2)):=by
 simp only [wN]
 have a1:=sub64_eq (a:=M1 % B64) (b:=M2 % B64) (c:=0) (by omega)
 simp only [Nat.add_zero,Nat.sub_zero]at a1
 rw [show((0:Nat):Int)=0 from rfl]at a1
 rw [a1]
 simp only [Option.bind_some]
 have l1:=Nat.mod_lt M1 (y:=B64) (by simp [B64])
 have l2:=Nat.mod_lt M2 (y:=B64) (by simp [B64])
 have e1:=Nat.div_add_mod M1 B64
 have e2:=Nat.div_add_mod M2 B64
 have hle:M2 / B64≤M1 / B64:=Nat.div_le_div_right h
 have hq:M1 / B64<B64:=Nat.div_lt_of_lt_mul hM
 generalize M1 / B64=q1 at *
 generalize M2 / B64=q2 at *
 generalize M1 % B64=r1 at *
 generalize M2 % B64=r2 at *
 by_cases hb:r1<r2
 ·rw [if_pos hb]
  rw [sub64_eq (c:=1) (by omega)]
  simp only [Option.bind_some]
  have hlt:q2<q1:=by
   rcases Nat.lt_or_ge (q2) (q1)with h' | h'
   ·exact h'
   ·have:q1=q2:=by omega
    rw [this]at e1
    omega
  have h3:B64*(q2)+B64≤B64*(q1):=by
   have:B64*(q2+1)≤B64*(q1):=Nat.mul_le_mul_left _ hlt
   rwa [Nat.mul_add,Nat.mul_one]at this
  have hs:M1 - M2=(q1 - q2 - 1)*B64+(r1+B64 - r2):=by
   rw [Nat.sub_mul,Nat.sub_mul,Nat.one_mul,Nat.mul_comm (q1),Nat.mul_comm (q2)]
   omega
  have hlt2:r1+B64 - r2<B64:=by omega
  obtain⟨u1,u2⟩:=divmod_unique hs hlt2
  rw [u1,u2,Nat.mod_eq_of_lt hlt2]
  have h5:q1+B64 - q2 - 1=(q1 - q2 - 1)+B64:=by omega
  rw [h5,Nat.add_mod_right,Nat.mod_eq_of_lt (by omega)]
 ·rw [if_neg hb]
  rw [sub64_eq (c:=0) (by omega)]
  simp only [Option.bind_some,Nat.sub_zero]
  have hs:M1 - M2=(q1 - q2)*B64+(r1 - r2):=by
   have h3:B64*(q2)≤B64*(q1):=Nat.mul_le_mul_left _ hle
   rw [Nat.sub_mul,Nat.mul_comm (q1),Nat.mul_comm (q2)]
   omega
  have hlt2:r1 - r2<B64:=by omega
  obtain⟨u1,u2⟩:=divmod_unique hs hlt2
  rw [u1,u2]
  have h5:q1+B64 - q2=(q1 - q2)+B64:=by omega
  have h6:r1+B64 - r2=(r1 - r2)+B64:=by omega
  rw [h5,h6,Nat.add_mod_right,Nat.add_mod_right,Nat.mod_eq_of_lt (by omega),Nat.mod_eq_of_lt hlt2]

theorem add_ev{n1 n2:Bool}{M1 M2:Nat}(h:M1+M2<B64*B64):∃neg M,M≤M1+M2∧wV neg M=wV n1 M1+wV n2 M2∧Evt (fun k _=>impl_wide_add k (wN n1 M1) (wN n2 M2)) (wN neg M):=by
 by_cases hn:n1=n2
 ·subst hn
  refine⟨n1,M1+M2,Nat.le_refl _,?_,Evt.eq (f:=fun _ _=>some _) .pure (fun k q=>add_same h k)⟩
  cases n1 <;> simp [wV] <;> omega
 ·have e:((wN n1 M1).1==(wN n2 M2).1)=false:=by
   simp only [wN];cases n1 <;> cases n2 <;> simp_all
  rcases Nat.lt_or_ge M1 M2 with hlt | hge
  ·refine⟨n2,M2 - M1,by omega,?_,Evt.eq (f:=fun k q=>_) ?_ (fun k q=>by rw [impl_wide_add])⟩
   ·cases n1 <;> cases n2 <;> simp_all [wV] <;> omega
   ·refine Evt.cfalse e ?_
    refine Evt.inr (y:=(wN n2 M2,wN n1 M1,(false,0,0),())) (Evt.bind (sizes_ev _ _ _ _) (Evt.ctrue ?_ .pure)) (.const (sub_big (by omega) (by omega)))
    simp [cmpI];omega
  ·refine⟨n1,M1 - M2,by omega,?_,Evt.eq (f:=fun k q=>_) ?_ (fun k q=>by rw [impl_wide_add])⟩
   ·cases n1 <;> cases n2 <;> simp_all [wV] <;> omega
   ·refine Evt.cfalse e ?_
    refine Evt.inr (y:=(wN n1 M1,wN n2 M2,(false,0,0),())) (Evt.bind (sizes_ev _ _ _ _) (Evt.cfalse ?_ .pure)) (.const (sub_big hge (by omega)))
    have : ¬ (M1:Int)<M2:=by omega
    simp only [cmpI,if_neg this]
    split <;> simp

theorem fit_loop:∀(m:Nat) (neg:Bool) (M:Nat) (z:Int×Int),m<9223372036854775808→M<B64*B64 →
  Evt (fun k q=>impl_wide_fit_L28 k q m (wN neg M) z) (.inr (((strip m M).2:Int),wN neg (strip m M).1.toNat,z,())):=by
 intro m
 induction m with
 | zero =>
  intro neg M z _ _
  refine Evt.step (fun k q=>impl_wide_fit_L28.eq_2 k _ _ z q) (Evt.cfalse (by simp) ?_)
  simp only [strip,Int.toNat_natCast]
  exact .pure
 | succ m ih =>
  intro neg M z hm hM
  refine Evt.step (fun k q=>impl_wide_fit_L28.eq_2 k _ _ z q) (Evt.ctrue (by simp <;> omega) ?_)
  have hpar:(M % B64) % 2=M % 2:=Nat.mod_mod_of_dvd M ⟨9223372036854775808,rfl⟩
  by_cases h:M % 2=0
  ·have c:(Int.tmod (wN neg M).2.2 2==0)=true:=by
    simp only [wN]
    have:Int.tmod ((M % B64:Nat):Int) 2=(((M % B64) % 2:Nat):Int):=rfl
    rw [this,hpar,h];rfl
   refine Evt.ctrue c ?_
   have hs:=shr_eq (neg:=neg) (M:=M) (j:=1) (by omega) (by omega) hM
   rw [show(-((1:Nat):Int)) = -1 from rfl,Nat.pow_one]at hs
   refine Evt.bind (.const hs) ?_
   rw [show((m+1:Nat):Int) - 1=(m:Int)by omega,w64 (by omega) (by omega)]
   have:=ih neg (M / 2) z (by omega) (Nat.lt_of_le_of_lt (Nat.div_le_self _ _) hM)
   have e:strip (m+1) (M:Int)=strip m ((M / 2:Nat):Int):=by
    rw [strip,if_pos (by omega)]
    rfl
   rw [e]
   exact this
  ·have c:(Int.tmod (wN neg M).2.2 2==0)=false:=by
    simp only [wN]
    have:Int.tmod ((M % B64:Nat):Int) 2=(((M % B64) % 2:Nat):Int):=rfl
    rw [this,hpar]
    have:M % 2=1:=by omega
    rw [this];rfl
   refine Evt.cfalse c ?_
   have e:strip (m+1) (M:Int)=((M:Int),m+1):=strip_odd (by omega)
   rw [e]
   simp only [Int.toNat_natCast]
   exact .pure

theorem fit_ev{neg:Bool}{M m:Nat}(hM:M<B64*B64)(hm:m<9223372036854775808):Evt (fun k _=>impl_wide_fit k (wN neg M) m) (mkD (wV neg M) m):=by
 refine Evt.eq (f:=fun k q=>_) ?_ (fun k q=>by rw [impl_wide_fit])
 refine Evt.bind (.const (isZero_eq _ _)) ?_
 by_cases h0:M=0
 ·refine Evt.ctrue (by simp [h0]) ?_
  have:wV neg M=0:=by subst h0;cases neg <;> rfl
  rw [this,mkD_zero]
  exact .pure
 ·refine Evt.cfalse (by simp [h0]) ?_
  refine Evt.inr (Evt.diag (fit_loop m neg M (0,0) hm hM)) ?_
  have hb:=strip_bound m (M:Int) (by omega)
  have hne:=strip_ne m (M:Int) (by omega)
  have hv:strip m (wV neg M)=(wV neg (strip m M).1.toNat,(strip m M).2):=by
   cases neg with
   | false=>simp only [wV];simp;rw [Int.max_eq_left hb.1]
   | true =>
    simp only [wV,if_true]
    rw [strip_neg,Int.toNat_of_nonneg hb.1]
  obtain⟨S,hS⟩:=Int.eq_ofNat_of_zero_le hb.1
  rw [hS]at hv
  simp only [Int.toNat_natCast,hS]at hv ⊢
  have hSM:S<B64*B64:=by omega
  have hS0:S≠0:=by omega
  unfold mkD
  rw [hv]
  simp only [wN]
  have e1:=Nat.div_add_mod S B64
  have hlt:=Nat.mod_lt S (y:=B64) (by simp [B64])
  by_cases g1:(strip m (M:Int)).2≤24
  ·refine Evt.cfalse (by simp;omega) ?_
   by_cases g2:S / B64=0
   ·refine Evt.cfalse (by simp [g2]) ?_
    have g3:S % B64=S:=by rw [g2]at e1;omega
    simp only [g3]
    by_cases g4:S≤1099511627776
    ·refine Evt.cfalse (by simp;omega) ?_
     rw [if_pos (by cases neg <;> simp [wV] <;> omega)]
     have w1:IntKind.wrap .i64 (S:Int)=S:=by rw [w64] <;> omega
     have w2:IntKind.wrap .i64 (0 - (S:Int)) = -(S:Int):=by rw [w64] <;> omega
     cases neg with
     | true =>
      refine Evt.ctrue rfl (.const ?_)
      rw [w1,w2];rfl
     | false =>
      refine Evt.cfalse rfl (.const ?_)
      rw [w1];rfl
    ·refine Evt.ctrue (by simp;omega) ?_
     rw [if_neg (by cases neg <;> simp [wV] <;> omega)]
     exact .pure
   ·have hq:0<S / B64:=Nat.pos_of_ne_zero g2
    refine Evt.ctrue (decide_eq_true (Int.ofNat_lt.2 hq)) ?_
    have:B64≤S:=by
     have:B64*1≤B64*(S / B64):=Nat.mul_le_mul_left _ hq
     omega
    simp only [B64]at this
    rw [if_neg (by cases neg <;> simp [wV] <;> omega)]
    exact .pure
  ·refine Evt.ctrue (by simp;omega) ?_
   rw [if_neg (by intro h;exact g1 h.2.2)]
   exact .pure
end Go.Ev.G

namespace Go.Ev.G
open Go Go.Ev
set_option maxRecDepth 100000

theorem gd_nat{a:Int×Int}(h:gd a):∃(n:Int) (j:Nat),a=(n,(j:Int))∧j≤24 ∧ -1099511627776≤n∧n≤1099511627776∧(j=0∨n % 2≠0):=by
 obtain⟨n,j⟩:=a
 obtain⟨h1,h2,h3,h4,h5⟩:=h
 simp only at *
 obtain⟨j,rfl⟩:=Int.eq_ofNat_of_zero_le h1
 exact⟨n,j,rfl,by omega,h3,h4,by omega⟩

theorem max_if(a b:Int):(if a<b then b else a)=max a b:=by
 by_cases h:a<b
 ·rw [if_pos h];omega
 ·rw [if_neg h];omega

theorem wide_at{n:Int}{j K:Nat}(hj:j≤K)(hK:K≤48)(h1 : -1099511627776≤n)(h2:n≤1099511627776) :
  impl_wideOf n=some (wN (decide (n<0)) n.natAbs)∧impl_wide_shift (wN (decide (n<0)) n.natAbs) (IntKind.wrap .i64 ((K:Int) - (j:Int)))=some (wN (decide (n<0)) (n.natAbs*2 ^ (K - j))) ∧
   n.natAbs*2 ^ (K - j)<B64*33554432∧wV (decide (n<0)) (n.natAbs*2 ^ (K - j))=n*2 ^ (K - j):=by
 have hw:IntKind.wrap .i64 ((K:Int) - (j:Int))=((K - j:Nat):Int):=by rw [w64] <;> omega
 have hp:2 ^ (K - j)≤2 ^ 48:=Nat.pow_le_pow_right (by omega) (by omega)
 have hb:n.natAbs*2 ^ (K - j)<B64*33554432:=by
  have:n.natAbs*2 ^ (K - j)≤1099511627776*2 ^ 48:=Nat.mul_le_mul (by omega) hp
  simp only [B64]
  omega
 refine⟨wideOf_eq (by omega) (by omega),?_,hb,?_⟩
 ·rw [hw]
  exact shl_eq (by omega) (Nat.lt_of_lt_of_le hb (by simp [B64]))
 ·have h0:=wV_of n
  unfold wV at h0 ⊢
  by_cases h:n<0
  ·simp only [h,decide_true,if_true]at h0 ⊢
   conv=>rhs;rw [←h0]
   simp [Int.neg_mul]
  ·simp only [h,decide_false,Bool.false_eq_true,if_false]at h0 ⊢
   conv=>rhs;rw [←h0]
   simp

theorem sumOf_ev{a b:Int×Int}(ha:gd a)(hb:gd b):Evt (fun k _=>impl_sumOf k a b) (sumD a b):=by
 obtain⟨n,j,rfl,a1,a2,a3,a4⟩:=gd_nat ha
 obtain⟨m,i,rfl,b1,b2,b3,b4⟩:=gd_nat hb
 refine Evt.eq (f:=fun k q=>_) ?_ (fun k q=>by rw [impl_sumOf])
 simp only [max_if]
 have hmax:max ((j:Nat):Int) (i:Int)=((max j i:Nat):Int):=by omega
 simp only [hmax]
 obtain⟨u1,u2,u3,u4⟩:=wide_at (n:=n) (j:=j) (K:=max j i) (by omega) (by omega) a2 a3
 obtain⟨v1,v2,v3,v4⟩:=wide_at (n:=m) (j:=i) (K:=max j i) (by omega) (by omega) b2 b3
 refine Evt.bind (.const u1) (Evt.bind (.const u2) (Evt.bind (.const v1) (Evt.bind (.const v2) ?_)))
 obtain⟨neg,M,hM,hv,hev⟩:=add_ev (n1:=decide (n<0)) (n2:=decide (m<0)) (M1:=n.natAbs*2 ^ (max j i - j)) (M2:=m.natAbs*2 ^ (max j i - i)) (by simp only [B64]at *; omega)
 refine Evt.bind hev (Evt.bind (fit_ev (by simp only [B64]at *; omega) (by omega)) ?_)
 rw [hv,u4,v4]
 have e:sumD (n,(j:Int)) (m,(i:Int))=mkD (n*2 ^ (max j i - j)+m*2 ^ (max j i - i)) (max j i):=by simp [sumD,sumN,exA]
 rw [e]
 exact .pure

def sv(a:Int×Int):Int:=a.1*2 ^ (24 - a.2.toNat)

theorem cmpI_mul{a b p:Int}(hp:0<p):cmpI (a*p) (b*p)=cmpI a b:=by
 unfold cmpI
 have i1:(a*p<b*p)↔(a<b):=Int.mul_lt_mul_right hp
 have i2:(b*p<a*p)↔(b<a):=Int.mul_lt_mul_right hp
 simp only [i1,i2]

theorem cmpD_scale{n m:Int}{j i K:Nat}(hj:j≤K)(hi:i≤K)(hK:K≤24):cmpI (n*2 ^ (K - j)) (m*2 ^ (K - i))=cmpI (n*2 ^ (24 - j)) (m*2 ^ (24 - i)):=by
 have hp:(0:Int)<2 ^ (24 - K):=Int.pow_pos (by omega)
 rw [←cmpI_mul (a:=n*2 ^ (K - j)) (b:=m*2 ^ (K - i)) hp,Int.mul_assoc,Int.mul_assoc,←Int.pow_add,←Int.pow_add]
 rw [show K - j+(24 - K)=24 - j by omega,show K - i+(24 - K)=24 - i by omega]

theorem compareD_ev{a b:Int×Int}(ha:gd a)(hb:gd b):Evt (fun k _=>impl_compareD k a b) (cmpI (sv a) (sv b)):=by
 obtain⟨n,j,rfl,a1,a2,a3,a4⟩:=gd_nat ha
 obtain⟨m,i,rfl,b1,b2,b3,b4⟩:=gd_nat hb
 refine Evt.eq (f:=fun k q=>_) ?_ (fun k q=>by rw [impl_compareD])
 simp only [max_if]
 have hmax:max ((j:Nat):Int) (i:Int)=((max j i:Nat):Int):=by omega
 simp only [hmax]
 obtain⟨u1,u2,u3,u4⟩:=wide_at (n:=n) (j:=j) (K:=max j i) (by omega) (by omega) a2 a3
 obtain⟨v1,v2,v3,v4⟩:=wide_at (n:=m) (j:=i) (K:=max j i) (by omega) (by omega) b2 b3
 refine Evt.bind (.const u1) (Evt.bind (.const u2) (Evt.bind (.const v1) (Evt.bind (.const v2) (Evt.bind (wV_cmp _ _ _ _) ?_))))
 rw [u4,v4,cmpD_scale (by omega) (by omega) (by omega)]
 exact .pure

theorem minus_eq{a:Int×Int}(h:gd a):impl_minus a=some (-a.1,a.2):=by
 have:=h.2.2
 unfold impl_minus
 rw [w64 (by omega) (by omega)]
 congr 2
 omega

theorem gd_neg{a:Int×Int}(h:gd a):gd (-a.1,a.2):=⟨h.1,h.2.1,by have:=h.2.2;simp;omega,by have:=h.2.2;simp;omega,by rcases h.2.2.2.2 with h | h;exact .inl h;exact .inr (by simp;omega)⟩
theorem sv_neg(a:Int×Int):sv (-a.1,a.2) = -sv a:=by simp [sv,Int.neg_mul]
theorem sv_pos{a:Int×Int}:(0<sv a)↔0<a.1:=by
 have hp:(0:Int)<2 ^ (24 - a.2.toNat):=Int.pow_pos (by omega)
 unfold sv
 constructor
 ·intro h;exact Int.pos_of_mul_pos_left h hp
 ·intro h;exact Int.mul_pos h hp

def absD(a:Int×Int):Int×Int:=((a.1.natAbs:Int),a.2)
theorem absD_gd{a:Int×Int}(h:gd a):gd (absD a):=⟨h.1,h.2.1,by simp [absD] <;> omega,by have:=h.2.2;simp [absD];omega,by rcases h.2.2.2.2 with h | h;exact .inl h;exact .inr (by simp [absD];omega)⟩
theorem mxAbs_eq{a:Int×Int}(h:gd a):spec_mxAbs a=some (absD a):=by
 have:=h.2.2
 unfold spec_mxAbs spec_l1Abs
 rw [most_eq,w64 (by omega) (by omega)]
 simp only [Option.bind_some,absD]
 congr 2
 omega
end Go.Ev.G

namespace Go.Ev.G
open Go Go.Ev
set_option maxRecDepth 100000

theorem isTable1_eq(x:Int×Int):impl_isTable_1 x=some (!decide (gd x)):=by
 unfold impl_isTable_1
 rw [isDyadic_eq];rfl

def tab{α:Type}(g:α→Prop)[DecidablePred g](m:List (List α)):Bool:=decide (1≤m.length∧m.length≤3)&&m.all fun row=>decide (row.length=m.length)&&row.all fun x=>decide (g x)

theorem contains1_ev{xs:List (Int×Int)}(hb:xs.length<lenB):Evt (fun k _=>slices_ContainsFunc_Dyadic_Dyadic_impl_isTable_1 k xs ()) (xs.any fun x => !decide (gd x)):=by
 refine Evt.eq (f:=fun k q=>_) ?_ (fun k q=>by rw [slices_ContainsFunc_Dyadic_Dyadic_impl_isTable_1])
 have h:=index_all (d0:=(0,0)) (L:=fun k n i=>slices_IndexFunc_Dyadic_Dyadic_impl_isTable_1_L26 k n xs () (xs.length:Int) i) (xs:=xs) (p:=fun _ x=>impl_isTable_1 x) (P:=fun x => !decide (gd x)) (fun x _ => .const (isTable1_eq x)) (fun _ _ _=>rfl) hb
 rw [←findIdx?_any]
 have h2:Evt (fun k _=>slices_IndexFunc_Dyadic_Dyadic_impl_isTable_1 k xs ()) (match xs.findIdx? (fun x => !decide (gd x))with | some j=>(j:Int) | none => -1):=by
  refine Evt.eq (f:=fun k q=>_) ?_ (fun k q=>by rw [slices_IndexFunc_Dyadic_Dyadic_impl_isTable_1])
  cases hf:xs.findIdx? (fun x => !decide (gd x))with
  | none=>rw [hf]at h;exact Evt.inr (Evt.diag h) .pure
  | some j=>rw [hf]at h;exact Evt.inl (Evt.diag h) .pure
 refine Evt.bind h2 (.const ?_)
 cases hf:xs.findIdx? (fun x => !decide (gd x))with
 | none=>rfl
 | some j=>simp

theorem isTable_ev{m:List (List (Int×Int))}(hb:m.length<lenB)(hm:∀r∈m,r.length<lenB):Evt (fun k _=>impl_isTable k m) (tab gd m):=by
 refine Evt.eq (f:=fun k q=>_) ?_ (fun k q=>by rw [impl_isTable])
 have key:∀(r d:List (List (Int×Int))),d++r=m→Evt (fun k n=>impl_isTable_L26 k n m m (m.length:Int) d.length) (if (r.all fun row=>decide (row.length=m.length)&&row.all fun x=>decide (gd x))then .inr (m,())else .inl false):=by
  intro r
  induction r with
  | nil =>
   intro d h
   refine Evt.step (fun k n=>impl_isTable_L26.eq_2 k _ _ _ _ n) ?_
   rw [List.append_nil]at h
   subst h
   exact Evt.rng0 .pure
  | cons e r ih =>
   intro d h
   refine Evt.step (fun k n=>impl_isTable_L26.eq_2 k _ _ _ _ n) ?_
   have ih:=ih (d ++ [e]) (by simpa using h)
   rw [←len_next (r:=r) (by rw [h];exact hb)]at ih
   subst h
   refine Evt.rng (F:=fun k n x=>(bif ((x.length:Int) != ((d++e::r).length:Int))then some (Sum.inl false)else(Option.bind (slices_ContainsFunc_Dyadic_Dyadic_impl_isTable_1 k x ()) fun r1=>(bif r1 then some (Sum.inl false)else(impl_isTable_L26 k n (d++e::r) (d++e::r) ((d++e::r).length:Int) (IntKind.wrap .i64 ((d.length:Int)+1))))))) ?_
   by_cases h1:e.length=(d++e::r).length
   ·refine Evt.cfalse (by rw [h1];simp) (Evt.bind (contains1_ev (hm e (by simp))) ?_)
    cases h2:e.any fun x => !decide (gd x)with
    | true =>
     refine Evt.ctrue rfl ?_
     have:(e.all fun x=>decide (gd x))=false:=by
      rw [List.any_eq_not_all_not]at h2
      simpa using h2
     simp only [List.all_cons,this,Bool.and_false,Bool.false_and]
     exact .pure
    | false =>
     refine Evt.cfalse rfl ?_
     have:(e.all fun x=>decide (gd x))=true:=by
      rw [List.any_eq_not_all_not]at h2
      simpa using h2
     simp only [List.all_cons,this,h1,decide_true,Bool.true_and]
     exact ih
   ·refine Evt.ctrue (by rw [bne_iff_ne];omega) ?_
    simp only [List.all_cons,h1,decide_false,Bool.false_and]
    exact .pure
 have h0:=key m [] rfl
 simp only [List.length_nil]at h0
 unfold tab
 cases hall:(m.all fun row=>decide (row.length=m.length)&&row.all fun x=>decide (gd x))with
 | true =>
  rw [hall]at h0
  refine Evt.inr (Evt.diag h0) (Evt.bind (.const (inside_eq _ _ _)) (.const ?_))
  congr 1
  rw [Bool.and_true]
  simp only [decide_eq_decide]
  omega
 | false =>
  rw [hall]at h0
  refine Evt.inl (Evt.diag h0) (.const ?_)
  rw [Bool.and_false]

theorem l1All_ev{xs:List Int}{lo hi:Int}(hb:xs.length<lenB):Evt (fun k _=>spec_l1All k xs lo hi) (xs.all fun x=>decide (lo≤x∧x≤hi)):=by
 refine Evt.eq (f:=fun k q=>_) ?_ (fun k q=>by rw [spec_l1All])
 have key:∀(r d:List Int),d++r=xs→Evt (fun k n=>spec_l1All_L26 k n lo hi xs (xs.length:Int) d.length) (if (r.all fun x=>decide (lo≤x∧x≤hi))then .inr ()else .inl false):=by
  intro r
  induction r with
  | nil =>
   intro d h
   refine Evt.step (fun k n=>spec_l1All_L26.eq_2 k _ _ _ _ _ n) ?_
   rw [List.append_nil]at h
   subst h
   exact Evt.rng0 .pure
  | cons e r ih =>
   intro d h
   refine Evt.step (fun k n=>spec_l1All_L26.eq_2 k _ _ _ _ _ n) ?_
   have ih:=ih (d ++ [e]) (by simpa using h)
   rw [←len_next (r:=r) (by rw [h];exact hb)]at ih
   subst h
   refine Evt.rng (F:=fun k n x=>(Option.bind (spec_l1In x lo hi) fun r1=>(bif (!r1)then some (Sum.inl false)else(spec_l1All_L26 k n lo hi (d++e::r) ((d++e::r).length:Int) (IntKind.wrap .i64 ((d.length:Int)+1)))))) ?_
   refine Evt.bind (.const (l1In_eq _ _ _)) ?_
   by_cases h1:lo≤e∧e≤hi
   ·refine Evt.cfalse (by simp [h1]) ?_
    simp only [List.all_cons,h1,and_self,decide_true,Bool.true_and]
    exact ih
   ·refine Evt.ctrue (by rw [decide_eq_false h1];rfl) ?_
    simp only [List.all_cons,decide_eq_false h1,Bool.false_and]
    exact .pure
 have h0:=key xs [] rfl
 simp only [List.length_nil]at h0
 cases hall:(xs.all fun x=>decide (lo≤x∧x≤hi))with
 | true=>rw [hall]at h0;exact Evt.inr (Evt.diag h0) .pure
 | false=>rw [hall]at h0;exact Evt.inl (Evt.diag h0) .pure

theorem square_ev{n:Int}{xs:List Int}(hb:xs.length<lenB):Evt (fun k _=>spec_mxSquare k n xs) (decide (1≤n∧n≤3)&&xs.all fun x=>decide (n≤x∧x≤n)):=by
 refine Evt.eq (f:=fun k q=>_) ?_ (fun k q=>by rw [spec_mxSquare])
 refine Evt.bind (.const (l1In_eq _ _ _)) ?_
 cases h:decide (1≤n∧n≤3)with
 | true=>exact Evt.ctrue rfl (Evt.bind (l1All_ev hb) .pure)
 | false=>exact Evt.cfalse rfl .pure

theorem mxGood_ev{m:List (List (Int×Int))}(hb:m.length<274877906944)(hm:∀r∈m,r.length<lenB):Evt (fun k _=>spec_mxGood k m) (tab gd m):=by
 refine Evt.eq (f:=fun k q=>_) ?_ (fun k q=>by rw [spec_mxGood])
 have inner:∀(x0:List (List (Int×Int))) (x3:List Int) (x5:List (Int×Int)) (x8:List (List (Int×Int))) (x9 x10:Int) (x14:List (Int×Int)),x14.length<lenB→∀(r d:List (Int×Int)),d++r=x14 →
   Evt (fun k n=>spec_mxGood_L29898 k n x0 x3 x5 x8 x9 x10 x14 (x14.length:Int) d.length) (if (r.all fun x=>decide (gd x))then .inr (x0,x3,x5,x8,x9,x10,())else .inl false):=by
  intro x0 x3 x5 x8 x9 x10 x14 hb r
  induction r with
  | nil =>
   intro d h
   refine Evt.step (fun k n=>spec_mxGood_L29898.eq_2 k _ _ _ _ _ _ _ _ _ n) ?_
   rw [List.append_nil]at h
   subst h
   exact Evt.rng0 .pure
  | cons e r ih =>
   intro d h
   refine Evt.step (fun k n=>spec_mxGood_L29898.eq_2 k _ _ _ _ _ _ _ _ _ n) ?_
   have ih:=ih (d ++ [e]) (by simpa using h)
   rw [←len_next (r:=r) (by rw [h];exact hb)]at ih
   subst h
   refine Evt.rng (F:=fun k n x=>(Option.bind (spec_dyGood x) fun r1=>(bif (!r1)then some (Sum.inl false)else(spec_mxGood_L29898 k n x0 x3 x5 x8 x9 x10 (d++e::r) ((d++e::r).length:Int) (IntKind.wrap .i64 ((d.length:Int)+1)))))) ?_
   refine Evt.bind (.const (dyGood_eq _)) ?_
   by_cases h1:gd e
   ·refine Evt.cfalse (by simp [h1]) ?_
    simp only [List.all_cons,h1,decide_true,Bool.true_and]
    exact ih
   ·refine Evt.ctrue (by simp [h1]) ?_
    simp only [List.all_cons,h1,decide_false,Bool.false_and]
    exact .pure
 have key:∀(r d:List (List (Int×Int))),d++r=m→Evt (fun k n=>spec_mxGood_L58 k n m (d.map fun row=>(row.length:Int)) m (m.length:Int) d.length) (if (r.all fun row=>row.all fun x=>decide (gd x))then .inr (m,m.map fun row=>(row.length:Int),())else .inl false):=by
  intro r
  induction r with
  | nil =>
   intro d h
   refine Evt.step (fun k n=>spec_mxGood_L58.eq_2 k _ _ _ _ _ n) ?_
   rw [List.append_nil]at h
   subst h
   exact Evt.rng0 .pure
  | cons e r ih =>
   intro d h
   refine Evt.step (fun k n=>spec_mxGood_L58.eq_2 k _ _ _ _ _ n) ?_
   have ih:=ih (d ++ [e]) (by simpa using h)
   have hl:=congrArg List.length h
   simp at hl
   rw [←len_next (r:=r) (by rw [h];simp only [lenB];omega)]at ih
   have hme:=hm e (by rw [←h];simp)
   subst h
   refine Evt.rng (F:=fun k n x=>(both (R:=Bool) (P:=(List (List (Int×Int)))×(List Int)×(List (Int×Int))×(List (List (Int×Int)))×Int×Int×Unit) (spec_mxGood_L29898 k k (d++e::r) (d.map fun row=>(row.length:Int)) x (d++e::r) ((d++e::r).length:Int) (d.length:Int) x (x.length:Int) 0) (fun q4=>some (Sum.inl q4)) (fun y3=>(bif (decide (y3.2.1.length+([(y3.2.2.1.length:Int)]:List Int).length<274877906944))then(spec_mxGood_L58 k n y3.1 (y3.2.1++([(y3.2.2.1.length:Int)]:List Int)) y3.2.2.2.1 y3.2.2.2.2.1 (IntKind.wrap .i64 (y3.2.2.2.2.2.1+1)))else none)))) ?_
   have hi:=inner (d++e::r) (d.map fun row=>(row.length:Int)) e (d++e::r) ((d++e::r).length:Int) (d.length:Int) e hme e [] rfl
   simp only [List.length_nil]at hi
   cases h1:e.all fun x=>decide (gd x)with
   | true =>
    rw [h1]at hi
    refine Evt.inr (Evt.diag hi) (Evt.ctrue (by simp;omega) ?_)
    simp only [List.all_cons,h1,Bool.true_and]
    simpa using ih
   | false =>
    rw [h1]at hi
    refine Evt.inl (Evt.diag hi) ?_
    simp only [List.all_cons,h1,Bool.false_and]
    exact .pure
 have h0:=key m [] rfl
 simp only [List.length_nil,List.map_nil]at h0
 have ht:tab gd m=((m.all fun row=>row.all fun x=>decide (gd x))&&(decide (1≤(m.length:Int)∧(m.length:Int)≤3)&&(m.map fun row=>(row.length:Int)).all fun x=>decide ((m.length:Int)≤x∧x≤(m.length:Int)))):=by
  unfold tab
  rw [Bool.eq_iff_iff]
  simp only [Bool.and_eq_true,List.all_eq_true,decide_eq_true_eq,List.mem_map,forall_exists_index,and_imp]
  constructor
  ·rintro⟨⟨h1,h2⟩,h3⟩
   refine⟨fun r hr=>(h3 r hr).2,⟨by omega,by omega⟩,?_⟩
   rintro x r hr rfl
   have:=(h3 r hr).1
   omega
  ·rintro⟨h1,⟨h2,h3⟩,h4⟩
   refine⟨⟨by omega,by omega⟩,fun r hr=>⟨?_,h1 r hr⟩⟩
   have:=h4 _ r hr rfl
   omega
 rw [ht]
 cases hall:(m.all fun row=>row.all fun x=>decide (gd x))with
 | true =>
  rw [hall]at h0
  exact Evt.inr (Evt.diag h0) (Evt.bind (square_ev (by simp only [List.length_map,lenB];omega)) .pure)
 | false =>
  rw [hall]at h0
  exact Evt.inl (Evt.diag h0) .pure
end Go.Ev.G

namespace Go.Ev.G
open Go Go.Ev
set_option maxRecDepth 100000

def Sized{γ:Type}(a:List (List γ)):Prop:=a.length+(a.map List.length).sum≤1000000

theorem le_sum{l:List Nat}{x:Nat}(h:x∈l):x≤l.sum:=by
 induction l with
 | nil=>simp at h
 | cons y l ih =>
  simp only [List.sum_cons]
  rcases List.mem_cons.1 h with rfl | h
  ·omega
  ·have:=ih h;omega
theorem Sized.row{γ:Type}{a:List (List γ)}(h:Sized a):∀x∈a,x.length≤1000000:=by
 intro x hx
 unfold Sized at h
 have:=le_sum (List.mem_map.2 ⟨x,hx,rfl⟩:x.length∈a.map List.length)
 omega

end Go.Ev.G

namespace Go.Ev.G
open Go Go.Ev
set_option maxRecDepth 100000

theorem mkD_false{n:Int}{k:Nat}(h:(mkD n k).2=false):(mkD n k).1=(0,0):=by
 unfold mkD at h ⊢
 split at h
 ·cases h
 ·rename_i h2;rw [if_neg h2]

def fsum:Bool→(Int×Int)→List (Int×Int)→(Int×Int)×Bool
 | b,s,[]=>(s,b)
 | true,s,x::xs=>fsum (sumD s x).2 (sumD s x).1 xs
 | false,_,_::xs=>fsum false (0,0) xs
def osum:(Int×Int)→List (Int×Int)→Option (Int×Int)
 | s,[]=>some s
 | s,x::xs=>if (sumD s x).2 then osum (sumD s x).1 xs else none
theorem fsum_false:∀(xs:List (Int×Int)) (s:Int×Int),(fsum false s xs).2=false
 | [],_=>rfl
 | _::xs,_=>by rw [fsum];exact fsum_false xs _
theorem fsum_false0:∀(xs:List (Int×Int)),fsum false (0,0) xs=((0,0),false)
 | []=>rfl
 | _::xs=>by rw [fsum];exact fsum_false0 xs
theorem fsum_true:∀(xs:List (Int×Int)) (s:Int×Int),fsum true s xs=match osum s xs with | some t=>(t,true) | none=>((0,0),false)
 | [],_=>rfl
 | x::xs,s=>by
  rw [fsum,osum]
  cases h:(sumD s x).2 with
  | true=>rw [if_pos rfl];exact fsum_true xs _
  | false=>rw [if_neg (by simp),show(sumD s x).1=(0,0)from mkD_false h];exact fsum_false0 xs
theorem fsum_gd:∀(xs:List (Int×Int)) (b:Bool) (s:Int×Int),gd s→gd (fsum b s xs).1
 | [],_,_,h=>h
 | _::xs,true,_,_=>by rw [fsum];exact fsum_gd xs _ _ (sumD_gd _ _)
 | _::xs,false,_,_=>by rw [fsum];exact fsum_gd xs _ _ (by decide)
theorem osum_gd:∀(xs:List (Int×Int)) (s t:Int×Int),gd s→osum s xs=some t→gd t
 | [],s,t,h,e=>by cases e;exact h
 | x::xs,s,t,h,e=>by
  rw [osum]at e
  split at e
  ·exact osum_gd xs _ t (sumD_gd _ _) e
  ·cases e

theorem reckoner_sum_ev{b:Bool}{s x:Int×Int}(hs:gd s)(hx:gd x):Evt (fun k _=>impl_reckoner_sum k b s x) (if b then sumD s x else((0,0),false)):=by
 refine Evt.eq (f:=fun k q=>_) ?_ (fun k q=>by rw [impl_reckoner_sum])
 refine Evt.bind (sumOf_ev hs hx) (.const ?_)
 unfold impl_reckoner_keep
 cases b with
 | true =>
  cases h:(sumD s x).2 with
  | true=>simp [h,Prod.ext_iff]
  | false =>
   have h3:sumD s x=((0,0),false):=Prod.ext (mkD_false h) h
   rw [h3];simp
 | false=>rfl

theorem fsum_step(b:Bool)(s x:Int×Int)(xs:List (Int×Int)):fsum b s (x::xs)=fsum (if b then sumD s x else((0,0),false)).2 (if b then sumD s x else((0,0),false)).1 xs:=by cases b <;> rfl

theorem total_ev{b:Bool}{x:Int×Int}{xs:List (Int×Int)}(hx:gd x)(hxs:∀y∈xs,gd y)(hb:xs.length<lenB):Evt (fun k _=>impl_reckoner_total k b (x::xs)) (fsum b x xs):=by
 refine Evt.eq (f:=fun k q=>_) ?_ (fun k q=>by rw [impl_reckoner_total])
 have key:∀(r d:List (Int×Int)) (b:Bool) (z s:Int×Int),gd s→d++r=xs→Evt (fun k n=>impl_reckoner_total_L58 k n b z s xs (xs.length:Int) d.length) (.inr (z,(fsum b s r).1,(fsum b s r).2,())):=by
  intro r
  induction r with
  | nil =>
   intro d b z s hs h
   refine Evt.step (fun k n=>impl_reckoner_total_L58.eq_2 k _ _ _ _ _ _ n) ?_
   rw [List.append_nil]at h
   subst h
   exact Evt.rng0 .pure
  | cons e r ih =>
   intro d b z s hs h
   refine Evt.step (fun k n=>impl_reckoner_total_L58.eq_2 k _ _ _ _ _ _ n) ?_
   have he:gd e:=hxs e (by rw [←h];simp)
   have ih:=ih (d ++ [e]) (if b then sumD s e else((0,0),false)).2 z (if b then sumD s e else((0,0),false)).1 (by split;exact sumD_gd _ _;decide) (by simpa using h)
   rw [←len_next (r:=r) (by rw [h];exact hb)]at ih
   subst h
   refine Evt.ctrue mid_lt (Evt.ctrue mid_ge (Evt.ctrue mid_lt ?_))
   rw [mid_get]
   refine Evt.bind (reckoner_sum_ev hs he) ?_
   rw [fsum_step]
   exact ih
 have h0:=key xs [] b (0,0) x hx rfl
 simp only [List.length_nil]at h0
 refine Evt.ctrue (by simp <;> omega) (Evt.ctrue (by simp <;> omega) ?_)
 have e1:((x::xs).take (Int.toNat ((x::xs).length:Int))).drop 1=xs:=by simp
 rw [e1]
 exact Evt.inr (Evt.diag h0) .pure

theorem sumD_abs{x:Int×Int}(h:gd x):sumD (0,0) (absD x)=(absD x,true):=sumD_zero (absD_gd h)

theorem greater_abs_ev{x:Int×Int}(h:gd x):Evt (fun k _=>impl_greater k x (-x.1,x.2)) (absD x):=by
 refine Evt.eq (f:=fun k q=>_) ?_ (fun k q=>by rw [impl_greater])
 refine Evt.bind (compareD_ev (gd_neg h) h) (.const ?_)
 rw [sv_neg]
 have:=sv_pos (a:=(-x.1,x.2))
 rw [sv_neg]at this
 simp only at this
 unfold cmpI absD
 by_cases h1:x.1<0
 ·have h2:=this.2 (by omega)
  rw [if_neg (by omega),if_pos (by omega)]
  simp only [gt_iff_lt,Int.zero_lt_one,decide_true,cond_true]
  congr 2;omega
 ·have h2 : ¬ (0 < -sv x):=fun hh=>h1 (by have:=this.1 hh;omega)
  have hc : ¬ ((if -sv x<sv x then(-1:Int)else if sv x < -sv x then 1 else 0)>0):=by
   split
   ·omega
   ·rw [if_neg (by omega)];omega
  rw [decide_eq_false hc]
  simp only [cond_false]
  congr 1
  exact Prod.ext (by simp;omega) rfl

def orow(row:List (Int×Int)):Option (Int×Int):=osum (0,0) (row.map absD)
def rsV(m:List (List (Int×Int))):List (Int×Int)×Bool:=if (tab gd m&&m.all fun r=>(orow r).isSome)then(m.map fun r=>(orow r).getD (0,0),true)else([],false)

theorem tab_gd{m:List (List (Int×Int))}(h:tab gd m=true):∀r∈m,(r.length=m.length∧1≤m.length∧m.length≤3)∧∀x∈r,gd x:=by
 unfold tab at h
 simp only [Bool.and_eq_true,List.all_eq_true,decide_eq_true_eq]at h
 intro r hr
 exact⟨⟨(h.2 r hr).1,h.1⟩,(h.2 r hr).2⟩

theorem spec_rowSums_ev{m:List (List (Int×Int))}(hb:m.length<274877906944)(hm:∀r∈m,r.length<lenB):Evt (fun k _=>spec_RowSums k m) (rsV m):=by
 refine Evt.eq (f:=fun k q=>_) ?_ (fun k q=>by rw [spec_RowSums])
 refine Evt.bind (mxGood_ev hb hm) ?_
 cases ht:tab gd m with
 | false =>
  refine Evt.ctrue rfl ?_
  unfold rsV
  rw [ht]
  exact .pure
 | true =>
 refine Evt.cfalse rfl ?_
 have hg:=tab_gd ht
 have inner:∀(x4:List (Int×Int)) (x15:List (List (Int×Int))) (x16 x17:Int) (xs:List (Int×Int)),xs.length<lenB→(∀x∈xs,gd x)→∀(r d:List (Int×Int)) (s:Int×Int),gd s→d++r=xs →
   Evt (fun k n=>spec_RowSums_L125338 k n x4 s x15 x16 x17 xs (xs.length:Int) d.length) (match osum s (r.map absD)with | some t => .inr (x4,t,x15,x16,x17,()) | none => .inl ([],false)):=by
  intro x4 x15 x16 x17 xs hb hxs r
  induction r with
  | nil =>
   intro d s hs h
   refine Evt.step (fun k n=>spec_RowSums_L125338.eq_2 k _ _ _ _ _ _ _ _ n) ?_
   rw [List.append_nil]at h
   subst h
   exact Evt.rng0 .pure
  | cons e r ih =>
   intro d s hs h
   refine Evt.step (fun k n=>spec_RowSums_L125338.eq_2 k _ _ _ _ _ _ _ _ n) ?_
   have he:gd e:=hxs e (by rw [←h];simp)
   have ih:=ih (d ++ [e]) (sumD s (absD e)).1 (sumD_gd _ _) (by simpa using h)
   rw [←len_next (r:=r) (by rw [h];exact hb)]at ih
   subst h
   refine Evt.ctrue mid_lt (Evt.ctrue mid_ge (Evt.ctrue mid_lt ?_))
   rw [mid_get]
   refine Evt.bind (.const (mxAbs_eq he)) (Evt.bind (dyAdd_ev hs (absD_gd he)) ?_)
   rw [List.map_cons,osum]
   cases hh:(sumD s (absD e)).2 with
   | true=>exact Evt.cfalse rfl ih
   | false=>exact Evt.ctrue rfl .pure
 have key:∀(r d:List (List (Int×Int))),d++r=m→Evt (fun k n=>spec_RowSums_L122 k n (d.map fun r=>(orow r).getD (0,0)) m (m.length:Int) d.length) (if (r.all fun r=>(orow r).isSome)then .inr (m.map fun r=>(orow r).getD (0,0),())else .inl ([],false)):=by
  intro r
  induction r with
  | nil =>
   intro d h
   refine Evt.step (fun k n=>spec_RowSums_L122.eq_2 k _ _ _ _ n) ?_
   rw [List.append_nil]at h
   subst h
   exact Evt.rng0 .pure
  | cons e r ih =>
   intro d h
   refine Evt.step (fun k n=>spec_RowSums_L122.eq_2 k _ _ _ _ n) ?_
   have hme:e∈m:=by rw [←h];simp
   have ih:=ih (d ++ [e]) (by simpa using h)
   rw [←len_next (r:=r) (by rw [h];simp only [lenB];omega)]at ih
   have hl:=congrArg List.length h
   simp at hl
   have hi:=inner (d.map fun r=>(orow r).getD (0,0)) (d++e::r) ((d++e::r).length:Int) (d.length:Int) e (hm e hme) (hg e hme).2 e [] (0,0) (by decide) rfl
   simp only [List.length_nil]at hi
   subst h
   refine Evt.ctrue mid_lt (Evt.ctrue mid_ge (Evt.ctrue mid_lt ?_))
   rw [mid_get]
   change Evt _ (if ((orow e).isSome&&r.all fun r=>(orow r).isSome)then _ else _)
   cases ho:orow e with
   | none =>
    rw [show osum (0,0) (e.map absD)=none from ho]at hi
    exact Evt.inl (Evt.diag hi) .pure
   | some t =>
    rw [show osum (0,0) (e.map absD)=some t from ho]at hi
    refine Evt.inr (Evt.diag hi) (Evt.ctrue (by simp;omega) ?_)
    simp only [Option.isSome_some,Bool.true_and]
    rw [List.map_append,List.map_cons,ho]at ih
    exact ih
 have h0:=key m [] rfl
 simp only [List.length_nil,List.map_nil]at h0
 unfold rsV
 rw [ht,Bool.true_and]
 cases hall:m.all fun r=>(orow r).isSome with
 | true=>rw [hall]at h0;exact Evt.inr (Evt.diag h0) .pure
 | false=>rw [hall]at h0;exact Evt.inl (Evt.diag h0) .pure

theorem impl_rowSums_ev{m:List (List (Int×Int))}(hb:m.length<lenB)(hm:∀r∈m,r.length<lenB):Evt (fun k _=>impl_RowSums k m) (rsV m):=by
 refine Evt.eq (f:=fun k q=>_) ?_ (fun k q=>by rw [impl_RowSums])
 refine Evt.bind (isTable_ev hb hm) ?_
 cases ht:tab gd m with
 | false =>
  refine Evt.ctrue rfl ?_
  unfold rsV
  rw [ht]
  exact .pure
 | true =>
 refine Evt.cfalse rfl ?_
 have hg:=tab_gd ht
 have inner:∀(x4:Bool) (x5:List (Int×Int)) (x16:List (List (Int×Int))) (x17 x18:Int) (xs:List (Int×Int)),xs.length≤3→(∀x∈xs,gd x)→∀(r d:List (Int×Int)),d++r=xs →
   Evt (fun k n=>impl_RowSums_L256410 k n x4 x5 (d.map absD) x16 x17 x18 xs (xs.length:Int) d.length) (.inr (x4,x5,xs.map absD,x16,x17,x18,())):=by
  intro x4 x5 x16 x17 x18 xs hb hxs r
  induction r with
  | nil =>
   intro d h
   refine Evt.step (fun k n=>impl_RowSums_L256410.eq_2 k _ _ _ _ _ _ _ _ _ n) ?_
   rw [List.append_nil]at h
   subst h
   exact Evt.rng0 .pure
  | cons e r ih =>
   intro d h
   refine Evt.step (fun k n=>impl_RowSums_L256410.eq_2 k _ _ _ _ _ _ _ _ _ n) ?_
   have he:gd e:=hxs e (by rw [←h];simp)
   have ih:=ih (d ++ [e]) (by simpa using h)
   rw [←len_next (r:=r) (by rw [h];simp only [lenB];omega)]at ih
   have hl:=congrArg List.length h
   simp at hl
   subst h
   refine Evt.ctrue mid_lt (Evt.ctrue mid_ge (Evt.ctrue mid_lt ?_))
   rw [mid_get]
   refine Evt.bind (.const (minus_eq he)) (Evt.bind (greater_abs_ev he) (Evt.ctrue (by simp;omega) ?_))
   rw [List.map_append]at ih
   exact ih
 have key:∀(r d:List (List (Int×Int))) (b:Bool) (o:List (Int×Int)),d++r=m→b=(d.all fun r=>(orow r).isSome)→o.length=d.length→(b=true→o=d.map fun r=>(orow r).getD (0,0)) →
   ∃o',((m.all fun r=>(orow r).isSome)=true→o'=m.map fun r=>(orow r).getD (0,0))∧Evt (fun k n=>impl_RowSums_L250 k n b o m (m.length:Int) d.length) (.inr (m.all fun r=>(orow r).isSome,o',())):=by
  intro r
  induction r with
  | nil =>
   intro d b o h hbd hod ho
   rw [List.append_nil]at h
   subst h
   refine⟨o,fun hh=>ho (by rw [hbd,hh]),?_⟩
   refine Evt.step (fun k n=>impl_RowSums_L250.eq_2 k _ _ _ _ _ n) ?_
   rw [←hbd]
   exact Evt.rng0 .pure
  | cons e r ih =>
   intro d b o h hbd hod ho
   have hme:e∈m:=by rw [←h];simp
   have hge:=hg e hme
   obtain⟨x,xs,rfl⟩:∃x xs,e=x::xs:=by
    cases e with
    | nil=>have:=hge.1;simp at this;omega
    | cons x xs=>exact⟨x,xs,rfl⟩
   have hxg:gd x:=hge.2 x (by simp)
   have hfs:orow (x::xs)=osum (absD x) (xs.map absD):=by
    unfold orow
    rw [List.map_cons,osum,sumD_abs hxg]
    rfl
   have hb2:(fsum b (absD x) (xs.map absD)).2=((d ++ [x::xs]).all fun r=>(orow r).isSome):=by
    rw [List.all_append,←hbd]
    simp only [List.all_cons,List.all_nil,Bool.and_true,hfs]
    cases b with
    | false=>rw [fsum_false];rfl
    | true=>rw [fsum_true];cases osum (absD x) (xs.map absD) <;> rfl
   obtain⟨o',h1,h2⟩:=ih (d ++ [x::xs]) (fsum b (absD x) (xs.map absD)).2 (o ++ [(fsum b (absD x) (xs.map absD)).1]) (by simpa using h) hb2 (by simp [hod]) (by
    intro hh
    cases b with
    | false=>rw [fsum_false]at hh;cases hh
    | true =>
     rw [List.map_append,←ho rfl]
     simp only [List.map_cons,List.map_nil,hfs]
     rw [fsum_true]at hh ⊢
     cases hos:osum (absD x) (xs.map absD)with
     | none=>rw [hos]at hh;cases hh
     | some t=>rfl)
   refine⟨o',h1,Evt.step (fun k n=>impl_RowSums_L250.eq_2 k _ _ _ _ _ n) ?_⟩
   have hi:=inner b o m (m.length:Int) (d.length:Int) (x::xs) (by have:=hge.1;omega) hge.2 (x::xs) [] rfl
   simp only [List.length_nil,List.map_nil]at hi
   rw [←len_next (r:=r) (by rw [h];exact hb)]at h2
   have hl:=congrArg List.length h
   simp at hl
   generalize hres:(Sum.inr ((m.all fun r=>(orow r).isSome),o',()):((List (Int×Int))×Bool) ⊕ (Bool×(List (Int×Int))×Unit))=res at h2 ⊢
   subst h
   refine Evt.ctrue mid_lt (Evt.ctrue mid_ge (Evt.ctrue mid_lt ?_))
   rw [mid_get]
   refine Evt.inr (Evt.diag hi) (Evt.bind (total_ev (absD_gd hxg) (by
    intro y hy
    obtain⟨z,hz,rfl⟩:=List.mem_map.1 hy
    exact absD_gd (hge.2 z (by simp [hz]))) (by have:=hge.1;simp only [List.length_cons]at this;simp only [List.length_map,lenB];omega)) (Evt.ctrue (by have:=hge.1;simp;omega) h2))
 obtain⟨o',h1,h2⟩:=key m [] true [] rfl rfl rfl (fun _=>rfl)
 simp only [List.length_nil]at h2
 refine Evt.inr (Evt.diag h2) ?_
 unfold rsV
 rw [ht,Bool.true_and]
 cases hall:m.all fun r=>(orow r).isSome with
 | true=>rw [h1 hall];exact Evt.cfalse rfl .pure
 | false=>exact Evt.ctrue rfl .pure
end Go.Ev.G

namespace Go.Ev.G
open Go Go.Ev
set_option maxRecDepth 100000

theorem rsV_len{m:List (List (Int×Int))}(h:m.length≤1000000):(rsV m).1.length≤1000000:=by
 unfold rsV
 split
 ·simp;exact h
 ·simp

end Go.Ev.G

namespace Go.Ev.G
open Go Go.Ev
set_option maxRecDepth 100000

def ivGd(x:(Int×Int)×Int×Int):Prop:=gd x.1∧gd x.2∧sv x.1≤sv x.2
instance:DecidablePred ivGd:=fun x=>by unfold ivGd;exact inferInstance
end Go.Ev.G

namespace Go.Ev.G
open Go Go.Ev
set_option maxRecDepth 100000

theorem tab_all{α:Type}{g:α→Prop}[DecidablePred g]{m:List (List α)}(h:tab g m=true):∀r∈m,(r.length=m.length∧1≤m.length∧m.length≤3)∧∀x∈r,g x:=by
 unfold tab at h
 simp only [Bool.and_eq_true,List.all_eq_true,decide_eq_true_eq]at h
 intro r hr
 exact⟨⟨(h.2 r hr).1,h.1⟩,(h.2 r hr).2⟩

end Go.Ev.G

namespace Go.Ev.G
open Go Go.Ev
set_option maxRecDepth 100000

theorem two_lt{α β:Type}{d r:List α}{d' r':List β}{e':β}(h:d.length=d'.length):decide ((d.length:Int)<((d'++e'::r').length:Int))=true:=by simp;omega
theorem two_get{α β:Type}{d:List α}{d' r':List β}{e' z:β}(h:d.length=d'.length):(d'++e'::r').getD (Int.toNat (d.length:Int)) z=e':=by rw [h];exact mid_get

end Go.Ev.G

namespace Go.Ev.G
open Go Go.Ev
set_option maxRecDepth 100000

def B32:Nat:=4294967296
theorem andw32{a:Nat}(ha:a<B64):(BitVec.toNat (BitVec.ofInt (IntKind.bits .u64) (a:Int) &&& BitVec.ofInt (IntKind.bits .u64) 4294967295):Int)=((a % B32:Nat):Int):=by
 have h1:BitVec.ofInt (IntKind.bits .u64) (a:Int)=BitVec.ofNat 64 a:=by rfl
 have h2:BitVec.ofInt (IntKind.bits .u64) 4294967295=BitVec.ofNat 64 4294967295:=by rfl
 rw [h1,h2]
 have:(BitVec.toNat (BitVec.ofNat 64 a &&& BitVec.ofNat 64 4294967295))=a % B32:=by
  rw [BitVec.toNat_and,BitVec.toNat_ofNat,BitVec.toNat_ofNat]
  have e1:a % 2 ^ 64=a:=Nat.mod_eq_of_lt (by simpa [B64] using ha)
  rw [e1]
  have e2:4294967295 % 2 ^ 64=2 ^ 32 - 1:=by decide
  rw [e2,Nat.and_two_pow_sub_one_eq_mod]
  rfl
 exact congrArg _ this
theorem fdiv32(a:Nat):Int.fdiv (a:Int) (2 ^ min (Int.toNat 32) (IntKind.bits .u64))=((a / B32:Nat):Int):=by
 have:min (Int.toNat 32) (IntKind.bits .u64)=32:=by decide
 rw [this,fdiv_pow]
 rfl

theorem mul64_eq{a b:Nat}(ha:a≤1099511627776)(hb:b≤1099511627776):math_bits_Mul64 a b=some (((a*b / B64:Nat):Int),((a*b % B64:Nat):Int)):=by
 have la:a<B64:=by simp only [B64];omega
 have lb:b<B64:=by simp only [B64];omega
 unfold math_bits_Mul64
 rw [andw32 la,andw32 lb,fdiv32,fdiv32]
 obtain⟨x1,x0,ea,hx0⟩:∃x1 x0,a=B32*x1+x0∧x0<B32:=⟨a / B32,a % B32,(Nat.div_add_mod a B32).symm,Nat.mod_lt _ (by decide)⟩
 obtain⟨y1,y0,eb,hy0⟩:∃y1 y0,b=B32*y1+y0∧y0<B32:=⟨b / B32,b % B32,(Nat.div_add_mod b B32).symm,Nat.mod_lt _ (by decide)⟩
 have da:a / B32=x1:=by rw [ea,Nat.mul_add_div (by decide),Nat.div_eq_of_lt hx0];rfl
 have ma:a % B32=x0:=by rw [ea,Nat.mul_add_mod,Nat.mod_eq_of_lt hx0]
 have db:b / B32=y1:=by rw [eb,Nat.mul_add_div (by decide),Nat.div_eq_of_lt hy0];rfl
 have mb:b % B32=y0:=by rw [eb,Nat.mul_add_mod,Nat.mod_eq_of_lt hy0]
 rw [da,ma,db,mb]
 have lx1:x1≤256:=by simp only [B32]at ea hx0;omega
 have ly1:y1≤256:=by simp only [B32]at eb hy0;omega
 have p00:x0*y0≤4294967295*4294967295:=Nat.mul_le_mul (by simp only [B32]at hx0;omega) (by simp only [B32]at hy0;omega)
 have p01:x0*y1≤4294967295*256:=Nat.mul_le_mul (by simp only [B32]at hx0;omega) ly1
 have p10:x1*y0≤256*4294967295:=Nat.mul_le_mul lx1 (by simp only [B32]at hy0;omega)
 have p11:x1*y1≤256*256:=Nat.mul_le_mul lx1 ly1
 have full:a*b=B64*(x1*y1)+B32*(x0*y1+x1*y0)+x0*y0:=by
  rw [ea,eb,show B64=B32*B32 from rfl]
  simp only [Nat.mul_add,Nat.add_mul]
  have e1:B32*x1*(B32*y1)=B32*B32*(x1*y1):=by ac_rfl
  have e2:x0*(B32*y1)=B32*(x0*y1):=by ac_rfl
  have e3:B32*x1*y0=B32*(x1*y0):=by ac_rfl
  rw [e1,e2,e3];omega
 have w:∀n:Nat,n<B64→IntKind.wrap .u64 (n:Int)=(n:Int):=fun n h=>wu64 (by omega) (by simp only [B64]at h;omega)
 have m1:∀x y:Nat,((x:Int)*(y:Int))=((x*y:Nat):Int):=fun x y=>(Int.natCast_mul x y).symm
 have m2:∀x y:Nat,((x:Int)+(y:Int))=((x+y:Nat):Int):=fun x y=>(Int.natCast_add x y).symm
 rw [w x0 (by simp only [B64,B32]at hx0 ⊢; omega),w y0 (by simp only [B64,B32]at hy0 ⊢; omega)]
 simp only [m1]
 rw [w (x0*y0) (by simp only [B64];omega),w (x1*y0) (by simp only [B64];omega),w (x1*y1) (by simp only [B64];omega),w (x0*y1) (by simp only [B64];omega)]
 rw [fdiv32]
 simp only [m2]
 have c0:x0*y0 / B32≤4294967295:=by simp only [B32];omega
 rw [w (x1*y0+x0*y0 / B32) (by simp only [B64];omega)]
 rw [andw32 (by simp only [B64];omega),fdiv32]
 rw [w ((x1*y0+x0*y0 / B32) % B32) (by simp only [B64,B32];omega)]
 simp only [m2]
 rw [w ((x1*y0+x0*y0 / B32) % B32+x0*y1) (by simp only [B64,B32];omega),fdiv32]
 rw [w (x1*y1+(x1*y0+x0*y0 / B32) / B32) (by simp only [B64,B32];omega)]
 simp only [m2]
 rw [w _ (by simp only [B64,B32];omega),wu64_mod]
 congr 2
 ·congr 1
  rw [full]
  simp only [B64,B32]
  omega
end Go.Ev.G

namespace Go.Ev.G
open Go Go.Ev
set_option maxRecDepth 100000

def prodD(a b:Int×Int):(Int×Int)×Bool:=mkD (a.1*b.1) (a.2.toNat+b.2.toNat)
theorem prodD_gd(a b:Int×Int):gd (prodD a b).1:=mkD_gd _ _

theorem wV_mul(a b:Int):wV (!(decide (a<0)==decide (b<0))) (a.natAbs*b.natAbs)=a*b:=by
 unfold wV
 by_cases ha:a<0 <;> by_cases hb:b<0
 ·simp only [decide_eq_true ha,decide_eq_true hb]
  rw [if_neg (by simp),Int.natCast_mul,show(a.natAbs:Int) = -a by omega,show(b.natAbs:Int) = -b by omega,Int.neg_mul_neg]
 ·simp only [decide_eq_true ha,decide_eq_false hb]
  rw [if_pos (by simp),Int.natCast_mul,show(a.natAbs:Int) = -a by omega,show(b.natAbs:Int)=b by omega,Int.neg_mul,Int.neg_neg]
 ·simp only [decide_eq_false ha,decide_eq_true hb]
  rw [if_pos (by simp),Int.natCast_mul,show(a.natAbs:Int)=a by omega,show(b.natAbs:Int) = -b by omega,Int.mul_neg,Int.neg_neg]
 ·simp only [decide_eq_false ha,decide_eq_false hb]
  rw [if_neg (by simp),Int.natCast_mul,show(a.natAbs:Int)=a by omega,show(b.natAbs:Int)=b by omega]

theorem natAbs_bound{a:Int}(h1 : -1099511627776≤a)(h2:a≤1099511627776):a.natAbs≤1099511627776:=by omega
theorem mul_bound{a b:Nat}(ha:a≤1099511627776)(hb:b≤1099511627776):a*b<B64*B64:=by
 have:a*b≤1099511627776*1099511627776:=Nat.mul_le_mul ha hb
 simp only [B64];omega

theorem productOf_ev{a b:Int×Int}(ha:gd a)(hb:gd b):Evt (fun k _=>impl_productOf k a b) (prodD a b):=by
 refine Evt.eq (f:=fun k q=>_) ?_ (fun k q=>by rw [impl_productOf])
 have a1:=ha.2.2
 have b1:=hb.2.2
 have na:=natAbs_bound a1.1 a1.2.1
 have nb:=natAbs_bound b1.1 b1.2.1
 have htw:impl_timesWide a.1 b.1=some (wN (!(decide (a.1<0)==decide (b.1<0))) (a.1.natAbs*b.1.natAbs)):=by
  unfold impl_timesWide
  rw [size_eq (by omega) (by omega),Option.bind_some,size_eq (by omega) (by omega),Option.bind_some,mul64_eq na nb]
  rfl
 refine Evt.bind (.const htw) ?_
 have e:IntKind.wrap .i64 (a.2+b.2)=((a.2.toNat+b.2.toNat:Nat):Int):=by
  have:=ha.1;have:=ha.2.1;have:=hb.1;have:=hb.2.1
  rw [w64 (by omega) (by omega)];omega
 rw [e]
 have hf:=fit_ev (neg := !(decide (a.1<0)==decide (b.1<0))) (M:=a.1.natAbs*b.1.natAbs) (m:=a.2.toNat+b.2.toNat) (mul_bound na nb) (by have:=ha.2.1;have:=hb.2.1;omega)
 rw [wV_mul]at hf
 exact Evt.bind hf .pure

theorem reckoner_product_ev{b:Bool}{s x:Int×Int}(hs:gd s)(hx:gd x):Evt (fun k _=>impl_reckoner_product k b s x) (if b then prodD s x else((0,0),false)):=by
 refine Evt.eq (f:=fun k q=>_) ?_ (fun k q=>by rw [impl_reckoner_product])
 refine Evt.bind (productOf_ev hs hx) (.const ?_)
 unfold impl_reckoner_keep
 cases b with
 | true =>
  cases h:(prodD s x).2 with
  | true=>simp [h,Prod.ext_iff]
  | false =>
   have h3:prodD s x=((0,0),false):=Prod.ext (mkD_false h) h
   rw [h3];simp
 | false=>rfl

theorem mkD_strip_left:∀(p:Nat) (x y:Int),mkD (x*y) p=mkD ((strip p x).1*y) (strip p x).2
 | 0,_,_=>rfl
 | p+1,x,y=>by
  unfold strip
  split
  ·rename_i h
   rw [←mkD_strip_left p (x / 2) y]
   have e:x*y=2*(x / 2*y):=by rw [←Int.mul_assoc,Int.mul_comm 2,Int.ediv_mul_cancel (Int.dvd_of_emod_eq_zero h)]
   unfold mkD
   have e2:strip (p+1) (x*y)=strip p (x / 2*y):=by
    rw [e]
    conv=>lhs;unfold strip
    rw [if_pos (by omega)]
    congr 1
    omega
   rw [e2]
  ·rfl

theorem dyMul_loop1{b z:Int×Int}:∀(m:Nat) (n j:Int),-9223372036854775808<n→n<9223372036854775808→m<9223372036854775808 →
  Evt (fun k q=>spec_dyMul_L60 k q (n,j) b z (m:Int)) (.inr (((strip m n).1,j),b,z,((strip m n).2:Int),()))
 | 0,n,j,h1,h2,hm=>Evt.step (fun k q=>spec_dyMul_L60.eq_2 k _ _ _ _ q) (Evt.cfalse (by simp) .pure)
 | m+1,n,j,h1,h2,hm=>by
  refine Evt.step (fun k q=>spec_dyMul_L60.eq_2 k _ _ _ _ q) (Evt.ctrue (decide_eq_true (by omega)) ?_)
  unfold strip
  by_cases h:n % 2=0
  ·refine Evt.ctrue (by simpa using (tmod2 n).2 h) ?_
   rw [if_pos h]
   simp only
   rw [tdiv2 h,w64 (n:=n / 2) (by omega) (by omega),show IntKind.wrap .i64 (((m+1:Nat):Int) - 1)=(m:Int)by rw [w64 (by omega) (by omega)];omega]
   exact dyMul_loop1 m (n / 2) j (by omega) (by omega) (by omega)
  ·rw [if_neg h]
   exact Evt.cfalse (by simpa using fun hh=>h ((tmod2 n).1 hh)) .pure

theorem dyMul_loop2{a z:Int×Int}:∀(m:Nat) (n j:Int),-9223372036854775808<n→n<9223372036854775808→m<9223372036854775808 →
  Evt (fun k q=>spec_dyMul_L124 k q a (n,j) z (m:Int)) (.inr (a,((strip m n).1,j),z,((strip m n).2:Int),()))
 | 0,n,j,h1,h2,hm=>Evt.step (fun k q=>spec_dyMul_L124.eq_2 k _ _ _ _ q) (Evt.cfalse (by simp) .pure)
 | m+1,n,j,h1,h2,hm=>by
  refine Evt.step (fun k q=>spec_dyMul_L124.eq_2 k _ _ _ _ q) (Evt.ctrue (decide_eq_true (by omega)) ?_)
  unfold strip
  by_cases h:n % 2=0
  ·refine Evt.ctrue (by simpa using (tmod2 n).2 h) ?_
   rw [if_pos h]
   simp only
   rw [tdiv2 h,w64 (n:=n / 2) (by omega) (by omega),show IntKind.wrap .i64 (((m+1:Nat):Int) - 1)=(m:Int)by rw [w64 (by omega) (by omega)];omega]
   exact dyMul_loop2 m (n / 2) j (by omega) (by omega) (by omega)
  ·rw [if_neg h]
   exact Evt.cfalse (by simpa using fun hh=>h ((tmod2 n).1 hh)) .pure

theorem abs_eq{n:Int}(h1 : -9223372036854775808<n)(h2:n<9223372036854775808):spec_l1Abs n=some (n.natAbs:Int):=by
 unfold spec_l1Abs
 rw [most_eq,w64 (by omega) (by omega)]
 simp only [Option.bind_some]
 congr 1
 omega

theorem strip_abs_le(m:Nat)(n:Int):(strip m n).1.natAbs≤n.natAbs:=by
 by_cases h:0≤n
 ·have:=strip_bound m n h
  omega
 ·have h1:=strip_bound m (-n) (by omega)
  rw [strip_neg]at h1
  simp only at h1
  omega

theorem odd_mul{x y:Int}(hx:x % 2≠0)(hy:y % 2≠0):(x*y) % 2≠0:=by
 have hx':x % 2=1:=by omega
 have hy':y % 2=1:=by omega
 rw [Int.mul_emod,hx',hy']
 decide

theorem dyMul_ev{a b:Int×Int}(ha:gd a)(hb:gd b):Evt (fun k _=>spec_dyMul k a b) (prodD a b):=by
 refine Evt.eq (f:=fun k q=>_) ?_ (fun k q=>by rw [spec_dyMul])
 have a1:=ha.2.2
 have b1:=hb.2.2
 unfold prodD
 by_cases ha0:a.1=0
 ·refine Evt.ctrue (by simp [ha0]) ?_
  rw [ha0,Int.zero_mul,mkD_zero]
  exact .pure
 refine Evt.cfalse (by simpa using ha0) ?_
 by_cases hb0:b.1=0
 ·refine Evt.ctrue (by simp [hb0]) ?_
  rw [hb0,Int.mul_zero,mkD_zero]
  exact .pure
 refine Evt.cfalse (by simpa using hb0) ?_
 have e:IntKind.wrap .i64 (a.2+b.2)=((a.2.toNat+b.2.toNat:Nat):Int):=by
  have:=ha.1;have:=ha.2.1;have:=hb.1;have:=hb.2.1
  rw [w64 (by omega) (by omega)];omega
 rw [e]
 have hp:a.2.toNat+b.2.toNat≤48:=by have:=ha.2.1;have:=hb.2.1;omega
 generalize a.2.toNat+b.2.toNat=p at hp ⊢
 have l1:=dyMul_loop1 (b:=b) (z:=(0,0)) p a.1 a.2 (by omega) (by omega) (by omega)
 rw [show((a.1,a.2):Int×Int)=a from rfl]at l1
 refine Evt.inr (Evt.diag l1) ?_
 have l2:=dyMul_loop2 (a:=((strip p a.1).1,a.2)) (z:=(0,0)) (strip p a.1).2 b.1 b.2 (by omega) (by omega) (by have:=strip_le p a.1;omega)
 rw [show((b.1,b.2):Int×Int)=b from rfl]at l2
 refine Evt.inr (Evt.diag l2) ?_
 simp only
 rw [mkD_strip_left p a.1 b.1,Int.mul_comm (strip p a.1).1 b.1,mkD_strip_left (strip p a.1).2 b.1]
 have fa:=strip_form p a.1
 have fb:=strip_form (strip p a.1).2 b.1
 have na:=strip_ne p a.1 ha0
 have nb:=strip_ne (strip p a.1).2 b.1 hb0
 have la:=strip_abs_le p a.1
 have lb:=strip_abs_le (strip p a.1).2 b.1
 have lp:=strip_le p a.1
 have lp2:=strip_le (strip p a.1).2 b.1
 generalize (strip p a.1).1=x at fa na la ⊢
 generalize (strip p a.1).2=q at fa fb nb lb lp lp2 ⊢
 generalize (strip q b.1).1=y at fb nb lb ⊢
 generalize (strip q b.1).2=r at fb lp2 ⊢
 rw [Int.mul_comm y x]
 refine Evt.bind (.const (abs_eq (by omega) (by omega))) (Evt.bind (.const (abs_eq (by omega) (by omega))) (Evt.cfalse (by simp;omega) ?_))
 have hM:IntKind.wrap .i64 (Int.tdiv 1099511627776 (y.natAbs:Int))=((1099511627776 / y.natAbs:Nat):Int):=by
  have:Int.tdiv 1099511627776 (y.natAbs:Int)=((1099511627776 / y.natAbs:Nat):Int):=rfl
  rw [this]
  have hq:1099511627776 / y.natAbs≤1099511627776:=Nat.div_le_self _ _
  generalize 1099511627776 / y.natAbs=qq at hq ⊢
  rw [w64 (by omega) (by omega)]
 rw [hM]
 have habs:(x*y).natAbs=x.natAbs*y.natAbs:=Int.natAbs_mul x y
 have hy0:0<y.natAbs:=by omega
 by_cases hbig:x.natAbs>1099511627776 / y.natAbs
 ·refine Evt.ctrue (decide_eq_true (by omega)) ?_
  have:1099511627776<x.natAbs*y.natAbs:=(Nat.div_lt_iff_lt_mul hy0).1 hbig
  have hodd:r=0∨(x*y) % 2≠0:=by
   rcases fb with h | h
   ·exact .inl h
   ·rcases fa with h2 | h2
    ·exact .inl (by omega)
    ·exact .inr (odd_mul h2 h)
  have:mkD (x*y) r=((0,0),false):=by
   rcases hodd with rfl | h
   ·unfold mkD strip
    rw [if_neg (by simp only;omega)]
   ·exact mkD_odd h (by omega)
  rw [this]
  exact .pure
 ·refine Evt.cfalse (decide_eq_false (by omega)) ?_
  have hle:x.natAbs*y.natAbs≤1099511627776:=by
   have:=(Nat.le_div_iff_mul_le hy0).1 (Nat.le_of_not_gt hbig)
   exact this
  rw [w64 (n:=x*y) (by omega) (by omega)]
  exact Evt.bind (dyMake_ev (by omega) (by omega) (by omega)) .pure
end Go.Ev.G

namespace Go.Ev.G
open Go Go.Ev
set_option maxRecDepth 100000

section
variable {α β : Type}
def Flag(g:α→Option β)(z:β)(b0:Bool)(d:List α)(b:Bool)(o:List β):Prop :=
 o.length=d.length∧b=(b0&&d.all fun x=>(g x).isSome)∧(b=true→o=d.map fun x=>(g x).getD z)
theorem Flag.nil{g:α→Option β}{z:β}{b0:Bool}:Flag g z b0 [] b0 []:=⟨rfl,by simp,fun _=>rfl⟩
theorem Flag.step{g:α→Option β}{z:β}{b0 b:Bool}{d:List α}{o:List β}{e:α}{v:β}(h:Flag g z b0 d b o)(hv:b=true→(g e).isSome=true→g e=some v):Flag g z b0 (d ++ [e]) (b&&(g e).isSome) (o ++ [v]):=by
 obtain⟨h1,h2,h3⟩:=h
 refine⟨by simp [h1],?_,?_⟩
 ·rw [h2,List.all_append]
  simp only [List.all_cons,List.all_nil,Bool.and_true,Bool.and_assoc]
 ·intro hh
  rw [Bool.and_eq_true]at hh
  rw [List.map_append,h3 hh.1]
  simp only [List.map_cons,List.map_nil,hv hh.1 hh.2,Option.getD_some]
end

abbrev Pt:=List (Int×Int)
def prO(p:(Int×Int)×(Int×Int)):Option (Int×Int):=if (prodD p.1 p.2).2 then some (prodD p.1 p.2).1 else none
def inn(xs ys:Pt):Option (Int×Int):=if ((xs.zip ys).all fun p=>(prO p).isSome)then osum (0,0) ((xs.zip ys).map fun p=>(prO p).getD (0,0))else none

theorem mxSum_ev{xs ys:Pt}(hb:xs.length<lenB)(hl:xs.length=ys.length)(hx:∀x∈xs,gd x)(hy:∀y∈ys,gd y):Evt (fun k _=>spec_mxSum k xs ys) (match inn xs ys with | some t=>(t,true) | none=>((0,0),false)):=by
 refine Evt.eq (f:=fun k q=>_) ?_ (fun k q=>by rw [spec_mxSum])
 have key:∀(r r' d d':Pt) (s:Int×Int),d++r=xs→d'++r'=ys→d.length=d'.length→r.length=r'.length→gd s →
   Evt (fun k n=>spec_mxSum_L58 k n ys (0,0) s xs (xs.length:Int) d.length) (match (if ((r.zip r').all fun p=>(prO p).isSome)then osum s ((r.zip r').map fun p=>(prO p).getD (0,0))else none)with | some t => .inr ((0,0),t,()) | none => .inl ((0,0),false)):=by
  intro r
  induction r with
  | nil =>
   intro r' d d' s h h' hdl hr hs
   refine Evt.step (fun k n=>spec_mxSum_L58.eq_2 k _ _ _ _ _ _ n) ?_
   rw [List.append_nil]at h
   subst h
   exact Evt.rng0 .pure
  | cons e r ih =>
   intro r' d d' s h h' hdl hr hs
   obtain⟨e',r',rfl⟩:∃x y,r'=x::y:=by cases r' with
    | nil=>simp at hr
    | cons x y=>exact⟨x,y,rfl⟩
   have ge:gd e:=hx e (by rw [←h];simp)
   have ge':gd e':=hy e' (by rw [←h'];simp)
   refine Evt.step (fun k n=>spec_mxSum_L58.eq_2 k _ _ _ _ _ _ n) ?_
   have ih:=ih r' (d ++ [e]) (d' ++ [e']) (sumD s (prodD e e').1).1 (by simpa using h) (by simpa using h') (by simp [hdl]) (by simpa using hr) (sumD_gd _ _)
   rw [←len_next (r:=r) (by rw [h];exact hb)]at ih
   subst h
   subst h'
   refine Evt.ctrue mid_lt (Evt.ctrue mid_ge (Evt.ctrue mid_lt (Evt.ctrue mid_ge (Evt.ctrue (two_lt (r:=r) hdl) ?_))))
   rw [mid_get,two_get hdl]
   refine Evt.bind (dyMul_ev ge ge') (Evt.bind (dyAdd_ev hs (prodD_gd _ _)) ?_)
   cases h1:(prodD e e').2 with
   | false =>
    have hp:prO (e,e')=none:=by unfold prO;rw [h1];rfl
    simp only [List.zip_cons_cons,List.all_cons,hp,Option.isSome_none,Bool.false_and]
    exact Evt.ctrue rfl .pure
   | true =>
    have hp:prO (e,e')=some (prodD e e').1:=by unfold prO;rw [h1];rfl
    refine Evt.cfalse rfl ?_
    simp only [List.zip_cons_cons,List.all_cons,List.map_cons,hp,Option.isSome_some,Bool.true_and,Option.getD_some,osum]
    cases h2:(sumD s (prodD e e').1).2 with
    | false =>
     refine Evt.ctrue rfl ?_
     simp only [Bool.false_eq_true,if_false,ite_self]
     exact .pure
    | true=>exact Evt.cfalse rfl ih
 have h0:=key xs ys [] [] (0,0) rfl rfl rfl hl (by decide)
 simp only [List.length_nil]at h0
 unfold inn
 generalize (if ((xs.zip ys).all fun p=>(prO p).isSome)then osum (0,0) ((xs.zip ys).map fun p=>(prO p).getD (0,0))else none)=res at h0 ⊢
 cases res with
 | some t=>exact Evt.inr (Evt.diag h0) .pure
 | none=>exact Evt.inl (Evt.diag h0) .pure

theorem inner_ev{b:Bool}{xs ys:Pt}(h1:1≤xs.length)(h3:xs.length≤3)(hl:xs.length=ys.length)(hx:∀x∈xs,gd x)(hy:∀y∈ys,gd y) :
  ∃v,(b=true→(inn xs ys).isSome=true→inn xs ys=some v)∧Evt (fun k _=>impl_reckoner_inner k b xs ys) (v,b&&(inn xs ys).isSome):=by
 have key:∀(r r' d d' o:Pt) (c:Bool),d++r=xs→d'++r'=ys→d.length=d'.length→r.length=r'.length→(∀y∈o,gd y)→Flag prO (0,0) b (d.zip d') c o →
   ∃c' o',Flag prO (0,0) b (xs.zip ys) c' o'∧(∀y∈o',gd y)∧Evt (fun k n=>impl_reckoner_inner_L58 k n c xs ys (0,0) o (xs.length:Int) d.length) (.inr (c',(0,0),o',())):=by
  intro r
  induction r with
  | nil =>
   intro r' d d' o c h h' hdl hr ho hf
   have hr':r' = []:=by cases r' with
    | nil=>rfl
    | cons x y=>simp at hr
   subst hr'
   rw [List.append_nil]at h h'
   subst h
   subst h'
   refine⟨c,o,hf,ho,Evt.step (fun k n=>impl_reckoner_inner_L58.eq_2 k _ _ _ _ _ _ _ n) ?_⟩
   exact Evt.rng0 .pure
  | cons e r ih =>
   intro r' d d' o c h h' hdl hr ho hf
   obtain⟨e',r',rfl⟩:∃x y,r'=x::y:=by cases r' with
    | nil=>simp at hr
    | cons x y=>exact⟨x,y,rfl⟩
   have ge:gd e:=hx e (by rw [←h];simp)
   have ge':gd e':=hy e' (by rw [←h'];simp)
   have hrp:=reckoner_product_ev (b:=c) ge ge'
   have hfl:Flag prO (0,0) b ((d ++ [e]).zip (d' ++ [e'])) (if c then prodD e e' else((0,0),false)).2 (o ++ [(if c then prodD e e' else((0,0),false)).1]):=by
    have hz:(d ++ [e]).zip (d' ++ [e'])=d.zip d' ++ [(e,e')]:=List.zip_append hdl
    rw [hz]
    have hst:=Flag.step (e:=(e,e')) (v:=(if c then prodD e e' else((0,0),false)).1) hf (by
     intro hc hs
     subst hc
     rw [if_pos rfl]
     unfold prO at hs ⊢
     split
     ·rfl
     ·rename_i hn;rw [if_neg hn]at hs;cases hs)
    have e2:(if c then prodD e e' else((0,0),false)).2=(c&&(prO (e,e')).isSome):=by
     cases c with
     | false=>rfl
     | true =>
      unfold prO
      simp only [if_true,Bool.true_and]
      cases (prodD e e').2 <;> rfl
    rw [e2]
    exact hst
   have hgo:gd (if c then prodD e e' else((0,0),false)).1:=by
    split
    ·exact prodD_gd _ _
    ·decide
   obtain⟨c',o',q1,q2,q3⟩:=ih r' (d ++ [e]) (d' ++ [e']) (o ++ [(if c then prodD e e' else((0,0),false)).1]) (if c then prodD e e' else((0,0),false)).2 (by simpa using h) (by simpa using h') (by simp [hdl]) (by simpa using hr) (by
    intro y hy
    rcases List.mem_append.1 hy with hy | hy
    ·exact ho y hy
    ·simp at hy;subst hy;exact hgo) hfl
   refine⟨c',o',q1,q2,Evt.step (fun k n=>impl_reckoner_inner_L58.eq_2 k _ _ _ _ _ _ _ n) ?_⟩
   rw [←len_next (r:=r) (by rw [h];simp only [lenB];omega)]at q3
   have hlen:o.length+1<274877906944:=by
    have hol:=hf.1
    have:(d.zip d').length≤d.length:=by simp;omega
    have hxl:=congrArg List.length h
    simp at hxl
    omega
   subst h
   subst h'
   refine Evt.ctrue mid_lt (Evt.ctrue mid_ge (Evt.ctrue mid_lt (Evt.ctrue mid_ge (Evt.ctrue (two_lt (r:=r) hdl) ?_))))
   rw [mid_get,two_get hdl]
   exact Evt.bind hrp (Evt.ctrue (decide_eq_true hlen) q3)
 obtain⟨c',o',⟨f1,f2,f3⟩,q2,q3⟩:=key xs ys [] [] [] b rfl rfl rfl hl (by simp) Flag.nil
 simp only [List.length_nil]at q3
 have hol:1≤o'.length∧o'.length≤3:=by rw [f1];simp;omega
 obtain⟨x,xs',rfl⟩:∃x y,o'=x::y:=by cases o' with
  | nil=>simp at hol
  | cons x y=>exact⟨x,y,rfl⟩
 have hgx:gd x:=q2 x (by simp)
 refine⟨(fsum c' x xs').1,?_,?_⟩
 ·intro hb hs
  subst hb
  unfold inn at hs ⊢
  split at hs
  ·rename_i hall
   rw [if_pos hall]at ⊢
   have hc:c'=true:=by rw [f2,hall];rfl
   subst hc
   rw [←f3 rfl]at hs ⊢
   rw [osum,sumD_zero hgx,if_pos rfl]at hs ⊢
   rw [fsum_true]
   cases ho:osum x xs' with
   | none=>rw [ho]at hs;cases hs
   | some t=>rfl
  ·cases hs
 ·refine Evt.eq (f:=fun k q=>_) ?_ (fun k q=>by rw [impl_reckoner_inner])
  have hsn:(fsum c' x xs').2=(b&&(inn xs ys).isSome):=by
   unfold inn
   cases c' with
   | false =>
    rw [fsum_false]
    cases b with
    | false=>rfl
    | true =>
     rw [Bool.true_and]at f2 ⊢
     rw [if_neg (by rw [←f2];simp)]
     rfl
   | true =>
    have hh:=f2.symm
    rw [Bool.and_eq_true]at hh
    rw [hh.1,if_pos hh.2,Bool.true_and,←f3 rfl,osum,sumD_zero hgx,if_pos rfl,fsum_true]
    cases osum x xs' <;> rfl
  refine Evt.inr (Evt.diag q3) (Evt.bind (total_ev hgx (fun y hy=>q2 y (by simp [hy])) (by simp at hol;simp only [lenB];omega)) (.const ?_))
  rw [←hsn]
end Go.Ev.G

namespace Go.Ev.G
open Go Go.Ev
set_option maxRecDepth 100000

theorem timesPoint1_eq(x:Int×Int):impl_TimesPoint_1 x=some (!decide (gd x)):=by
 unfold impl_TimesPoint_1
 rw [isDyadic_eq];rfl

theorem contains3_ev{xs:List (Int×Int)}(hb:xs.length<lenB):Evt (fun k _=>slices_ContainsFunc_Dyadic_Dyadic_impl_TimesPoint_1 k xs ()) (xs.any fun x => !decide (gd x)):=by
 refine Evt.eq (f:=fun k q=>_) ?_ (fun k q=>by rw [slices_ContainsFunc_Dyadic_Dyadic_impl_TimesPoint_1])
 have h:=index_all (d0:=(0,0)) (L:=fun k n i=>slices_IndexFunc_Dyadic_Dyadic_impl_TimesPoint_1_L26 k n xs () (xs.length:Int) i) (xs:=xs) (p:=fun _ x=>impl_TimesPoint_1 x) (P:=fun x => !decide (gd x)) (fun x _ => .const (timesPoint1_eq x)) (fun _ _ _=>rfl) hb
 rw [←findIdx?_any]
 have h2:Evt (fun k _=>slices_IndexFunc_Dyadic_Dyadic_impl_TimesPoint_1 k xs ()) (match xs.findIdx? (fun x => !decide (gd x))with | some j=>(j:Int) | none => -1):=by
  refine Evt.eq (f:=fun k q=>_) ?_ (fun k q=>by rw [slices_IndexFunc_Dyadic_Dyadic_impl_TimesPoint_1])
  cases hf:xs.findIdx? (fun x => !decide (gd x))with
  | none=>rw [hf]at h;exact Evt.inr (Evt.diag h) .pure
  | some j=>rw [hf]at h;exact Evt.inl (Evt.diag h) .pure
 refine Evt.bind h2 (.const ?_)
 cases hf:xs.findIdx? (fun x => !decide (gd x))with
 | none=>rfl
 | some j=>simp

theorem bxPoint_ev{p:Pt}{n:Nat}(hb:p.length<lenB):Evt (fun k _=>spec_bxPoint k p n) (p.all (fun x=>decide (gd x))&&decide (p.length=n)):=by
 refine Evt.eq (f:=fun k q=>_) ?_ (fun k q=>by rw [spec_bxPoint])
 have key:∀(r d:Pt),d++r=p→Evt (fun k m=>spec_bxPoint_L26 k m p n p (p.length:Int) d.length) (if (r.all fun x=>decide (gd x))then .inr (p,(n:Int),())else .inl false):=by
  intro r
  induction r with
  | nil =>
   intro d h
   refine Evt.step (fun k m=>spec_bxPoint_L26.eq_2 k _ _ _ _ _ m) ?_
   rw [List.append_nil]at h
   subst h
   exact Evt.rng0 .pure
  | cons e r ih =>
   intro d h
   refine Evt.step (fun k m=>spec_bxPoint_L26.eq_2 k _ _ _ _ _ m) ?_
   have ih:=ih (d ++ [e]) (by simpa using h)
   rw [←len_next (r:=r) (by rw [h];exact hb)]at ih
   subst h
   refine Evt.ctrue mid_lt (Evt.ctrue mid_ge (Evt.ctrue mid_lt ?_))
   rw [mid_get]
   refine Evt.bind (.const (dyGood_eq _)) ?_
   by_cases h1:gd e
   ·refine Evt.cfalse (by simp [h1]) ?_
    simp only [List.all_cons,h1,decide_true,Bool.true_and]
    exact ih
   ·refine Evt.ctrue (by simp [h1]) ?_
    simp only [List.all_cons,h1,decide_false,Bool.false_and]
    exact .pure
 have h0:=key p [] rfl
 simp only [List.length_nil]at h0
 cases hall:p.all fun x=>decide (gd x)with
 | true =>
  rw [hall]at h0
  refine Evt.inr (Evt.diag h0) (.const ?_)
  congr 1
  rw [Bool.eq_iff_iff]
  simp only [beq_iff_eq,Bool.true_and,decide_eq_true_eq]
  omega
 | false=>rw [hall]at h0;exact Evt.inl (Evt.diag h0) .pure

def tpV(m:List Pt)(p:Pt):Pt×Bool :=
 if tab gd m&&((p.all (fun x=>decide (gd x))&&decide (p.length=m.length))&&m.all fun r=>(inn r p).isSome)then(m.map fun r=>(inn r p).getD (0,0),true)else([],false)

theorem mxTimes_ev{m:List Pt}{p:Pt}(hb:m.length<274877906944)(hm:∀r∈m,r.length<lenB)(hp:p.length<lenB)(ht:tab gd m=true)(hpp:(∀x∈p,gd x)∧p.length=m.length):Evt (fun k _=>spec_mxTimes k m p) (if (m.all fun r=>(inn r p).isSome)then(m.map fun r=>(inn r p).getD (0,0),true)else([],false)):=by
 have hg:=tab_gd ht
 have key:∀(r d:List Pt),d++r=m→Evt (fun k n=>spec_mxTimes_L58 k n p (d.map fun r=>(inn r p).getD (0,0)) m (m.length:Int) d.length) (if (r.all fun r=>(inn r p).isSome)then .inr (m.map fun r=>(inn r p).getD (0,0),())else .inl ([],false)):=by
  intro r
  induction r with
  | nil =>
   intro d h
   refine Evt.step (fun k n=>spec_mxTimes_L58.eq_2 k _ _ _ _ _ n) ?_
   rw [List.append_nil]at h
   subst h
   exact Evt.rng0 .pure
  | cons e r ih =>
   intro d h
   refine Evt.step (fun k n=>spec_mxTimes_L58.eq_2 k _ _ _ _ _ n) ?_
   have hme:e∈m:=by rw [←h];simp
   have hge:=hg e hme
   have hsum:=mxSum_ev (xs:=e) (ys:=p) (hm e hme) (by omega) hge.2 hpp.1
   have ih:=ih (d ++ [e]) (by simpa using h)
   rw [←len_next (r:=r) (by rw [h];simp only [lenB];omega)]at ih
   have hl:=congrArg List.length h
   simp at hl
   subst h
   refine Evt.ctrue mid_lt (Evt.ctrue mid_ge (Evt.ctrue mid_lt ?_))
   rw [mid_get]
   refine Evt.bind hsum ?_
   rw [List.map_append,List.map_cons]at ih
   cases ho:inn e p with
   | none =>
    simp only [List.all_cons,ho,Option.isSome_none,Bool.false_and]
    exact Evt.ctrue rfl .pure
   | some t =>
    rw [ho]at ih
    simp only [List.all_cons,ho,Option.isSome_some,Bool.true_and]
    exact Evt.cfalse rfl (Evt.ctrue (by simp;omega) ih)
 have h0:=key m [] rfl
 simp only [List.length_nil,List.map_nil]at h0
 refine Evt.eq (f:=fun k q=>_) ?_ (fun k q=>by rw [spec_mxTimes])
 cases hall:m.all fun r=>(inn r p).isSome with
 | true=>rw [hall]at h0;exact Evt.inr (Evt.diag h0) .pure
 | false=>rw [hall]at h0;exact Evt.inl (Evt.diag h0) .pure

theorem spec_timesPoint_ev{m:List Pt}{p:Pt}(hb:m.length<274877906944)(hm:∀r∈m,r.length<lenB)(hp:p.length<lenB):Evt (fun k _=>spec_TimesPoint k m p) (tpV m p):=by
 refine Evt.eq (f:=fun k q=>_) ?_ (fun k q=>by rw [spec_TimesPoint])
 refine Evt.bind (mxGood_ev hb hm) ?_
 unfold tpV
 cases ht:tab gd m with
 | false=>exact Evt.ctrue rfl .pure
 | true =>
 refine Evt.cfalse rfl (Evt.bind (bxPoint_ev hp) ?_)
 cases hpp:(p.all (fun x=>decide (gd x))&&decide (p.length=m.length))with
 | false=>exact Evt.ctrue rfl .pure
 | true =>
 refine Evt.cfalse rfl ?_
 simp only [Bool.and_eq_true,decide_eq_true_eq,List.all_eq_true]at hpp
 exact Evt.bind (mxTimes_ev hb hm hp ht hpp) .pure

theorem timesPt_ev{m:List Pt}{p:Pt}(hb:m.length<lenB)(hm:∀r∈m,r.length<lenB)(hp:p.length<lenB)(ht:tab gd m=true)(hpg:∀x∈p,gd x)(hl:p.length=m.length):Evt (fun k _=>impl_timesPoint k m p) (if (m.all fun r=>(inn r p).isSome)then(m.map fun r=>(inn r p).getD (0,0),true)else([],false)):=by
 have hg:=tab_gd ht
 have key:∀(r d:List Pt) (b:Bool) (o:Pt),d++r=m→Flag (fun r=>inn r p) (0,0) true d b o→∃b' o',Flag (fun r=>inn r p) (0,0) true m b' o'∧Evt (fun k n=>impl_timesPoint_L122 k n p b o m (m.length:Int) d.length) (.inr (b',o',())):=by
  intro r
  induction r with
  | nil =>
   intro d b o h hf
   rw [List.append_nil]at h
   subst h
   exact⟨b,o,hf,Evt.step (fun k n=>impl_timesPoint_L122.eq_2 k _ _ _ _ _ _ n) (Evt.rng0 .pure)⟩
  | cons e r ih =>
   intro d b o h hf
   have hge:=hg e (by rw [←h];simp)
   obtain⟨v,hv,hev⟩:=inner_ev (b:=b) (xs:=e) (ys:=p) (by omega) (by omega) (by omega) hge.2 hpg
   obtain⟨b',o',q1,q2⟩:=ih (d ++ [e]) _ _ (by simpa using h) (Flag.step hf hv)
   refine⟨b',o',q1,Evt.step (fun k n=>impl_timesPoint_L122.eq_2 k _ _ _ _ _ _ n) ?_⟩
   rw [←len_next (r:=r) (by rw [h];exact hb)]at q2
   have hxl:=congrArg List.length h
   simp at hxl
   have hol:=hf.1
   subst h
   refine Evt.ctrue mid_lt (Evt.ctrue mid_ge (Evt.ctrue mid_lt ?_))
   rw [mid_get]
   exact Evt.bind hev (Evt.ctrue (by simp;omega) q2)
 obtain⟨b',o',⟨f1,f2,f3⟩,q2⟩:=key m [] true [] rfl Flag.nil
 rw [Bool.true_and]at f2
 simp only [List.length_nil]at q2
 refine Evt.eq (f:=fun k q=>_) ?_ (fun k q=>by rw [impl_timesPoint])
 refine Evt.inr (Evt.diag q2) ?_
 rw [←f2]
 cases b' with
 | true=>rw [←f3 rfl];exact Evt.cfalse rfl .pure
 | false=>exact Evt.ctrue rfl .pure

theorem impl_timesPoint_ev{m:List Pt}{p:Pt}(hb:m.length<lenB)(hm:∀r∈m,r.length<lenB)(hp:p.length<lenB):Evt (fun k _=>impl_TimesPoint k m p) (tpV m p):=by
 refine Evt.eq (f:=fun k q=>_) ?_ (fun k q=>by rw [impl_TimesPoint])
 refine Evt.bind (isTable_ev hb hm) ?_
 unfold tpV
 cases ht:tab gd m with
 | false=>exact Evt.ctrue rfl .pure
 | true =>
 refine Evt.cfalse rfl ?_
 by_cases hl:p.length=m.length
 ·refine Evt.cfalse (by simp [hl]) (Evt.bind (contains3_ev hp) ?_)
  rw [decide_eq_true hl,Bool.and_true,Bool.true_and]
  cases ha:p.any fun x => !decide (gd x)with
  | true =>
   refine Evt.ctrue rfl ?_
   have:(p.all fun x=>decide (gd x))=false:=by
    rw [List.any_eq_not_all_not]at ha
    simpa using ha
   rw [this]
   exact .pure
  | false =>
   refine Evt.cfalse rfl ?_
   have hpg:(p.all fun x=>decide (gd x))=true:=by
    rw [List.any_eq_not_all_not]at ha
    simpa using ha
   rw [hpg,Bool.true_and]
   simp only [List.all_eq_true,decide_eq_true_eq]at hpg
   exact Evt.bind (timesPt_ev hb hm hp ht hpg hl) .pure
 ·refine Evt.ctrue (by rw [bne_iff_ne];omega) ?_
  rw [decide_eq_false hl,Bool.and_false,Bool.false_and,Bool.and_false]
  exact .pure

theorem tpV_len{m:List Pt}{p:Pt}(h:m.length≤1000000):(tpV m p).1.length≤1000000:=by
 unfold tpV
 split
 ·simp;exact h
 ·simp
end Go.Ev.G

namespace Go.Ev.G
open Go Go.Ev
set_option maxRecDepth 100000

def cols(b:List Pt):List Pt:=(List.range b.length).map fun j=>b.map fun r=>r.getD j (0,0)
def mulRow(b:List Pt)(row:Pt):Option Pt:=if ((cols b).all fun c=>(inn row c).isSome)then some ((cols b).map fun c=>(inn row c).getD (0,0))else none
def mtV(a b:List Pt):List Pt×Bool :=
 if tab gd a&&(tab gd b&&(decide (a.length=b.length)&&a.all fun r=>(mulRow b r).isSome))then(a.map fun r=>(mulRow b r).getD [],true)else([],false)

theorem cols_len(b:List Pt):(cols b).length=b.length:=by simp [cols]
theorem cols_at{b d r:List Pt}{e:Pt}(h:d++e::r=cols b):e=(b.map fun r=>r.getD d.length (0,0))∧d.length<b.length:=by
 have hl:=congrArg List.length h
 rw [cols_len]at hl
 simp at hl
 have h1:d.length<b.length:=by omega
 have h2:(d++e::r)[d.length]? = some e:=by simp
 rw [h]at h2
 unfold cols at h2
 rw [List.getElem?_map,List.getElem?_range h1]at h2
 simp only [Option.map_some,Option.some.injEq]at h2
 exact⟨h2.symm,h1⟩
theorem getD_mem{r:Pt}{j:Nat}(h:j<r.length):r.getD j (0,0)∈r:=by
 rw [List.getD_eq_getElem?_getD,List.getElem?_eq_getElem h]
 exact List.getElem_mem h

theorem mxColumn_ev{b:List Pt}{j:Nat}(hb:b.length<274877906944)(hj:∀r∈b,j<r.length):Evt (fun k _=>spec_mxColumn k b j) (b.map fun r=>r.getD j (0,0)):=by
 refine Evt.eq (f:=fun k q=>_) ?_ (fun k q=>by rw [spec_mxColumn])
 have key:∀(r d:List Pt),d++r=b→Evt (fun k n=>spec_mxColumn_L58 k n j (d.map fun r=>r.getD j (0,0)) b (b.length:Int) d.length) (.inr (b.map fun r=>r.getD j (0,0),())):=by
  intro r
  induction r with
  | nil =>
   intro d h
   refine Evt.step (fun k n=>spec_mxColumn_L58.eq_2 k _ _ _ _ _ n) ?_
   rw [List.append_nil]at h
   subst h
   exact Evt.rng0 .pure
  | cons e r ih =>
   intro d h
   refine Evt.step (fun k n=>spec_mxColumn_L58.eq_2 k _ _ _ _ _ n) ?_
   have hje:=hj e (by rw [←h];simp)
   have ih:=ih (d ++ [e]) (by simpa using h)
   rw [←len_next (r:=r) (by rw [h];simp only [lenB];omega)]at ih
   have hl:=congrArg List.length h
   simp at hl
   subst h
   refine Evt.ctrue mid_lt (Evt.ctrue mid_ge (Evt.ctrue mid_lt ?_))
   rw [mid_get]
   refine Evt.ctrue mid_ge (Evt.ctrue (decide_eq_true (by omega)) (Evt.ctrue (by simp;omega) ?_))
   rw [List.map_append]at ih
   exact ih
 exact Evt.inr (Evt.diag (key b [] rfl)) .pure

theorem spec_multiply_ev{a b:List Pt}(hb:a.length<274877906944)(hm:∀r∈a,r.length<lenB)(hb':b.length<274877906944)(hm':∀r∈b,r.length<lenB):Evt (fun k _=>spec_MultiplyTables k a b) (mtV a b):=by
 refine Evt.eq (f:=fun k q=>_) ?_ (fun k q=>by rw [spec_MultiplyTables])
 refine Evt.bind (mxGood_ev hb hm) ?_
 unfold mtV
 cases ht:tab gd a with
 | false=>exact Evt.ctrue rfl .pure
 | true =>
 refine Evt.cfalse rfl (Evt.bind (mxGood_ev hb' hm') ?_)
 cases ht':tab gd b with
 | false=>exact Evt.ctrue rfl .pure
 | true =>
 refine Evt.cfalse rfl ?_
 by_cases hl : ¬ a.length=b.length
 ·refine Evt.ctrue (by rw [bne_iff_ne];omega) ?_
  rw [decide_eq_false hl]
  exact .pure
 have hl:=Decidable.not_not.1 hl
 refine Evt.cfalse (by simp [hl]) ?_
 rw [decide_eq_true hl]
 have hg:=tab_gd ht
 have hg':=tab_gd ht'
 have inner:∀(row:Pt) (x6 x28:List Pt) (x29 x30:Int),row.length=b.length→row.length<lenB→(∀x∈row,gd x)→∀(r d:List Pt),d++r=cols b →
   Evt (fun k n=>spec_MultiplyTables_L125338 k n b x6 row (d.map fun c=>(inn row c).getD (0,0)) x28 x29 x30 (b.length:Int) d.length) (if (r.all fun c=>(inn row c).isSome)then .inr (b,x6,(cols b).map fun c=>(inn row c).getD (0,0),x28,x29,x30,())else .inl ([],false)):=by
  intro row x6 x28 x29 x30 hrl hrb hrg r
  induction r with
  | nil =>
   intro d h
   refine Evt.step (fun k n=>spec_MultiplyTables_L125338.eq_2 k _ _ _ _ _ _ _ _ _ n) ?_
   rw [List.append_nil]at h
   rw [h,cols_len]
   exact Evt.cfalse (decide_eq_false (by omega)) .pure
  | cons e r ih =>
   intro d h
   obtain⟨he,hd⟩:=cols_at h
   refine Evt.step (fun k n=>spec_MultiplyTables_L125338.eq_2 k _ _ _ _ _ _ _ _ _ n) (Evt.ctrue (decide_eq_true (by omega)) ?_)
   have ih:=ih (d ++ [e]) (by simpa using h)
   rw [←len_next (e:=e) (r:=r) (by rw [h,cols_len];simp only [lenB];omega)]at ih
   refine Evt.bind (mxColumn_ev hb' (fun r hr=>by have:=(hg' r hr).1;omega)) ?_
   rw [←he]
   refine Evt.bind (mxSum_ev (xs:=row) (ys:=e) hrb (by rw [he];simpa using hrl) hrg (by
    intro y hy
    rw [he]at hy
    obtain⟨q,hq,rfl⟩:=List.mem_map.1 hy
    exact(hg' q hq).2 _ (getD_mem (by have:=(hg' q hq).1;omega)))) ?_
   rw [List.map_append,List.map_cons]at ih
   cases ho:inn row e with
   | none =>
    simp only [List.all_cons,ho,Option.isSome_none,Bool.false_and]
    exact Evt.ctrue rfl .pure
   | some t =>
    rw [ho]at ih
    simp only [List.all_cons,ho,Option.isSome_some,Bool.true_and]
    exact Evt.cfalse rfl (Evt.ctrue (by simp;omega) ih)
 have key:∀(r d:List Pt),d++r=a→Evt (fun k n=>spec_MultiplyTables_L122 k n b (d.map fun r=>(mulRow b r).getD []) a (a.length:Int) d.length) (if (r.all fun r=>(mulRow b r).isSome)then .inr (a.map fun r=>(mulRow b r).getD [],())else .inl ([],false)):=by
  intro r
  induction r with
  | nil =>
   intro d h
   refine Evt.step (fun k n=>spec_MultiplyTables_L122.eq_2 k _ _ _ _ _ n) ?_
   rw [List.append_nil]at h
   subst h
   exact Evt.rng0 .pure
  | cons e r ih =>
   intro d h
   refine Evt.step (fun k n=>spec_MultiplyTables_L122.eq_2 k _ _ _ _ _ n) ?_
   have hme:e∈a:=by rw [←h];simp
   have hge:=hg e hme
   have hi:=inner e (d.map fun r=>(mulRow b r).getD []) a (a.length:Int) (d.length:Int) (by omega) (hm e hme) hge.2 (cols b) [] rfl
   simp only [List.length_nil,List.map_nil]at hi
   have ih:=ih (d ++ [e]) (by simpa using h)
   rw [←len_next (r:=r) (by rw [h];simp only [lenB];omega)]at ih
   have hxl:=congrArg List.length h
   simp at hxl
   subst h
   refine Evt.ctrue mid_lt (Evt.ctrue mid_ge (Evt.ctrue mid_lt ?_))
   rw [mid_get]
   rw [List.map_append,List.map_cons]at ih
   cases hall:(cols b).all fun c=>(inn e c).isSome with
   | false =>
    rw [hall]at hi
    have hmr:mulRow b e=none:=by unfold mulRow;rw [hall];rfl
    simp only [List.all_cons,hmr,Option.isSome_none,Bool.false_and]
    exact Evt.inl (Evt.diag hi) .pure
   | true =>
    rw [hall]at hi
    have hmr:mulRow b e=some ((cols b).map fun c=>(inn e c).getD (0,0)):=by unfold mulRow;rw [hall];rfl
    rw [hmr]at ih
    simp only [List.all_cons,hmr,Option.isSome_some,Bool.true_and]
    exact Evt.inr (Evt.diag hi) (Evt.ctrue (by simp;omega) ih)
 have h0:=key a [] rfl
 simp only [List.length_nil,List.map_nil]at h0
 cases hall:a.all fun r=>(mulRow b r).isSome with
 | true=>rw [hall]at h0;exact Evt.inr (Evt.diag h0) .pure
 | false=>rw [hall]at h0;exact Evt.inl (Evt.diag h0) .pure

theorem impl_multiply_ev{a b:List Pt}(hb:a.length<lenB)(hm:∀r∈a,r.length<lenB)(hb':b.length<lenB)(hm':∀r∈b,r.length<lenB):Evt (fun k _=>impl_MultiplyTables k a b) (mtV a b):=by
 refine Evt.eq (f:=fun k q=>_) ?_ (fun k q=>by rw [impl_MultiplyTables])
 refine Evt.bind (isTable_ev hb hm) ?_
 unfold mtV
 cases ht:tab gd a with
 | false=>exact Evt.ctrue rfl .pure
 | true =>
 refine Evt.cfalse rfl (Evt.bind (isTable_ev hb' hm') ?_)
 cases ht':tab gd b with
 | false=>exact Evt.ctrue rfl .pure
 | true =>
 refine Evt.cfalse rfl ?_
 by_cases hl : ¬ a.length=b.length
 ·refine Evt.ctrue (by rw [bne_iff_ne];omega) ?_
  rw [decide_eq_false hl]
  exact .pure
 have hl:=Decidable.not_not.1 hl
 refine Evt.cfalse (by simp [hl]) ?_
 rw [decide_eq_true hl]
 have hg:=tab_gd ht
 have hg':=tab_gd ht'
 have column:∀(x6:Bool) (x7:List Pt) (x8:Int) (x9:Pt) (j:Nat) (x31 x32 x36 x37:Int),j<b.length→∀(r d:List Pt),d++r=b →
   Evt (fun k n=>impl_MultiplyTables_L262564250 k n a b x6 x7 x8 x9 (j:Int) (d.map fun r=>r.getD j (0,0)) x31 x32 x36 x37 (b.length:Int) d.length) (.inr (a,b,x6,x7,x8,x9,b.map fun r=>r.getD j (0,0),x31,x32,x36,x37,())):=by
  intro x6 x7 x8 x9 j x31 x32 x36 x37 hj r
  induction r with
  | nil =>
   intro d h
   refine Evt.step (fun k n=>impl_MultiplyTables_L262564250.eq_2 k _ _ _ _ _ _ _ _ _ _ _ _ _ _ n) ?_
   rw [List.append_nil]at h
   rw [h]
   exact Evt.rng0 .pure
  | cons e r ih =>
   intro d h
   refine Evt.step (fun k n=>impl_MultiplyTables_L262564250.eq_2 k _ _ _ _ _ _ _ _ _ _ _ _ _ _ n) ?_
   have hje:=(hg' e (by rw [←h];simp)).1
   have ih:=ih (d ++ [e]) (by simpa using h)
   rw [←len_next (r:=r) (by rw [h];exact hb')]at ih
   have hxl:=congrArg List.length h
   simp at hxl
   rw [List.map_append]at ih
   have e1:(b.getD (Int.toNat (d.length:Int)) [])=e:=by rw [←h];exact mid_get
   refine Evt.ctrue (by rw [←h];exact mid_lt) (Evt.ctrue mid_ge (Evt.ctrue (by rw [←h];exact mid_lt) ?_))
   rw [e1]
   exact Evt.ctrue mid_ge (Evt.ctrue (decide_eq_true (by omega)) (Evt.ctrue (by simp;omega) ih))
 have inner:∀(row:Pt) (i:Nat) (x7:List Pt) (x31 x32:Int),a.getD (Int.toNat (i:Int)) []=row→i<a.length→row∈a→∀(b0:Bool) (r d:List Pt) (c:Bool) (o:Pt),d++r=cols b→Flag (fun c=>inn row c) (0,0) b0 d c o →
   ∃c' o',Flag (fun c=>inn row c) (0,0) b0 (cols b) c' o'∧Evt (fun k n=>impl_MultiplyTables_L256410 k n a b c x7 (i:Int) o x31 x32 (b.length:Int) d.length) (.inr (a,b,c',x7,o',x31,x32,())):=by
  intro row i x7 x31 x32 hrow hi hra b0 r
  have hgr:=hg row hra
  induction r with
  | nil =>
   intro d c o h hf
   rw [List.append_nil]at h
   subst h
   refine⟨c,o,hf,Evt.step (fun k n=>impl_MultiplyTables_L256410.eq_2 k _ _ _ _ _ _ _ _ _ _ n) ?_⟩
   rw [cols_len]
   exact Evt.cfalse (decide_eq_false (by omega)) .pure
  | cons e r ih =>
   intro d c o h hf
   obtain⟨he,hd⟩:=cols_at h
   obtain⟨v,hv,hev⟩:=inner_ev (b:=c) (xs:=row) (ys:=e) (by omega) (by omega) (by rw [he];simp;omega) hgr.2 (by
    intro y hy
    rw [he]at hy
    obtain⟨q,hq,rfl⟩:=List.mem_map.1 hy
    exact(hg' q hq).2 _ (getD_mem (by have:=(hg' q hq).1;omega)))
   obtain⟨c',o',q1,q2⟩:=ih (d ++ [e]) _ _ (by simpa using h) (Flag.step hf hv)
   refine⟨c',o',q1,Evt.step (fun k n=>impl_MultiplyTables_L256410.eq_2 k _ _ _ _ _ _ _ _ _ _ n) ?_⟩
   rw [←len_next (r:=r) (by rw [h,cols_len];exact hb')]at q2
   have hcol:=column c x7 (i:Int) o d.length x31 x32 (b.length:Int) (d.length:Int) hd b [] rfl
   simp only [List.length_nil,List.map_nil]at hcol
   rw [←he]at hcol
   have hol:=hf.1
   refine Evt.ctrue (decide_eq_true (by omega)) (Evt.inr (Evt.diag hcol) (Evt.ctrue mid_ge (Evt.ctrue (decide_eq_true (show(i:Int)<(a.length:Int)by omega)) ?_)))
   simp only [hrow]
   exact Evt.bind hev (Evt.ctrue (by simp;omega) q2)
 have key:∀(r d:List Pt) (c:Bool) (o:List Pt),d++r=a→Flag (mulRow b) [] true d c o →
   ∃c' o',Flag (mulRow b) [] true a c' o'∧Evt (fun k n=>impl_MultiplyTables_L250 k n a b c o (a.length:Int) d.length) (.inr (c',o',())):=by
  intro r
  induction r with
  | nil =>
   intro d c o h hf
   rw [List.append_nil]at h
   subst h
   exact⟨c,o,hf,Evt.step (fun k n=>impl_MultiplyTables_L250.eq_2 k _ _ _ _ _ _ n) (Evt.cfalse (decide_eq_false (by omega)) .pure)⟩
  | cons e r ih =>
   intro d c o h hf
   have hxl:=congrArg List.length h
   simp at hxl
   have hme:e∈a:=by rw [←h];simp
   obtain⟨c1,o1,⟨f1,f2,f3⟩,q0⟩:=inner e d.length o (a.length:Int) (d.length:Int) (by rw [←h];exact mid_get) (by omega) hme c (cols b) [] c [] rfl Flag.nil
   simp only [List.length_nil]at q0
   have hst:=Flag.step (e:=e) (v:=o1) hf (by
    intro hc hs
    subst hc
    unfold mulRow at hs ⊢
    split at hs
    ·rename_i hall
     rw [if_pos hall,←f3 (by rw [f2,hall];rfl)]
    ·cases hs)
   have e2:(c&&(mulRow b e).isSome)=c1:=by
    rw [f2]
    unfold mulRow
    cases (cols b).all fun c=>(inn e c).isSome <;> rfl
   rw [e2]at hst
   obtain⟨c',o',q1,q2⟩:=ih (d ++ [e]) c1 (o ++ [o1]) (by simpa using h) hst
   refine⟨c',o',q1,Evt.step (fun k n=>impl_MultiplyTables_L250.eq_2 k _ _ _ _ _ _ n) ?_⟩
   rw [←len_next (r:=r) (by rw [h];exact hb)]at q2
   have hol:=hf.1
   exact Evt.ctrue (decide_eq_true (by omega)) (Evt.inr (Evt.diag q0) (Evt.ctrue (by have:=(hg e hme).1;simp;omega) q2))
 obtain⟨c',o',⟨f1,f2,f3⟩,q2⟩:=key a [] true [] rfl Flag.nil
 rw [Bool.true_and]at f2
 simp only [List.length_nil]at q2
 refine Evt.inr (Evt.diag q2) ?_
 simp only [Bool.true_and]
 rw [←f2]
 cases c' with
 | true=>rw [←f3 rfl];exact Evt.cfalse rfl .pure
 | false=>exact Evt.ctrue rfl .pure

theorem mtV_len{a b:List Pt}:(mtV a b).1.length≤3∧∀r∈(mtV a b).1,r.length≤3:=by
 unfold mtV
 split
 ·rename_i h
  simp only [Bool.and_eq_true,decide_eq_true_eq]at h
  have ha:a.length≤3:=by
   have:=h.1
   unfold tab at this
   simp only [Bool.and_eq_true,decide_eq_true_eq]at this
   exact this.1.2
  refine⟨by simp;exact ha,?_⟩
  intro r hr
  obtain⟨x,_,rfl⟩:=List.mem_map.1 hr
  unfold mulRow
  split
  ·simp [cols_len];omega
  ·simp
 ·simp

end Go.Ev.G

namespace Go.Ev
open Go

section
variable {α β : Type}
def Ev3{α:Type}(f:Nat→Nat→Nat→Option α)(r:α):Prop:=∃k0,∀k m n,k0≤k→k0≤m→k0≤n→f k m n=some r

theorem Ev3.of{f:Nat→Option α}{r:α}(h:Evt (fun k _=>f k) r):Ev3 (fun k _ _=>f k) r:=by
 obtain⟨k0,h⟩:=h
 exact⟨k0,fun k m n hk _ _=>h k k hk hk⟩
theorem Ev3.rec{f:Nat→Nat→Option α}{r:α}(h:Evt f r):Ev3 (fun k m _=>f k m) r:=by
 obtain⟨k0,h⟩:=h
 exact⟨k0,fun k m n hk hm _=>h k m hk hm⟩
theorem Ev3.diag{f:Nat→Nat→Nat→Option α}{r:α}(h:Ev3 f r):Evt (fun k m=>f k m k) r:=by
 obtain⟨k0,h⟩:=h
 exact⟨k0,fun k m hk hm=>h k m k hk hm hk⟩
theorem Ev3.const{o:Option α}{r:α}(h:o=some r):Ev3 (fun _ _ _=>o) r:=⟨0,fun _ _ _ _ _ _=>h⟩
theorem Ev3.pure{r:α}:Ev3 (fun _ _ _=>some r) r:=⟨0,fun _ _ _ _ _ _=>rfl⟩
theorem Ev3.bind{f:Nat→Nat→Nat→Option α}{g:Nat→Nat→Nat→α→Option β}{a:α}{r:β}(h:Ev3 f a)(h':Ev3 (fun k m n=>g k m n a) r):Ev3 (fun k m n=>Option.bind (f k m n) fun x=>g k m n x) r:=by
 obtain⟨k0,h⟩:=h
 obtain⟨k1,h'⟩:=h'
 refine⟨max k0 k1,fun k m n hk hm hn => ?_⟩
 exact(congrArg (fun o=>Option.bind o fun x=>g k m n x) (h k m n (by omega) (by omega) (by omega))).trans (h' k m n (by omega) (by omega) (by omega))
theorem Ev3.inr{R P A:Type}{f:Nat→Nat→Nat→Option (R ⊕ P)}{G:Nat→Nat→Nat→R→Option A}{K:Nat→Nat→Nat→P→Option A}{y:P}{r:A}(h:Ev3 f (.inr y))(h':Ev3 (fun k m n=>K k m n y) r):Ev3 (fun k m n=>both (f k m n) (G k m n) (K k m n)) r:=by
 obtain⟨k0,h⟩:=h
 obtain⟨k1,h'⟩:=h'
 refine⟨max k0 k1,fun k m n hk hm hn => ?_⟩
 exact(congrArg (fun o=>both o (G k m n) (K k m n)) (h k m n (by omega) (by omega) (by omega))).trans (h' k m n (by omega) (by omega) (by omega))
theorem Ev3.inl{R P A:Type}{f:Nat→Nat→Nat→Option (R ⊕ P)}{G:Nat→Nat→Nat→R→Option A}{K:Nat→Nat→Nat→P→Option A}{q:R}{r:A}(h:Ev3 f (.inl q))(h':Ev3 (fun k m n=>G k m n q) r):Ev3 (fun k m n=>both (f k m n) (G k m n) (K k m n)) r:=by
 obtain⟨k0,h⟩:=h
 obtain⟨k1,h'⟩:=h'
 refine⟨max k0 k1,fun k m n hk hm hn => ?_⟩
 exact(congrArg (fun o=>both o (G k m n) (K k m n)) (h k m n (by omega) (by omega) (by omega))).trans (h' k m n (by omega) (by omega) (by omega))
theorem Ev3.ctrue{c:Bool}{f g:Nat→Nat→Nat→Option α}{r:α}(hc:c=true)(h:Ev3 f r):Ev3 (fun k m n=>bif c then f k m n else g k m n) r:=by subst hc;exact h
theorem Ev3.cfalse{c:Bool}{f g:Nat→Nat→Nat→Option α}{r:α}(hc:c=false)(h:Ev3 g r):Ev3 (fun k m n=>bif c then f k m n else g k m n) r:=by subst hc;exact h
theorem Ev3.step{L F:Nat→Nat→Nat→Option α}{r:α}(hL:∀k m n,L k m (n+1)=F k m n)(h:Ev3 F r):Ev3 L r:=by
 obtain⟨k0,h⟩:=h
 refine⟨k0+1,fun k m n hk hm hn => ?_⟩
 obtain⟨n,rfl⟩:∃n',n=n'+1:=⟨n - 1,by omega⟩
 rw [hL]
 exact h k m n (by omega) (by omega) (by omega)
end
end Go.Ev

namespace Go.Ev.G
open Go Go.Ev
set_option maxRecDepth 100000

def partV{α:Type}(m:List (List α))(i j:Nat):List (List α):=(m.eraseIdx i).map (·.eraseIdx j)
theorem erase_snoc{α:Type}(d:List α)(e:α)(i:Nat):(d ++ [e]).eraseIdx i=if d.length=i then d.eraseIdx i else d.eraseIdx i ++ [e]:=by
 by_cases h:i<d.length
 ·rw [if_neg (by omega),List.eraseIdx_append_of_lt_length h]
 ·rw [List.eraseIdx_append_of_length_le (by omega),List.eraseIdx_of_length_le (l:=d) (by omega)]
  by_cases h2:d.length=i
  ·rw [if_pos h2,h2,Nat.sub_self];simp
  ·rw [if_neg h2,List.eraseIdx_of_length_le (l := [e]) (by simp;omega)]
theorem take_drop{α:Type}(r:List α)(j:Nat):(r.take j).drop 0++(r.take (Int.toNat (r.length:Int))).drop (j+1)=r.eraseIdx j:=by
 rw [List.eraseIdx_eq_take_drop_succ];simp
theorem erase_len{α:Type}{r:List α}{j n:Nat}(h:r.length=n+1)(hj:j≤n):(r.eraseIdx j).length=n:=by
 rw [List.length_eraseIdx,if_pos (by omega)];omega

theorem concatD_ev{a b:Pt}(ha:a.length<1000)(hb:b.length<1000):Evt (fun k _=>slices_Concat_Dyadic_Dyadic k [a,b]) (a++b):=by
 refine Evt.eq (f:=fun k q=>_) ?_ (fun k q=>by rw [slices_Concat_Dyadic_Dyadic])
 have w1:IntKind.wrap .i64 (0+1)=1:=by decide
 have w2:IntKind.wrap .i64 (1+1)=2:=by decide
 have wa:IntKind.wrap .i64 (0+(a.length:Int))=(a.length:Int):=by rw [w64 (by omega) (by omega)];omega
 have wb:IntKind.wrap .i64 ((a.length:Int)+(b.length:Int))=((a.length+b.length:Nat):Int):=by rw [w64 (by omega) (by omega)];omega
 have l1:Evt (fun k n=>slices_Concat_Dyadic_Dyadic_L58 k n [a,b] 0 [a,b] 2 0) (.inr ([a,b],((a.length+b.length:Nat):Int),())):=by
  refine Evt.step (fun k n=>slices_Concat_Dyadic_Dyadic_L58.eq_2 k _ _ _ _ _ n) (Evt.ctrue rfl (Evt.ctrue rfl (Evt.ctrue rfl ?_)))
  simp only [List.getD_cons_zero,show Int.toNat 0=0 from rfl,wa,w1]
  refine Evt.cfalse (decide_eq_false (by omega)) ?_
  refine Evt.step (fun k n=>slices_Concat_Dyadic_Dyadic_L58.eq_2 k _ _ _ _ _ n) (Evt.ctrue rfl (Evt.ctrue rfl (Evt.ctrue rfl ?_)))
  have e1 : [a,b].getD (Int.toNat 1) []=b:=rfl
  simp only [e1,wb,w2]
  refine Evt.cfalse (decide_eq_false (by omega)) ?_
  exact Evt.step (fun k n=>slices_Concat_Dyadic_Dyadic_L58.eq_2 k _ _ _ _ _ n) (Evt.cfalse rfl .pure)
 have grow:slices_Grow_Dyadic_Dyadic () ((a.length+b.length:Nat):Int)=some []:=by
  unfold slices_Grow_Dyadic_Dyadic
  have e:IntKind.wrap .i64 (((a.length+b.length:Nat):Int) - IntKind.wrap .i64 (0 - 0))=((a.length+b.length:Nat):Int):=by
   have:IntKind.wrap .i64 (0 - 0)=0:=by decide
   rw [this,w64 (by omega) (by omega)];omega
  rw [e,decide_eq_false (by omega),cond_false]
  by_cases h:a.length+b.length=0
  ·rw [h];rfl
  ·rw [decide_eq_true (by omega),decide_eq_true (by omega),decide_eq_true (by omega)]
   simp only [cond_true,List.take_zero]
   rw [decide_eq_true (by simp;omega)]
   rfl
 have l2:Evt (fun k n=>slices_Concat_Dyadic_Dyadic_L250 k n [] [a,b] 2 0) (.inr (a++b,())):=by
  refine Evt.step (fun k n=>slices_Concat_Dyadic_Dyadic_L250.eq_2 k _ _ _ _ n) (Evt.ctrue rfl (Evt.ctrue rfl (Evt.ctrue rfl ?_)))
  simp only [List.getD_cons_zero,show Int.toNat 0=0 from rfl,w1,List.nil_append,List.length_nil]
  refine Evt.ctrue (decide_eq_true (by omega)) ?_
  refine Evt.step (fun k n=>slices_Concat_Dyadic_Dyadic_L250.eq_2 k _ _ _ _ n) (Evt.ctrue rfl (Evt.ctrue rfl (Evt.ctrue rfl ?_)))
  have e1 : [a,b].getD (Int.toNat 1) []=b:=rfl
  simp only [e1,w2]
  refine Evt.ctrue (decide_eq_true (by omega)) ?_
  exact Evt.step (fun k n=>slices_Concat_Dyadic_Dyadic_L250.eq_2 k _ _ _ _ n) (Evt.cfalse rfl .pure)
 exact Evt.inr (Evt.diag l1) (Evt.bind (.const grow) (Evt.inr (Evt.diag l2) .pure))

def sq{α:Type}(g:α→Prop)(n:Nat)(m:List (List α)):Prop:=m.length=n∧∀r∈m,r.length=n∧∀x∈r,g x
theorem mem_erase{α:Type}{r:List α}{j:Nat}{x:α}(h:x∈r.eraseIdx j):x∈r:=List.eraseIdx_subset h
theorem sq_part{α:Type}{g:α→Prop}{n i j:Nat}{m:List (List α)}(h:sq g (n+1) m)(hi:i≤n)(hj:j≤n):sq g n (partV m i j):=by
 refine⟨by unfold partV;rw [List.length_map,erase_len h.1 hi],?_⟩
 intro r hr
 unfold partV at hr
 obtain⟨r0,h0,rfl⟩:=List.mem_map.1 hr
 have h1:=h.2 r0 (mem_erase h0)
 exact⟨erase_len h1.1 hj,fun x hx=>h1.2 x (mem_erase hx)⟩
theorem sq_tab{α:Type}{g:α→Prop}[DecidablePred g]{m:List (List α)}(h:tab g m=true):∃n,n≤2∧sq g (n+1) m:=by
 have h0:=h
 unfold tab at h0
 simp only [Bool.and_eq_true,decide_eq_true_eq]at h0
 refine⟨m.length - 1,by omega,by omega,fun r hr => ?_⟩
 have:=tab_all h r hr
 exact⟨by omega,this.2⟩

theorem mxPart_ev{m:List Pt}{n i j:Nat}(h:sq gd (n+1) m)(hn:n≤2)(hj:j≤n):Evt (fun k _=>spec_mxPart k m i j) (partV m i j):=by
 refine Evt.eq (f:=fun k q=>_) ?_ (fun k q=>by rw [spec_mxPart])
 have hb:m.length≤3:=by have:=h.1;omega
 have key:∀(r d:List Pt),d++r=m→Evt (fun k q=>spec_mxPart_L58 k q i j ((d.eraseIdx i).map (·.eraseIdx j)) m (m.length:Int) d.length) (.inr (partV m i j,())):=by
  intro r
  induction r with
  | nil =>
   intro d hd
   refine Evt.step (fun k q=>spec_mxPart_L58.eq_2 k _ _ _ _ _ _ q) ?_
   rw [List.append_nil]at hd
   subst hd
   exact Evt.rng0 .pure
  | cons e r ih =>
   intro d hd
   refine Evt.step (fun k q=>spec_mxPart_L58.eq_2 k _ _ _ _ _ _ q) ?_
   have he:=(h.2 e (by rw [←hd];simp)).1
   have ih:=ih (d ++ [e]) (by simpa using hd)
   rw [←len_next (r:=r) (by rw [hd];simp only [lenB];omega),erase_snoc]at ih
   have hl:=congrArg List.length hd
   simp at hl
   have hdl:(d.eraseIdx i).length≤d.length:=by rw [List.length_eraseIdx];split <;> omega
   subst hd
   refine Evt.ctrue mid_lt (Evt.ctrue mid_ge (Evt.ctrue mid_lt ?_))
   rw [mid_get]
   by_cases hi:d.length=i
   ·rw [if_pos hi]at ih
    exact Evt.cfalse (by simp [hi]) ih
   ·rw [if_neg hi,List.map_append]at ih
    have wj:IntKind.wrap .i64 ((j:Int)+1)=((j+1:Nat):Int):=w64_next (by simp only [lenB];omega)
    rw [wj]
    simp only [List.nil_append,Int.toNat_natCast]
    have htd:=take_drop e j
    rw [Int.toNat_natCast]at htd
    rw [htd]
    have hel:=erase_len he hj
    have t1:((e.take j).drop 0).length≤3:=by simp;omega
    refine Evt.ctrue (by simp;omega) (Evt.ctrue mid_ge (Evt.ctrue (by simp;omega) (Evt.ctrue (decide_eq_true (by simp only [List.length_nil];omega)) (Evt.ctrue mid_ge (Evt.ctrue (by simp;omega) (Evt.ctrue ?_ (Evt.ctrue (by simp;omega) ih)))))))
    refine decide_eq_true ?_
    have:=congrArg List.length htd
    rw [List.length_append]at this
    omega
 exact Evt.inr (Evt.diag (key m [] rfl)) .pure

theorem impl_part_ev{m:List Pt}{n i j:Nat}(h:sq gd (n+1) m)(hn:n≤2)(hj:j≤n):Evt (fun k _=>impl_part_Dyadic k m i j) (partV m i j):=by
 refine Evt.eq (f:=fun k q=>_) ?_ (fun k q=>by rw [impl_part_Dyadic])
 have hb:m.length≤3:=by have:=h.1;omega
 have key:∀(r d:List Pt),d++r=m→Evt (fun k q=>impl_part_Dyadic_L58 k q i j ((d.eraseIdx i).map (·.eraseIdx j)) m (m.length:Int) d.length) (.inr (partV m i j,())):=by
  intro r
  induction r with
  | nil =>
   intro d hd
   refine Evt.step (fun k q=>impl_part_Dyadic_L58.eq_2 k _ _ _ _ _ _ q) ?_
   rw [List.append_nil]at hd
   subst hd
   exact Evt.rng0 .pure
  | cons e r ih =>
   intro d hd
   refine Evt.step (fun k q=>impl_part_Dyadic_L58.eq_2 k _ _ _ _ _ _ q) ?_
   have he:=(h.2 e (by rw [←hd];simp)).1
   have ih:=ih (d ++ [e]) (by simpa using hd)
   rw [←len_next (r:=r) (by rw [hd];simp only [lenB];omega),erase_snoc]at ih
   have hl:=congrArg List.length hd
   simp at hl
   have hdl:(d.eraseIdx i).length≤d.length:=by rw [List.length_eraseIdx];split <;> omega
   subst hd
   refine Evt.ctrue mid_lt (Evt.ctrue mid_ge (Evt.ctrue mid_lt ?_))
   rw [mid_get]
   by_cases hi:d.length=i
   ·rw [if_pos hi]at ih
    exact Evt.cfalse (by simp [hi]) ih
   ·rw [if_neg hi,List.map_append]at ih
    have wj:IntKind.wrap .i64 ((j:Int)+1)=((j+1:Nat):Int):=w64_next (by simp only [lenB];omega)
    rw [wj]
    have htd:=take_drop e j
    simp only [Int.toNat_natCast]at htd ⊢
    have t1:((e.take j).drop 0).length<1000:=by simp;omega
    have t2:((e.take e.length).drop (j+1)).length<1000:=by simp;omega
    have hc:=concatD_ev t1 t2
    rw [htd]at hc
    exact Evt.ctrue (by simp;omega) (Evt.ctrue mid_ge (Evt.ctrue (by simp;omega) (Evt.ctrue mid_ge (Evt.ctrue (by simp;omega) (Evt.bind hc (Evt.ctrue (by simp;omega) ih))))))
 exact Evt.inr (Evt.diag (key m [] rfl)) .pure
end Go.Ev.G

namespace Go.Ev.G
open Go Go.Ev
set_option maxRecDepth 100000

def ngD(c:Nat)(x:Int×Int):Int×Int:=if c % 2=1 then(-x.1,x.2)else x
theorem ngD_gd{c:Nat}{x:Int×Int}(h:gd x):gd (ngD c x):=by
 unfold ngD
 split
 ·exact gd_neg h
 ·exact h
def tmO(c:Nat)(a:Int×Int)(d:Option (Int×Int)):Option (Int×Int):=match d with
 | none=>none
 | some d=>if (prodD a d).2 then some (ngD c (prodD a d).1)else none
def detO:Nat→List Pt→Option (Int×Int)
 | 0,m=>some ((m.getD 0 []).getD 0 (0,0))
 | n+1,m =>
  let ts:=(List.range (n+2)).map fun c=>tmO c ((m.getD 0 []).getD c (0,0)) (detO n (partV m 0 c))
  if ts.all (·.isSome)then osum (0,0) (ts.map fun o=>o.getD (0,0))else none
def oV(o:Option (Int×Int)):(Int×Int)×Bool:=match o with
 | some t=>(t,true)
 | none=>((0,0),false)

def sumO:(Int×Int)→List (Option (Int×Int))→Option (Int×Int)
 | s,[]=>some s
 | s,o::r=>match o with
  | none=>none
  | some x=>if (sumD s x).2 then sumO (sumD s x).1 r else none
theorem sumO_eq:∀(ts:List (Option (Int×Int))) (s:Int×Int),sumO s ts=if ts.all (·.isSome)then osum s (ts.map fun o=>o.getD (0,0))else none
 | [],s=>rfl
 | none::r,s=>by simp [sumO]
 | some x::r,s=>by
  simp only [sumO,List.all_cons,Option.isSome_some,Bool.true_and,List.map_cons,Option.getD_some,osum]
  cases (sumD s x).2 with
  | true=>simp only [if_true];exact sumO_eq r _
  | false=>simp

theorem tmod_odd(c:Nat):((Int.tmod (c:Int) 2)==1)=decide (c % 2=1):=by
 have:Int.tmod (c:Int) 2=((c % 2:Nat):Int):=rfl
 rw [this,Bool.eq_iff_iff,beq_iff_eq,decide_eq_true_eq]
 omega

theorem dyMinus_eq{x:Int×Int}(h:gd x):spec_dyMinus x=some (-x.1,x.2):=by
 have:=h.2.2
 unfold spec_dyMinus
 rw [w64 (by omega) (by omega)]
 congr 2
 omega

def terms(n:Nat)(m:List Pt):List (Option (Int×Int)):=(List.range (n+2)).map fun c=>tmO c ((m.getD 0 []).getD c (0,0)) (detO n (partV m 0 c))
theorem detO_gd:∀(n:Nat) (m:List Pt) (t:Int×Int),sq gd (n+1) m→detO n m=some t→gd t
 | 0,m,t,h,e=>by
  obtain⟨h1,h2⟩:=h
  match m,h1 with
  | [r],_ =>
   obtain⟨h3,h4⟩:=h2 r (by simp)
   match r,h3 with
   | [x],_ =>
    simp only [detO,List.getD_cons_zero,Option.some.injEq]at e
    rw [←e]
    exact h4 x (by simp)
 | n+1,m,t,h,e=>by
  unfold detO at e
  simp only at e
  split at e
  ·exact osum_gd _ _ _ (by decide) e
  ·cases e

theorem terms_get{n c:Nat}{m:List Pt}{d r:List (Option (Int×Int))}{t:Option (Int×Int)}(h:d++t::r=terms n m)(hc:d.length=c):t=tmO c ((m.getD 0 []).getD c (0,0)) (detO n (partV m 0 c))∧c≤n+1:=by
 have hl:=congrArg List.length h
 simp [terms]at hl
 have h2:(d++t::r)[d.length]? = some t:=by simp
 rw [h,terms,List.getElem?_map,List.getElem?_range (by omega)]at h2
 simp only [Option.map_some,Option.some.injEq]at h2
 rw [←hc]
 exact⟨h2.symm,by omega⟩

theorem mxDet_ev:∀(n:Nat) (m:List Pt),n≤2→sq gd (n+1) m→Evt (fun k q=>spec_mxDet_R k q m) (oV (detO n m))
 | 0,m,_,h=>by
  obtain⟨h1,h2⟩:=h
  match m,h1 with
  | [r],_ =>
   obtain⟨h3,h4⟩:=h2 r (by simp)
   match r,h3 with
   | [x],_=>exact Evt.step (fun k q=>(rfl:spec_mxDet_R k (q+1) [[x]]=some (x,true))) .pure
 | n+1,m,hn,h=>by
  refine Evt.step (F:=fun k q=>spec_mxDet_B k (spec_mxDet_R k q) m) (fun k q=>rfl) ?_
  refine Evt.eq (f:=fun k q=>_) ?_ (fun k q=>by rw [spec_mxDet_B])
  have hm:=h.1
  have hrow:(m.getD 0 []).length=n+2∧∀x∈m.getD 0 [],gd x:=by
   match m,hm with
   | r::_,_=>exact h.2 r (by simp)
  refine Evt.cfalse (by rw [hm];simp;omega) (Evt.ctrue (by rw [hm];simp;omega) ?_)
  generalize hrw:m.getD 0 []=row at hrow ⊢
  have hsub:∀c,c≤n+1→Ev3 (fun k q _=>spec_mxDet_R k q (partV m 0 c)) (oV (detO n (partV m 0 c))):=fun c hc=>Ev3.rec (mxDet_ev n _ (by omega) (sq_part h (by omega) hc))
  have key:∀(r d:List (Option (Int×Int))) (z s:Int×Int),d++r=terms n m→gd s →
    Ev3 (fun k q f=>spec_mxDet_L122 k (spec_mxDet_R k q) f m z s row (row.length:Int) d.length) (match sumO s r with | some t => .inr (z,t,()) | none => .inl ((0,0),false)):=by
   intro r
   induction r with
   | nil =>
    intro d z s hd hs
    refine Ev3.step (fun k q f=>spec_mxDet_L122.eq_2 k _ _ _ _ _ _ _ f) ?_
    rw [List.append_nil]at hd
    have:d.length=n+2:=by rw [hd];simp [terms]
    exact Ev3.cfalse (decide_eq_false (by omega)) .pure
   | cons t r ih =>
    intro d z s hd hs
    obtain⟨ht,hc⟩:=terms_get hd rfl
    rw [hrw]at ht
    generalize hcd:d.length=c at ht hc
    refine Ev3.step (fun k q f=>spec_mxDet_L122.eq_2 k _ _ _ _ _ _ _ f) ?_
    have ih:=fun s=>ih (d ++ [t]) z s (by simpa using hd)
    have hnx:IntKind.wrap .i64 ((c:Int)+1)=((d ++ [t]).length:Int):=by rw [w64_next (by simp only [lenB];omega)];simp;omega
    rw [←hnx]at ih
    have ga:gd (row.getD c (0,0)):=hrow.2 _ (getD_mem (by omega))
    refine Ev3.ctrue (decide_eq_true (by omega)) (Ev3.ctrue mid_ge (Ev3.ctrue (decide_eq_true (by omega)) ?_))
    rw [Int.toNat_natCast]
    refine Ev3.bind (Ev3.of (mxPart_ev h hn hc)) (Ev3.bind (hsub c hc) ?_)
    cases hdo:detO n (partV m 0 c)with
    | none =>
     rw [hdo]at ht
     rw [ht]
     exact Ev3.ctrue rfl .pure
    | some dv =>
     rw [hdo]at ht
     have gdv:=detO_gd n _ _ (sq_part h (by omega) hc) hdo
     refine Ev3.cfalse rfl (Ev3.bind (Ev3.of (dyMul_ev ga gdv)) ?_)
     refine Ev3.inr (y:=(m,z,s,ngD c (prodD (row.getD c (0,0)) dv).1,(prodD (row.getD c (0,0)) dv).2,row,(row.length:Int),(c:Int),())) ?_ ?_
     ·rw [tmod_odd]
      unfold ngD
      by_cases hodd:c % 2=1
      ·rw [if_pos hodd]
       exact Ev3.ctrue (decide_eq_true hodd) (Ev3.bind (.const (dyMinus_eq (prodD_gd _ _))) .pure)
      ·rw [if_neg hodd]
       exact Ev3.cfalse (decide_eq_false hodd) .pure
     ·refine Ev3.bind (Ev3.of (dyAdd_ev hs (ngD_gd (prodD_gd _ _)))) ?_
      rw [ht]
      unfold tmO
      simp only
      cases hp:(prodD (row.getD c (0,0)) dv).2 with
      | false=>exact Ev3.ctrue rfl .pure
      | true =>
       refine Ev3.cfalse rfl ?_
       simp only [if_true,sumO]
       cases hsm:(sumD s (ngD c (prodD (row.getD c (0,0)) dv).1)).2 with
       | false=>exact Ev3.ctrue rfl .pure
       | true=>exact Ev3.cfalse rfl (ih _ (sumD_gd _ _))
  have h0:=(key (terms n m) [] (0,0) (0,0) rfl (by decide)).diag
  simp only [List.length_nil]at h0
  have hdet:detO (n+1) m=sumO (0,0) (terms n m):=by
   rw [sumO_eq];rfl
  rw [hdet]
  cases hs:sumO (0,0) (terms n m)with
  | none=>rw [hs]at h0;exact Evt.inl h0 .pure
  | some t=>rw [hs]at h0;exact Evt.inr h0 .pure

theorem prod_flag{c:Bool}{od:Option (Int×Int)}{v a:Int×Int}{j:Nat}(hv:c=true→od.isSome=true→od=some v):(if (c&&od.isSome)then prodD a v else((0,0),false)).2=(c&&(tmO j a od).isSome):=by
 cases c with
 | false=>rfl
 | true =>
  cases od with
  | none=>rfl
  | some dv =>
   have:=hv rfl rfl
   cases this
   simp only [Bool.true_and,Option.isSome_some,if_true,tmO]
   cases (prodD a v).2 <;> rfl
theorem prod_val{od:Option (Int×Int)}{v a:Int×Int}{j:Nat}(hv:od.isSome=true→od=some v)(hs:(tmO j a od).isSome=true):tmO j a od=some (ngD j (if (true&&od.isSome)then prodD a v else((0,0),false)).1):=by
 cases od with
 | none=>cases hs
 | some dv =>
  have:=hv rfl
  cases this
  simp only [tmO,Bool.true_and,Option.isSome_some,if_true]at hs ⊢
  split
  ·rfl
  ·rename_i hn2;rw [if_neg hn2]at hs;cases hs

theorem fsum_fail{c:Bool}{x:Int×Int}{xs:Pt}(hx:xs ≠ [])(h:(fsum c x xs).2=false):(fsum c x xs).1=(0,0):=by
 cases c with
 | false =>
  cases xs with
  | nil=>exact absurd rfl hx
  | cons y ys=>rw [fsum,fsum_false0]
 | true =>
  rw [fsum_true]at h ⊢
  cases ho:osum x xs with
  | none=>rfl
  | some t=>rw [ho]at h;cases h

theorem det_ev:∀(n:Nat) (m:List Pt),n≤2→sq gd (n+1) m→∀b:Bool,∃v,(gd v∧(1≤n→(b&&(detO n m).isSome)=false→v=(0,0)))∧(b=true→(detO n m).isSome=true→detO n m=some v)∧Evt (fun k q=>impl_reckoner_determinant_R k q b m) (v,b&&(detO n m).isSome)
 | 0,m,_,h,b=>by
  obtain⟨h1,h2⟩:=h
  match m,h1 with
  | [r],_ =>
   obtain⟨h3,h4⟩:=h2 r (by simp)
   match r,h3 with
   | [x],_=>exact⟨x,⟨h4 x (by simp),fun h=>absurd h (by omega)⟩,fun _ _=>rfl,Evt.step (fun k q=>(rfl:impl_reckoner_determinant_R k (q+1) b [[x]]=some (x,b))) (.const (by simp [detO]))⟩
 | n+1,m,hn,h,b=>by
  have hm:=h.1
  have hrow:(m.getD 0 []).length=n+2∧∀x∈m.getD 0 [],gd x:=by
   match m,hm with
   | r::_,_=>exact h.2 r (by simp)
  generalize hrw:m.getD 0 []=row at hrow
  have key:∀(r d:List (Option (Int×Int))) (c:Bool) (z:Int×Int) (o:Pt),d++r=terms n m→(∀y∈o,gd y)→Flag (fun t=>t) (0,0) b d c o →
    ∃c' o',Flag (fun t=>t) (0,0) b (terms n m) c' o'∧(∀y∈o',gd y)∧Ev3 (fun k q f=>impl_reckoner_determinant_L122 k (impl_reckoner_determinant_R k q) f c m z o row (row.length:Int) d.length) (.inr (c',z,o',())):=by
   intro r
   induction r with
   | nil =>
    intro d c z o hd ho hf
    rw [List.append_nil]at hd
    have hdl:d.length=n+2:=by rw [hd];simp [terms]
    rw [hd]at hf
    exact⟨c,o,hf,ho,Ev3.step (fun k q f=>impl_reckoner_determinant_L122.eq_2 k _ _ _ _ _ _ _ _ f) (Ev3.cfalse (decide_eq_false (by omega)) .pure)⟩
   | cons t r ih =>
    intro d c z o hd ho hf
    obtain⟨ht,hc⟩:=terms_get hd rfl
    rw [hrw]at ht
    generalize hcd:d.length=j at ht hc
    obtain⟨v,⟨gv,_⟩,hv,hev⟩:=det_ev n (partV m 0 j) (by omega) (sq_part h (by omega) hc) c
    have ga:gd (row.getD j (0,0)):=hrow.2 _ (getD_mem (by omega))
    let c2:=c&&(detO n (partV m 0 j)).isSome
    let p:=if c2 then prodD (row.getD j (0,0)) v else((0,0),false)
    have hp:Evt (fun k _=>impl_reckoner_product k c2 (row.getD j (0,0)) v) p:=reckoner_product_ev ga gv
    have gp:gd p.1:=by simp only [p];split;exact prodD_gd _ _;decide
    have hp2:p.2=(c&&t.isSome):=by rw [ht];exact prod_flag hv
    have hst:=Flag.step (e:=t) (v:=ngD j p.1) hf (by
     intro hcb hs
     rw [ht]at hs ⊢
     subst hcb
     exact prod_val (hv rfl) hs)
    rw [←hp2]at hst
    obtain⟨c',o',q1,q2,q3⟩:=ih (d ++ [t]) p.2 z (o ++ [ngD j p.1]) (by simpa using hd) (by
     intro y hy
     rcases List.mem_append.1 hy with hy | hy
     ·exact ho y hy
     ·simp at hy;subst hy;exact ngD_gd gp) hst
    refine⟨c',o',q1,q2,Ev3.step (fun k q f=>impl_reckoner_determinant_L122.eq_2 k _ _ _ _ _ _ _ _ f) ?_⟩
    have hnx:IntKind.wrap .i64 ((j:Int)+1)=((d ++ [t]).length:Int):=by rw [w64_next (by simp only [lenB];omega)];simp;omega
    rw [←hnx]at q3
    refine Ev3.ctrue (decide_eq_true (by omega)) (Ev3.ctrue mid_ge (Ev3.ctrue (decide_eq_true (by omega)) ?_))
    rw [Int.toNat_natCast]
    refine Ev3.bind (Ev3.of (impl_part_ev h hn hc)) (Ev3.bind (Ev3.rec hev) (Ev3.bind (Ev3.of hp) ?_))
    refine Ev3.inr (y:=(p.2,m,z,o,ngD j p.1,row,(row.length:Int),(j:Int),())) ?_ ?_
    ·rw [tmod_odd]
     unfold ngD
     by_cases hodd:j % 2=1
     ·rw [if_pos hodd]
      exact Ev3.ctrue (decide_eq_true hodd) (Ev3.bind (.const (minus_eq gp)) .pure)
     ·rw [if_neg hodd]
      exact Ev3.cfalse (decide_eq_false hodd) .pure
    ·have hol:=hf.1
     exact Ev3.ctrue (by simp;omega) q3
  obtain⟨c',o',⟨f1,f2,f3⟩,q2,q3⟩:=key (terms n m) [] b (0,0) [] rfl (by simp) Flag.nil
  have q3:=q3.diag
  simp only [List.length_nil]at q3
  have hol:o'.length=n+2:=by rw [f1];simp [terms]
  obtain⟨x,xs,rfl⟩:∃x y,o'=x::y:=by cases o' with
   | nil=>simp at hol
   | cons x y=>exact⟨x,y,rfl⟩
  have gx:=q2 x (by simp)
  have hdet:detO (n+1) m=if (terms n m).all (·.isSome)then osum (0,0) ((terms n m).map fun o=>o.getD (0,0))else none:=rfl
  have hsn:(fsum c' x xs).2=(b&&(detO (n+1) m).isSome):=by
   rw [hdet]
   cases c' with
   | false =>
    rw [fsum_false]
    cases b with
    | false=>rfl
    | true =>
     rw [Bool.true_and]at f2 ⊢
     rw [if_neg (by rw [←f2];simp)]
     rfl
   | true =>
    have hh:=f2.symm
    rw [Bool.and_eq_true]at hh
    rw [hh.1,if_pos hh.2,Bool.true_and,←f3 rfl,osum,sumD_zero gx,if_pos rfl,fsum_true]
    cases osum x xs <;> rfl
  refine⟨(fsum c' x xs).1,⟨fsum_gd _ _ _ gx,fun _ hf=>fsum_fail (by rintro rfl;simp at hol) (by rw [hsn];exact hf)⟩,?_,?_⟩
  ·intro hb hs
   subst hb
   rw [hdet]at hs ⊢
   split at hs
   ·rename_i hall
    rw [if_pos hall]
    have hc:c'=true:=by rw [f2,hall];rfl
    subst hc
    rw [←f3 rfl]at hs ⊢
    rw [osum,sumD_zero gx,if_pos rfl]at hs ⊢
    rw [fsum_true]
    cases ho:osum x xs with
    | none=>rw [ho]at hs;cases hs
    | some t=>rfl
   ·cases hs
  ·refine Evt.step (F:=fun k q=>impl_reckoner_determinant_B k (impl_reckoner_determinant_R k q) b m) (fun k q=>rfl) ?_
   refine Evt.eq (f:=fun k q=>_) ?_ (fun k q=>by rw [impl_reckoner_determinant_B])
   refine Evt.cfalse (by rw [hm];simp;omega) (Evt.ctrue (by rw [hm];simp;omega) ?_)
   rw [hrw]
   refine Evt.inr q3 (Evt.bind (total_ev gx (fun y hy=>q2 y (by simp [hy])) (by simp at hol;simp only [lenB];omega)) (.const ?_))
   rw [←hsn]
end Go.Ev.G

namespace Go.Ev.G
open Go Go.Ev
set_option maxRecDepth 100000

def dtV(m:List Pt):(Int×Int)×Bool:=if tab gd m then oV (detO (m.length - 1) m)else((0,0),false)

theorem spec_det_ev{m:List Pt}{n:Nat}(hn:n≤2)(h:sq gd (n+1) m):Evt (fun k _=>spec_mxDet k m) (oV (detO n m)) :=
 Evt.eq (Evt.diag (mxDet_ev n m hn h)) (fun k q=>by rw [spec_mxDet])
theorem impl_det_ev{m:List Pt}{n:Nat}(hn:n≤2)(h:sq gd (n+1) m)(b:Bool):∃v,(gd v∧(1≤n→(b&&(detO n m).isSome)=false→v=(0,0)))∧(b=true→(detO n m).isSome=true→detO n m=some v)∧Evt (fun k _=>impl_reckoner_determinant k b m) (v,b&&(detO n m).isSome):=by
 obtain⟨v,h1,h2,h3⟩:=det_ev n m hn h b
 exact⟨v,h1,h2,Evt.eq (Evt.diag h3) (fun k q=>by rw [impl_reckoner_determinant])⟩

def adjT(n:Nat)(m:List Pt)(i:Nat):List (Option (Int×Int)):=(List.range (n+2)).map fun k=>(detO n (partV m k i)).map (ngD (i+k))
theorem adjT_get{n i c:Nat}{m:List Pt}{d r:List (Option (Int×Int))}{t:Option (Int×Int)}(h:d++t::r=adjT n m i)(hc:d.length=c):t=(detO n (partV m c i)).map (ngD (i+c))∧c≤n+1:=by
 have hl:=congrArg List.length h
 simp [adjT]at hl
 have h2:(d++t::r)[d.length]? = some t:=by simp
 rw [h,adjT,List.getElem?_map,List.getElem?_range (by omega)]at h2
 simp only [Option.map_some,Option.some.injEq]at h2
 rw [←hc]
 exact⟨h2.symm,by omega⟩
def adjRow(n:Nat)(m:List Pt)(i:Nat):Option Pt:=if (adjT n m i).all (·.isSome)then some ((adjT n m i).map fun o=>o.getD (0,0))else none
def adjV(n:Nat)(m:List Pt):List Pt×Bool:=if ((List.range (n+2)).all fun i=>(adjRow n m i).isSome)then((List.range (n+2)).map fun i=>(adjRow n m i).getD [],true)else([],false)

theorem rng_at{N:Nat}{d r:List Nat}{e:Nat}(h:d++e::r=List.range N):e=d.length∧d.length<N:=by
 have hl:=congrArg List.length h
 simp at hl
 have h2:(d++e::r)[d.length]? = some e:=by simp
 rw [h,List.getElem?_range (by omega)]at h2
 cases h2
 exact⟨rfl,by omega⟩

theorem spec_adjoint_ev{n:Nat}{m:List Pt}(hn:n+1≤2)(h:sq gd (n+2) m):Evt (fun k _=>spec_mxAdjoint k m) (adjV n m):=by
 refine Evt.eq (f:=fun k q=>_) ?_ (fun k q=>by rw [spec_mxAdjoint])
 have hm:=h.1
 refine Evt.cfalse (by rw [hm];simp;omega) ?_
 have inner:∀(x4:List Pt) (i:Nat) (x17 x18:Int),i≤n+1→∀(r d:List (Option (Int×Int))),d++r=adjT n m i →
   Evt (fun k q=>spec_mxAdjoint_L125338 k q m x4 (i:Int) (d.map fun o=>o.getD (0,0)) x17 x18 (m.length:Int) d.length) (if (r.all (·.isSome))then .inr (m,x4,(adjT n m i).map fun o=>o.getD (0,0),x17,x18,())else .inl ([],false)):=by
  intro x4 i x17 x18 hi r
  induction r with
  | nil =>
   intro d hd
   refine Evt.step (fun k q=>spec_mxAdjoint_L125338.eq_2 k _ _ _ _ _ _ _ _ q) ?_
   rw [List.append_nil]at hd
   have:d.length=n+2:=by rw [hd];simp [adjT]
   rw [hd]
   refine Evt.cfalse (decide_eq_false (by rw [←hd];omega)) .pure
  | cons t r ih =>
   intro d hd
   obtain⟨ht,hc⟩:=adjT_get hd rfl
   refine Evt.step (fun k q=>spec_mxAdjoint_L125338.eq_2 k _ _ _ _ _ _ _ _ q) (Evt.ctrue (decide_eq_true (by omega)) ?_)
   have ih:=ih (d ++ [t]) (by simpa using hd)
   generalize hcd:d.length=c at ht hc ⊢
   have hnx:IntKind.wrap .i64 ((c:Int)+1)=((d ++ [t]).length:Int):=by rw [w64_next (by simp only [lenB];omega)];simp;omega
   rw [←hnx]at ih
   refine Evt.bind (mxPart_ev h hn hi) (Evt.bind (spec_det_ev (by omega) (sq_part h hc hi)) ?_)
   cases hdo:detO n (partV m c i)with
   | none =>
    rw [hdo]at ht
    simp only [List.all_cons,ht,Option.map_none,Option.isSome_none,Bool.false_and]
    exact Evt.ctrue rfl .pure
   | some dv =>
    rw [hdo]at ht
    have gdv:=detO_gd n _ _ (sq_part h hc hi) hdo
    refine Evt.cfalse rfl ?_
    refine Evt.inr (y:=(m,x4,(i:Int),d.map fun o=>o.getD (0,0),ngD (i+c) dv,x17,x18,(m.length:Int),(c:Int),())) ?_ ?_
    ·have e:IntKind.wrap .i64 ((i:Int)+(c:Int))=((i+c:Nat):Int):=by rw [w64 (by omega) (by omega)];omega
     rw [e,tmod_odd]
     unfold ngD
     by_cases hodd:(i+c) % 2=1
     ·rw [if_pos hodd]
      exact Evt.ctrue (decide_eq_true hodd) (Evt.bind (.const (dyMinus_eq gdv)) .pure)
     ·rw [if_neg hodd]
      exact Evt.cfalse (decide_eq_false hodd) .pure
    ·rw [List.map_append]at ih
     simp only [List.all_cons,ht,Option.map_some,Option.isSome_some,Bool.true_and]
     rw [ht]at ih
     exact Evt.ctrue (by simp;omega) ih
 have key:∀(r d:List Nat),d++r=List.range (n+2)→Evt (fun k q=>spec_mxAdjoint_L122 k q m (d.map fun i=>(adjRow n m i).getD []) (m.length:Int) d.length) (if (r.all fun i=>(adjRow n m i).isSome)then .inr ((List.range (n+2)).map fun i=>(adjRow n m i).getD [],())else .inl ([],false)):=by
  intro r
  induction r with
  | nil =>
   intro d hd
   refine Evt.step (fun k q=>spec_mxAdjoint_L122.eq_2 k _ _ _ _ q) ?_
   rw [List.append_nil]at hd
   have:d.length=n+2:=by rw [hd];simp
   rw [hd]
   exact Evt.cfalse (decide_eq_false (by rw [←hd];omega)) .pure
  | cons e r ih =>
   intro d hd
   obtain⟨he,hlt⟩:=rng_at hd
   refine Evt.step (fun k q=>spec_mxAdjoint_L122.eq_2 k _ _ _ _ q) (Evt.ctrue (decide_eq_true (by omega)) ?_)
   have ih:=ih (d ++ [e]) (by simpa using hd)
   have hnx:IntKind.wrap .i64 ((d.length:Int)+1)=((d ++ [e]).length:Int):=by rw [w64_next (by simp only [lenB];omega)];simp
   rw [←hnx]at ih
   have hi:=inner (d.map fun i=>(adjRow n m i).getD []) d.length (m.length:Int) (d.length:Int) (by omega) (adjT n m d.length) [] rfl
   simp only [List.length_nil,List.map_nil]at hi
   rw [List.map_append,List.map_cons]at ih
   rw [he]at ih ⊢
   cases hall:(adjT n m d.length).all (·.isSome)with
   | false =>
    rw [hall]at hi
    have hr:adjRow n m d.length=none:=by unfold adjRow;rw [hall];rfl
    simp only [List.all_cons,hr,Option.isSome_none,Bool.false_and]
    exact Evt.inl (Evt.diag hi) .pure
   | true =>
    rw [hall]at hi
    have hr:adjRow n m d.length=some ((adjT n m d.length).map fun o=>o.getD (0,0)):=by unfold adjRow;rw [hall];rfl
    rw [hr]at ih
    simp only [List.all_cons,hr,Option.isSome_some,Bool.true_and]
    exact Evt.inr (Evt.diag hi) (Evt.ctrue (by simp;omega) ih)
 have h0:=key (List.range (n+2)) [] rfl
 simp only [List.length_nil,List.map_nil]at h0
 unfold adjV
 cases hall:(List.range (n+2)).all fun i=>(adjRow n m i).isSome with
 | true=>rw [hall]at h0;exact Evt.inr (Evt.diag h0) .pure
 | false=>rw [hall]at h0;exact Evt.inl (Evt.diag h0) .pure

theorem impl_adjoint_ev{n:Nat}{m:List Pt}(hn:n+1≤2)(h:sq gd (n+2) m):Evt (fun k _=>impl_adjoint k m) (adjV n m):=by
 refine Evt.eq (f:=fun k q=>_) ?_ (fun k q=>by rw [impl_adjoint])
 have hm:=h.1
 refine Evt.cfalse (by rw [hm];simp;omega) ?_
 have inner:∀(x5:List Pt) (i:Nat) (x19 x20:Int),i≤n+1→∀(b0:Bool) (r d:List (Option (Int×Int))) (c:Bool) (o:Pt),d++r=adjT n m i→Flag (fun t=>t) (0,0) b0 d c o →
   ∃c' o',Flag (fun t=>t) (0,0) b0 (adjT n m i) c' o'∧Evt (fun k q=>impl_adjoint_L256410 k q m c x5 (i:Int) o x19 x20 (m.length:Int) d.length) (.inr (m,c',x5,o',x19,x20,())):=by
  intro x5 i x19 x20 hi b0 r
  induction r with
  | nil =>
   intro d c o hd hf
   rw [List.append_nil]at hd
   have hdl:d.length=n+2:=by rw [hd];simp [adjT]
   rw [hd]at hf
   exact⟨c,o,hf,Evt.step (fun k q=>impl_adjoint_L256410.eq_2 k _ _ _ _ _ _ _ _ _ q) (Evt.cfalse (decide_eq_false (by omega)) .pure)⟩
  | cons t r ih =>
   intro d c o hd hf
   obtain⟨ht,hc⟩:=adjT_get hd rfl
   generalize hcd:d.length=j at ht hc
   obtain⟨v,⟨gv,_⟩,hv,hev⟩:=impl_det_ev (n:=n) (by omega) (sq_part h hc hi) c
   have hst:=Flag.step (e:=t) (v:=ngD (i+j) v) hf (by
    intro hcb hs
    rw [ht]at hs ⊢
    cases hdo:detO n (partV m j i)with
    | none=>rw [hdo]at hs;cases hs
    | some dv =>
     have:=hv hcb (by rw [hdo];rfl)
     rw [hdo]at this
     cases this
     rfl)
   have hts:t.isSome=(detO n (partV m j i)).isSome:=by rw [ht];simp
   rw [hts]at hst
   obtain⟨c',o',q1,q3⟩:=ih (d ++ [t]) _ _ (by simpa using hd) hst
   refine⟨c',o',q1,Evt.step (fun k q=>impl_adjoint_L256410.eq_2 k _ _ _ _ _ _ _ _ _ q) (Evt.ctrue (decide_eq_true (by omega)) ?_)⟩
   have hnx:IntKind.wrap .i64 ((j:Int)+1)=((d ++ [t]).length:Int):=by rw [w64_next (by simp only [lenB];omega)];simp;omega
   rw [←hnx]at q3
   refine Evt.bind (impl_part_ev h hn hi) (Evt.bind hev ?_)
   refine Evt.inr (y:=(m,(c&&(detO n (partV m j i)).isSome),x5,(i:Int),o,ngD (i+j) v,x19,x20,(m.length:Int),(j:Int),())) ?_ ?_
   ·have e:IntKind.wrap .i64 ((i:Int)+(j:Int))=((i+j:Nat):Int):=by rw [w64 (by omega) (by omega)];omega
    rw [e,tmod_odd]
    unfold ngD
    by_cases hodd:(i+j) % 2=1
    ·rw [if_pos hodd]
     exact Evt.ctrue (decide_eq_true hodd) (Evt.bind (.const (minus_eq gv)) .pure)
    ·rw [if_neg hodd]
     exact Evt.cfalse (decide_eq_false hodd) .pure
   ·have hol:=hf.1
    exact Evt.ctrue (by simp;omega) q3
 have key:∀(r d:List Nat) (c:Bool) (o:List Pt),d++r=List.range (n+2)→Flag (adjRow n m) [] true d c o →
   ∃c' o',Flag (adjRow n m) [] true (List.range (n+2)) c' o'∧Evt (fun k q=>impl_adjoint_L250 k q m c o (m.length:Int) d.length) (.inr (c',o',())):=by
  intro r
  induction r with
  | nil =>
   intro d c o hd hf
   rw [List.append_nil]at hd
   have hdl:d.length=n+2:=by rw [hd];simp
   rw [hd]at hf
   exact⟨c,o,hf,Evt.step (fun k q=>impl_adjoint_L250.eq_2 k _ _ _ _ _ q) (Evt.cfalse (decide_eq_false (by omega)) .pure)⟩
  | cons e r ih =>
   intro d c o hd hf
   obtain⟨he,hlt⟩:=rng_at hd
   obtain⟨c1,o1,⟨f1,f2,f3⟩,q0⟩:=inner o d.length (m.length:Int) (d.length:Int) (by omega) c (adjT n m d.length) [] c [] rfl Flag.nil
   simp only [List.length_nil]at q0
   have hst:=Flag.step (e:=e) (v:=o1) hf (by
    intro hc hs
    subst hc
    rw [he]at hs ⊢
    unfold adjRow at hs ⊢
    split at hs
    ·rename_i hall
     rw [if_pos hall,←f3 (by rw [f2,hall];rfl)]
    ·cases hs)
   have e2:(c&&(adjRow n m e).isSome)=c1:=by
    rw [f2,he]
    unfold adjRow
    cases (adjT n m d.length).all (·.isSome) <;> rfl
   rw [e2]at hst
   obtain⟨c',o',q1,q2⟩:=ih (d ++ [e]) c1 (o ++ [o1]) (by simpa using hd) hst
   refine⟨c',o',q1,Evt.step (fun k q=>impl_adjoint_L250.eq_2 k _ _ _ _ _ q) (Evt.ctrue (decide_eq_true (by omega)) ?_)⟩
   have hnx:IntKind.wrap .i64 ((d.length:Int)+1)=((d ++ [e]).length:Int):=by rw [w64_next (by simp only [lenB];omega)];simp
   rw [←hnx]at q2
   have hol:=hf.1
   exact Evt.inr (Evt.diag q0) (Evt.ctrue (by simp;omega) q2)
 obtain⟨c',o',⟨f1,f2,f3⟩,q2⟩:=key (List.range (n+2)) [] true [] rfl Flag.nil
 rw [Bool.true_and]at f2
 simp only [List.length_nil]at q2
 refine Evt.inr (Evt.diag q2) ?_
 unfold adjV
 rw [←f2]
 cases c' with
 | true=>rw [←f3 rfl];exact Evt.cfalse rfl .pure
 | false=>exact Evt.ctrue rfl .pure

def ajV(m:List Pt):List Pt×Bool:=if tab gd m then(if m.length=1 then([[(1,0)]],true)else adjV (m.length - 2) m)else([],false)
theorem ajV_len{m:List Pt}:(ajV m).1.length≤3∧∀r∈(ajV m).1,r.length≤3:=by
 unfold ajV
 split
 ·rename_i ht
  obtain⟨n,hn,hsq⟩:=sq_tab ht
  have hm:=hsq.1
  split
  ·simp
  ·unfold adjV
   split
   ·refine⟨by simp;omega,?_⟩
    intro r hr
    obtain⟨i,_,rfl⟩:=List.mem_map.1 hr
    unfold adjRow
    split
    ·simp [adjT];omega
    ·simp
   ·simp
 ·simp
end Go.Ev.G

namespace Go.Ev.G
open Go Go.Ev
set_option maxRecDepth 100000

theorem sv_inj{a b:Int×Int}(ha:gd a)(hb:gd b)(h:sv a=sv b):a=b:=by
 have key:∀ {n m:Int} {j i:Nat},j<i→i≤24→(i=0∨m % 2≠0)→n*2 ^ (24 - j)=m*2 ^ (24 - i)→False:=by
  intro n m j i hji hi hodd e
  have e1:(24 - j)=(i - j)+(24 - i):=by omega
  rw [e1,Int.pow_add,←Int.mul_assoc]at e
  have hp:(2:Int) ^ (24 - i)≠0:=Int.ne_of_gt (Int.pow_pos (by omega))
  have e2:=Int.eq_of_mul_eq_mul_right hp e
  have e3:i - j=(i - j - 1)+1:=by omega
  rw [e3,Int.pow_succ,←Int.mul_assoc]at e2
  omega
 obtain⟨n,j,rfl,hj,_,_,hn⟩:=gd_nat ha
 obtain⟨m,i,rfl,hi,_,_,hm⟩:=gd_nat hb
 unfold sv at h
 simp only [Int.toNat_natCast]at h
 rcases Nat.lt_trichotomy j i with hlt | rfl | hlt
 ·exact(key hlt hi hm h).elim
 ·have hp:(2:Int) ^ (24 - j)≠0:=Int.ne_of_gt (Int.pow_pos (by omega))
  rw [Int.eq_of_mul_eq_mul_right hp h]
 ·exact(key hlt hj hn h.symm).elim

end Go.Ev.G

namespace Go.Ev.G
open Go Go.Ev
set_option maxRecDepth 100000

theorem sv_mkD{n:Int}{k:Nat}(h:(mkD n k).2=true):sv (mkD n k).1*2 ^ k=n*2 ^ 24:=by
 unfold mkD at h ⊢
 split at h
 ·rename_i hs
  rw [if_pos hs]
  have hv:=strip_val k n
  have hle:=strip_le k n
  generalize strip k n=s at hv hle hs
  unfold sv
  simp only [Int.toNat_natCast]
  rw [←hv,Int.mul_assoc,Int.mul_assoc,←Int.pow_add,←Int.pow_add]
  congr 2
  omega
 ·cases h
end Go.Ev.G

namespace Go.Ev.G
open Go Go.Ev
set_option maxRecDepth 100000

abbrev TT:Int:=16777216
theorem two24:(2:Int) ^ 24=TT:=by decide
theorem gd_k{a:Int×Int}(h:gd a):a.2.toNat≤24:=by unfold gd at h;omega
theorem sv_prod{a b:Int×Int}(ha:gd a)(hb:gd b)(h:(prodD a b).2=true):sv (prodD a b).1*TT=sv a*sv b:=by
 have h1:=sv_mkD h
 have ka:=gd_k ha
 have kb:=gd_k hb
 have hp:(0:Int)<2 ^ (a.2.toNat+b.2.toNat):=Int.pow_pos (by omega)
 have h1:sv (prodD a b).1*2 ^ (a.2.toNat+b.2.toNat)=a.1*b.1*2 ^ 24:=h1
 refine Int.eq_of_mul_eq_mul_right (Int.ne_of_gt hp) ?_
 have e:(2:Int) ^ (24 - a.2.toNat)*2 ^ (24 - b.2.toNat)*2 ^ (a.2.toNat+b.2.toNat)=2 ^ 24*TT:=by
  rw [←two24,←Int.pow_add,←Int.pow_add,←Int.pow_add]
  congr 1
  omega
 calc sv (prodD a b).1*TT*2 ^ (a.2.toNat+b.2.toNat)=(sv (prodD a b).1*2 ^ (a.2.toNat+b.2.toNat))*TT:=by rw [Int.mul_assoc,Int.mul_comm TT,Int.mul_assoc]
  _=a.1*b.1*(2 ^ 24*TT):=by rw [h1,Int.mul_assoc]
  _=a.1*b.1*(2 ^ (24 - a.2.toNat)*2 ^ (24 - b.2.toNat)*2 ^ (a.2.toNat+b.2.toNat)):=by rw [e]
  _=sv a*sv b*2 ^ (a.2.toNat+b.2.toNat):=by
   unfold sv
   generalize (2:Int) ^ (24 - a.2.toNat)=p
   generalize (2:Int) ^ (24 - b.2.toNat)=q
   generalize (2:Int) ^ (a.2.toNat+b.2.toNat)=r
   grind
theorem sv_sum{a b:Int×Int}(ha:gd a)(hb:gd b)(h:(sumD a b).2=true):sv (sumD a b).1=sv a+sv b:=by
 have h1:=sv_mkD h
 have ka:=gd_k ha
 have kb:=gd_k hb
 have hp:(0:Int)<2 ^ exA a b:=Int.pow_pos (by omega)
 have h1:sv (sumD a b).1*2 ^ exA a b=sumN a b*2 ^ 24:=h1
 refine Int.eq_of_mul_eq_mul_right (Int.ne_of_gt hp) ?_
 rw [h1]
 have ea:(2:Int) ^ (exA a b - a.2.toNat)*2 ^ 24=2 ^ (24 - a.2.toNat)*2 ^ exA a b:=by
  rw [←Int.pow_add,←Int.pow_add]
  congr 1
  unfold exA
  omega
 have eb:(2:Int) ^ (exA a b - b.2.toNat)*2 ^ 24=2 ^ (24 - b.2.toNat)*2 ^ exA a b:=by
  rw [←Int.pow_add,←Int.pow_add]
  congr 1
  unfold exA
  omega
 unfold sumN sv
 rw [Int.add_mul,Int.add_mul,Int.mul_assoc,Int.mul_assoc,ea,eb,Int.mul_assoc,Int.mul_assoc]
theorem sv_zero:sv (0,0)=0:=by simp [sv]
theorem sv_ng{c:Nat}{x:Int×Int}:sv (ngD c x)=if c % 2=1 then -sv x else sv x:=by
 unfold ngD
 split
 ·exact sv_neg x
 ·rfl
theorem sv_osum:∀ {l:Pt} {s t:Int×Int},gd s→(∀x∈l,gd x)→osum s l=some t→sv t=sv s+(l.map sv).sum
 | [],s,t,_,_,h=>by cases h;simp
 | x::l,s,t,hs,hl,h=>by
  rw [osum]at h
  split at h
  ·rename_i hx
   have h1:=sv_osum (sumD_gd s x) (fun y hy=>hl y (by simp [hy])) h
   rw [h1,sv_sum hs (hl x (by simp)) hx]
   simp only [List.map_cons,List.sum_cons]
   omega
  ·cases h
theorem prO_some{p:(Int×Int)×(Int×Int)}{t:Int×Int}(h:prO p=some t):(prodD p.1 p.2).2=true∧t=(prodD p.1 p.2).1:=by
 unfold prO at h
 split at h
 ·rename_i hp;cases h;exact⟨hp,rfl⟩
 ·cases h
theorem sum_mulT:∀(l:List Int) (c:Int),l.sum*c=(l.map fun x=>x*c).sum
 | [],c=>by simp
 | x::l,c=>by simp only [List.sum_cons,List.map_cons,Int.add_mul,sum_mulT l c]
theorem sv_inn{xs ys:Pt}{t:Int×Int}(hx:∀x∈xs,gd x)(hy:∀y∈ys,gd y)(h:inn xs ys=some t):sv t*TT=((xs.zip ys).map fun p=>sv p.1*sv p.2).sum:=by
 unfold inn at h
 split at h
 ·rename_i ha
  have hg:∀p∈xs.zip ys,gd p.1∧gd p.2:=fun p hp=>⟨hx _ (List.of_mem_zip hp).1,hy _ (List.of_mem_zip hp).2⟩
  rw [List.all_eq_true]at ha
  have hq:∀p∈xs.zip ys,∃q,prO p=some q:=fun p hp=>Option.isSome_iff_exists.1 (ha p hp)
  have h1:=sv_osum (by decide) (fun z hz=>by
   obtain⟨p,hp,rfl⟩:=List.mem_map.1 hz
   obtain⟨q,hq⟩:=hq p hp
   obtain⟨_,rfl⟩:=prO_some hq
   rw [hq];exact prodD_gd _ _) h
  rw [h1,sv_zero,Int.zero_add,sum_mulT,List.map_map,List.map_map]
  congr 1
  refine List.map_congr_left fun p hp => ?_
  obtain⟨q,hq⟩:=hq p hp
  obtain⟨h2,rfl⟩:=prO_some hq
  simp only [Function.comp,hq,Option.getD_some]
  exact sv_prod (hg p hp).1 (hg p hp).2 h2
 ·cases h

theorem tm_some{c:Nat}{a d t:Int×Int}(ha:gd a)(hd:gd d)(h:tmO c a (some d)=some t):gd t∧sv t*TT=if c % 2=1 then -(sv a*sv d)else sv a*sv d:=by
 unfold tmO at h
 simp only at h
 split at h
 ·rename_i hp
  cases h
  have h1:=sv_prod ha hd hp
  refine⟨ngD_gd (prodD_gd _ _),?_⟩
  rw [sv_ng]
  split
  ·rw [Int.neg_mul,h1]
  ·exact h1
 ·cases h
theorem det1{a:Int×Int}:detO 0 [[a]]=some a:=rfl
theorem det2{a b c d t:Int×Int}(ha:gd a)(hb:gd b)(hc:gd c)(hd:gd d)(h:detO 1 [[a,b],[c,d]]=some t):gd t∧sv t*TT=sv a*sv d - sv b*sv c:=by
 have e:detO 1 [[a,b],[c,d]]=(if ([tmO 0 a (some d),tmO 1 b (some c)].all (·.isSome))then osum (0,0) ([tmO 0 a (some d),tmO 1 b (some c)].map fun o=>o.getD (0,0))else none):=rfl
 rw [e]at h
 split at h
 ·rename_i ht
  simp only [List.all_cons,List.all_nil,Bool.and_true,Bool.and_eq_true]at ht
  obtain⟨p,hp⟩:=Option.isSome_iff_exists.1 ht.1
  obtain⟨q,hq⟩:=Option.isSome_iff_exists.1 ht.2
  rw [hp,hq]at h
  simp only [List.map_cons,List.map_nil,Option.getD_some]at h
  obtain⟨g1,e1⟩:=tm_some ha hd hp
  obtain⟨g2,e2⟩:=tm_some hb hc hq
  have gs:∀x ∈ [p,q],gd x:=by
   intro x hx
   simp only [List.mem_cons,List.not_mem_nil,or_false]at hx
   rcases hx with rfl | rfl
   ·exact g1
   ·exact g2
  refine⟨osum_gd _ _ _ (by decide) h,?_⟩
  have:=sv_osum (by decide) gs h
  simp only [List.map_cons,List.map_nil,List.sum_cons,List.sum_nil,sv_zero]at this
  rw [this]
  simp only [Nat.zero_mod,Nat.one_mod,if_true]at e1 e2
  rw [if_neg (by decide)]at e1
  grind
 ·cases h
theorem det3{a b c d e f g h i t:Int×Int}(ha:gd a)(hb:gd b)(hc:gd c)(hd:gd d)(he:gd e)(hf:gd f)(hg:gd g)(hh:gd h)(hi:gd i)(hdet:detO 2 [[a,b,c],[d,e,f],[g,h,i]]=some t) :
  gd t∧sv t*(TT*TT)=sv a*(sv e*sv i - sv f*sv h) - sv b*(sv d*sv i - sv f*sv g)+sv c*(sv d*sv h - sv e*sv g):=by
 have e0:detO 2 [[a,b,c],[d,e,f],[g,h,i]]=(if ([tmO 0 a (detO 1 [[e,f],[h,i]]),tmO 1 b (detO 1 [[d,f],[g,i]]),tmO 2 c (detO 1 [[d,e],[g,h]])].all (·.isSome))then osum (0,0) ([tmO 0 a (detO 1 [[e,f],[h,i]]),tmO 1 b (detO 1 [[d,f],[g,i]]),tmO 2 c (detO 1 [[d,e],[g,h]])].map fun o=>o.getD (0,0))else none):=rfl
 rw [e0]at hdet
 split at hdet
 ·rename_i ht
  simp only [List.all_cons,List.all_nil,Bool.and_true,Bool.and_eq_true]at ht
  obtain⟨ht1,ht2,ht3⟩:=ht
  obtain⟨p,hp⟩:=Option.isSome_iff_exists.1 ht1
  obtain⟨q,hq⟩:=Option.isSome_iff_exists.1 ht2
  obtain⟨r,hr⟩:=Option.isSome_iff_exists.1 ht3
  have get:∀ {c:Nat} {x:Int×Int} {o:Option (Int×Int)} {y:Int×Int},tmO c x o=some y→∃z,o=some z:=by
   intro c x o y h
   cases o with
   | none=>cases h
   | some z=>exact⟨z,rfl⟩
  obtain⟨m1,hm1⟩:=get hp
  obtain⟨m2,hm2⟩:=get hq
  obtain⟨m3,hm3⟩:=get hr
  obtain⟨n1,s1⟩:=det2 he hf hh hi hm1
  obtain⟨n2,s2⟩:=det2 hd hf hg hi hm2
  obtain⟨n3,s3⟩:=det2 hd he hg hh hm3
  rw [hp,hq,hr]at hdet
  rw [hm1]at hp
  rw [hm2]at hq
  rw [hm3]at hr
  obtain⟨g1,e1⟩:=tm_some ha n1 hp
  obtain⟨g2,e2⟩:=tm_some hb n2 hq
  obtain⟨g3,e3⟩:=tm_some hc n3 hr
  simp only [List.map_cons,List.map_nil,Option.getD_some]at hdet
  have gs:∀x ∈ [p,q,r],gd x:=by
   intro x hx
   simp only [List.mem_cons,List.not_mem_nil,or_false]at hx
   rcases hx with rfl | rfl | rfl
   ·exact g1
   ·exact g2
   ·exact g3
  refine⟨osum_gd _ _ _ (by decide) hdet,?_⟩
  have:=sv_osum (by decide) gs hdet
  simp only [List.map_cons,List.map_nil,List.sum_cons,List.sum_nil,sv_zero]at this
  rw [this]
  rw [if_neg (by decide)]at e1 e3
  rw [if_pos (by decide)]at e2
  grind
 ·cases hdet
end Go.Ev.G

namespace Go.Ev.G
open Go Go.Ev
set_option maxRecDepth 100000

inductive Shape:List Pt→Prop where
 | one {a}:gd a→Shape [[a]]
 | two {a b c d}:gd a→gd b→gd c→gd d→Shape [[a,b],[c,d]]
 | three {a b c d e f g h i}:gd a→gd b→gd c→gd d→gd e→gd f→gd g→gd h→gd i→Shape [[a,b,c],[d,e,f],[g,h,i]]
theorem tab_iff{m:List Pt}(h:tab gd m=true):(1≤m.length∧m.length≤3)∧∀r∈m,r.length=m.length∧∀x∈r,gd x:=by
 unfold tab at h
 rw [Bool.and_eq_true,List.all_eq_true]at h
 refine⟨of_decide_eq_true h.1,fun r hr => ?_⟩
 have:=h.2 r hr
 rw [Bool.and_eq_true,List.all_eq_true]at this
 exact⟨of_decide_eq_true this.1,fun x hx=>of_decide_eq_true (this.2 x hx)⟩
theorem tab_shape{m:List Pt}(h:tab gd m=true):Shape m:=by
 obtain⟨hl,hr⟩:=tab_iff h
 match m,hl,hr with
 | [r1],_,hr =>
  obtain⟨l1,g1⟩:=hr r1 (by simp)
  match r1,l1,g1 with
  | [a],_,g1=>exact .one (g1 a (by simp))
 | [r1,r2],_,hr =>
  obtain⟨l1,g1⟩:=hr r1 (by simp)
  obtain⟨l2,g2⟩:=hr r2 (by simp)
  match r1,r2,l1,l2,g1,g2 with
  | [a,b],[c,d],_,_,g1,g2=>exact .two (g1 a (by simp)) (g1 b (by simp)) (g2 c (by simp)) (g2 d (by simp))
 | [r1,r2,r3],_,hr =>
  obtain⟨l1,g1⟩:=hr r1 (by simp)
  obtain⟨l2,g2⟩:=hr r2 (by simp)
  obtain⟨l3,g3⟩:=hr r3 (by simp)
  match r1,r2,r3,l1,l2,l3,g1,g2,g3 with
  | [a,b,c],[d,e,f],[g,h,i],_,_,_,g1,g2,g3 =>
   exact .three (g1 a (by simp)) (g1 b (by simp)) (g1 c (by simp)) (g2 d (by simp)) (g2 e (by simp)) (g2 f (by simp)) (g3 g (by simp)) (g3 h (by simp)) (g3 i (by simp))

theorem mulRow_some{b:List Pt}{row r:Pt}(h:mulRow b row=some r):r.length=b.length∧∀j,j<b.length→∃v,inn row (b.map fun r=>r.getD j (0,0))=some v∧r.getD j (0,0)=v:=by
 unfold mulRow at h
 split at h
 ·rename_i ha
  cases h
  refine⟨by simp [cols],fun j hj => ?_⟩
  rw [List.all_eq_true]at ha
  have hm:(b.map fun r=>r.getD j (0,0))∈cols b:=by
   unfold cols
   exact List.mem_map.2 ⟨j,List.mem_range.2 hj,rfl⟩
  obtain⟨v,hv⟩:=Option.isSome_iff_exists.1 (ha _ hm)
  refine⟨v,hv,?_⟩
  rw [List.getD_eq_getElem?_getD,List.getElem?_map]
  unfold cols
  rw [List.getElem?_map,List.getElem?_range hj]
  show(inn row (b.map fun r=>r.getD j (0,0))).getD (0,0)=v
  rw [hv];rfl
 ·cases h
theorem mt_some{a b p:List Pt}(h:mtV a b=(p,true)):tab gd a=true∧tab gd b=true∧a.length=b.length∧(∀r∈a,∃q,mulRow b r=some q)∧p=a.map fun r=>(mulRow b r).getD []:=by
 unfold mtV at h
 split at h
 ·rename_i hc
  simp only [Bool.and_eq_true,List.all_eq_true]at hc
  cases h
  exact⟨hc.1,hc.2.1,of_decide_eq_true hc.2.2.1,fun r hr=>Option.isSome_iff_exists.1 (hc.2.2.2 r hr),rfl⟩
 ·cases h

theorem inn_gd{xs ys:Pt}{t:Int×Int}(h:inn xs ys=some t):gd t:=by
 unfold inn at h
 split at h
 ·exact osum_gd _ _ _ (by decide) h
 ·cases h

theorem row1{a x:Int×Int}{r:Pt}(ha:gd a)(hx:gd x)(h:mulRow [[x]] [a]=some r):∃v,r = [v]∧gd v∧sv v*TT=sv a*sv x:=by
 obtain⟨hl,hv⟩:=mulRow_some h
 obtain⟨v,h1,h2⟩:=hv 0 (by simp)
 match r,hl with
 | [w],_ =>
  simp at h2
  subst h2
  refine⟨w,rfl,inn_gd h1,?_⟩
  have:=sv_inn (by simpa using ha) (by simpa using hx) h1
  simpa using this
theorem row2{a b x y z w:Int×Int}{r:Pt}(ha:gd a)(hb:gd b)(hx:gd x)(hy:gd y)(hz:gd z)(hw:gd w)(h:mulRow [[x,y],[z,w]] [a,b]=some r) :
  ∃v1 v2,r = [v1,v2]∧gd v1∧gd v2∧sv v1*TT=sv a*sv x+sv b*sv z∧sv v2*TT=sv a*sv y+sv b*sv w:=by
 obtain⟨hl,hv⟩:=mulRow_some h
 obtain⟨v1,p1,q1⟩:=hv 0 (by simp)
 obtain⟨v2,p2,q2⟩:=hv 1 (by simp)
 match r,hl with
 | [r1,r2],_ =>
  simp at q1 q2
  subst q1;subst q2
  refine⟨r1,r2,rfl,inn_gd p1,inn_gd p2,?_,?_⟩
  ·have:=sv_inn (by simp [ha,hb]) (by simp [hx,hz]) p1
   simpa using this
  ·have:=sv_inn (by simp [ha,hb]) (by simp [hy,hw]) p2
   simpa using this
theorem row3{a b c x1 x2 x3 y1 y2 y3 z1 z2 z3:Int×Int}{r:Pt}(ha:gd a)(hb:gd b)(hc:gd c)(hx1:gd x1)(hx2:gd x2)(hx3:gd x3)(hy1:gd y1)(hy2:gd y2)(hy3:gd y3)(hz1:gd z1)(hz2:gd z2)(hz3:gd z3)
  (h:mulRow [[x1,x2,x3],[y1,y2,y3],[z1,z2,z3]] [a,b,c]=some r) :
  ∃v1 v2 v3,r = [v1,v2,v3]∧gd v1∧gd v2∧gd v3∧sv v1*TT=sv a*sv x1+(sv b*sv y1+sv c*sv z1)∧sv v2*TT=sv a*sv x2+(sv b*sv y2+sv c*sv z2)∧sv v3*TT=sv a*sv x3+(sv b*sv y3+sv c*sv z3):=by
 obtain⟨hl,hv⟩:=mulRow_some h
 obtain⟨v1,p1,q1⟩:=hv 0 (by simp)
 obtain⟨v2,p2,q2⟩:=hv 1 (by simp)
 obtain⟨v3,p3,q3⟩:=hv 2 (by simp)
 match r,hl with
 | [r1,r2,r3],_ =>
  simp at q1 q2 q3
  subst q1;subst q2;subst q3
  refine⟨r1,r2,r3,rfl,inn_gd p1,inn_gd p2,inn_gd p3,?_,?_,?_⟩
  ·have:=sv_inn (by simp [ha,hb,hc]) (by simp [hx1,hy1,hz1]) p1
   simpa using this
  ·have:=sv_inn (by simp [ha,hb,hc]) (by simp [hx2,hy2,hz2]) p2
   simpa using this
  ·have:=sv_inn (by simp [ha,hb,hc]) (by simp [hx3,hy3,hz3]) p3
   simpa using this
theorem TT_inj{x y:Int}(h:x*TT=y*TT):x=y:=Int.eq_of_mul_eq_mul_right (by decide) h

theorem dt_some{m:List Pt}{d:Int×Int}(h:dtV m=(d,true)):tab gd m=true∧detO (m.length - 1) m=some d:=by
 unfold dtV at h
 split at h
 ·rename_i ht
  refine⟨ht,?_⟩
  cases hd:detO (m.length - 1) m with
  | none=>rw [hd]at h;cases h
  | some t=>rw [hd]at h;cases h;rfl
 ·cases h
theorem det_mul{u v p:List Pt}{a b c d:Int×Int}(hp:mtV u v=(p,true))(hu:dtV u=(a,true))(hv:dtV v=(b,true))(hc:prodD a b=(c,true))(hd:dtV p=(d,true)):d=c:=by
 obtain⟨t1,t2,hl,hr,rfl⟩:=mt_some hp
 obtain⟨_,d1⟩:=dt_some hu
 obtain⟨_,d2⟩:=dt_some hv
 obtain⟨_,d3⟩:=dt_some hd
 have hcc:∀(ga:gd a) (gb:gd b),gd c∧sv c*TT=sv a*sv b:=fun ga gb=>by
  have h1:=sv_prod ga gb (by rw [hc])
  rw [hc]at h1
  refine⟨?_,h1⟩
  have:=prodD_gd a b
  rw [hc]at this
  exact this
 cases tab_shape t1 with
 | one ga =>
  cases tab_shape t2 with
  | one gx =>
   obtain⟨q,hq⟩:=hr _ List.mem_cons_self
   obtain⟨v1,rfl,g1,e1⟩:=row1 ga gx hq
   simp only [List.map_cons,List.map_nil,hq,Option.getD_some,List.length_cons,List.length_nil]at d3
   rw [show(0+1 - 1:Nat)=0 by rfl]at d3
   rw [det1]at d3
   simp only [List.length_cons,List.length_nil]at d1 d2
   rw [show(0+1 - 1:Nat)=0 by rfl,det1]at d1 d2
   cases d1;cases d2;cases d3
   obtain⟨gc,ec⟩:=hcc ga gx
   exact sv_inj g1 gc (TT_inj (by rw [e1,ec]))
  | two=>simp at hl
  | three=>simp at hl
 | two ga gb gc gd' =>
  cases tab_shape t2 with
  | one=>simp at hl
  | two gx gy gz gw =>
   obtain⟨q1,hq1⟩:=hr _ List.mem_cons_self
   obtain⟨q2,hq2⟩:=hr _ (List.mem_cons_of_mem _ List.mem_cons_self)
   obtain⟨v1,v2,rfl,g1,g2,e1,e2⟩:=row2 ga gb gx gy gz gw hq1
   obtain⟨v3,v4,rfl,g3,g4,e3,e4⟩:=row2 gc gd' gx gy gz gw hq2
   simp only [List.map_cons,List.map_nil,hq1,hq2,Option.getD_some,List.length_cons,List.length_nil]at d3
   simp only [List.length_cons,List.length_nil]at d1 d2
   rw [show(0+1+1 - 1:Nat)=1 by rfl]at d1 d2 d3
   obtain⟨h1,s1⟩:=det2 ga gb gc gd' d1
   obtain⟨h2,s2⟩:=det2 gx gy gz gw d2
   obtain⟨h3,s3⟩:=det2 g1 g2 g3 g4 d3
   obtain⟨gcc,ec⟩:=hcc h1 h2
   refine sv_inj h3 gcc (TT_inj (TT_inj (TT_inj ?_)))
   grind
  | three=>simp at hl
 | three g11 g12 g13 g21 g22 g23 g31 g32 g33 =>
  cases tab_shape t2 with
  | one=>simp at hl
  | two=>simp at hl
  | three k11 k12 k13 k21 k22 k23 k31 k32 k33 =>
   obtain⟨q1,hq1⟩:=hr _ List.mem_cons_self
   obtain⟨q2,hq2⟩:=hr _ (List.mem_cons_of_mem _ List.mem_cons_self)
   obtain⟨q3,hq3⟩:=hr _ (List.mem_cons_of_mem _ (List.mem_cons_of_mem _ List.mem_cons_self))
   obtain⟨v1,v2,v3,rfl,i1,i2,i3,e1,e2,e3⟩:=row3 g11 g12 g13 k11 k12 k13 k21 k22 k23 k31 k32 k33 hq1
   obtain⟨v4,v5,v6,rfl,i4,i5,i6,e4,e5,e6⟩:=row3 g21 g22 g23 k11 k12 k13 k21 k22 k23 k31 k32 k33 hq2
   obtain⟨v7,v8,v9,rfl,i7,i8,i9,e7,e8,e9⟩:=row3 g31 g32 g33 k11 k12 k13 k21 k22 k23 k31 k32 k33 hq3
   simp only [List.map_cons,List.map_nil,hq1,hq2,hq3,Option.getD_some,List.length_cons,List.length_nil]at d3
   simp only [List.length_cons,List.length_nil]at d1 d2
   rw [show(0+1+1+1 - 1:Nat)=2 by rfl]at d1 d2 d3
   obtain⟨h1,s1⟩:=det3 g11 g12 g13 g21 g22 g23 g31 g32 g33 d1
   obtain⟨h2,s2⟩:=det3 k11 k12 k13 k21 k22 k23 k31 k32 k33 d2
   obtain⟨h3,s3⟩:=det3 i1 i2 i3 i4 i5 i6 i7 i8 i9 d3
   obtain⟨gcc,ec⟩:=hcc h1 h2
   have key:∀(a b c d e f g h i a' b' c' d' e' f' g' h' i' v1 v2 v3 v4 v5 v6 v7 v8 v9 p q r t:Int),v1*TT=a*a'+(b*d'+c*g')→v2*TT=a*b'+(b*e'+c*h')→v3*TT=a*c'+(b*f'+c*i')→v4*TT=d*a'+(e*d'+f*g')→v5*TT=d*b'+(e*e'+f*h')→v6*TT=d*c'+(e*f'+f*i')→v7*TT=g*a'+(h*d'+i*g')→v8*TT=g*b'+(h*e'+i*h')→v9*TT=g*c'+(h*f'+i*i') →
     p*(TT*TT)=a*(e*i-f*h) - b*(d*i-f*g)+c*(d*h-e*g)→q*(TT*TT)=a'*(e'*i'-f'*h') - b'*(d'*i'-f'*g')+c'*(d'*h'-e'*g')→r*(TT*TT)=v1*(v5*v9-v6*v8) - v2*(v4*v9-v6*v7)+v3*(v4*v8-v5*v7)→t*TT=p*q→r*TT*TT*TT*TT*TT=t*TT*TT*TT*TT*TT:=by
    intro a b c d e f g h i a' b' c' d' e' f' g' h' i' v1 v2 v3 v4 v5 v6 v7 v8 v9 p q r t w1 w2 w3 w4 w5 w6 w7 w8 w9 wp wq wr wt
    have e1:r*TT*TT*TT*TT*TT=(v1*TT)*((v5*TT)*(v9*TT)-(v6*TT)*(v8*TT)) - (v2*TT)*((v4*TT)*(v9*TT)-(v6*TT)*(v7*TT))+(v3*TT)*((v4*TT)*(v8*TT)-(v5*TT)*(v7*TT)):=by
     have:r*TT*TT*TT*TT*TT=r*(TT*TT)*(TT*TT*TT):=by grind
     rw [this,wr];grind
    have e2:t*TT*TT*TT*TT*TT=(p*(TT*TT))*(q*(TT*TT)):=by
     have:t*TT*TT*TT*TT*TT=(t*TT)*(TT*TT*TT*TT):=by grind
     rw [this,wt];grind
    rw [e1,e2,w1,w2,w3,w4,w5,w6,w7,w8,w9,wp,wq]
    grind
   exact sv_inj h3 gcc (TT_inj (TT_inj (TT_inj (TT_inj (TT_inj (key _ _ _ _ _ _ _ _ _ _ _ _ _ _ _ _ _ _ _ _ _ _ _ _ _ _ _ _ _ _ _ e1 e2 e3 e4 e5 e6 e7 e8 e9 s1 s2 s3 ec))))))
end Go.Ev.G

namespace Go.Ev.G
open Go Go.Ev
set_option maxRecDepth 100000

def idT(n:Nat)(d:Int×Int):List Pt:=(List.range n).map fun i=>(List.range n).map fun k=>if i=k then d else(0,0)
theorem adj_some{n:Nat}{m A:List Pt}(h:adjV n m=(A,true)):A=(List.range (n+2)).map (fun i=>(adjRow n m i).getD [])∧∀i,i<n+2→∃r,adjRow n m i=some r:=by
 unfold adjV at h
 split at h
 ·rename_i ha
  cases h
  rw [List.all_eq_true]at ha
  exact⟨rfl,fun i hi=>Option.isSome_iff_exists.1 (ha i (List.mem_range.2 hi))⟩
 ·cases h
theorem adjRow_some{n:Nat}{m:List Pt}{i:Nat}{r:Pt}(h:adjRow n m i=some r):r=(adjT n m i).map (fun o=>o.getD (0,0))∧∀k,k<n+2→∃e,detO n (partV m k i)=some e:=by
 unfold adjRow at h
 split at h
 ·rename_i ha
  cases h
  refine⟨rfl,fun k hk => ?_⟩
  rw [List.all_eq_true]at ha
  have:=ha ((detO n (partV m k i)).map (ngD (i+k))) (by unfold adjT;exact List.mem_map.2 ⟨k,List.mem_range.2 hk,rfl⟩)
  cases hd:detO n (partV m k i)with
  | none=>rw [hd]at this;cases this
  | some e=>exact⟨e,rfl⟩
 ·cases h
theorem aj_some{m A:List Pt}(h:ajV m=(A,true)):tab gd m=true∧((m.length=1∧A = [[(1,0)]])∨(m.length≠1∧adjV (m.length - 2) m=(A,true))):=by
 unfold ajV at h
 split at h
 ·rename_i ht
  refine⟨ht,?_⟩
  split at h
  ·rename_i h1;cases h;exact .inl ⟨h1,rfl⟩
  ·rename_i h1;exact .inr ⟨h1,h⟩
 ·cases h
theorem sv_one:sv (1,0)=TT:=by decide
theorem eq_zero_of{x:Int×Int}(h:gd x)(e:sv x=0):x=(0,0):=sv_inj h (by decide) (by rw [e,sv_zero])

theorem adj_mul{m A p:List Pt}{d:Int×Int}(ha:ajV m=(A,true))(hd:dtV m=(d,true))(hp:mtV A m=(p,true)):p=idT m.length d:=by
 obtain⟨t1,ha⟩:=aj_some ha
 obtain⟨_,d1⟩:=dt_some hd
 obtain⟨_,_,_,hr,rfl⟩:=mt_some hp
 cases tab_shape t1 with
 | @one a ga =>
  rcases ha with ⟨_,rfl⟩ | ⟨h1,_⟩
  ·simp only [List.length_cons,List.length_nil]at d1
   rw [show(0+1 - 1:Nat)=0 by rfl,det1]at d1
   cases d1
   obtain⟨q,hq⟩:=hr _ List.mem_cons_self
   obtain⟨v,rfl,gv,ev⟩:=row1 (by decide) ga hq
   rw [sv_one]at ev
   have:v=d:=sv_inj gv ga (TT_inj (by rw [ev,Int.mul_comm]))
   subst this
   simp [hq,idT]
  ·exact absurd rfl h1
 | @two a b c e ga gb gc ge =>
  rcases ha with ⟨h1,_⟩ | ⟨_,ha⟩
  ·simp at h1
  ·have e0:adjV 0 [[a,b],[c,e]]=([[ngD 0 e,ngD 1 b],[ngD 1 c,ngD 2 a]],true):=rfl
   rw [show([[a,b],[c,e]]:List Pt).length - 2=0 by rfl,e0]at ha
   cases ha
   simp only [List.length_cons,List.length_nil]at d1
   rw [show(0+1+1 - 1:Nat)=1 by rfl]at d1
   obtain⟨gd1,sd⟩:=det2 ga gb gc ge d1
   obtain⟨q1,hq1⟩:=hr _ List.mem_cons_self
   obtain⟨q2,hq2⟩:=hr _ (List.mem_cons_of_mem _ List.mem_cons_self)
   obtain⟨v1,v2,rfl,g1,g2,e1,e2⟩:=row2 (ngD_gd ge) (ngD_gd gb) ga gb gc ge hq1
   obtain⟨v3,v4,rfl,g3,g4,e3,e4⟩:=row2 (ngD_gd gc) (ngD_gd ga) ga gb gc ge hq2
   have n0:sv (ngD 0 e)=sv e:=by rw [sv_ng];rfl
   have n1:sv (ngD 1 b) = -sv b:=by rw [sv_ng];rfl
   have n2:sv (ngD 1 c) = -sv c:=by rw [sv_ng];rfl
   have n3:sv (ngD 2 a)=sv a:=by rw [sv_ng];rfl
   rw [n0,n1]at e1 e2
   rw [n2,n3]at e3 e4
   have p1:v1=d:=sv_inj g1 gd1 (TT_inj (by rw [e1,sd];grind))
   have p2:v2=(0,0):=eq_zero_of g2 (TT_inj (by rw [e2];grind))
   have p3:v3=(0,0):=eq_zero_of g3 (TT_inj (by rw [e3];grind))
   have p4:v4=d:=sv_inj g4 gd1 (TT_inj (by rw [e4,sd];grind))
   subst p1;subst p2;subst p3;subst p4
   simp [hq1,hq2,idT,List.range_succ]
 | @three a b c e f g h i j ga gb gc ge gf gg gh gi gj =>
  rcases ha with ⟨h1,_⟩ | ⟨_,ha⟩
  ·simp at h1
  ·rw [show([[a,b,c],[e,f,g],[h,i,j]]:List Pt).length - 2=1 by rfl]at ha
   simp only [List.length_cons,List.length_nil]at d1
   rw [show(0+1+1+1 - 1:Nat)=2 by rfl]at d1
   obtain⟨gd1,sd⟩:=det3 ga gb gc ge gf gg gh gi gj d1
   obtain⟨hA,hrow⟩:=adj_some ha
   obtain⟨r0,h0⟩:=hrow 0 (by omega)
   obtain⟨r1,h1⟩:=hrow 1 (by omega)
   obtain⟨r2,h2⟩:=hrow 2 (by omega)
   obtain⟨w0,m0⟩:=adjRow_some h0
   obtain⟨w1,m1⟩:=adjRow_some h1
   obtain⟨w2,m2⟩:=adjRow_some h2
   obtain⟨x00,y00⟩:=m0 0 (by omega)
   obtain⟨x01,y01⟩:=m0 1 (by omega)
   obtain⟨x02,y02⟩:=m0 2 (by omega)
   obtain⟨x10,y10⟩:=m1 0 (by omega)
   obtain⟨x11,y11⟩:=m1 1 (by omega)
   obtain⟨x12,y12⟩:=m1 2 (by omega)
   obtain⟨x20,y20⟩:=m2 0 (by omega)
   obtain⟨x21,y21⟩:=m2 1 (by omega)
   obtain⟨x22,y22⟩:=m2 2 (by omega)
   have w0:r0 = [ngD 0 x00,ngD 1 x01,ngD 2 x02]:=by
    rw [w0];simp [adjT,List.range_succ,y00,y01,y02]
   have w1:r1 = [ngD 1 x10,ngD 2 x11,ngD 3 x12]:=by
    rw [w1];simp [adjT,List.range_succ,y10,y11,y12]
   have w2:r2 = [ngD 2 x20,ngD 3 x21,ngD 4 x22]:=by
    rw [w2];simp [adjT,List.range_succ,y20,y21,y22]
   have hA:A = [r0,r1,r2]:=by rw [hA];simp [List.range_succ,h0,h1,h2]
   subst hA
   subst w0;subst w1;subst w2
   obtain⟨k00,s00⟩:=det2 gf gg gi gj (show detO 1 [[f,g],[i,j]]=some x00 from y00)
   obtain⟨k01,s01⟩:=det2 gb gc gi gj (show detO 1 [[b,c],[i,j]]=some x01 from y01)
   obtain⟨k02,s02⟩:=det2 gb gc gf gg (show detO 1 [[b,c],[f,g]]=some x02 from y02)
   obtain⟨k10,s10⟩:=det2 ge gg gh gj (show detO 1 [[e,g],[h,j]]=some x10 from y10)
   obtain⟨k11,s11⟩:=det2 ga gc gh gj (show detO 1 [[a,c],[h,j]]=some x11 from y11)
   obtain⟨k12,s12⟩:=det2 ga gc ge gg (show detO 1 [[a,c],[e,g]]=some x12 from y12)
   obtain⟨k20,s20⟩:=det2 ge gf gh gi (show detO 1 [[e,f],[h,i]]=some x20 from y20)
   obtain⟨k21,s21⟩:=det2 ga gb gh gi (show detO 1 [[a,b],[h,i]]=some x21 from y21)
   obtain⟨k22,s22⟩:=det2 ga gb ge gf (show detO 1 [[a,b],[e,f]]=some x22 from y22)
   obtain⟨q1,hq1⟩:=hr _ List.mem_cons_self
   obtain⟨q2,hq2⟩:=hr _ (List.mem_cons_of_mem _ List.mem_cons_self)
   obtain⟨q3,hq3⟩:=hr _ (List.mem_cons_of_mem _ (List.mem_cons_of_mem _ List.mem_cons_self))
   obtain⟨v1,v2,v3,rfl,i1,i2,i3,e1,e2,e3⟩:=row3 (ngD_gd k00) (ngD_gd k01) (ngD_gd k02) ga gb gc ge gf gg gh gi gj hq1
   obtain⟨v4,v5,v6,rfl,i4,i5,i6,e4,e5,e6⟩:=row3 (ngD_gd k10) (ngD_gd k11) (ngD_gd k12) ga gb gc ge gf gg gh gi gj hq2
   obtain⟨v7,v8,v9,rfl,i7,i8,i9,e7,e8,e9⟩:=row3 (ngD_gd k20) (ngD_gd k21) (ngD_gd k22) ga gb gc ge gf gg gh gi gj hq3
   have z0:∀x,sv (ngD 0 x)=sv x:=fun x=>by rw [sv_ng];rfl
   have z1:∀x,sv (ngD 1 x) = -sv x:=fun x=>by rw [sv_ng];rfl
   have z2:∀x,sv (ngD 2 x)=sv x:=fun x=>by rw [sv_ng];rfl
   have z3:∀x,sv (ngD 3 x) = -sv x:=fun x=>by rw [sv_ng];rfl
   have z4:∀x,sv (ngD 4 x)=sv x:=fun x=>by rw [sv_ng];rfl
   simp only [z0,z1,z2,z3,z4]at e1 e2 e3 e4 e5 e6 e7 e8 e9
   have key:∀(v x y z p q r s t u:Int),v*TT=x*s+(y*t+z*u)→x*TT=p→y*TT=q→z*TT=r→v*TT*TT=p*s+(q*t+r*u):=by
    intro v x y z p q r s t u h1 h2 h3 h4
    rw [h1,←h2,←h3,←h4];grind
   have neg:∀(x p:Int),x*TT=p → -x*TT = -p:=by
    intro x p h
    rw [Int.neg_mul,h]
   have p1:v1=d:=sv_inj i1 gd1 (TT_inj (TT_inj (by rw [key _ _ _ _ _ _ _ _ _ _ e1 s00 (neg _ _ s01) s02,Int.mul_assoc (sv d),sd];grind)))
   have p2:v2=(0,0):=eq_zero_of i2 (TT_inj (TT_inj (by rw [key _ _ _ _ _ _ _ _ _ _ e2 s00 (neg _ _ s01) s02];grind)))
   have p3:v3=(0,0):=eq_zero_of i3 (TT_inj (TT_inj (by rw [key _ _ _ _ _ _ _ _ _ _ e3 s00 (neg _ _ s01) s02];grind)))
   have p4:v4=(0,0):=eq_zero_of i4 (TT_inj (TT_inj (by rw [key _ _ _ _ _ _ _ _ _ _ e4 (neg _ _ s10) s11 (neg _ _ s12)];grind)))
   have p5:v5=d:=sv_inj i5 gd1 (TT_inj (TT_inj (by rw [key _ _ _ _ _ _ _ _ _ _ e5 (neg _ _ s10) s11 (neg _ _ s12),Int.mul_assoc (sv d),sd];grind)))
   have p6:v6=(0,0):=eq_zero_of i6 (TT_inj (TT_inj (by rw [key _ _ _ _ _ _ _ _ _ _ e6 (neg _ _ s10) s11 (neg _ _ s12)];grind)))
   have p7:v7=(0,0):=eq_zero_of i7 (TT_inj (TT_inj (by rw [key _ _ _ _ _ _ _ _ _ _ e7 s20 (neg _ _ s21) s22];grind)))
   have p8:v8=(0,0):=eq_zero_of i8 (TT_inj (TT_inj (by rw [key _ _ _ _ _ _ _ _ _ _ e8 s20 (neg _ _ s21) s22];grind)))
   have p9:v9=d:=sv_inj i9 gd1 (TT_inj (TT_inj (by rw [key _ _ _ _ _ _ _ _ _ _ e9 s20 (neg _ _ s21) s22,Int.mul_assoc (sv d),sd];grind)))
   subst p1;subst p2;subst p3;subst p4;subst p5;subst p6;subst p7;subst p8;subst p9
   simp [hq1,hq2,hq3,idT,List.range_succ]

theorem prod_zero(a:Int×Int):prodD a (0,0)=((0,0),true):=by
 unfold prodD mkD
 simp only [Int.mul_zero,strip_zero]
 decide
theorem prod_one{a:Int×Int}(h:gd a):prodD a (1,0)=(a,true):=by
 have hk:=gd_k h
 unfold gd at h
 unfold prodD
 simp only [Int.mul_one]
 show mkD a.1 (a.2.toNat+0)=_
 rw [Nat.add_zero]
 exact mkD_self h
theorem sum_zero_r{a:Int×Int}(h:gd a):sumD a (0,0)=(a,true):=by
 have e:exA a (0,0)=a.2.toNat:=by simp [exA]
 unfold sumD
 rw [e]
 unfold sumN
 rw [e,Nat.sub_self]
 simp only [Int.pow_zero,Int.mul_one,Int.zero_mul,Int.add_zero]
 exact mkD_self h
theorem pr_zero(a:Int×Int):prO (a,(0,0))=some (0,0):=by unfold prO;simp only [prod_zero];rfl
theorem pr_one{a:Int×Int}(h:gd a):prO (a,(1,0))=some a:=by unfold prO;simp only [prod_one h];rfl
theorem gd0:gd (0,0):=by decide
theorem mt_unit{u:List Pt}(h:tab gd u=true)(h1:tab gd (idT u.length (1,0))=true):mtV u (idT u.length (1,0))=(u,true):=by
 cases tab_shape h with
 | @one a ga =>
  have m1:mulRow (idT 1 (1,0)) [a]=some [a]:=by
   simp [mulRow,cols,idT,List.range_succ,inn,pr_one ga,osum,sumD_zero ga]
  unfold mtV
  rw [h,h1]
  simp [m1]
  simp [idT]
 | @two a b c d ga gb gc gd' =>
  have m1:∀a b,gd a→gd b→mulRow (idT 2 (1,0)) [a,b]=some [a,b]:=by
   intro a b ga gb
   simp [mulRow,cols,idT,List.range_succ,inn,pr_one ga,pr_one gb,pr_zero,osum,sumD_zero ga,sumD_zero gb,sum_zero_r ga,sum_zero_r gb,sumD_zero gd0]
  unfold mtV
  rw [h,h1]
  simp [m1 a b ga gb,m1 c d gc gd']
  simp [idT]
 | @three a b c d e f g i j ga gb gc gd' ge gf gg gi gj =>
  have m1:∀a b c,gd a→gd b→gd c→mulRow (idT 3 (1,0)) [a,b,c]=some [a,b,c]:=by
   intro a b c ga gb gc
   simp [mulRow,cols,idT,List.range_succ,inn,pr_one ga,pr_one gb,pr_one gc,pr_zero,osum,sumD_zero ga,sumD_zero gb,sumD_zero gc,sum_zero_r ga,sum_zero_r gb,sum_zero_r gc,sumD_zero gd0]
  unfold mtV
  rw [h,h1]
  simp [m1 a b c ga gb gc,m1 d e f gd' ge gf,m1 g i j gg gi gj]
  simp [idT]
end Go.Ev.G

namespace Go.Ev.G
open Go Go.Ev
set_option maxRecDepth 100000

abbrev Cu:=Unit×Int×Int
def CurOk(c:Cu)(m:Nat):Prop:=0≤c.2.1∧c.2.1≤m∧m≤1000000000
theorem CurOk.mono{c:Cu}{m m':Nat}(h:CurOk c m)(hm:m≤m')(hm':m'≤1000000000):CurOk c m':=⟨h.1,by have:=h.2.1;omega,hm'⟩
theorem and255(x:Int):(((BitVec.ofInt 64 x &&& BitVec.ofInt 64 255).toNat:Nat):Int)≤255:=by
 have h:(BitVec.ofInt 64 x &&& BitVec.ofInt 64 255).toNat≤255:=by
  rw [BitVec.toNat_and]
  have:(BitVec.ofInt 64 255).toNat=255:=by decide
  rw [this]
  exact Nat.and_le_right
 omega
def bytesOk(ks:List Int):Prop:=∀x∈ks,0≤x∧x≤255
theorem next_ok{ks:List Int}(hk:bytesOk ks){c:Cu}{m:Nat}(h:CurOk c m)(hm:m<1000000000):∃r c',spec_l1Cur_next ks c=some (r,c')∧CurOk c' (m+1)∧0≤r∧r≤255:=by
 obtain⟨u,p,s⟩:=c
 obtain⟨h1,h2,_⟩:=h
 simp only at h1 h2
 have w:IntKind.wrap .i64 (p+1)=p+1:=w64 (by omega) (by omega)
 have hmid:∃b:Int,(0≤b∧b≤255)∧((bif (decide (p<(ks.length:Int)))then(bif (decide (0≤p))then(bif (decide (p<(ks.length:Int)))then some (Sum.inr (((),p,s),(IntKind.wrap .i64 (ks.getD (Int.toNat p) 0)),()))else none)else none)else some (Sum.inr (((),p,s),0,())):Option ((Int×Unit×Int×Int) ⊕ ((Unit×Int×Int)×Int×Unit)))=some (.inr (((),p,s),b,()))):=by
  by_cases hlt:p<(ks.length:Int)
  ·have hl:p.toNat<ks.length:=by omega
   have hb:=hk (ks.getD (Int.toNat p) 0) (by rw [List.getD_eq_getElem?_getD,List.getElem?_eq_getElem hl];exact List.getElem_mem hl)
   refine⟨ks.getD (Int.toNat p) 0,hb,?_⟩
   rw [decide_eq_true hlt,decide_eq_true h1,w64 (by omega) (by omega)]
   rfl
  ·refine⟨0,by omega,?_⟩
   rw [decide_eq_false hlt]
   rfl
 obtain⟨b,hb,hmid⟩:=hmid
 unfold spec_l1Cur_next
 simp only
 rw [hmid]
 simp only [both,Option.bind_some,w]
 by_cases hle:p+1≤(ks.length:Int)
 ·rw [decide_eq_true hle]
  exact⟨_,_,rfl,⟨by simp only;omega,by simp only;omega,by omega⟩,hb⟩
 ·rw [decide_eq_false hle]
  refine⟨_,_,rfl,⟨by simp only;omega,by simp only;omega,by omega⟩,?_⟩
  have h3:=and255 (Int.fdiv (IntKind.wrap .u64 ((IntKind.wrap .u64 ((IntKind.wrap .u64 (s*6364136223846793005))+(IntKind.wrap .u64 b)))+1442695040888963407)) (2 ^ min (Int.toNat 40) (IntKind.bits .u64)))
  have e64:IntKind.bits .u64=64:=rfl
  rw [e64]at h3 ⊢
  generalize ((BitVec.ofInt 64 (Int.fdiv (IntKind.wrap .u64 ((IntKind.wrap .u64 ((IntKind.wrap .u64 (s*6364136223846793005))+(IntKind.wrap .u64 b)))+1442695040888963407)) (2 ^ min (Int.toNat 40) 64)) &&& BitVec.ofInt 64 255).toNat:Nat)=z at h3 ⊢
  rw [wu64 (by omega) (by omega),w64 (by omega) (by omega)]
  omega
theorem tmod_rng{x n:Int}(hx:0≤x)(hn:0<n):0≤Int.tmod x n∧Int.tmod x n<n:=by
 rw [Int.tmod_eq_emod_of_nonneg hx]
 exact⟨Int.emod_nonneg _ (by omega),Int.emod_lt_of_pos _ hn⟩
theorem pick_ok{ks:List Int}(hk:bytesOk ks){c:Cu}{m:Nat}(h:CurOk c m)(hm:m+2≤1000000000){n:Int}(hn:n≤1000000):∃r c',spec_l1Cur_pick ks c n=some (r,c')∧CurOk c' (m+2)∧0≤r∧(1≤n→r<n):=by
 unfold spec_l1Cur_pick
 by_cases h1:n≤1
 ·rw [decide_eq_true h1]
  exact⟨0,_,rfl,h.mono (by omega) (by omega),by omega,by omega⟩
 ·rw [decide_eq_false h1,cond_false]
  obtain⟨r,c',e,hc,hr⟩:=next_ok hk h (by omega)
  have e:spec_l1Cur_next ks ((),c.2)=some (r,c'):=e
  have hz:(n==0)=false:=by rw [beq_eq_false_iff_ne];omega
  rw [e,Option.bind_some]
  by_cases h2:n>200
  ·rw [decide_eq_true h2,cond_true]
   obtain⟨r2,c2,e2,hc2,hr2⟩:=next_ok hk hc (by omega)
   have e2:spec_l1Cur_next ks ((),c'.2)=some (r2,c2):=e2
   rw [e2,Option.bind_some,hz]
   have w1:IntKind.wrap .i64 (r*256)=r*256:=w64 (by omega) (by omega)
   have w2:IntKind.wrap .i64 (r*256+r2)=r*256+r2:=w64 (by omega) (by omega)
   simp only [w1,w2]
   have:=tmod_rng (x:=r*256+r2) (n:=n) (by omega) (by omega)
   exact⟨_,_,rfl,hc2,this.1,fun _=>this.2⟩
  ·rw [decide_eq_false h2,cond_false,hz]
   have:=tmod_rng (x:=r) (n:=n) (by omega) (by omega)
   exact⟨_,_,rfl,hc.mono (by omega) (by omega),this.1,fun _=>this.2⟩
theorem one_ok{ks:List Int}(hk:bytesOk ks){c:Cu}{m:Nat}(h:CurOk c m)(hm:m+2≤1000000000){n:Int}(hn:n≤1000000):∃r c',spec_l1Cur_one ks c n=some (r,c')∧CurOk c' (m+2):=by
 obtain⟨r,c',e,hc,_⟩:=pick_ok hk h hm hn
 unfold spec_l1Cur_one
 have e:spec_l1Cur_pick ks ((),c.2) n=some (r,c'):=e
 rw [e]
 exact⟨_,_,rfl,hc⟩
theorem among_ok{ks:List Int}(hk:bytesOk ks){c:Cu}{m:Nat}(h:CurOk c m)(hm:m+2≤1000000000){l:List Int}(h0:l ≠ [])(hl:l.length≤1000):∃r c',spec_l1Cur_among ks c l=some (r,c')∧CurOk c' (m+2)∧r∈l:=by
 have hp:1≤l.length:=List.length_pos_iff.2 h0
 obtain⟨r,c',e,hc,hr0,hr⟩:=pick_ok hk h hm (n:=(l.length:Int)) (by omega)
 have hr:=hr (by omega)
 unfold spec_l1Cur_among
 have e:spec_l1Cur_pick ks ((),c.2) (l.length:Int)=some (r,c'):=e
 rw [e,Option.bind_some,decide_eq_true hr0,decide_eq_true hr]
 refine⟨_,_,rfl,hc,?_⟩
 have hlt:r.toNat<l.length:=by omega
 rw [List.getD_eq_getElem?_getD,List.getElem?_eq_getElem hlt]
 exact List.getElem_mem hlt

def Drw{α:Type}(P:α→Prop)(j:Nat)(f:Nat→Cu→Option (α×Cu)):Prop:=∀(c:Cu) (m:Nat),CurOk c m→m+j≤1000000000→∃v c',Evt (fun k _=>f k c) (v,c')∧CurOk c' (m+j)∧P v
theorem Drw.step{α β:Type}{P:α→Prop}{Q:β→Prop}{j i:Nat}{f:Nat→Cu→Option (α×Cu)}{g:Nat→Cu→α×Cu→Option (β×Cu)}(hf:Drw P j f)(hg:∀v,P v→Drw Q i fun k c=>g k c (v,c))(hgc:∀k c d v,g k c (v,d)=g k d (v,d)):Drw Q (j+i) fun k c=>Option.bind (f k c) fun r=>g k c r:=by
 intro c m h hm
 obtain⟨v,c',e,hc,hp⟩:=hf c m h (by omega)
 obtain⟨w,c2,e2,hc2,hq⟩:=hg v hp c' (m+j) hc (by omega)
 refine⟨w,c2,Evt.bind e ?_,hc2.mono (by omega) (by omega),hq⟩
 exact Evt.eq e2 (fun k n=>hgc k c c' v)
end Go.Ev.G

namespace Go.Ev.G
open Go Go.Ev
set_option maxRecDepth 100000

theorem dyadic_ok{ks:List Int}(hk:bytesOk ks){c:Cu}{m:Nat}(h:CurOk c m)(hm:m+14≤1000000000):∃v c',Evt (fun k _=>spec_l1Cur_dyadic k ks c) (v,c')∧CurOk c' (m+14):=by
 obtain⟨r1,c1,e1,h1,a1,b1⟩:=pick_ok hk h (by omega) (n:=65) (by omega)
 obtain⟨r2,c2,e2,h2,a2,b2⟩:=pick_ok hk h1 (by omega) (n:=60000) (by omega)
 have b1:=b1 (by omega)
 have b2:=b2 (by omega)
 have w1:IntKind.wrap .i64 (r1 - 32)=r1 - 32:=w64 (by omega) (by omega)
 have w2:IntKind.wrap .i64 (r2 - 30000)=r2 - 30000:=w64 (by omega) (by omega)
 obtain⟨r3,c3,e3,h3,m3⟩:=among_ok hk h2 (by omega) (l := [0,1,(-1),3,(-5),7,r1 - 32,r2 - 30000]) (by simp) (by simp)
 obtain⟨r4,c4,e4,h4,m4⟩:=among_ok hk h3 (by omega) (l := [0,0,1,2,3,8,16,24]) (by simp) (by simp)
 obtain⟨r6,c6,e6,h6⟩:=one_ok hk h4 (by omega) (n:=16) (by omega)
 obtain⟨r7,c7,e7,h7,m7⟩:=among_ok hk h6 (by omega) (l := [1099511627776,(-1099511627776),1099511627775,(-1099511627775)]) (by simp) (by simp)
 obtain⟨r8,c8,e8,h8,m8⟩:=among_ok hk h7 (by omega) (l := [0,1,24]) (by simp) (by simp)
 have hb3 : -40000≤r3∧r3≤40000:=by
  simp only [List.mem_cons,List.not_mem_nil,or_false]at m3
  omega
 have hb4:0≤r4∧r4≤24:=by
  simp only [List.mem_cons,List.not_mem_nil,or_false]at m4
  omega
 have hb7 : -1099511627776≤r7∧r7≤1099511627776:=by
  simp only [List.mem_cons,List.not_mem_nil,or_false]at m7
  omega
 have hb8:0≤r8∧r8≤24:=by
  simp only [List.mem_cons,List.not_mem_nil,or_false]at m8
  omega
 have d1:Evt (fun k _=>spec_dyMake k r3 r4) (mkD r3 r4.toNat):=by
  have:=dyMake_ev (n:=r3) (m:=r4.toNat) (by omega) (by omega) (by omega)
  rw [show((r4.toNat:Nat):Int)=r4 by omega]at this
  exact this
 have d2:Evt (fun k _=>spec_dyMake k r7 r8) (mkD r7 r8.toNat):=by
  have:=dyMake_ev (n:=r7) (m:=r8.toNat) (by omega) (by omega) (by omega)
  rw [show((r8.toNat:Nat):Int)=r8 by omega]at this
  exact this
 have e1:spec_l1Cur_pick ks ((),c.2) 65=some (r1,c1):=e1
 have e2:spec_l1Cur_pick ks ((),c1.2) 60000=some (r2,c2):=e2
 have e3:spec_l1Cur_among ks ((),c2.2) [0,1,(-1),3,(-5),7,r1 - 32,r2 - 30000]=some (r3,c3):=e3
 have e4:spec_l1Cur_among ks ((),c3.2) [0,0,1,2,3,8,16,24]=some (r4,c4):=e4
 have e6:spec_l1Cur_one ks ((),c4.2) 16=some (r6,c6):=e6
 have e7:spec_l1Cur_among ks ((),c6.2) [1099511627776,(-1099511627776),1099511627775,(-1099511627775)]=some (r7,c7):=e7
 have e8:spec_l1Cur_among ks ((),c7.2) [0,1,24]=some (r8,c8):=e8
 have i1:spec_dyInt 1=some (1,0):=rfl
 have fin:∀(p q:Int×Int) (b:Bool) (c9:Cu),CurOk c9 (m+14)→∃v c',Evt (fun _ _=>(bif (!b)then(Option.bind (spec_dyInt 1) fun r11=>some (r11,(),c9.2))else some (q,(),c9.2))) (v,c')∧CurOk c' (m+14):=by
  intro p q b c9 h9
  cases b with
  | true=>exact⟨q,_,Evt.cfalse rfl .pure,h9⟩
  | false=>exact⟨(1,0),_,Evt.ctrue rfl (Evt.bind (.const i1) .pure),h9⟩
 have main:∃v c',Evt (fun k n=>(both (R:=(Int×Int)×Unit×Int×Int) (P:=(Int×Int)×(Int×Int)×Bool×(Unit×Int×Int)×Unit) ((bif r6 then(Option.bind (spec_l1Cur_among ks ((),c6.2) ([1099511627776,(-1099511627776),1099511627775,(-1099511627775)]:List Int)) fun r7=>(Option.bind (spec_l1Cur_among ks ((),r7.2.2) ([0,1,24]:List Int)) fun r8=>(Option.bind (spec_dyMake k r7.1 r8.1) fun r9=>some (Sum.inr ((0,0),r9.1,r9.2,((),r8.2.2),())))))else some (Sum.inr ((0,0),(mkD r3 r4.toNat).1,(mkD r3 r4.toNat).2,((),c6.2),())))) (fun q12=>some q12) (fun y10=>(bif (!y10.2.2.1)then(Option.bind (spec_dyInt 1) fun r11=>some (r11,(),y10.2.2.2.1.2))else some (y10.2.1,(),y10.2.2.2.1.2))))) (v,c')∧CurOk c' (m+14):=by
  cases r6 with
  | true =>
   obtain⟨v,c',ev,hc⟩:=fin (0,0) (mkD r7 r8.toNat).1 (mkD r7 r8.toNat).2 c8 (h8.mono (by omega) (by omega))
   exact⟨v,c',Evt.inr (Evt.ctrue rfl (Evt.bind (.const e7) (Evt.bind (.const e8) (Evt.bind d2 .pure)))) ev,hc⟩
  | false =>
   obtain⟨v,c',ev,hc⟩:=fin (0,0) (mkD r3 r4.toNat).1 (mkD r3 r4.toNat).2 c6 (h6.mono (by omega) (by omega))
   exact⟨v,c',Evt.inr (Evt.cfalse rfl .pure) ev,hc⟩
 obtain⟨v,c',ev,hc⟩:=main
 refine⟨v,c',Evt.eq (f:=fun k q=>_) ?_ (fun k q=>by rw [spec_l1Cur_dyadic]),hc⟩
 refine Evt.bind (.const e1) (Evt.bind (.const e2) ?_)
 simp only [w1,w2]
 exact Evt.bind (.const e3) (Evt.bind (.const e4) (Evt.bind d1 (Evt.eq ev (fun k q=>by rw [e6];rfl))))
theorem anyDyadic_ok{ks:List Int}(hk:bytesOk ks){c:Cu}{m:Nat}(h:CurOk c m)(hm:m+20≤1000000000):∃v c',Evt (fun k _=>spec_l1Cur_anyDyadic k ks c) (v,c')∧CurOk c' (m+20):=by
 obtain⟨v,c1,ev,h1⟩:=dyadic_ok hk h (by omega)
 obtain⟨r2,c2,e2,h2,_⟩:=pick_ok hk h1 (by omega) (n:=30) (by omega)
 obtain⟨r3,c3,e3,h3,_⟩:=among_ok hk h2 (by omega) (l := [(-1),25,4611686018427387904]) (by simp) (by simp)
 obtain⟨r4,c4,e4,h4,_⟩:=among_ok hk h2 (by omega) (l := [1099511627777,(-1099511627777),(-9223372036854775808)]) (by simp) (by simp)
 obtain⟨r5,c5,e5,h5,_⟩:=pick_ok hk h2 (by omega) (n:=9) (by omega)
 obtain⟨r6,c6,e6,h6,_⟩:=pick_ok hk h5 (by omega) (n:=4) (by omega)
 have e2:spec_l1Cur_pick ks ((),c1.2) 30=some (r2,c2):=e2
 have e3:spec_l1Cur_among ks ((),c2.2) [(-1),25,4611686018427387904]=some (r3,c3):=e3
 have e4:spec_l1Cur_among ks ((),c2.2) [1099511627777,(-1099511627777),(-9223372036854775808)]=some (r4,c4):=e4
 have e5:spec_l1Cur_pick ks ((),c2.2) 9=some (r5,c5):=e5
 have e6:spec_l1Cur_pick ks ((),c5.2) 4=some (r6,c6):=e6
 have fin:∃w c',Evt (fun k n=>(bif (r2==0)then(Option.bind (spec_l1Cur_among ks ((),c2.2) ([(-1),25,4611686018427387904]:List Int)) fun r3=>some ((v.1,r3.1),(),r3.2.2))else(bif (r2==1)then(Option.bind (spec_l1Cur_among ks ((),c2.2) ([1099511627777,(-1099511627777),(-9223372036854775808)]:List Int)) fun r4=>some ((r4.1,v.2),(),r4.2.2))else(bif (r2==2)then(Option.bind (spec_l1Cur_pick ks ((),c2.2) 9) fun r5=>(Option.bind (spec_l1Cur_pick ks ((),r5.2.2) 4) fun r6=>some (((IntKind.wrap .i64 (2*r5.1)),(IntKind.wrap .i64 (1+r6.1))),(),r6.2.2)))else some (v,(),c2.2))))) (w,c')∧CurOk c' (m+20):=by
  cases hq:(r2==0)with
  | true=>exact⟨_,_,Evt.ctrue rfl (Evt.bind (.const e3) .pure),h3.mono (by omega) (by omega)⟩
  | false =>
   cases hq1:(r2==1)with
   | true=>exact⟨_,_,Evt.cfalse rfl (Evt.ctrue rfl (Evt.bind (.const e4) .pure)),h4.mono (by omega) (by omega)⟩
   | false =>
    cases hq2:(r2==2)with
    | true=>exact⟨_,_,Evt.cfalse rfl (Evt.cfalse rfl (Evt.ctrue rfl (Evt.bind (.const e5) (Evt.bind (.const e6) .pure)))),h6.mono (by omega) (by omega)⟩
    | false=>exact⟨_,_,Evt.cfalse rfl (Evt.cfalse rfl (Evt.cfalse rfl .pure)),h2.mono (by omega) (by omega)⟩
 obtain⟨w,c',ew,hc⟩:=fin
 refine⟨w,c',Evt.eq (f:=fun k q=>_) ?_ (fun k q=>by rw [spec_l1Cur_anyDyadic]),hc⟩
 exact Evt.bind ev (Evt.bind (.const e2) ew)
theorem entry_ok{ks:List Int}(hk:bytesOk ks){c:Cu}{m:Nat}(h:CurOk c m)(hm:m+22≤1000000000):∃v c',Evt (fun k _=>spec_l1Cur_entry k ks c) (v,c')∧CurOk c' (m+22):=by
 obtain⟨r1,c1,e1,h1⟩:=one_ok hk h (by omega) (n:=40) (by omega)
 have e1:spec_l1Cur_one ks ((),c.2) 40=some (r1,c1):=e1
 cases r1 with
 | true =>
  obtain⟨v,c',ev,hc⟩:=anyDyadic_ok hk h1 (by omega)
  refine⟨v,c',Evt.eq (f:=fun k q=>_) ?_ (fun k q=>by rw [spec_l1Cur_entry]),hc.mono (by omega) (by omega)⟩
  exact Evt.bind (.const e1) (Evt.ctrue rfl (Evt.bind ev .pure))
 | false =>
  obtain⟨r3,c3,e3,h3,a3,b3⟩:=pick_ok hk h1 (by omega) (n:=41) (by omega)
  have b3:=b3 (by omega)
  have w3:IntKind.wrap .i64 (r3 - 20)=r3 - 20:=w64 (by omega) (by omega)
  obtain⟨r4,c4,e4,h4,m4⟩:=among_ok hk h3 (by omega) (l := [0,0,1,(-1),2,3,r3 - 20]) (by simp) (by simp)
  obtain⟨r5,c5,e5,h5,m5⟩:=among_ok hk h4 (by omega) (l := [0,0,1,2,4]) (by simp) (by simp)
  have e3:spec_l1Cur_pick ks ((),c1.2) 41=some (r3,c3):=e3
  have e4:spec_l1Cur_among ks ((),c3.2) [0,0,1,(-1),2,3,r3 - 20]=some (r4,c4):=e4
  have e5:spec_l1Cur_among ks ((),c4.2) [0,0,1,2,4]=some (r5,c5):=e5
  have hb4 : -40≤r4∧r4≤40:=by
   simp only [List.mem_cons,List.not_mem_nil,or_false]at m4
   omega
  have hb5:0≤r5∧r5≤24:=by
   simp only [List.mem_cons,List.not_mem_nil,or_false]at m5
   omega
  have d1:Evt (fun k _=>spec_dyMake k r4 r5) (mkD r4 r5.toNat):=by
   have:=dyMake_ev (n:=r4) (m:=r5.toNat) (by omega) (by omega) (by omega)
   rw [show((r5.toNat:Nat):Int)=r5 by omega]at this
   exact this
  refine⟨(mkD r4 r5.toNat).1,c5,Evt.eq (f:=fun k q=>_) ?_ (fun k q=>by rw [spec_l1Cur_entry]),h5.mono (by omega) (by omega)⟩
  refine Evt.bind (.const e1) (Evt.cfalse rfl (Evt.bind (.const e3) ?_))
  simp only [w3]
  exact Evt.bind (.const e4) (Evt.bind (.const e5) (Evt.bind d1 .pure))
theorem row_ok{ks:List Int}(hk:bytesOk ks){n:Nat}(hn:n≤4){T:List Pt}:∀(j:Nat) (row:Pt) (c:Cu) (m:Nat),row.length+j=n→CurOk c m→m+22*j≤1000000000 →
  ∃r c',Evt (fun k q=>spec_l1Cur_table_L1812 k ks q c n T row) (.inr (c',(n:Int),T,r,()))∧CurOk c' (m+22*j)∧r.length=n
 | 0,row,c,m,hl,hc,hm=>by
  refine⟨row,c,Evt.step (fun k q=>spec_l1Cur_table_L1812.eq_2 k ks _ _ _ _ q) (Evt.cfalse (decide_eq_false (by omega)) .pure),hc.mono (by omega) (by omega),by omega⟩
 | j+1,row,c,m,hl,hc,hm=>by
  obtain⟨v,c1,ev,h1⟩:=entry_ok hk hc (by omega)
  obtain⟨r,c',er,hc',hr⟩:=row_ok hk hn j (row ++ [v]) c1 (m+22) (by simp;omega) h1 (by omega)
  refine⟨r,c',Evt.step (fun k q=>spec_l1Cur_table_L1812.eq_2 k ks _ _ _ _ q) (Evt.ctrue (decide_eq_true (by omega)) (Evt.bind ev (Evt.ctrue (decide_eq_true (by simp;omega)) er))),hc'.mono (by omega) (by omega),hr⟩
theorem rows_ok{ks:List Int}(hk:bytesOk ks){n:Nat}(hn:n≤4):∀(j:Nat) (T:List Pt) (c:Cu) (m:Nat),T.length+j=n→(∀r∈T,r.length=n)→CurOk c m→m+88*j≤1000000000 →
  ∃T' c',Evt (fun k q=>spec_l1Cur_table_L28 k ks q c n T) (.inr (c',(n:Int),T',()))∧CurOk c' (m+88*j)∧T'.length=n∧∀r∈T',r.length=n
 | 0,T,c,m,hl,hT,hc,hm=>by
  refine⟨T,c,Evt.step (fun k q=>spec_l1Cur_table_L28.eq_2 k ks _ _ _ q) (Evt.cfalse (decide_eq_false (by omega)) .pure),hc.mono (by omega) (by omega),by omega,hT⟩
 | j+1,T,c,m,hl,hT,hc,hm=>by
  obtain⟨r,c1,er,h1,hr⟩:=row_ok hk hn (T:=T) n [] c m (by simp) hc (by omega)
  obtain⟨T',c',eT,hc',hT',hrs⟩:=rows_ok hk hn j (T ++ [r]) c1 (m+88) (by simp;omega) (by
   intro x hx
   rcases List.mem_append.1 hx with hx | hx
   ·exact hT x hx
   ·simp at hx;rw [hx];exact hr) (h1.mono (by omega) (by omega)) (by omega)
  refine⟨T',c',Evt.step (fun k q=>spec_l1Cur_table_L28.eq_2 k ks _ _ _ q) (Evt.ctrue (decide_eq_true (by omega)) (Evt.inr (Evt.diag er) (Evt.ctrue (decide_eq_true (by simp;omega)) eT))),hc'.mono (by omega) (by omega),hT',hrs⟩
def small4(T:List Pt):Prop:=T.length≤4∧∀r∈T,r.length≤4
theorem table_ok{ks:List Int}(hk:bytesOk ks){c:Cu}{m:Nat}(h:CurOk c m)(hm:m+400≤1000000000){n:Nat}(hn1:1≤n)(hn:n≤4):∃T c',Evt (fun k _=>spec_l1Cur_table k ks c n) (T,c')∧CurOk c' (m+400)∧small4 T:=by
 obtain⟨T,c1,eT,h1,hl,hr⟩:=rows_ok hk hn n [] c m (by simp) (by simp) h (by omega)
 obtain⟨r8,c8,e8,h8,_⟩:=pick_ok hk (h1.mono (m':=m+352) (by omega) (by omega)) (by omega) (n:=40) (by omega)
 have e8:spec_l1Cur_pick ks ((),c1.2) 40=some (r8,c8):=e8
 have h8:=h8.mono (m':=m+400) (by omega) (by omega)
 have hT4:small4 T:=⟨by omega,fun r hr'=>by rw [hr r hr'];omega⟩
 have w1:IntKind.wrap .i64 ((n:Int) - 1)=((n - 1:Nat):Int):=by rw [w64 (by omega) (by omega)];omega
 have hset:∀(i:Nat) (r:Pt),r.length≤4→small4 (T.set i r):=by
  intro i r hr4
  refine⟨by simpa using hT4.1,fun x hx => ?_⟩
  rcases List.mem_or_eq_of_mem_set hx with hx | hx
  ·exact hT4.2 x hx
  ·rw [hx];exact hr4
 have hg0:(T.getD 0 []).length=n:=by
  have h0:0<T.length:=by omega
  rw [List.getD_eq_getElem?_getD,List.getElem?_eq_getElem h0]
  exact hr _ (List.getElem_mem h0)
 have fin:∃w,Evt (fun k q=>(bif (r8==0)then(bif (decide (0<(T.length:Int)))then(bif (decide (1≤((T.getD 0 []).length:Int)))then(bif (decide (0<(T.length:Int)))then some ((T.set 0 ((T.getD 0 []).drop 1)),(),c8.2)else none)else none)else none)else(bif (r8==1)then some (([]:List (List (Int×Int))),(),c8.2)else(bif (r8==2)then(bif (decide (0<(T.length:Int)))then(bif (decide (([]:List (Int×Int)).length+(T.getD 0 []).length<274877906944))then(bif (decide (0≤(IntKind.wrap .i64 ((n:Int) - 1))))then(bif (decide ((IntKind.wrap .i64 ((n:Int) - 1))<(T.length:Int)))then some ((T.set (Int.toNat (IntKind.wrap .i64 ((n:Int) - 1))) (([]:List (Int×Int))++(T.getD 0 []))),(),c8.2)else none)else none)else none)else none)else some (T,(),c8.2))))) (w,c8)∧small4 w:=by
  rw [w1]
  cases hq:(r8==0)with
  | true=>exact⟨_,Evt.ctrue rfl (Evt.ctrue (decide_eq_true (by omega)) (Evt.ctrue (decide_eq_true (by omega)) (Evt.ctrue (decide_eq_true (by omega)) .pure))),hset _ _ (by rw [List.length_drop];omega)⟩
  | false =>
   cases hq1:(r8==1)with
   | true=>exact⟨_,Evt.cfalse rfl (Evt.ctrue rfl .pure),⟨by simp,by simp⟩⟩
   | false =>
    cases hq2:(r8==2)with
    | true=>exact⟨_,Evt.cfalse rfl (Evt.cfalse rfl (Evt.ctrue rfl (Evt.ctrue (decide_eq_true (by omega)) (Evt.ctrue (decide_eq_true (by rw [hg0];simp;omega)) (Evt.ctrue (decide_eq_true (by omega)) (Evt.ctrue (decide_eq_true (by omega)) .pure)))))),hset _ _ (by rw [List.nil_append];omega)⟩
    | false=>exact⟨_,Evt.cfalse rfl (Evt.cfalse rfl (Evt.cfalse rfl .pure)),hT4⟩
 obtain⟨w,ew,hw⟩:=fin
 refine⟨w,c8,Evt.eq (f:=fun k q=>_) ?_ (fun k q=>by rw [spec_l1Cur_table]),h8,hw⟩
 exact Evt.inr (Evt.diag eT) (Evt.bind (.const e8) ew)
end Go.Ev.G

