/- What the plain functions of the law compute, for all inputs within the sizes that the theorems name. -/
import Derived.Test.YtbkhmofhdbjpcaaGreatPFnTablesIn1
import Derived.IntWalk
import Derived.Laws.Bits64
import Derived.KernelRfl
set_option linter.unusedVariables false
namespace Go.Ev
open Go

def Evt{α:Type}(f:Nat→Nat→Option α)(r:α):Prop:=∃k0,∀k n,k0≤k→k0≤n→f k n=some r

section
variable {α β γ δ : Type}

theorem Evt.const{o:Option α}{r:α}(h:o=some r):Evt (fun _ _=>o) r:=⟨0,fun _ _ _ _=>h⟩
theorem Evt.pure{r:α}:Evt (fun _ _=>some r) r:=⟨0,fun _ _ _ _=>rfl⟩
theorem Evt.bind{f:Nat→Nat→Option α}{g:Nat→Nat→α→Option β}{a:α}{r:β}(h:Evt f a)(h':Evt (fun k n=>g k n a) r):Evt (fun k n=>Option.bind (f k n) fun x=>g k n x) r:=by
 obtain⟨k1,h1⟩:=h
 obtain⟨k2,h2⟩:=h'
 refine⟨max k1 k2,fun k n hk hn => ?_⟩
 exact(congrArg (fun o=>Option.bind o fun x=>g k n x) (h1 k n (by omega) (by omega))).trans (h2 k n (by omega) (by omega))
theorem Evt.inr{R P A:Type}{f:Nat→Nat→Option (R ⊕ P)}{G:Nat→Nat→R→Option A}{K:Nat→Nat→P→Option A}{y:P}{r:A}(h:Evt f (.inr y))(h':Evt (fun k n=>K k n y) r):Evt (fun k n=>both (f k n) (G k n) (K k n)) r:=by
 obtain⟨k1,h1⟩:=h
 obtain⟨k2,h2⟩:=h'
 refine⟨max k1 k2,fun k n hk hn => ?_⟩
 exact(congrArg (fun o=>both o (G k n) (K k n)) (h1 k n (by omega) (by omega))).trans (h2 k n (by omega) (by omega))
theorem Evt.inl{R P A:Type}{f:Nat→Nat→Option (R ⊕ P)}{G:Nat→Nat→R→Option A}{K:Nat→Nat→P→Option A}{q:R}{r:A}(h:Evt f (.inl q))(h':Evt (fun k n=>G k n q) r):Evt (fun k n=>both (f k n) (G k n) (K k n)) r:=by
 obtain⟨k1,h1⟩:=h
 obtain⟨k2,h2⟩:=h'
 refine⟨max k1 k2,fun k n hk hn => ?_⟩
 exact(congrArg (fun o=>both o (G k n) (K k n)) (h1 k n (by omega) (by omega))).trans (h2 k n (by omega) (by omega))
theorem Evt.ctrue{c:Bool}{f g:Nat→Nat→Option α}{r:α}(hc:c=true)(h:Evt f r):Evt (fun k n=>bif c then f k n else g k n) r:=by subst hc;exact h
theorem Evt.cfalse{c:Bool}{f g:Nat→Nat→Option α}{r:α}(hc:c=false)(h:Evt g r):Evt (fun k n=>bif c then f k n else g k n) r:=by subst hc;exact h
theorem Evt.ite{c:Bool}{f g:Nat→Nat→Option α}{r:α}(h:c=true→Evt f r)(h':c=false→Evt g r):Evt (fun k n=>bif c then f k n else g k n) r:=by
 cases c with
 | true=>exact h rfl
 | false=>exact h' rfl
theorem Evt.diag{f:Nat→Nat→Option α}{r:α}(h:Evt f r):Evt (fun k _=>f k k) r:=by
 obtain⟨k1,h1⟩:=h
 exact⟨k1,fun k n hk _=>h1 k k hk hk⟩
theorem Evt.step{L F:Nat→Nat→Option α}{r:α}(hL:∀k n,L k (n+1)=F k n)(h:Evt F r):Evt L r:=by
 obtain⟨k1,h1⟩:=h
 refine⟨k1+1,fun k n hk hn => ?_⟩
 obtain⟨m,rfl⟩:∃m,n=m+1:=⟨n - 1,by omega⟩
 rw [hL]
 exact h1 k m (by omega) (by omega)
theorem Evt.eq{f g:Nat→Nat→Option α}{r:α}(h:Evt f r)(e:∀k n,g k n=f k n):Evt g r:=by
 obtain⟨k1,h1⟩:=h
 exact⟨k1,fun k n hk hn=>by rw [e];exact h1 k n hk hn⟩
theorem Evt.get{f:Nat→Option α}{r:α}(h:Evt (fun k _=>f k) r):∃k,f k=some r:=by
 obtain⟨k1,h1⟩:=h
 exact⟨k1,h1 k1 k1 (Nat.le_refl _) (Nat.le_refl _)⟩
end

def lenB:Nat:=4611686018427387904
theorem w64{n:Int}(h0 : -9223372036854775808≤n)(h1:n≤9223372036854775807):IntKind.wrap .i64 n=n:=by rw [IntKind.wrap_i64];omega
theorem w64_next{m:Nat}(h:m<lenB):IntKind.wrap .i64 ((m:Int)+1)=((m+1:Nat):Int):=by
 simp only [lenB]at h
 rw [w64] <;> omega
theorem wu64{n:Int}(h0:0≤n)(h1:n≤18446744073709551615):IntKind.wrap .u64 n=n:=by
 rw [IntKind.wrap_u64];omega

section
variable {α : Type}
theorem mid_lt{d r:List α}{e:α}:decide ((d.length:Int)<((d++e::r).length:Int))=true:=by simp;omega
theorem mid_ge{m:Nat}:decide ((0:Int)≤(m:Int))=true:=by simp
theorem mid_get{d r:List α}{e z:α}:(d++e::r).getD (Int.toNat (d.length:Int)) z=e:=by simp
theorem mid_set{d r:List α}{e v:α}:(d++e::r).set (Int.toNat (d.length:Int)) v=d++v::r:=by simp
theorem mid_end{d:List α}:decide ((d.length:Int)<(d.length:Int))=false:=by simp
end
end Go.Ev

namespace Go.Ev
open Go

def roomN(n:Nat):Nat:=if n % 6=5 then 0 else if n % 3=0 then 1 else n

section
variable {β γ R : Type}

end
end Go.Ev

namespace Go.Ev
open Go

section
variable {α β : Type}

theorem Evt.rng{d r:List α}{e z:α}{F:Nat→Nat→α→Option β}{G:Nat→Nat→Option β}{res:β}(h:Evt (fun k n=>F k n e) res) :
  Evt (fun k n=>bif (decide ((d.length:Int)<((d++e::r).length:Int)))then(bif (decide (0≤(d.length:Int)))then(bif (decide ((d.length:Int)<((d++e::r).length:Int)))then F k n ((d++e::r).getD (Int.toNat (d.length:Int)) z)else none)else none)else G k n) res:=by
 refine Evt.ctrue mid_lt (Evt.ctrue mid_ge (Evt.ctrue mid_lt ?_))
 rw [mid_get]
 exact h
theorem Evt.rng0{d:List α}{F G:Nat→Nat→Option β}{res:β}(h:Evt G res):Evt (fun k n=>bif (decide ((d.length:Int)<(d.length:Int)))then F k n else G k n) res:=Evt.cfalse mid_end h

theorem len_next{d r:List α}{e:α}(h:(d++e::r).length<lenB):IntKind.wrap .i64 ((d.length:Int)+1)=((d ++ [e]).length:Int):=by
 rw [w64_next (by simp at h;omega)];simp

theorem index_all{d0:α}{L:Nat→Nat→Int→Option (Int ⊕ Unit)}{xs:List α}{p:Nat→α→Option Bool}{P:α→Bool}(hp:∀x∈xs,Evt (fun k _=>p k x) (P x))
  (hL:∀k n i,L k (n+1) i=(bif (decide (i<(xs.length:Int)))then(bif (decide (0≤i))then(bif (decide (i<(xs.length:Int)))then(Option.bind (p k (xs.getD (Int.toNat i) d0)) fun r1=>(bif r1 then some (Sum.inl i)else L k n (IntKind.wrap .i64 (i+1))))else none)else none)else some (.inr ())))
  (hb:xs.length<lenB):Evt (fun k n=>L k n 0) (match xs.findIdx? P with | some j => .inl (j:Int) | none => .inr ()):=by
 have key:∀(r d:List α),d++r=xs→Evt (fun k n=>L k n d.length) (match r.findIdx? P with | some j => .inl ((d.length+j:Nat):Int) | none => .inr ()):=by
  intro r
  induction r with
  | nil =>
   intro d h
   rw [List.append_nil]at h
   refine Evt.step (fun k n=>hL k n _) ?_
   rw [←h]
   exact Evt.rng0 .pure
  | cons e r ih =>
   intro d h
   refine Evt.step (fun k n=>hL k n _) ?_
   rw [←h]
   refine Evt.rng (F:=fun k n x=>(Option.bind (p k x) fun r1=>(bif r1 then some (Sum.inl (d.length:Int))else L k n (IntKind.wrap .i64 ((d.length:Int)+1))))) ?_
   refine Evt.bind (hp e (by rw [←h];simp)) ?_
   rw [List.findIdx?_cons]
   cases hP:P e with
   | true=>exact Evt.ctrue rfl .pure
   | false =>
    refine Evt.cfalse rfl ?_
    rw [len_next (e:=e) (r:=r) (by rw [h];exact hb)]
    have:=ih (d ++ [e]) (by simpa using h)
    cases hr:r.findIdx? P with
    | none=>rw [hr]at this;simpa using this
    | some j =>
     rw [hr]at this
     have e2:(d ++ [e]).length+j=d.length+(j+1):=by simp;omega
     simp only [e2]at this
     exact this
 have:=key xs [] rfl
 simpa using this

theorem findIdx?_any{P:α→Bool}(xs:List α):(xs.findIdx? P).isSome=xs.any P:=by
 induction xs with
 | nil=>rfl
 | cons x xs ih =>
  rw [List.findIdx?_cons,List.any_cons]
  cases P x with
  | true=>rfl
  | false=>simp [ih]
end
end Go.Ev

namespace Go.Ev.G
open Go Go.Ev
set_option maxRecDepth 100000

theorem room_le(n:Nat):roomN n≤n+1:=by unfold roomN;split <;> (try split) <;> omega

def Room{γ:Type}(x:List γ×List γ):Prop:=x.2.length=roomN x.1.length∧x.1.length≤1000000

theorem small{γ:Type}{x:List γ×List γ}(hx:Room x):(x.1++x.2).length<lenB:=by
 have hr:=room_le x.1.length
 have h1:=hx.1
 have h2:=hx.2
 rw [List.length_append,h1]
 simp only [lenB]
 omega

end Go.Ev.G

namespace Go.Ev.G
open Go Go.Ev
set_option maxRecDepth 100000

def gd(a:Int×Int):Prop:=0≤a.2∧a.2≤24 ∧ -1099511627776≤a.1∧a.1≤1099511627776∧(a.2=0∨a.1 % 2≠0)
instance (a:Int×Int):Decidable (gd a):=by unfold gd;infer_instance

theorem tmod2(n:Int):(Int.tmod n 2=0)↔n % 2=0:=by
 rw [←Int.dvd_iff_tmod_eq_zero,Int.dvd_iff_emod_eq_zero]
theorem tdiv2{n:Int}(h:n % 2=0):Int.tdiv n 2=n / 2:=Int.tdiv_eq_ediv_of_dvd (Int.dvd_of_emod_eq_zero h)

theorem l1In_eq(n lo hi:Int):spec_l1In n lo hi=some (decide (lo≤n∧n≤hi)):=by
 unfold spec_l1In
 by_cases h:lo≤n
 ·have:decide (n≥lo)=true:=by simpa using h
  rw [this];simp [h]
 ·have:decide (n≥lo)=false:=by simpa using h
  rw [this];simp [h]
theorem inside_eq(n lo hi:Int):impl_inside n lo hi=some (decide (lo≤n∧n≤hi)):=l1In_eq n lo hi
theorem isPlaces_eq(n:Int):impl_isPlaces n=some (decide (0≤n∧n≤24)):=by
 unfold impl_isPlaces
 rw [inside_eq];rfl

theorem dyGood_eq(a:Int×Int):spec_dyGood a=some (decide (gd a)):=by
 unfold spec_dyGood
 rw [l1In_eq,l1In_eq]
 have h0:=tmod2 a.1
 by_cases h1:0≤a.2∧a.2≤24
 ·simp only [h1,and_self,decide_true,Option.bind_some,cond_true]
  by_cases h2 : -1099511627776≤a.1∧a.1≤1099511627776
  ·simp only [h2,and_self,decide_true,cond_true]
   by_cases h3:a.2=0
   ·have:gd a:=⟨h1.1,h1.2,h2.1,h2.2,.inl h3⟩
    simp [h3,this]
   ·have e:(a.2==0)=false:=by simpa using h3
    rw [e]
    by_cases h4:a.1 % 2=0
    ·have : ¬ gd a:=fun h=>by rcases h.2.2.2.2 with h | h <;> contradiction
     simp [h0.2 h4,this]
    ·have h5:gd a:=⟨h1.1,h1.2,h2.1,h2.2,.inr h4⟩
     have : ¬ Int.tmod a.1 2=0:=fun h=>h4 (h0.1 h)
     simp [this,h5]
  ·have : ¬ gd a:=fun h=>h2 ⟨h.2.2.1,h.2.2.2.1⟩
   simp only [h2,decide_false,cond_false,this]
 ·have : ¬ gd a:=fun h=>h1 ⟨h.1,h.2.1⟩
  simp only [h1,decide_false,Option.bind_some,cond_false,this]
theorem isDyadic_eq(a:Int×Int):impl_isDyadic a=some (decide (gd a)):=by
 rw [←dyGood_eq]
 unfold impl_isDyadic spec_dyGood
 rw [isPlaces_eq,l1In_eq,inside_eq,l1In_eq]

def strip:Nat→Int→Int×Nat
 | 0,n=>(n,0)
 | k+1,n=>if n % 2=0 then strip k (n / 2)else(n,k+1)

def mkD(n:Int)(k:Nat):(Int×Int)×Bool :=
 if -1099511627776≤(strip k n).1∧(strip k n).1≤1099511627776∧(strip k n).2≤24 then(((strip k n).1,((strip k n).2:Int)),true)else((0,0),false)

theorem strip_form:∀(k:Nat) (n:Int),(strip k n).2=0∨(strip k n).1 % 2≠0
 | 0,n => .inl rfl
 | k+1,n=>by
  unfold strip
  split
  ·exact strip_form k _
  ·rename_i h;exact .inr h
theorem strip_le:∀(k:Nat) (n:Int),(strip k n).2≤k
 | 0,n=>Nat.le_refl _
 | k+1,n=>by
  unfold strip
  split
  ·have:=strip_le k (n / 2);omega
  ·exact Nat.le_refl _
theorem strip_zero:∀(k:Nat),strip k 0=(0,0)
 | 0=>rfl
 | k+1=>by unfold strip;simp [strip_zero k]
theorem strip_neg:∀(k:Nat) (n:Int),strip k (-n)=(-(strip k n).1,(strip k n).2)
 | 0,n=>rfl
 | k+1,n=>by
  unfold strip
  by_cases h:n % 2=0
  ·have h':(-n) % 2=0:=by omega
   rw [if_pos h,if_pos h',show -n / 2 = -(n / 2)by omega,strip_neg k]
  ·have h' : ¬ (-n) % 2=0:=by omega
   rw [if_neg h,if_neg h']
theorem strip_bound:∀(k:Nat) (n:Int),0≤n→0≤(strip k n).1∧(strip k n).1≤n
 | 0,n,h=>⟨h,Int.le_refl _⟩
 | k+1,n,h=>by
  unfold strip
  split
  ·have:=strip_bound k (n / 2) (by omega);omega
  ·exact⟨h,Int.le_refl _⟩
theorem strip_ne:∀(k:Nat) (n:Int),n≠0→(strip k n).1≠0
 | 0,n,h=>h
 | k+1,n,h=>by
  unfold strip
  split
  ·exact strip_ne k _ (by omega)
  ·exact h
theorem strip_odd{k:Nat}{n:Int}(h:n % 2≠0):strip k n=(n,k):=by
 cases k with
 | zero=>rfl
 | succ k=>unfold strip;rw [if_neg h]
theorem strip_val:∀(k:Nat) (n:Int),(strip k n).1*2 ^ (k - (strip k n).2)=n
 | 0,n=>by simp [strip]
 | k+1,n=>by
  unfold strip
  split
  ·rename_i h
   have h1:=strip_val k (n / 2)
   have h2:=strip_le k (n / 2)
   rw [show k+1 - (strip k (n / 2)).2=(k - (strip k (n / 2)).2)+1 by omega,Int.pow_succ,←Int.mul_assoc,h1]
   omega
  ·simp

theorem mkD_gd(n:Int)(k:Nat):gd (mkD n k).1:=by
 unfold mkD
 split
 ·rename_i h
  have:=strip_form k n
  refine⟨by simp,by simp;omega,h.1,h.2.1,?_⟩
  rcases this with h | h
  ·left;simp [h]
  ·right;exact h
 ·exact⟨by simp,by simp,by simp,by simp,.inl rfl⟩

theorem mkD_zero(k:Nat):mkD 0 k=((0,0),true):=by simp [mkD,strip_zero]

theorem mkD_self{a:Int×Int}(h:gd a):mkD a.1 a.2.toNat=(a,true):=by
 obtain⟨n,k⟩:=a
 obtain⟨h1,h2,h3,h4,h5⟩:=h
 simp only at *
 obtain⟨m,rfl⟩:=Int.eq_ofNat_of_zero_le h1
 have e:strip m n=(n,m):=by
  rcases h5 with h5 | h5
  ·have:m=0:=by omega
   subst this;rfl
  ·exact strip_odd h5
 simp only [Int.toNat_natCast,mkD,e]
 rw [if_pos ⟨h3,h4,by omega⟩]

theorem dyMake_loop:∀(m:Nat) (n:Int) (z:Int×Int),-9223372036854775808<n→n<9223372036854775808→m<9223372036854775808 →
  Evt (fun k q=>spec_dyMake_L28 k q n m z) (.inr ((strip m n).1,((strip m n).2:Int),z,()))
 | 0,n,z,_,_,_=>Evt.step (fun k q=>spec_dyMake_L28.eq_2 k n _ z q) (Evt.cfalse (by simp) .pure)
 | m+1,n,z,h1,h2,h3=>by
  refine Evt.step (fun k q=>spec_dyMake_L28.eq_2 k n _ z q) (Evt.ctrue (by simp <;> omega) ?_)
  by_cases h:n % 2=0
  ·refine Evt.ctrue (by simp [(tmod2 n).2 h]) ?_
   rw [tdiv2 h,w64 (by omega) (by omega),show((m+1:Nat):Int) - 1=(m:Int)by omega,w64 (by omega) (by omega)]
   have:=dyMake_loop m (n / 2) z (by omega) (by omega) (by omega)
   rw [strip,if_pos h]
   exact this
  ·have h' : ¬ Int.tmod n 2=0:=fun e=>h ((tmod2 n).1 e)
   refine Evt.cfalse (by simp [h']) ?_
   rw [strip,if_neg h]
   exact .pure

theorem dyMake_ev{n:Int}{m:Nat}(h1 : -9223372036854775808<n)(h2:n<9223372036854775808)(h3:m<9223372036854775808):Evt (fun k _=>spec_dyMake k n m) (mkD n m):=by
 refine Evt.eq (f:=fun k q=>_) ?_ (fun k q=>by rw [spec_dyMake])
 have key:∀(m':Nat),strip m' n=strip m n→m'≤m→Evt (fun k q=>both (R:=(Int×Int)×Bool) (P:=Int×Int×(Int×Int)×Unit) (spec_dyMake_L28 k k n m' (0,0)) (fun q4=>some q4) (fun y3=>(Option.bind (spec_dyGood (y3.1,y3.2.1)) fun r5=>(bif (!r5)then some ((0,0),false)else some ((y3.1,y3.2.1),true))))) (mkD n m):=by
  intro m' hm hle
  refine Evt.inr (Evt.diag (dyMake_loop m' n (0,0) h1 h2 (by omega))) ?_
  simp only [dyGood_eq,Option.bind_some,hm]
  have hf:=strip_form m n
  unfold mkD
  by_cases hg : -1099511627776≤(strip m n).1∧(strip m n).1≤1099511627776∧(strip m n).2≤24
  ·rw [if_pos hg]
   have:gd ((strip m n).1,((strip m n).2:Int)):=⟨by simp,by simp;omega,hg.1,hg.2.1,by rcases hf with h | h;left;simp [h];right;exact h⟩
   simp only [this,decide_true,Bool.not_true]
   exact Evt.cfalse rfl .pure
  ·rw [if_neg hg]
   have : ¬ gd ((strip m n).1,((strip m n).2:Int)):=fun h=>hg ⟨h.2.2.1,h.2.2.2.1,by have:=h.2.1;simp at this;omega⟩
   simp only [this,decide_false,Bool.not_false]
   exact Evt.ctrue rfl .pure
 by_cases h0:n=0
 ·subst h0
  refine Evt.inr (y:=((0:Int),(0:Int),((0,0):Int×Int),())) ?_ (key 0 (by rw [strip_zero,strip_zero]) (by omega))
  by_cases hm:m=0
  ·subst hm;exact .const rfl
  ·have:decide ((m:Int)>0)=true:=by simp;omega
   refine .const ?_
   simp only [this];rfl
 ·refine Evt.inr (y:=(n,(m:Int),((0,0):Int×Int),())) (.const ?_) (key m rfl (Nat.le_refl _))
  have:(n==0)=false:=by simpa using h0
  simp only [this];rfl

def atV:Nat→Int→Int×Bool
 | 0,n=>(n,true)
 | m+1,n=>if -1152921504606846976≤n∧n≤1152921504606846976 then atV m (n*2)else(0,false)

theorem dyPower_eq{m:Nat}(h:m≤62):spec_dyPower m=some (((2 ^ m:Nat):Int)):=by
 unfold spec_dyPower
 have h1:IntKind.wrap .u64 (m:Int)=m:=wu64 (by omega) (by omega)
 have h2:min (Int.toNat (m:Int)) (IntKind.bits .i64)=m:=by simp [IntKind.bits];omega
 rw [h1,h2]
 have h3:(2:Nat) ^ m≤4611686018427387904:=Nat.pow_le_pow_right (n:=2) (by omega) h
 have h4:(1:Int)*2 ^ m=((2 ^ m:Nat):Int):=by simp
 have h5:decide ((m:Int)<0)=false:=by simp
 rw [h4]
 generalize 2 ^ m=p at *
 rw [w64 (by omega) (by omega),h5]
 rfl

theorem dyPower60:spec_dyPower 60=some 1152921504606846976:=by
 have:=dyPower_eq (m:=60) (by omega)
 simpa using this

theorem dyAt_loop(K j:Int):∀(m:Nat) (n:Int) (i:Nat),K=i+m→K<1000000 → -4611686018427387904≤n→n≤4611686018427387904 →
  Evt (fun k q=>spec_dyAt_L58 k q K (n,j) i) (if (atV m n).2 then .inr (((atV m n).1,j),())else .inl (0,false)):=by
 intro m
 induction m with
 | zero =>
  intro n i hK hi _ _
  refine Evt.step (fun k q=>spec_dyAt_L58.eq_2 k K (n,j) i q) (Evt.cfalse (by simp;omega) ?_)
  simp only [atV,if_true]
  exact .pure
 | succ m ih =>
  intro n i hK hi h1 h2
  refine Evt.step (fun k q=>spec_dyAt_L58.eq_2 k K (n,j) i q) (Evt.ctrue (by simp;omega) ?_)
  refine Evt.bind (.const dyPower60) (Evt.bind (.const dyPower60) ?_)
  have hw:IntKind.wrap .i64 (0 - 1152921504606846976) = -1152921504606846976:=by rw [w64] <;> omega
  rw [hw]
  refine Evt.bind (.const (l1In_eq _ _ _)) ?_
  unfold atV
  by_cases hn : -1152921504606846976≤n∧n≤1152921504606846976
  ·refine Evt.cfalse (by simp [hn]) ?_
   rw [if_pos hn,w64 (n:=n*2) (by omega) (by omega),w64_next (by simp only [lenB];omega)]
   exact ih (n*2) (i+1) (by omega) hi (by omega) (by omega)
  ·refine Evt.ctrue (by rw [decide_eq_false hn];rfl) ?_
   rw [if_neg hn]
   exact .pure

theorem atV_zero:∀m,atV m 0=(0,true)
 | 0=>rfl
 | m+1=>by unfold atV;simp [atV_zero m]

theorem dyAt_ev{n:Int}{j K:Nat}(hjK:j≤K)(hK:K<1000)(h1 : -4611686018427387904≤n)(h2:n≤4611686018427387904):Evt (fun k _=>spec_dyAt k (n,j) K) (atV (K - j) n):=by
 refine Evt.eq (f:=fun k q=>_) ?_ (fun k q=>by rw [spec_dyAt])
 by_cases h0:n=0
 ·subst h0
  rw [atV_zero]
  exact Evt.ctrue (by simp) .pure
 ·refine Evt.cfalse (by simpa using h0) ?_
  have:=dyAt_loop K j (K - j) n j (by omega) (by omega) h1 h2
  cases hb:(atV (K - j) n).2 with
  | true =>
   rw [hb]at this
   refine Evt.inr (Evt.diag this) (.const ?_)
   simp only
   rw [←hb]
  | false =>
   rw [hb]at this
   have hz:∀(m:Nat) (n:Int),(atV m n).2=false→atV m n=(0,false):=by
    intro m
    induction m with
    | zero=>intro n h;simp [atV]at h
    | succ m ih =>
     intro n h
     unfold atV at h ⊢
     split at h
     ·rename_i hc;rw [if_pos hc];exact ih _ h
     ·rename_i hc;rw [if_neg hc]
   rw [hz _ _ hb]
   exact Evt.inl (Evt.diag this) .pure

theorem atV_true:∀(m:Nat) (n:Int),(atV m n).2=true→(atV m n).1=n*2 ^ m
 | 0,n,_=>by simp [atV]
 | m+1,n,h=>by
  unfold atV at h ⊢
  split at h
  ·rename_i hc
   rw [if_pos hc,atV_true m _ h,Int.pow_succ,Int.mul_assoc,Int.mul_comm 2]
  ·cases h
theorem atV_small:∀(m:Nat) (n:Int),-1152921504606846976≤n*2 ^ m→n*2 ^ m≤1152921504606846976→(atV m n).2=true
 | 0,n,_,_=>rfl
 | m+1,n,h1,h2=>by
  have e:n*2 ^ (m+1)=n*2*2 ^ m:=by rw [Int.pow_succ,Int.mul_assoc,Int.mul_comm 2]
  have hp:(1:Int)≤2 ^ m:=by have:=Int.pow_pos (n:=2) (m:=m) (by omega);omega
  unfold atV
  rw [if_pos]
  ·exact atV_small m (n*2) (by rw [←e];exact h1) (by rw [←e];exact h2)
  ·rw [e]at h1 h2
   constructor
   ·rcases Int.le_total 0 n with h | h
    ·omega
    ·have:n*2*2 ^ m≤n*2*1:=Int.mul_le_mul_of_nonpos_left (by omega) hp
     omega
   ·rcases Int.le_total 0 n with h | h
    ·have:n*2*1≤n*2*2 ^ m:=Int.mul_le_mul_of_nonneg_left hp (by omega)
     omega
    ·omega
theorem atV_large:∀(m:Nat) (n:Int),(atV m n).2=false→0<m∧(n*2 ^ m < -1152921504606846976∨1152921504606846976<n*2 ^ m)
 | m,n,h=>by
  refine⟨?_,?_⟩
  ·cases m with
   | zero=>simp [atV]at h
   | succ m=>omega
  ·rcases Int.lt_or_le (n*2 ^ m) (-1152921504606846976)with h1 | h1
   ·exact .inl h1
   ·rcases Int.lt_or_le 1152921504606846976 (n*2 ^ m)with h2 | h2
    ·exact .inr h2
    ·rw [atV_small m n h1 h2]at h;cases h
end Go.Ev.G

namespace Go.Ev.G
open Go Go.Ev
set_option maxRecDepth 100000

def exA(a b:Int×Int):Nat:=max a.2.toNat b.2.toNat
def sumN(a b:Int×Int):Int:=a.1*2 ^ (exA a b - a.2.toNat)+b.1*2 ^ (exA a b - b.2.toNat)
def sumD(a b:Int×Int):(Int×Int)×Bool:=mkD (sumN a b) (exA a b)

theorem most_eq(a b:Int):spec_l1Most a b=some (max a b):=by
 unfold spec_l1Most
 by_cases h:a>b
 ·have:decide (a>b)=true:=by simpa using h
  rw [this];simp only [cond_true];congr 1;omega
 ·have:decide (a>b)=false:=by simpa using h
  rw [this];simp only [cond_false];congr 1;omega

theorem pow_mono(m:Nat)(h:m≤24):(1:Int)≤2 ^ m∧(2:Int) ^ m≤16777216:=by
 have h1:(2:Nat) ^ m≤2 ^ 24:=Nat.pow_le_pow_right (by omega) h
 have h2:(0:Nat)<2 ^ m:=Nat.pow_pos (by omega)
 have h3:((2 ^ m:Nat):Int)=(2:Int) ^ m:=by simp
 rw [←h3]
 omega

theorem mul_pow_bound{n:Int}{m:Nat}(h:m≤24){B:Int}(hB:0≤B)(h1 : -B≤n)(h2:n≤B) : -(B*16777216)≤n*2 ^ m∧n*2 ^ m≤B*16777216:=by
 have hp:=pow_mono m h
 constructor
 ·rcases Int.le_total 0 n with hn | hn
  ·have:0≤n*2 ^ m:=Int.mul_nonneg hn (by omega)
   have:0≤B*16777216:=Int.mul_nonneg hB (by omega)
   omega
  ·have e1:n*16777216≤n*2 ^ m:=Int.mul_le_mul_of_nonpos_left hn hp.2
   omega
 ·rcases Int.le_total 0 n with hn | hn
  ·have e1:n*2 ^ m≤n*16777216:=Int.mul_le_mul_of_nonneg_left hp.2 hn
   omega
  ·have:n*2 ^ m≤0:=Int.mul_nonpos_of_nonpos_of_nonneg hn (by omega)
   have:0≤B*16777216:=Int.mul_nonneg hB (by omega)
   omega

theorem mkD_odd{n:Int}{k:Nat}(h:n % 2≠0)(hl:n < -1099511627776∨1099511627776<n):mkD n k=((0,0),false):=by
 unfold mkD
 rw [strip_odd h]
 rw [if_neg]
 intro hc
 have:=hc.1
 have:=hc.2.1
 simp at *
 omega

theorem even_pow{n:Int}{m:Nat}(h:0<m):(n*2 ^ m) % 2=0:=by
 obtain⟨q,rfl⟩:∃q,m=q+1:=⟨m - 1,by omega⟩
 rw [Int.pow_succ,←Int.mul_assoc]
 omega

theorem dyAdd_ev{a b:Int×Int}(ha:gd a)(hb:gd b):Evt (fun k _=>spec_dyAdd k a b) (sumD a b):=by
 obtain⟨n,j⟩:=a
 obtain⟨m,i⟩:=b
 obtain⟨a1,a2,a3,a4,a5⟩:=ha
 obtain⟨b1,b2,b3,b4,b5⟩:=hb
 simp only at *
 obtain⟨j,rfl⟩:=Int.eq_ofNat_of_zero_le a1
 obtain⟨i,rfl⟩:=Int.eq_ofNat_of_zero_le b1
 refine Evt.eq (f:=fun k q=>_) ?_ (fun k q=>by rw [spec_dyAdd])
 refine Evt.bind (.const (most_eq _ _)) ?_
 have hmax:max ((j:Nat):Int) (i:Int)=((max j i:Nat):Int):=by omega
 simp only [hmax]
 have e:sumD (n,(j:Int)) (m,(i:Int))=mkD (n*2 ^ (max j i - j)+m*2 ^ (max j i - i)) (max j i):=by simp [sumD,sumN,exA]
 rw [e]
 refine Evt.bind (dyAt_ev (by omega) (by omega) (by omega) (by omega)) (Evt.bind (dyAt_ev (by omega) (by omega) (by omega) (by omega)) ?_)
 have hbn:=mul_pow_bound (n:=n) (m:=max j i - j) (by omega) (B:=1099511627776) (by omega) a3 a4
 have hbm:=mul_pow_bound (n:=m) (m:=max j i - i) (by omega) (B:=1099511627776) (by omega) b3 b4
 cases h1:(atV (max j i - j) n).2 with
 | false =>
  refine Evt.ctrue rfl ?_
  obtain⟨hpos,hl⟩:=atV_large _ _ h1
  have hij:max j i=i:=by omega
  have hodd:m % 2≠0:=by
   rcases b5 with h | h
   ·omega
   ·exact h
  have hev:=even_pow (n:=n) hpos
  rw [hij]at hl hev ⊢
  simp only [Nat.sub_self,Int.pow_zero,Int.mul_one]
  rw [mkD_odd (by omega) (by omega)]
  exact .pure
 | true =>
  refine Evt.cfalse rfl ?_
  cases h2:(atV (max j i - i) m).2 with
  | false =>
   refine Evt.ctrue rfl ?_
   obtain⟨hpos,hl⟩:=atV_large _ _ h2
   have hij:max j i=j:=by omega
   have hodd:n % 2≠0:=by
    rcases a5 with h | h
    ·omega
    ·exact h
   have hev:=even_pow (n:=m) hpos
   rw [hij]at hl hev ⊢
   simp only [Nat.sub_self,Int.pow_zero,Int.mul_one]
   rw [mkD_odd (by omega) (by omega)]
   exact .pure
  | true =>
   refine Evt.cfalse rfl ?_
   rw [atV_true _ _ h1,atV_true _ _ h2]
      -- neither is too large: the sum fits
   have hsum : -9223372036854775808<n*2 ^ (max j i - j)+m*2 ^ (max j i - i)∧n*2 ^ (max j i - j)+m*2 ^ (max j i - i)<9223372036854775808:=by
    have g1:∀(q:Nat) (z:Int),-1099511627776≤z→z≤1099511627776→(atV q z).2=true → -2305843009213693952≤z*2 ^ q∧z*2 ^ q≤2305843009213693952:=by
     intro q
     induction q with
     | zero=>intro z h1 h2 _;simp;omega
     | succ q ih =>
      intro z _ _ h
      have key:∀(q:Nat) (z:Int),(atV (q+1) z).2=true → -1152921504606846976≤z*2 ^ q∧z*2 ^ q≤1152921504606846976:=by
       intro q
       induction q with
       | zero =>
        intro z h
        unfold atV at h
        split at h
        ·rename_i hc;simpa using hc
        ·cases h
       | succ q ih =>
        intro z h
        unfold atV at h
        split at h
        ·have:=ih (z*2) h
         rw [show z*2 ^ (q+1)=z*2*2 ^ q by rw [Int.pow_succ,Int.mul_assoc,Int.mul_comm 2]]
         exact this
        ·cases h
      have:=key q z h
      rw [Int.pow_succ,←Int.mul_assoc]
      omega
    have u1:=g1 _ _ a3 a4 h1
    have u2:=g1 _ _ b3 b4 h2
    omega
   rw [w64 (by omega) (by omega)]
   exact Evt.bind (dyMake_ev hsum.1 hsum.2 (by omega)) .pure

theorem sumD_gd(a b:Int×Int):gd (sumD a b).1:=mkD_gd _ _

theorem sumD_zero{x:Int×Int}(h:gd x):sumD (0,0) x=(x,true):=by
 have e:exA (0,0) x=x.2.toNat:=by simp [exA]
 have e2:sumN (0,0) x=x.1:=by simp [sumN,e]
 rw [sumD,e,e2,mkD_self h]
end Go.Ev.G

namespace Go.Ev.G
open Go Go.Ev
set_option maxRecDepth 100000

def B64:Nat:=18446744073709551616
def wN(neg:Bool)(M:Nat):Bool×Int×Int:=(neg,((M / B64:Nat):Int),((M % B64:Nat):Int))
def wV(neg:Bool)(M:Nat):Int:=if neg then -(M:Int)else M

theorem wu64_mod(n:Nat):IntKind.wrap .u64 (n:Int)=((n % B64:Nat):Int):=by
 rw [IntKind.wrap_u64];simp [B64]

theorem size_eq{n:Int}(h1 : -9223372036854775808<n)(h2:n<9223372036854775808):impl_size n=some (n.natAbs:Int):=by
 unfold impl_size
 by_cases h:n<0
 ·have:decide (n<0)=true:=by simpa using h
  have e1:IntKind.wrap .i64 (0 - n) = -n:=by rw [w64] <;> omega
  have e2:IntKind.wrap .u64 (-n) = -n:=by rw [wu64] <;> omega
  rw [this,e1,e2]
  simp only [cond_true];congr 1;omega
 ·have:decide (n<0)=false:=by simpa using h
  have e2:IntKind.wrap .u64 n=n:=by rw [wu64] <;> omega
  rw [this,e2]
  simp only [cond_false];congr 1;omega

theorem wideOf_eq{n:Int}(h1 : -9223372036854775808<n)(h2:n<9223372036854775808):impl_wideOf n=some (wN (decide (n<0)) n.natAbs):=by
 unfold impl_wideOf wN
 rw [size_eq h1 h2]
 simp only [Option.bind_some]
 have e1:n.natAbs / B64=0:=Nat.div_eq_of_lt (by simp only [B64];omega)
 have e2:n.natAbs % B64=n.natAbs:=Nat.mod_eq_of_lt (by simp only [B64];omega)
 rw [e1,e2];rfl

theorem wV_of(n:Int):wV (decide (n<0)) n.natAbs=n:=by
 unfold wV
 by_cases h:n<0
 ·simp [h];omega
 ·simp [h];omega

theorem or_add{a b:Nat}(i:Nat)(hb:b<2 ^ i)(ha:a*2 ^ i<B64):(a*2 ^ i) ||| b=a*2 ^ i+b:=by
 have:=Nat.shiftLeft_add_eq_or_of_lt hb a
 rw [Nat.shiftLeft_eq]at this
 exact this.symm

theorem orw{a b:Nat}(ha:a<B64)(hb:b<B64):(BitVec.toNat (BitVec.ofInt (IntKind.bits .u64) (a:Int) ||| BitVec.ofInt (IntKind.bits .u64) (b:Int)):Int)=((a ||| b:Nat):Int):=by
 have key:∀c:Nat,c<B64→(BitVec.ofInt (IntKind.bits .u64) (c:Int)).toNat=c:=by
  intro c hc
  simp only [B64]at hc
  rw [BitVec.toNat_ofInt]
  simp only [IntKind.bits]
  omega
 rw [BitVec.toNat_or,key a ha,key b hb]

theorem fdiv_pow(a m:Nat):Int.fdiv (a:Int) (2 ^ m)=((a / 2 ^ m:Nat):Int):=by
 rw [show(2:Int) ^ m=((2 ^ m:Nat):Int)by simp]
 rw [Int.fdiv_eq_ediv_of_nonneg _ (Int.natCast_nonneg _)]
 exact(Int.natCast_ediv a (2 ^ m)).symm
theorem mul_powN(a m:Nat):(a:Int)*2 ^ m=((a*2 ^ m:Nat):Int):=by simp

theorem shl_eq{neg:Bool}{M s:Nat}(hs:s<64)(hM:M*2 ^ s<B64*B64):impl_wide_shift (wN neg M) s=some (wN neg (M*2 ^ s)):=by
 have hp:0<2 ^ s:=Nat.pow_pos (by omega)
 have h64:2 ^ s*2 ^ (64 - s)=B64:=by
  rw [←Nat.pow_add,show s+(64 - s)=64 by omega];rfl
 unfold impl_wide_shift
 have c1:decide ((s:Int)≥0)=true:=by simp
 have c2:decide ((s:Int)≥64)=false:=by simp;omega
 have c3:decide ((s:Int)<0)=false:=by simp
 have w1:IntKind.wrap .i64 (64 - (s:Int))=((64 - s:Nat):Int):=by rw [w64] <;> omega
 have c4:decide (((64 - s:Nat):Int)<0)=false:=by simp
 rw [c1,c2,c3,w1,c4]
 simp only [cond_true,cond_false]
 have m1:min (Int.toNat (s:Int)) (IntKind.bits .u64)=s:=by simp [IntKind.bits];omega
 have m2:min (Int.toNat ((64 - s:Nat):Int)) (IntKind.bits .u64)=64 - s:=by simp [IntKind.bits]
 rw [m1,m2]
 simp only [wN]
 rw [mul_powN,mul_powN,fdiv_pow,wu64_mod (M / B64*2 ^ s)]
 have hlo:M % B64<B64:=Nat.mod_lt _ (by simp [B64])
 have hdiv:M % B64 / 2 ^ (64 - s)<2 ^ s:=by
  apply Nat.div_lt_of_lt_mul
  rw [Nat.mul_comm,h64];exact hlo
 have hhi:M / B64*2 ^ s<B64:=by
  have h1:M / B64*B64≤M:=Nat.div_mul_le_self M B64
  have h2:M / B64*2 ^ s*B64≤M*2 ^ s:=by
   rw [Nat.mul_right_comm];exact Nat.mul_le_mul_right _ h1
  exact Nat.lt_of_mul_lt_mul_right (Nat.lt_of_le_of_lt h2 hM)
 rw [Nat.mod_eq_of_lt hhi,orw hhi (Nat.lt_of_lt_of_le hdiv (by rw [←h64];exact Nat.le_mul_of_pos_right _ (Nat.pow_pos (by omega)))),or_add s hdiv hhi,wu64_mod,wu64_mod]
 have e:M*2 ^ s=(M / B64*2 ^ s+M % B64 / 2 ^ (64 - s))*B64+(M % B64*2 ^ s) % B64:=by
  have e1:M=M / B64*B64+M % B64:=by rw [Nat.mul_comm];exact(Nat.div_add_mod M B64).symm
  have e2:M % B64*2 ^ s / B64=M % B64 / 2 ^ (64 - s):=by
   rw [←h64,Nat.mul_comm (M % (2 ^ s*2 ^ (64 - s)))]
   exact Nat.mul_div_mul_left _ _ hp
  have e3:M % B64*2 ^ s=M % B64 / 2 ^ (64 - s)*B64+(M % B64*2 ^ s) % B64:=by
   have:=Nat.div_add_mod (M % B64*2 ^ s) B64
   rw [e2,Nat.mul_comm B64]at this
   exact this.symm
  have e4:M*2 ^ s=M / B64*2 ^ s*B64+M % B64*2 ^ s:=by
   conv=>lhs;rw [e1]
   rw [Nat.add_mul,Nat.mul_right_comm]
  rw [Nat.add_mul,Nat.add_assoc,←e3]
  exact e4
 have hlt:(M % B64*2 ^ s) % B64<B64:=Nat.mod_lt _ (by simp [B64])
 have f1:M*2 ^ s / B64=M / B64*2 ^ s+M % B64 / 2 ^ (64 - s):=by
  rw [e,Nat.mul_comm,Nat.mul_add_div (by simp [B64]),Nat.div_eq_of_lt hlt,Nat.add_zero]
 have f2:M*2 ^ s % B64=(M % B64*2 ^ s) % B64:=by
  conv=>lhs;rw [e]
  rw [Nat.mul_comm,Nat.mul_add_mod,Nat.mod_mod]
 rw [f1,f2]
 have f3:M / B64*2 ^ s+M % B64 / 2 ^ (64 - s)<B64:=by
  rw [←f1]
  exact Nat.div_lt_of_lt_mul hM
 rw [Nat.mod_eq_of_lt f3]

theorem shr_eq{neg:Bool}{M j:Nat}(hj:0<j)(hs:j<64)(hM:M<B64*B64):impl_wide_shift (wN neg M) (-(j:Int))=some (wN neg (M / 2 ^ j)):=by
 have hp:0<2 ^ j:=Nat.pow_pos (by omega)
 have h64:2 ^ (64 - j)*2 ^ j=B64:=by
  rw [←Nat.pow_add,show 64 - j+j=64 by omega];rfl
 unfold impl_wide_shift
 have c1:decide (-(j:Int)≥0)=false:=by simp;omega
 have w0:IntKind.wrap .i64 (0 - -(j:Int))=(j:Int):=by rw [w64] <;> omega
 have c2:decide ((j:Int)≥64)=false:=by simp;omega
 have c3:decide ((j:Int)<0)=false:=by simp
 have w1:IntKind.wrap .i64 (64 - (j:Int))=((64 - j:Nat):Int):=by rw [w64] <;> omega
 have c4:decide (((64 - j:Nat):Int)<0)=false:=by simp
 rw [c1]
 simp only [cond_false,w0,c2,c3,w1,c4]
 have m1:min (Int.toNat (j:Int)) (IntKind.bits .u64)=j:=by simp [IntKind.bits];omega
 have m2:min (Int.toNat ((64 - j:Nat):Int)) (IntKind.bits .u64)=64 - j:=by simp [IntKind.bits]
 rw [m1,m2]
 simp only [wN]
 rw [mul_powN,fdiv_pow,fdiv_pow,wu64_mod (M / B64*2 ^ (64 - j))]
 have hlo:M % B64<B64:=Nat.mod_lt _ (by simp [B64])
 have hhi:M / B64<B64:=Nat.div_lt_of_lt_mul hM
  -- the high part's low bits
 have hq:(M / B64*2 ^ (64 - j)) % B64=(M / B64 % 2 ^ j)*2 ^ (64 - j):=by
  rw [←h64,Nat.mul_comm (M / (2 ^ (64 - j)*2 ^ j)),Nat.mul_mod_mul_left,Nat.mul_comm]
 have hdiv:M % B64 / 2 ^ j<2 ^ (64 - j):=by
  apply Nat.div_lt_of_lt_mul
  rw [Nat.mul_comm,h64];exact hlo
 have hql:(M / B64 % 2 ^ j)*2 ^ (64 - j)<B64:=by
  rw [←h64,Nat.mul_comm]
  exact Nat.mul_lt_mul_of_pos_left (Nat.mod_lt _ hp) (Nat.pow_pos (by omega))
 rw [hq,orw (Nat.lt_of_lt_of_le hdiv (by rw [←h64];exact Nat.le_mul_of_pos_right _ hp)) hql,Nat.or_comm,or_add (64 - j) hdiv hql,wu64_mod]
 have f1:M / 2 ^ j / B64=M / B64 / 2 ^ j:=by rw [Nat.div_div_eq_div_mul,Nat.div_div_eq_div_mul,Nat.mul_comm]
 have f2:M / 2 ^ j % B64=(M / B64 % 2 ^ j)*2 ^ (64 - j)+M % B64 / 2 ^ j:=by
  have e1:M=(M / B64 / 2 ^ j*2 ^ j+M / B64 % 2 ^ j)*B64+M % B64:=by
   have a1:=Nat.div_add_mod M B64
   have a2:=Nat.div_add_mod (M / B64) (2 ^ j)
   rw [Nat.mul_comm (M / B64 / 2 ^ j),a2,Nat.mul_comm]
   exact a1.symm
  have e2:M / 2 ^ j=M / B64 / 2 ^ j*B64+((M / B64 % 2 ^ j)*2 ^ (64 - j)+M % B64 / 2 ^ j):=by
   have e3:M=2 ^ j*(M / B64 / 2 ^ j*B64+(M / B64 % 2 ^ j)*2 ^ (64 - j))+M % B64:=by
    conv=>lhs;rw [e1]
    have e5:∀a:Nat,a*B64=2 ^ j*(a*2 ^ (64 - j)):=fun a=>by
      rw [Nat.mul_left_comm,Nat.mul_comm (2 ^ j),h64]
    rw [Nat.add_mul,e5 (M / B64 % 2 ^ j),Nat.mul_add,Nat.mul_comm (M / B64 / 2 ^ j) (2 ^ j),Nat.mul_assoc]
   conv=>lhs;rw [e3]
   rw [Nat.mul_add_div hp,Nat.add_assoc]
  rw [e2,Nat.mul_comm (M / B64 / 2 ^ j),Nat.mul_add_mod,Nat.mod_eq_of_lt]
  have:=Nat.mod_lt (M / B64) hp
  have h3:(M / B64 % 2 ^ j+1)*2 ^ (64 - j)≤B64:=Nat.le_trans (Nat.mul_le_mul_right _ this) (by rw [Nat.mul_comm,h64];exact Nat.le_refl _)
  rw [Nat.add_mul,Nat.one_mul]at h3
  omega
 rw [f1,f2]
 have f3:(M / B64 % 2 ^ j)*2 ^ (64 - j)+M % B64 / 2 ^ j<B64:=by rw [←f2];exact Nat.mod_lt _ (by simp [B64])
 rw [Nat.mod_eq_of_lt f3]
end Go.Ev.G

namespace Go.Ev.G
open Go Go.Ev
set_option maxRecDepth 100000

def cmpI(a b:Int):Int:=if a<b then -1 else if b<a then 1 else 0

theorem cmpU_eq(a b:Int):cmp_Compare_uint64 a b=some (cmpI a b):=by
 unfold cmp_Compare_uint64 cmp_isNaN_uint64 cmpI
 by_cases h1:a<b
 ·have:decide (a<b)=true:=by simpa using h1
  simp [h1]
 ·by_cases h2:b<a
  ·simp [h1,h2]
  ·simp [h1,h2]

def orI(x y:Int):Int:=bif x==0 then y else x
theorem orI_ne{x:Int}(h:x≠0)(y:Int):orI x y=x:=by
 have:(x==0)=false:=by simpa using h
 rw [orI,this];rfl
theorem orI_z(y:Int):orI 0 y=y:=rfl

theorem or2_ev(x y:Int):Evt (fun k _=>cmp_Or_int k [x,y]) (orI x y):=by
 refine Evt.eq (f:=fun k q=>_) ?_ (fun k q=>by rw [cmp_Or_int])
 have step:∀(i:Nat) (F:Nat→Nat→Option _) r,(∀k q,cmp_Or_int_L58 k (q+1) 0 [x,y] ([x,y].length:Int) i=F k q)→Evt F r→Evt (fun k q=>cmp_Or_int_L58 k q 0 [x,y] ([x,y].length:Int) i) r:=fun i F r h h'=>Evt.step h h'
 by_cases hx:x=0
 ·subst hx
  by_cases hy:y=0
  ·subst hy
   refine Evt.inr (y:=(0,())) (Evt.diag (f:=fun k q=>cmp_Or_int_L58 k q 0 [0,0] ([0,0].length:Int) 0) ?_) .pure
   refine step 0 _ _ (fun k q=>cmp_Or_int_L58.eq_2 k _ _ _ _ q) ?_
   refine Evt.ctrue rfl (Evt.ctrue rfl (Evt.ctrue rfl (Evt.cfalse rfl ?_)))
   refine step 1 _ _ (fun k q=>cmp_Or_int_L58.eq_2 k _ _ _ _ q) ?_
   refine Evt.ctrue rfl (Evt.ctrue rfl (Evt.ctrue rfl (Evt.cfalse rfl ?_)))
   refine step 2 _ _ (fun k q=>cmp_Or_int_L58.eq_2 k _ _ _ _ q) ?_
   exact Evt.cfalse rfl .pure
  ·refine Evt.inl (q:=y) (Evt.diag (f:=fun k q=>cmp_Or_int_L58 k q 0 [0,y] ([0,y].length:Int) 0) ?_) (by rw [orI_z];exact .pure)
   refine step 0 _ _ (fun k q=>cmp_Or_int_L58.eq_2 k _ _ _ _ q) ?_
   refine Evt.ctrue rfl (Evt.ctrue rfl (Evt.ctrue rfl (Evt.cfalse rfl ?_)))
   refine step 1 _ _ (fun k q=>cmp_Or_int_L58.eq_2 k _ _ _ _ q) ?_
   refine Evt.ctrue rfl (Evt.ctrue rfl (Evt.ctrue rfl (Evt.ctrue ?_ .pure)))
   show(y != 0)=true
   simpa using hy
 ·refine Evt.inl (q:=x) (Evt.diag (f:=fun k q=>cmp_Or_int_L58 k q 0 [x,y] ([x,y].length:Int) 0) ?_) (by rw [orI_ne hx];exact .pure)
  refine step 0 _ _ (fun k q=>cmp_Or_int_L58.eq_2 k _ _ _ _ q) ?_
  refine Evt.ctrue rfl (Evt.ctrue rfl (Evt.ctrue rfl (Evt.ctrue ?_ .pure)))
  show(x != 0)=true
  simpa using hx

theorem sizes_ev(n1 n2:Bool)(M1 M2:Nat):Evt (fun k _=>impl_compareSizes k (wN n1 M1) (wN n2 M2)) (cmpI M1 M2):=by
 refine Evt.eq (f:=fun k q=>_) ?_ (fun k q=>by rw [impl_compareSizes])
 refine Evt.bind (.const (cmpU_eq _ _)) (Evt.bind (.const (cmpU_eq _ _)) (Evt.bind (or2_ev _ _) ?_))
 refine .const ?_
 congr 1
 simp only [wN]
 have e1:=Nat.div_add_mod M1 B64
 have e2:=Nat.div_add_mod M2 B64
 have l1:=Nat.mod_lt M1 (y:=B64) (by simp [B64])
 have l2:=Nat.mod_lt M2 (y:=B64) (by simp [B64])
 rcases Nat.lt_trichotomy (M1 / B64) (M2 / B64)with h | h | h
 ·have:M1<M2:=by
   have:(M1 / B64+1)*B64≤M2 / B64*B64:=Nat.mul_le_mul_right _ h
   rw [Nat.add_mul,Nat.one_mul,Nat.mul_comm,Nat.mul_comm (M2 / B64)]at this
   omega
  have c1:cmpI ((M1 / B64:Nat):Int) ((M2 / B64:Nat):Int) = -1:=by unfold cmpI;rw [if_pos (by omega)]
  have c2:cmpI M1 M2 = -1:=by unfold cmpI;rw [if_pos (by omega)]
  rw [c1,c2];rfl
 ·rw [h]at e1
  have c1:cmpI ((M1 / B64:Nat):Int) ((M2 / B64:Nat):Int)=0:=by unfold cmpI;rw [if_neg (by omega),if_neg (by omega)]
  rw [c1,orI_z]
  have i1:(((M1 % B64:Nat):Int)<((M2 % B64:Nat):Int))↔((M1:Int)<M2):=by omega
  have i2:(((M2 % B64:Nat):Int)<((M1 % B64:Nat):Int))↔((M2:Int)<M1):=by omega
  unfold cmpI
  simp only [i1,i2]
 ·have:M2<M1:=by
   have:(M2 / B64+1)*B64≤M1 / B64*B64:=Nat.mul_le_mul_right _ h
   rw [Nat.add_mul,Nat.one_mul,Nat.mul_comm,Nat.mul_comm (M1 / B64)]at this
   omega
  have c1:cmpI ((M1 / B64:Nat):Int) ((M2 / B64:Nat):Int)=1:=by unfold cmpI;rw [if_neg (by omega),if_pos (by omega)]
  have c2:cmpI M1 M2=1:=by unfold cmpI;rw [if_neg (by omega),if_pos (by omega)]
  rw [c1,c2];rfl

theorem isZero_eq(neg:Bool)(M:Nat):impl_wide_isZero (wN neg M)=some (decide (M=0)):=by
 unfold impl_wide_isZero wN
 have e1:=Nat.div_add_mod M B64
 by_cases h:M=0
 ·subst h;simp
 ·have hd:decide (M=0)=false:=by simpa using h
  rw [hd]
  by_cases h1:M / B64=0
  ·have h2:M % B64≠0:=by
    intro h2
    rw [h1,h2]at e1
    omega
   have:((((M % B64:Nat):Int))==0)=false:=by rw [beq_eq_false_iff_ne];intro h3;exact h2 (Int.ofNat.inj h3)
   simp only [h1,this]
   rfl
  ·have:((((M / B64:Nat):Int))==0)=false:=by
    rw [beq_eq_false_iff_ne];intro h3;exact h1 (Int.ofNat.inj h3)
   simp only [this]
   rfl

theorem wV_cmp(n1 n2:Bool)(M1 M2:Nat):Evt (fun k _=>impl_compareWide k (wN n1 M1) (wN n2 M2)) (cmpI (wV n1 M1) (wV n2 M2)):=by
 refine Evt.eq (f:=fun k q=>_) ?_ (fun k q=>by rw [impl_compareWide])
 have rest : ¬ (M1=0∧M2=0)→∀(f:Nat→Nat→Option (Int ⊕ ((Bool×Int×Int)×(Bool×Int×Int)×Unit))),(∀k q,f k q=(bif (!((wN n1 M1).1==(wN n2 M2).1))then(bif (wN n1 M1).1 then some (Sum.inl (-1))else some (Sum.inl 1))else(bif (wN n1 M1).1 then(Option.bind (impl_compareSizes k (wN n2 M2) (wN n1 M1)) fun r4=>some (Sum.inl r4))else some (Sum.inr (wN n1 M1,wN n2 M2,()))))) →
   Evt (fun k q=>both (R:=Int) (P:=(Bool×Int×Int)×(Bool×Int×Int)×Unit) (f k q) (fun q7=>some q7) (fun y5=>(Option.bind (impl_compareSizes k y5.1 y5.2.1) fun r6=>some r6))) (cmpI (wV n1 M1) (wV n2 M2)):=by
  intro hne f hf
  cases n1 <;> cases n2
  ·refine Evt.inr (y:=(wN false M1,wN false M2,())) (Evt.eq (f:=fun _ _=>some _) .pure (fun k q=>by rw [hf];rfl)) ?_
   exact Evt.bind (sizes_ev _ _ _ _) .pure
  ·refine Evt.inl (q:=1) (Evt.eq (f:=fun _ _=>some _) .pure (fun k q=>by rw [hf];rfl)) ?_
   refine .const ?_
   congr 1
   simp only [cmpI,wV]
   simp <;> omega
  ·refine Evt.inl (q := -1) (Evt.eq (f:=fun _ _=>some _) .pure (fun k q=>by rw [hf];rfl)) ?_
   refine .const ?_
   congr 1
   simp only [cmpI,wV]
   simp <;> omega
  ·refine Evt.inl (q:=cmpI M2 M1) (Evt.eq (f:=fun k q=>Option.bind (impl_compareSizes k (wN true M2) (wN true M1)) fun r4=>some (Sum.inl r4)) (Evt.bind (sizes_ev _ _ _ _) .pure) (fun k q=>by rw [hf];rfl)) ?_
   refine .const ?_
   congr 1
   simp only [cmpI,wV]
   simp
 by_cases h1:M1=0
 ·by_cases h2:M2=0
  ·refine Evt.inl (q:=0) ?_ ?_
   ·exact Evt.bind (.const (isZero_eq _ _)) (Evt.ctrue (by simp [h1]) (Evt.bind (.const (isZero_eq _ _)) (Evt.ctrue (by simp [h2]) .pure)))
   ·refine .const ?_
    subst h1;subst h2
    cases n1 <;> cases n2 <;> rfl
  ·refine rest (fun h=>h2 h.2) _ (fun k q => ?_)
   rw [isZero_eq,isZero_eq]
   simp [h1,h2]
 ·refine rest (fun h=>h1 h.1) _ (fun k q => ?_)
  rw [isZero_eq]
  simp [h1]

theorem add64_eq{a b:Nat}{c:Nat}(hc:c≤1):math_bits_Add64 a b c=some ((((a+b+c) % B64:Nat):Int),(((a+b+c) / B64:Nat):Int)):=by
 unfold math_bits_Add64
 have:((c:Int)==0||(c:Int)==1)=true:=by
  have:c=0∨c=1:=by omega
  rcases this with rfl | rfl <;> rfl
 rw [this]
 rfl
theorem sub64_eq{a b:Nat}{c:Nat}(hc:c≤1):math_bits_Sub64 a b c=some ((((a+B64 - b - c) % B64:Nat):Int),((if a<b+c then 1 else 0:Nat):Int)):=by
 unfold math_bits_Sub64
 have:((c:Int)==0||(c:Int)==1)=true:=by
  have:c=0∨c=1:=by omega
  rcases this with rfl | rfl <;> rfl
 rw [this]
 rfl

theorem divmod_unique{a q r:Nat}(h:a=q*B64+r)(hr:r<B64):a / B64=q∧a % B64=r:=by
 subst h
 constructor
 ·rw [Nat.mul_comm,Nat.mul_add_div (by simp [B64]),Nat.div_eq_of_lt hr,Nat.add_zero]
 ·rw [Nat.mul_comm,Nat.mul_add_mod,Nat.mod_eq_of_lt hr]

theorem add_same{neg:Bool}{M1 M2:Nat}(h:M1+M2<B64*B64)(k:Nat):impl_wide_add k (wN neg M1) (wN neg M2)=some (wN neg (M1+M2)):=by
 unfold impl_wide_add
 have e:((wN neg M1).1==(wN neg M2).1)=true:=by simp [wN]
 rw [e]
 simp only [cond_true,wN]
 have a1:=add64_eq (a:=M1 % B64) (b:=M2 % B64) (c:=0) (by omega)
 simp only [Nat.add_zero]at a1
 rw [show((0:Nat):Int)=0 from rfl]at a1
 rw [a1]
 simp only [Option.bind_some]
 have l1:=Nat.mod_lt M1 (y:=B64) (by simp [B64])
 have l2:=Nat.mod_lt M2 (y:=B64) (by simp [B64])
 have hc:(M1 % B64+M2 % B64) / B64≤1:=by
  have:(M1 % B64+M2 % B64) / B64<2:=Nat.div_lt_of_lt_mul (by omega)
  omega
 rw [add64_eq hc]
 simp only [Option.bind_some]
 have e1:=Nat.div_add_mod M1 B64
 have e2:=Nat.div_add_mod M2 B64
 have e3:=Nat.div_add_mod (M1 % B64+M2 % B64) B64
 have l3:=Nat.mod_lt (M1 % B64+M2 % B64) (y:=B64) (by simp [B64])
 have hs:M1+M2=(M1 / B64+M2 / B64+(M1 % B64+M2 % B64) / B64)*B64+(M1 % B64+M2 % B64) % B64:=by
  rw [Nat.add_mul,Nat.add_mul,Nat.mul_comm (M1 / B64),Nat.mul_comm (M2 / B64),Nat.mul_comm ((M1 % B64+M2 % B64) / B64)]
  omega
 obtain⟨u1,u2⟩:=divmod_unique hs l3
 have hq:(M1+M2) / B64<B64:=Nat.div_lt_of_lt_mul h
 rw [u1]at hq
 rw [u1,u2,Nat.mod_eq_of_lt hq]

theorem sub_big{neg n2:Bool}{M1 M2:Nat}(h:M2≤M1)(hM:M1<B64*B64):(Option.bind (math_bits_Sub64 (wN neg M1).2.2 (wN n2 M2).2.2 0) fun r5=>(Option.bind (math_bits_Sub64 (wN neg M1).2.1 (wN n2 M2).2.1 r5.2) fun r6=>some ((wN neg M1).1,r6.1,r5.1)))=some (wN neg (M1 - M2)):=by
 simp only [wN]
 have a1:=sub64_eq (a:=M1 % B64) (b:=M2 % B64) (c:=0) (by omega)
 simp only [Nat.add_zero,Nat.sub_zero]at a1
 rw [show((0:Nat):Int)=0 from rfl]at a1
 rw [a1]
 simp only [Option.bind_some]
 have l1:=Nat.mod_lt M1 (y:=B64) (by simp [B64])
 have l2:=Nat.mod_lt M2 (y:=B64) (by simp [B64])
 have e1:=Nat.div_add_mod M1 B64
 have e2:=Nat.div_add_mod M2 B64
 have hle:M2 / B64≤M1 / B64:=Nat.div_le_div_right h
 have hq:M1 / B64<B64:=Nat.div_lt_of_lt_mul hM
 generalize M1 / B64=q1 at *
 generalize M2 / B64=q2 at *
 generalize M1 % B64=r1 at *
 generalize M2 % B64=r2 at *
 by_cases hb:r1<r2
 ·rw [if_pos hb]
  rw [sub64_eq (c:=1) (by omega)]
  simp only [Option.bind_some]
  have hlt:q2<q1:=by
   rcases Nat.lt_or_ge (q2) (q1)with h' | h'
   ·exact h'
   ·have:q1=q2:=by omega
    rw [this]at e1
    omega
  have h3:B64*(q2)+B64≤B64*(q1):=by
   have:B64*(q2+1)≤B64*(q1):=Nat.mul_le_mul_left _ hlt
   rwa [Nat.mul_add,Nat.mul_one]at this
  have hs:M1 - M2=(q1 - q2 - 1)*B64+(r1+B64 - r2):=by
   rw [Nat.sub_mul,Nat.sub_mul,Nat.one_mul,Nat.mul_comm (q1),Nat.mul_comm (q2)]
   omega
  have hlt2:r1+B64 - r2<B64:=by omega
  obtain⟨u1,u2⟩:=divmod_unique hs hlt2
  rw [u1,u2,Nat.mod_eq_of_lt hlt2]
  have h5:q1+B64 - q2 - 1=(q1 - q2 - 1)+B64:=by omega
  rw [h5,Nat.add_mod_right,Nat.mod_eq_of_lt (by omega)]
 ·rw [if_neg hb]
  rw [sub64_eq (c:=0) (by omega)]
  simp only [Option.bind_some,Nat.sub_zero]
  have hs:M1 - M2=(q1 - q2)*B64+(r1 - r2):=by
   have h3:B64*(q2)≤B64*(q1):=Nat.mul_le_mul_left _ hle
   rw [Nat.sub_mul,Nat.mul_comm (q1),Nat.mul_comm (q2)]
   omega
  have hlt2:r1 - r2<B64:=by omega
  obtain⟨u1,u2⟩:=divmod_unique hs hlt2
  rw [u1,u2]
  have h5:q1+B64 - q2=(q1 - q2)+B64:=by omega
  have h6:r1+B64 - r2=(r1 - r2)+B64:=by omega
  rw [h5,h6,Nat.add_mod_right,Nat.add_mod_right,Nat.mod_eq_of_lt (by omega),Nat.mod_eq_of_lt hlt2]

theorem add_ev{n1 n2:Bool}{M1 M2:Nat}(h:M1+M2<B64*B64):∃neg M,M≤M1+M2∧wV neg M=wV n1 M1+wV n2 M2∧Evt (fun k _=>impl_wide_add k (wN n1 M1) (wN n2 M2)) (wN neg M):=by
 by_cases hn:n1=n2
 ·subst hn
  refine⟨n1,M1+M2,Nat.le_refl _,?_,Evt.eq (f:=fun _ _=>some _) .pure (fun k q=>add_same h k)⟩
  cases n1 <;> simp [wV] <;> omega
 ·have e:((wN n1 M1).1==(wN n2 M2).1)=false:=by
   simp only [wN];cases n1 <;> cases n2 <;> simp_all
  rcases Nat.lt_or_ge M1 M2 with hlt | hge
  ·refine⟨n2,M2 - M1,by omega,?_,Evt.eq (f:=fun k q=>_) ?_ (fun k q=>by rw [impl_wide_add])⟩
   ·cases n1 <;> cases n2 <;> simp_all [wV] <;> omega
   ·refine Evt.cfalse e ?_
    refine Evt.inr (y:=(wN n2 M2,wN n1 M1,(false,0,0),())) (Evt.bind (sizes_ev _ _ _ _) (Evt.ctrue ?_ .pure)) (.const (sub_big (by omega) (by omega)))
    simp [cmpI];omega
  ·refine⟨n1,M1 - M2,by omega,?_,Evt.eq (f:=fun k q=>_) ?_ (fun k q=>by rw [impl_wide_add])⟩
   ·cases n1 <;> cases n2 <;> simp_all [wV] <;> omega
   ·refine Evt.cfalse e ?_
    refine Evt.inr (y:=(wN n1 M1,wN n2 M2,(false,0,0),())) (Evt.bind (sizes_ev _ _ _ _) (Evt.cfalse ?_ .pure)) (.const (sub_big hge (by omega)))
    have : ¬ (M1:Int)<M2:=by omega
    simp only [cmpI,if_neg this]
    split <;> simp

theorem fit_loop:∀(m:Nat) (neg:Bool) (M:Nat) (z:Int×Int),m<9223372036854775808→M<B64*B64 →
  Evt (fun k q=>impl_wide_fit_L28 k q m (wN neg M) z) (.inr (((strip m M).2:Int),wN neg (strip m M).1.toNat,z,())):=by
 intro m
 induction m with
 | zero =>
  intro neg M z _ _
  refine Evt.step (fun k q=>impl_wide_fit_L28.eq_2 k _ _ z q) (Evt.cfalse (by simp) ?_)
  simp only [strip,Int.toNat_natCast]
  exact .pure
 | succ m ih =>
  intro neg M z hm hM
  refine Evt.step (fun k q=>impl_wide_fit_L28.eq_2 k _ _ z q) (Evt.ctrue (by simp <;> omega) ?_)
  have hpar:(M % B64) % 2=M % 2:=Nat.mod_mod_of_dvd M ⟨9223372036854775808,rfl⟩
  by_cases h:M % 2=0
  ·have c:(Int.tmod (wN neg M).2.2 2==0)=true:=by
    simp only [wN]
    have:Int.tmod ((M % B64:Nat):Int) 2=(((M % B64) % 2:Nat):Int):=rfl
    rw [this,hpar,h];rfl
   refine Evt.ctrue c ?_
   have hs:=shr_eq (neg:=neg) (M:=M) (j:=1) (by omega) (by omega) hM
   rw [show(-((1:Nat):Int)) = -1 from rfl,Nat.pow_one]at hs
   refine Evt.bind (.const hs) ?_
   rw [show((m+1:Nat):Int) - 1=(m:Int)by omega,w64 (by omega) (by omega)]
   have:=ih neg (M / 2) z (by omega) (Nat.lt_of_le_of_lt (Nat.div_le_self _ _) hM)
   have e:strip (m+1) (M:Int)=strip m ((M / 2:Nat):Int):=by
    rw [strip,if_pos (by omega)]
    rfl
   rw [e]
   exact this
  ·have c:(Int.tmod (wN neg M).2.2 2==0)=false:=by
    simp only [wN]
    have:Int.tmod ((M % B64:Nat):Int) 2=(((M % B64) % 2:Nat):Int):=rfl
    rw [this,hpar]
    have:M % 2=1:=by omega
    rw [this];rfl
   refine Evt.cfalse c ?_
   have e:strip (m+1) (M:Int)=((M:Int),m+1):=strip_odd (by omega)
   rw [e]
   simp only [Int.toNat_natCast]
   exact .pure

theorem fit_ev{neg:Bool}{M m:Nat}(hM:M<B64*B64)(hm:m<9223372036854775808):Evt (fun k _=>impl_wide_fit k (wN neg M) m) (mkD (wV neg M) m):=by
 refine Evt.eq (f:=fun k q=>_) ?_ (fun k q=>by rw [impl_wide_fit])
 refine Evt.bind (.const (isZero_eq _ _)) ?_
 by_cases h0:M=0
 ·refine Evt.ctrue (by simp [h0]) ?_
  have:wV neg M=0:=by subst h0;cases neg <;> rfl
  rw [this,mkD_zero]
  exact .pure
 ·refine Evt.cfalse (by simp [h0]) ?_
  refine Evt.inr (Evt.diag (fit_loop m neg M (0,0) hm hM)) ?_
  have hb:=strip_bound m (M:Int) (by omega)
  have hne:=strip_ne m (M:Int) (by omega)
  have hv:strip m (wV neg M)=(wV neg (strip m M).1.toNat,(strip m M).2):=by
   cases neg with
   | false=>simp only [wV];simp;rw [Int.max_eq_left hb.1]
   | true =>
    simp only [wV,if_true]
    rw [strip_neg,Int.toNat_of_nonneg hb.1]
  obtain⟨S,hS⟩:=Int.eq_ofNat_of_zero_le hb.1
  rw [hS]at hv
  simp only [Int.toNat_natCast,hS]at hv ⊢
  have hSM:S<B64*B64:=by omega
  have hS0:S≠0:=by omega
  unfold mkD
  rw [hv]
  simp only [wN]
  have e1:=Nat.div_add_mod S B64
  have hlt:=Nat.mod_lt S (y:=B64) (by simp [B64])
  by_cases g1:(strip m (M:Int)).2≤24
  ·refine Evt.cfalse (by simp;omega) ?_
   by_cases g2:S / B64=0
   ·refine Evt.cfalse (by simp [g2]) ?_
    have g3:S % B64=S:=by rw [g2]at e1;omega
    simp only [g3]
    by_cases g4:S≤1099511627776
    ·refine Evt.cfalse (by simp;omega) ?_
     rw [if_pos (by cases neg <;> simp [wV] <;> omega)]
     have w1:IntKind.wrap .i64 (S:Int)=S:=by rw [w64] <;> omega
     have w2:IntKind.wrap .i64 (0 - (S:Int)) = -(S:Int):=by rw [w64] <;> omega
     cases neg with
     | true =>
      refine Evt.ctrue rfl (.const ?_)
      rw [w1,w2];rfl
     | false =>
      refine Evt.cfalse rfl (.const ?_)
      rw [w1];rfl
    ·refine Evt.ctrue (by simp;omega) ?_
     rw [if_neg (by cases neg <;> simp [wV] <;> omega)]
     exact .pure
   ·have hq:0<S / B64:=Nat.pos_of_ne_zero g2
    refine Evt.ctrue (decide_eq_true (Int.ofNat_lt.2 hq)) ?_
    have:B64≤S:=by
     have:B64*1≤B64*(S / B64):=Nat.mul_le_mul_left _ hq
     omega
    simp only [B64]at this
    rw [if_neg (by cases neg <;> simp [wV] <;> omega)]
    exact .pure
  ·refine Evt.ctrue (by simp;omega) ?_
   rw [if_neg (by intro h;exact g1 h.2.2)]
   exact .pure
end Go.Ev.G

namespace Go.Ev.G
open Go Go.Ev
set_option maxRecDepth 100000

theorem gd_nat{a:Int×Int}(h:gd a):∃(n:Int) (j:Nat),a=(n,(j:Int))∧j≤24 ∧ -1099511627776≤n∧n≤1099511627776∧(j=0∨n % 2≠0):=by
 obtain⟨n,j⟩:=a
 obtain⟨h1,h2,h3,h4,h5⟩:=h
 simp only at *
 obtain⟨j,rfl⟩:=Int.eq_ofNat_of_zero_le h1
 exact⟨n,j,rfl,by omega,h3,h4,by omega⟩

theorem max_if(a b:Int):(if a<b then b else a)=max a b:=by
 by_cases h:a<b
 ·rw [if_pos h];omega
 ·rw [if_neg h];omega

theorem wide_at{n:Int}{j K:Nat}(hj:j≤K)(hK:K≤48)(h1 : -1099511627776≤n)(h2:n≤1099511627776) :
  impl_wideOf n=some (wN (decide (n<0)) n.natAbs)∧impl_wide_shift (wN (decide (n<0)) n.natAbs) (IntKind.wrap .i64 ((K:Int) - (j:Int)))=some (wN (decide (n<0)) (n.natAbs*2 ^ (K - j))) ∧
   n.natAbs*2 ^ (K - j)<B64*33554432∧wV (decide (n<0)) (n.natAbs*2 ^ (K - j))=n*2 ^ (K - j):=by
 have hw:IntKind.wrap .i64 ((K:Int) - (j:Int))=((K - j:Nat):Int):=by rw [w64] <;> omega
 have hp:2 ^ (K - j)≤2 ^ 48:=Nat.pow_le_pow_right (by omega) (by omega)
 have hb:n.natAbs*2 ^ (K - j)<B64*33554432:=by
  have:n.natAbs*2 ^ (K - j)≤1099511627776*2 ^ 48:=Nat.mul_le_mul (by omega) hp
  simp only [B64]
  omega
 refine⟨wideOf_eq (by omega) (by omega),?_,hb,?_⟩
 ·rw [hw]
  exact shl_eq (by omega) (Nat.lt_of_lt_of_le hb (by simp [B64]))
 ·have h0:=wV_of n
  unfold wV at h0 ⊢
  by_cases h:n<0
  ·simp only [h,decide_true,if_true]at h0 ⊢
   conv=>rhs;rw [←h0]
   simp [Int.neg_mul]
  ·simp only [h,decide_false,Bool.false_eq_true,if_false]at h0 ⊢
   conv=>rhs;rw [←h0]
   simp

theorem sumOf_ev{a b:Int×Int}(ha:gd a)(hb:gd b):Evt (fun k _=>impl_sumOf k a b) (sumD a b):=by
 obtain⟨n,j,rfl,a1,a2,a3,a4⟩:=gd_nat ha
 obtain⟨m,i,rfl,b1,b2,b3,b4⟩:=gd_nat hb
 refine Evt.eq (f:=fun k q=>_) ?_ (fun k q=>by rw [impl_sumOf])
 simp only [max_if]
 have hmax:max ((j:Nat):Int) (i:Int)=((max j i:Nat):Int):=by omega
 simp only [hmax]
 obtain⟨u1,u2,u3,u4⟩:=wide_at (n:=n) (j:=j) (K:=max j i) (by omega) (by omega) a2 a3
 obtain⟨v1,v2,v3,v4⟩:=wide_at (n:=m) (j:=i) (K:=max j i) (by omega) (by omega) b2 b3
 refine Evt.bind (.const u1) (Evt.bind (.const u2) (Evt.bind (.const v1) (Evt.bind (.const v2) ?_)))
 obtain⟨neg,M,hM,hv,hev⟩:=add_ev (n1:=decide (n<0)) (n2:=decide (m<0)) (M1:=n.natAbs*2 ^ (max j i - j)) (M2:=m.natAbs*2 ^ (max j i - i)) (by simp only [B64]at *; omega)
 refine Evt.bind hev (Evt.bind (fit_ev (by simp only [B64]at *; omega) (by omega)) ?_)
 rw [hv,u4,v4]
 have e:sumD (n,(j:Int)) (m,(i:Int))=mkD (n*2 ^ (max j i - j)+m*2 ^ (max j i - i)) (max j i):=by simp [sumD,sumN,exA]
 rw [e]
 exact .pure

def sv(a:Int×Int):Int:=a.1*2 ^ (24 - a.2.toNat)

theorem cmpI_mul{a b p:Int}(hp:0<p):cmpI (a*p) (b*p)=cmpI a b:=by
 unfold cmpI
 have i1:(a*p<b*p)↔(a<b):=Int.mul_lt_mul_right hp
 have i2:(b*p<a*p)↔(b<a):=Int.mul_lt_mul_right hp
 simp only [i1,i2]

theorem cmpD_scale{n m:Int}{j i K:Nat}(hj:j≤K)(hi:i≤K)(hK:K≤24):cmpI (n*2 ^ (K - j)) (m*2 ^ (K - i))=cmpI (n*2 ^ (24 - j)) (m*2 ^ (24 - i)):=by
 have hp:(0:Int)<2 ^ (24 - K):=Int.pow_pos (by omega)
 rw [←cmpI_mul (a:=n*2 ^ (K - j)) (b:=m*2 ^ (K - i)) hp,Int.mul_assoc,Int.mul_assoc,←Int.pow_add,←Int.pow_add]
 rw [show K - j+(24 - K)=24 - j by omega,show K - i+(24 - K)=24 - i by omega]

theorem compareD_ev{a b:Int×Int}(ha:gd a)(hb:gd b):Evt (fun k _=>impl_compareD k a b) (cmpI (sv a) (sv b)):=by
 obtain⟨n,j,rfl,a1,a2,a3,a4⟩:=gd_nat ha
 obtain⟨m,i,rfl,b1,b2,b3,b4⟩:=gd_nat hb
 refine Evt.eq (f:=fun k q=>_) ?_ (fun k q=>by rw [impl_compareD])
 simp only [max_if]
 have hmax:max ((j:Nat):Int) (i:Int)=((max j i:Nat):Int):=by omega
 simp only [hmax]
 obtain⟨u1,u2,u3,u4⟩:=wide_at (n:=n) (j:=j) (K:=max j i) (by omega) (by omega) a2 a3
 obtain⟨v1,v2,v3,v4⟩:=wide_at (n:=m) (j:=i) (K:=max j i) (by omega) (by omega) b2 b3
 refine Evt.bind (.const u1) (Evt.bind (.const u2) (Evt.bind (.const v1) (Evt.bind (.const v2) (Evt.bind (wV_cmp _ _ _ _) ?_))))
 rw [u4,v4,cmpD_scale (by omega) (by omega) (by omega)]
 exact .pure

theorem sign_eq(n:Int):spec_l1Sign n=some (cmpI n 0):=by
 unfold spec_l1Sign cmpI
 rcases Int.lt_trichotomy n 0 with h | h | h
 ·have h1 : ¬ n>0:=by omega
  simp [h,h1]
 ·subst h;rfl
 ·have h1 : ¬ n<0:=by omega
  simp [h,h1]

theorem dyDown_eq{n:Int}{p:Nat}(hp:0<p)(h1 : -9223372036854775807≤n)(h2:n<9223372036854775808):spec_dyDown n p=some (n / (p:Int)):=by
 unfold spec_dyDown
 have e0:(((p:Nat):Int)==0)=false:=by rw [beq_eq_false_iff_ne];omega
 have hq:Int.tmod n p+p*Int.tdiv n p=n:=Int.tmod_add_mul_tdiv n p
 have hpi:(0:Int)<p:=by omega
 have hle : -9223372036854775807≤Int.tdiv n p∧Int.tdiv n p<9223372036854775808:=by
  have h3:=Int.natAbs_tdiv_le_natAbs n p
  omega
 rw [e0]
 simp only [cond_false]
 by_cases h:Int.tmod n p<0
 ·have hd:decide (Int.tmod n p<0)=true:=by simpa using h
  have hlt : -(p:Int)<Int.tmod n p:=by
   have:=Int.lt_tmod_of_pos n hpi
   exact this
  have e:n / (p:Int)=Int.tdiv n p - 1:=by
   have h4:n=(Int.tmod n p+p)+p*(Int.tdiv n p - 1):=by
    rw [Int.mul_sub,Int.mul_one];omega
   conv=>lhs;rw [h4]
   rw [Int.add_mul_ediv_left _ _ (by omega),Int.ediv_eq_zero_of_lt (by omega) (by omega)]
   omega
  rw [hd,w64 (n:=Int.tdiv n p) (by omega) (by omega),w64 (by omega) (by omega),e]
  rfl
 ·have hd:decide (Int.tmod n p<0)=false:=by simpa using h
  have hlt:Int.tmod n p<p:=Int.tmod_lt_of_pos n hpi
  have e:n / (p:Int)=Int.tdiv n p:=by
   have h4:n=Int.tmod n p+p*Int.tdiv n p:=by omega
   conv=>lhs;rw [h4]
   rw [Int.add_mul_ediv_left _ _ (by omega),Int.ediv_eq_zero_of_lt (by omega) (by omega)]
   omega
  rw [hd,w64 (n:=Int.tdiv n p) (by omega) (by omega),e]
  rfl

theorem dyFloor_eq{n:Int}{j:Nat}(hj:j≤24)(h1 : -1099511627776≤n)(h2:n≤1099511627776):spec_dyFloor (n,(j:Int))=some (n / ((2 ^ j:Nat):Int)):=by
 unfold spec_dyFloor
 simp only [dyPower_eq (show j≤62 by omega),Option.bind_some]
 rw [dyDown_eq (Nat.pow_pos (by omega)) (by omega) (by omega)]
 rfl

theorem dyCmp_ev{a b:Int×Int}(ha:gd a)(hb:gd b):Evt (fun k _=>spec_dyCmp k a b) (cmpI (sv a) (sv b)):=by
 obtain⟨n,j,rfl,a1,a2,a3,a4⟩:=gd_nat ha
 obtain⟨m,i,rfl,b1,b2,b3,b4⟩:=gd_nat hb
 refine Evt.eq (f:=fun k q=>_) ?_ (fun k q=>by rw [spec_dyCmp])
 refine Evt.bind (.const (dyFloor_eq a1 a2 a3)) (Evt.bind (.const (dyFloor_eq b1 b2 b3)) ?_)
  -- what each is made of
 have part:∀(n:Int) (j:Nat),j≤24 → -1099511627776≤n→n≤1099511627776→∃r:Int,0≤r∧r<((2 ^ j:Nat):Int)∧n=r+(n / ((2 ^ j:Nat):Int))*((2 ^ j:Nat):Int) ∧ -1099511627776≤n / ((2 ^ j:Nat):Int)∧n / ((2 ^ j:Nat):Int)≤1099511627776 ∧
   n*2 ^ (24 - j)=r*2 ^ (24 - j)+(n / ((2 ^ j:Nat):Int))*16777216∧r*2 ^ (24 - j)<16777216∧0≤r*2 ^ (24 - j):=by
  intro n j hj h1 h2
  have hp:(0:Nat)<2 ^ j:=Nat.pow_pos (by omega)
  have hpi:(0:Int)<((2 ^ j:Nat):Int):=by omega
  have e:=Int.emod_add_mul_ediv n ((2 ^ j:Nat):Int)
  have h3:=Int.emod_nonneg n (show((2 ^ j:Nat):Int)≠0 by omega)
  have h4:=Int.emod_lt_of_pos n hpi
  have hpow:((2 ^ j:Nat):Int)*2 ^ (24 - j)=16777216:=by
   rw [show((2 ^ j:Nat):Int)=(2:Int) ^ j by simp,←Int.pow_add,show j+(24 - j)=24 by omega]
   rfl
  have hq:(0:Int)<2 ^ (24 - j):=Int.pow_pos (by omega)
  refine⟨n % ((2 ^ j:Nat):Int),h3,h4,?_,?_,?_,?_,?_,?_⟩
  ·rw [Int.mul_comm (n / _)];exact e.symm
  ·have:=Int.ediv_le_ediv hpi h1
   have h5:(-1099511627776:Int) ≤ -1099511627776 / ((2 ^ j:Nat):Int):=by
    rw [Int.le_ediv_iff_mul_le hpi]
    have:(1:Int)≤((2 ^ j:Nat):Int):=by omega
    omega
   omega
  ·have:=Int.ediv_le_ediv hpi h2
   have h5:(1099511627776:Int) / ((2 ^ j:Nat):Int)≤1099511627776:=Int.ediv_le_self _ (by omega)
   omega
  ·conv=>lhs;rw [←e]
   rw [Int.add_mul,Int.mul_comm ((2 ^ j:Nat):Int),Int.mul_assoc,hpow]
  ·rw [←hpow]
   exact Int.mul_lt_mul_of_pos_right h4 hq
  ·exact Int.mul_nonneg h3 (by omega)
 obtain⟨r,r1,r2,r3,r4,r5,r6,r7,r8⟩:=part n j a1 a2 a3
 obtain⟨s,s1,s2,s3,s4,s5,s6,s7,s8⟩:=part m i b1 b2 b3
 have hsv1:sv (n,(j:Int))=r*2 ^ (24 - j)+(n / ((2 ^ j:Nat):Int))*16777216:=by simp only [sv,Int.toNat_natCast];exact r6
 have hsv2:sv (m,(i:Int))=s*2 ^ (24 - i)+(m / ((2 ^ i:Nat):Int))*16777216:=by simp only [sv,Int.toNat_natCast];exact s6
 rw [hsv1,hsv2]
 generalize hP:n / ((2 ^ j:Nat):Int)=p at *
 generalize hQ:m / ((2 ^ i:Nat):Int)=q at *
 by_cases hpq:p=q
 ·subst hpq
  refine Evt.cfalse (by simp) ?_
  refine Evt.bind (.const (dyPower_eq (show j≤62 by omega))) ?_
  have pj:((2 ^ j:Nat):Int)≤16777216:=by
   have:2 ^ j≤2 ^ 24:=Nat.pow_le_pow_right (by omega) a1
   omega
  have pi:((2 ^ i:Nat):Int)≤16777216:=by
   have:2 ^ i≤2 ^ 24:=Nat.pow_le_pow_right (by omega) b1
   omega
  have w1:IntKind.wrap .i64 (p*((2 ^ j:Nat):Int))=n - r:=by rw [w64] <;> omega
  have w2:IntKind.wrap .i64 (p*((2 ^ i:Nat):Int))=m - s:=by rw [w64] <;> omega
  have w3:IntKind.wrap .i64 (n - (n - r))=r:=by rw [w64] <;> omega
  have w4:IntKind.wrap .i64 (m - (m - s))=s:=by rw [w64] <;> omega
  simp only [w1,w3]
  have x1:=dyAt_ev (n:=r) (j:=j) (K:=24) a1 (by omega) (by omega) (by omega)
  have x2:=dyAt_ev (n:=s) (j:=i) (K:=24) b1 (by omega) (by omega) (by omega)
  have t1:=atV_small (24 - j) r (by omega) (by omega)
  have t2:=atV_small (24 - i) s (by omega) (by omega)
  refine Evt.bind x1 (Evt.bind (.const (dyPower_eq (show i≤62 by omega))) ?_)
  simp only [w2,w4]
  refine Evt.bind x2 ?_
  rw [atV_true _ _ t1,atV_true _ _ t2,w64 (by omega) (by omega)]
  refine Evt.bind (.const (sign_eq _)) (.const ?_)
  congr 1
  unfold cmpI
  have i1:(r*2 ^ (24 - j) - s*2 ^ (24 - i)<0)↔(r*2 ^ (24 - j)+p*16777216<s*2 ^ (24 - i)+p*16777216):=by omega
  have i2:(0<r*2 ^ (24 - j) - s*2 ^ (24 - i))↔(s*2 ^ (24 - i)+p*16777216<r*2 ^ (24 - j)+p*16777216):=by omega
  simp only [i1,i2]
 ·refine Evt.ctrue (by simpa using hpq) ?_
  rw [w64 (by omega) (by omega)]
  refine Evt.bind (.const (sign_eq _)) (.const ?_)
  congr 1
  unfold cmpI
  rcases Int.lt_or_gt_of_ne hpq with h | h
  ·rw [if_pos (by omega),if_pos (by omega)]
  ·rw [if_neg (by omega),if_pos (by omega),if_neg (by omega),if_pos (by omega)]

theorem minus_eq{a:Int×Int}(h:gd a):impl_minus a=some (-a.1,a.2):=by
 have:=h.2.2
 unfold impl_minus
 rw [w64 (by omega) (by omega)]
 congr 2
 omega

theorem gd_neg{a:Int×Int}(h:gd a):gd (-a.1,a.2):=⟨h.1,h.2.1,by have:=h.2.2;simp;omega,by have:=h.2.2;simp;omega,by rcases h.2.2.2.2 with h | h;exact .inl h;exact .inr (by simp;omega)⟩
theorem sv_neg(a:Int×Int):sv (-a.1,a.2) = -sv a:=by simp [sv,Int.neg_mul]
theorem sv_pos{a:Int×Int}:(0<sv a)↔0<a.1:=by
 have hp:(0:Int)<2 ^ (24 - a.2.toNat):=Int.pow_pos (by omega)
 unfold sv
 constructor
 ·intro h;exact Int.pos_of_mul_pos_left h hp
 ·intro h;exact Int.mul_pos h hp

def absD(a:Int×Int):Int×Int:=((a.1.natAbs:Int),a.2)
theorem absD_gd{a:Int×Int}(h:gd a):gd (absD a):=⟨h.1,h.2.1,by simp [absD] <;> omega,by have:=h.2.2;simp [absD];omega,by rcases h.2.2.2.2 with h | h;exact .inl h;exact .inr (by simp [absD];omega)⟩
theorem mxAbs_eq{a:Int×Int}(h:gd a):spec_mxAbs a=some (absD a):=by
 have:=h.2.2
 unfold spec_mxAbs spec_l1Abs
 rw [most_eq,w64 (by omega) (by omega)]
 simp only [Option.bind_some,absD]
 congr 2
 omega
end Go.Ev.G

namespace Go.Ev.G
open Go Go.Ev
set_option maxRecDepth 100000

theorem isTable1_eq(x:Int×Int):impl_isTable_1 x=some (!decide (gd x)):=by
 unfold impl_isTable_1
 rw [isDyadic_eq];rfl

def tab{α:Type}(g:α→Prop)[DecidablePred g](m:List (List α)):Bool:=decide (1≤m.length∧m.length≤3)&&m.all fun row=>decide (row.length=m.length)&&row.all fun x=>decide (g x)

theorem contains1_ev{xs:List (Int×Int)}(hb:xs.length<lenB):Evt (fun k _=>slices_ContainsFunc_Dyadic_Dyadic_impl_isTable_1 k xs ()) (xs.any fun x => !decide (gd x)):=by
 refine Evt.eq (f:=fun k q=>_) ?_ (fun k q=>by rw [slices_ContainsFunc_Dyadic_Dyadic_impl_isTable_1])
 have h:=index_all (d0:=(0,0)) (L:=fun k n i=>slices_IndexFunc_Dyadic_Dyadic_impl_isTable_1_L26 k n xs () (xs.length:Int) i) (xs:=xs) (p:=fun _ x=>impl_isTable_1 x) (P:=fun x => !decide (gd x)) (fun x _ => .const (isTable1_eq x)) (fun _ _ _=>rfl) hb
 rw [←findIdx?_any]
 have h2:Evt (fun k _=>slices_IndexFunc_Dyadic_Dyadic_impl_isTable_1 k xs ()) (match xs.findIdx? (fun x => !decide (gd x))with | some j=>(j:Int) | none => -1):=by
  refine Evt.eq (f:=fun k q=>_) ?_ (fun k q=>by rw [slices_IndexFunc_Dyadic_Dyadic_impl_isTable_1])
  cases hf:xs.findIdx? (fun x => !decide (gd x))with
  | none=>rw [hf]at h;exact Evt.inr (Evt.diag h) .pure
  | some j=>rw [hf]at h;exact Evt.inl (Evt.diag h) .pure
 refine Evt.bind h2 (.const ?_)
 cases hf:xs.findIdx? (fun x => !decide (gd x))with
 | none=>rfl
 | some j=>simp

theorem isTable_ev{m:List (List (Int×Int))}(hb:m.length<lenB)(hm:∀r∈m,r.length<lenB):Evt (fun k _=>impl_isTable k m) (tab gd m):=by
 refine Evt.eq (f:=fun k q=>_) ?_ (fun k q=>by rw [impl_isTable])
 have key:∀(r d:List (List (Int×Int))),d++r=m→Evt (fun k n=>impl_isTable_L26 k n m m (m.length:Int) d.length) (if (r.all fun row=>decide (row.length=m.length)&&row.all fun x=>decide (gd x))then .inr (m,())else .inl false):=by
  intro r
  induction r with
  | nil =>
   intro d h
   refine Evt.step (fun k n=>impl_isTable_L26.eq_2 k _ _ _ _ n) ?_
   rw [List.append_nil]at h
   subst h
   exact Evt.rng0 .pure
  | cons e r ih =>
   intro d h
   refine Evt.step (fun k n=>impl_isTable_L26.eq_2 k _ _ _ _ n) ?_
   have ih:=ih (d ++ [e]) (by simpa using h)
   rw [←len_next (r:=r) (by rw [h];exact hb)]at ih
   subst h
   refine Evt.rng (F:=fun k n x=>(bif ((x.length:Int) != ((d++e::r).length:Int))then some (Sum.inl false)else(Option.bind (slices_ContainsFunc_Dyadic_Dyadic_impl_isTable_1 k x ()) fun r1=>(bif r1 then some (Sum.inl false)else(impl_isTable_L26 k n (d++e::r) (d++e::r) ((d++e::r).length:Int) (IntKind.wrap .i64 ((d.length:Int)+1))))))) ?_
   by_cases h1:e.length=(d++e::r).length
   ·refine Evt.cfalse (by rw [h1];simp) (Evt.bind (contains1_ev (hm e (by simp))) ?_)
    cases h2:e.any fun x => !decide (gd x)with
    | true =>
     refine Evt.ctrue rfl ?_
     have:(e.all fun x=>decide (gd x))=false:=by
      rw [List.any_eq_not_all_not]at h2
      simpa using h2
     simp only [List.all_cons,this,Bool.and_false,Bool.false_and]
     exact .pure
    | false =>
     refine Evt.cfalse rfl ?_
     have:(e.all fun x=>decide (gd x))=true:=by
      rw [List.any_eq_not_all_not]at h2
      simpa using h2
     simp only [List.all_cons,this,h1,decide_true,Bool.true_and]
     exact ih
   ·refine Evt.ctrue (by rw [bne_iff_ne];omega) ?_
    simp only [List.all_cons,h1,decide_false,Bool.false_and]
    exact .pure
 have h0:=key m [] rfl
 simp only [List.length_nil]at h0
 unfold tab
 cases hall:(m.all fun row=>decide (row.length=m.length)&&row.all fun x=>decide (gd x))with
 | true =>
  rw [hall]at h0
  refine Evt.inr (Evt.diag h0) (Evt.bind (.const (inside_eq _ _ _)) (.const ?_))
  congr 1
  rw [Bool.and_true]
  simp only [decide_eq_decide]
  omega
 | false =>
  rw [hall]at h0
  refine Evt.inl (Evt.diag h0) (.const ?_)
  rw [Bool.and_false]

theorem l1All_ev{xs:List Int}{lo hi:Int}(hb:xs.length<lenB):Evt (fun k _=>spec_l1All k xs lo hi) (xs.all fun x=>decide (lo≤x∧x≤hi)):=by
 refine Evt.eq (f:=fun k q=>_) ?_ (fun k q=>by rw [spec_l1All])
 have key:∀(r d:List Int),d++r=xs→Evt (fun k n=>spec_l1All_L26 k n lo hi xs (xs.length:Int) d.length) (if (r.all fun x=>decide (lo≤x∧x≤hi))then .inr ()else .inl false):=by
  intro r
  induction r with
  | nil =>
   intro d h
   refine Evt.step (fun k n=>spec_l1All_L26.eq_2 k _ _ _ _ _ n) ?_
   rw [List.append_nil]at h
   subst h
   exact Evt.rng0 .pure
  | cons e r ih =>
   intro d h
   refine Evt.step (fun k n=>spec_l1All_L26.eq_2 k _ _ _ _ _ n) ?_
   have ih:=ih (d ++ [e]) (by simpa using h)
   rw [←len_next (r:=r) (by rw [h];exact hb)]at ih
   subst h
   refine Evt.rng (F:=fun k n x=>(Option.bind (spec_l1In x lo hi) fun r1=>(bif (!r1)then some (Sum.inl false)else(spec_l1All_L26 k n lo hi (d++e::r) ((d++e::r).length:Int) (IntKind.wrap .i64 ((d.length:Int)+1)))))) ?_
   refine Evt.bind (.const (l1In_eq _ _ _)) ?_
   by_cases h1:lo≤e∧e≤hi
   ·refine Evt.cfalse (by simp [h1]) ?_
    simp only [List.all_cons,h1,and_self,decide_true,Bool.true_and]
    exact ih
   ·refine Evt.ctrue (by rw [decide_eq_false h1];rfl) ?_
    simp only [List.all_cons,decide_eq_false h1,Bool.false_and]
    exact .pure
 have h0:=key xs [] rfl
 simp only [List.length_nil]at h0
 cases hall:(xs.all fun x=>decide (lo≤x∧x≤hi))with
 | true=>rw [hall]at h0;exact Evt.inr (Evt.diag h0) .pure
 | false=>rw [hall]at h0;exact Evt.inl (Evt.diag h0) .pure

theorem square_ev{n:Int}{xs:List Int}(hb:xs.length<lenB):Evt (fun k _=>spec_mxSquare k n xs) (decide (1≤n∧n≤3)&&xs.all fun x=>decide (n≤x∧x≤n)):=by
 refine Evt.eq (f:=fun k q=>_) ?_ (fun k q=>by rw [spec_mxSquare])
 refine Evt.bind (.const (l1In_eq _ _ _)) ?_
 cases h:decide (1≤n∧n≤3)with
 | true=>exact Evt.ctrue rfl (Evt.bind (l1All_ev hb) .pure)
 | false=>exact Evt.cfalse rfl .pure

theorem mxGood_ev{m:List (List (Int×Int))}(hb:m.length<274877906944)(hm:∀r∈m,r.length<lenB):Evt (fun k _=>spec_mxGood k m) (tab gd m):=by
 refine Evt.eq (f:=fun k q=>_) ?_ (fun k q=>by rw [spec_mxGood])
 have inner:∀(x0:List (List (Int×Int))) (x3:List Int) (x5:List (Int×Int)) (x8:List (List (Int×Int))) (x9 x10:Int) (x14:List (Int×Int)),x14.length<lenB→∀(r d:List (Int×Int)),d++r=x14 →
   Evt (fun k n=>spec_mxGood_L29898 k n x0 x3 x5 x8 x9 x10 x14 (x14.length:Int) d.length) (if (r.all fun x=>decide (gd x))then .inr (x0,x3,x5,x8,x9,x10,())else .inl false):=by
  intro x0 x3 x5 x8 x9 x10 x14 hb r
  induction r with
  | nil =>
   intro d h
   refine Evt.step (fun k n=>spec_mxGood_L29898.eq_2 k _ _ _ _ _ _ _ _ _ n) ?_
   rw [List.append_nil]at h
   subst h
   exact Evt.rng0 .pure
  | cons e r ih =>
   intro d h
   refine Evt.step (fun k n=>spec_mxGood_L29898.eq_2 k _ _ _ _ _ _ _ _ _ n) ?_
   have ih:=ih (d ++ [e]) (by simpa using h)
   rw [←len_next (r:=r) (by rw [h];exact hb)]at ih
   subst h
   refine Evt.rng (F:=fun k n x=>(Option.bind (spec_dyGood x) fun r1=>(bif (!r1)then some (Sum.inl false)else(spec_mxGood_L29898 k n x0 x3 x5 x8 x9 x10 (d++e::r) ((d++e::r).length:Int) (IntKind.wrap .i64 ((d.length:Int)+1)))))) ?_
   refine Evt.bind (.const (dyGood_eq _)) ?_
   by_cases h1:gd e
   ·refine Evt.cfalse (by simp [h1]) ?_
    simp only [List.all_cons,h1,decide_true,Bool.true_and]
    exact ih
   ·refine Evt.ctrue (by simp [h1]) ?_
    simp only [List.all_cons,h1,decide_false,Bool.false_and]
    exact .pure
 have key:∀(r d:List (List (Int×Int))),d++r=m→Evt (fun k n=>spec_mxGood_L58 k n m (d.map fun row=>(row.length:Int)) m (m.length:Int) d.length) (if (r.all fun row=>row.all fun x=>decide (gd x))then .inr (m,m.map fun row=>(row.length:Int),())else .inl false):=by
  intro r
  induction r with
  | nil =>
   intro d h
   refine Evt.step (fun k n=>spec_mxGood_L58.eq_2 k _ _ _ _ _ n) ?_
   rw [List.append_nil]at h
   subst h
   exact Evt.rng0 .pure
  | cons e r ih =>
   intro d h
   refine Evt.step (fun k n=>spec_mxGood_L58.eq_2 k _ _ _ _ _ n) ?_
   have ih:=ih (d ++ [e]) (by simpa using h)
   have hl:=congrArg List.length h
   simp at hl
   rw [←len_next (r:=r) (by rw [h];simp only [lenB];omega)]at ih
   have hme:=hm e (by rw [←h];simp)
   subst h
   refine Evt.rng (F:=fun k n x=>(both (R:=Bool) (P:=(List (List (Int×Int)))×(List Int)×(List (Int×Int))×(List (List (Int×Int)))×Int×Int×Unit) (spec_mxGood_L29898 k k (d++e::r) (d.map fun row=>(row.length:Int)) x (d++e::r) ((d++e::r).length:Int) (d.length:Int) x (x.length:Int) 0) (fun q4=>some (Sum.inl q4)) (fun y3=>(bif (decide (y3.2.1.length+([(y3.2.2.1.length:Int)]:List Int).length<274877906944))then(spec_mxGood_L58 k n y3.1 (y3.2.1++([(y3.2.2.1.length:Int)]:List Int)) y3.2.2.2.1 y3.2.2.2.2.1 (IntKind.wrap .i64 (y3.2.2.2.2.2.1+1)))else none)))) ?_
   have hi:=inner (d++e::r) (d.map fun row=>(row.length:Int)) e (d++e::r) ((d++e::r).length:Int) (d.length:Int) e hme e [] rfl
   simp only [List.length_nil]at hi
   cases h1:e.all fun x=>decide (gd x)with
   | true =>
    rw [h1]at hi
    refine Evt.inr (Evt.diag hi) (Evt.ctrue (by simp;omega) ?_)
    simp only [List.all_cons,h1,Bool.true_and]
    simpa using ih
   | false =>
    rw [h1]at hi
    refine Evt.inl (Evt.diag hi) ?_
    simp only [List.all_cons,h1,Bool.false_and]
    exact .pure
 have h0:=key m [] rfl
 simp only [List.length_nil,List.map_nil]at h0
 have ht:tab gd m=((m.all fun row=>row.all fun x=>decide (gd x))&&(decide (1≤(m.length:Int)∧(m.length:Int)≤3)&&(m.map fun row=>(row.length:Int)).all fun x=>decide ((m.length:Int)≤x∧x≤(m.length:Int)))):=by
  unfold tab
  rw [Bool.eq_iff_iff]
  simp only [Bool.and_eq_true,List.all_eq_true,decide_eq_true_eq,List.mem_map,forall_exists_index,and_imp]
  constructor
  ·rintro⟨⟨h1,h2⟩,h3⟩
   refine⟨fun r hr=>(h3 r hr).2,⟨by omega,by omega⟩,?_⟩
   rintro x r hr rfl
   have:=(h3 r hr).1
   omega
  ·rintro⟨h1,⟨h2,h3⟩,h4⟩
   refine⟨⟨by omega,by omega⟩,fun r hr=>⟨?_,h1 r hr⟩⟩
   have:=h4 _ r hr rfl
   omega
 rw [ht]
 cases hall:(m.all fun row=>row.all fun x=>decide (gd x))with
 | true =>
  rw [hall]at h0
  exact Evt.inr (Evt.diag h0) (Evt.bind (square_ev (by simp only [List.length_map,lenB];omega)) .pure)
 | false =>
  rw [hall]at h0
  exact Evt.inl (Evt.diag h0) .pure
end Go.Ev.G

namespace Go.Ev.G
open Go Go.Ev
set_option maxRecDepth 100000

def Sized{γ:Type}(a:List (List γ)):Prop:=a.length+(a.map List.length).sum≤1000000

theorem le_sum{l:List Nat}{x:Nat}(h:x∈l):x≤l.sum:=by
 induction l with
 | nil=>simp at h
 | cons y l ih =>
  simp only [List.sum_cons]
  rcases List.mem_cons.1 h with rfl | h
  ·omega
  ·have:=ih h;omega
theorem Sized.len{γ:Type}{a:List (List γ)}(h:Sized a):a.length≤1000000:=by unfold Sized at h;omega
theorem Sized.row{γ:Type}{a:List (List γ)}(h:Sized a):∀x∈a,x.length≤1000000:=by
 intro x hx
 unfold Sized at h
 have:=le_sum (List.mem_map.2 ⟨x,hx,rfl⟩:x.length∈a.map List.length)
 omega

end Go.Ev.G

namespace Go.Ev.G
open Go Go.Ev
set_option maxRecDepth 100000

theorem mkD_false{n:Int}{k:Nat}(h:(mkD n k).2=false):(mkD n k).1=(0,0):=by
 unfold mkD at h ⊢
 split at h
 ·cases h
 ·rename_i h2;rw [if_neg h2]

def fsum:Bool→(Int×Int)→List (Int×Int)→(Int×Int)×Bool
 | b,s,[]=>(s,b)
 | true,s,x::xs=>fsum (sumD s x).2 (sumD s x).1 xs
 | false,_,_::xs=>fsum false (0,0) xs
def osum:(Int×Int)→List (Int×Int)→Option (Int×Int)
 | s,[]=>some s
 | s,x::xs=>if (sumD s x).2 then osum (sumD s x).1 xs else none
theorem fsum_false:∀(xs:List (Int×Int)) (s:Int×Int),(fsum false s xs).2=false
 | [],_=>rfl
 | _::xs,_=>by rw [fsum];exact fsum_false xs _
theorem fsum_false0:∀(xs:List (Int×Int)),fsum false (0,0) xs=((0,0),false)
 | []=>rfl
 | _::xs=>by rw [fsum];exact fsum_false0 xs
theorem fsum_true:∀(xs:List (Int×Int)) (s:Int×Int),fsum true s xs=match osum s xs with | some t=>(t,true) | none=>((0,0),false)
 | [],_=>rfl
 | x::xs,s=>by
  rw [fsum,osum]
  cases h:(sumD s x).2 with
  | true=>rw [if_pos rfl];exact fsum_true xs _
  | false=>rw [if_neg (by simp),show(sumD s x).1=(0,0)from mkD_false h];exact fsum_false0 xs
theorem fsum_gd:∀(xs:List (Int×Int)) (b:Bool) (s:Int×Int),gd s→gd (fsum b s xs).1
 | [],_,_,h=>h
 | _::xs,true,_,_=>by rw [fsum];exact fsum_gd xs _ _ (sumD_gd _ _)
 | _::xs,false,_,_=>by rw [fsum];exact fsum_gd xs _ _ (by decide)
theorem osum_gd:∀(xs:List (Int×Int)) (s t:Int×Int),gd s→osum s xs=some t→gd t
 | [],s,t,h,e=>by cases e;exact h
 | x::xs,s,t,h,e=>by
  rw [osum]at e
  split at e
  ·exact osum_gd xs _ t (sumD_gd _ _) e
  ·cases e

theorem reckoner_sum_ev{b:Bool}{s x:Int×Int}(hs:gd s)(hx:gd x):Evt (fun k _=>impl_reckoner_sum k b s x) (if b then sumD s x else((0,0),false)):=by
 refine Evt.eq (f:=fun k q=>_) ?_ (fun k q=>by rw [impl_reckoner_sum])
 refine Evt.bind (sumOf_ev hs hx) (.const ?_)
 unfold impl_reckoner_keep
 cases b with
 | true =>
  cases h:(sumD s x).2 with
  | true=>simp [h,Prod.ext_iff]
  | false =>
   have h3:sumD s x=((0,0),false):=Prod.ext (mkD_false h) h
   rw [h3];simp
 | false=>rfl

theorem fsum_step(b:Bool)(s x:Int×Int)(xs:List (Int×Int)):fsum b s (x::xs)=fsum (if b then sumD s x else((0,0),false)).2 (if b then sumD s x else((0,0),false)).1 xs:=by cases b <;> rfl

theorem total_ev{b:Bool}{x:Int×Int}{xs:List (Int×Int)}(hx:gd x)(hxs:∀y∈xs,gd y)(hb:xs.length<lenB):Evt (fun k _=>impl_reckoner_total k b (x::xs)) (fsum b x xs):=by
 refine Evt.eq (f:=fun k q=>_) ?_ (fun k q=>by rw [impl_reckoner_total])
 have key:∀(r d:List (Int×Int)) (b:Bool) (z s:Int×Int),gd s→d++r=xs→Evt (fun k n=>impl_reckoner_total_L58 k n b z s xs (xs.length:Int) d.length) (.inr (z,(fsum b s r).1,(fsum b s r).2,())):=by
  intro r
  induction r with
  | nil =>
   intro d b z s hs h
   refine Evt.step (fun k n=>impl_reckoner_total_L58.eq_2 k _ _ _ _ _ _ n) ?_
   rw [List.append_nil]at h
   subst h
   exact Evt.rng0 .pure
  | cons e r ih =>
   intro d b z s hs h
   refine Evt.step (fun k n=>impl_reckoner_total_L58.eq_2 k _ _ _ _ _ _ n) ?_
   have he:gd e:=hxs e (by rw [←h];simp)
   have ih:=ih (d ++ [e]) (if b then sumD s e else((0,0),false)).2 z (if b then sumD s e else((0,0),false)).1 (by split;exact sumD_gd _ _;decide) (by simpa using h)
   rw [←len_next (r:=r) (by rw [h];exact hb)]at ih
   subst h
   refine Evt.ctrue mid_lt (Evt.ctrue mid_ge (Evt.ctrue mid_lt ?_))
   rw [mid_get]
   refine Evt.bind (reckoner_sum_ev hs he) ?_
   rw [fsum_step]
   exact ih
 have h0:=key xs [] b (0,0) x hx rfl
 simp only [List.length_nil]at h0
 refine Evt.ctrue (by simp <;> omega) (Evt.ctrue (by simp <;> omega) ?_)
 have e1:((x::xs).take (Int.toNat ((x::xs).length:Int))).drop 1=xs:=by simp
 rw [e1]
 exact Evt.inr (Evt.diag h0) .pure

theorem sumD_abs{x:Int×Int}(h:gd x):sumD (0,0) (absD x)=(absD x,true):=sumD_zero (absD_gd h)

theorem greater_abs_ev{x:Int×Int}(h:gd x):Evt (fun k _=>impl_greater k x (-x.1,x.2)) (absD x):=by
 refine Evt.eq (f:=fun k q=>_) ?_ (fun k q=>by rw [impl_greater])
 refine Evt.bind (compareD_ev (gd_neg h) h) (.const ?_)
 rw [sv_neg]
 have:=sv_pos (a:=(-x.1,x.2))
 rw [sv_neg]at this
 simp only at this
 unfold cmpI absD
 by_cases h1:x.1<0
 ·have h2:=this.2 (by omega)
  rw [if_neg (by omega),if_pos (by omega)]
  simp only [gt_iff_lt,Int.zero_lt_one,decide_true,cond_true]
  congr 2;omega
 ·have h2 : ¬ (0 < -sv x):=fun hh=>h1 (by have:=this.1 hh;omega)
  have hc : ¬ ((if -sv x<sv x then(-1:Int)else if sv x < -sv x then 1 else 0)>0):=by
   split
   ·omega
   ·rw [if_neg (by omega)];omega
  rw [decide_eq_false hc]
  simp only [cond_false]
  congr 1
  exact Prod.ext (by simp;omega) rfl

def orow(row:List (Int×Int)):Option (Int×Int):=osum (0,0) (row.map absD)
def rsV(m:List (List (Int×Int))):List (Int×Int)×Bool:=if (tab gd m&&m.all fun r=>(orow r).isSome)then(m.map fun r=>(orow r).getD (0,0),true)else([],false)

theorem tab_gd{m:List (List (Int×Int))}(h:tab gd m=true):∀r∈m,(r.length=m.length∧1≤m.length∧m.length≤3)∧∀x∈r,gd x:=by
 unfold tab at h
 simp only [Bool.and_eq_true,List.all_eq_true,decide_eq_true_eq]at h
 intro r hr
 exact⟨⟨(h.2 r hr).1,h.1⟩,(h.2 r hr).2⟩

theorem spec_rowSums_ev{m:List (List (Int×Int))}(hb:m.length<274877906944)(hm:∀r∈m,r.length<lenB):Evt (fun k _=>spec_RowSums k m) (rsV m):=by
 refine Evt.eq (f:=fun k q=>_) ?_ (fun k q=>by rw [spec_RowSums])
 refine Evt.bind (mxGood_ev hb hm) ?_
 cases ht:tab gd m with
 | false =>
  refine Evt.ctrue rfl ?_
  unfold rsV
  rw [ht]
  exact .pure
 | true =>
 refine Evt.cfalse rfl ?_
 have hg:=tab_gd ht
 have inner:∀(x4:List (Int×Int)) (x15:List (List (Int×Int))) (x16 x17:Int) (xs:List (Int×Int)),xs.length<lenB→(∀x∈xs,gd x)→∀(r d:List (Int×Int)) (s:Int×Int),gd s→d++r=xs →
   Evt (fun k n=>spec_RowSums_L125338 k n x4 s x15 x16 x17 xs (xs.length:Int) d.length) (match osum s (r.map absD)with | some t => .inr (x4,t,x15,x16,x17,()) | none => .inl ([],false)):=by
  intro x4 x15 x16 x17 xs hb hxs r
  induction r with
  | nil =>
   intro d s hs h
   refine Evt.step (fun k n=>spec_RowSums_L125338.eq_2 k _ _ _ _ _ _ _ _ n) ?_
   rw [List.append_nil]at h
   subst h
   exact Evt.rng0 .pure
  | cons e r ih =>
   intro d s hs h
   refine Evt.step (fun k n=>spec_RowSums_L125338.eq_2 k _ _ _ _ _ _ _ _ n) ?_
   have he:gd e:=hxs e (by rw [←h];simp)
   have ih:=ih (d ++ [e]) (sumD s (absD e)).1 (sumD_gd _ _) (by simpa using h)
   rw [←len_next (r:=r) (by rw [h];exact hb)]at ih
   subst h
   refine Evt.ctrue mid_lt (Evt.ctrue mid_ge (Evt.ctrue mid_lt ?_))
   rw [mid_get]
   refine Evt.bind (.const (mxAbs_eq he)) (Evt.bind (dyAdd_ev hs (absD_gd he)) ?_)
   rw [List.map_cons,osum]
   cases hh:(sumD s (absD e)).2 with
   | true=>exact Evt.cfalse rfl ih
   | false=>exact Evt.ctrue rfl .pure
 have key:∀(r d:List (List (Int×Int))),d++r=m→Evt (fun k n=>spec_RowSums_L122 k n (d.map fun r=>(orow r).getD (0,0)) m (m.length:Int) d.length) (if (r.all fun r=>(orow r).isSome)then .inr (m.map fun r=>(orow r).getD (0,0),())else .inl ([],false)):=by
  intro r
  induction r with
  | nil =>
   intro d h
   refine Evt.step (fun k n=>spec_RowSums_L122.eq_2 k _ _ _ _ n) ?_
   rw [List.append_nil]at h
   subst h
   exact Evt.rng0 .pure
  | cons e r ih =>
   intro d h
   refine Evt.step (fun k n=>spec_RowSums_L122.eq_2 k _ _ _ _ n) ?_
   have hme:e∈m:=by rw [←h];simp
   have ih:=ih (d ++ [e]) (by simpa using h)
   rw [←len_next (r:=r) (by rw [h];simp only [lenB];omega)]at ih
   have hl:=congrArg List.length h
   simp at hl
   have hi:=inner (d.map fun r=>(orow r).getD (0,0)) (d++e::r) ((d++e::r).length:Int) (d.length:Int) e (hm e hme) (hg e hme).2 e [] (0,0) (by decide) rfl
   simp only [List.length_nil]at hi
   subst h
   refine Evt.ctrue mid_lt (Evt.ctrue mid_ge (Evt.ctrue mid_lt ?_))
   rw [mid_get]
   change Evt _ (if ((orow e).isSome&&r.all fun r=>(orow r).isSome)then _ else _)
   cases ho:orow e with
   | none =>
    rw [show osum (0,0) (e.map absD)=none from ho]at hi
    exact Evt.inl (Evt.diag hi) .pure
   | some t =>
    rw [show osum (0,0) (e.map absD)=some t from ho]at hi
    refine Evt.inr (Evt.diag hi) (Evt.ctrue (by simp;omega) ?_)
    simp only [Option.isSome_some,Bool.true_and]
    rw [List.map_append,List.map_cons,ho]at ih
    exact ih
 have h0:=key m [] rfl
 simp only [List.length_nil,List.map_nil]at h0
 unfold rsV
 rw [ht,Bool.true_and]
 cases hall:m.all fun r=>(orow r).isSome with
 | true=>rw [hall]at h0;exact Evt.inr (Evt.diag h0) .pure
 | false=>rw [hall]at h0;exact Evt.inl (Evt.diag h0) .pure

theorem impl_rowSums_ev{m:List (List (Int×Int))}(hb:m.length<lenB)(hm:∀r∈m,r.length<lenB):Evt (fun k _=>impl_RowSums k m) (rsV m):=by
 refine Evt.eq (f:=fun k q=>_) ?_ (fun k q=>by rw [impl_RowSums])
 refine Evt.bind (isTable_ev hb hm) ?_
 cases ht:tab gd m with
 | false =>
  refine Evt.ctrue rfl ?_
  unfold rsV
  rw [ht]
  exact .pure
 | true =>
 refine Evt.cfalse rfl ?_
 have hg:=tab_gd ht
 have inner:∀(x4:Bool) (x5:List (Int×Int)) (x16:List (List (Int×Int))) (x17 x18:Int) (xs:List (Int×Int)),xs.length≤3→(∀x∈xs,gd x)→∀(r d:List (Int×Int)),d++r=xs →
   Evt (fun k n=>impl_RowSums_L256410 k n x4 x5 (d.map absD) x16 x17 x18 xs (xs.length:Int) d.length) (.inr (x4,x5,xs.map absD,x16,x17,x18,())):=by
  intro x4 x5 x16 x17 x18 xs hb hxs r
  induction r with
  | nil =>
   intro d h
   refine Evt.step (fun k n=>impl_RowSums_L256410.eq_2 k _ _ _ _ _ _ _ _ _ n) ?_
   rw [List.append_nil]at h
   subst h
   exact Evt.rng0 .pure
  | cons e r ih =>
   intro d h
   refine Evt.step (fun k n=>impl_RowSums_L256410.eq_2 k _ _ _ _ _ _ _ _ _ n) ?_
   have he:gd e:=hxs e (by rw [←h];simp)
   have ih:=ih (d ++ [e]) (by simpa using h)
   rw [←len_next (r:=r) (by rw [h];simp only [lenB];omega)]at ih
   have hl:=congrArg List.length h
   simp at hl
   subst h
   refine Evt.ctrue mid_lt (Evt.ctrue mid_ge (Evt.ctrue mid_lt ?_))
   rw [mid_get]
   refine Evt.bind (.const (minus_eq he)) (Evt.bind (greater_abs_ev he) (Evt.ctrue (by simp;omega) ?_))
   rw [List.map_append]at ih
   exact ih
 have key:∀(r d:List (List (Int×Int))) (b:Bool) (o:List (Int×Int)),d++r=m→b=(d.all fun r=>(orow r).isSome)→o.length=d.length→(b=true→o=d.map fun r=>(orow r).getD (0,0)) →
   ∃o',((m.all fun r=>(orow r).isSome)=true→o'=m.map fun r=>(orow r).getD (0,0))∧Evt (fun k n=>impl_RowSums_L250 k n b o m (m.length:Int) d.length) (.inr (m.all fun r=>(orow r).isSome,o',())):=by
  intro r
  induction r with
  | nil =>
   intro d b o h hbd hod ho
   rw [List.append_nil]at h
   subst h
   refine⟨o,fun hh=>ho (by rw [hbd,hh]),?_⟩
   refine Evt.step (fun k n=>impl_RowSums_L250.eq_2 k _ _ _ _ _ n) ?_
   rw [←hbd]
   exact Evt.rng0 .pure
  | cons e r ih =>
   intro d b o h hbd hod ho
   have hme:e∈m:=by rw [←h];simp
   have hge:=hg e hme
   obtain⟨x,xs,rfl⟩:∃x xs,e=x::xs:=by
    cases e with
    | nil=>have:=hge.1;simp at this;omega
    | cons x xs=>exact⟨x,xs,rfl⟩
   have hxg:gd x:=hge.2 x (by simp)
   have hfs:orow (x::xs)=osum (absD x) (xs.map absD):=by
    unfold orow
    rw [List.map_cons,osum,sumD_abs hxg]
    rfl
   have hb2:(fsum b (absD x) (xs.map absD)).2=((d ++ [x::xs]).all fun r=>(orow r).isSome):=by
    rw [List.all_append,←hbd]
    simp only [List.all_cons,List.all_nil,Bool.and_true,hfs]
    cases b with
    | false=>rw [fsum_false];rfl
    | true=>rw [fsum_true];cases osum (absD x) (xs.map absD) <;> rfl
   obtain⟨o',h1,h2⟩:=ih (d ++ [x::xs]) (fsum b (absD x) (xs.map absD)).2 (o ++ [(fsum b (absD x) (xs.map absD)).1]) (by simpa using h) hb2 (by simp [hod]) (by
    intro hh
    cases b with
    | false=>rw [fsum_false]at hh;cases hh
    | true =>
     rw [List.map_append,←ho rfl]
     simp only [List.map_cons,List.map_nil,hfs]
     rw [fsum_true]at hh ⊢
     cases hos:osum (absD x) (xs.map absD)with
     | none=>rw [hos]at hh;cases hh
     | some t=>rfl)
   refine⟨o',h1,Evt.step (fun k n=>impl_RowSums_L250.eq_2 k _ _ _ _ _ n) ?_⟩
   have hi:=inner b o m (m.length:Int) (d.length:Int) (x::xs) (by have:=hge.1;omega) hge.2 (x::xs) [] rfl
   simp only [List.length_nil,List.map_nil]at hi
   rw [←len_next (r:=r) (by rw [h];exact hb)]at h2
   have hl:=congrArg List.length h
   simp at hl
   generalize hres:(Sum.inr ((m.all fun r=>(orow r).isSome),o',()):((List (Int×Int))×Bool) ⊕ (Bool×(List (Int×Int))×Unit))=res at h2 ⊢
   subst h
   refine Evt.ctrue mid_lt (Evt.ctrue mid_ge (Evt.ctrue mid_lt ?_))
   rw [mid_get]
   refine Evt.inr (Evt.diag hi) (Evt.bind (total_ev (absD_gd hxg) (by
    intro y hy
    obtain⟨z,hz,rfl⟩:=List.mem_map.1 hy
    exact absD_gd (hge.2 z (by simp [hz]))) (by have:=hge.1;simp only [List.length_cons]at this;simp only [List.length_map,lenB];omega)) (Evt.ctrue (by have:=hge.1;simp;omega) h2))
 obtain⟨o',h1,h2⟩:=key m [] true [] rfl rfl rfl (fun _=>rfl)
 simp only [List.length_nil]at h2
 refine Evt.inr (Evt.diag h2) ?_
 unfold rsV
 rw [ht,Bool.true_and]
 cases hall:m.all fun r=>(orow r).isSome with
 | true=>rw [h1 hall];exact Evt.cfalse rfl .pure
 | false=>exact Evt.ctrue rfl .pure
end Go.Ev.G

namespace Go.Ev.G
open Go Go.Ev
set_option maxRecDepth 100000

def ivGd(x:(Int×Int)×Int×Int):Prop:=gd x.1∧gd x.2∧sv x.1≤sv x.2
instance:DecidablePred ivGd:=fun x=>by unfold ivGd;exact inferInstance
theorem cmpI_le(a b:Int):decide (cmpI a b≤0)=decide (a≤b):=by
 unfold cmpI
 rw [decide_eq_decide]
 split <;> (try split) <;> omega
theorem cmpI_lt(a b:Int):decide (cmpI a b<0)=decide (a<b):=by
 unfold cmpI
 rw [decide_eq_decide]
 split <;> (try split) <;> omega
theorem cmpI_gt(a b:Int):decide (cmpI a b>0)=decide (b<a):=by
 unfold cmpI
 rw [decide_eq_decide]
 split <;> (try split) <;> omega

theorem ivGood_ev(x:(Int×Int)×Int×Int):Evt (fun k _=>spec_ivGood k x) (decide (ivGd x)):=by
 refine Evt.eq (f:=fun k q=>_) ?_ (fun k q=>by rw [spec_ivGood])
 refine Evt.bind (.const (dyGood_eq _)) ?_
 by_cases h1:gd x.1
 ·refine Evt.ctrue (by simp [h1]) (Evt.bind (.const (dyGood_eq _)) ?_)
  by_cases h2:gd x.2
  ·refine Evt.ctrue (by simp [h2]) (Evt.bind (dyCmp_ev h1 h2) (.const ?_))
   rw [cmpI_le]
   simp [ivGd,h1,h2]
  ·refine Evt.cfalse (by simp [h2]) (.const ?_)
   simp [ivGd,h2]
 ·refine Evt.cfalse (by simp [h1]) (.const ?_)
  simp [ivGd,h1]
theorem isInterval_ev(x:(Int×Int)×Int×Int):Evt (fun k _=>impl_isInterval k x) (decide (ivGd x)):=by
 refine Evt.eq (f:=fun k q=>_) ?_ (fun k q=>by rw [impl_isInterval])
 refine Evt.bind (.const (isDyadic_eq _)) ?_
 by_cases h1:gd x.1
 ·refine Evt.ctrue (by simp [h1]) (Evt.bind (.const (isDyadic_eq _)) ?_)
  by_cases h2:gd x.2
  ·refine Evt.ctrue (by simp [h2]) (Evt.bind (compareD_ev h1 h2) (.const ?_))
   rw [cmpI_le]
   simp [ivGd,h1,h2]
  ·refine Evt.cfalse (by simp [h2]) (.const ?_)
   simp [ivGd,h2]
 ·refine Evt.cfalse (by simp [h1]) (.const ?_)
  simp [ivGd,h1]
theorem isIntervalTable1_ev(x:(Int×Int)×Int×Int):Evt (fun k _=>impl_isIntervalTable_1 k x) (!decide (ivGd x)) :=
 Evt.eq (Evt.bind (isInterval_ev x) .pure) (fun k q=>by rw [impl_isIntervalTable_1])

theorem contains2_ev{xs:List ((Int×Int)×Int×Int)}(hb:xs.length<lenB):Evt (fun k _=>slices_ContainsFunc_Interval_Interval_impl_isIntervalTable_1 k xs ()) (xs.any fun x => !decide (ivGd x)):=by
 refine Evt.eq (f:=fun k q=>_) ?_ (fun k q=>by rw [slices_ContainsFunc_Interval_Interval_impl_isIntervalTable_1])
 have h:=index_all (d0:=((0,0),0,0)) (L:=fun k n i=>slices_IndexFunc_Interval_Interval_impl_isIntervalTable_1_L26 k n xs () (xs.length:Int) i) (xs:=xs) (p:=fun k x=>impl_isIntervalTable_1 k x) (P:=fun x => !decide (ivGd x)) (fun x _=>isIntervalTable1_ev x) (fun _ _ _=>rfl) hb
 rw [←findIdx?_any]
 have h2:Evt (fun k _=>slices_IndexFunc_Interval_Interval_impl_isIntervalTable_1 k xs ()) (match xs.findIdx? (fun x => !decide (ivGd x))with | some j=>(j:Int) | none => -1):=by
  refine Evt.eq (f:=fun k q=>_) ?_ (fun k q=>by rw [slices_IndexFunc_Interval_Interval_impl_isIntervalTable_1])
  cases hf:xs.findIdx? (fun x => !decide (ivGd x))with
  | none=>rw [hf]at h;exact Evt.inr (Evt.diag h) .pure
  | some j=>rw [hf]at h;exact Evt.inl (Evt.diag h) .pure
 refine Evt.bind h2 (.const ?_)
 cases hf:xs.findIdx? (fun x => !decide (ivGd x))with
 | none=>rfl
 | some j=>simp

theorem isIntervalTable_ev{m:List (List ((Int×Int)×Int×Int))}(hb:m.length<lenB)(hm:∀r∈m,r.length<lenB):Evt (fun k _=>impl_isIntervalTable k m) (tab ivGd m):=by
 refine Evt.eq (f:=fun k q=>_) ?_ (fun k q=>by rw [impl_isIntervalTable])
 have key:∀(r d:List (List ((Int×Int)×Int×Int))),d++r=m→Evt (fun k n=>impl_isIntervalTable_L26 k n m m (m.length:Int) d.length) (if (r.all fun row=>decide (row.length=m.length)&&row.all fun x=>decide (ivGd x))then .inr (m,())else .inl false):=by
  intro r
  induction r with
  | nil =>
   intro d h
   refine Evt.step (fun k n=>impl_isIntervalTable_L26.eq_2 k _ _ _ _ n) ?_
   rw [List.append_nil]at h
   subst h
   exact Evt.rng0 .pure
  | cons e r ih =>
   intro d h
   refine Evt.step (fun k n=>impl_isIntervalTable_L26.eq_2 k _ _ _ _ n) ?_
   have ih:=ih (d ++ [e]) (by simpa using h)
   rw [←len_next (r:=r) (by rw [h];exact hb)]at ih
   subst h
   refine Evt.rng (F:=fun k n x=>(bif ((x.length:Int) != ((d++e::r).length:Int))then some (Sum.inl false)else(Option.bind (slices_ContainsFunc_Interval_Interval_impl_isIntervalTable_1 k x ()) fun r1=>(bif r1 then some (Sum.inl false)else(impl_isIntervalTable_L26 k n (d++e::r) (d++e::r) ((d++e::r).length:Int) (IntKind.wrap .i64 ((d.length:Int)+1))))))) ?_
   by_cases h1:e.length=(d++e::r).length
   ·refine Evt.cfalse (by rw [h1];simp) (Evt.bind (contains2_ev (hm e (by simp))) ?_)
    cases h2:e.any fun x => !decide (ivGd x)with
    | true =>
     refine Evt.ctrue rfl ?_
     have:(e.all fun x=>decide (ivGd x))=false:=by
      rw [List.any_eq_not_all_not]at h2
      simpa using h2
     simp only [List.all_cons,this,Bool.and_false,Bool.false_and]
     exact .pure
    | false =>
     refine Evt.cfalse rfl ?_
     have:(e.all fun x=>decide (ivGd x))=true:=by
      rw [List.any_eq_not_all_not]at h2
      simpa using h2
     simp only [List.all_cons,this,h1,decide_true,Bool.true_and]
     exact ih
   ·refine Evt.ctrue (by rw [bne_iff_ne];omega) ?_
    simp only [List.all_cons,h1,decide_false,Bool.false_and]
    exact .pure
 have h0:=key m [] rfl
 simp only [List.length_nil]at h0
 unfold tab
 cases hall:(m.all fun row=>decide (row.length=m.length)&&row.all fun x=>decide (ivGd x))with
 | true =>
  rw [hall]at h0
  refine Evt.inr (Evt.diag h0) (Evt.bind (.const (inside_eq _ _ _)) (.const ?_))
  congr 1
  rw [Bool.and_true]
  simp only [decide_eq_decide]
  omega
 | false =>
  rw [hall]at h0
  refine Evt.inl (Evt.diag h0) (.const ?_)
  rw [Bool.and_false]

theorem mxFits_ev{m:List (List ((Int×Int)×Int×Int))}(hb:m.length<274877906944)(hm:∀r∈m,r.length<lenB):Evt (fun k _=>spec_mxFits k m) (tab ivGd m):=by
 refine Evt.eq (f:=fun k q=>_) ?_ (fun k q=>by rw [spec_mxFits])
 have inner:∀(x0:List (List ((Int×Int)×Int×Int))) (x3:List Int) (x5:List ((Int×Int)×Int×Int)) (x8:List (List ((Int×Int)×Int×Int))) (x9 x10:Int) (x14:List ((Int×Int)×Int×Int)),x14.length<lenB→∀(r d:List ((Int×Int)×Int×Int)),d++r=x14 →
   Evt (fun k n=>spec_mxFits_L29898 k n x0 x3 x5 x8 x9 x10 x14 (x14.length:Int) d.length) (if (r.all fun x=>decide (ivGd x))then .inr (x0,x3,x5,x8,x9,x10,())else .inl false):=by
  intro x0 x3 x5 x8 x9 x10 x14 hb r
  induction r with
  | nil =>
   intro d h
   refine Evt.step (fun k n=>spec_mxFits_L29898.eq_2 k _ _ _ _ _ _ _ _ _ n) ?_
   rw [List.append_nil]at h
   subst h
   exact Evt.rng0 .pure
  | cons e r ih =>
   intro d h
   refine Evt.step (fun k n=>spec_mxFits_L29898.eq_2 k _ _ _ _ _ _ _ _ _ n) ?_
   have ih:=ih (d ++ [e]) (by simpa using h)
   rw [←len_next (r:=r) (by rw [h];exact hb)]at ih
   subst h
   refine Evt.rng (F:=fun k n x=>(Option.bind (spec_ivGood k x) fun r1=>(bif (!r1)then some (Sum.inl false)else(spec_mxFits_L29898 k n x0 x3 x5 x8 x9 x10 (d++e::r) ((d++e::r).length:Int) (IntKind.wrap .i64 ((d.length:Int)+1)))))) ?_
   refine Evt.bind (ivGood_ev _) ?_
   by_cases h1:ivGd e
   ·refine Evt.cfalse (by simp [h1]) ?_
    simp only [List.all_cons,h1,decide_true,Bool.true_and]
    exact ih
   ·refine Evt.ctrue (by simp [h1]) ?_
    simp only [List.all_cons,h1,decide_false,Bool.false_and]
    exact .pure
 have key:∀(r d:List (List ((Int×Int)×Int×Int))),d++r=m→Evt (fun k n=>spec_mxFits_L58 k n m (d.map fun row=>(row.length:Int)) m (m.length:Int) d.length) (if (r.all fun row=>row.all fun x=>decide (ivGd x))then .inr (m,m.map fun row=>(row.length:Int),())else .inl false):=by
  intro r
  induction r with
  | nil =>
   intro d h
   refine Evt.step (fun k n=>spec_mxFits_L58.eq_2 k _ _ _ _ _ n) ?_
   rw [List.append_nil]at h
   subst h
   exact Evt.rng0 .pure
  | cons e r ih =>
   intro d h
   refine Evt.step (fun k n=>spec_mxFits_L58.eq_2 k _ _ _ _ _ n) ?_
   have ih:=ih (d ++ [e]) (by simpa using h)
   have hl:=congrArg List.length h
   simp at hl
   rw [←len_next (r:=r) (by rw [h];simp only [lenB];omega)]at ih
   have hme:=hm e (by rw [←h];simp)
   subst h
   refine Evt.rng (F:=fun k n x=>(both (R:=Bool) (P:=(List (List ((Int×Int)×Int×Int)))×(List Int)×(List ((Int×Int)×Int×Int))×(List (List ((Int×Int)×Int×Int)))×Int×Int×Unit) (spec_mxFits_L29898 k k (d++e::r) (d.map fun row=>(row.length:Int)) x (d++e::r) ((d++e::r).length:Int) (d.length:Int) x (x.length:Int) 0) (fun q4=>some (Sum.inl q4)) (fun y3=>(bif (decide (y3.2.1.length+([(y3.2.2.1.length:Int)]:List Int).length<274877906944))then(spec_mxFits_L58 k n y3.1 (y3.2.1++([(y3.2.2.1.length:Int)]:List Int)) y3.2.2.2.1 y3.2.2.2.2.1 (IntKind.wrap .i64 (y3.2.2.2.2.2.1+1)))else none)))) ?_
   have hi:=inner (d++e::r) (d.map fun row=>(row.length:Int)) e (d++e::r) ((d++e::r).length:Int) (d.length:Int) e hme e [] rfl
   simp only [List.length_nil]at hi
   cases h1:e.all fun x=>decide (ivGd x)with
   | true =>
    rw [h1]at hi
    refine Evt.inr (Evt.diag hi) (Evt.ctrue (by simp;omega) ?_)
    simp only [List.all_cons,h1,Bool.true_and]
    simpa using ih
   | false =>
    rw [h1]at hi
    refine Evt.inl (Evt.diag hi) ?_
    simp only [List.all_cons,h1,Bool.false_and]
    exact .pure
 have h0:=key m [] rfl
 simp only [List.length_nil,List.map_nil]at h0
 have ht:tab ivGd m=((m.all fun row=>row.all fun x=>decide (ivGd x))&&(decide (1≤(m.length:Int)∧(m.length:Int)≤3)&&(m.map fun row=>(row.length:Int)).all fun x=>decide ((m.length:Int)≤x∧x≤(m.length:Int)))):=by
  unfold tab
  rw [Bool.eq_iff_iff]
  simp only [Bool.and_eq_true,List.all_eq_true,decide_eq_true_eq,List.mem_map,forall_exists_index,and_imp]
  constructor
  ·rintro⟨⟨h1,h2⟩,h3⟩
   refine⟨fun r hr=>(h3 r hr).2,⟨by omega,by omega⟩,?_⟩
   rintro x r hr rfl
   have:=(h3 r hr).1
   omega
  ·rintro⟨h1,⟨h2,h3⟩,h4⟩
   refine⟨⟨by omega,by omega⟩,fun r hr=>⟨?_,h1 r hr⟩⟩
   have:=h4 _ r hr rfl
   omega
 rw [ht]
 cases hall:(m.all fun row=>row.all fun x=>decide (ivGd x))with
 | true =>
  rw [hall]at h0
  exact Evt.inr (Evt.diag h0) (Evt.bind (square_ev (by simp only [List.length_map,lenB];omega)) .pure)
 | false =>
  rw [hall]at h0
  exact Evt.inl (Evt.diag h0) .pure
end Go.Ev.G

namespace Go.Ev.G
open Go Go.Ev
set_option maxRecDepth 100000

def magI(x:(Int×Int)×Int×Int):Int×Int:=if sv (absD x.1)<sv (absD x.2)then absD x.2 else absD x.1
theorem magI_gd{x:(Int×Int)×Int×Int}(h:ivGd x):gd (magI x):=by
 unfold magI
 split
 ·exact absD_gd h.2.1
 ·exact absD_gd h.1
def irow(row:List ((Int×Int)×Int×Int)):Option (Int×Int):=osum (0,0) (row.map magI)
def below1(o:Option (Int×Int)):Bool:=decide (sv (o.getD (0,0))<sv (1,0))
def shV(m:List (List ((Int×Int)×Int×Int))):Bool×Bool:=if (m.all fun r=>(irow r).isSome)then(m.all fun r=>below1 (irow r),true)else(false,false)

theorem tab_all{α:Type}{g:α→Prop}[DecidablePred g]{m:List (List α)}(h:tab g m=true):∀r∈m,(r.length=m.length∧1≤m.length∧m.length≤3)∧∀x∈r,g x:=by
 unfold tab at h
 simp only [Bool.and_eq_true,List.all_eq_true,decide_eq_true_eq]at h
 intro r hr
 exact⟨⟨(h.2 r hr).1,h.1⟩,(h.2 r hr).2⟩

theorem one_gd:gd (1,0):=by decide
theorem mxShrinking_ev{m:List (List ((Int×Int)×Int×Int))}(hb:m.length<274877906944)(hm:∀r∈m,r.length<lenB)(hg:∀r∈m,∀x∈r,ivGd x):Evt (fun k _=>spec_mxShrinking k m) (shV m):=by
 refine Evt.eq (f:=fun k q=>_) ?_ (fun k q=>by rw [spec_mxShrinking])
 have inner:∀(x4:Bool) (x13:List (List ((Int×Int)×Int×Int))) (x14 x15:Int) (xs:List ((Int×Int)×Int×Int)),xs.length<lenB→(∀x∈xs,ivGd x)→∀(r d:List ((Int×Int)×Int×Int)) (s:Int×Int),gd s→d++r=xs →
   Evt (fun k n=>spec_mxShrinking_L59802 k n x4 s x13 x14 x15 xs (xs.length:Int) d.length) (match osum s (r.map magI)with | some t => .inr (x4,t,x13,x14,x15,()) | none => .inl (false,false)):=by
  intro x4 x13 x14 x15 xs hb hxs r
  induction r with
  | nil =>
   intro d s hs h
   refine Evt.step (fun k n=>spec_mxShrinking_L59802.eq_2 k _ _ _ _ _ _ _ _ n) ?_
   rw [List.append_nil]at h
   subst h
   exact Evt.rng0 .pure
  | cons e r ih =>
   intro d s hs h
   refine Evt.step (fun k n=>spec_mxShrinking_L59802.eq_2 k _ _ _ _ _ _ _ _ n) ?_
   have he:ivGd e:=hxs e (by rw [←h];simp)
   have ih:=ih (d ++ [e]) (sumD s (magI e)).1 (sumD_gd _ _) (by simpa using h)
   rw [←len_next (r:=r) (by rw [h];exact hb)]at ih
   subst h
   refine Evt.ctrue mid_lt (Evt.ctrue mid_ge (Evt.ctrue mid_lt ?_))
   rw [mid_get]
   refine Evt.bind (.const (mxAbs_eq he.1)) ?_
   refine Evt.inr (y:=(x4,s,magI e,x13,x14,x15,d++e::r,((d++e::r).length:Int),(d.length:Int),())) ?_ ?_
   ·refine Evt.bind (.const (mxAbs_eq he.2.1)) (Evt.bind (dyCmp_ev (absD_gd he.1) (absD_gd he.2.1)) ?_)
    rw [cmpI_lt]
    unfold magI
    by_cases hh:sv (absD e.1)<sv (absD e.2)
    ·rw [if_pos hh]
     exact Evt.ctrue (decide_eq_true hh) (Evt.bind (.const (mxAbs_eq he.2.1)) .pure)
    ·rw [if_neg hh]
     exact Evt.cfalse (decide_eq_false hh) .pure
   ·refine Evt.bind (dyAdd_ev hs (magI_gd he)) ?_
    rw [List.map_cons,osum]
    cases hh:(sumD s (magI e)).2 with
    | true=>exact Evt.cfalse rfl ih
    | false=>exact Evt.ctrue rfl .pure
 have key:∀(r d:List (List ((Int×Int)×Int×Int))),d++r=m→Evt (fun k n=>spec_mxShrinking_L58 k n (d.all fun r=>below1 (irow r)) m (m.length:Int) d.length) (if (r.all fun r=>(irow r).isSome)then .inr (m.all fun r=>below1 (irow r),())else .inl (false,false)):=by
  intro r
  induction r with
  | nil =>
   intro d h
   refine Evt.step (fun k n=>spec_mxShrinking_L58.eq_2 k _ _ _ _ n) ?_
   rw [List.append_nil]at h
   subst h
   exact Evt.rng0 .pure
  | cons e r ih =>
   intro d h
   refine Evt.step (fun k n=>spec_mxShrinking_L58.eq_2 k _ _ _ _ n) ?_
   have hme:e∈m:=by rw [←h];simp
   have ih:=ih (d ++ [e]) (by simpa using h)
   rw [←len_next (r:=r) (by rw [h];simp only [lenB];omega)]at ih
   have hi:=inner (d.all fun r=>below1 (irow r)) m (m.length:Int) (d.length:Int) e (hm e hme) (hg e hme) e [] (0,0) (by decide) rfl
   simp only [List.length_nil]at hi
   generalize hall:(m.all fun r=>below1 (irow r))=all at ih ⊢
   subst h
   refine Evt.ctrue mid_lt (Evt.ctrue mid_ge (Evt.ctrue mid_lt ?_))
   rw [mid_get]
   change Evt _ (if ((irow e).isSome&&r.all fun r=>(irow r).isSome)then _ else _)
   have hd:((d ++ [e]).all fun r=>below1 (irow r))=((d.all fun r=>below1 (irow r))&&below1 (irow e)):=by simp
   rw [hd]at ih
   cases ho:irow e with
   | none =>
    rw [show osum (0,0) (e.map magI)=none from ho]at hi
    exact Evt.inl (Evt.diag hi) .pure
   | some t =>
    rw [show osum (0,0) (e.map magI)=some t from ho]at hi
    refine Evt.inr (Evt.diag hi) ?_
    simp only [Option.isSome_some,Bool.true_and]
    rw [ho]at ih
    cases hb:(d.all fun r=>below1 (irow r))with
    | true =>
     rw [hb,Bool.true_and]at ih
     refine Evt.ctrue rfl (Evt.bind (.const rfl) (Evt.bind (dyCmp_ev (osum_gd _ _ _ (by decide) ho) one_gd) ?_))
     rw [cmpI_lt]
     exact ih
    | false =>
     rw [hb,Bool.false_and]at ih
     exact Evt.cfalse rfl ih
 have h0:=key m [] rfl
 simp only [List.length_nil,List.all_nil]at h0
 unfold shV
 cases hall:m.all fun r=>(irow r).isSome with
 | true=>rw [hall]at h0;exact Evt.inr (Evt.diag h0) .pure
 | false=>rw [hall]at h0;exact Evt.inl (Evt.diag h0) .pure

theorem greater_ev{a b:Int×Int}(ha:gd a)(hb:gd b):Evt (fun k _=>impl_greater k a b) (if sv a<sv b then b else a):=by
 refine Evt.eq (f:=fun k q=>_) ?_ (fun k q=>by rw [impl_greater])
 refine Evt.bind (compareD_ev hb ha) ?_
 rw [cmpI_gt]
 by_cases h:sv a<sv b
 ·rw [if_pos h];exact Evt.ctrue (decide_eq_true h) .pure
 ·rw [if_neg h];exact Evt.cfalse (decide_eq_false h) .pure

theorem impl_isShrinking_ev{m:List (List ((Int×Int)×Int×Int))}(ht:tab ivGd m=true):Evt (fun k _=>impl_isShrinking k m) (shV m):=by
 refine Evt.eq (f:=fun k q=>_) ?_ (fun k q=>by rw [impl_isShrinking])
 have hg:=tab_all ht
 have hb:m.length<lenB:=by
  unfold tab at ht
  simp only [Bool.and_eq_true,decide_eq_true_eq]at ht
  have:=ht.1.2
  simp only [lenB];omega
 have inner:∀(x4 x5:Bool) (x13:List (List ((Int×Int)×Int×Int))) (x14 x15:Int) (xs:List ((Int×Int)×Int×Int)),xs.length≤3→(∀x∈xs,ivGd x)→∀(r d:List ((Int×Int)×Int×Int)),d++r=xs →
   Evt (fun k n=>impl_isShrinking_L125338 k n x4 x5 (d.map magI) x13 x14 x15 xs (xs.length:Int) d.length) (.inr (x4,x5,xs.map magI,x13,x14,x15,())):=by
  intro x4 x5 x13 x14 x15 xs hb hxs r
  induction r with
  | nil =>
   intro d h
   refine Evt.step (fun k n=>impl_isShrinking_L125338.eq_2 k _ _ _ _ _ _ _ _ _ n) ?_
   rw [List.append_nil]at h
   subst h
   exact Evt.rng0 .pure
  | cons e r ih =>
   intro d h
   refine Evt.step (fun k n=>impl_isShrinking_L125338.eq_2 k _ _ _ _ _ _ _ _ _ n) ?_
   have he:ivGd e:=hxs e (by rw [←h];simp)
   have ih:=ih (d ++ [e]) (by simpa using h)
   rw [←len_next (r:=r) (by rw [h];simp only [lenB];omega)]at ih
   have hl:=congrArg List.length h
   simp at hl
   subst h
   refine Evt.ctrue mid_lt (Evt.ctrue mid_ge (Evt.ctrue mid_lt ?_))
   rw [mid_get]
   refine Evt.bind (.const (minus_eq he.1)) (Evt.bind (greater_abs_ev he.1) (Evt.bind (.const (minus_eq he.2.1)) (Evt.bind (greater_abs_ev he.2.1) (Evt.bind (greater_ev (absD_gd he.1) (absD_gd he.2.1)) (Evt.ctrue (by simp;omega) ?_)))))
   rw [List.map_append]at ih
   exact ih
 have key:∀(r d:List (List ((Int×Int)×Int×Int))) (b s:Bool),d++r=m→b=(d.all fun r=>(irow r).isSome)→(b=true→s=d.all fun r=>below1 (irow r)) →
   ∃s',((m.all fun r=>(irow r).isSome)=true→s'=m.all fun r=>below1 (irow r))∧Evt (fun k n=>impl_isShrinking_L122 k n b s m (m.length:Int) d.length) (.inr (m.all fun r=>(irow r).isSome,s',())):=by
  intro r
  induction r with
  | nil =>
   intro d b s h hbd ho
   rw [List.append_nil]at h
   subst h
   refine⟨s,fun hh=>ho (by rw [hbd,hh]),?_⟩
   refine Evt.step (fun k n=>impl_isShrinking_L122.eq_2 k _ _ _ _ _ n) ?_
   rw [←hbd]
   exact Evt.rng0 .pure
  | cons e r ih =>
   intro d b s h hbd ho
   have hme:e∈m:=by rw [←h];simp
   have hge:=hg e hme
   obtain⟨x,xs,rfl⟩:∃x xs,e=x::xs:=by
    cases e with
    | nil=>have:=hge.1;simp at this;omega
    | cons x xs=>exact⟨x,xs,rfl⟩
   have hxg:ivGd x:=hge.2 x (by simp)
   have hfs:irow (x::xs)=osum (magI x) (xs.map magI):=by
    unfold irow
    rw [List.map_cons,osum,sumD_zero (magI_gd hxg)]
    rfl
   have hb2:(fsum b (magI x) (xs.map magI)).2=((d ++ [x::xs]).all fun r=>(irow r).isSome):=by
    rw [List.all_append,←hbd]
    simp only [List.all_cons,List.all_nil,Bool.and_true,hfs]
    cases b with
    | false=>rw [fsum_false];rfl
    | true=>rw [fsum_true];cases osum (magI x) (xs.map magI) <;> rfl
   obtain⟨s',h1,h2⟩:=ih (d ++ [x::xs]) (fsum b (magI x) (xs.map magI)).2 (if sv (fsum b (magI x) (xs.map magI)).1<sv (1,0)then s else false) (by simpa using h) hb2 (by
    intro hh
    cases b with
    | false=>rw [fsum_false]at hh;cases hh
    | true =>
     rw [List.all_append,←ho rfl]
     simp only [List.all_cons,List.all_nil,Bool.and_true,hfs]
     rw [fsum_true]at hh ⊢
     cases hos:osum (magI x) (xs.map magI)with
     | none=>rw [hos]at hh;cases hh
     | some t =>
      simp only [below1,Option.getD_some]
      split
      ·rename_i h5;simp [h5]
      ·rename_i h5;simp [h5])
   refine⟨s',h1,Evt.step (fun k n=>impl_isShrinking_L122.eq_2 k _ _ _ _ _ n) ?_⟩
   have hi:=inner b s m (m.length:Int) (d.length:Int) (x::xs) (by have:=hge.1;omega) hge.2 (x::xs) [] rfl
   simp only [List.length_nil,List.map_nil]at hi
   rw [←len_next (r:=r) (by rw [h];exact hb)]at h2
   generalize hres:(Sum.inr ((m.all fun r=>(irow r).isSome),s',()):(Bool×Bool) ⊕ (Bool×Bool×Unit))=res at h2 ⊢
   subst h
   refine Evt.ctrue mid_lt (Evt.ctrue mid_ge (Evt.ctrue mid_lt ?_))
   rw [mid_get]
   refine Evt.inr (Evt.diag hi) (Evt.bind (total_ev (magI_gd hxg) (by
    intro y hy
    obtain⟨z,hz,rfl⟩:=List.mem_map.1 hy
    exact magI_gd (hge.2 z (by simp [hz]))) (by have:=hge.1;simp only [List.length_cons]at this;simp only [List.length_map,lenB];omega)) (Evt.bind (.const rfl) (Evt.bind (compareD_ev (fsum_gd _ _ _ (magI_gd hxg)) one_gd) ?_)))
   rw [cmpI_lt]
   by_cases h5:sv (fsum b (magI x) (xs.map magI)).1<sv (1,0)
   ·rw [if_pos h5]at h2
    exact Evt.ctrue (decide_eq_true h5) h2
   ·rw [if_neg h5]at h2
    exact Evt.cfalse (decide_eq_false h5) h2
 obtain⟨s',h1,h2⟩:=key m [] true true rfl rfl (fun _=>rfl)
 simp only [List.length_nil]at h2
 refine Evt.inr (Evt.diag h2) ?_
 unfold shV
 cases hall:m.all fun r=>(irow r).isSome with
 | true=>rw [h1 hall];exact Evt.ctrue rfl .pure
 | false=>exact Evt.cfalse rfl .pure

def isV(m:List (List ((Int×Int)×Int×Int))):Bool×Bool:=if tab ivGd m then shV m else(false,false)
end Go.Ev.G

namespace Go.Ev.G
open Go Go.Ev
set_option maxRecDepth 100000

theorem min64{m:Nat}(h:m≤64):min (Int.toNat (m:Int)) (IntKind.bits .i64)=m:=by
 rw [Int.toNat_natCast];exact Nat.min_eq_left (by simp only [IntKind.bits];omega)

theorem fitD_ev{n:Int}{p:Nat}(h1 : -9223372036854775808<n)(h2:n<9223372036854775808)(hp:p<9223372036854775808):Evt (fun k _=>impl_wide_fit k (wN (decide (n<0)) n.natAbs) (p:Int)) (mkD n p):=by
 have:=fit_ev (neg:=decide (n<0)) (M:=n.natAbs) (m:=p) (by simp only [B64];omega) hp
 rw [wV_of]at this
 exact this

end Go.Ev.G

namespace Go.Ev.G
open Go Go.Ev
set_option maxRecDepth 100000

def B32:Nat:=4294967296
theorem andw32{a:Nat}(ha:a<B64):(BitVec.toNat (BitVec.ofInt (IntKind.bits .u64) (a:Int) &&& BitVec.ofInt (IntKind.bits .u64) 4294967295):Int)=((a % B32:Nat):Int):=by
 have h1:BitVec.ofInt (IntKind.bits .u64) (a:Int)=BitVec.ofNat 64 a:=by rfl
 have h2:BitVec.ofInt (IntKind.bits .u64) 4294967295=BitVec.ofNat 64 4294967295:=by rfl
 rw [h1,h2]
 have:(BitVec.toNat (BitVec.ofNat 64 a &&& BitVec.ofNat 64 4294967295))=a % B32:=by
  rw [BitVec.toNat_and,BitVec.toNat_ofNat,BitVec.toNat_ofNat]
  have e1:a % 2 ^ 64=a:=Nat.mod_eq_of_lt (by simpa [B64] using ha)
  rw [e1]
  have e2:4294967295 % 2 ^ 64=2 ^ 32 - 1:=by decide
  rw [e2,Nat.and_two_pow_sub_one_eq_mod]
  rfl
 exact congrArg _ this
theorem fdiv32(a:Nat):Int.fdiv (a:Int) (2 ^ min (Int.toNat 32) (IntKind.bits .u64))=((a / B32:Nat):Int):=by
 have:min (Int.toNat 32) (IntKind.bits .u64)=32:=by decide
 rw [this,fdiv_pow]
 rfl

theorem mul64_eq{a b:Nat}(ha:a≤1099511627776)(hb:b≤1099511627776):math_bits_Mul64 a b=some (((a*b / B64:Nat):Int),((a*b % B64:Nat):Int)):=by
 have la:a<B64:=by simp only [B64];omega
 have lb:b<B64:=by simp only [B64];omega
 unfold math_bits_Mul64
 rw [andw32 la,andw32 lb,fdiv32,fdiv32]
 obtain⟨x1,x0,ea,hx0⟩:∃x1 x0,a=B32*x1+x0∧x0<B32:=⟨a / B32,a % B32,(Nat.div_add_mod a B32).symm,Nat.mod_lt _ (by decide)⟩
 obtain⟨y1,y0,eb,hy0⟩:∃y1 y0,b=B32*y1+y0∧y0<B32:=⟨b / B32,b % B32,(Nat.div_add_mod b B32).symm,Nat.mod_lt _ (by decide)⟩
 have da:a / B32=x1:=by rw [ea,Nat.mul_add_div (by decide),Nat.div_eq_of_lt hx0];rfl
 have ma:a % B32=x0:=by rw [ea,Nat.mul_add_mod,Nat.mod_eq_of_lt hx0]
 have db:b / B32=y1:=by rw [eb,Nat.mul_add_div (by decide),Nat.div_eq_of_lt hy0];rfl
 have mb:b % B32=y0:=by rw [eb,Nat.mul_add_mod,Nat.mod_eq_of_lt hy0]
 rw [da,ma,db,mb]
 have lx1:x1≤256:=by simp only [B32]at ea hx0;omega
 have ly1:y1≤256:=by simp only [B32]at eb hy0;omega
 have p00:x0*y0≤4294967295*4294967295:=Nat.mul_le_mul (by simp only [B32]at hx0;omega) (by simp only [B32]at hy0;omega)
 have p01:x0*y1≤4294967295*256:=Nat.mul_le_mul (by simp only [B32]at hx0;omega) ly1
 have p10:x1*y0≤256*4294967295:=Nat.mul_le_mul lx1 (by simp only [B32]at hy0;omega)
 have p11:x1*y1≤256*256:=Nat.mul_le_mul lx1 ly1
 have full:a*b=B64*(x1*y1)+B32*(x0*y1+x1*y0)+x0*y0:=by
  rw [ea,eb,show B64=B32*B32 from rfl]
  simp only [Nat.mul_add,Nat.add_mul]
  have e1:B32*x1*(B32*y1)=B32*B32*(x1*y1):=by ac_rfl
  have e2:x0*(B32*y1)=B32*(x0*y1):=by ac_rfl
  have e3:B32*x1*y0=B32*(x1*y0):=by ac_rfl
  rw [e1,e2,e3];omega
 have w:∀n:Nat,n<B64→IntKind.wrap .u64 (n:Int)=(n:Int):=fun n h=>wu64 (by omega) (by simp only [B64]at h;omega)
 have m1:∀x y:Nat,((x:Int)*(y:Int))=((x*y:Nat):Int):=fun x y=>(Int.natCast_mul x y).symm
 have m2:∀x y:Nat,((x:Int)+(y:Int))=((x+y:Nat):Int):=fun x y=>(Int.natCast_add x y).symm
 rw [w x0 (by simp only [B64,B32]at hx0 ⊢; omega),w y0 (by simp only [B64,B32]at hy0 ⊢; omega)]
 simp only [m1]
 rw [w (x0*y0) (by simp only [B64];omega),w (x1*y0) (by simp only [B64];omega),w (x1*y1) (by simp only [B64];omega),w (x0*y1) (by simp only [B64];omega)]
 rw [fdiv32]
 simp only [m2]
 have c0:x0*y0 / B32≤4294967295:=by simp only [B32];omega
 rw [w (x1*y0+x0*y0 / B32) (by simp only [B64];omega)]
 rw [andw32 (by simp only [B64];omega),fdiv32]
 rw [w ((x1*y0+x0*y0 / B32) % B32) (by simp only [B64,B32];omega)]
 simp only [m2]
 rw [w ((x1*y0+x0*y0 / B32) % B32+x0*y1) (by simp only [B64,B32];omega),fdiv32]
 rw [w (x1*y1+(x1*y0+x0*y0 / B32) / B32) (by simp only [B64,B32];omega)]
 simp only [m2]
 rw [w _ (by simp only [B64,B32];omega),wu64_mod]
 congr 2
 ·congr 1
  rw [full]
  simp only [B64,B32]
  omega
end Go.Ev.G

namespace Go.Ev.G
open Go Go.Ev
set_option maxRecDepth 100000

def prodD(a b:Int×Int):(Int×Int)×Bool:=mkD (a.1*b.1) (a.2.toNat+b.2.toNat)
theorem prodD_gd(a b:Int×Int):gd (prodD a b).1:=mkD_gd _ _

theorem wV_mul(a b:Int):wV (!(decide (a<0)==decide (b<0))) (a.natAbs*b.natAbs)=a*b:=by
 unfold wV
 by_cases ha:a<0 <;> by_cases hb:b<0
 ·simp only [decide_eq_true ha,decide_eq_true hb]
  rw [if_neg (by simp),Int.natCast_mul,show(a.natAbs:Int) = -a by omega,show(b.natAbs:Int) = -b by omega,Int.neg_mul_neg]
 ·simp only [decide_eq_true ha,decide_eq_false hb]
  rw [if_pos (by simp),Int.natCast_mul,show(a.natAbs:Int) = -a by omega,show(b.natAbs:Int)=b by omega,Int.neg_mul,Int.neg_neg]
 ·simp only [decide_eq_false ha,decide_eq_true hb]
  rw [if_pos (by simp),Int.natCast_mul,show(a.natAbs:Int)=a by omega,show(b.natAbs:Int) = -b by omega,Int.mul_neg,Int.neg_neg]
 ·simp only [decide_eq_false ha,decide_eq_false hb]
  rw [if_neg (by simp),Int.natCast_mul,show(a.natAbs:Int)=a by omega,show(b.natAbs:Int)=b by omega]

theorem natAbs_bound{a:Int}(h1 : -1099511627776≤a)(h2:a≤1099511627776):a.natAbs≤1099511627776:=by omega
theorem mul_bound{a b:Nat}(ha:a≤1099511627776)(hb:b≤1099511627776):a*b<B64*B64:=by
 have:a*b≤1099511627776*1099511627776:=Nat.mul_le_mul ha hb
 simp only [B64];omega

theorem productOf_ev{a b:Int×Int}(ha:gd a)(hb:gd b):Evt (fun k _=>impl_productOf k a b) (prodD a b):=by
 refine Evt.eq (f:=fun k q=>_) ?_ (fun k q=>by rw [impl_productOf])
 have a1:=ha.2.2
 have b1:=hb.2.2
 have na:=natAbs_bound a1.1 a1.2.1
 have nb:=natAbs_bound b1.1 b1.2.1
 have htw:impl_timesWide a.1 b.1=some (wN (!(decide (a.1<0)==decide (b.1<0))) (a.1.natAbs*b.1.natAbs)):=by
  unfold impl_timesWide
  rw [size_eq (by omega) (by omega),Option.bind_some,size_eq (by omega) (by omega),Option.bind_some,mul64_eq na nb]
  rfl
 refine Evt.bind (.const htw) ?_
 have e:IntKind.wrap .i64 (a.2+b.2)=((a.2.toNat+b.2.toNat:Nat):Int):=by
  have:=ha.1;have:=ha.2.1;have:=hb.1;have:=hb.2.1
  rw [w64 (by omega) (by omega)];omega
 rw [e]
 have hf:=fit_ev (neg := !(decide (a.1<0)==decide (b.1<0))) (M:=a.1.natAbs*b.1.natAbs) (m:=a.2.toNat+b.2.toNat) (mul_bound na nb) (by have:=ha.2.1;have:=hb.2.1;omega)
 rw [wV_mul]at hf
 exact Evt.bind hf .pure

theorem reckoner_product_ev{b:Bool}{s x:Int×Int}(hs:gd s)(hx:gd x):Evt (fun k _=>impl_reckoner_product k b s x) (if b then prodD s x else((0,0),false)):=by
 refine Evt.eq (f:=fun k q=>_) ?_ (fun k q=>by rw [impl_reckoner_product])
 refine Evt.bind (productOf_ev hs hx) (.const ?_)
 unfold impl_reckoner_keep
 cases b with
 | true =>
  cases h:(prodD s x).2 with
  | true=>simp [h,Prod.ext_iff]
  | false =>
   have h3:prodD s x=((0,0),false):=Prod.ext (mkD_false h) h
   rw [h3];simp
 | false=>rfl

theorem mkD_strip_left:∀(p:Nat) (x y:Int),mkD (x*y) p=mkD ((strip p x).1*y) (strip p x).2
 | 0,_,_=>rfl
 | p+1,x,y=>by
  unfold strip
  split
  ·rename_i h
   rw [←mkD_strip_left p (x / 2) y]
   have e:x*y=2*(x / 2*y):=by rw [←Int.mul_assoc,Int.mul_comm 2,Int.ediv_mul_cancel (Int.dvd_of_emod_eq_zero h)]
   unfold mkD
   have e2:strip (p+1) (x*y)=strip p (x / 2*y):=by
    rw [e]
    conv=>lhs;unfold strip
    rw [if_pos (by omega)]
    congr 1
    omega
   rw [e2]
  ·rfl

theorem dyMul_loop1{b z:Int×Int}:∀(m:Nat) (n j:Int),-9223372036854775808<n→n<9223372036854775808→m<9223372036854775808 →
  Evt (fun k q=>spec_dyMul_L60 k q (n,j) b z (m:Int)) (.inr (((strip m n).1,j),b,z,((strip m n).2:Int),()))
 | 0,n,j,h1,h2,hm=>Evt.step (fun k q=>spec_dyMul_L60.eq_2 k _ _ _ _ q) (Evt.cfalse (by simp) .pure)
 | m+1,n,j,h1,h2,hm=>by
  refine Evt.step (fun k q=>spec_dyMul_L60.eq_2 k _ _ _ _ q) (Evt.ctrue (decide_eq_true (by omega)) ?_)
  unfold strip
  by_cases h:n % 2=0
  ·refine Evt.ctrue (by simpa using (tmod2 n).2 h) ?_
   rw [if_pos h]
   simp only
   rw [tdiv2 h,w64 (n:=n / 2) (by omega) (by omega),show IntKind.wrap .i64 (((m+1:Nat):Int) - 1)=(m:Int)by rw [w64 (by omega) (by omega)];omega]
   exact dyMul_loop1 m (n / 2) j (by omega) (by omega) (by omega)
  ·rw [if_neg h]
   exact Evt.cfalse (by simpa using fun hh=>h ((tmod2 n).1 hh)) .pure

theorem dyMul_loop2{a z:Int×Int}:∀(m:Nat) (n j:Int),-9223372036854775808<n→n<9223372036854775808→m<9223372036854775808 →
  Evt (fun k q=>spec_dyMul_L124 k q a (n,j) z (m:Int)) (.inr (a,((strip m n).1,j),z,((strip m n).2:Int),()))
 | 0,n,j,h1,h2,hm=>Evt.step (fun k q=>spec_dyMul_L124.eq_2 k _ _ _ _ q) (Evt.cfalse (by simp) .pure)
 | m+1,n,j,h1,h2,hm=>by
  refine Evt.step (fun k q=>spec_dyMul_L124.eq_2 k _ _ _ _ q) (Evt.ctrue (decide_eq_true (by omega)) ?_)
  unfold strip
  by_cases h:n % 2=0
  ·refine Evt.ctrue (by simpa using (tmod2 n).2 h) ?_
   rw [if_pos h]
   simp only
   rw [tdiv2 h,w64 (n:=n / 2) (by omega) (by omega),show IntKind.wrap .i64 (((m+1:Nat):Int) - 1)=(m:Int)by rw [w64 (by omega) (by omega)];omega]
   exact dyMul_loop2 m (n / 2) j (by omega) (by omega) (by omega)
  ·rw [if_neg h]
   exact Evt.cfalse (by simpa using fun hh=>h ((tmod2 n).1 hh)) .pure

theorem abs_eq{n:Int}(h1 : -9223372036854775808<n)(h2:n<9223372036854775808):spec_l1Abs n=some (n.natAbs:Int):=by
 unfold spec_l1Abs
 rw [most_eq,w64 (by omega) (by omega)]
 simp only [Option.bind_some]
 congr 1
 omega

theorem strip_abs_le(m:Nat)(n:Int):(strip m n).1.natAbs≤n.natAbs:=by
 by_cases h:0≤n
 ·have:=strip_bound m n h
  omega
 ·have h1:=strip_bound m (-n) (by omega)
  rw [strip_neg]at h1
  simp only at h1
  omega

theorem odd_mul{x y:Int}(hx:x % 2≠0)(hy:y % 2≠0):(x*y) % 2≠0:=by
 have hx':x % 2=1:=by omega
 have hy':y % 2=1:=by omega
 rw [Int.mul_emod,hx',hy']
 decide

theorem dyMul_ev{a b:Int×Int}(ha:gd a)(hb:gd b):Evt (fun k _=>spec_dyMul k a b) (prodD a b):=by
 refine Evt.eq (f:=fun k q=>_) ?_ (fun k q=>by rw [spec_dyMul])
 have a1:=ha.2.2
 have b1:=hb.2.2
 unfold prodD
 by_cases ha0:a.1=0
 ·refine Evt.ctrue (by simp [ha0]) ?_
  rw [ha0,Int.zero_mul,mkD_zero]
  exact .pure
 refine Evt.cfalse (by simpa using ha0) ?_
 by_cases hb0:b.1=0
 ·refine Evt.ctrue (by simp [hb0]) ?_
  rw [hb0,Int.mul_zero,mkD_zero]
  exact .pure
 refine Evt.cfalse (by simpa using hb0) ?_
 have e:IntKind.wrap .i64 (a.2+b.2)=((a.2.toNat+b.2.toNat:Nat):Int):=by
  have:=ha.1;have:=ha.2.1;have:=hb.1;have:=hb.2.1
  rw [w64 (by omega) (by omega)];omega
 rw [e]
 have hp:a.2.toNat+b.2.toNat≤48:=by have:=ha.2.1;have:=hb.2.1;omega
 generalize a.2.toNat+b.2.toNat=p at hp ⊢
 have l1:=dyMul_loop1 (b:=b) (z:=(0,0)) p a.1 a.2 (by omega) (by omega) (by omega)
 rw [show((a.1,a.2):Int×Int)=a from rfl]at l1
 refine Evt.inr (Evt.diag l1) ?_
 have l2:=dyMul_loop2 (a:=((strip p a.1).1,a.2)) (z:=(0,0)) (strip p a.1).2 b.1 b.2 (by omega) (by omega) (by have:=strip_le p a.1;omega)
 rw [show((b.1,b.2):Int×Int)=b from rfl]at l2
 refine Evt.inr (Evt.diag l2) ?_
 simp only
 rw [mkD_strip_left p a.1 b.1,Int.mul_comm (strip p a.1).1 b.1,mkD_strip_left (strip p a.1).2 b.1]
 have fa:=strip_form p a.1
 have fb:=strip_form (strip p a.1).2 b.1
 have na:=strip_ne p a.1 ha0
 have nb:=strip_ne (strip p a.1).2 b.1 hb0
 have la:=strip_abs_le p a.1
 have lb:=strip_abs_le (strip p a.1).2 b.1
 have lp:=strip_le p a.1
 have lp2:=strip_le (strip p a.1).2 b.1
 generalize (strip p a.1).1=x at fa na la ⊢
 generalize (strip p a.1).2=q at fa fb nb lb lp lp2 ⊢
 generalize (strip q b.1).1=y at fb nb lb ⊢
 generalize (strip q b.1).2=r at fb lp2 ⊢
 rw [Int.mul_comm y x]
 refine Evt.bind (.const (abs_eq (by omega) (by omega))) (Evt.bind (.const (abs_eq (by omega) (by omega))) (Evt.cfalse (by simp;omega) ?_))
 have hM:IntKind.wrap .i64 (Int.tdiv 1099511627776 (y.natAbs:Int))=((1099511627776 / y.natAbs:Nat):Int):=by
  have:Int.tdiv 1099511627776 (y.natAbs:Int)=((1099511627776 / y.natAbs:Nat):Int):=rfl
  rw [this]
  have hq:1099511627776 / y.natAbs≤1099511627776:=Nat.div_le_self _ _
  generalize 1099511627776 / y.natAbs=qq at hq ⊢
  rw [w64 (by omega) (by omega)]
 rw [hM]
 have habs:(x*y).natAbs=x.natAbs*y.natAbs:=Int.natAbs_mul x y
 have hy0:0<y.natAbs:=by omega
 by_cases hbig:x.natAbs>1099511627776 / y.natAbs
 ·refine Evt.ctrue (decide_eq_true (by omega)) ?_
  have:1099511627776<x.natAbs*y.natAbs:=(Nat.div_lt_iff_lt_mul hy0).1 hbig
  have hodd:r=0∨(x*y) % 2≠0:=by
   rcases fb with h | h
   ·exact .inl h
   ·rcases fa with h2 | h2
    ·exact .inl (by omega)
    ·exact .inr (odd_mul h2 h)
  have:mkD (x*y) r=((0,0),false):=by
   rcases hodd with rfl | h
   ·unfold mkD strip
    rw [if_neg (by simp only;omega)]
   ·exact mkD_odd h (by omega)
  rw [this]
  exact .pure
 ·refine Evt.cfalse (decide_eq_false (by omega)) ?_
  have hle:x.natAbs*y.natAbs≤1099511627776:=by
   have:=(Nat.le_div_iff_mul_le hy0).1 (Nat.le_of_not_gt hbig)
   exact this
  rw [w64 (n:=x*y) (by omega) (by omega)]
  exact Evt.bind (dyMake_ev (by omega) (by omega) (by omega)) .pure
end Go.Ev.G

namespace Go.Ev.G
open Go Go.Ev
set_option maxRecDepth 100000

section
variable {α β : Type}
def Flag(g:α→Option β)(z:β)(b0:Bool)(d:List α)(b:Bool)(o:List β):Prop :=
 o.length=d.length∧b=(b0&&d.all fun x=>(g x).isSome)∧(b=true→o=d.map fun x=>(g x).getD z)
theorem Flag.nil{g:α→Option β}{z:β}{b0:Bool}:Flag g z b0 [] b0 []:=⟨rfl,by simp,fun _=>rfl⟩
theorem Flag.step{g:α→Option β}{z:β}{b0 b:Bool}{d:List α}{o:List β}{e:α}{v:β}(h:Flag g z b0 d b o)(hv:b=true→(g e).isSome=true→g e=some v):Flag g z b0 (d ++ [e]) (b&&(g e).isSome) (o ++ [v]):=by
 obtain⟨h1,h2,h3⟩:=h
 refine⟨by simp [h1],?_,?_⟩
 ·rw [h2,List.all_append]
  simp only [List.all_cons,List.all_nil,Bool.and_true,Bool.and_assoc]
 ·intro hh
  rw [Bool.and_eq_true]at hh
  rw [List.map_append,h3 hh.1]
  simp only [List.map_cons,List.map_nil,hv hh.1 hh.2,Option.getD_some]
end

abbrev Pt:=List (Int×Int)
def prO(p:(Int×Int)×(Int×Int)):Option (Int×Int):=if (prodD p.1 p.2).2 then some (prodD p.1 p.2).1 else none
end Go.Ev.G

namespace Go.Ev.G
open Go Go.Ev
set_option maxRecDepth 100000

theorem getD_mem{r:Pt}{j:Nat}(h:j<r.length):r.getD j (0,0)∈r:=by
 rw [List.getD_eq_getElem?_getD,List.getElem?_eq_getElem h]
 exact List.getElem_mem h

end Go.Ev.G

namespace Go.Ev
open Go

section
variable {α β : Type}
def Ev3{α:Type}(f:Nat→Nat→Nat→Option α)(r:α):Prop:=∃k0,∀k m n,k0≤k→k0≤m→k0≤n→f k m n=some r

theorem Ev3.of{f:Nat→Option α}{r:α}(h:Evt (fun k _=>f k) r):Ev3 (fun k _ _=>f k) r:=by
 obtain⟨k0,h⟩:=h
 exact⟨k0,fun k m n hk _ _=>h k k hk hk⟩
theorem Ev3.rec{f:Nat→Nat→Option α}{r:α}(h:Evt f r):Ev3 (fun k m _=>f k m) r:=by
 obtain⟨k0,h⟩:=h
 exact⟨k0,fun k m n hk hm _=>h k m hk hm⟩
theorem Ev3.diag{f:Nat→Nat→Nat→Option α}{r:α}(h:Ev3 f r):Evt (fun k m=>f k m k) r:=by
 obtain⟨k0,h⟩:=h
 exact⟨k0,fun k m hk hm=>h k m k hk hm hk⟩
theorem Ev3.const{o:Option α}{r:α}(h:o=some r):Ev3 (fun _ _ _=>o) r:=⟨0,fun _ _ _ _ _ _=>h⟩
theorem Ev3.pure{r:α}:Ev3 (fun _ _ _=>some r) r:=⟨0,fun _ _ _ _ _ _=>rfl⟩
theorem Ev3.bind{f:Nat→Nat→Nat→Option α}{g:Nat→Nat→Nat→α→Option β}{a:α}{r:β}(h:Ev3 f a)(h':Ev3 (fun k m n=>g k m n a) r):Ev3 (fun k m n=>Option.bind (f k m n) fun x=>g k m n x) r:=by
 obtain⟨k0,h⟩:=h
 obtain⟨k1,h'⟩:=h'
 refine⟨max k0 k1,fun k m n hk hm hn => ?_⟩
 exact(congrArg (fun o=>Option.bind o fun x=>g k m n x) (h k m n (by omega) (by omega) (by omega))).trans (h' k m n (by omega) (by omega) (by omega))
theorem Ev3.inr{R P A:Type}{f:Nat→Nat→Nat→Option (R ⊕ P)}{G:Nat→Nat→Nat→R→Option A}{K:Nat→Nat→Nat→P→Option A}{y:P}{r:A}(h:Ev3 f (.inr y))(h':Ev3 (fun k m n=>K k m n y) r):Ev3 (fun k m n=>both (f k m n) (G k m n) (K k m n)) r:=by
 obtain⟨k0,h⟩:=h
 obtain⟨k1,h'⟩:=h'
 refine⟨max k0 k1,fun k m n hk hm hn => ?_⟩
 exact(congrArg (fun o=>both o (G k m n) (K k m n)) (h k m n (by omega) (by omega) (by omega))).trans (h' k m n (by omega) (by omega) (by omega))
theorem Ev3.inl{R P A:Type}{f:Nat→Nat→Nat→Option (R ⊕ P)}{G:Nat→Nat→Nat→R→Option A}{K:Nat→Nat→Nat→P→Option A}{q:R}{r:A}(h:Ev3 f (.inl q))(h':Ev3 (fun k m n=>G k m n q) r):Ev3 (fun k m n=>both (f k m n) (G k m n) (K k m n)) r:=by
 obtain⟨k0,h⟩:=h
 obtain⟨k1,h'⟩:=h'
 refine⟨max k0 k1,fun k m n hk hm hn => ?_⟩
 exact(congrArg (fun o=>both o (G k m n) (K k m n)) (h k m n (by omega) (by omega) (by omega))).trans (h' k m n (by omega) (by omega) (by omega))
theorem Ev3.ctrue{c:Bool}{f g:Nat→Nat→Nat→Option α}{r:α}(hc:c=true)(h:Ev3 f r):Ev3 (fun k m n=>bif c then f k m n else g k m n) r:=by subst hc;exact h
theorem Ev3.cfalse{c:Bool}{f g:Nat→Nat→Nat→Option α}{r:α}(hc:c=false)(h:Ev3 g r):Ev3 (fun k m n=>bif c then f k m n else g k m n) r:=by subst hc;exact h
theorem Ev3.step{L F:Nat→Nat→Nat→Option α}{r:α}(hL:∀k m n,L k m (n+1)=F k m n)(h:Ev3 F r):Ev3 L r:=by
 obtain⟨k0,h⟩:=h
 refine⟨k0+1,fun k m n hk hm hn => ?_⟩
 obtain⟨n,rfl⟩:∃n',n=n'+1:=⟨n - 1,by omega⟩
 rw [hL]
 exact h k m n (by omega) (by omega) (by omega)
end
end Go.Ev

namespace Go.Ev.G
open Go Go.Ev
set_option maxRecDepth 100000

def partV{α:Type}(m:List (List α))(i j:Nat):List (List α):=(m.eraseIdx i).map (·.eraseIdx j)
theorem erase_snoc{α:Type}(d:List α)(e:α)(i:Nat):(d ++ [e]).eraseIdx i=if d.length=i then d.eraseIdx i else d.eraseIdx i ++ [e]:=by
 by_cases h:i<d.length
 ·rw [if_neg (by omega),List.eraseIdx_append_of_lt_length h]
 ·rw [List.eraseIdx_append_of_length_le (by omega),List.eraseIdx_of_length_le (l:=d) (by omega)]
  by_cases h2:d.length=i
  ·rw [if_pos h2,h2,Nat.sub_self];simp
  ·rw [if_neg h2,List.eraseIdx_of_length_le (l := [e]) (by simp;omega)]
theorem take_drop{α:Type}(r:List α)(j:Nat):(r.take j).drop 0++(r.take (Int.toNat (r.length:Int))).drop (j+1)=r.eraseIdx j:=by
 rw [List.eraseIdx_eq_take_drop_succ];simp
theorem erase_len{α:Type}{r:List α}{j n:Nat}(h:r.length=n+1)(hj:j≤n):(r.eraseIdx j).length=n:=by
 rw [List.length_eraseIdx,if_pos (by omega)];omega

theorem concatD_ev{a b:Pt}(ha:a.length<1000)(hb:b.length<1000):Evt (fun k _=>slices_Concat_Dyadic_Dyadic k [a,b]) (a++b):=by
 refine Evt.eq (f:=fun k q=>_) ?_ (fun k q=>by rw [slices_Concat_Dyadic_Dyadic])
 have w1:IntKind.wrap .i64 (0+1)=1:=by decide
 have w2:IntKind.wrap .i64 (1+1)=2:=by decide
 have wa:IntKind.wrap .i64 (0+(a.length:Int))=(a.length:Int):=by rw [w64 (by omega) (by omega)];omega
 have wb:IntKind.wrap .i64 ((a.length:Int)+(b.length:Int))=((a.length+b.length:Nat):Int):=by rw [w64 (by omega) (by omega)];omega
 have l1:Evt (fun k n=>slices_Concat_Dyadic_Dyadic_L58 k n [a,b] 0 [a,b] 2 0) (.inr ([a,b],((a.length+b.length:Nat):Int),())):=by
  refine Evt.step (fun k n=>slices_Concat_Dyadic_Dyadic_L58.eq_2 k _ _ _ _ _ n) (Evt.ctrue rfl (Evt.ctrue rfl (Evt.ctrue rfl ?_)))
  simp only [List.getD_cons_zero,show Int.toNat 0=0 from rfl,wa,w1]
  refine Evt.cfalse (decide_eq_false (by omega)) ?_
  refine Evt.step (fun k n=>slices_Concat_Dyadic_Dyadic_L58.eq_2 k _ _ _ _ _ n) (Evt.ctrue rfl (Evt.ctrue rfl (Evt.ctrue rfl ?_)))
  have e1 : [a,b].getD (Int.toNat 1) []=b:=rfl
  simp only [e1,wb,w2]
  refine Evt.cfalse (decide_eq_false (by omega)) ?_
  exact Evt.step (fun k n=>slices_Concat_Dyadic_Dyadic_L58.eq_2 k _ _ _ _ _ n) (Evt.cfalse rfl .pure)
 have grow:slices_Grow_Dyadic_Dyadic () ((a.length+b.length:Nat):Int)=some []:=by
  unfold slices_Grow_Dyadic_Dyadic
  have e:IntKind.wrap .i64 (((a.length+b.length:Nat):Int) - IntKind.wrap .i64 (0 - 0))=((a.length+b.length:Nat):Int):=by
   have:IntKind.wrap .i64 (0 - 0)=0:=by decide
   rw [this,w64 (by omega) (by omega)];omega
  rw [e,decide_eq_false (by omega),cond_false]
  by_cases h:a.length+b.length=0
  ·rw [h];rfl
  ·rw [decide_eq_true (by omega),decide_eq_true (by omega),decide_eq_true (by omega)]
   simp only [cond_true,List.take_zero]
   rw [decide_eq_true (by simp;omega)]
   rfl
 have l2:Evt (fun k n=>slices_Concat_Dyadic_Dyadic_L250 k n [] [a,b] 2 0) (.inr (a++b,())):=by
  refine Evt.step (fun k n=>slices_Concat_Dyadic_Dyadic_L250.eq_2 k _ _ _ _ n) (Evt.ctrue rfl (Evt.ctrue rfl (Evt.ctrue rfl ?_)))
  simp only [List.getD_cons_zero,show Int.toNat 0=0 from rfl,w1,List.nil_append,List.length_nil]
  refine Evt.ctrue (decide_eq_true (by omega)) ?_
  refine Evt.step (fun k n=>slices_Concat_Dyadic_Dyadic_L250.eq_2 k _ _ _ _ n) (Evt.ctrue rfl (Evt.ctrue rfl (Evt.ctrue rfl ?_)))
  have e1 : [a,b].getD (Int.toNat 1) []=b:=rfl
  simp only [e1,w2]
  refine Evt.ctrue (decide_eq_true (by omega)) ?_
  exact Evt.step (fun k n=>slices_Concat_Dyadic_Dyadic_L250.eq_2 k _ _ _ _ n) (Evt.cfalse rfl .pure)
 exact Evt.inr (Evt.diag l1) (Evt.bind (.const grow) (Evt.inr (Evt.diag l2) .pure))

def sq{α:Type}(g:α→Prop)(n:Nat)(m:List (List α)):Prop:=m.length=n∧∀r∈m,r.length=n∧∀x∈r,g x
theorem mem_erase{α:Type}{r:List α}{j:Nat}{x:α}(h:x∈r.eraseIdx j):x∈r:=List.eraseIdx_subset h
theorem sq_part{α:Type}{g:α→Prop}{n i j:Nat}{m:List (List α)}(h:sq g (n+1) m)(hi:i≤n)(hj:j≤n):sq g n (partV m i j):=by
 refine⟨by unfold partV;rw [List.length_map,erase_len h.1 hi],?_⟩
 intro r hr
 unfold partV at hr
 obtain⟨r0,h0,rfl⟩:=List.mem_map.1 hr
 have h1:=h.2 r0 (mem_erase h0)
 exact⟨erase_len h1.1 hj,fun x hx=>h1.2 x (mem_erase hx)⟩
theorem sq_tab{α:Type}{g:α→Prop}[DecidablePred g]{m:List (List α)}(h:tab g m=true):∃n,n≤2∧sq g (n+1) m:=by
 have h0:=h
 unfold tab at h0
 simp only [Bool.and_eq_true,decide_eq_true_eq]at h0
 refine⟨m.length - 1,by omega,by omega,fun r hr => ?_⟩
 have:=tab_all h r hr
 exact⟨by omega,this.2⟩

theorem mxPart_ev{m:List Pt}{n i j:Nat}(h:sq gd (n+1) m)(hn:n≤2)(hj:j≤n):Evt (fun k _=>spec_mxPart k m i j) (partV m i j):=by
 refine Evt.eq (f:=fun k q=>_) ?_ (fun k q=>by rw [spec_mxPart])
 have hb:m.length≤3:=by have:=h.1;omega
 have key:∀(r d:List Pt),d++r=m→Evt (fun k q=>spec_mxPart_L58 k q i j ((d.eraseIdx i).map (·.eraseIdx j)) m (m.length:Int) d.length) (.inr (partV m i j,())):=by
  intro r
  induction r with
  | nil =>
   intro d hd
   refine Evt.step (fun k q=>spec_mxPart_L58.eq_2 k _ _ _ _ _ _ q) ?_
   rw [List.append_nil]at hd
   subst hd
   exact Evt.rng0 .pure
  | cons e r ih =>
   intro d hd
   refine Evt.step (fun k q=>spec_mxPart_L58.eq_2 k _ _ _ _ _ _ q) ?_
   have he:=(h.2 e (by rw [←hd];simp)).1
   have ih:=ih (d ++ [e]) (by simpa using hd)
   rw [←len_next (r:=r) (by rw [hd];simp only [lenB];omega),erase_snoc]at ih
   have hl:=congrArg List.length hd
   simp at hl
   have hdl:(d.eraseIdx i).length≤d.length:=by rw [List.length_eraseIdx];split <;> omega
   subst hd
   refine Evt.ctrue mid_lt (Evt.ctrue mid_ge (Evt.ctrue mid_lt ?_))
   rw [mid_get]
   by_cases hi:d.length=i
   ·rw [if_pos hi]at ih
    exact Evt.cfalse (by simp [hi]) ih
   ·rw [if_neg hi,List.map_append]at ih
    have wj:IntKind.wrap .i64 ((j:Int)+1)=((j+1:Nat):Int):=w64_next (by simp only [lenB];omega)
    rw [wj]
    simp only [List.nil_append,Int.toNat_natCast]
    have htd:=take_drop e j
    rw [Int.toNat_natCast]at htd
    rw [htd]
    have hel:=erase_len he hj
    have t1:((e.take j).drop 0).length≤3:=by simp;omega
    refine Evt.ctrue (by simp;omega) (Evt.ctrue mid_ge (Evt.ctrue (by simp;omega) (Evt.ctrue (decide_eq_true (by simp only [List.length_nil];omega)) (Evt.ctrue mid_ge (Evt.ctrue (by simp;omega) (Evt.ctrue ?_ (Evt.ctrue (by simp;omega) ih)))))))
    refine decide_eq_true ?_
    have:=congrArg List.length htd
    rw [List.length_append]at this
    omega
 exact Evt.inr (Evt.diag (key m [] rfl)) .pure

theorem impl_part_ev{m:List Pt}{n i j:Nat}(h:sq gd (n+1) m)(hn:n≤2)(hj:j≤n):Evt (fun k _=>impl_part_Dyadic k m i j) (partV m i j):=by
 refine Evt.eq (f:=fun k q=>_) ?_ (fun k q=>by rw [impl_part_Dyadic])
 have hb:m.length≤3:=by have:=h.1;omega
 have key:∀(r d:List Pt),d++r=m→Evt (fun k q=>impl_part_Dyadic_L58 k q i j ((d.eraseIdx i).map (·.eraseIdx j)) m (m.length:Int) d.length) (.inr (partV m i j,())):=by
  intro r
  induction r with
  | nil =>
   intro d hd
   refine Evt.step (fun k q=>impl_part_Dyadic_L58.eq_2 k _ _ _ _ _ _ q) ?_
   rw [List.append_nil]at hd
   subst hd
   exact Evt.rng0 .pure
  | cons e r ih =>
   intro d hd
   refine Evt.step (fun k q=>impl_part_Dyadic_L58.eq_2 k _ _ _ _ _ _ q) ?_
   have he:=(h.2 e (by rw [←hd];simp)).1
   have ih:=ih (d ++ [e]) (by simpa using hd)
   rw [←len_next (r:=r) (by rw [hd];simp only [lenB];omega),erase_snoc]at ih
   have hl:=congrArg List.length hd
   simp at hl
   have hdl:(d.eraseIdx i).length≤d.length:=by rw [List.length_eraseIdx];split <;> omega
   subst hd
   refine Evt.ctrue mid_lt (Evt.ctrue mid_ge (Evt.ctrue mid_lt ?_))
   rw [mid_get]
   by_cases hi:d.length=i
   ·rw [if_pos hi]at ih
    exact Evt.cfalse (by simp [hi]) ih
   ·rw [if_neg hi,List.map_append]at ih
    have wj:IntKind.wrap .i64 ((j:Int)+1)=((j+1:Nat):Int):=w64_next (by simp only [lenB];omega)
    rw [wj]
    have htd:=take_drop e j
    simp only [Int.toNat_natCast]at htd ⊢
    have t1:((e.take j).drop 0).length<1000:=by simp;omega
    have t2:((e.take e.length).drop (j+1)).length<1000:=by simp;omega
    have hc:=concatD_ev t1 t2
    rw [htd]at hc
    exact Evt.ctrue (by simp;omega) (Evt.ctrue mid_ge (Evt.ctrue (by simp;omega) (Evt.ctrue mid_ge (Evt.ctrue (by simp;omega) (Evt.bind hc (Evt.ctrue (by simp;omega) ih))))))
 exact Evt.inr (Evt.diag (key m [] rfl)) .pure
end Go.Ev.G

namespace Go.Ev.G
open Go Go.Ev
set_option maxRecDepth 100000

def ngD(c:Nat)(x:Int×Int):Int×Int:=if c % 2=1 then(-x.1,x.2)else x
theorem ngD_gd{c:Nat}{x:Int×Int}(h:gd x):gd (ngD c x):=by
 unfold ngD
 split
 ·exact gd_neg h
 ·exact h
def tmO(c:Nat)(a:Int×Int)(d:Option (Int×Int)):Option (Int×Int):=match d with
 | none=>none
 | some d=>if (prodD a d).2 then some (ngD c (prodD a d).1)else none
def detO:Nat→List Pt→Option (Int×Int)
 | 0,m=>some ((m.getD 0 []).getD 0 (0,0))
 | n+1,m =>
  let ts:=(List.range (n+2)).map fun c=>tmO c ((m.getD 0 []).getD c (0,0)) (detO n (partV m 0 c))
  if ts.all (·.isSome)then osum (0,0) (ts.map fun o=>o.getD (0,0))else none
def oV(o:Option (Int×Int)):(Int×Int)×Bool:=match o with
 | some t=>(t,true)
 | none=>((0,0),false)

def sumO:(Int×Int)→List (Option (Int×Int))→Option (Int×Int)
 | s,[]=>some s
 | s,o::r=>match o with
  | none=>none
  | some x=>if (sumD s x).2 then sumO (sumD s x).1 r else none
theorem sumO_eq:∀(ts:List (Option (Int×Int))) (s:Int×Int),sumO s ts=if ts.all (·.isSome)then osum s (ts.map fun o=>o.getD (0,0))else none
 | [],s=>rfl
 | none::r,s=>by simp [sumO]
 | some x::r,s=>by
  simp only [sumO,List.all_cons,Option.isSome_some,Bool.true_and,List.map_cons,Option.getD_some,osum]
  cases (sumD s x).2 with
  | true=>simp only [if_true];exact sumO_eq r _
  | false=>simp

theorem tmod_odd(c:Nat):((Int.tmod (c:Int) 2)==1)=decide (c % 2=1):=by
 have:Int.tmod (c:Int) 2=((c % 2:Nat):Int):=rfl
 rw [this,Bool.eq_iff_iff,beq_iff_eq,decide_eq_true_eq]
 omega

theorem dyMinus_eq{x:Int×Int}(h:gd x):spec_dyMinus x=some (-x.1,x.2):=by
 have:=h.2.2
 unfold spec_dyMinus
 rw [w64 (by omega) (by omega)]
 congr 2
 omega

def terms(n:Nat)(m:List Pt):List (Option (Int×Int)):=(List.range (n+2)).map fun c=>tmO c ((m.getD 0 []).getD c (0,0)) (detO n (partV m 0 c))
theorem detO_gd:∀(n:Nat) (m:List Pt) (t:Int×Int),sq gd (n+1) m→detO n m=some t→gd t
 | 0,m,t,h,e=>by
  obtain⟨h1,h2⟩:=h
  match m,h1 with
  | [r],_ =>
   obtain⟨h3,h4⟩:=h2 r (by simp)
   match r,h3 with
   | [x],_ =>
    simp only [detO,List.getD_cons_zero,Option.some.injEq]at e
    rw [←e]
    exact h4 x (by simp)
 | n+1,m,t,h,e=>by
  unfold detO at e
  simp only at e
  split at e
  ·exact osum_gd _ _ _ (by decide) e
  ·cases e

theorem terms_get{n c:Nat}{m:List Pt}{d r:List (Option (Int×Int))}{t:Option (Int×Int)}(h:d++t::r=terms n m)(hc:d.length=c):t=tmO c ((m.getD 0 []).getD c (0,0)) (detO n (partV m 0 c))∧c≤n+1:=by
 have hl:=congrArg List.length h
 simp [terms]at hl
 have h2:(d++t::r)[d.length]? = some t:=by simp
 rw [h,terms,List.getElem?_map,List.getElem?_range (by omega)]at h2
 simp only [Option.map_some,Option.some.injEq]at h2
 rw [←hc]
 exact⟨h2.symm,by omega⟩

theorem mxDet_ev:∀(n:Nat) (m:List Pt),n≤2→sq gd (n+1) m→Evt (fun k q=>spec_mxDet_R k q m) (oV (detO n m))
 | 0,m,_,h=>by
  obtain⟨h1,h2⟩:=h
  match m,h1 with
  | [r],_ =>
   obtain⟨h3,h4⟩:=h2 r (by simp)
   match r,h3 with
   | [x],_=>exact Evt.step (fun k q=>(rfl:spec_mxDet_R k (q+1) [[x]]=some (x,true))) .pure
 | n+1,m,hn,h=>by
  refine Evt.step (F:=fun k q=>spec_mxDet_B k (spec_mxDet_R k q) m) (fun k q=>rfl) ?_
  refine Evt.eq (f:=fun k q=>_) ?_ (fun k q=>by rw [spec_mxDet_B])
  have hm:=h.1
  have hrow:(m.getD 0 []).length=n+2∧∀x∈m.getD 0 [],gd x:=by
   match m,hm with
   | r::_,_=>exact h.2 r (by simp)
  refine Evt.cfalse (by rw [hm];simp;omega) (Evt.ctrue (by rw [hm];simp;omega) ?_)
  generalize hrw:m.getD 0 []=row at hrow ⊢
  have hsub:∀c,c≤n+1→Ev3 (fun k q _=>spec_mxDet_R k q (partV m 0 c)) (oV (detO n (partV m 0 c))):=fun c hc=>Ev3.rec (mxDet_ev n _ (by omega) (sq_part h (by omega) hc))
  have key:∀(r d:List (Option (Int×Int))) (z s:Int×Int),d++r=terms n m→gd s →
    Ev3 (fun k q f=>spec_mxDet_L122 k (spec_mxDet_R k q) f m z s row (row.length:Int) d.length) (match sumO s r with | some t => .inr (z,t,()) | none => .inl ((0,0),false)):=by
   intro r
   induction r with
   | nil =>
    intro d z s hd hs
    refine Ev3.step (fun k q f=>spec_mxDet_L122.eq_2 k _ _ _ _ _ _ _ f) ?_
    rw [List.append_nil]at hd
    have:d.length=n+2:=by rw [hd];simp [terms]
    exact Ev3.cfalse (decide_eq_false (by omega)) .pure
   | cons t r ih =>
    intro d z s hd hs
    obtain⟨ht,hc⟩:=terms_get hd rfl
    rw [hrw]at ht
    generalize hcd:d.length=c at ht hc
    refine Ev3.step (fun k q f=>spec_mxDet_L122.eq_2 k _ _ _ _ _ _ _ f) ?_
    have ih:=fun s=>ih (d ++ [t]) z s (by simpa using hd)
    have hnx:IntKind.wrap .i64 ((c:Int)+1)=((d ++ [t]).length:Int):=by rw [w64_next (by simp only [lenB];omega)];simp;omega
    rw [←hnx]at ih
    have ga:gd (row.getD c (0,0)):=hrow.2 _ (getD_mem (by omega))
    refine Ev3.ctrue (decide_eq_true (by omega)) (Ev3.ctrue mid_ge (Ev3.ctrue (decide_eq_true (by omega)) ?_))
    rw [Int.toNat_natCast]
    refine Ev3.bind (Ev3.of (mxPart_ev h hn hc)) (Ev3.bind (hsub c hc) ?_)
    cases hdo:detO n (partV m 0 c)with
    | none =>
     rw [hdo]at ht
     rw [ht]
     exact Ev3.ctrue rfl .pure
    | some dv =>
     rw [hdo]at ht
     have gdv:=detO_gd n _ _ (sq_part h (by omega) hc) hdo
     refine Ev3.cfalse rfl (Ev3.bind (Ev3.of (dyMul_ev ga gdv)) ?_)
     refine Ev3.inr (y:=(m,z,s,ngD c (prodD (row.getD c (0,0)) dv).1,(prodD (row.getD c (0,0)) dv).2,row,(row.length:Int),(c:Int),())) ?_ ?_
     ·rw [tmod_odd]
      unfold ngD
      by_cases hodd:c % 2=1
      ·rw [if_pos hodd]
       exact Ev3.ctrue (decide_eq_true hodd) (Ev3.bind (.const (dyMinus_eq (prodD_gd _ _))) .pure)
      ·rw [if_neg hodd]
       exact Ev3.cfalse (decide_eq_false hodd) .pure
     ·refine Ev3.bind (Ev3.of (dyAdd_ev hs (ngD_gd (prodD_gd _ _)))) ?_
      rw [ht]
      unfold tmO
      simp only
      cases hp:(prodD (row.getD c (0,0)) dv).2 with
      | false=>exact Ev3.ctrue rfl .pure
      | true =>
       refine Ev3.cfalse rfl ?_
       simp only [if_true,sumO]
       cases hsm:(sumD s (ngD c (prodD (row.getD c (0,0)) dv).1)).2 with
       | false=>exact Ev3.ctrue rfl .pure
       | true=>exact Ev3.cfalse rfl (ih _ (sumD_gd _ _))
  have h0:=(key (terms n m) [] (0,0) (0,0) rfl (by decide)).diag
  simp only [List.length_nil]at h0
  have hdet:detO (n+1) m=sumO (0,0) (terms n m):=by
   rw [sumO_eq];rfl
  rw [hdet]
  cases hs:sumO (0,0) (terms n m)with
  | none=>rw [hs]at h0;exact Evt.inl h0 .pure
  | some t=>rw [hs]at h0;exact Evt.inr h0 .pure

theorem prod_flag{c:Bool}{od:Option (Int×Int)}{v a:Int×Int}{j:Nat}(hv:c=true→od.isSome=true→od=some v):(if (c&&od.isSome)then prodD a v else((0,0),false)).2=(c&&(tmO j a od).isSome):=by
 cases c with
 | false=>rfl
 | true =>
  cases od with
  | none=>rfl
  | some dv =>
   have:=hv rfl rfl
   cases this
   simp only [Bool.true_and,Option.isSome_some,if_true,tmO]
   cases (prodD a v).2 <;> rfl
theorem prod_val{od:Option (Int×Int)}{v a:Int×Int}{j:Nat}(hv:od.isSome=true→od=some v)(hs:(tmO j a od).isSome=true):tmO j a od=some (ngD j (if (true&&od.isSome)then prodD a v else((0,0),false)).1):=by
 cases od with
 | none=>cases hs
 | some dv =>
  have:=hv rfl
  cases this
  simp only [tmO,Bool.true_and,Option.isSome_some,if_true]at hs ⊢
  split
  ·rfl
  ·rename_i hn2;rw [if_neg hn2]at hs;cases hs

theorem fsum_fail{c:Bool}{x:Int×Int}{xs:Pt}(hx:xs ≠ [])(h:(fsum c x xs).2=false):(fsum c x xs).1=(0,0):=by
 cases c with
 | false =>
  cases xs with
  | nil=>exact absurd rfl hx
  | cons y ys=>rw [fsum,fsum_false0]
 | true =>
  rw [fsum_true]at h ⊢
  cases ho:osum x xs with
  | none=>rfl
  | some t=>rw [ho]at h;cases h

theorem det_ev:∀(n:Nat) (m:List Pt),n≤2→sq gd (n+1) m→∀b:Bool,∃v,(gd v∧(1≤n→(b&&(detO n m).isSome)=false→v=(0,0)))∧(b=true→(detO n m).isSome=true→detO n m=some v)∧Evt (fun k q=>impl_reckoner_determinant_R k q b m) (v,b&&(detO n m).isSome)
 | 0,m,_,h,b=>by
  obtain⟨h1,h2⟩:=h
  match m,h1 with
  | [r],_ =>
   obtain⟨h3,h4⟩:=h2 r (by simp)
   match r,h3 with
   | [x],_=>exact⟨x,⟨h4 x (by simp),fun h=>absurd h (by omega)⟩,fun _ _=>rfl,Evt.step (fun k q=>(rfl:impl_reckoner_determinant_R k (q+1) b [[x]]=some (x,b))) (.const (by simp [detO]))⟩
 | n+1,m,hn,h,b=>by
  have hm:=h.1
  have hrow:(m.getD 0 []).length=n+2∧∀x∈m.getD 0 [],gd x:=by
   match m,hm with
   | r::_,_=>exact h.2 r (by simp)
  generalize hrw:m.getD 0 []=row at hrow
  have key:∀(r d:List (Option (Int×Int))) (c:Bool) (z:Int×Int) (o:Pt),d++r=terms n m→(∀y∈o,gd y)→Flag (fun t=>t) (0,0) b d c o →
    ∃c' o',Flag (fun t=>t) (0,0) b (terms n m) c' o'∧(∀y∈o',gd y)∧Ev3 (fun k q f=>impl_reckoner_determinant_L122 k (impl_reckoner_determinant_R k q) f c m z o row (row.length:Int) d.length) (.inr (c',z,o',())):=by
   intro r
   induction r with
   | nil =>
    intro d c z o hd ho hf
    rw [List.append_nil]at hd
    have hdl:d.length=n+2:=by rw [hd];simp [terms]
    rw [hd]at hf
    exact⟨c,o,hf,ho,Ev3.step (fun k q f=>impl_reckoner_determinant_L122.eq_2 k _ _ _ _ _ _ _ _ f) (Ev3.cfalse (decide_eq_false (by omega)) .pure)⟩
   | cons t r ih =>
    intro d c z o hd ho hf
    obtain⟨ht,hc⟩:=terms_get hd rfl
    rw [hrw]at ht
    generalize hcd:d.length=j at ht hc
    obtain⟨v,⟨gv,_⟩,hv,hev⟩:=det_ev n (partV m 0 j) (by omega) (sq_part h (by omega) hc) c
    have ga:gd (row.getD j (0,0)):=hrow.2 _ (getD_mem (by omega))
    let c2:=c&&(detO n (partV m 0 j)).isSome
    let p:=if c2 then prodD (row.getD j (0,0)) v else((0,0),false)
    have hp:Evt (fun k _=>impl_reckoner_product k c2 (row.getD j (0,0)) v) p:=reckoner_product_ev ga gv
    have gp:gd p.1:=by simp only [p];split;exact prodD_gd _ _;decide
    have hp2:p.2=(c&&t.isSome):=by rw [ht];exact prod_flag hv
    have hst:=Flag.step (e:=t) (v:=ngD j p.1) hf (by
     intro hcb hs
     rw [ht]at hs ⊢
     subst hcb
     exact prod_val (hv rfl) hs)
    rw [←hp2]at hst
    obtain⟨c',o',q1,q2,q3⟩:=ih (d ++ [t]) p.2 z (o ++ [ngD j p.1]) (by simpa using hd) (by
     intro y hy
     rcases List.mem_append.1 hy with hy | hy
     ·exact ho y hy
     ·simp at hy;subst hy;exact ngD_gd gp) hst
    refine⟨c',o',q1,q2,Ev3.step (fun k q f=>impl_reckoner_determinant_L122.eq_2 k _ _ _ _ _ _ _ _ f) ?_⟩
    have hnx:IntKind.wrap .i64 ((j:Int)+1)=((d ++ [t]).length:Int):=by rw [w64_next (by simp only [lenB];omega)];simp;omega
    rw [←hnx]at q3
    refine Ev3.ctrue (decide_eq_true (by omega)) (Ev3.ctrue mid_ge (Ev3.ctrue (decide_eq_true (by omega)) ?_))
    rw [Int.toNat_natCast]
    refine Ev3.bind (Ev3.of (impl_part_ev h hn hc)) (Ev3.bind (Ev3.rec hev) (Ev3.bind (Ev3.of hp) ?_))
    refine Ev3.inr (y:=(p.2,m,z,o,ngD j p.1,row,(row.length:Int),(j:Int),())) ?_ ?_
    ·rw [tmod_odd]
     unfold ngD
     by_cases hodd:j % 2=1
     ·rw [if_pos hodd]
      exact Ev3.ctrue (decide_eq_true hodd) (Ev3.bind (.const (minus_eq gp)) .pure)
     ·rw [if_neg hodd]
      exact Ev3.cfalse (decide_eq_false hodd) .pure
    ·have hol:=hf.1
     exact Ev3.ctrue (by simp;omega) q3
  obtain⟨c',o',⟨f1,f2,f3⟩,q2,q3⟩:=key (terms n m) [] b (0,0) [] rfl (by simp) Flag.nil
  have q3:=q3.diag
  simp only [List.length_nil]at q3
  have hol:o'.length=n+2:=by rw [f1];simp [terms]
  obtain⟨x,xs,rfl⟩:∃x y,o'=x::y:=by cases o' with
   | nil=>simp at hol
   | cons x y=>exact⟨x,y,rfl⟩
  have gx:=q2 x (by simp)
  have hdet:detO (n+1) m=if (terms n m).all (·.isSome)then osum (0,0) ((terms n m).map fun o=>o.getD (0,0))else none:=rfl
  have hsn:(fsum c' x xs).2=(b&&(detO (n+1) m).isSome):=by
   rw [hdet]
   cases c' with
   | false =>
    rw [fsum_false]
    cases b with
    | false=>rfl
    | true =>
     rw [Bool.true_and]at f2 ⊢
     rw [if_neg (by rw [←f2];simp)]
     rfl
   | true =>
    have hh:=f2.symm
    rw [Bool.and_eq_true]at hh
    rw [hh.1,if_pos hh.2,Bool.true_and,←f3 rfl,osum,sumD_zero gx,if_pos rfl,fsum_true]
    cases osum x xs <;> rfl
  refine⟨(fsum c' x xs).1,⟨fsum_gd _ _ _ gx,fun _ hf=>fsum_fail (by rintro rfl;simp at hol) (by rw [hsn];exact hf)⟩,?_,?_⟩
  ·intro hb hs
   subst hb
   rw [hdet]at hs ⊢
   split at hs
   ·rename_i hall
    rw [if_pos hall]
    have hc:c'=true:=by rw [f2,hall];rfl
    subst hc
    rw [←f3 rfl]at hs ⊢
    rw [osum,sumD_zero gx,if_pos rfl]at hs ⊢
    rw [fsum_true]
    cases ho:osum x xs with
    | none=>rw [ho]at hs;cases hs
    | some t=>rfl
   ·cases hs
  ·refine Evt.step (F:=fun k q=>impl_reckoner_determinant_B k (impl_reckoner_determinant_R k q) b m) (fun k q=>rfl) ?_
   refine Evt.eq (f:=fun k q=>_) ?_ (fun k q=>by rw [impl_reckoner_determinant_B])
   refine Evt.cfalse (by rw [hm];simp;omega) (Evt.ctrue (by rw [hm];simp;omega) ?_)
   rw [hrw]
   refine Evt.inr q3 (Evt.bind (total_ev gx (fun y hy=>q2 y (by simp [hy])) (by simp at hol;simp only [lenB];omega)) (.const ?_))
   rw [←hsn]
end Go.Ev.G

namespace Go.Ev.G
open Go Go.Ev
set_option maxRecDepth 100000

def dtV(m:List Pt):(Int×Int)×Bool:=if tab gd m then oV (detO (m.length - 1) m)else((0,0),false)

theorem spec_det_ev{m:List Pt}{n:Nat}(hn:n≤2)(h:sq gd (n+1) m):Evt (fun k _=>spec_mxDet k m) (oV (detO n m)) :=
 Evt.eq (Evt.diag (mxDet_ev n m hn h)) (fun k q=>by rw [spec_mxDet])
theorem impl_det_ev{m:List Pt}{n:Nat}(hn:n≤2)(h:sq gd (n+1) m)(b:Bool):∃v,(gd v∧(1≤n→(b&&(detO n m).isSome)=false→v=(0,0)))∧(b=true→(detO n m).isSome=true→detO n m=some v)∧Evt (fun k _=>impl_reckoner_determinant k b m) (v,b&&(detO n m).isSome):=by
 obtain⟨v,h1,h2,h3⟩:=det_ev n m hn h b
 exact⟨v,h1,h2,Evt.eq (Evt.diag h3) (fun k q=>by rw [impl_reckoner_determinant])⟩

def adjT(n:Nat)(m:List Pt)(i:Nat):List (Option (Int×Int)):=(List.range (n+2)).map fun k=>(detO n (partV m k i)).map (ngD (i+k))
theorem adjT_get{n i c:Nat}{m:List Pt}{d r:List (Option (Int×Int))}{t:Option (Int×Int)}(h:d++t::r=adjT n m i)(hc:d.length=c):t=(detO n (partV m c i)).map (ngD (i+c))∧c≤n+1:=by
 have hl:=congrArg List.length h
 simp [adjT]at hl
 have h2:(d++t::r)[d.length]? = some t:=by simp
 rw [h,adjT,List.getElem?_map,List.getElem?_range (by omega)]at h2
 simp only [Option.map_some,Option.some.injEq]at h2
 rw [←hc]
 exact⟨h2.symm,by omega⟩
def adjRow(n:Nat)(m:List Pt)(i:Nat):Option Pt:=if (adjT n m i).all (·.isSome)then some ((adjT n m i).map fun o=>o.getD (0,0))else none
def adjV(n:Nat)(m:List Pt):List Pt×Bool:=if ((List.range (n+2)).all fun i=>(adjRow n m i).isSome)then((List.range (n+2)).map fun i=>(adjRow n m i).getD [],true)else([],false)

theorem rng_at{N:Nat}{d r:List Nat}{e:Nat}(h:d++e::r=List.range N):e=d.length∧d.length<N:=by
 have hl:=congrArg List.length h
 simp at hl
 have h2:(d++e::r)[d.length]? = some e:=by simp
 rw [h,List.getElem?_range (by omega)]at h2
 cases h2
 exact⟨rfl,by omega⟩

theorem spec_adjoint_ev{n:Nat}{m:List Pt}(hn:n+1≤2)(h:sq gd (n+2) m):Evt (fun k _=>spec_mxAdjoint k m) (adjV n m):=by
 refine Evt.eq (f:=fun k q=>_) ?_ (fun k q=>by rw [spec_mxAdjoint])
 have hm:=h.1
 refine Evt.cfalse (by rw [hm];simp;omega) ?_
 have inner:∀(x4:List Pt) (i:Nat) (x17 x18:Int),i≤n+1→∀(r d:List (Option (Int×Int))),d++r=adjT n m i →
   Evt (fun k q=>spec_mxAdjoint_L125338 k q m x4 (i:Int) (d.map fun o=>o.getD (0,0)) x17 x18 (m.length:Int) d.length) (if (r.all (·.isSome))then .inr (m,x4,(adjT n m i).map fun o=>o.getD (0,0),x17,x18,())else .inl ([],false)):=by
  intro x4 i x17 x18 hi r
  induction r with
  | nil =>
   intro d hd
   refine Evt.step (fun k q=>spec_mxAdjoint_L125338.eq_2 k _ _ _ _ _ _ _ _ q) ?_
   rw [List.append_nil]at hd
   have:d.length=n+2:=by rw [hd];simp [adjT]
   rw [hd]
   refine Evt.cfalse (decide_eq_false (by rw [←hd];omega)) .pure
  | cons t r ih =>
   intro d hd
   obtain⟨ht,hc⟩:=adjT_get hd rfl
   refine Evt.step (fun k q=>spec_mxAdjoint_L125338.eq_2 k _ _ _ _ _ _ _ _ q) (Evt.ctrue (decide_eq_true (by omega)) ?_)
   have ih:=ih (d ++ [t]) (by simpa using hd)
   generalize hcd:d.length=c at ht hc ⊢
   have hnx:IntKind.wrap .i64 ((c:Int)+1)=((d ++ [t]).length:Int):=by rw [w64_next (by simp only [lenB];omega)];simp;omega
   rw [←hnx]at ih
   refine Evt.bind (mxPart_ev h hn hi) (Evt.bind (spec_det_ev (by omega) (sq_part h hc hi)) ?_)
   cases hdo:detO n (partV m c i)with
   | none =>
    rw [hdo]at ht
    simp only [List.all_cons,ht,Option.map_none,Option.isSome_none,Bool.false_and]
    exact Evt.ctrue rfl .pure
   | some dv =>
    rw [hdo]at ht
    have gdv:=detO_gd n _ _ (sq_part h hc hi) hdo
    refine Evt.cfalse rfl ?_
    refine Evt.inr (y:=(m,x4,(i:Int),d.map fun o=>o.getD (0,0),ngD (i+c) dv,x17,x18,(m.length:Int),(c:Int),())) ?_ ?_
    ·have e:IntKind.wrap .i64 ((i:Int)+(c:Int))=((i+c:Nat):Int):=by rw [w64 (by omega) (by omega)];omega
     rw [e,tmod_odd]
     unfold ngD
     by_cases hodd:(i+c) % 2=1
     ·rw [if_pos hodd]
      exact Evt.ctrue (decide_eq_true hodd) (Evt.bind (.const (dyMinus_eq gdv)) .pure)
     ·rw [if_neg hodd]
      exact Evt.cfalse (decide_eq_false hodd) .pure
    ·rw [List.map_append]at ih
     simp only [List.all_cons,ht,Option.map_some,Option.isSome_some,Bool.true_and]
     rw [ht]at ih
     exact Evt.ctrue (by simp;omega) ih
 have key:∀(r d:List Nat),d++r=List.range (n+2)→Evt (fun k q=>spec_mxAdjoint_L122 k q m (d.map fun i=>(adjRow n m i).getD []) (m.length:Int) d.length) (if (r.all fun i=>(adjRow n m i).isSome)then .inr ((List.range (n+2)).map fun i=>(adjRow n m i).getD [],())else .inl ([],false)):=by
  intro r
  induction r with
  | nil =>
   intro d hd
   refine Evt.step (fun k q=>spec_mxAdjoint_L122.eq_2 k _ _ _ _ q) ?_
   rw [List.append_nil]at hd
   have:d.length=n+2:=by rw [hd];simp
   rw [hd]
   exact Evt.cfalse (decide_eq_false (by rw [←hd];omega)) .pure
  | cons e r ih =>
   intro d hd
   obtain⟨he,hlt⟩:=rng_at hd
   refine Evt.step (fun k q=>spec_mxAdjoint_L122.eq_2 k _ _ _ _ q) (Evt.ctrue (decide_eq_true (by omega)) ?_)
   have ih:=ih (d ++ [e]) (by simpa using hd)
   have hnx:IntKind.wrap .i64 ((d.length:Int)+1)=((d ++ [e]).length:Int):=by rw [w64_next (by simp only [lenB];omega)];simp
   rw [←hnx]at ih
   have hi:=inner (d.map fun i=>(adjRow n m i).getD []) d.length (m.length:Int) (d.length:Int) (by omega) (adjT n m d.length) [] rfl
   simp only [List.length_nil,List.map_nil]at hi
   rw [List.map_append,List.map_cons]at ih
   rw [he]at ih ⊢
   cases hall:(adjT n m d.length).all (·.isSome)with
   | false =>
    rw [hall]at hi
    have hr:adjRow n m d.length=none:=by unfold adjRow;rw [hall];rfl
    simp only [List.all_cons,hr,Option.isSome_none,Bool.false_and]
    exact Evt.inl (Evt.diag hi) .pure
   | true =>
    rw [hall]at hi
    have hr:adjRow n m d.length=some ((adjT n m d.length).map fun o=>o.getD (0,0)):=by unfold adjRow;rw [hall];rfl
    rw [hr]at ih
    simp only [List.all_cons,hr,Option.isSome_some,Bool.true_and]
    exact Evt.inr (Evt.diag hi) (Evt.ctrue (by simp;omega) ih)
 have h0:=key (List.range (n+2)) [] rfl
 simp only [List.length_nil,List.map_nil]at h0
 unfold adjV
 cases hall:(List.range (n+2)).all fun i=>(adjRow n m i).isSome with
 | true=>rw [hall]at h0;exact Evt.inr (Evt.diag h0) .pure
 | false=>rw [hall]at h0;exact Evt.inl (Evt.diag h0) .pure

theorem impl_adjoint_ev{n:Nat}{m:List Pt}(hn:n+1≤2)(h:sq gd (n+2) m):Evt (fun k _=>impl_adjoint k m) (adjV n m):=by
 refine Evt.eq (f:=fun k q=>_) ?_ (fun k q=>by rw [impl_adjoint])
 have hm:=h.1
 refine Evt.cfalse (by rw [hm];simp;omega) ?_
 have inner:∀(x5:List Pt) (i:Nat) (x19 x20:Int),i≤n+1→∀(b0:Bool) (r d:List (Option (Int×Int))) (c:Bool) (o:Pt),d++r=adjT n m i→Flag (fun t=>t) (0,0) b0 d c o →
   ∃c' o',Flag (fun t=>t) (0,0) b0 (adjT n m i) c' o'∧Evt (fun k q=>impl_adjoint_L256410 k q m c x5 (i:Int) o x19 x20 (m.length:Int) d.length) (.inr (m,c',x5,o',x19,x20,())):=by
  intro x5 i x19 x20 hi b0 r
  induction r with
  | nil =>
   intro d c o hd hf
   rw [List.append_nil]at hd
   have hdl:d.length=n+2:=by rw [hd];simp [adjT]
   rw [hd]at hf
   exact⟨c,o,hf,Evt.step (fun k q=>impl_adjoint_L256410.eq_2 k _ _ _ _ _ _ _ _ _ q) (Evt.cfalse (decide_eq_false (by omega)) .pure)⟩
  | cons t r ih =>
   intro d c o hd hf
   obtain⟨ht,hc⟩:=adjT_get hd rfl
   generalize hcd:d.length=j at ht hc
   obtain⟨v,⟨gv,_⟩,hv,hev⟩:=impl_det_ev (n:=n) (by omega) (sq_part h hc hi) c
   have hst:=Flag.step (e:=t) (v:=ngD (i+j) v) hf (by
    intro hcb hs
    rw [ht]at hs ⊢
    cases hdo:detO n (partV m j i)with
    | none=>rw [hdo]at hs;cases hs
    | some dv =>
     have:=hv hcb (by rw [hdo];rfl)
     rw [hdo]at this
     cases this
     rfl)
   have hts:t.isSome=(detO n (partV m j i)).isSome:=by rw [ht];simp
   rw [hts]at hst
   obtain⟨c',o',q1,q3⟩:=ih (d ++ [t]) _ _ (by simpa using hd) hst
   refine⟨c',o',q1,Evt.step (fun k q=>impl_adjoint_L256410.eq_2 k _ _ _ _ _ _ _ _ _ q) (Evt.ctrue (decide_eq_true (by omega)) ?_)⟩
   have hnx:IntKind.wrap .i64 ((j:Int)+1)=((d ++ [t]).length:Int):=by rw [w64_next (by simp only [lenB];omega)];simp;omega
   rw [←hnx]at q3
   refine Evt.bind (impl_part_ev h hn hi) (Evt.bind hev ?_)
   refine Evt.inr (y:=(m,(c&&(detO n (partV m j i)).isSome),x5,(i:Int),o,ngD (i+j) v,x19,x20,(m.length:Int),(j:Int),())) ?_ ?_
   ·have e:IntKind.wrap .i64 ((i:Int)+(j:Int))=((i+j:Nat):Int):=by rw [w64 (by omega) (by omega)];omega
    rw [e,tmod_odd]
    unfold ngD
    by_cases hodd:(i+j) % 2=1
    ·rw [if_pos hodd]
     exact Evt.ctrue (decide_eq_true hodd) (Evt.bind (.const (minus_eq gv)) .pure)
    ·rw [if_neg hodd]
     exact Evt.cfalse (decide_eq_false hodd) .pure
   ·have hol:=hf.1
    exact Evt.ctrue (by simp;omega) q3
 have key:∀(r d:List Nat) (c:Bool) (o:List Pt),d++r=List.range (n+2)→Flag (adjRow n m) [] true d c o →
   ∃c' o',Flag (adjRow n m) [] true (List.range (n+2)) c' o'∧Evt (fun k q=>impl_adjoint_L250 k q m c o (m.length:Int) d.length) (.inr (c',o',())):=by
  intro r
  induction r with
  | nil =>
   intro d c o hd hf
   rw [List.append_nil]at hd
   have hdl:d.length=n+2:=by rw [hd];simp
   rw [hd]at hf
   exact⟨c,o,hf,Evt.step (fun k q=>impl_adjoint_L250.eq_2 k _ _ _ _ _ q) (Evt.cfalse (decide_eq_false (by omega)) .pure)⟩
  | cons e r ih =>
   intro d c o hd hf
   obtain⟨he,hlt⟩:=rng_at hd
   obtain⟨c1,o1,⟨f1,f2,f3⟩,q0⟩:=inner o d.length (m.length:Int) (d.length:Int) (by omega) c (adjT n m d.length) [] c [] rfl Flag.nil
   simp only [List.length_nil]at q0
   have hst:=Flag.step (e:=e) (v:=o1) hf (by
    intro hc hs
    subst hc
    rw [he]at hs ⊢
    unfold adjRow at hs ⊢
    split at hs
    ·rename_i hall
     rw [if_pos hall,←f3 (by rw [f2,hall];rfl)]
    ·cases hs)
   have e2:(c&&(adjRow n m e).isSome)=c1:=by
    rw [f2,he]
    unfold adjRow
    cases (adjT n m d.length).all (·.isSome) <;> rfl
   rw [e2]at hst
   obtain⟨c',o',q1,q2⟩:=ih (d ++ [e]) c1 (o ++ [o1]) (by simpa using hd) hst
   refine⟨c',o',q1,Evt.step (fun k q=>impl_adjoint_L250.eq_2 k _ _ _ _ _ q) (Evt.ctrue (decide_eq_true (by omega)) ?_)⟩
   have hnx:IntKind.wrap .i64 ((d.length:Int)+1)=((d ++ [e]).length:Int):=by rw [w64_next (by simp only [lenB];omega)];simp
   rw [←hnx]at q2
   have hol:=hf.1
   exact Evt.inr (Evt.diag q0) (Evt.ctrue (by simp;omega) q2)
 obtain⟨c',o',⟨f1,f2,f3⟩,q2⟩:=key (List.range (n+2)) [] true [] rfl Flag.nil
 rw [Bool.true_and]at f2
 simp only [List.length_nil]at q2
 refine Evt.inr (Evt.diag q2) ?_
 unfold adjV
 rw [←f2]
 cases c' with
 | true=>rw [←f3 rfl];exact Evt.cfalse rfl .pure
 | false=>exact Evt.ctrue rfl .pure

end Go.Ev.G

namespace Go.Ev.G
open Go Go.Ev
set_option maxRecDepth 100000

abbrev Iv:=(Int×Int)×Int×Int
def gdI(x:Iv):Prop:=gd x.1∧gd x.2

theorem sv_inj{a b:Int×Int}(ha:gd a)(hb:gd b)(h:sv a=sv b):a=b:=by
 have key:∀ {n m:Int} {j i:Nat},j<i→i≤24→(i=0∨m % 2≠0)→n*2 ^ (24 - j)=m*2 ^ (24 - i)→False:=by
  intro n m j i hji hi hodd e
  have e1:(24 - j)=(i - j)+(24 - i):=by omega
  rw [e1,Int.pow_add,←Int.mul_assoc]at e
  have hp:(2:Int) ^ (24 - i)≠0:=Int.ne_of_gt (Int.pow_pos (by omega))
  have e2:=Int.eq_of_mul_eq_mul_right hp e
  have e3:i - j=(i - j - 1)+1:=by omega
  rw [e3,Int.pow_succ,←Int.mul_assoc]at e2
  omega
 obtain⟨n,j,rfl,hj,_,_,hn⟩:=gd_nat ha
 obtain⟨m,i,rfl,hi,_,_,hm⟩:=gd_nat hb
 unfold sv at h
 simp only [Int.toNat_natCast]at h
 rcases Nat.lt_trichotomy j i with hlt | rfl | hlt
 ·exact(key hlt hi hm h).elim
 ·have hp:(2:Int) ^ (24 - j)≠0:=Int.ne_of_gt (Int.pow_pos (by omega))
  rw [Int.eq_of_mul_eq_mul_right hp h]
 ·exact(key hlt hj hn h.symm).elim

def minD(a b:Int×Int):Int×Int:=if sv b<sv a then b else a
def maxD(a b:Int×Int):Int×Int:=if sv a<sv b then b else a
theorem minD_gd{a b:Int×Int}(ha:gd a)(hb:gd b):gd (minD a b):=by unfold minD;split;exact hb;exact ha
theorem maxD_gd{a b:Int×Int}(ha:gd a)(hb:gd b):gd (maxD a b):=by unfold maxD;split;exact hb;exact ha
theorem minD_sv(a b:Int×Int):sv (minD a b)=min (sv a) (sv b):=by unfold minD;split <;> omega
theorem maxD_sv(a b:Int×Int):sv (maxD a b)=max (sv a) (sv b):=by unfold maxD;split <;> omega
theorem lesser_ev{a b:Int×Int}(ha:gd a)(hb:gd b):Evt (fun k _=>impl_lesser k a b) (minD a b):=by
 refine Evt.eq (f:=fun k q=>_) ?_ (fun k q=>by rw [impl_lesser])
 refine Evt.bind (compareD_ev hb ha) ?_
 rw [cmpI_lt]
 unfold minD
 by_cases h:sv b<sv a
 ·rw [if_pos h];exact Evt.ctrue (decide_eq_true h) .pure
 ·rw [if_neg h];exact Evt.cfalse (decide_eq_false h) .pure
theorem greater_ev2{a b:Int×Int}(ha:gd a)(hb:gd b):Evt (fun k _=>impl_greater k a b) (maxD a b):=greater_ev ha hb

def rdD(p:Nat)(a:Int×Int):Int×Int:=if a.2≤p then a else(mkD (a.1 / ((2 ^ (a.2.toNat - p):Nat):Int)) p).1
theorem rdD_gd{p:Nat}{a:Int×Int}(h:gd a):gd (rdD p a):=by
 unfold rdD
 split
 ·exact h
 ·exact mkD_gd _ _
theorem div_bound{n:Int}{q:Nat}(hq:0<q)(h1 : -1099511627776≤n)(h2:n≤1099511627776) : -1099511627776≤n / (q:Int)∧n / (q:Int)≤1099511627776:=by
 constructor
 ·exact(Int.le_ediv_iff_mul_le (by omega)).2 (by
   have:(1099511627776:Int)*1≤1099511627776*q:=Int.mul_le_mul_of_nonneg_left (by omega) (by omega)
   rw [Int.neg_mul];omega)
 ·have h:=Int.ediv_le_ediv (a:=n) (b:=1099511627776) (c:=(q:Int)) (by omega) h2
  have h3:(1099511627776:Int) / (q:Int)≤1099511627776:=Int.ediv_le_self _ (by omega)
  omega
theorem dyRound_ev{p:Nat}{a:Int×Int}(ha:gd a)(hp:p≤24):Evt (fun k _=>spec_dyRound k a p) (rdD p a):=by
 refine Evt.eq (f:=fun k q=>_) ?_ (fun k q=>by rw [spec_dyRound])
 obtain⟨n,j,rfl,hj,h1,h2,hn⟩:=gd_nat ha
 unfold rdD
 simp only [Int.toNat_natCast]
 by_cases h:j≤p
 ·rw [if_pos (by omega)];exact Evt.ctrue (decide_eq_true (by omega)) .pure
 ·rw [if_neg (by omega)]
  refine Evt.cfalse (decide_eq_false (by omega)) ?_
  have e:IntKind.wrap .i64 ((j:Int) - (p:Int))=((j - p:Nat):Int):=by rw [w64 (by omega) (by omega)];omega
  rw [e]
  have hq:0<2 ^ (j - p):=Nat.pow_pos (by omega)
  have hb:=div_bound hq h1 h2
  exact Evt.bind (.const (dyPower_eq (by omega))) (Evt.bind (.const (dyDown_eq hq (by omega) (by omega))) (Evt.bind (dyMake_ev (by omega) (by omega) (by omega)) .pure))
theorem roundDown_ev{p:Nat}{a:Int×Int}(ha:gd a)(hp:p≤24):Evt (fun k _=>impl_roundDown k a p) (rdD p a):=by
 refine Evt.eq (f:=fun k q=>_) ?_ (fun k q=>by rw [impl_roundDown])
 obtain⟨n,j,rfl,hj,h1,h2,hn⟩:=gd_nat ha
 unfold rdD
 simp only [Int.toNat_natCast]
 by_cases h:j≤p
 ·rw [if_pos (by omega)];exact Evt.ctrue (decide_eq_true (by omega)) .pure
 ·rw [if_neg (by omega)]
  refine Evt.cfalse (decide_eq_false (by omega)) ?_
  have e:IntKind.wrap .i64 ((j:Int) - (p:Int))=((j - p:Nat):Int):=by rw [w64 (by omega) (by omega)];omega
  rw [e]
  have hq:0<2 ^ (j - p):=Nat.pow_pos (by omega)
  have hb:=div_bound hq h1 h2
  refine Evt.cfalse (decide_eq_false (by omega)) ?_
  have e2:Int.fdiv n (2 ^ min (Int.toNat ((j - p:Nat):Int)) (IntKind.bits .i64))=n / ((2 ^ (j - p):Nat):Int):=by
   rw [min64 (by omega)]
   have:(2:Int) ^ (j - p)=((2 ^ (j - p):Nat):Int):=by simp
   rw [this]
   exact Int.fdiv_eq_ediv_of_nonneg _ (by omega)
  rw [e2]
  exact Evt.bind (.const (wideOf_eq (by omega) (by omega))) (Evt.bind (fitD_ev (by omega) (by omega) (by omega)) .pure)

def ng(a:Int×Int):Int×Int:=(-a.1,a.2)
def rdI(p:Nat)(x:Iv):Iv:=(rdD p x.1,ng (rdD p (ng x.2)))
theorem rdI_gd{p:Nat}{x:Iv}(h:gdI x):gdI (rdI p x):=⟨rdD_gd h.1,gd_neg (rdD_gd (gd_neg h.2))⟩
theorem ivRound_ev{p:Nat}{x:Iv}(h:gdI x)(hp:p≤24):Evt (fun k _=>spec_ivRound k x p) (rdI p x):=by
 refine Evt.eq (f:=fun k q=>_) ?_ (fun k q=>by rw [spec_ivRound])
 have up:Evt (fun k _=>spec_ivUp k x.2 p) (ng (rdD p (ng x.2))):=by
  refine Evt.eq (f:=fun k q=>_) ?_ (fun k q=>by rw [spec_ivUp])
  exact Evt.bind (.const (dyMinus_eq h.2)) (Evt.bind (dyRound_ev (gd_neg h.2) hp) (Evt.bind (.const (dyMinus_eq (rdD_gd (gd_neg h.2)))) .pure))
 exact Evt.bind (dyRound_ev h.1 hp) (Evt.bind up .pure)
theorem roundOut_ev{p:Nat}{x:Iv}(h:gdI x)(hp:p≤24):Evt (fun k _=>impl_roundOut k x p) (rdI p x):=by
 refine Evt.eq (f:=fun k q=>_) ?_ (fun k q=>by rw [impl_roundOut])
 exact Evt.bind (roundDown_ev h.1 hp) (Evt.bind (.const (minus_eq h.2)) (Evt.bind (roundDown_ev (gd_neg h.2) hp) (Evt.bind (.const (minus_eq (rdD_gd (gd_neg h.2)))) .pure)))

def ends4(a b c d:Int×Int):Iv:=(minD (minD a b) (minD c d),maxD (maxD a b) (maxD c d))
theorem ends4_gd{a b c d:Int×Int}(ha:gd a)(hb:gd b)(hc:gd c)(hd:gd d):gdI (ends4 a b c d):=⟨minD_gd (minD_gd ha hb) (minD_gd hc hd),maxD_gd (maxD_gd ha hb) (maxD_gd hc hd)⟩
def foldE:Iv→List (Int×Int)→Iv
 | s,[]=>s
 | s,x::r=>foldE (minD s.1 x,maxD s.2 x) r
theorem ivEnds_ev{x:Int×Int}{xs:Pt}(hx:∀y∈x::xs,gd y)(hb:(x::xs).length<lenB):Evt (fun k _=>spec_ivEnds k (x::xs)) (foldE (x,x) (x::xs)):=by
 refine Evt.eq (f:=fun k q=>_) ?_ (fun k q=>by rw [spec_ivEnds])
 have key:∀(r d:Pt) (s z:Iv),d++r=x::xs→gdI s→Evt (fun k n=>spec_ivEnds_L58 k n z s (x::xs) ((x::xs).length:Int) d.length) (.inr (z,foldE s r,())):=by
  intro r
  induction r with
  | nil =>
   intro d s z h hs
   refine Evt.step (fun k n=>spec_ivEnds_L58.eq_2 k _ _ _ _ _ n) ?_
   rw [List.append_nil]at h
   rw [←h]
   exact Evt.rng0 .pure
  | cons e r ih =>
   intro d s z h hs
   have ge:gd e:=hx e (by rw [←h];simp)
   refine Evt.step (fun k n=>spec_ivEnds_L58.eq_2 k _ _ _ _ _ n) ?_
   have ih:=ih (d ++ [e]) (minD s.1 e,maxD s.2 e) z (by simpa using h) ⟨minD_gd hs.1 ge,maxD_gd hs.2 ge⟩
   rw [←len_next (r:=r) (by rw [h];exact hb)]at ih
   rw [←h]at ih ⊢
   refine Evt.ctrue mid_lt (Evt.ctrue mid_ge (Evt.ctrue mid_lt ?_))
   rw [mid_get]
   refine Evt.inr (y:=(z,(minD s.1 e,s.2),e,d++e::r,((d++e::r).length:Int),(d.length:Int),())) ?_ ?_
   ·refine Evt.bind (dyCmp_ev ge hs.1) ?_
    rw [cmpI_lt]
    unfold minD
    by_cases hh:sv e<sv s.1
    ·rw [if_pos hh];exact Evt.ctrue (decide_eq_true hh) .pure
    ·rw [if_neg hh];exact Evt.cfalse (decide_eq_false hh) .pure
   ·refine Evt.bind (dyCmp_ev hs.2 ge) ?_
    rw [cmpI_lt]
    rw [show foldE s (e::r)=foldE (minD s.1 e,maxD s.2 e) r from rfl]
    by_cases hh:sv s.2<sv e
    ·have hmx:maxD s.2 e=e:=if_pos hh
     rw [hmx]at ih ⊢; exact Evt.ctrue (decide_eq_true hh) ih
    ·have hmx:maxD s.2 e=s.2:=if_neg hh
     rw [hmx]at ih ⊢; exact Evt.cfalse (decide_eq_false hh) ih
 have gx:=hx x (by simp)
 refine Evt.ctrue (by simp <;> omega) (Evt.ctrue (by simp <;> omega) ?_)
 exact Evt.inr (Evt.diag (key (x::xs) [] (x,x) ((0,0),0,0) rfl ⟨gx,gx⟩)) .pure
theorem fold4{a b c d:Int×Int}(ha:gd a)(hb:gd b)(hc:gd c)(hd:gd d):foldE (a,a) [a,b,c,d]=ends4 a b c d:=by
 simp only [foldE,ends4]
 refine Prod.ext (sv_inj ?_ ?_ ?_) (sv_inj ?_ ?_ ?_)
 ·exact minD_gd (minD_gd (minD_gd (minD_gd ha ha) hb) hc) hd
 ·exact minD_gd (minD_gd ha hb) (minD_gd hc hd)
 ·simp only [minD_sv];omega
 ·exact maxD_gd (maxD_gd (maxD_gd (maxD_gd ha ha) hb) hc) hd
 ·exact maxD_gd (maxD_gd ha hb) (maxD_gd hc hd)
 ·simp only [maxD_sv];omega

def mulO(i k:Iv):Option Iv:=match prO (i.1,k.1),prO (i.1,k.2),prO (i.2,k.1),prO (i.2,k.2)with
 | some a,some b,some c,some d=>some (rdI 16 (ends4 a b c d))
 | _,_,_,_=>none
theorem prO_gd{p:(Int×Int)×Int×Int}{t:Int×Int}(h:prO p=some t):gd t:=by
 unfold prO at h
 split at h
 ·cases h;exact prodD_gd _ _
 ·cases h
theorem mulO_gd{i k t:Iv}(h:mulO i k=some t):gdI t:=by
 unfold mulO at h
 split at h
 ·rename_i h1 h2 h3 h4
  cases h
  exact rdI_gd (ends4_gd (prO_gd h1) (prO_gd h2) (prO_gd h3) (prO_gd h4))
 ·cases h
theorem mul1_ev{x y:Int×Int}(hx:gd x)(hy:gd y):Evt (fun k _=>spec_dyMul k x y) (match prO (x,y)with | some t=>(t,true) | none=>((0,0),false)):=by
 have:=dyMul_ev hx hy
 unfold prO
 cases h:(prodD x y).2 with
 | true=>rw [if_pos rfl];rw [show prodD x y=((prodD x y).1,true)from Prod.ext rfl h]at this;exact this
 | false=>rw [if_neg (by simp)];rw [show prodD x y=((0,0),false)from Prod.ext (mkD_false h) h]at this;exact this

theorem ivMul_ev{i k':Iv}(hi:gdI i)(hk:gdI k'):Evt (fun k _=>spec_ivMul k i k') (match mulO i k' with | some t=>(t,true) | none=>(((0,0),0,0),false)):=by
 refine Evt.eq (f:=fun k q=>_) ?_ (fun k q=>by rw [spec_ivMul])
 have w1:IntKind.wrap .i64 (0+1)=1:=by decide
 have w2:IntKind.wrap .i64 (1+1)=2:=by decide
 have row:∀(x:Int×Int) (z:Iv) (acc:Pt) (x17:Pt) (x18 x19:Int),gd x→acc.length≤2→Evt (fun k n=>spec_ivMul_L14950 k n k' z acc x x17 x18 x19 [k'.1,k'.2] 2 0) (match prO (x,k'.1),prO (x,k'.2)with | some a,some b => .inr (k',z,acc ++ [a] ++ [b],x17,x18,x19,()) | _,_ => .inl (((0,0),0,0),false)):=by
  intro x z acc x17 x18 x19 hx hacc
  refine Evt.step (fun k n=>spec_ivMul_L14950.eq_2 k _ _ _ _ _ _ _ _ _ _ n) (Evt.ctrue rfl (Evt.ctrue rfl (Evt.ctrue rfl (Evt.bind (mul1_ev (y:=k'.1) hx hk.1) ?_))))
  cases prO (x,k'.1)with
  | none=>exact Evt.ctrue rfl .pure
  | some a =>
   refine Evt.cfalse rfl (Evt.ctrue (by simp;omega) ?_)
   rw [w1]
   refine Evt.step (fun k n=>spec_ivMul_L14950.eq_2 k _ _ _ _ _ _ _ _ _ _ n) (Evt.ctrue rfl (Evt.ctrue rfl (Evt.ctrue rfl (Evt.bind (mul1_ev (y:=k'.2) hx hk.2) ?_))))
   cases prO (x,k'.2)with
   | none=>exact Evt.ctrue rfl .pure
   | some b =>
    refine Evt.cfalse rfl (Evt.ctrue (by simp;omega) ?_)
    rw [w2]
    exact Evt.step (fun k n=>spec_ivMul_L14950.eq_2 k _ _ _ _ _ _ _ _ _ _ n) (Evt.cfalse rfl .pure)
 unfold mulO
 have r1:=fun z=>row i.1 z [] [i.1,i.2] 2 0 hi.1 (by simp)
 have r2:=fun z a b=>row i.2 z [a,b] [i.1,i.2] 2 1 hi.2 (by simp)
 cases h1:prO (i.1,k'.1)with
 | none =>
  rw [h1]at r1
  exact Evt.inl (Evt.diag (f:=fun k n=>spec_ivMul_L58 k n k' ((0,0),0,0) [] [i.1,i.2] 2 0) (Evt.step (fun k n=>spec_ivMul_L58.eq_2 k _ _ _ _ _ _ n) (Evt.ctrue rfl (Evt.ctrue rfl (Evt.ctrue rfl (Evt.inl (Evt.diag (r1 _)) .pure)))))) .pure
 | some a =>
 cases h2:prO (i.1,k'.2)with
 | none =>
  rw [h1,h2]at r1
  exact Evt.inl (Evt.diag (f:=fun k n=>spec_ivMul_L58 k n k' ((0,0),0,0) [] [i.1,i.2] 2 0) (Evt.step (fun k n=>spec_ivMul_L58.eq_2 k _ _ _ _ _ _ n) (Evt.ctrue rfl (Evt.ctrue rfl (Evt.ctrue rfl (Evt.inl (Evt.diag (r1 _)) .pure)))))) .pure
 | some b =>
 rw [h1,h2]at r1
 have go:∀ {y:((Iv×Bool) ⊕ (Iv×Pt×Unit))},Evt (fun k n=>spec_ivMul_L58 k n k' ((0,0),0,0) [a,b] [i.1,i.2] 2 1) y→Evt (fun k _=>spec_ivMul_L58 k k k' ((0,0),0,0) [] [i.1,i.2] 2 0) y:=by
  intro y hy
  refine Evt.diag (f:=fun k n=>spec_ivMul_L58 k n k' ((0,0),0,0) [] [i.1,i.2] 2 0) (Evt.step (fun k n=>spec_ivMul_L58.eq_2 k _ _ _ _ _ _ n) (Evt.ctrue rfl (Evt.ctrue rfl (Evt.ctrue rfl (Evt.inr (Evt.diag (r1 _)) ?_)))))
  exact hy
 cases h3:prO (i.2,k'.1)with
 | none =>
  rw [h3]at r2
  exact Evt.inl (go (Evt.step (fun k n=>spec_ivMul_L58.eq_2 k _ _ _ _ _ _ n) (Evt.ctrue rfl (Evt.ctrue rfl (Evt.ctrue rfl (Evt.inl (Evt.diag (r2 _ a b)) .pure)))))) .pure
 | some c =>
 cases h4:prO (i.2,k'.2)with
 | none =>
  rw [h3,h4]at r2
  exact Evt.inl (go (Evt.step (fun k n=>spec_ivMul_L58.eq_2 k _ _ _ _ _ _ n) (Evt.ctrue rfl (Evt.ctrue rfl (Evt.ctrue rfl (Evt.inl (Evt.diag (r2 _ a b)) .pure)))))) .pure
 | some d =>
  rw [h3,h4]at r2
  have ga:=prO_gd h1
  have gb:=prO_gd h2
  have gc:=prO_gd h3
  have ge:=prO_gd h4
  refine Evt.inr (go (y := .inr (((0,0),0,0),[a,b,c,d],())) (Evt.step (fun k n=>spec_ivMul_L58.eq_2 k _ _ _ _ _ _ n) (Evt.ctrue rfl (Evt.ctrue rfl (Evt.ctrue rfl (Evt.inr (Evt.diag (r2 _ a b)) ?_)))))) ?_
  ·exact Evt.step (fun k n=>spec_ivMul_L58.eq_2 k _ _ _ _ _ _ n) (Evt.cfalse rfl .pure)
  ·refine Evt.bind (ivEnds_ev (x:=a) (xs := [b,c,d]) (by simp [ga,gb,gc,ge]) (by simp [lenB])) ?_
   rw [fold4 ga gb gc ge]
   exact Evt.bind (ivRound_ev (p:=16) (ends4_gd ga gb gc ge) (by omega)) .pure

theorem multiply_ev{b:Bool}{i k':Iv}(hi:gdI i)(hk:gdI k'):∃v,gdI v∧(b=true→(mulO i k').isSome=true→mulO i k'=some v)∧Evt (fun k _=>impl_reckoner_multiply k b i k') (v,b&&(mulO i k').isSome):=by
 let P (c:Bool) (x y:Int×Int):(Int×Int)×Bool:=if c then prodD x y else((0,0),false)
 have gP:∀c x y,gd (P c x y).1:=by
  intro c x y
  simp only [P]
  split
  ·exact prodD_gd _ _
  ·decide
 have eP:∀c x y,(P c x y).2=(c&&(prO (x,y)).isSome):=by
  intro c x y
  simp only [P]
  cases c with
  | false=>rfl
  | true =>
   unfold prO
   simp only [if_true,Bool.true_and]
   cases (prodD x y).2 <;> rfl
 let p1:=P b i.1 k'.1
 let p2:=P p1.2 i.1 k'.2
 let p3:=P p2.2 i.2 k'.1
 let p4:=P p3.2 i.2 k'.2
 have f4:p4.2=(b&&(mulO i k').isSome):=by
  simp only [p4,p3,p2,p1,eP]
  unfold mulO
  cases b with
  | false=>rfl
  | true =>
   cases prO (i.1,k'.1) <;> cases prO (i.1,k'.2) <;> cases prO (i.2,k'.1) <;> cases prO (i.2,k'.2) <;> rfl
 refine⟨rdI 16 (ends4 p1.1 p2.1 p3.1 p4.1),rdI_gd (ends4_gd (gP _ _ _) (gP _ _ _) (gP _ _ _) (gP _ _ _)),?_,?_⟩
 ·intro hb hs
  subst hb
  have hv:∀ {x y t},prO (x,y)=some t→(P true x y).1=t:=by
   intro x y t h
   simp only [P,if_true]
   unfold prO at h
   split at h
   ·cases h;rfl
   ·cases h
  unfold mulO at hs ⊢
  split at hs
  ·rename_i a b c d h1 h2 h3 h4
   try simp only [h1,h2,h3,h4]
   have q1:p1.1=a:=hv h1
   have t1:p1.2=true:=by simp only [p1,eP,h1];rfl
   have q2:p2.1=b:=by simp only [p2,t1];exact hv h2
   have t2:p2.2=true:=by simp only [p2,eP,t1,h2];rfl
   have q3:p3.1=c:=by simp only [p3,t2];exact hv h3
   have t3:p3.2=true:=by simp only [p3,eP,t2,h3];rfl
   have q4:p4.1=d:=by simp only [p4,t3];exact hv h4
   rw [q1,q2,q3,q4]
  ·cases hs
 ·rw [←f4]
  refine Evt.eq (f:=fun k q=>_) ?_ (fun k q=>by rw [impl_reckoner_multiply])
  have e1:Evt (fun k _=>impl_reckoner_product k b i.1 k'.1) p1:=reckoner_product_ev hi.1 hk.1
  have e2:Evt (fun k _=>impl_reckoner_product k p1.2 i.1 k'.2) p2:=reckoner_product_ev hi.1 hk.2
  have e3:Evt (fun k _=>impl_reckoner_product k p2.2 i.2 k'.1) p3:=reckoner_product_ev hi.2 hk.1
  have e4:Evt (fun k _=>impl_reckoner_product k p3.2 i.2 k'.2) p4:=reckoner_product_ev hi.2 hk.2
  refine Evt.bind e1 (Evt.bind e2 (Evt.bind e3 (Evt.bind e4 ?_)))
  refine Evt.bind (lesser_ev (gP _ _ _) (gP _ _ _)) (Evt.bind (lesser_ev (gP _ _ _) (gP _ _ _)) (Evt.bind (lesser_ev (minD_gd (gP _ _ _) (gP _ _ _)) (minD_gd (gP _ _ _) (gP _ _ _))) ?_))
  refine Evt.bind (greater_ev2 (gP _ _ _) (gP _ _ _)) (Evt.bind (greater_ev2 (gP _ _ _) (gP _ _ _)) (Evt.bind (greater_ev2 (maxD_gd (gP _ _ _) (gP _ _ _)) (maxD_gd (gP _ _ _) (gP _ _ _))) ?_))
  exact Evt.bind (roundOut_ev (p:=16) (ends4_gd (gP _ _ _) (gP _ _ _) (gP _ _ _) (gP _ _ _)) (by omega)) .pure

def smO(a b:Int×Int):Option (Int×Int):=if (sumD a b).2 then some (sumD a b).1 else none
def addO(i k:Iv):Option Iv:=match smO i.1 k.1,smO i.2 k.2 with
 | some a,some b=>some (a,b)
 | _,_=>none
def subO(i k:Iv):Option Iv:=addO i (ng k.2,ng k.1)
theorem addO_gd{i k t:Iv}(h:addO i k=some t):gdI t:=by
 unfold addO smO at h
 split at h
 ·rename_i h1 h2
  cases h
  split at h1
  ·cases h1
   split at h2
   ·cases h2;exact⟨sumD_gd _ _,sumD_gd _ _⟩
   ·cases h2
  ·cases h1
 ·cases h
theorem ivAdd_ev{i k':Iv}(hi:gdI i)(hk:gdI k'):Evt (fun k _=>spec_ivAdd k i k') (match addO i k' with | some t=>(t,true) | none=>(((0,0),0,0),false)):=by
 refine Evt.eq (f:=fun k q=>_) ?_ (fun k q=>by rw [spec_ivAdd])
 refine Evt.bind (dyAdd_ev hi.1 hk.1) (Evt.bind (dyAdd_ev hi.2 hk.2) (.const ?_))
 unfold spec_ivBoth addO smO
 cases (sumD i.1 k'.1).2 <;> cases (sumD i.2 k'.2).2 <;> rfl
theorem ivSub_ev{i k':Iv}(hi:gdI i)(hk:gdI k'):Evt (fun k _=>spec_ivSub k i k') (match subO i k' with | some t=>(t,true) | none=>(((0,0),0,0),false)):=by
 refine Evt.eq (f:=fun k q=>_) ?_ (fun k q=>by rw [spec_ivSub])
 have hmn:spec_ivMinus k'=some (ng k'.2,ng k'.1):=by
  unfold spec_ivMinus
  rw [dyMinus_eq hk.2,Option.bind_some,dyMinus_eq hk.1]
  rfl
 refine Evt.bind (.const hmn) (Evt.bind (ivAdd_ev hi (k':=(ng k'.2,ng k'.1)) ⟨gd_neg hk.2,gd_neg hk.1⟩) ?_)
 unfold subO
 exact .pure
theorem add_ev2{b:Bool}{i k':Iv}(hi:gdI i)(hk:gdI k'):∃v,gdI v∧(b=true→(addO i k').isSome=true→addO i k'=some v)∧(∀f:Nat→Option ((Int×Int)×Bool),True) ∧
  ∃r2 r4:(Int×Int)×Bool,v=(r2.1,r4.1)∧r4.2=(b&&(addO i k').isSome)∧Evt (fun k _=>impl_reckoner_sum k b i.1 k'.1) r2∧Evt (fun k _=>impl_reckoner_sum k r2.2 i.2 k'.2) r4:=by
 let S (c:Bool) (x y:Int×Int):(Int×Int)×Bool:=if c then sumD x y else((0,0),false)
 have gS:∀c x y,gd (S c x y).1:=by
  intro c x y
  simp only [S]
  split
  ·exact sumD_gd _ _
  ·decide
 have eS:∀c x y,(S c x y).2=(c&&(smO x y).isSome):=by
  intro c x y
  simp only [S]
  cases c with
  | false=>rfl
  | true =>
   unfold smO
   simp only [if_true,Bool.true_and]
   cases (sumD x y).2 <;> rfl
 refine⟨((S b i.1 k'.1).1,(S (S b i.1 k'.1).2 i.2 k'.2).1),⟨gS _ _ _,gS _ _ _⟩,?_,fun _=>trivial,S b i.1 k'.1,S (S b i.1 k'.1).2 i.2 k'.2,rfl,?_,reckoner_sum_ev hi.1 hk.1,reckoner_sum_ev hi.2 hk.2⟩
 ·intro hb hs
  subst hb
  have hv:∀ {x y t},smO x y=some t→(S true x y).1=t:=by
   intro x y t h
   simp only [S,if_true]
   unfold smO at h
   split at h
   ·cases h;rfl
   ·cases h
  unfold addO at hs ⊢
  split at hs
  ·rename_i a c h1 h2
   try simp only [h1,h2]
   have t1:(S true i.1 k'.1).2=true:=by rw [eS,h1];rfl
   rw [hv h1,t1,hv h2]
  ·cases hs
 ·simp only [eS]
  unfold addO
  cases b with
  | false=>rfl
  | true=>cases smO i.1 k'.1 <;> cases smO i.2 k'.2 <;> rfl
theorem addI_ev{b:Bool}{i k':Iv}(hi:gdI i)(hk:gdI k'):∃v,gdI v∧(b=true→(addO i k').isSome=true→addO i k'=some v)∧Evt (fun k _=>impl_reckoner_add k b i k') (v,b&&(addO i k').isSome):=by
 obtain⟨v,gv,hv,_,r2,r4,rfl,hf,e1,e2⟩:=add_ev2 (b:=b) hi hk
 refine⟨_,gv,hv,?_⟩
 rw [←hf]
 refine Evt.eq (f:=fun k q=>_) ?_ (fun k q=>by rw [impl_reckoner_add])
 exact Evt.bind e1 (Evt.bind e2 .pure)
theorem subI_ev{b:Bool}{i k':Iv}(hi:gdI i)(hk:gdI k'):∃v,gdI v∧(b=true→(subO i k').isSome=true→subO i k'=some v)∧Evt (fun k _=>impl_reckoner_subtract k b i k') (v,b&&(subO i k').isSome):=by
 obtain⟨v,gv,hv,_,r2,r4,rfl,hf,e1,e2⟩:=add_ev2 (b:=b) hi (k':=(ng k'.2,ng k'.1)) ⟨gd_neg hk.2,gd_neg hk.1⟩
 refine⟨_,gv,hv,?_⟩
 unfold subO
 rw [←hf]
 refine Evt.eq (f:=fun k q=>_) ?_ (fun k q=>by rw [impl_reckoner_subtract])
 exact Evt.bind (.const (minus_eq hk.2)) (Evt.bind e1 (Evt.bind (.const (minus_eq hk.1)) (Evt.bind e2 .pure)))
end Go.Ev.G

namespace Go.Ev.G
open Go Go.Ev
set_option maxRecDepth 100000

theorem concatI_ev{a b:List Iv}(ha:a.length<1000)(hb:b.length<1000):Evt (fun k _=>slices_Concat_Interval_Interval k [a,b]) (a++b):=by
 refine Evt.eq (f:=fun k q=>_) ?_ (fun k q=>by rw [slices_Concat_Interval_Interval])
 have w1:IntKind.wrap .i64 (0+1)=1:=by decide
 have w2:IntKind.wrap .i64 (1+1)=2:=by decide
 have wa:IntKind.wrap .i64 (0+(a.length:Int))=(a.length:Int):=by rw [w64 (by omega) (by omega)];omega
 have wb:IntKind.wrap .i64 ((a.length:Int)+(b.length:Int))=((a.length+b.length:Nat):Int):=by rw [w64 (by omega) (by omega)];omega
 have l1:Evt (fun k n=>slices_Concat_Interval_Interval_L58 k n [a,b] 0 [a,b] 2 0) (.inr ([a,b],((a.length+b.length:Nat):Int),())):=by
  refine Evt.step (fun k n=>slices_Concat_Interval_Interval_L58.eq_2 k _ _ _ _ _ n) (Evt.ctrue rfl (Evt.ctrue rfl (Evt.ctrue rfl ?_)))
  simp only [List.getD_cons_zero,show Int.toNat 0=0 from rfl,wa,w1]
  refine Evt.cfalse (decide_eq_false (by omega)) ?_
  refine Evt.step (fun k n=>slices_Concat_Interval_Interval_L58.eq_2 k _ _ _ _ _ n) (Evt.ctrue rfl (Evt.ctrue rfl (Evt.ctrue rfl ?_)))
  have e1 : [a,b].getD (Int.toNat 1) []=b:=rfl
  simp only [e1,wb,w2]
  refine Evt.cfalse (decide_eq_false (by omega)) ?_
  exact Evt.step (fun k n=>slices_Concat_Interval_Interval_L58.eq_2 k _ _ _ _ _ n) (Evt.cfalse rfl .pure)
 have grow:slices_Grow_Interval_Interval () ((a.length+b.length:Nat):Int)=some []:=by
  unfold slices_Grow_Interval_Interval
  have e:IntKind.wrap .i64 (((a.length+b.length:Nat):Int) - IntKind.wrap .i64 (0 - 0))=((a.length+b.length:Nat):Int):=by
   have:IntKind.wrap .i64 (0 - 0)=0:=by decide
   rw [this,w64 (by omega) (by omega)];omega
  rw [e,decide_eq_false (by omega),cond_false]
  by_cases h:a.length+b.length=0
  ·rw [h];rfl
  ·rw [decide_eq_true (by omega),decide_eq_true (by omega),decide_eq_true (by omega)]
   simp only [cond_true,List.take_zero]
   rw [decide_eq_true (by simp;omega)]
   rfl
 have l2:Evt (fun k n=>slices_Concat_Interval_Interval_L250 k n [] [a,b] 2 0) (.inr (a++b,())):=by
  refine Evt.step (fun k n=>slices_Concat_Interval_Interval_L250.eq_2 k _ _ _ _ n) (Evt.ctrue rfl (Evt.ctrue rfl (Evt.ctrue rfl ?_)))
  simp only [List.getD_cons_zero,show Int.toNat 0=0 from rfl,w1,List.nil_append,List.length_nil]
  refine Evt.ctrue (decide_eq_true (by omega)) ?_
  refine Evt.step (fun k n=>slices_Concat_Interval_Interval_L250.eq_2 k _ _ _ _ n) (Evt.ctrue rfl (Evt.ctrue rfl (Evt.ctrue rfl ?_)))
  have e1 : [a,b].getD (Int.toNat 1) []=b:=rfl
  simp only [e1,w2]
  refine Evt.ctrue (decide_eq_true (by omega)) ?_
  exact Evt.step (fun k n=>slices_Concat_Interval_Interval_L250.eq_2 k _ _ _ _ n) (Evt.cfalse rfl .pure)
 exact Evt.inr (Evt.diag l1) (Evt.bind (.const grow) (Evt.inr (Evt.diag l2) .pure))

theorem impl_partI_ev{m:List (List Iv)}{n i j:Nat}(h:sq ivGd (n+1) m)(hn:n≤2)(hj:j≤n):Evt (fun k _=>impl_part_Interval k m i j) (partV m i j):=by
 refine Evt.eq (f:=fun k q=>_) ?_ (fun k q=>by rw [impl_part_Interval])
 have hb:m.length≤3:=by have:=h.1;omega
 have key:∀(r d:List (List Iv)),d++r=m→Evt (fun k q=>impl_part_Interval_L58 k q i j ((d.eraseIdx i).map (·.eraseIdx j)) m (m.length:Int) d.length) (.inr (partV m i j,())):=by
  intro r
  induction r with
  | nil =>
   intro d hd
   refine Evt.step (fun k q=>impl_part_Interval_L58.eq_2 k _ _ _ _ _ _ q) ?_
   rw [List.append_nil]at hd
   subst hd
   exact Evt.rng0 .pure
  | cons e r ih =>
   intro d hd
   refine Evt.step (fun k q=>impl_part_Interval_L58.eq_2 k _ _ _ _ _ _ q) ?_
   have he:=(h.2 e (by rw [←hd];simp)).1
   have ih:=ih (d ++ [e]) (by simpa using hd)
   rw [←len_next (r:=r) (by rw [hd];simp only [lenB];omega),erase_snoc]at ih
   have hl:=congrArg List.length hd
   simp at hl
   have hdl:(d.eraseIdx i).length≤d.length:=by rw [List.length_eraseIdx];split <;> omega
   subst hd
   refine Evt.ctrue mid_lt (Evt.ctrue mid_ge (Evt.ctrue mid_lt ?_))
   rw [mid_get]
   by_cases hi:d.length=i
   ·rw [if_pos hi]at ih
    exact Evt.cfalse (by simp [hi]) ih
   ·rw [if_neg hi,List.map_append]at ih
    have wj:IntKind.wrap .i64 ((j:Int)+1)=((j+1:Nat):Int):=w64_next (by simp only [lenB];omega)
    rw [wj]
    have htd:=take_drop e j
    simp only [Int.toNat_natCast]at htd ⊢
    have t1:((e.take j).drop 0).length<1000:=by simp;omega
    have t2:((e.take e.length).drop (j+1)).length<1000:=by simp;omega
    have hc:=concatI_ev t1 t2
    rw [htd]at hc
    exact Evt.ctrue (by simp;omega) (Evt.ctrue mid_ge (Evt.ctrue (by simp;omega) (Evt.ctrue mid_ge (Evt.ctrue (by simp;omega) (Evt.bind hc (Evt.ctrue (by simp;omega) ih))))))
 exact Evt.inr (Evt.diag (key m [] rfl)) .pure

theorem mxLess_ev{m:List (List Iv)}{n j:Nat}(h:sq ivGd (n+1) m)(hn:n≤2)(hj:j≤n):Evt (fun k _=>spec_mxLess k m j) (partV m 0 j):=by
 refine Evt.eq (f:=fun k q=>_) ?_ (fun k q=>by rw [spec_mxLess])
 have hb:m.length≤3:=by have:=h.1;omega
 have hpos:1≤m.length:=by have:=h.1;omega
 obtain⟨m0,ms,rfl⟩:∃x y,m=x::y:=by cases m with
  | nil=>simp at hpos
  | cons x y=>exact⟨x,y,rfl⟩
 refine Evt.ctrue (decide_eq_true (by simp;omega)) ?_
 have e1:((m0::ms).take (Int.toNat ((m0::ms).length:Int))).drop 1=ms:=by simp
 rw [e1]
 have key:∀(r d:List (List Iv)),d++r=ms→Evt (fun k q=>spec_mxLess_L58 k q j (d.map (·.eraseIdx j)) ms (ms.length:Int) d.length) (.inr (ms.map (·.eraseIdx j),())):=by
  intro r
  induction r with
  | nil =>
   intro d hd
   refine Evt.step (fun k q=>spec_mxLess_L58.eq_2 k _ _ _ _ _ q) ?_
   rw [List.append_nil]at hd
   subst hd
   exact Evt.rng0 .pure
  | cons e r ih =>
   intro d hd
   refine Evt.step (fun k q=>spec_mxLess_L58.eq_2 k _ _ _ _ _ q) ?_
   have he:=(h.2 e (by rw [←hd];simp)).1
   have ih:=ih (d ++ [e]) (by simpa using hd)
   have hl:=congrArg List.length hd
   simp at hl hb
   rw [←len_next (r:=r) (by rw [hd];simp only [lenB];omega)]at ih
   subst hd
   refine Evt.ctrue mid_lt (Evt.ctrue mid_ge (Evt.ctrue mid_lt ?_))
   rw [mid_get]
   rw [List.map_append]at ih
   have wj:IntKind.wrap .i64 ((j:Int)+1)=((j+1:Nat):Int):=w64_next (by simp only [lenB];omega)
   rw [wj]
   simp only [List.nil_append,Int.toNat_natCast]
   have htd:=take_drop e j
   rw [Int.toNat_natCast]at htd
   rw [htd]
   have hel:=erase_len he hj
   have t1:((e.take j).drop 0).length≤3:=by simp;omega
   refine Evt.ctrue mid_ge (Evt.ctrue (by simp;omega) (Evt.ctrue (decide_eq_true (by simp only [List.length_nil];omega)) (Evt.ctrue mid_ge (Evt.ctrue (by simp;omega) (Evt.ctrue ?_ (Evt.ctrue (by simp;omega) ih))))))
   refine decide_eq_true ?_
   have:=congrArg List.length htd
   rw [List.length_append]at this
   omega
 refine Evt.inr (Evt.diag (key ms [] rfl)) ?_
 unfold partV
 exact .pure

def accI(c:Nat)(o t:Option Iv):Option Iv:=match o,t with
 | some s,some p=>if c % 2=1 then subO s p else addO s p
 | _,_=>none
def foldI:Nat→Option Iv→List (Option Iv)→Option Iv
 | _,o,[]=>o
 | c,o,t::r=>foldI (c+1) (accI c o t) r
theorem foldI_none:∀(r:List (Option Iv)) (c:Nat),foldI c none r=none
 | [],_=>rfl
 | _::r,c=>by rw [foldI];exact foldI_none r (c+1)
theorem accI_gd{c:Nat}{o t:Option Iv}{v:Iv}(h:accI c o t=some v):gdI v:=by
 unfold accI at h
 split at h
 ·split at h
  ·exact addO_gd h
  ·exact addO_gd h
 ·cases h
def tmI(a:Iv)(d:Option Iv):Option Iv:=match d with
 | none=>none
 | some d=>mulO a d
theorem tmI_gd{a:Iv}{d:Option Iv}{v:Iv}(h:tmI a d=some v):gdI v:=by
 cases d with
 | none=>cases h
 | some d=>exact mulO_gd h
abbrev zI:Iv:=((0,0),0,0)
theorem zI_gd:gdI zI:=⟨by decide,by decide⟩
theorem addO_zero{p:Iv}(h:gdI p):addO zI p=some p:=by
 unfold addO smO
 rw [sumD_zero h.1,sumD_zero h.2]
 rfl
def detIO:Nat→List (List Iv)→Option Iv
 | 0,m=>some ((m.getD 0 []).getD 0 zI)
 | n+1,m=>foldI 0 (some zI) ((List.range (n+2)).map fun c=>tmI ((m.getD 0 []).getD c zI) (detIO n (partV m 0 c)))
def termsI(n:Nat)(m:List (List Iv)):List (Option Iv):=(List.range (n+2)).map fun c=>tmI ((m.getD 0 []).getD c zI) (detIO n (partV m 0 c))
def oI(o:Option Iv):Iv×Bool:=match o with
 | some t=>(t,true)
 | none=>(zI,false)

theorem foldI_gd:∀(r:List (Option Iv)) (c:Nat) (o:Option Iv) (v:Iv),(∀s,o=some s→gdI s)→foldI c o r=some v→gdI v
 | [],_,_,v,ho,h=>ho v h
 | _::r,c,_,v,_,h=>by
  rw [foldI]at h
  exact foldI_gd r (c+1) _ v (fun s hs=>accI_gd hs) h
theorem detIO_gd:∀(n:Nat) (m:List (List Iv)) (t:Iv),sq ivGd (n+1) m→detIO n m=some t→gdI t
 | 0,m,t,h,e=>by
  obtain⟨h1,h2⟩:=h
  match m,h1 with
  | [r],_ =>
   obtain⟨h3,h4⟩:=h2 r (by simp)
   match r,h3 with
   | [x],_ =>
    simp only [detIO,List.getD_cons_zero,Option.some.injEq]at e
    rw [←e]
    have:=h4 x (by simp)
    exact⟨this.1,this.2.1⟩
 | n+1,m,t,h,e=>foldI_gd _ _ _ _ (fun s hs=>by cases hs;exact zI_gd) e
theorem termsI_get{n c:Nat}{m:List (List Iv)}{d r:List (Option Iv)}{t:Option Iv}(h:d++t::r=termsI n m)(hc:d.length=c):t=tmI ((m.getD 0 []).getD c zI) (detIO n (partV m 0 c))∧c≤n+1:=by
 have hl:=congrArg List.length h
 simp [termsI]at hl
 have h2:(d++t::r)[d.length]? = some t:=by simp
 rw [h,termsI,List.getElem?_map,List.getElem?_range (by omega)]at h2
 simp only [Option.map_some,Option.some.injEq]at h2
 rw [←hc]
 exact⟨h2.symm,by omega⟩
theorem getI_mem{r:List Iv}{j:Nat}(h:j<r.length):r.getD j zI∈r:=by
 rw [List.getD_eq_getElem?_getD,List.getElem?_eq_getElem h]
 exact List.getElem_mem h

theorem mxDetIn_ev:∀(n:Nat) (m:List (List Iv)),n≤2→sq ivGd (n+1) m→Evt (fun k q=>spec_mxDetIn_R k q m) (oI (detIO n m))
 | 0,m,_,h=>by
  obtain⟨h1,h2⟩:=h
  match m,h1 with
  | [r],_ =>
   obtain⟨h3,h4⟩:=h2 r (by simp)
   match r,h3 with
   | [x],_=>exact Evt.step (fun k q=>(rfl:spec_mxDetIn_R k (q+1) [[x]]=some (x,true))) .pure
 | n+1,m,hn,h=>by
  refine Evt.step (F:=fun k q=>spec_mxDetIn_B k (spec_mxDetIn_R k q) m) (fun k q=>rfl) ?_
  refine Evt.eq (f:=fun k q=>_) ?_ (fun k q=>by rw [spec_mxDetIn_B])
  have hm:=h.1
  have hrow:(m.getD 0 []).length=n+2∧∀x∈m.getD 0 [],ivGd x:=by
   match m,hm with
   | r::_,_=>exact h.2 r (by simp)
  refine Evt.cfalse (by rw [hm];simp;omega) (Evt.ctrue (by rw [hm];simp;omega) ?_)
  generalize hrw:m.getD 0 []=row at hrow ⊢
  have hsub:∀c,c≤n+1→Ev3 (fun k q _=>spec_mxDetIn_R k q (partV m 0 c)) (oI (detIO n (partV m 0 c))):=fun c hc=>Ev3.rec (mxDetIn_ev n _ (by omega) (sq_part h (by omega) hc))
  have key:∀(r d:List (Option Iv)) (z s:Iv),d++r=termsI n m→gdI s →
    Ev3 (fun k q f=>spec_mxDetIn_L122 k (spec_mxDetIn_R k q) f m z s row (row.length:Int) d.length) (match foldI d.length (some s) r with | some t => .inr (z,t,()) | none => .inl (zI,false)):=by
   intro r
   induction r with
   | nil =>
    intro d z s hd hs
    refine Ev3.step (fun k q f=>spec_mxDetIn_L122.eq_2 k _ _ _ _ _ _ _ f) ?_
    rw [List.append_nil]at hd
    have:d.length=n+2:=by rw [hd];simp [termsI]
    exact Ev3.cfalse (decide_eq_false (by omega)) .pure
   | cons t r ih =>
    intro d z s hd hs
    obtain⟨ht,hc⟩:=termsI_get hd rfl
    rw [hrw]at ht
    refine Ev3.step (fun k q f=>spec_mxDetIn_L122.eq_2 k _ _ _ _ _ _ _ f) ?_
    have ih:=fun s=>ih (d ++ [t]) z s (by simpa using hd)
    have hnx:IntKind.wrap .i64 ((d.length:Int)+1)=((d ++ [t]).length:Int):=by rw [w64_next (by simp only [lenB];omega)];simp
    rw [←hnx]at ih
    have hdl:(d ++ [t]).length=d.length+1:=by simp
    rw [hdl]at ih
    generalize hcd:d.length=c at ht hc ih ⊢
    rw [foldI]
    have ga:=hrow.2 _ (getI_mem (r:=row) (j:=c) (by omega))
    have ga:gdI (row.getD c zI):=⟨ga.1,ga.2.1⟩
    refine Ev3.ctrue (decide_eq_true (by omega)) (Ev3.ctrue mid_ge (Ev3.ctrue (decide_eq_true (by omega)) ?_))
    rw [Int.toNat_natCast]
    refine Ev3.bind (Ev3.of (mxLess_ev h hn hc)) (Ev3.bind (hsub c hc) ?_)
    cases hdo:detIO n (partV m 0 c)with
    | none =>
     rw [hdo]at ht
     rw [ht]
     simp only [tmI,accI,foldI_none]
     exact Ev3.ctrue rfl .pure
    | some dv =>
     rw [hdo]at ht
     have gdv:=detIO_gd n _ _ (sq_part h (by omega) hc) hdo
     have hm1:=ivMul_ev ga gdv
     rw [ht]
     simp only [tmI]
     cases hmu:mulO (row.getD c zI) dv with
     | none =>
      rw [hmu]at hm1
      simp only [accI,foldI_none]
      exact Ev3.cfalse rfl (Ev3.bind (Ev3.of hm1) (Ev3.ctrue rfl .pure))
     | some p =>
      rw [hmu]at hm1
      have gp:=mulO_gd hmu
      refine Ev3.cfalse rfl (Ev3.bind (Ev3.of hm1) (Ev3.cfalse rfl (Ev3.bind (Ev3.of (ivAdd_ev hs gp)) ?_)))
      have hacc:accI c (some s) (some p)=if c % 2=1 then subO s p else addO s p:=rfl
      refine Ev3.inr (y:=(m,z,s,(oI (accI c (some s) (some p))).1,(oI (accI c (some s) (some p))).2,row,(row.length:Int),(c:Int),())) ?_ ?_
      ·rw [tmod_odd,hacc]
       by_cases hodd:c % 2=1
       ·rw [if_pos hodd]
        refine Ev3.ctrue (decide_eq_true hodd) (Ev3.bind (Ev3.of (ivSub_ev hs gp)) ?_)
        cases subO s p <;> exact .pure
       ·rw [if_neg hodd]
        refine Ev3.cfalse (decide_eq_false hodd) ?_
        cases addO s p <;> exact .pure
      ·cases hac:accI c (some s) (some p)with
       | none =>
        simp only [foldI_none]
        exact Ev3.ctrue rfl .pure
       | some s'=>exact Ev3.cfalse rfl (ih s' (accI_gd hac))
  have h0:=(key (termsI n m) [] zI zI rfl zI_gd).diag
  simp only [List.length_nil]at h0
  have hdet:detIO (n+1) m=foldI 0 (some zI) (termsI n m):=rfl
  rw [hdet]
  cases hs:foldI 0 (some zI) (termsI n m)with
  | none=>rw [hs]at h0;exact Evt.inl h0 .pure
  | some t=>rw [hs]at h0;exact Evt.inr h0 .pure

theorem detIn_ev:∀(n:Nat) (m:List (List Iv)),n≤2→sq ivGd (n+1) m→∀b:Bool,∃v,gdI v∧(b=true→(detIO n m).isSome=true→detIO n m=some v)∧Evt (fun k q=>impl_reckoner_determinantIn_R k q b m) (v,b&&(detIO n m).isSome)
 | 0,m,_,h,b=>by
  obtain⟨h1,h2⟩:=h
  match m,h1 with
  | [r],_ =>
   obtain⟨h3,h4⟩:=h2 r (by simp)
   match r,h3 with
   | [x],_ =>
    have:=h4 x (by simp)
    exact⟨x,⟨this.1,this.2.1⟩,fun _ _=>rfl,Evt.step (fun k q=>(rfl:impl_reckoner_determinantIn_R k (q+1) b [[x]]=some (x,b))) (.const (by simp [detIO]))⟩
 | n+1,m,hn,h,b=>by
  have hm:=h.1
  have hrow:(m.getD 0 []).length=n+2∧∀x∈m.getD 0 [],ivGd x:=by
   match m,hm with
   | r::_,_=>exact h.2 r (by simp)
  generalize hrw:m.getD 0 []=row at hrow
  have key:∀(r d:List (Option Iv)) (c:Bool) (z s:Iv) (o:Option Iv),d++r=termsI n m→gdI s→c=(b&&o.isSome)→(c=true→o=some s)→(d = []→o=some zI)→∃c' s',gdI s'∧c'=(b&&(foldI d.length o r).isSome)∧(c'=true→foldI d.length o r=some s') ∧
    Ev3 (fun k q f=>impl_reckoner_determinantIn_L122 k (impl_reckoner_determinantIn_R k q) f c m z s row (row.length:Int) d.length) (.inr (z,s',c',())):=by
   intro r
   induction r with
   | nil =>
    intro d c z s o hd hs hc hcs _
    rw [List.append_nil]at hd
    have hdl:d.length=n+2:=by rw [hd];simp [termsI]
    exact⟨c,s,hs,hc,hcs,Ev3.step (fun k q f=>impl_reckoner_determinantIn_L122.eq_2 k _ _ _ _ _ _ _ _ f) (Ev3.cfalse (decide_eq_false (by omega)) .pure)⟩
   | cons t r ih =>
    intro d c z s o hd hs hc hcs hdo0
    obtain⟨ht,hcn⟩:=termsI_get hd rfl
    rw [hrw]at ht
    have hdl:(d ++ [t]).length=d.length+1:=by simp
    have hnx:IntKind.wrap .i64 ((d.length:Int)+1)=((d ++ [t]).length:Int):=by rw [w64_next (by simp only [lenB];omega)];simp
    obtain⟨dv,gdv,hdv,hdev⟩:=detIn_ev n (partV m 0 d.length) (by omega) (sq_part h (by omega) hcn) c
    have ga:=hrow.2 _ (getI_mem (r:=row) (j:=d.length) (by omega))
    have ga:gdI (row.getD d.length zI):=⟨ga.1,ga.2.1⟩
    generalize hod:detIO n (partV m 0 d.length)=od at ht hdv hdev
    obtain⟨p,gp,hpv,hpev⟩:=multiply_ev (b:=c&&od.isSome) ga gdv
        -- the term as it is reckoned
    have hfl:((c&&od.isSome)&&(mulO (row.getD d.length zI) dv).isSome)=(c&&t.isSome):=by
     rw [ht]
     cases c with
     | false=>rfl
     | true =>
      cases od with
      | none=>rfl
      | some d2 =>
       have:=hdv rfl rfl
       cases this
       rfl
    have hval:(c&&t.isSome)=true→t=some p:=by
     intro hh
     rw [Bool.and_eq_true]at hh
     cases od with
     | none=>rw [ht]at hh;cases hh.2
     | some d2 =>
      have:=hdv hh.1 rfl
      cases this
      rw [ht]at hh ⊢
      exact hpv (by rw [hh.1];rfl) hh.2
    rw [hfl]at hpev
    have fin:∀(c3:Bool) (s3:Iv),gdI s3→c3=(b&&(accI d.length o t).isSome)→(c3=true→accI d.length o t=some s3)→∃c' s',gdI s'∧c'=(b&&(foldI d.length o (t::r)).isSome)∧(c'=true→foldI d.length o (t::r)=some s') ∧
      Ev3 (fun k q f=>impl_reckoner_determinantIn_L122 k (impl_reckoner_determinantIn_R k q) f c3 m z s3 row (row.length:Int) (IntKind.wrap .i64 ((d.length:Int)+1))) (.inr (z,s',c',())):=by
     intro c3 s3 g3 h1 h2
     obtain⟨c',s',q1,q2,q3,q4⟩:=ih (d ++ [t]) c3 z s3 (accI d.length o t) (by simpa using hd) g3 h1 h2 (by simp)
     rw [hdl]at q2 q3
     rw [←hnx]at q4
     exact⟨c',s',q1,q2,q3,q4⟩
    have start:∀ {c':Bool} {s':Iv},Ev3 (fun k q f=>(bif ((d.length:Int)==0)then(impl_reckoner_determinantIn_L122 k (impl_reckoner_determinantIn_R k q) f (c&&t.isSome) m z p row (row.length:Int) (IntKind.wrap .i64 ((d.length:Int)+1)))else(bif ((Int.tmod (d.length:Int) 2)==1)then(Option.bind (impl_reckoner_subtract k (c&&t.isSome) s p) fun r4=>(impl_reckoner_determinantIn_L122 k (impl_reckoner_determinantIn_R k q) f r4.2 m z r4.1 row (row.length:Int) (IntKind.wrap .i64 ((d.length:Int)+1))))else(Option.bind (impl_reckoner_add k (c&&t.isSome) s p) fun r5=>(impl_reckoner_determinantIn_L122 k (impl_reckoner_determinantIn_R k q) f r5.2 m z r5.1 row (row.length:Int) (IntKind.wrap .i64 ((d.length:Int)+1))))))) (.inr (z,s',c',())) →
      Ev3 (fun k q f=>impl_reckoner_determinantIn_L122 k (impl_reckoner_determinantIn_R k q) f c m z s row (row.length:Int) d.length) (.inr (z,s',c',())):=by
     intro c' s' hh
     refine Ev3.step (fun k q f=>impl_reckoner_determinantIn_L122.eq_2 k _ _ _ _ _ _ _ _ f) ?_
     refine Ev3.ctrue (decide_eq_true (by omega)) (Ev3.ctrue mid_ge (Ev3.ctrue (decide_eq_true (by omega)) ?_))
     rw [Int.toNat_natCast]
     exact Ev3.bind (Ev3.of (impl_partI_ev h hn hcn)) (Ev3.bind (Ev3.rec hdev) (Ev3.bind (Ev3.of hpev) hh))
        -- the flag of what is summed
    have ho:c=true→o=some s:=hcs
    by_cases h0:d = []
    ·have hoz:=hdo0 h0
     have hacc:(accI d.length o t)=t:=by
      rw [hoz,h0]
      cases hts:t with
      | none=>rfl
      | some p' =>
       have gp':gdI p':=tmI_gd (by rw [←ht];exact hts)
       simp only [accI,List.length_nil,Nat.zero_mod,Nat.zero_ne_one,if_false]
       exact addO_zero gp'
     obtain⟨c',s',q1,q2,q3,q4⟩:=fin (c&&t.isSome) p gp (by rw [hacc,hc,hoz];simp) (fun hh=>by rw [hacc];exact hval hh)
     exact⟨c',s',q1,q2,q3,start (Ev3.ctrue (by rw [h0];rfl) q4)⟩
    ·have hne:((d.length:Int)==0)=false:=by
      have:d.length≠0:=fun hh=>h0 (List.length_eq_zero_iff.1 hh)
      simp;omega
     by_cases hodd:d.length % 2=1
     ·obtain⟨v,gv,hv,hev⟩:=subI_ev (b:=c&&t.isSome) hs gp
      have hacc:((c&&t.isSome)&&(subO s p).isSome)=(b&&(accI d.length o t).isSome):=by
       cases hct:(c&&t.isSome)with
       | true =>
        have h1:=hval hct
        rw [Bool.and_eq_true]at hct
        have h2:=ho hct.1
        have h3:b=true:=by rw [hct.1]at hc;have:=hc.symm;rw [Bool.and_eq_true]at this;exact this.1
        rw [h1,h2,h3]
        simp only [accI,if_pos hodd]
       | false =>
        rw [Bool.false_and]
        cases b with
        | false=>rfl
        | true =>
         rw [Bool.true_and]at hc ⊢
         rw [hc]at hct
         cases o <;> cases t <;> first | rfl | (simp at hct)
      obtain⟨c',s',q1,q2,q3,q4⟩:=fin ((c&&t.isSome)&&(subO s p).isSome) v gv hacc (fun hh=>by
       rw [Bool.and_eq_true]at hh
       have h1:=hval hh.1
       have h2:=ho (by have:=hh.1;rw [Bool.and_eq_true]at this;exact this.1)
       rw [h1,h2]
       simp only [accI,if_pos hodd]
       exact hv hh.1 hh.2)
      exact⟨c',s',q1,q2,q3,start (Ev3.cfalse hne (Ev3.ctrue (by rw [tmod_odd];exact decide_eq_true hodd) (Ev3.bind (Ev3.of hev) q4)))⟩
     ·obtain⟨v,gv,hv,hev⟩:=addI_ev (b:=c&&t.isSome) hs gp
      have hacc:((c&&t.isSome)&&(addO s p).isSome)=(b&&(accI d.length o t).isSome):=by
       cases hct:(c&&t.isSome)with
       | true =>
        have h1:=hval hct
        rw [Bool.and_eq_true]at hct
        have h2:=ho hct.1
        have h3:b=true:=by rw [hct.1]at hc;have:=hc.symm;rw [Bool.and_eq_true]at this;exact this.1
        rw [h1,h2,h3]
        simp only [accI,if_neg hodd]
       | false =>
        rw [Bool.false_and]
        cases b with
        | false=>rfl
        | true =>
         rw [Bool.true_and]at hc ⊢
         rw [hc]at hct
         cases o <;> cases t <;> first | rfl | (simp at hct)
      obtain⟨c',s',q1,q2,q3,q4⟩:=fin ((c&&t.isSome)&&(addO s p).isSome) v gv hacc (fun hh=>by
       rw [Bool.and_eq_true]at hh
       have h1:=hval hh.1
       have h2:=ho (by have:=hh.1;rw [Bool.and_eq_true]at this;exact this.1)
       rw [h1,h2]
       simp only [accI,if_neg hodd]
       exact hv hh.1 hh.2)
      exact⟨c',s',q1,q2,q3,start (Ev3.cfalse hne (Ev3.cfalse (by rw [tmod_odd];exact decide_eq_false hodd) (Ev3.bind (Ev3.of hev) q4)))⟩
  obtain⟨c',s',q1,q2,q3,q4⟩:=key (termsI n m) [] b zI zI (some zI) rfl zI_gd (by simp) (fun _=>rfl) (fun _=>rfl)
  have hdet:detIO (n+1) m=foldI 0 (some zI) (termsI n m):=rfl
  simp only [List.length_nil]at q2 q3 q4
  rw [hdet]
  refine⟨s',q1,fun hb hs=>q3 (by rw [q2,hb,hs];rfl),?_⟩
  rw [←q2]
  refine Evt.step (F:=fun k q=>impl_reckoner_determinantIn_B k (impl_reckoner_determinantIn_R k q) b m) (fun k q=>rfl) ?_
  refine Evt.eq (f:=fun k q=>_) ?_ (fun k q=>by rw [impl_reckoner_determinantIn_B])
  refine Evt.cfalse (by rw [hm];simp;omega) (Evt.ctrue (by rw [hm];simp;omega) ?_)
  rw [hrw]
  exact Evt.inr q4.diag .pure
end Go.Ev.G

namespace Go.Ev.G
open Go Go.Ev
set_option maxRecDepth 100000

def diV(m:List (List Iv)):Iv×Bool:=if tab ivGd m then oI (detIO (m.length - 1) m)else(zI,false)

end Go.Ev.G

namespace Go.Ev.G
open Go Go.Ev
set_option maxRecDepth 100000

theorem sv_mkD{n:Int}{k:Nat}(h:(mkD n k).2=true):sv (mkD n k).1*2 ^ k=n*2 ^ 24:=by
 unfold mkD at h ⊢
 split at h
 ·rename_i hs
  rw [if_pos hs]
  have hv:=strip_val k n
  have hle:=strip_le k n
  generalize strip k n=s at hv hle hs
  unfold sv
  simp only [Int.toNat_natCast]
  rw [←hv,Int.mul_assoc,Int.mul_assoc,←Int.pow_add,←Int.pow_add]
  congr 2
  omega
 ·cases h
theorem prO_sv{a b t:Int×Int}(ha:gd a)(hb:gd b)(h:prO (a,b)=some t):sv t*2 ^ 24=sv a*sv b:=by
 obtain⟨n,j,rfl,hj,_,_,_⟩:=gd_nat ha
 obtain⟨m,i,rfl,hi,_,_,_⟩:=gd_nat hb
 unfold prO prodD at h
 simp only [Int.toNat_natCast]at h
 cases hc:(mkD (n*m) (j+i)).2 with
 | false=>rw [hc]at h;simp at h
 | true =>
  rw [hc,if_pos rfl]at h
  cases h
  have e:=sv_mkD hc
  have hpp:(0:Int)<2 ^ (j+i):=Int.pow_pos (by decide)
  refine Int.eq_of_mul_eq_mul_right (Int.ne_of_gt hpp) ?_
  rw [Int.mul_assoc,Int.mul_comm (2 ^ 24),←Int.mul_assoc,e]
  unfold sv
  simp only [Int.toNat_natCast]
  have e1:(2:Int) ^ 24*2 ^ 24=2 ^ (24 - j)*2 ^ (24 - i)*2 ^ (j+i):=by
   rw [←Int.pow_add,←Int.pow_add,←Int.pow_add];congr 1;omega
  have e2:n*2 ^ (24 - j)*(m*2 ^ (24 - i))*2 ^ (j+i)=n*m*(2 ^ (24 - j)*2 ^ (24 - i)*2 ^ (j+i)):=by
   simp only [Int.mul_assoc,Int.mul_left_comm,Int.mul_comm]
  rw [e2,←e1,Int.mul_assoc]

def rO(a:Int×Int):Nat→Option (Int×Int)
 | 0=>some (1,0)
 | n+1=>match rO a n with
  | some t=>prO (t,a)
  | none=>none
def zin(i:Iv):Bool:=decide (i.1.1≤0)&&decide (0≤i.2.1)
def powO(i:Iv)(n:Nat):Option Iv:=if n=0 then some ((1,0),1,0)else match rO i.1 n,rO i.2 n with
 | some l,some h=>some (rdI 16 (if n % 2=0 then(if zin i then(0,0)else minD l h,maxD l h)else(l,h)))
 | _,_=>none
theorem mkD_ok{n:Int}{k:Nat}(h1 : -1099511627776≤n)(h2:n≤1099511627776)(hk:k≤24):(mkD n k).2=true:=by
 have a:=strip_le k n
 have b : -1099511627776≤(strip k n).1∧(strip k n).1≤1099511627776:=by
  rcases Int.le_total 0 n with h | h
  ·have:=strip_bound k n h;omega
  ·have:=strip_bound k (-n) (by omega)
   rw [strip_neg]at this
   simp only at this
   omega
 unfold mkD
 rw [if_pos ⟨b.1,b.2,by omega⟩]
theorem rdD_sv{p:Nat}{a:Int×Int}(ha:gd a)(hp:p≤24):sv (rdD p a)≤sv a:=by
 obtain⟨n,j,rfl,hj,h1,h2,hn⟩:=gd_nat ha
 unfold rdD
 simp only [Int.toNat_natCast]
 by_cases h:j≤p
 ·rw [if_pos (by omega)];exact Int.le_refl _
 ·rw [if_neg (by omega)]
  have hq:0<2 ^ (j - p):=Nat.pow_pos (by omega)
  have hb:=div_bound hq h1 h2
  have e:=sv_mkD (mkD_ok hb.1 hb.2 hp)
  generalize mkD (n / ((2 ^ (j - p):Nat):Int)) p=m at e
  have hpp:(0:Int)<2 ^ p:=Int.pow_pos (by decide)
  have hd:n / ((2 ^ (j - p):Nat):Int)*((2 ^ (j - p):Nat):Int)≤n:=Int.ediv_mul_le _ (by omega)
  have e2:sv (n,(j:Int))*2 ^ p=n*2 ^ (24 - (j - p)):=by
   unfold sv
   simp only [Int.toNat_natCast]
   rw [Int.mul_assoc,←Int.pow_add]
   congr 2
   omega
  have e3:n / ((2 ^ (j - p):Nat):Int)*2 ^ 24=n / ((2 ^ (j - p):Nat):Int)*((2 ^ (j - p):Nat):Int)*2 ^ (24 - (j - p)):=by
   rw [Int.natCast_pow,Int.mul_assoc]
   have:((2:Nat):Int)=2:=rfl
   rw [this,←Int.pow_add]
   congr 2
   omega
  have hh:sv m.1*2 ^ p≤sv (n,(j:Int))*2 ^ p:=by
   rw [e,e2,e3]
   exact Int.mul_le_mul_of_nonneg_right hd (Int.le_of_lt (Int.pow_pos (by decide)))
  exact Int.le_of_mul_le_mul_right hh hpp
theorem rdI_iv{p:Nat}{x:Iv}(h:gdI x)(hle:sv x.1≤sv x.2)(hp:p≤24):ivGd (rdI p x):=by
 have g:=rdI_gd (p:=p) h
 refine⟨g.1,g.2,?_⟩
 have a:=rdD_sv (p:=p) h.1 hp
 have b:=rdD_sv (p:=p) (gd_neg h.2) hp
 have c:sv (ng x.2) = - sv x.2:=sv_neg _
 have d:sv (ng (rdD p (ng x.2))) = - sv (rdD p (ng x.2)):=sv_neg _
 unfold rdI
 simp only [d]
 have e:sv (rdD p (-x.2.1,x.2.2))≤sv (-x.2.1,x.2.2):=b
 have f:sv (-x.2.1,x.2.2) = - sv x.2:=sv_neg _
 have k:sv (rdD p (ng x.2))=sv (rdD p (-x.2.1,x.2.2)):=rfl
 omega
theorem mulO_iv{i k t:Iv}(h:mulO i k=some t):ivGd t:=by
 unfold mulO at h
 split at h
 ·rename_i h1 h2 h3 h4
  cases h
  refine rdI_iv (ends4_gd (prO_gd h1) (prO_gd h2) (prO_gd h3) (prO_gd h4)) ?_ (by omega)
  simp only [ends4,minD_sv,maxD_sv]
  omega
 ·cases h
theorem sumD_sv{a b:Int×Int}(ha:gd a)(hb:gd b)(h:(sumD a b).2=true):sv (sumD a b).1=sv a+sv b:=by
 have e:=sv_mkD h
 unfold sumD at e ⊢
 generalize hm:mkD (sumN a b) (exA a b)=m at e
 unfold sumN at e
 obtain⟨n,j,rfl,hj,_⟩:=gd_nat ha
 obtain⟨o,i,rfl,hi,_⟩:=gd_nat hb
 have hK:exA (n,(j:Int)) (o,(i:Int))=max j i:=by simp [exA]
 rw [hK]at e
 simp only [Int.toNat_natCast]at e
 have hpp:(0:Int)<2 ^ max j i:=Int.pow_pos (by decide)
 have e1:∀(x:Int) (u:Nat),u≤max j i→u≤24→x*2 ^ (max j i - u)*2 ^ 24=x*2 ^ (24 - u)*2 ^ max j i:=by
  intro x u h1 h2
  rw [Int.mul_assoc,Int.mul_assoc,←Int.pow_add,←Int.pow_add]
  congr 2
  omega
 refine Int.eq_of_mul_eq_mul_right (Int.ne_of_gt hpp) ?_
 rw [e,Int.add_mul,Int.add_mul,e1 n j (by omega) hj,e1 o i (by omega) hi]
 rfl
theorem addO_iv{i k t:Iv}(hi:ivGd i)(hk:ivGd k)(h:addO i k=some t):ivGd t:=by
 have g:=addO_gd h
 refine⟨g.1,g.2,?_⟩
 unfold addO smO at h
 split at h
 ·rename_i h1 h2
  cases h
  split at h1
  ·rename_i c1
   cases h1
   split at h2
   ·rename_i c2
    cases h2
    simp only
    rw [sumD_sv hi.1 hk.1 c1,sumD_sv hi.2.1 hk.2.1 c2]
    have:=hi.2.2
    have:=hk.2.2
    omega
   ·cases h2
  ·cases h1
 ·cases h
end Go.Ev.G

namespace Go.Ev.G
open Go Go.Ev
set_option maxRecDepth 100000

abbrev TT:Int:=16777216
theorem two24:(2:Int) ^ 24=TT:=by decide
theorem gd_k{a:Int×Int}(h:gd a):a.2.toNat≤24:=by unfold gd at h;omega
theorem sv_prod{a b:Int×Int}(ha:gd a)(hb:gd b)(h:(prodD a b).2=true):sv (prodD a b).1*TT=sv a*sv b:=by
 have h1:=sv_mkD h
 have ka:=gd_k ha
 have kb:=gd_k hb
 have hp:(0:Int)<2 ^ (a.2.toNat+b.2.toNat):=Int.pow_pos (by omega)
 have h1:sv (prodD a b).1*2 ^ (a.2.toNat+b.2.toNat)=a.1*b.1*2 ^ 24:=h1
 refine Int.eq_of_mul_eq_mul_right (Int.ne_of_gt hp) ?_
 have e:(2:Int) ^ (24 - a.2.toNat)*2 ^ (24 - b.2.toNat)*2 ^ (a.2.toNat+b.2.toNat)=2 ^ 24*TT:=by
  rw [←two24,←Int.pow_add,←Int.pow_add,←Int.pow_add]
  congr 1
  omega
 calc sv (prodD a b).1*TT*2 ^ (a.2.toNat+b.2.toNat)=(sv (prodD a b).1*2 ^ (a.2.toNat+b.2.toNat))*TT:=by rw [Int.mul_assoc,Int.mul_comm TT,Int.mul_assoc]
  _=a.1*b.1*(2 ^ 24*TT):=by rw [h1,Int.mul_assoc]
  _=a.1*b.1*(2 ^ (24 - a.2.toNat)*2 ^ (24 - b.2.toNat)*2 ^ (a.2.toNat+b.2.toNat)):=by rw [e]
  _=sv a*sv b*2 ^ (a.2.toNat+b.2.toNat):=by
   unfold sv
   generalize (2:Int) ^ (24 - a.2.toNat)=p
   generalize (2:Int) ^ (24 - b.2.toNat)=q
   generalize (2:Int) ^ (a.2.toNat+b.2.toNat)=r
   grind
theorem sv_sum{a b:Int×Int}(ha:gd a)(hb:gd b)(h:(sumD a b).2=true):sv (sumD a b).1=sv a+sv b:=by
 have h1:=sv_mkD h
 have ka:=gd_k ha
 have kb:=gd_k hb
 have hp:(0:Int)<2 ^ exA a b:=Int.pow_pos (by omega)
 have h1:sv (sumD a b).1*2 ^ exA a b=sumN a b*2 ^ 24:=h1
 refine Int.eq_of_mul_eq_mul_right (Int.ne_of_gt hp) ?_
 rw [h1]
 have ea:(2:Int) ^ (exA a b - a.2.toNat)*2 ^ 24=2 ^ (24 - a.2.toNat)*2 ^ exA a b:=by
  rw [←Int.pow_add,←Int.pow_add]
  congr 1
  unfold exA
  omega
 have eb:(2:Int) ^ (exA a b - b.2.toNat)*2 ^ 24=2 ^ (24 - b.2.toNat)*2 ^ exA a b:=by
  rw [←Int.pow_add,←Int.pow_add]
  congr 1
  unfold exA
  omega
 unfold sumN sv
 rw [Int.add_mul,Int.add_mul,Int.mul_assoc,Int.mul_assoc,ea,eb,Int.mul_assoc,Int.mul_assoc]
theorem sv_ng{c:Nat}{x:Int×Int}:sv (ngD c x)=if c % 2=1 then -sv x else sv x:=by
 unfold ngD
 split
 ·exact sv_neg x
 ·rfl
theorem sv_osum:∀ {l:Pt} {s t:Int×Int},gd s→(∀x∈l,gd x)→osum s l=some t→sv t=sv s+(l.map sv).sum
 | [],s,t,_,_,h=>by cases h;simp
 | x::l,s,t,hs,hl,h=>by
  rw [osum]at h
  split at h
  ·rename_i hx
   have h1:=sv_osum (sumD_gd s x) (fun y hy=>hl y (by simp [hy])) h
   rw [h1,sv_sum hs (hl x (by simp)) hx]
   simp only [List.map_cons,List.sum_cons]
   omega
  ·cases h
end Go.Ev.G

namespace Go.Ev.G
open Go Go.Ev
set_option maxRecDepth 100000

theorem tab_iff{m:List Pt}(h:tab gd m=true):(1≤m.length∧m.length≤3)∧∀r∈m,r.length=m.length∧∀x∈r,gd x:=by
 unfold tab at h
 rw [Bool.and_eq_true,List.all_eq_true]at h
 refine⟨of_decide_eq_true h.1,fun r hr => ?_⟩
 have:=h.2 r hr
 rw [Bool.and_eq_true,List.all_eq_true]at this
 exact⟨of_decide_eq_true this.1,fun x hx=>of_decide_eq_true (this.2 x hx)⟩
theorem dt_some{m:List Pt}{d:Int×Int}(h:dtV m=(d,true)):tab gd m=true∧detO (m.length - 1) m=some d:=by
 unfold dtV at h
 split at h
 ·rename_i ht
  refine⟨ht,?_⟩
  cases hd:detO (m.length - 1) m with
  | none=>rw [hd]at h;cases h
  | some t=>rw [hd]at h;cases h;rfl
 ·cases h
end Go.Ev.G

namespace Go.Ev.G
open Go Go.Ev
set_option maxRecDepth 100000

abbrev Cu:=Unit×Int×Int
def CurOk(c:Cu)(m:Nat):Prop:=0≤c.2.1∧c.2.1≤m∧m≤1000000000
theorem CurOk.mono{c:Cu}{m m':Nat}(h:CurOk c m)(hm:m≤m')(hm':m'≤1000000000):CurOk c m':=⟨h.1,by have:=h.2.1;omega,hm'⟩
theorem and255(x:Int):(((BitVec.ofInt 64 x &&& BitVec.ofInt 64 255).toNat:Nat):Int)≤255:=by
 have h:(BitVec.ofInt 64 x &&& BitVec.ofInt 64 255).toNat≤255:=by
  rw [BitVec.toNat_and]
  have:(BitVec.ofInt 64 255).toNat=255:=by decide
  rw [this]
  exact Nat.and_le_right
 omega
def bytesOk(ks:List Int):Prop:=∀x∈ks,0≤x∧x≤255
theorem next_ok{ks:List Int}(hk:bytesOk ks){c:Cu}{m:Nat}(h:CurOk c m)(hm:m<1000000000):∃r c',spec_l1Cur_next ks c=some (r,c')∧CurOk c' (m+1)∧0≤r∧r≤255:=by
 obtain⟨u,p,s⟩:=c
 obtain⟨h1,h2,_⟩:=h
 simp only at h1 h2
 have w:IntKind.wrap .i64 (p+1)=p+1:=w64 (by omega) (by omega)
 have hmid:∃b:Int,(0≤b∧b≤255)∧((bif (decide (p<(ks.length:Int)))then(bif (decide (0≤p))then(bif (decide (p<(ks.length:Int)))then some (Sum.inr (((),p,s),(IntKind.wrap .i64 (ks.getD (Int.toNat p) 0)),()))else none)else none)else some (Sum.inr (((),p,s),0,())):Option ((Int×Unit×Int×Int) ⊕ ((Unit×Int×Int)×Int×Unit)))=some (.inr (((),p,s),b,()))):=by
  by_cases hlt:p<(ks.length:Int)
  ·have hl:p.toNat<ks.length:=by omega
   have hb:=hk (ks.getD (Int.toNat p) 0) (by rw [List.getD_eq_getElem?_getD,List.getElem?_eq_getElem hl];exact List.getElem_mem hl)
   refine⟨ks.getD (Int.toNat p) 0,hb,?_⟩
   rw [decide_eq_true hlt,decide_eq_true h1,w64 (by omega) (by omega)]
   rfl
  ·refine⟨0,by omega,?_⟩
   rw [decide_eq_false hlt]
   rfl
 obtain⟨b,hb,hmid⟩:=hmid
 unfold spec_l1Cur_next
 simp only
 rw [hmid]
 simp only [both,Option.bind_some,w]
 by_cases hle:p+1≤(ks.length:Int)
 ·rw [decide_eq_true hle]
  exact⟨_,_,rfl,⟨by simp only;omega,by simp only;omega,by omega⟩,hb⟩
 ·rw [decide_eq_false hle]
  refine⟨_,_,rfl,⟨by simp only;omega,by simp only;omega,by omega⟩,?_⟩
  have h3:=and255 (Int.fdiv (IntKind.wrap .u64 ((IntKind.wrap .u64 ((IntKind.wrap .u64 (s*6364136223846793005))+(IntKind.wrap .u64 b)))+1442695040888963407)) (2 ^ min (Int.toNat 40) (IntKind.bits .u64)))
  have e64:IntKind.bits .u64=64:=rfl
  rw [e64]at h3 ⊢
  generalize ((BitVec.ofInt 64 (Int.fdiv (IntKind.wrap .u64 ((IntKind.wrap .u64 ((IntKind.wrap .u64 (s*6364136223846793005))+(IntKind.wrap .u64 b)))+1442695040888963407)) (2 ^ min (Int.toNat 40) 64)) &&& BitVec.ofInt 64 255).toNat:Nat)=z at h3 ⊢
  rw [wu64 (by omega) (by omega),w64 (by omega) (by omega)]
  omega
theorem tmod_rng{x n:Int}(hx:0≤x)(hn:0<n):0≤Int.tmod x n∧Int.tmod x n<n:=by
 rw [Int.tmod_eq_emod_of_nonneg hx]
 exact⟨Int.emod_nonneg _ (by omega),Int.emod_lt_of_pos _ hn⟩
theorem pick_ok{ks:List Int}(hk:bytesOk ks){c:Cu}{m:Nat}(h:CurOk c m)(hm:m+2≤1000000000){n:Int}(hn:n≤1000000):∃r c',spec_l1Cur_pick ks c n=some (r,c')∧CurOk c' (m+2)∧0≤r∧(1≤n→r<n):=by
 unfold spec_l1Cur_pick
 by_cases h1:n≤1
 ·rw [decide_eq_true h1]
  exact⟨0,_,rfl,h.mono (by omega) (by omega),by omega,by omega⟩
 ·rw [decide_eq_false h1,cond_false]
  obtain⟨r,c',e,hc,hr⟩:=next_ok hk h (by omega)
  have e:spec_l1Cur_next ks ((),c.2)=some (r,c'):=e
  have hz:(n==0)=false:=by rw [beq_eq_false_iff_ne];omega
  rw [e,Option.bind_some]
  by_cases h2:n>200
  ·rw [decide_eq_true h2,cond_true]
   obtain⟨r2,c2,e2,hc2,hr2⟩:=next_ok hk hc (by omega)
   have e2:spec_l1Cur_next ks ((),c'.2)=some (r2,c2):=e2
   rw [e2,Option.bind_some,hz]
   have w1:IntKind.wrap .i64 (r*256)=r*256:=w64 (by omega) (by omega)
   have w2:IntKind.wrap .i64 (r*256+r2)=r*256+r2:=w64 (by omega) (by omega)
   simp only [w1,w2]
   have:=tmod_rng (x:=r*256+r2) (n:=n) (by omega) (by omega)
   exact⟨_,_,rfl,hc2,this.1,fun _=>this.2⟩
  ·rw [decide_eq_false h2,cond_false,hz]
   have:=tmod_rng (x:=r) (n:=n) (by omega) (by omega)
   exact⟨_,_,rfl,hc.mono (by omega) (by omega),this.1,fun _=>this.2⟩
theorem one_ok{ks:List Int}(hk:bytesOk ks){c:Cu}{m:Nat}(h:CurOk c m)(hm:m+2≤1000000000){n:Int}(hn:n≤1000000):∃r c',spec_l1Cur_one ks c n=some (r,c')∧CurOk c' (m+2):=by
 obtain⟨r,c',e,hc,_⟩:=pick_ok hk h hm hn
 unfold spec_l1Cur_one
 have e:spec_l1Cur_pick ks ((),c.2) n=some (r,c'):=e
 rw [e]
 exact⟨_,_,rfl,hc⟩
theorem among_ok{ks:List Int}(hk:bytesOk ks){c:Cu}{m:Nat}(h:CurOk c m)(hm:m+2≤1000000000){l:List Int}(h0:l ≠ [])(hl:l.length≤1000):∃r c',spec_l1Cur_among ks c l=some (r,c')∧CurOk c' (m+2)∧r∈l:=by
 have hp:1≤l.length:=List.length_pos_iff.2 h0
 obtain⟨r,c',e,hc,hr0,hr⟩:=pick_ok hk h hm (n:=(l.length:Int)) (by omega)
 have hr:=hr (by omega)
 unfold spec_l1Cur_among
 have e:spec_l1Cur_pick ks ((),c.2) (l.length:Int)=some (r,c'):=e
 rw [e,Option.bind_some,decide_eq_true hr0,decide_eq_true hr]
 refine⟨_,_,rfl,hc,?_⟩
 have hlt:r.toNat<l.length:=by omega
 rw [List.getD_eq_getElem?_getD,List.getElem?_eq_getElem hlt]
 exact List.getElem_mem hlt

def Drw{α:Type}(P:α→Prop)(j:Nat)(f:Nat→Cu→Option (α×Cu)):Prop:=∀(c:Cu) (m:Nat),CurOk c m→m+j≤1000000000→∃v c',Evt (fun k _=>f k c) (v,c')∧CurOk c' (m+j)∧P v
theorem Drw.step{α β:Type}{P:α→Prop}{Q:β→Prop}{j i:Nat}{f:Nat→Cu→Option (α×Cu)}{g:Nat→Cu→α×Cu→Option (β×Cu)}(hf:Drw P j f)(hg:∀v,P v→Drw Q i fun k c=>g k c (v,c))(hgc:∀k c d v,g k c (v,d)=g k d (v,d)):Drw Q (j+i) fun k c=>Option.bind (f k c) fun r=>g k c r:=by
 intro c m h hm
 obtain⟨v,c',e,hc,hp⟩:=hf c m h (by omega)
 obtain⟨w,c2,e2,hc2,hq⟩:=hg v hp c' (m+j) hc (by omega)
 refine⟨w,c2,Evt.bind e ?_,hc2.mono (by omega) (by omega),hq⟩
 exact Evt.eq e2 (fun k n=>hgc k c c' v)
end Go.Ev.G

