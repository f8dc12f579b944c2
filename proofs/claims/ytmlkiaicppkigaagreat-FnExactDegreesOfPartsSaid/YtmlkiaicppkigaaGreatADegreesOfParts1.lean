/- What the plain functions of the law compute, for all inputs within the sizes that the theorems name. -/
import Derived.Test.YtmlkiaicppkigaaGreatPDegreesOfParts1
import Derived.IntWalk
import Derived.Laws.Bits64
set_option linter.unusedVariables false
namespace Go.Ev
open Go

def Evt{α:Type}(f:Nat→Nat→Option α)(r:α):Prop:=∃k0,∀k n,k0≤k→k0≤n→f k n=some r

section
variable {α β γ δ : Type}

theorem Evt.const{o:Option α}{r:α}(h:o=some r):Evt (fun _ _=>o) r:=⟨0,fun _ _ _ _=>h⟩
theorem Evt.pure{r:α}:Evt (fun _ _=>some r) r:=⟨0,fun _ _ _ _=>rfl⟩
theorem Evt.bind{f:Nat→Nat→Option α}{g:Nat→Nat→α→Option β}{a:α}{r:β}(h:Evt f a)(h':Evt (fun k n=>g k n a) r):Evt (fun k n=>Option.bind (f k n) fun x=>g k n x) r:=by
 obtain⟨k1,h1⟩:=h
 obtain⟨k2,h2⟩:=h'
 refine⟨max k1 k2,fun k n hk hn => ?_⟩
 exact(congrArg (fun o=>Option.bind o fun x=>g k n x) (h1 k n (by omega) (by omega))).trans (h2 k n (by omega) (by omega))
theorem Evt.inr{R P A:Type}{f:Nat→Nat→Option (R ⊕ P)}{G:Nat→Nat→R→Option A}{K:Nat→Nat→P→Option A}{y:P}{r:A}(h:Evt f (.inr y))(h':Evt (fun k n=>K k n y) r):Evt (fun k n=>both (f k n) (G k n) (K k n)) r:=by
 obtain⟨k1,h1⟩:=h
 obtain⟨k2,h2⟩:=h'
 refine⟨max k1 k2,fun k n hk hn => ?_⟩
 exact(congrArg (fun o=>both o (G k n) (K k n)) (h1 k n (by omega) (by omega))).trans (h2 k n (by omega) (by omega))
theorem Evt.inl{R P A:Type}{f:Nat→Nat→Option (R ⊕ P)}{G:Nat→Nat→R→Option A}{K:Nat→Nat→P→Option A}{q:R}{r:A}(h:Evt f (.inl q))(h':Evt (fun k n=>G k n q) r):Evt (fun k n=>both (f k n) (G k n) (K k n)) r:=by
 obtain⟨k1,h1⟩:=h
 obtain⟨k2,h2⟩:=h'
 refine⟨max k1 k2,fun k n hk hn => ?_⟩
 exact(congrArg (fun o=>both o (G k n) (K k n)) (h1 k n (by omega) (by omega))).trans (h2 k n (by omega) (by omega))
theorem Evt.ctrue{c:Bool}{f g:Nat→Nat→Option α}{r:α}(hc:c=true)(h:Evt f r):Evt (fun k n=>bif c then f k n else g k n) r:=by subst hc;exact h
theorem Evt.cfalse{c:Bool}{f g:Nat→Nat→Option α}{r:α}(hc:c=false)(h:Evt g r):Evt (fun k n=>bif c then f k n else g k n) r:=by subst hc;exact h
theorem Evt.diag{f:Nat→Nat→Option α}{r:α}(h:Evt f r):Evt (fun k _=>f k k) r:=by
 obtain⟨k1,h1⟩:=h
 exact⟨k1,fun k n hk _=>h1 k k hk hk⟩
theorem Evt.step{L F:Nat→Nat→Option α}{r:α}(hL:∀k n,L k (n+1)=F k n)(h:Evt F r):Evt L r:=by
 obtain⟨k1,h1⟩:=h
 refine⟨k1+1,fun k n hk hn => ?_⟩
 obtain⟨m,rfl⟩:∃m,n=m+1:=⟨n - 1,by omega⟩
 rw [hL]
 exact h1 k m (by omega) (by omega)
theorem Evt.eq{f g:Nat→Nat→Option α}{r:α}(h:Evt f r)(e:∀k n,g k n=f k n):Evt g r:=by
 obtain⟨k1,h1⟩:=h
 exact⟨k1,fun k n hk hn=>by rw [e];exact h1 k n hk hn⟩
theorem Evt.get{f:Nat→Option α}{r:α}(h:Evt (fun k _=>f k) r):∃k,f k=some r:=by
 obtain⟨k1,h1⟩:=h
 exact⟨k1,h1 k1 k1 (Nat.le_refl _) (Nat.le_refl _)⟩
end

def lenB:Nat:=4611686018427387904
theorem w64{n:Int}(h0 : -9223372036854775808≤n)(h1:n≤9223372036854775807):IntKind.wrap .i64 n=n:=by rw [IntKind.wrap_i64];omega
theorem w64_next{m:Nat}(h:m<lenB):IntKind.wrap .i64 ((m:Int)+1)=((m+1:Nat):Int):=by
 simp only [lenB]at h
 rw [w64] <;> omega
theorem wu64{n:Int}(h0:0≤n)(h1:n≤18446744073709551615):IntKind.wrap .u64 n=n:=by
 rw [IntKind.wrap_u64];omega

section
variable {α : Type}
theorem mid_lt{d r:List α}{e:α}:decide ((d.length:Int)<((d++e::r).length:Int))=true:=by simp;omega
theorem mid_ge{m:Nat}:decide ((0:Int)≤(m:Int))=true:=by simp
theorem mid_get{d r:List α}{e z:α}:(d++e::r).getD (Int.toNat (d.length:Int)) z=e:=by simp
theorem mid_set{d r:List α}{e v:α}:(d++e::r).set (Int.toNat (d.length:Int)) v=d++v::r:=by simp
theorem mid_end{d:List α}:decide ((d.length:Int)<(d.length:Int))=false:=by simp
end
end Go.Ev

namespace Go.Ev
open Go

def roomN(n:Nat):Nat:=if n % 6=5 then 0 else if n % 3=0 then 1 else n

def toV{β γ:Type}(f:β→γ)(v:γ)(a:List β)(b:Bool):List γ×List γ:=if b=true∧a = []then([],[])else(a.map f,List.replicate (roomN a.length) v)

section
variable {β γ R : Type}

theorem to_loop{dβ:β}{L:Nat→Nat→List β→List γ→Int→Option (R ⊕ (List β×List γ×Unit))}{F:Nat→β→Option γ}{f:β→γ}
  (hL:∀k n x0 x5 x6,L k (n+1) x0 x5 x6=(bif (decide (x6<(x0.length:Int)))then(bif (decide (0≤x6))then(bif (decide (x6<(x0.length:Int)))then(Option.bind (F k (x0.getD (Int.toNat x6) dβ)) fun r3=>(bif (decide (0≤x6))then(bif (decide (x6<(x5.length:Int)))then(L k n x0 (x5.set (Int.toNat x6) r3) (IntKind.wrap .i64 (x6+1)))else none)else none))else none)else none)else some (Sum.inr (x0,x5,())))) :
  ∀(r d:List β) (d' r':List γ),d'.length=d.length→r.length≤r'.length→(d++r).length<lenB→(∀x∈r,Evt (fun k _=>F k x) (f x)) →
   Evt (fun k n=>L k n (d++r) (d'++r') d.length) (.inr (d++r,d'++r.map f++r'.drop r.length,()))
 | [],d,d',r',h1,h2,h3,h4=>by
  refine Evt.step (fun k n=>hL k n _ _ _) ?_
  simp only [List.append_nil,mid_end,List.map_nil,List.length_nil,List.drop_zero]
  exact Evt.cfalse rfl .pure
 | x::r,d,d',[],h1,h2,h3,h4=>by simp at h2
 | x::r,d,d',y::r',h1,h2,h3,h4=>by
  refine Evt.step (fun k n=>hL k n _ _ _) ?_
  refine Evt.ctrue mid_lt (Evt.ctrue mid_ge (Evt.ctrue mid_lt ?_))
  rw [mid_get]
  refine Evt.bind (h4 x (by simp)) (Evt.ctrue mid_ge (Evt.ctrue (by rw [←h1];exact mid_lt) ?_))
  rw [←h1,mid_set,w64_next (by simp at h3;omega),h1]
  have:=to_loop hL r (d ++ [x]) (d' ++ [f x]) r' (by simp [h1]) (by simpa using h2) (by simpa using h3) (fun z hz=>h4 z (by simp [hz]))
  simpa using this

theorem fill_loop{x0:β}{v:γ}{L:Nat→Nat→List γ→Int→Option (R ⊕ (β×List γ×Unit))}
  (hL:∀k n x5 x7,L k (n+1) x5 x7=(bif (decide (x7<(x5.length:Int)))then(bif (decide (0≤x7))then(bif (decide (x7<(x5.length:Int)))then(L k n (x5.set (Int.toNat x7) v) (IntKind.wrap .i64 (x7+1)))else none)else none)else some (Sum.inr (x0,x5,())))) :
  ∀(r d:List γ),(d++r).length<lenB→Evt (fun k n=>L k n (d++r) d.length) (.inr (x0,d++List.replicate r.length v,()))
 | [],d,h=>by
  refine Evt.step (fun k n=>hL k n _ _) ?_
  simp only [List.append_nil,mid_end,List.length_nil,List.replicate_zero]
  exact Evt.cfalse rfl .pure
 | x::r,d,h=>by
  refine Evt.step (fun k n=>hL k n _ _) ?_
  refine Evt.ctrue mid_lt (Evt.ctrue mid_ge (Evt.ctrue mid_lt ?_))
  rw [mid_set,w64_next (by simp at h;omega)]
  have:=fill_loop hL r (d ++ [v]) (by simpa using h)
  simpa [List.replicate_succ] using this

theorem to_all{dβ:β}{dγ v:γ}{T:Nat→Option (List γ×List γ)}{room:Int→Option Int}{F:Nat→β→Option γ}{f:β→γ}{a:List β}{b:Bool}
  {L1:Nat→Nat→List β→List γ→Int→Option ((List γ×List γ) ⊕ (List β×List γ×Unit))} {L2:Nat→Nat→List β→List γ→Int→Option ((List γ×List γ) ⊕ (List β×List γ×Unit))}
  (hroom:∀n:Nat,room n=some (roomN n:Int))
  (hL1:∀k n x0 x5 x6,L1 k (n+1) x0 x5 x6=(bif (decide (x6<(x0.length:Int)))then(bif (decide (0≤x6))then(bif (decide (x6<(x0.length:Int)))then(Option.bind (F k (x0.getD (Int.toNat x6) dβ)) fun r3=>(bif (decide (0≤x6))then(bif (decide (x6<(x5.length:Int)))then(L1 k n x0 (x5.set (Int.toNat x6) r3) (IntKind.wrap .i64 (x6+1)))else none)else none))else none)else none)else some (Sum.inr (x0,x5,()))))
  (hL2:∀k n x0 x5 x7,L2 k (n+1) x0 x5 x7=(bif (decide (x7<(x5.length:Int)))then(bif (decide (0≤x7))then(bif (decide (x7<(x5.length:Int)))then(L2 k n x0 (x5.set (Int.toNat x7) v) (IntKind.wrap .i64 (x7+1)))else none)else none)else some (Sum.inr (x0,x5,()))))
  (hT:∀k,T k=(bif b&&((a.length:Int)==0)then some ([],[])else(Option.bind (room (a.length:Int)) fun r2=>(bif (decide (0≤(IntKind.wrap .i64 ((a.length:Int)+r2))))then(bif (decide ((Int.toNat (IntKind.wrap .i64 ((a.length:Int)+r2)))<274877906944))then(both (R:=List γ×List γ) (P:=List β×List γ×Unit) (L1 k k a (List.replicate (Int.toNat (IntKind.wrap .i64 ((a.length:Int)+r2))) dγ) 0) (fun q5=>some q5) (fun y4=>(both (R:=List γ×List γ) (P:=List β×List γ×Unit) (L2 k k y4.1 y4.2.1 (y4.1.length:Int)) (fun q8=>some q8) (fun y7=>(bif (decide (0≤(y7.1.length:Int)))then(bif (decide ((y7.1.length:Int)≤(y7.2.1.length:Int)))then some ((y7.2.1.take (Int.toNat (y7.1.length:Int))),(y7.2.1.drop (Int.toNat (y7.1.length:Int))))else none)else none)))))else none)else none))))
  (ha:a.length≤1000000) (hF:∀x∈a,Evt (fun k _=>F k x) (f x)):Evt (fun k _=>T k) (toV f v a b):=by
 have hr:roomN a.length≤a.length+1:=by unfold roomN;split <;> (try split) <;> omega
 refine Evt.eq ?_ (fun k n=>hT k)
 by_cases hb:b=true∧a = []
 ·refine Evt.ctrue (by simp [hb.1,hb.2]) ?_
  rw [toV,if_pos hb]
  exact .pure
 ·refine Evt.cfalse ?_ ?_
  ·cases b with
   | false=>rfl
   | true =>
    have:a ≠ []:=fun h=>hb ⟨rfl,h⟩
    simp [this]
  rw [toV,if_neg hb]
  refine Evt.bind (.const (hroom _)) ?_
  have hw:IntKind.wrap .i64 ((a.length:Int)+(roomN a.length:Int))=((a.length+roomN a.length:Nat):Int):=by rw [w64] <;> omega
  rw [hw]
  refine Evt.ctrue mid_ge (Evt.ctrue (by simp <;> omega) ?_)
  have h1:=to_loop hL1 a [] [] (List.replicate (Int.toNat ((a.length+roomN a.length:Nat):Int)) dγ) rfl (by simp <;> omega) (by simp [lenB];omega) hF
  simp only [List.nil_append,List.length_nil]at h1
  refine Evt.inr (Evt.diag h1) ?_
  have h2:=fill_loop (x0:=a) (L:=fun k n=>L2 k n a) (fun k n x5 x7=>hL2 k n a x5 x7) (List.drop a.length (List.replicate (Int.toNat ((a.length+roomN a.length:Nat):Int)) dγ)) (a.map f) (by simp [lenB];omega)
  simp only [List.length_map]at h2
  refine Evt.inr (Evt.diag h2) ?_
  have e:(((a.length+roomN a.length:Nat):Int)).toNat=a.length+roomN a.length:=by omega
  rw [e]
  refine Evt.ctrue mid_ge (Evt.ctrue (by simp <;> omega) ?_)
  refine Evt.const ?_
  simp

theorem eq_loop{d0:γ}{Q:Nat→γ→γ→Option Bool}{L:Nat→Nat→List γ→List γ→Int→Option (Bool ⊕ Unit)}
  (hL:∀k n x0 x1 x5,L k (n+1) x0 x1 x5=(bif (decide (x5<(x0.length:Int)))then(bif (decide (0≤x5))then(bif (decide (x5<(x0.length:Int)))then(bif (decide (0≤x5))then(bif (decide (x5<(x1.length:Int)))then(Option.bind (Q k (x0.getD (Int.toNat x5) d0) (x1.getD (Int.toNat x5) d0)) fun r1=>(bif (!r1)then some (Sum.inl false)else(L k n x0 x1 (IntKind.wrap .i64 (x5+1)))))else none)else none)else none)else none)else some (Sum.inr ()))) :
  ∀(r d:List γ),(d++r).length<lenB→(∀x∈r,Evt (fun k _=>Q k x x) true)→Evt (fun k n=>L k n (d++r) (d++r) d.length) (.inr ())
 | [],d,h,_=>by
  refine Evt.step (fun k n=>hL k n _ _ _) ?_
  simp only [List.append_nil,mid_end]
  exact Evt.cfalse rfl .pure
 | x::r,d,h,hQ=>by
  refine Evt.step (fun k n=>hL k n _ _ _) ?_
  refine Evt.ctrue mid_lt (Evt.ctrue mid_ge (Evt.ctrue mid_lt (Evt.ctrue mid_ge (Evt.ctrue mid_lt ?_))))
  rw [mid_get]
  refine Evt.bind (hQ x (by simp)) (Evt.cfalse rfl ?_)
  rw [w64_next (by simp at h;omega)]
  have:=eq_loop hL r (d ++ [x]) (by simpa using h) (fun z hz=>hQ z (by simp [hz]))
  simpa using this

theorem eq_all{d0:γ}{Q:Nat→γ→γ→Option Bool}{L:Nat→Nat→List γ→List γ→Int→Option (Bool ⊕ Unit)}{E:Nat→List γ→List γ→Option Bool}
  (hL:∀k n x0 x1 x5,L k (n+1) x0 x1 x5=(bif (decide (x5<(x0.length:Int)))then(bif (decide (0≤x5))then(bif (decide (x5<(x0.length:Int)))then(bif (decide (0≤x5))then(bif (decide (x5<(x1.length:Int)))then(Option.bind (Q k (x0.getD (Int.toNat x5) d0) (x1.getD (Int.toNat x5) d0)) fun r1=>(bif (!r1)then some (Sum.inl false)else(L k n x0 x1 (IntKind.wrap .i64 (x5+1)))))else none)else none)else none)else none)else some (Sum.inr ())))
  (hE:∀k x0 x1,E k x0 x1=(bif ((x0.length:Int) != (x1.length:Int))then some false else(both (R:=Bool) (P:=Unit) (L k k x0 x1 0) (fun q3=>some q3) (fun _=>some true))))
  {x:List γ} (h:x.length<lenB) (hQ:∀z∈x,Evt (fun k _=>Q k z z) true):Evt (fun k _=>E k x x) true:=by
 refine Evt.eq ?_ (fun k n=>hE k x x)
 refine Evt.cfalse (by simp) ?_
 have:=eq_loop hL x [] (by simpa using h) hQ
 simp only [List.nil_append,List.length_nil]at this
 exact Evt.inr (Evt.diag this) .pure

def MarkOk(mark:Nat→γ→Int→Option (Int×γ))(held:Nat→γ→Int→Option Int)(w:γ→Nat):Prop :=
 ∀x (a:Nat),a+w x<lenB→∃y,Evt (fun k _=>mark k x a) (((a+w x:Nat):Int),y)∧Evt (fun k _=>held k y a) ((a+w x:Nat):Int)∧w y=w x

theorem mark_loop{M:Nat→Nat→List γ→Int→Int→Option ((Int×List γ) ⊕ (Int×List γ×Unit))}{H:Nat→Nat→List γ→Int→Int→Option (Int ⊕ (Int×Unit))}{mv:Nat→γ}{c:Nat}
  (hM:∀(k n:Nat) (d r:List γ) (e:γ) (a:Nat),a+c<lenB→(d++e::r).length<lenB→M k (n+1) (d++e::r) a d.length=M k n (d++mv a::r) ((a+c:Nat):Int) ((d.length+1:Nat):Int))
  (hM0:∀(k n:Nat) (d:List γ) (a:Int),M k (n+1) d a d.length=some (.inr (a,d,())))
  (hH:∀(k n:Nat) (d r:List γ) (a:Nat),a+c<lenB→(d++mv a::r).length<lenB→H k (n+1) (d++mv a::r) a d.length=H k n (d++mv a::r) ((a+c:Nat):Int) ((d.length+1:Nat):Int))
  (hH0:∀(k n:Nat) (d:List γ) (a:Int),H k (n+1) d a d.length=some (.inr (a,()))) :
  ∀(r d:List γ) (a:Nat),a+c*r.length<lenB→(d++r).length<lenB→∃y:List γ,y.length=r.length∧Evt (fun k n=>M k n (d++r) a d.length) (.inr (((a+c*r.length:Nat):Int),d++y,())) ∧
   ∀d2:List γ,(d2++y).length<lenB→Evt (fun k n=>H k n (d2++y) a d2.length) (.inr (((a+c*r.length:Nat):Int),()))
 | [],d,a,_,_=>by
  refine⟨[],rfl,?_,fun d2 _ => ?_⟩
  ·exact Evt.step (F:=fun _ _=>some (.inr (((a+c*([]:List γ).length:Nat):Int),d ++ [],()))) (fun k n=>by simpa using hM0 k n d a) .pure
  ·exact Evt.step (F:=fun _ _=>some (.inr (((a+c*([]:List γ).length:Nat):Int),()))) (fun k n=>by simpa using hH0 k n d2 a) .pure
 | e::r,d,a,ha,hd=>by
  have hc:a+c<lenB:=by
   have:c≤c*(e::r).length:=Nat.le_mul_of_pos_right _ (by simp)
   omega
  have hs:a+c+c*r.length=a+c*(e::r).length:=by simp [Nat.mul_add];omega
  obtain⟨y,h1,h2,h3⟩:=mark_loop hM hM0 hH hH0 r (d ++ [mv a]) (a+c) (by omega) (by simpa using hd)
  refine⟨mv a::y,by simp [h1],Evt.step (fun k n=>hM k n d r e a hc hd) ?_,fun d2 hd2=>Evt.step (fun k n=>hH k n d2 y a hc hd2) ?_⟩
  ·rw [hs]at h2
   simpa using h2
  ·have:=h3 (d2 ++ [mv a]) (by simpa using hd2)
   rw [hs]at this
   simpa using this

theorem mark_all{M:Nat→Nat→List γ→Int→Int→Option ((Int×List γ) ⊕ (Int×List γ×Unit))}{H:Nat→Nat→List γ→Int→Int→Option (Int ⊕ (Int×Unit))}{mark:Nat→List γ→Int→Option (Int×List γ)}{held:Nat→List γ→Int→Option Int}{mv:Nat→γ}{c:Nat}
  (hc:0<c)
  (hM:∀(k n:Nat) (d r:List γ) (e:γ) (a:Nat),a+c<lenB→(d++e::r).length<lenB→M k (n+1) (d++e::r) a d.length=M k n (d++mv a::r) ((a+c:Nat):Int) ((d.length+1:Nat):Int))
  (hM0:∀(k n:Nat) (d:List γ) (a:Int),M k (n+1) d a d.length=some (.inr (a,d,())))
  (hH:∀(k n:Nat) (d r:List γ) (a:Nat),a+c<lenB→(d++mv a::r).length<lenB→H k (n+1) (d++mv a::r) a d.length=H k n (d++mv a::r) ((a+c:Nat):Int) ((d.length+1:Nat):Int))
  (hH0:∀(k n:Nat) (d:List γ) (a:Int),H k (n+1) d a d.length=some (.inr (a,())))
  (hmark:∀k x a,mark k x a=both (R:=Int×List γ) (P:=Int×List γ×Unit) (M k k x a 0) (fun q=>some q) (fun y=>some (y.1,y.2.1)))
  (hheld:∀k x a,held k x a=both (R:=Int) (P:=Int×Unit) (H k k x a 0) (fun q=>some q) (fun y=>some y.1)) :
  MarkOk mark held (fun x=>c*x.length):=by
 intro x a ha
 simp only at ha
 have hx:x.length<lenB:=Nat.lt_of_le_of_lt (Nat.le_mul_of_pos_left _ hc) (by omega)
 obtain⟨y,h1,h2,h3⟩:=mark_loop hM hM0 hH hH0 x [] a ha (by simpa using hx)
 refine⟨y,Evt.eq ?_ (fun k _=>hmark k x a),Evt.eq ?_ (fun k _=>hheld k y a),by simp [h1]⟩
 ·simp only [List.nil_append,List.length_nil]at h2
  exact Evt.inr (Evt.diag h2) .pure
 ·have:=h3 [] (by simp [h1];exact hx)
  simp only [List.nil_append,List.length_nil]at this
  exact Evt.inr (Evt.diag this) .pure

theorem mark_rows{d0:γ}{M:Nat→Nat→List γ→Int→Int→Option ((Int×List γ) ⊕ (Int×List γ×Unit))}{H:Nat→Nat→List γ→Int→Int→Option (Int ⊕ (Int×Unit))}{mark:Nat→γ→Int→Option (Int×γ)}{held:Nat→γ→Int→Option Int}{w:γ→Nat}(hw:MarkOk mark held w)
  (hM:∀(k n:Nat) (x:List γ) (a i:Int),M k (n+1) x a i=(bif (decide (i<(x.length:Int)))then(bif (decide (0≤i))then(bif (decide (i<(x.length:Int)))then(Option.bind (mark k (x.getD (Int.toNat i) d0) a) fun r=>M k n (x.set (Int.toNat i) r.2) r.1 (IntKind.wrap .i64 (i+1)))else none)else none)else some (.inr (a,x,()))))
  (hH:∀(k n:Nat) (x:List γ) (a i:Int),H k (n+1) x a i=(bif (decide (i<(x.length:Int)))then(bif (decide (0≤i))then(bif (decide (i<(x.length:Int)))then(Option.bind (held k (x.getD (Int.toNat i) d0) a) fun r=>bif (decide (r<0))then some (.inl (-1))else H k n x r (IntKind.wrap .i64 (i+1)))else none)else none)else some (.inr (a,())))) :
  ∀(r d:List γ) (a:Nat),a+(r.map w).sum<lenB→(d++r).length<lenB→∃y:List γ,y.length=r.length∧y.map w=r.map w∧Evt (fun k n=>M k n (d++r) a d.length) (.inr (((a+(r.map w).sum:Nat):Int),d++y,())) ∧
   ∀d2:List γ,(d2++y).length<lenB→Evt (fun k n=>H k n (d2++y) a d2.length) (.inr (((a+(r.map w).sum:Nat):Int),()))
 | [],d,a,_,_=>by
  refine⟨[],rfl,rfl,Evt.step (fun k n=>hM k n _ _ _) ?_,fun d2 _=>Evt.step (fun k n=>hH k n _ _ _) ?_⟩
  ·refine Evt.cfalse (by simp) ?_
   simpa using Evt.pure
  ·refine Evt.cfalse (by simp) ?_
   simpa using Evt.pure
 | e::r,d,a,ha,hd=>by
  simp only [List.map_cons,List.sum_cons]at ha
  obtain⟨y0,m1,m2,m3⟩:=hw e a (by omega)
  obtain⟨y,h1,h1',h2,h3⟩:=mark_rows hw hM hH r (d ++ [y0]) (a+w e) (by omega) (by simpa using hd)
  have hs:a+w e+(r.map w).sum=a+((e::r).map w).sum:=by simp <;> omega
  refine⟨y0::y,by simp [h1],by simp [h1',m3],Evt.step (fun k n=>hM k n _ _ _) ?_,fun d2 hd2=>Evt.step (fun k n=>hH k n _ _ _) ?_⟩
  ·refine Evt.ctrue mid_lt (Evt.ctrue mid_ge (Evt.ctrue mid_lt ?_))
   rw [mid_get]
   refine Evt.bind m1 ?_
   rw [mid_set,w64_next (by simp at hd;omega)]
   rw [hs]at h2
   simpa using h2
  ·refine Evt.ctrue mid_lt (Evt.ctrue mid_ge (Evt.ctrue mid_lt ?_))
   rw [mid_get]
   refine Evt.bind m2 (Evt.cfalse (by simp <;> omega) ?_)
   rw [w64_next (by simp at hd2;omega)]
   have:=h3 (d2 ++ [y0]) (by simpa using hd2)
   rw [hs]at this
   simpa using this

theorem mark_rows_all{d0:γ}{M:Nat→Nat→List γ→Int→Int→Option ((Int×List γ) ⊕ (Int×List γ×Unit))}{H:Nat→Nat→List γ→Int→Int→Option (Int ⊕ (Int×Unit))}{mark:Nat→γ→Int→Option (Int×γ)}{held:Nat→γ→Int→Option Int}{w:γ→Nat}(hw:MarkOk mark held w)
  {marks:Nat→List γ→Int→Option (Int×List γ)} {helds:Nat→List γ→Int→Option Int}
  (hM:∀(k n:Nat) (x:List γ) (a i:Int),M k (n+1) x a i=(bif (decide (i<(x.length:Int)))then(bif (decide (0≤i))then(bif (decide (i<(x.length:Int)))then(Option.bind (mark k (x.getD (Int.toNat i) d0) a) fun r=>M k n (x.set (Int.toNat i) r.2) r.1 (IntKind.wrap .i64 (i+1)))else none)else none)else some (.inr (a,x,()))))
  (hH:∀(k n:Nat) (x:List γ) (a i:Int),H k (n+1) x a i=(bif (decide (i<(x.length:Int)))then(bif (decide (0≤i))then(bif (decide (i<(x.length:Int)))then(Option.bind (held k (x.getD (Int.toNat i) d0) a) fun r=>bif (decide (r<0))then some (.inl (-1))else H k n x r (IntKind.wrap .i64 (i+1)))else none)else none)else some (.inr (a,()))))
  (hmark:∀k x a,marks k x a=both (R:=Int×List γ) (P:=Int×List γ×Unit) (M k k x a 0) (fun q=>some q) (fun y=>some (y.1,y.2.1)))
  (hheld:∀k x a,helds k x a=both (R:=Int) (P:=Int×Unit) (H k k x a 0) (fun q=>some q) (fun y=>some y.1)) {x:List γ} (hx:x.length<lenB) {a:Nat} (ha:a+(x.map w).sum<lenB) :
  ∃y,Evt (fun k _=>marks k x a) (((a+(x.map w).sum:Nat):Int),y)∧Evt (fun k _=>helds k y a) ((a+(x.map w).sum:Nat):Int):=by
 obtain⟨y,h1,_,h2,h3⟩:=mark_rows hw hM hH x [] a ha (by simpa using hx)
 refine⟨y,Evt.eq ?_ (fun k _=>hmark k x a),Evt.eq ?_ (fun k _=>hheld k y a)⟩
 ·simp only [List.nil_append,List.length_nil]at h2
  exact Evt.inr (Evt.diag h2) .pure
 ·have:=h3 [] (by simp [h1];exact hx)
  simp only [List.nil_append,List.length_nil]at this
  exact Evt.inr (Evt.diag this) .pure

theorem sz_rows{d0:List γ}{S:Nat→Nat→List (List γ)→Int→Int→Option (Int ⊕ (Int×Unit))}{sz:List γ→Int→Option Int}
  (hsz:∀x a,sz x a=(bif (decide ((IntKind.wrap .i64 (a - (x.length:Int)))<0))then some (-1)else some (IntKind.wrap .i64 (a - (x.length:Int)))))
  (hS:∀(k n:Nat) (x:List (List γ)) (a i:Int),S k (n+1) x a i=(bif (decide (i<(x.length:Int)))then(bif (decide (0≤i))then(bif (decide (i<(x.length:Int)))then(Option.bind (sz (x.getD (Int.toNat i) d0) a) fun r=>bif (decide (r<0))then some (.inl (-1))else S k n x r (IntKind.wrap .i64 (i+1)))else none)else none)else some (.inr (a,())))) :
  ∀(r d:List (List γ)) (a:Nat),a≤1000000→(d++r).length<lenB→(∀x∈r,x.length≤maxLen)→Evt (fun k n=>S k n (d++r) a d.length) (if (r.map List.length).sum≤a then .inr (((a - (r.map List.length).sum:Nat):Int),())else .inl (-1))
 | [],d,a,_,_,_=>by
  refine Evt.step (fun k n=>hS k n _ _ _) (Evt.cfalse (by simp) ?_)
  simpa using Evt.pure
 | e::r,d,a,ha,hd,hm=>by
  refine Evt.step (fun k n=>hS k n _ _ _) ?_
  refine Evt.ctrue mid_lt (Evt.ctrue mid_ge (Evt.ctrue mid_lt ?_))
  rw [mid_get]
  have hme:=hm e (by simp)
  simp only [maxLen]at hme
  have hw:IntKind.wrap .i64 ((a:Int) - (e.length:Int))=(a:Int) - (e.length:Int):=by rw [w64] <;> omega
  by_cases hle:e.length≤a
  ·have h1:sz e a=some (((a - e.length:Nat):Int)):=by
    rw [hsz,hw]
    have:decide ((a:Int) - (e.length:Int)<0)=false:=by simp <;> omega
    rw [this]
    simp only [cond_false]
    congr 1
    omega
   refine Evt.bind (.const h1) (Evt.cfalse (by simp <;> omega) ?_)
   rw [w64_next (by simp at hd;omega)]
   have:=sz_rows hsz hS r (d ++ [e]) (a - e.length) (by omega) (by simpa using hd) (fun x hx=>hm x (by simp [hx]))
   simp only [List.map_cons,List.sum_cons]
   have hiff:((r.map List.length).sum≤a - e.length)↔(e.length+(r.map List.length).sum≤a):=by omega
   rw [show a - (e.length+(r.map List.length).sum)=a - e.length - (r.map List.length).sum by omega]
   simp only [hiff]at this
   simpa using this
  ·have h1:sz e a=some (-1):=by
    rw [hsz,hw]
    have:decide ((a:Int) - (e.length:Int)<0)=true:=by simp <;> omega
    rw [this]
    rfl
   refine Evt.bind (.const h1) (Evt.ctrue rfl ?_)
   rw [if_neg (by simp <;> omega)]
   exact .pure

theorem sz_one{sz:List γ→Int→Option Int}
  (hsz:∀x a,sz x a=(bif (decide ((IntKind.wrap .i64 (a - (x.length:Int)))<0))then some (-1)else some (IntKind.wrap .i64 (a - (x.length:Int))))) {x:List γ} (hx:x.length≤maxLen) {a:Nat} (ha:a≤1000000) :
  sz x a=some (if x.length≤a then((a - x.length:Nat):Int)else -1):=by
 simp only [maxLen]at hx
 have hw:IntKind.wrap .i64 ((a:Int) - (x.length:Int))=(a:Int) - (x.length:Int):=by rw [w64] <;> omega
 rw [hsz,hw]
 by_cases h:x.length≤a
 ·have:decide ((a:Int) - (x.length:Int)<0)=false:=by simp <;> omega
  rw [this,if_pos h]
  simp only [cond_false]
  congr 1
  omega
 ·have:decide ((a:Int) - (x.length:Int)<0)=true:=by simp <;> omega
  rw [this,if_neg h]
  rfl

theorem sz_all{d0:List γ}{S:Nat→Nat→List (List γ)→Int→Int→Option (Int ⊕ (Int×Unit))}{sz:List γ→Int→Option Int}{szs:Nat→List (List γ)→Int→Option Int}
  (hsz:∀x a,sz x a=(bif (decide ((IntKind.wrap .i64 (a - (x.length:Int)))<0))then some (-1)else some (IntKind.wrap .i64 (a - (x.length:Int)))))
  (hS:∀(k n:Nat) (x:List (List γ)) (a i:Int),S k (n+1) x a i=(bif (decide (i<(x.length:Int)))then(bif (decide (0≤i))then(bif (decide (i<(x.length:Int)))then(Option.bind (sz (x.getD (Int.toNat i) d0) a) fun r=>bif (decide (r<0))then some (.inl (-1))else S k n x r (IntKind.wrap .i64 (i+1)))else none)else none)else some (.inr (a,()))))
  (hszs:∀k x a,szs k x a=(bif (decide ((IntKind.wrap .i64 (a - (x.length:Int)))<0))then some (-1)else(both (R:=Int) (P:=Int×Unit) (S k k x (IntKind.wrap .i64 (a - (x.length:Int))) 0) (fun q4=>some q4) (fun y3=>some y3.1))))
  {x:List (List γ)} (hx:x.length≤maxLen) (hm:∀y∈x,y.length≤maxLen) {a:Nat} (ha:a≤1000000) :
  Evt (fun k _=>szs k x a) (if x.length+(x.map List.length).sum≤a then((a - (x.length+(x.map List.length).sum):Nat):Int)else -1):=by
 simp only [maxLen]at hx
 have hw:IntKind.wrap .i64 ((a:Int) - (x.length:Int))=(a:Int) - (x.length:Int):=by rw [w64] <;> omega
 refine Evt.eq ?_ (fun k _=>hszs k x a)
 rw [hw]
 by_cases h:x.length≤a
 ·refine Evt.cfalse (by simp <;> omega) ?_
  have e:(a:Int) - (x.length:Int)=((a - x.length:Nat):Int):=by omega
  rw [e]
  have:=sz_rows hsz hS x [] (a - x.length) (by omega) (by simp [lenB];omega) hm
  simp only [List.nil_append,List.length_nil]at this
  by_cases h2:(x.map List.length).sum≤a - x.length
  ·rw [if_pos h2]at this
   rw [if_pos (by omega)]
   refine Evt.inr (Evt.diag this) (.const ?_)
   simp only
   congr 2
   omega
  ·rw [if_neg h2]at this
   rw [if_neg (by omega)]
   exact Evt.inl (Evt.diag this) .pure
 ·rw [if_neg (by omega)]
  exact Evt.ctrue (by simp <;> omega) .pure
end
end Go.Ev

namespace Go.Ev
open Go

section
variable {α β : Type}

theorem Evt.rng0{d:List α}{F G:Nat→Nat→Option β}{res:β}(h:Evt G res):Evt (fun k n=>bif (decide ((d.length:Int)<(d.length:Int)))then F k n else G k n) res:=Evt.cfalse mid_end h

theorem len_next{d r:List α}{e:α}(h:(d++e::r).length<lenB):IntKind.wrap .i64 ((d.length:Int)+1)=((d ++ [e]).length:Int):=by
 rw [w64_next (by simp at h;omega)];simp

theorem findIdx?_any{P:α→Bool}(xs:List α):(xs.findIdx? P).isSome=xs.any P:=by
 induction xs with
 | nil=>rfl
 | cons x xs ih =>
  rw [List.findIdx?_cons,List.any_cons]
  cases P x with
  | true=>rfl
  | false=>simp [ih]
end
end Go.Ev

namespace Go.Ev.G
open Go Go.Ev
set_option maxRecDepth 100000

theorem room_eq(n:Nat):laws_roomBehind n=some (roomN n:Int):=by
 unfold laws_roomBehind roomN
 have h6:Int.tmod (n:Int) 6=((n % 6:Nat):Int):=rfl
 have h3:Int.tmod (n:Int) 3=((n % 3:Nat):Int):=rfl
 rw [h6,h3]
 by_cases h:n % 6=5
 ·have e:((((n % 6:Nat):Int))==5)=true:=by rw [h];rfl
  rw [e,if_pos h];rfl
 ·have e:((((n % 6:Nat):Int))==5)=false:=by
   rw [beq_eq_false_iff_ne];omega
  rw [e,if_neg h]
  by_cases h':n % 3=0
  ·have e:((((n % 3:Nat):Int))==0)=true:=by rw [h'];rfl
   rw [e,if_pos h'];rfl
  ·have e:((((n % 3:Nat):Int))==0)=false:=by
    rw [beq_eq_false_iff_ne];omega
   rw [e,if_neg h'];rfl

theorem room_le(n:Nat):roomN n≤n+1:=by unfold roomN;split <;> (try split) <;> omega

def fI:Int := -7000000000000000101
def fT:Int×Int×Int×Int:=(fI,fI,fI,fI)

theorem toIntS_ev{a:List Int}{b:Bool}(ha:a.length≤1000000):Evt (fun k _=>laws_toIntS k a b) (toV id fI a b) :=
 to_all (dβ:=0) (dγ:=0) (F:=fun _ x=>some x) (L1:=laws_toIntS_L122) (L2:=laws_toIntS_L250) room_eq (fun _ _ _ _ _=>rfl) (fun _ _ _ _ _=>rfl)
  (fun k=>by unfold laws_toIntS;cases b <;> cases a <;> rfl) ha (fun _ _ => .pure)

theorem toTermS_ev{a:List (Int×Int×Int×Int)}{b:Bool}(ha:a.length≤1000000):Evt (fun k _=>laws_toTermS k a b) (toV id fT a b) :=
 to_all (dβ:=(0,0,0,0)) (dγ:=(0,0,0,0)) (F:=fun _ x=>laws_toTerm x) (L1:=laws_toTermS_L122) (L2:=laws_toTermS_L250) room_eq (fun _ _ _ _ _=>rfl) (fun _ _ _ _ _=>rfl)
  (fun k=>by unfold laws_toTermS;cases b <;> cases a <;> rfl) ha (fun _ _ => .pure)

theorem toTermSS_ev{a:List (List (Int×Int×Int×Int))}{b:Bool}(ha:a.length≤1000000)(hm:∀x∈a,x.length≤1000000):Evt (fun k _=>laws_toTermSS k a b) (toV (fun x=>toV id fT x b) ([fT],[]) a b) :=
 to_all (dβ := []) (dγ:=([],[])) (F:=fun k x=>laws_toTermS k x b) (L1:=fun k n x0 x5 x6=>laws_toTermSS_L122 k n x0 b x5 x6) (L2:=laws_toTermSS_L250) room_eq (fun _ _ _ _ _=>rfl) (fun _ _ _ _ _=>rfl)
  (fun k=>by unfold laws_toTermSS;cases b <;> cases a <;> rfl) ha (fun x hx=>toTermS_ev (hm x hx))

theorem eqIntS_ev{x:List Int}(h:x.length<lenB):Evt (fun k _=>laws_eqIntS k x x) true :=
 eq_all (d0:=0) (Q:=fun _ a b=>some (!(a != b))) (L:=laws_eqIntS_L58) (E:=laws_eqIntS) (fun k n x0 x1 x5=>by simp only [Option.bind_some,Bool.not_not];rfl) (fun _ _ _=>rfl) h (fun z _ => .const (by simp))
theorem eqTerm_rfl(x:Int×Int×Int×Int):laws_eqTerm x x=some true:=by simp [laws_eqTerm]
theorem eqTermS_ev{x:List (Int×Int×Int×Int)}(h:x.length<lenB):Evt (fun k _=>laws_eqTermS k x x) true :=
 eq_all (d0:=(0,0,0,0)) (Q:=fun _ a b=>laws_eqTerm a b) (L:=laws_eqTermS_L58) (E:=laws_eqTermS) (fun k n x0 x1 x5=>rfl) (fun _ _ _=>rfl) h (fun z _ => .const (eqTerm_rfl z))
theorem eqTermSS_ev{x:List (List (Int×Int×Int×Int))}(h:x.length<lenB)(hm:∀y∈x,y.length<lenB):Evt (fun k _=>laws_eqTermSS k x x) true :=
 eq_all (d0 := []) (Q:=fun k a b=>laws_eqTermS k a b) (L:=laws_eqTermSS_L58) (E:=laws_eqTermSS) (fun k n x0 x1 x5=>rfl) (fun _ _ _=>rfl) h (fun z hz=>eqTermS_ev (hm z hz))


def Room{γ:Type}(x:List γ×List γ):Prop:=x.2.length=roomN x.1.length∧x.1.length≤1000000

theorem intact_all{γ:Type}{E:Nat→List γ→List γ→Option Bool}{I:Nat→(List γ×List γ)→(List γ×List γ)→Option Bool}{x:List γ×List γ}(hx:Room x)
  (hI:∀k a0 a1,I k a0 a1=(Option.bind (laws_roomBehind (a1.1.length:Int)) fun r1=>(bif ((a0.1.length:Int)==(a1.1.length:Int))then(bif (decide (0≤(IntKind.wrap .i64 ((a1.1.length:Int)+r1))))then(bif (decide ((IntKind.wrap .i64 ((a1.1.length:Int)+r1))≤((a0.1++a0.2).length:Int)))then(bif (decide (0≤(IntKind.wrap .i64 ((a1.1.length:Int)+r1))))then(bif (decide ((IntKind.wrap .i64 ((a1.1.length:Int)+r1))≤((a1.1++a1.2).length:Int)))then(Option.bind (E k (((a0.1++a0.2).take (Int.toNat (IntKind.wrap .i64 ((a1.1.length:Int)+r1)))).drop 0) (((a1.1++a1.2).take (Int.toNat (IntKind.wrap .i64 ((a1.1.length:Int)+r1)))).drop 0)) fun r2=>some r2)else none)else none)else none)else none)else some false)))
  (hE:Evt (fun k _=>E k (x.1++x.2) (x.1++x.2)) true):Evt (fun k _=>I k x x) true:=by
 have hr:=room_le x.1.length
 have h1:=hx.1
 have h2:=hx.2
 refine Evt.eq ?_ (fun k _=>hI k x x)
 refine Evt.bind (.const (room_eq _)) ?_
 have hw:IntKind.wrap .i64 ((x.1.length:Int)+(roomN x.1.length:Int))=(((x.1++x.2).length:Nat):Int):=by
  rw [List.length_append,h1,w64] <;> omega
 rw [hw]
 refine Evt.ctrue (by simp) (Evt.ctrue mid_ge (Evt.ctrue (by simp) (Evt.ctrue mid_ge (Evt.ctrue (by simp) ?_))))
 have e:(((x.1++x.2).length:Nat):Int).toNat=(x.1++x.2).length:=Int.toNat_natCast _
 rw [e,List.take_length,List.drop_zero]
 exact Evt.bind hE .pure

theorem small{γ:Type}{x:List γ×List γ}(hx:Room x):(x.1++x.2).length<lenB:=by
 have hr:=room_le x.1.length
 have h1:=hx.1
 have h2:=hx.2
 rw [List.length_append,h1]
 simp only [lenB]
 omega

theorem intactIntS_ev{x:List Int×List Int}(hx:Room x):Evt (fun k _=>laws_intactIntS k x x) true:=intact_all (E:=laws_eqIntS) hx (fun _ _ _=>rfl) (eqIntS_ev (small hx))
theorem intactTermS_ev{x:List (Int×Int×Int×Int)×List (Int×Int×Int×Int)}(hx:Room x):Evt (fun k _=>laws_intactTermS k x x) true:=intact_all (E:=laws_eqTermS) hx (fun _ _ _=>rfl) (eqTermS_ev (small hx))

theorem intact_loop{γ:Type}{d0:γ}{Q:Nat→γ→γ→Option Bool}{x:List γ×List γ}{m:Int}{L:Nat→Nat→Int→Option (Bool ⊕ ((List γ×List γ)×(List γ×List γ)×Int×Unit))}
  (hL:∀k n x6,L k (n+1) x6=(bif (decide (x6<(x.1.length:Int)))then(bif (decide (0≤x6))then(bif (decide (x6<(x.1.length:Int)))then(bif (decide (0≤x6))then(bif (decide (x6<(x.1.length:Int)))then(Option.bind (Q k (x.1.getD (Int.toNat x6) d0) (x.1.getD (Int.toNat x6) d0)) fun r2=>(bif (!r2)then some (Sum.inl false)else(L k n (IntKind.wrap .i64 (x6+1)))))else none)else none)else none)else none)else some (Sum.inr (x,x,m,())))) (hb:x.1.length<lenB) :
  ∀(r d:List γ),d++r=x.1→(∀z∈r,Evt (fun k _=>Q k z z) true)→Evt (fun k n=>L k n d.length) (.inr (x,x,m,()))
 | [],d,h,_=>by
  refine Evt.step (fun k n=>hL k n _) (Evt.cfalse (by rw [←h];simp) .pure)
 | z::r,d,h,hQ=>by
  refine Evt.step (fun k n=>hL k n _) ?_
  rw [←h]
  refine Evt.ctrue mid_lt (Evt.ctrue mid_ge (Evt.ctrue mid_lt (Evt.ctrue mid_ge (Evt.ctrue mid_lt ?_))))
  rw [mid_get]
  refine Evt.bind (hQ z (by simp)) (Evt.cfalse rfl ?_)
  rw [w64_next (by rw [←h]at hb;simp at hb;omega)]
  have:=intact_loop hL hb r (d ++ [z]) (by simpa using h) (fun y hy=>hQ y (by simp [hy]))
  simpa using this

theorem intact_rows{γ:Type}{d0:List γ×List γ}{Q:Nat→(List γ×List γ)→(List γ×List γ)→Option Bool}{E:Nat→List (List γ)→List (List γ)→Option Bool}{x:List (List γ×List γ)×List (List γ×List γ)}(hx:Room x)(hm:∀y∈x.1,Room y)
  {I:Nat→(List (List γ×List γ)×List (List γ×List γ))→(List (List γ×List γ)×List (List γ×List γ))→Option Bool}
  {L:Nat→Nat→(List (List γ×List γ)×List (List γ×List γ))→(List (List γ×List γ)×List (List γ×List γ))→Int→Int→Option (Bool ⊕ ((List (List γ×List γ)×List (List γ×List γ))×(List (List γ×List γ)×List (List γ×List γ))×Int×Unit))}
  (hL:∀k n x0 x1 x5 x6,L k (n+1) x0 x1 x5 x6=(bif (decide (x6<(x1.1.length:Int)))then(bif (decide (0≤x6))then(bif (decide (x6<(x0.1.length:Int)))then(bif (decide (0≤x6))then(bif (decide (x6<(x1.1.length:Int)))then(Option.bind (Q k (x0.1.getD (Int.toNat x6) d0) (x1.1.getD (Int.toNat x6) d0)) fun r2=>(bif (!r2)then some (Sum.inl false)else(L k n x0 x1 x5 (IntKind.wrap .i64 (x6+1)))))else none)else none)else none)else none)else some (Sum.inr (x0,x1,x5,()))))
  (hI:∀k a0 a1,I k a0 a1=(Option.bind (laws_roomBehind (a1.1.length:Int)) fun r1=>(bif ((a0.1.length:Int) != (a1.1.length:Int))then some false else(both (R:=Bool) (P:=(List (List γ×List γ)×List (List γ×List γ))×(List (List γ×List γ)×List (List γ×List γ))×Int×Unit) (L k k a0 a1 (IntKind.wrap .i64 ((a1.1.length:Int)+r1)) 0) (fun q5=>some q5) (fun y4=>(bif (decide (0≤(y4.2.1.1.length:Int)))then(bif (decide ((y4.2.1.1.length:Int)≤y4.2.2.1))then(bif (decide (y4.2.2.1≤((y4.1.1++y4.1.2).length:Int)))then(bif (decide (0≤(y4.2.1.1.length:Int)))then(bif (decide ((y4.2.1.1.length:Int)≤y4.2.2.1))then(bif (decide (y4.2.2.1≤((y4.2.1.1++y4.2.1.2).length:Int)))then(Option.bind (E k ((((y4.1.1++y4.1.2).take (Int.toNat y4.2.2.1)).drop (Int.toNat (y4.2.1.1.length:Int))).map fun z=>z.1) ((((y4.2.1.1++y4.2.1.2).take (Int.toNat y4.2.2.1)).drop (Int.toNat (y4.2.1.1.length:Int))).map fun z=>z.1)) fun r6=>some r6)else none)else none)else none)else none)else none)else none))))))
  (hQ:∀y∈x.1,Evt (fun k _=>Q k y y) true) (hE:Evt (fun k _=>E k (x.2.map fun z=>z.1) (x.2.map fun z=>z.1)) true):Evt (fun k _=>I k x x) true:=by
 have hr:=room_le x.1.length
 have h1:=hx.1
 have h2:=hx.2
 refine Evt.eq ?_ (fun k _=>hI k x x)
 refine Evt.bind (.const (room_eq _)) (Evt.cfalse (by simp) ?_)
 have hw:IntKind.wrap .i64 ((x.1.length:Int)+(roomN x.1.length:Int))=(((x.1++x.2).length:Nat):Int):=by
  rw [List.length_append,h1,w64] <;> omega
 rw [hw]
 have:=intact_loop (L:=fun k n x6=>L k n x x (((x.1++x.2).length:Nat):Int) x6) (fun k n x6=>hL k n x x _ x6) (by simp only [lenB];omega) x.1 [] rfl hQ
 simp only [List.length_nil]at this
 refine Evt.inr (Evt.diag this) ?_
 refine Evt.ctrue mid_ge (Evt.ctrue (by simp <;> omega) (Evt.ctrue (by simp <;> omega) (Evt.ctrue mid_ge (Evt.ctrue (by simp <;> omega) (Evt.ctrue (by simp <;> omega) ?_)))))
 have e:(((x.1++x.2).length:Nat):Int).toNat=(x.1++x.2).length:=Int.toNat_natCast _
 have e2:((x.1.length:Nat):Int).toNat=x.1.length:=Int.toNat_natCast _
 simp only [e,e2,List.take_length,List.drop_left]
 exact Evt.bind hE .pure

theorem intactTermSS_ev{x:List (List (Int×Int×Int×Int)×List (Int×Int×Int×Int))×List (List (Int×Int×Int×Int)×List (Int×Int×Int×Int))}(hx:Room x)(hm:∀y∈x.1,Room y)(h2:∀y∈x.2,y.1.length<lenB):Evt (fun k _=>laws_intactTermSS k x x) true :=
 intact_rows (d0:=([],[])) (Q:=laws_intactTermS) (E:=laws_eqTermSS) (L:=laws_intactTermSS_L122) hx hm (fun _ _ _ _ _ _=>rfl) (fun _ _ _=>rfl) (fun y hy=>intactTermS_ev (hm y hy))
  (eqTermSS_ev (by have:=small hx;simp at this ⊢; omega) (by intro y hy;obtain⟨z,hz,rfl⟩:=List.mem_map.1 hy;exact h2 z hz))

theorem room_toV{β γ:Type}{f:β→γ}{v:γ}{a:List β}(h:a.length≤1000000):Room (toV f v a false):=by
 refine⟨?_,?_⟩
 ·simp [toV]
 ·simp [toV];exact h

def heldAny{γ:Type}(c:Nat):Nat→List γ→Int→Option Int:=fun _ x a=>some (a+c*x.length)
theorem nat_mul_sub{c a b:Nat}(h:b<a):c*(a - b)=c+c*(a - (b+1)):=by
 obtain⟨m,rfl⟩:∃m,a=b+1+m:=⟨a - (b+1),by omega⟩
 rw [show b+1+m - b=m+1 by omega,show b+1+m - (b+1)=m by omega,Nat.mul_add,Nat.mul_one,Nat.add_comm]

theorem mark_only{γ:Type}{M:Nat→Nat→List γ→Int→Int→Option ((Int×List γ) ⊕ (Int×List γ×Unit))}{mark:Nat→List γ→Int→Option (Int×List γ)}{mv:Nat→γ}{c:Nat}
  (hc:0<c)
  (hM:∀(k n:Nat) (d r:List γ) (e:γ) (a:Nat),a+c<lenB→(d++e::r).length<lenB→M k (n+1) (d++e::r) a d.length=M k n (d++mv a::r) ((a+c:Nat):Int) ((d.length+1:Nat):Int))
  (hM0:∀(k n:Nat) (d:List γ) (a:Int),M k (n+1) d a d.length=some (.inr (a,d,())))
  (hmark:∀k x a,mark k x a=both (R:=Int×List γ) (P:=Int×List γ×Unit) (M k k x a 0) (fun q=>some q) (fun y=>some (y.1,y.2.1))) :
  MarkOk mark (heldAny c) (fun x=>c*x.length) :=
 mark_all (M:=M) (H:=fun _ _ x a i=>some (.inr (a+c*(x.length - i.toNat:Nat),()))) (mv:=mv) hc hM hM0
  (fun k n d r a h1 h2=>by
   have h:d.length<(d++mv a::r).length:=by simp
   have:=nat_mul_sub (c:=c) h
   simp only [Int.toNat_natCast]
   congr 3
   omega)
  (fun k n d a=>by simp) hmark (fun k x a=>by simp [heldAny,both])

theorem markIntS_only:MarkOk laws_markIntS (heldAny 1) (fun x=>1*x.length) :=
 mark_only (M:=laws_markIntS_L26) (mv:=fun a=>(a:Int)) (by omega)
  (fun k n d r e a h1 h2=>by
   rw [laws_markIntS_L26]
   rw [mid_lt,mid_ge,mid_set,w64_next (m:=d.length) (by simp at h2;omega),w64_next (m:=a) (by omega)]
   rfl)
  (fun k n d a=>by rw [laws_markIntS_L26,mid_end];rfl)
  (fun _ _ _=>rfl)

theorem szIntS_ev{x:List Int}(hx:x.length≤maxLen){a:Nat}(ha:a≤1000000):laws_szIntS x a=some (if x.length≤a then((a - x.length:Nat):Int)else -1):=sz_one (fun _ _=>rfl) hx ha
theorem szTermSS_ev{x:List (List (Int×Int×Int×Int))}(hx:x.length≤maxLen)(hm:∀y∈x,y.length≤maxLen){a:Nat}(ha:a≤1000000) :
  Evt (fun k _=>laws_szTermSS k x a) (if x.length+(x.map List.length).sum≤a then((a - (x.length+(x.map List.length).sum):Nat):Int)else -1) :=
 sz_all (sz:=laws_szTermS) (S:=laws_szTermSS_L122) (fun _ _=>rfl) (fun _ _ _ _ _=>rfl) (fun _ _ _=>rfl) hx hm ha
end Go.Ev.G

namespace Go.Ev.G
open Go Go.Ev
set_option maxRecDepth 100000

def gd(a:Int×Int):Prop:=0≤a.2∧a.2≤24 ∧ -1099511627776≤a.1∧a.1≤1099511627776∧(a.2=0∨a.1 % 2≠0)
instance (a:Int×Int):Decidable (gd a):=by unfold gd;infer_instance

theorem tmod2(n:Int):(Int.tmod n 2=0)↔n % 2=0:=by
 rw [←Int.dvd_iff_tmod_eq_zero,Int.dvd_iff_emod_eq_zero]
theorem tdiv2{n:Int}(h:n % 2=0):Int.tdiv n 2=n / 2:=Int.tdiv_eq_ediv_of_dvd (Int.dvd_of_emod_eq_zero h)

theorem l1In_eq(n lo hi:Int):spec_l1In n lo hi=some (decide (lo≤n∧n≤hi)):=by
 unfold spec_l1In
 by_cases h:lo≤n
 ·have:decide (n≥lo)=true:=by simpa using h
  rw [this];simp [h]
 ·have:decide (n≥lo)=false:=by simpa using h
  rw [this];simp [h]
theorem inside_eq(n lo hi:Int):impl_inside n lo hi=some (decide (lo≤n∧n≤hi)):=l1In_eq n lo hi
theorem dyGood_eq(a:Int×Int):spec_dyGood a=some (decide (gd a)):=by
 unfold spec_dyGood
 rw [l1In_eq,l1In_eq]
 have h0:=tmod2 a.1
 by_cases h1:0≤a.2∧a.2≤24
 ·simp only [h1,and_self,decide_true,Option.bind_some,cond_true]
  by_cases h2 : -1099511627776≤a.1∧a.1≤1099511627776
  ·simp only [h2,and_self,decide_true,cond_true]
   by_cases h3:a.2=0
   ·have:gd a:=⟨h1.1,h1.2,h2.1,h2.2,.inl h3⟩
    simp [h3,this]
   ·have e:(a.2==0)=false:=by simpa using h3
    rw [e]
    by_cases h4:a.1 % 2=0
    ·have : ¬ gd a:=fun h=>by rcases h.2.2.2.2 with h | h <;> contradiction
     simp [h0.2 h4,this]
    ·have h5:gd a:=⟨h1.1,h1.2,h2.1,h2.2,.inr h4⟩
     have : ¬ Int.tmod a.1 2=0:=fun h=>h4 (h0.1 h)
     simp [this,h5]
  ·have : ¬ gd a:=fun h=>h2 ⟨h.2.2.1,h.2.2.2.1⟩
   simp only [h2,decide_false,cond_false,this]
 ·have : ¬ gd a:=fun h=>h1 ⟨h.1,h.2.1⟩
  simp only [h1,decide_false,Option.bind_some,cond_false,this]
def strip:Nat→Int→Int×Nat
 | 0,n=>(n,0)
 | k+1,n=>if n % 2=0 then strip k (n / 2)else(n,k+1)

def mkD(n:Int)(k:Nat):(Int×Int)×Bool :=
 if -1099511627776≤(strip k n).1∧(strip k n).1≤1099511627776∧(strip k n).2≤24 then(((strip k n).1,((strip k n).2:Int)),true)else((0,0),false)

theorem strip_form:∀(k:Nat) (n:Int),(strip k n).2=0∨(strip k n).1 % 2≠0
 | 0,n => .inl rfl
 | k+1,n=>by
  unfold strip
  split
  ·exact strip_form k _
  ·rename_i h;exact .inr h
theorem strip_le:∀(k:Nat) (n:Int),(strip k n).2≤k
 | 0,n=>Nat.le_refl _
 | k+1,n=>by
  unfold strip
  split
  ·have:=strip_le k (n / 2);omega
  ·exact Nat.le_refl _
theorem strip_zero:∀(k:Nat),strip k 0=(0,0)
 | 0=>rfl
 | k+1=>by unfold strip;simp [strip_zero k]
theorem strip_neg:∀(k:Nat) (n:Int),strip k (-n)=(-(strip k n).1,(strip k n).2)
 | 0,n=>rfl
 | k+1,n=>by
  unfold strip
  by_cases h:n % 2=0
  ·have h':(-n) % 2=0:=by omega
   rw [if_pos h,if_pos h',show -n / 2 = -(n / 2)by omega,strip_neg k]
  ·have h' : ¬ (-n) % 2=0:=by omega
   rw [if_neg h,if_neg h']
theorem strip_bound:∀(k:Nat) (n:Int),0≤n→0≤(strip k n).1∧(strip k n).1≤n
 | 0,n,h=>⟨h,Int.le_refl _⟩
 | k+1,n,h=>by
  unfold strip
  split
  ·have:=strip_bound k (n / 2) (by omega);omega
  ·exact⟨h,Int.le_refl _⟩
theorem strip_ne:∀(k:Nat) (n:Int),n≠0→(strip k n).1≠0
 | 0,n,h=>h
 | k+1,n,h=>by
  unfold strip
  split
  ·exact strip_ne k _ (by omega)
  ·exact h
theorem strip_odd{k:Nat}{n:Int}(h:n % 2≠0):strip k n=(n,k):=by
 cases k with
 | zero=>rfl
 | succ k=>unfold strip;rw [if_neg h]
theorem strip_val:∀(k:Nat) (n:Int),(strip k n).1*2 ^ (k - (strip k n).2)=n
 | 0,n=>by simp [strip]
 | k+1,n=>by
  unfold strip
  split
  ·rename_i h
   have h1:=strip_val k (n / 2)
   have h2:=strip_le k (n / 2)
   rw [show k+1 - (strip k (n / 2)).2=(k - (strip k (n / 2)).2)+1 by omega,Int.pow_succ,←Int.mul_assoc,h1]
   omega
  ·simp

theorem mkD_gd(n:Int)(k:Nat):gd (mkD n k).1:=by
 unfold mkD
 split
 ·rename_i h
  have:=strip_form k n
  refine⟨by simp,by simp;omega,h.1,h.2.1,?_⟩
  rcases this with h | h
  ·left;simp [h]
  ·right;exact h
 ·exact⟨by simp,by simp,by simp,by simp,.inl rfl⟩

theorem mkD_zero(k:Nat):mkD 0 k=((0,0),true):=by simp [mkD,strip_zero]

theorem mkD_self{a:Int×Int}(h:gd a):mkD a.1 a.2.toNat=(a,true):=by
 obtain⟨n,k⟩:=a
 obtain⟨h1,h2,h3,h4,h5⟩:=h
 simp only at *
 obtain⟨m,rfl⟩:=Int.eq_ofNat_of_zero_le h1
 have e:strip m n=(n,m):=by
  rcases h5 with h5 | h5
  ·have:m=0:=by omega
   subst this;rfl
  ·exact strip_odd h5
 simp only [Int.toNat_natCast,mkD,e]
 rw [if_pos ⟨h3,h4,by omega⟩]

theorem dyMake_loop:∀(m:Nat) (n:Int) (z:Int×Int),-9223372036854775808<n→n<9223372036854775808→m<9223372036854775808 →
  Evt (fun k q=>spec_dyMake_L28 k q n m z) (.inr ((strip m n).1,((strip m n).2:Int),z,()))
 | 0,n,z,_,_,_=>Evt.step (fun k q=>spec_dyMake_L28.eq_2 k n _ z q) (Evt.cfalse (by simp) .pure)
 | m+1,n,z,h1,h2,h3=>by
  refine Evt.step (fun k q=>spec_dyMake_L28.eq_2 k n _ z q) (Evt.ctrue (by simp <;> omega) ?_)
  by_cases h:n % 2=0
  ·refine Evt.ctrue (by simp [(tmod2 n).2 h]) ?_
   rw [tdiv2 h,w64 (by omega) (by omega),show((m+1:Nat):Int) - 1=(m:Int)by omega,w64 (by omega) (by omega)]
   have:=dyMake_loop m (n / 2) z (by omega) (by omega) (by omega)
   rw [strip,if_pos h]
   exact this
  ·have h' : ¬ Int.tmod n 2=0:=fun e=>h ((tmod2 n).1 e)
   refine Evt.cfalse (by simp [h']) ?_
   rw [strip,if_neg h]
   exact .pure

theorem dyMake_ev{n:Int}{m:Nat}(h1 : -9223372036854775808<n)(h2:n<9223372036854775808)(h3:m<9223372036854775808):Evt (fun k _=>spec_dyMake k n m) (mkD n m):=by
 refine Evt.eq (f:=fun k q=>_) ?_ (fun k q=>by rw [spec_dyMake])
 have key:∀(m':Nat),strip m' n=strip m n→m'≤m→Evt (fun k q=>both (R:=(Int×Int)×Bool) (P:=Int×Int×(Int×Int)×Unit) (spec_dyMake_L28 k k n m' (0,0)) (fun q4=>some q4) (fun y3=>(Option.bind (spec_dyGood (y3.1,y3.2.1)) fun r5=>(bif (!r5)then some ((0,0),false)else some ((y3.1,y3.2.1),true))))) (mkD n m):=by
  intro m' hm hle
  refine Evt.inr (Evt.diag (dyMake_loop m' n (0,0) h1 h2 (by omega))) ?_
  simp only [dyGood_eq,Option.bind_some,hm]
  have hf:=strip_form m n
  unfold mkD
  by_cases hg : -1099511627776≤(strip m n).1∧(strip m n).1≤1099511627776∧(strip m n).2≤24
  ·rw [if_pos hg]
   have:gd ((strip m n).1,((strip m n).2:Int)):=⟨by simp,by simp;omega,hg.1,hg.2.1,by rcases hf with h | h;left;simp [h];right;exact h⟩
   simp only [this,decide_true,Bool.not_true]
   exact Evt.cfalse rfl .pure
  ·rw [if_neg hg]
   have : ¬ gd ((strip m n).1,((strip m n).2:Int)):=fun h=>hg ⟨h.2.2.1,h.2.2.2.1,by have:=h.2.1;simp at this;omega⟩
   simp only [this,decide_false,Bool.not_false]
   exact Evt.ctrue rfl .pure
 by_cases h0:n=0
 ·subst h0
  refine Evt.inr (y:=((0:Int),(0:Int),((0,0):Int×Int),())) ?_ (key 0 (by rw [strip_zero,strip_zero]) (by omega))
  by_cases hm:m=0
  ·subst hm;exact .const rfl
  ·have:decide ((m:Int)>0)=true:=by simp;omega
   refine .const ?_
   simp only [this];rfl
 ·refine Evt.inr (y:=(n,(m:Int),((0,0):Int×Int),())) (.const ?_) (key m rfl (Nat.le_refl _))
  have:(n==0)=false:=by simpa using h0
  simp only [this];rfl

def atV:Nat→Int→Int×Bool
 | 0,n=>(n,true)
 | m+1,n=>if -1152921504606846976≤n∧n≤1152921504606846976 then atV m (n*2)else(0,false)

theorem dyPower_eq{m:Nat}(h:m≤62):spec_dyPower m=some (((2 ^ m:Nat):Int)):=by
 unfold spec_dyPower
 have h1:IntKind.wrap .u64 (m:Int)=m:=wu64 (by omega) (by omega)
 have h2:min (Int.toNat (m:Int)) (IntKind.bits .i64)=m:=by simp [IntKind.bits];omega
 rw [h1,h2]
 have h3:(2:Nat) ^ m≤4611686018427387904:=Nat.pow_le_pow_right (n:=2) (by omega) h
 have h4:(1:Int)*2 ^ m=((2 ^ m:Nat):Int):=by simp
 have h5:decide ((m:Int)<0)=false:=by simp
 rw [h4]
 generalize 2 ^ m=p at *
 rw [w64 (by omega) (by omega),h5]
 rfl

theorem dyPower60:spec_dyPower 60=some 1152921504606846976:=by
 have:=dyPower_eq (m:=60) (by omega)
 simpa using this

theorem dyAt_loop(K j:Int):∀(m:Nat) (n:Int) (i:Nat),K=i+m→K<1000000 → -4611686018427387904≤n→n≤4611686018427387904 →
  Evt (fun k q=>spec_dyAt_L58 k q K (n,j) i) (if (atV m n).2 then .inr (((atV m n).1,j),())else .inl (0,false)):=by
 intro m
 induction m with
 | zero =>
  intro n i hK hi _ _
  refine Evt.step (fun k q=>spec_dyAt_L58.eq_2 k K (n,j) i q) (Evt.cfalse (by simp;omega) ?_)
  simp only [atV,if_true]
  exact .pure
 | succ m ih =>
  intro n i hK hi h1 h2
  refine Evt.step (fun k q=>spec_dyAt_L58.eq_2 k K (n,j) i q) (Evt.ctrue (by simp;omega) ?_)
  refine Evt.bind (.const dyPower60) (Evt.bind (.const dyPower60) ?_)
  have hw:IntKind.wrap .i64 (0 - 1152921504606846976) = -1152921504606846976:=by rw [w64] <;> omega
  rw [hw]
  refine Evt.bind (.const (l1In_eq _ _ _)) ?_
  unfold atV
  by_cases hn : -1152921504606846976≤n∧n≤1152921504606846976
  ·refine Evt.cfalse (by simp [hn]) ?_
   rw [if_pos hn,w64 (n:=n*2) (by omega) (by omega),w64_next (by simp only [lenB];omega)]
   exact ih (n*2) (i+1) (by omega) hi (by omega) (by omega)
  ·refine Evt.ctrue (by rw [decide_eq_false hn];rfl) ?_
   rw [if_neg hn]
   exact .pure

theorem atV_zero:∀m,atV m 0=(0,true)
 | 0=>rfl
 | m+1=>by unfold atV;simp [atV_zero m]

theorem dyAt_ev{n:Int}{j K:Nat}(hjK:j≤K)(hK:K<1000)(h1 : -4611686018427387904≤n)(h2:n≤4611686018427387904):Evt (fun k _=>spec_dyAt k (n,j) K) (atV (K - j) n):=by
 refine Evt.eq (f:=fun k q=>_) ?_ (fun k q=>by rw [spec_dyAt])
 by_cases h0:n=0
 ·subst h0
  rw [atV_zero]
  exact Evt.ctrue (by simp) .pure
 ·refine Evt.cfalse (by simpa using h0) ?_
  have:=dyAt_loop K j (K - j) n j (by omega) (by omega) h1 h2
  cases hb:(atV (K - j) n).2 with
  | true =>
   rw [hb]at this
   refine Evt.inr (Evt.diag this) (.const ?_)
   simp only
   rw [←hb]
  | false =>
   rw [hb]at this
   have hz:∀(m:Nat) (n:Int),(atV m n).2=false→atV m n=(0,false):=by
    intro m
    induction m with
    | zero=>intro n h;simp [atV]at h
    | succ m ih =>
     intro n h
     unfold atV at h ⊢
     split at h
     ·rename_i hc;rw [if_pos hc];exact ih _ h
     ·rename_i hc;rw [if_neg hc]
   rw [hz _ _ hb]
   exact Evt.inl (Evt.diag this) .pure

theorem atV_true:∀(m:Nat) (n:Int),(atV m n).2=true→(atV m n).1=n*2 ^ m
 | 0,n,_=>by simp [atV]
 | m+1,n,h=>by
  unfold atV at h ⊢
  split at h
  ·rename_i hc
   rw [if_pos hc,atV_true m _ h,Int.pow_succ,Int.mul_assoc,Int.mul_comm 2]
  ·cases h
theorem atV_small:∀(m:Nat) (n:Int),-1152921504606846976≤n*2 ^ m→n*2 ^ m≤1152921504606846976→(atV m n).2=true
 | 0,n,_,_=>rfl
 | m+1,n,h1,h2=>by
  have e:n*2 ^ (m+1)=n*2*2 ^ m:=by rw [Int.pow_succ,Int.mul_assoc,Int.mul_comm 2]
  have hp:(1:Int)≤2 ^ m:=by have:=Int.pow_pos (n:=2) (m:=m) (by omega);omega
  unfold atV
  rw [if_pos]
  ·exact atV_small m (n*2) (by rw [←e];exact h1) (by rw [←e];exact h2)
  ·rw [e]at h1 h2
   constructor
   ·rcases Int.le_total 0 n with h | h
    ·omega
    ·have:n*2*2 ^ m≤n*2*1:=Int.mul_le_mul_of_nonpos_left (by omega) hp
     omega
   ·rcases Int.le_total 0 n with h | h
    ·have:n*2*1≤n*2*2 ^ m:=Int.mul_le_mul_of_nonneg_left hp (by omega)
     omega
    ·omega
theorem atV_large:∀(m:Nat) (n:Int),(atV m n).2=false→0<m∧(n*2 ^ m < -1152921504606846976∨1152921504606846976<n*2 ^ m)
 | m,n,h=>by
  refine⟨?_,?_⟩
  ·cases m with
   | zero=>simp [atV]at h
   | succ m=>omega
  ·rcases Int.lt_or_le (n*2 ^ m) (-1152921504606846976)with h1 | h1
   ·exact .inl h1
   ·rcases Int.lt_or_le 1152921504606846976 (n*2 ^ m)with h2 | h2
    ·exact .inr h2
    ·rw [atV_small m n h1 h2]at h;cases h
end Go.Ev.G

namespace Go.Ev.G
open Go Go.Ev
set_option maxRecDepth 100000

def exA(a b:Int×Int):Nat:=max a.2.toNat b.2.toNat
def sumN(a b:Int×Int):Int:=a.1*2 ^ (exA a b - a.2.toNat)+b.1*2 ^ (exA a b - b.2.toNat)
def sumD(a b:Int×Int):(Int×Int)×Bool:=mkD (sumN a b) (exA a b)

theorem most_eq(a b:Int):spec_l1Most a b=some (max a b):=by
 unfold spec_l1Most
 by_cases h:a>b
 ·have:decide (a>b)=true:=by simpa using h
  rw [this];simp only [cond_true];congr 1;omega
 ·have:decide (a>b)=false:=by simpa using h
  rw [this];simp only [cond_false];congr 1;omega

theorem pow_mono(m:Nat)(h:m≤24):(1:Int)≤2 ^ m∧(2:Int) ^ m≤16777216:=by
 have h1:(2:Nat) ^ m≤2 ^ 24:=Nat.pow_le_pow_right (by omega) h
 have h2:(0:Nat)<2 ^ m:=Nat.pow_pos (by omega)
 have h3:((2 ^ m:Nat):Int)=(2:Int) ^ m:=by simp
 rw [←h3]
 omega

theorem mul_pow_bound{n:Int}{m:Nat}(h:m≤24){B:Int}(hB:0≤B)(h1 : -B≤n)(h2:n≤B) : -(B*16777216)≤n*2 ^ m∧n*2 ^ m≤B*16777216:=by
 have hp:=pow_mono m h
 constructor
 ·rcases Int.le_total 0 n with hn | hn
  ·have:0≤n*2 ^ m:=Int.mul_nonneg hn (by omega)
   have:0≤B*16777216:=Int.mul_nonneg hB (by omega)
   omega
  ·have e1:n*16777216≤n*2 ^ m:=Int.mul_le_mul_of_nonpos_left hn hp.2
   omega
 ·rcases Int.le_total 0 n with hn | hn
  ·have e1:n*2 ^ m≤n*16777216:=Int.mul_le_mul_of_nonneg_left hp.2 hn
   omega
  ·have:n*2 ^ m≤0:=Int.mul_nonpos_of_nonpos_of_nonneg hn (by omega)
   have:0≤B*16777216:=Int.mul_nonneg hB (by omega)
   omega

theorem mkD_odd{n:Int}{k:Nat}(h:n % 2≠0)(hl:n < -1099511627776∨1099511627776<n):mkD n k=((0,0),false):=by
 unfold mkD
 rw [strip_odd h]
 rw [if_neg]
 intro hc
 have:=hc.1
 have:=hc.2.1
 simp at *
 omega

theorem even_pow{n:Int}{m:Nat}(h:0<m):(n*2 ^ m) % 2=0:=by
 obtain⟨q,rfl⟩:∃q,m=q+1:=⟨m - 1,by omega⟩
 rw [Int.pow_succ,←Int.mul_assoc]
 omega

theorem dyAdd_ev{a b:Int×Int}(ha:gd a)(hb:gd b):Evt (fun k _=>spec_dyAdd k a b) (sumD a b):=by
 obtain⟨n,j⟩:=a
 obtain⟨m,i⟩:=b
 obtain⟨a1,a2,a3,a4,a5⟩:=ha
 obtain⟨b1,b2,b3,b4,b5⟩:=hb
 simp only at *
 obtain⟨j,rfl⟩:=Int.eq_ofNat_of_zero_le a1
 obtain⟨i,rfl⟩:=Int.eq_ofNat_of_zero_le b1
 refine Evt.eq (f:=fun k q=>_) ?_ (fun k q=>by rw [spec_dyAdd])
 refine Evt.bind (.const (most_eq _ _)) ?_
 have hmax:max ((j:Nat):Int) (i:Int)=((max j i:Nat):Int):=by omega
 simp only [hmax]
 have e:sumD (n,(j:Int)) (m,(i:Int))=mkD (n*2 ^ (max j i - j)+m*2 ^ (max j i - i)) (max j i):=by simp [sumD,sumN,exA]
 rw [e]
 refine Evt.bind (dyAt_ev (by omega) (by omega) (by omega) (by omega)) (Evt.bind (dyAt_ev (by omega) (by omega) (by omega) (by omega)) ?_)
 have hbn:=mul_pow_bound (n:=n) (m:=max j i - j) (by omega) (B:=1099511627776) (by omega) a3 a4
 have hbm:=mul_pow_bound (n:=m) (m:=max j i - i) (by omega) (B:=1099511627776) (by omega) b3 b4
 cases h1:(atV (max j i - j) n).2 with
 | false =>
  refine Evt.ctrue rfl ?_
  obtain⟨hpos,hl⟩:=atV_large _ _ h1
  have hij:max j i=i:=by omega
  have hodd:m % 2≠0:=by
   rcases b5 with h | h
   ·omega
   ·exact h
  have hev:=even_pow (n:=n) hpos
  rw [hij]at hl hev ⊢
  simp only [Nat.sub_self,Int.pow_zero,Int.mul_one]
  rw [mkD_odd (by omega) (by omega)]
  exact .pure
 | true =>
  refine Evt.cfalse rfl ?_
  cases h2:(atV (max j i - i) m).2 with
  | false =>
   refine Evt.ctrue rfl ?_
   obtain⟨hpos,hl⟩:=atV_large _ _ h2
   have hij:max j i=j:=by omega
   have hodd:n % 2≠0:=by
    rcases a5 with h | h
    ·omega
    ·exact h
   have hev:=even_pow (n:=m) hpos
   rw [hij]at hl hev ⊢
   simp only [Nat.sub_self,Int.pow_zero,Int.mul_one]
   rw [mkD_odd (by omega) (by omega)]
   exact .pure
  | true =>
   refine Evt.cfalse rfl ?_
   rw [atV_true _ _ h1,atV_true _ _ h2]
      -- neither is too large: the sum fits
   have hsum : -9223372036854775808<n*2 ^ (max j i - j)+m*2 ^ (max j i - i)∧n*2 ^ (max j i - j)+m*2 ^ (max j i - i)<9223372036854775808:=by
    have g1:∀(q:Nat) (z:Int),-1099511627776≤z→z≤1099511627776→(atV q z).2=true → -2305843009213693952≤z*2 ^ q∧z*2 ^ q≤2305843009213693952:=by
     intro q
     induction q with
     | zero=>intro z h1 h2 _;simp;omega
     | succ q ih =>
      intro z _ _ h
      have key:∀(q:Nat) (z:Int),(atV (q+1) z).2=true → -1152921504606846976≤z*2 ^ q∧z*2 ^ q≤1152921504606846976:=by
       intro q
       induction q with
       | zero =>
        intro z h
        unfold atV at h
        split at h
        ·rename_i hc;simpa using hc
        ·cases h
       | succ q ih =>
        intro z h
        unfold atV at h
        split at h
        ·have:=ih (z*2) h
         rw [show z*2 ^ (q+1)=z*2*2 ^ q by rw [Int.pow_succ,Int.mul_assoc,Int.mul_comm 2]]
         exact this
        ·cases h
      have:=key q z h
      rw [Int.pow_succ,←Int.mul_assoc]
      omega
    have u1:=g1 _ _ a3 a4 h1
    have u2:=g1 _ _ b3 b4 h2
    omega
   rw [w64 (by omega) (by omega)]
   exact Evt.bind (dyMake_ev hsum.1 hsum.2 (by omega)) .pure

theorem sumD_gd(a b:Int×Int):gd (sumD a b).1:=mkD_gd _ _

end Go.Ev.G

namespace Go.Ev.G
open Go Go.Ev
set_option maxRecDepth 100000

def B64:Nat:=18446744073709551616
def wN(neg:Bool)(M:Nat):Bool×Int×Int:=(neg,((M / B64:Nat):Int),((M % B64:Nat):Int))
def wV(neg:Bool)(M:Nat):Int:=if neg then -(M:Int)else M

theorem wu64_mod(n:Nat):IntKind.wrap .u64 (n:Int)=((n % B64:Nat):Int):=by
 rw [IntKind.wrap_u64];simp [B64]

theorem size_eq{n:Int}(h1 : -9223372036854775808<n)(h2:n<9223372036854775808):impl_size n=some (n.natAbs:Int):=by
 unfold impl_size
 by_cases h:n<0
 ·have:decide (n<0)=true:=by simpa using h
  have e1:IntKind.wrap .i64 (0 - n) = -n:=by rw [w64] <;> omega
  have e2:IntKind.wrap .u64 (-n) = -n:=by rw [wu64] <;> omega
  rw [this,e1,e2]
  simp only [cond_true];congr 1;omega
 ·have:decide (n<0)=false:=by simpa using h
  have e2:IntKind.wrap .u64 n=n:=by rw [wu64] <;> omega
  rw [this,e2]
  simp only [cond_false];congr 1;omega

theorem wideOf_eq{n:Int}(h1 : -9223372036854775808<n)(h2:n<9223372036854775808):impl_wideOf n=some (wN (decide (n<0)) n.natAbs):=by
 unfold impl_wideOf wN
 rw [size_eq h1 h2]
 simp only [Option.bind_some]
 have e1:n.natAbs / B64=0:=Nat.div_eq_of_lt (by simp only [B64];omega)
 have e2:n.natAbs % B64=n.natAbs:=Nat.mod_eq_of_lt (by simp only [B64];omega)
 rw [e1,e2];rfl

theorem wV_of(n:Int):wV (decide (n<0)) n.natAbs=n:=by
 unfold wV
 by_cases h:n<0
 ·simp [h];omega
 ·simp [h];omega

theorem or_add{a b:Nat}(i:Nat)(hb:b<2 ^ i)(ha:a*2 ^ i<B64):(a*2 ^ i) ||| b=a*2 ^ i+b:=by
 have:=Nat.shiftLeft_add_eq_or_of_lt hb a
 rw [Nat.shiftLeft_eq]at this
 exact this.symm

theorem orw{a b:Nat}(ha:a<B64)(hb:b<B64):(BitVec.toNat (BitVec.ofInt (IntKind.bits .u64) (a:Int) ||| BitVec.ofInt (IntKind.bits .u64) (b:Int)):Int)=((a ||| b:Nat):Int):=by
 have key:∀c:Nat,c<B64→(BitVec.ofInt (IntKind.bits .u64) (c:Int)).toNat=c:=by
  intro c hc
  simp only [B64]at hc
  rw [BitVec.toNat_ofInt]
  simp only [IntKind.bits]
  omega
 rw [BitVec.toNat_or,key a ha,key b hb]

theorem fdiv_pow(a m:Nat):Int.fdiv (a:Int) (2 ^ m)=((a / 2 ^ m:Nat):Int):=by
 rw [show(2:Int) ^ m=((2 ^ m:Nat):Int)by simp]
 rw [Int.fdiv_eq_ediv_of_nonneg _ (Int.natCast_nonneg _)]
 exact(Int.natCast_ediv a (2 ^ m)).symm
theorem mul_powN(a m:Nat):(a:Int)*2 ^ m=((a*2 ^ m:Nat):Int):=by simp

theorem shl_eq{neg:Bool}{M s:Nat}(hs:s<64)(hM:M*2 ^ s<B64*B64):impl_wide_shift (wN neg M) s=some (wN neg (M*2 ^ s)):=by
 have hp:0<2 ^ s:=Nat.pow_pos (by omega)
 have h64:2 ^ s*2 ^ (64 - s)=B64:=by
  rw [←Nat.pow_add,show s+(64 - s)=64 by omega];rfl
 unfold impl_wide_shift
 have c1:decide ((s:Int)≥0)=true:=by simp
 have c2:decide ((s:Int)≥64)=false:=by simp;omega
 have c3:decide ((s:Int)<0)=false:=by simp
 have w1:IntKind.wrap .i64 (64 - (s:Int))=((64 - s:Nat):Int):=by rw [w64] <;> omega
 have c4:decide (((64 - s:Nat):Int)<0)=false:=by simp
 rw [c1,c2,c3,w1,c4]
 simp only [cond_true,cond_false]
 have m1:min (Int.toNat (s:Int)) (IntKind.bits .u64)=s:=by simp [IntKind.bits];omega
 have m2:min (Int.toNat ((64 - s:Nat):Int)) (IntKind.bits .u64)=64 - s:=by simp [IntKind.bits]
 rw [m1,m2]
 simp only [wN]
 rw [mul_powN,mul_powN,fdiv_pow,wu64_mod (M / B64*2 ^ s)]
 have hlo:M % B64<B64:=Nat.mod_lt _ (by simp [B64])
 have hdiv:M % B64 / 2 ^ (64 - s)<2 ^ s:=by
  apply Nat.div_lt_of_lt_mul
  rw [Nat.mul_comm,h64];exact hlo
 have hhi:M / B64*2 ^ s<B64:=by
  have h1:M / B64*B64≤M:=Nat.div_mul_le_self M B64
  have h2:M / B64*2 ^ s*B64≤M*2 ^ s:=by
   rw [Nat.mul_right_comm];exact Nat.mul_le_mul_right _ h1
  exact Nat.lt_of_mul_lt_mul_right (Nat.lt_of_le_of_lt h2 hM)
 rw [Nat.mod_eq_of_lt hhi,orw hhi (Nat.lt_of_lt_of_le hdiv (by rw [←h64];exact Nat.le_mul_of_pos_right _ (Nat.pow_pos (by omega)))),or_add s hdiv hhi,wu64_mod,wu64_mod]
 have e:M*2 ^ s=(M / B64*2 ^ s+M % B64 / 2 ^ (64 - s))*B64+(M % B64*2 ^ s) % B64:=by
  have e1:M=M / B64*B64+M % B64:=by rw [Nat.mul_comm];exact(Nat.div_add_mod M B64).symm
  have e2:M % B64*2 ^ s / B64=M % B64 / 2 ^ (64 - s):=by
   rw [←h64,Nat.mul_comm (M % (2 ^ s*2 ^ (64 - s)))]
   exact Nat.mul_div_mul_left _ _ hp
  have e3:M % B64*2 ^ s=M % B64 / 2 ^ (64 - s)*B64+(M % B64*2 ^ s) % B64:=by
   have:=Nat.div_add_mod (M % B64*2 ^ s) B64
   rw [e2,Nat.mul_comm B64]at this
   exact this.symm
  have e4:M*2 ^ s=M / B64*2 ^ s*B64+M % B64*2 ^ s:=by
   conv=>lhs;rw [e1]
   rw [Nat.add_mul,Nat.mul_right_comm]
  rw [Nat.add_mul,Nat.add_assoc,←e3]
  exact e4
 have hlt:(M % B64*2 ^ s) % B64<B64:=Nat.mod_lt _ (by simp [B64])
 have f1:M*2 ^ s / B64=M / B64*2 ^ s+M % B64 / 2 ^ (64 - s):=by
  rw [e,Nat.mul_comm,Nat.mul_add_div (by simp [B64]),Nat.div_eq_of_lt hlt,Nat.add_zero]
 have f2:M*2 ^ s % B64=(M % B64*2 ^ s) % B64:=by
  conv=>lhs;rw [e]
  rw [Nat.mul_comm,Nat.mul_add_mod,Nat.mod_mod]
 rw [f1,f2]
 have f3:M / B64*2 ^ s+M % B64 / 2 ^ (64 - s)<B64:=by
  rw [←f1]
  exact Nat.div_lt_of_lt_mul hM
 rw [Nat.mod_eq_of_lt f3]

theorem shr_eq{neg:Bool}{M j:Nat}(hj:0<j)(hs:j<64)(hM:M<B64*B64):impl_wide_shift (wN neg M) (-(j:Int))=some (wN neg (M / 2 ^ j)):=by
 have hp:0<2 ^ j:=Nat.pow_pos (by omega)
 have h64:2 ^ (64 - j)*2 ^ j=B64:=by
  rw [←Nat.pow_add,show 64 - j+j=64 by omega];rfl
 unfold impl_wide_shift
 have c1:decide (-(j:Int)≥0)=false:=by simp;omega
 have w0:IntKind.wrap .i64 (0 - -(j:Int))=(j:Int):=by rw [w64] <;> omega
 have c2:decide ((j:Int)≥64)=false:=by simp;omega
 have c3:decide ((j:Int)<0)=false:=by simp
 have w1:IntKind.wrap .i64 (64 - (j:Int))=((64 - j:Nat):Int):=by rw [w64] <;> omega
 have c4:decide (((64 - j:Nat):Int)<0)=false:=by simp
 rw [c1]
 simp only [cond_false,w0,c2,c3,w1,c4]
 have m1:min (Int.toNat (j:Int)) (IntKind.bits .u64)=j:=by simp [IntKind.bits];omega
 have m2:min (Int.toNat ((64 - j:Nat):Int)) (IntKind.bits .u64)=64 - j:=by simp [IntKind.bits]
 rw [m1,m2]
 simp only [wN]
 rw [mul_powN,fdiv_pow,fdiv_pow,wu64_mod (M / B64*2 ^ (64 - j))]
 have hlo:M % B64<B64:=Nat.mod_lt _ (by simp [B64])
 have hhi:M / B64<B64:=Nat.div_lt_of_lt_mul hM
  -- the high part's low bits
 have hq:(M / B64*2 ^ (64 - j)) % B64=(M / B64 % 2 ^ j)*2 ^ (64 - j):=by
  rw [←h64,Nat.mul_comm (M / (2 ^ (64 - j)*2 ^ j)),Nat.mul_mod_mul_left,Nat.mul_comm]
 have hdiv:M % B64 / 2 ^ j<2 ^ (64 - j):=by
  apply Nat.div_lt_of_lt_mul
  rw [Nat.mul_comm,h64];exact hlo
 have hql:(M / B64 % 2 ^ j)*2 ^ (64 - j)<B64:=by
  rw [←h64,Nat.mul_comm]
  exact Nat.mul_lt_mul_of_pos_left (Nat.mod_lt _ hp) (Nat.pow_pos (by omega))
 rw [hq,orw (Nat.lt_of_lt_of_le hdiv (by rw [←h64];exact Nat.le_mul_of_pos_right _ hp)) hql,Nat.or_comm,or_add (64 - j) hdiv hql,wu64_mod]
 have f1:M / 2 ^ j / B64=M / B64 / 2 ^ j:=by rw [Nat.div_div_eq_div_mul,Nat.div_div_eq_div_mul,Nat.mul_comm]
 have f2:M / 2 ^ j % B64=(M / B64 % 2 ^ j)*2 ^ (64 - j)+M % B64 / 2 ^ j:=by
  have e1:M=(M / B64 / 2 ^ j*2 ^ j+M / B64 % 2 ^ j)*B64+M % B64:=by
   have a1:=Nat.div_add_mod M B64
   have a2:=Nat.div_add_mod (M / B64) (2 ^ j)
   rw [Nat.mul_comm (M / B64 / 2 ^ j),a2,Nat.mul_comm]
   exact a1.symm
  have e2:M / 2 ^ j=M / B64 / 2 ^ j*B64+((M / B64 % 2 ^ j)*2 ^ (64 - j)+M % B64 / 2 ^ j):=by
   have e3:M=2 ^ j*(M / B64 / 2 ^ j*B64+(M / B64 % 2 ^ j)*2 ^ (64 - j))+M % B64:=by
    conv=>lhs;rw [e1]
    have e5:∀a:Nat,a*B64=2 ^ j*(a*2 ^ (64 - j)):=fun a=>by
      rw [Nat.mul_left_comm,Nat.mul_comm (2 ^ j),h64]
    rw [Nat.add_mul,e5 (M / B64 % 2 ^ j),Nat.mul_add,Nat.mul_comm (M / B64 / 2 ^ j) (2 ^ j),Nat.mul_assoc]
   conv=>lhs;rw [e3]
   rw [Nat.mul_add_div hp,Nat.add_assoc]
  rw [e2,Nat.mul_comm (M / B64 / 2 ^ j),Nat.mul_add_mod,Nat.mod_eq_of_lt]
  have:=Nat.mod_lt (M / B64) hp
  have h3:(M / B64 % 2 ^ j+1)*2 ^ (64 - j)≤B64:=Nat.le_trans (Nat.mul_le_mul_right _ this) (by rw [Nat.mul_comm,h64];exact Nat.le_refl _)
  rw [Nat.add_mul,Nat.one_mul]at h3
  omega
 rw [f1,f2]
 have f3:(M / B64 % 2 ^ j)*2 ^ (64 - j)+M % B64 / 2 ^ j<B64:=by rw [←f2];exact Nat.mod_lt _ (by simp [B64])
 rw [Nat.mod_eq_of_lt f3]
end Go.Ev.G

namespace Go.Ev.G
open Go Go.Ev
set_option maxRecDepth 100000

def cmpI(a b:Int):Int:=if a<b then -1 else if b<a then 1 else 0

theorem cmpU_eq(a b:Int):cmp_Compare_uint64 a b=some (cmpI a b):=by
 unfold cmp_Compare_uint64 cmp_isNaN_uint64 cmpI
 by_cases h1:a<b
 ·have:decide (a<b)=true:=by simpa using h1
  simp [h1]
 ·by_cases h2:b<a
  ·simp [h1,h2]
  ·simp [h1,h2]

def orI(x y:Int):Int:=bif x==0 then y else x
theorem orI_ne{x:Int}(h:x≠0)(y:Int):orI x y=x:=by
 have:(x==0)=false:=by simpa using h
 rw [orI,this];rfl
theorem orI_z(y:Int):orI 0 y=y:=rfl

theorem or2_ev(x y:Int):Evt (fun k _=>cmp_Or_int k [x,y]) (orI x y):=by
 refine Evt.eq (f:=fun k q=>_) ?_ (fun k q=>by rw [cmp_Or_int])
 have step:∀(i:Nat) (F:Nat→Nat→Option _) r,(∀k q,cmp_Or_int_L58 k (q+1) 0 [x,y] ([x,y].length:Int) i=F k q)→Evt F r→Evt (fun k q=>cmp_Or_int_L58 k q 0 [x,y] ([x,y].length:Int) i) r:=fun i F r h h'=>Evt.step h h'
 by_cases hx:x=0
 ·subst hx
  by_cases hy:y=0
  ·subst hy
   refine Evt.inr (y:=(0,())) (Evt.diag (f:=fun k q=>cmp_Or_int_L58 k q 0 [0,0] ([0,0].length:Int) 0) ?_) .pure
   refine step 0 _ _ (fun k q=>cmp_Or_int_L58.eq_2 k _ _ _ _ q) ?_
   refine Evt.ctrue rfl (Evt.ctrue rfl (Evt.ctrue rfl (Evt.cfalse rfl ?_)))
   refine step 1 _ _ (fun k q=>cmp_Or_int_L58.eq_2 k _ _ _ _ q) ?_
   refine Evt.ctrue rfl (Evt.ctrue rfl (Evt.ctrue rfl (Evt.cfalse rfl ?_)))
   refine step 2 _ _ (fun k q=>cmp_Or_int_L58.eq_2 k _ _ _ _ q) ?_
   exact Evt.cfalse rfl .pure
  ·refine Evt.inl (q:=y) (Evt.diag (f:=fun k q=>cmp_Or_int_L58 k q 0 [0,y] ([0,y].length:Int) 0) ?_) (by rw [orI_z];exact .pure)
   refine step 0 _ _ (fun k q=>cmp_Or_int_L58.eq_2 k _ _ _ _ q) ?_
   refine Evt.ctrue rfl (Evt.ctrue rfl (Evt.ctrue rfl (Evt.cfalse rfl ?_)))
   refine step 1 _ _ (fun k q=>cmp_Or_int_L58.eq_2 k _ _ _ _ q) ?_
   refine Evt.ctrue rfl (Evt.ctrue rfl (Evt.ctrue rfl (Evt.ctrue ?_ .pure)))
   show(y != 0)=true
   simpa using hy
 ·refine Evt.inl (q:=x) (Evt.diag (f:=fun k q=>cmp_Or_int_L58 k q 0 [x,y] ([x,y].length:Int) 0) ?_) (by rw [orI_ne hx];exact .pure)
  refine step 0 _ _ (fun k q=>cmp_Or_int_L58.eq_2 k _ _ _ _ q) ?_
  refine Evt.ctrue rfl (Evt.ctrue rfl (Evt.ctrue rfl (Evt.ctrue ?_ .pure)))
  show(x != 0)=true
  simpa using hx

theorem sizes_ev(n1 n2:Bool)(M1 M2:Nat):Evt (fun k _=>impl_compareSizes k (wN n1 M1) (wN n2 M2)) (cmpI M1 M2):=by
 refine Evt.eq (f:=fun k q=>_) ?_ (fun k q=>by rw [impl_compareSizes])
 refine Evt.bind (.const (cmpU_eq _ _)) (Evt.bind (.const (cmpU_eq _ _)) (Evt.bind (or2_ev _ _) ?_))
 refine .const ?_
 congr 1
 simp only [wN]
 have e1:=Nat.div_add_mod M1 B64
 have e2:=Nat.div_add_mod M2 B64
 have l1:=Nat.mod_lt M1 (y:=B64) (by simp [B64])
 have l2:=Nat.mod_lt M2 (y:=B64) (by simp [B64])
 rcases Nat.lt_trichotomy (M1 / B64) (M2 / B64)with h | h | h
 ·have:M1<M2:=by
   have:(M1 / B64+1)*B64≤M2 / B64*B64:=Nat.mul_le_mul_right _ h
   rw [Nat.add_mul,Nat.one_mul,Nat.mul_comm,Nat.mul_comm (M2 / B64)]at this
   omega
  have c1:cmpI ((M1 / B64:Nat):Int) ((M2 / B64:Nat):Int) = -1:=by unfold cmpI;rw [if_pos (by omega)]
  have c2:cmpI M1 M2 = -1:=by unfold cmpI;rw [if_pos (by omega)]
  rw [c1,c2];rfl
 ·rw [h]at e1
  have c1:cmpI ((M1 / B64:Nat):Int) ((M2 / B64:Nat):Int)=0:=by unfold cmpI;rw [if_neg (by omega),if_neg (by omega)]
  rw [c1,orI_z]
  have i1:(((M1 % B64:Nat):Int)<((M2 % B64:Nat):Int))↔((M1:Int)<M2):=by omega
  have i2:(((M2 % B64:Nat):Int)<((M1 % B64:Nat):Int))↔((M2:Int)<M1):=by omega
  unfold cmpI
  simp only [i1,i2]
 ·have:M2<M1:=by
   have:(M2 / B64+1)*B64≤M1 / B64*B64:=Nat.mul_le_mul_right _ h
   rw [Nat.add_mul,Nat.one_mul,Nat.mul_comm,Nat.mul_comm (M1 / B64)]at this
   omega
  have c1:cmpI ((M1 / B64:Nat):Int) ((M2 / B64:Nat):Int)=1:=by unfold cmpI;rw [if_neg (by omega),if_pos (by omega)]
  have c2:cmpI M1 M2=1:=by unfold cmpI;rw [if_neg (by omega),if_pos (by omega)]
  rw [c1,c2];rfl

theorem isZero_eq(neg:Bool)(M:Nat):impl_wide_isZero (wN neg M)=some (decide (M=0)):=by
 unfold impl_wide_isZero wN
 have e1:=Nat.div_add_mod M B64
 by_cases h:M=0
 ·subst h;simp
 ·have hd:decide (M=0)=false:=by simpa using h
  rw [hd]
  by_cases h1:M / B64=0
  ·have h2:M % B64≠0:=by
    intro h2
    rw [h1,h2]at e1
    omega
   have:((((M % B64:Nat):Int))==0)=false:=by rw [beq_eq_false_iff_ne];intro h3;exact h2 (Int.ofNat.inj h3)
   simp only [h1,this]
   rfl
  ·have:((((M / B64:Nat):Int))==0)=false:=by
    rw [beq_eq_false_iff_ne];intro h3;exact h1 (Int.ofNat.inj h3)
   simp only [this]
   rfl

theorem wV_cmp(n1 n2:Bool)(M1 M2:Nat):Evt (fun k _=>impl_compareWide k (wN n1 M1) (wN n2 M2)) (cmpI (wV n1 M1) (wV n2 M2)):=by
 refine Evt.eq (f:=fun k q=>_) ?_ (fun k q=>by rw [impl_compareWide])
 have rest : ¬ (M1=0∧M2=0)→∀(f:Nat→Nat→Option (Int ⊕ ((Bool×Int×Int)×(Bool×Int×Int)×Unit))),(∀k q,f k q=(bif (!((wN n1 M1).1==(wN n2 M2).1))then(bif (wN n1 M1).1 then some (Sum.inl (-1))else some (Sum.inl 1))else(bif (wN n1 M1).1 then(Option.bind (impl_compareSizes k (wN n2 M2) (wN n1 M1)) fun r4=>some (Sum.inl r4))else some (Sum.inr (wN n1 M1,wN n2 M2,()))))) →
   Evt (fun k q=>both (R:=Int) (P:=(Bool×Int×Int)×(Bool×Int×Int)×Unit) (f k q) (fun q7=>some q7) (fun y5=>(Option.bind (impl_compareSizes k y5.1 y5.2.1) fun r6=>some r6))) (cmpI (wV n1 M1) (wV n2 M2)):=by
  intro hne f hf
  cases n1 <;> cases n2
  ·refine Evt.inr (y:=(wN false M1,wN false M2,())) (Evt.eq (f:=fun _ _=>some _) .pure (fun k q=>by rw [hf];rfl)) ?_
   exact Evt.bind (sizes_ev _ _ _ _) .pure
  ·refine Evt.inl (q:=1) (Evt.eq (f:=fun _ _=>some _) .pure (fun k q=>by rw [hf];rfl)) ?_
   refine .const ?_
   congr 1
   simp only [cmpI,wV]
   simp <;> omega
  ·refine Evt.inl (q := -1) (Evt.eq (f:=fun _ _=>some _) .pure (fun k q=>by rw [hf];rfl)) ?_
   refine .const ?_
   congr 1
   simp only [cmpI,wV]
   simp <;> omega
  ·refine Evt.inl (q:=cmpI M2 M1) (Evt.eq (f:=fun k q=>Option.bind (impl_compareSizes k (wN true M2) (wN true M1)) fun r4=>some (Sum.inl r4)) (Evt.bind (sizes_ev _ _ _ _) .pure) (fun k q=>by rw [hf];rfl)) ?_
   refine .const ?_
   congr 1
   simp only [cmpI,wV]
   simp
 by_cases h1:M1=0
 ·by_cases h2:M2=0
  ·refine Evt.inl (q:=0) ?_ ?_
   ·exact Evt.bind (.const (isZero_eq _ _)) (Evt.ctrue (by simp [h1]) (Evt.bind (.const (isZero_eq _ _)) (Evt.ctrue (by simp [h2]) .pure)))
   ·refine .const ?_
    subst h1;subst h2
    cases n1 <;> cases n2 <;> rfl
  ·refine rest (fun h=>h2 h.2) _ (fun k q => ?_)
   rw [isZero_eq,isZero_eq]
   simp [h1,h2]
 ·refine rest (fun h=>h1 h.1) _ (fun k q => ?_)
  rw [isZero_eq]
  simp [h1]

theorem add64_eq{a b:Nat}{c:Nat}(hc:c≤1):math_bits_Add64 a b c=some ((((a+b+c) % B64:Nat):Int),(((a+b+c) / B64:Nat):Int)):=by
 unfold math_bits_Add64
 have:((c:Int)==0||(c:Int)==1)=true:=by
  have:c=0∨c=1:=by omega
  rcases this with rfl | rfl <;> rfl
 rw [this]
 rfl
theorem sub64_eq{a b:Nat}{c:Nat}(hc:c≤1):math_bits_Sub64 a b c=some ((((a+B64 - b - c) % B64:Nat):Int),((if a<b+c then 1 else 0:Nat):Int)):=by
 unfold math_bits_Sub64
 have:((c:Int)==0||(c:Int)==1)=true:=by
  have:c=0∨c=1:=by omega
  rcases this with rfl | rfl <;> rfl
 rw [this]
 rfl

theorem divmod_unique{a q r:Nat}(h:a=q*B64+r)(hr:r<B64):a / B64=q∧a % B64=r:=by
 subst h
 constructor
 ·rw [Nat.mul_comm,Nat.mul_add_div (by simp [B64]),Nat.div_eq_of_lt hr,Nat.add_zero]
 ·rw [Nat.mul_comm,Nat.mul_add_mod,Nat.mod_eq_of_lt hr]

theorem add_same{neg:Bool}{M1 M2:Nat}(h:M1+M2<B64*B64)(k:Nat):impl_wide_add k (wN neg M1) (wN neg M2)=some (wN neg (M1+M2)):=by
 unfold impl_wide_add
 have e:((wN neg M1).1==(wN neg M2).1)=true:=by simp [wN]
 rw [e]
 simp only [cond_true,wN]
 have a1:=add64_eq (a:=M1 % B64) (b:=M2 % B64) (c:=0) (by omega)
 simp only [Nat.add_zero]at a1
 rw [show((0:Nat):Int)=0 from rfl]at a1
 rw [a1]
 simp only [Option.bind_some]
 have l1:=Nat.mod_lt M1 (y:=B64) (by simp [B64])
 have l2:=Nat.mod_lt M2 (y:=B64) (by simp [B64])
 have hc:(M1 % B64+M2 % B64) / B64≤1:=by
  have:(M1 % B64+M2 % B64) / B64<2:=Nat.div_lt_of_lt_mul (by omega)
  omega
 rw [add64_eq hc]
 simp only [Option.bind_some]
 have e1:=Nat.div_add_mod M1 B64
 have e2:=Nat.div_add_mod M2 B64
 have e3:=Nat.div_add_mod (M1 % B64+M2 % B64) B64
 have l3:=Nat.mod_lt (M1 % B64+M2 % B64) (y:=B64) (by simp [B64])
 have hs:M1+M2=(M1 / B64+M2 / B64+(M1 % B64+M2 % B64) / B64)*B64+(M1 % B64+M2 % B64) % B64:=by
  rw [Nat.add_mul,Nat.add_mul,Nat.mul_comm (M1 / B64),Nat.mul_comm (M2 / B64),Nat.mul_comm ((M1 % B64+M2 % B64) / B64)]
  omega
 obtain⟨u1,u2⟩:=divmod_unique hs l3
 have hq:(M1+M2) / B64<B64:=Nat.div_lt_of_lt_mul h
 rw [u1]at hq
 rw [u1,u2,Nat.mod_eq_of_lt hq]

theorem sub_big{neg n2:Bool}{M1 M2:Nat}(h:M2≤M1)(hM:M1<B64*B64):(Option.bind (math_bits_Sub64 (wN neg M1).2.2 (wN n2 M2).2.2 0) fun r5=>(Option.bind (math_bits_Sub64 (wN neg M1).2.1 (wN n2 M2).2.1 r5.2) fun r6=>some ((wN neg M1).1,r6.1,r5.1)))=some (wN neg (M1 - M2)):=by
 simp only [wN]
 have a1:=sub64_eq (a:=M1 % B64) (b:=M2 % B64) (c:=0) (by omega)
 simp only [Nat.add_zero,Nat.sub_zero]at a1
 rw [show((0:Nat):Int)=0 from rfl]at a1
 rw [a1]
 simp only [Option.bind_some]
 have l1:=Nat.mod_lt M1 (y:=B64) (by simp [B64])
 have l2:=Nat.mod_lt M2 (y:=B64) (by simp [B64])
 have e1:=Nat.div_add_mod M1 B64
 have e2:=Nat.div_add_mod M2 B64
 have hle:M2 / B64≤M1 / B64:=Nat.div_le_div_right h
 have hq:M1 / B64<B64:=Nat.div_lt_of_lt_mul hM
 generalize M1 / B64=q1 at *
 generalize M2 / B64=q2 at *
 generalize M1 % B64=r1 at *
 generalize M2 % B64=r2 at *
 by_cases hb:r1<r2
 ·rw [if_pos hb]
  rw [sub64_eq (c:=1) (by omega)]
  simp only [Option.bind_some]
  have hlt:q2<q1:=by
   rcases Nat.lt_or_ge (q2) (q1)with h' | h'
   ·exact h'
   ·have:q1=q2:=by omega
    rw [this]at e1
    omega
  have h3:B64*(q2)+B64≤B64*(q1):=by
   have:B64*(q2+1)≤B64*(q1):=Nat.mul_le_mul_left _ hlt
   rwa [Nat.mul_add,Nat.mul_one]at this
  have hs:M1 - M2=(q1 - q2 - 1)*B64+(r1+B64 - r2):=by
   rw [Nat.sub_mul,Nat.sub_mul,Nat.one_mul,Nat.mul_comm (q1),Nat.mul_comm (q2)]
   omega
  have hlt2:r1+B64 - r2<B64:=by omega
  obtain⟨u1,u2⟩:=divmod_unique hs hlt2
  rw [u1,u2,Nat.mod_eq_of_lt hlt2]
  have h5:q1+B64 - q2 - 1=(q1 - q2 - 1)+B64:=by omega
  rw [h5,Nat.add_mod_right,Nat.mod_eq_of_lt (by omega)]
 ·rw [if_neg hb]
  rw [sub64_eq (c:=0) (by omega)]
  simp only [Option.bind_some,Nat.sub_zero]
  have hs:M1 - M2=(q1 - q2)*B64+(r1 - r2):=by
   have h3:B64*(q2)≤B64*(q1):=Nat.mul_le_mul_left _ hle
   rw [Nat.sub_mul,Nat.mul_comm (q1),Nat.mul_comm (q2)]
   omega
  have hlt2:r1 - r2<B64:=by omega
  obtain⟨u1,u2⟩:=divmod_unique hs hlt2
  rw [u1,u2]
  have h5:q1+B64 - q2=(q1 - q2)+B64:=by omega
  have h6:r1+B64 - r2=(r1 - r2)+B64:=by omega
  rw [h5,h6,Nat.add_mod_right,Nat.add_mod_right,Nat.mod_eq_of_lt (by omega),Nat.mod_eq_of_lt hlt2]

theorem add_ev{n1 n2:Bool}{M1 M2:Nat}(h:M1+M2<B64*B64):∃neg M,M≤M1+M2∧wV neg M=wV n1 M1+wV n2 M2∧Evt (fun k _=>impl_wide_add k (wN n1 M1) (wN n2 M2)) (wN neg M):=by
 by_cases hn:n1=n2
 ·subst hn
  refine⟨n1,M1+M2,Nat.le_refl _,?_,Evt.eq (f:=fun _ _=>some _) .pure (fun k q=>add_same h k)⟩
  cases n1 <;> simp [wV] <;> omega
 ·have e:((wN n1 M1).1==(wN n2 M2).1)=false:=by
   simp only [wN];cases n1 <;> cases n2 <;> simp_all
  rcases Nat.lt_or_ge M1 M2 with hlt | hge
  ·refine⟨n2,M2 - M1,by omega,?_,Evt.eq (f:=fun k q=>_) ?_ (fun k q=>by rw [impl_wide_add])⟩
   ·cases n1 <;> cases n2 <;> simp_all [wV] <;> omega
   ·refine Evt.cfalse e ?_
    refine Evt.inr (y:=(wN n2 M2,wN n1 M1,(false,0,0),())) (Evt.bind (sizes_ev _ _ _ _) (Evt.ctrue ?_ .pure)) (.const (sub_big (by omega) (by omega)))
    simp [cmpI];omega
  ·refine⟨n1,M1 - M2,by omega,?_,Evt.eq (f:=fun k q=>_) ?_ (fun k q=>by rw [impl_wide_add])⟩
   ·cases n1 <;> cases n2 <;> simp_all [wV] <;> omega
   ·refine Evt.cfalse e ?_
    refine Evt.inr (y:=(wN n1 M1,wN n2 M2,(false,0,0),())) (Evt.bind (sizes_ev _ _ _ _) (Evt.cfalse ?_ .pure)) (.const (sub_big hge (by omega)))
    have : ¬ (M1:Int)<M2:=by omega
    simp only [cmpI,if_neg this]
    split <;> simp

theorem fit_loop:∀(m:Nat) (neg:Bool) (M:Nat) (z:Int×Int),m<9223372036854775808→M<B64*B64 →
  Evt (fun k q=>impl_wide_fit_L28 k q m (wN neg M) z) (.inr (((strip m M).2:Int),wN neg (strip m M).1.toNat,z,())):=by
 intro m
 induction m with
 | zero =>
  intro neg M z _ _
  refine Evt.step (fun k q=>impl_wide_fit_L28.eq_2 k _ _ z q) (Evt.cfalse (by simp) ?_)
  simp only [strip,Int.toNat_natCast]
  exact .pure
 | succ m ih =>
  intro neg M z hm hM
  refine Evt.step (fun k q=>impl_wide_fit_L28.eq_2 k _ _ z q) (Evt.ctrue (by simp <;> omega) ?_)
  have hpar:(M % B64) % 2=M % 2:=Nat.mod_mod_of_dvd M ⟨9223372036854775808,rfl⟩
  by_cases h:M % 2=0
  ·have c:(Int.tmod (wN neg M).2.2 2==0)=true:=by
    simp only [wN]
    have:Int.tmod ((M % B64:Nat):Int) 2=(((M % B64) % 2:Nat):Int):=rfl
    rw [this,hpar,h];rfl
   refine Evt.ctrue c ?_
   have hs:=shr_eq (neg:=neg) (M:=M) (j:=1) (by omega) (by omega) hM
   rw [show(-((1:Nat):Int)) = -1 from rfl,Nat.pow_one]at hs
   refine Evt.bind (.const hs) ?_
   rw [show((m+1:Nat):Int) - 1=(m:Int)by omega,w64 (by omega) (by omega)]
   have:=ih neg (M / 2) z (by omega) (Nat.lt_of_le_of_lt (Nat.div_le_self _ _) hM)
   have e:strip (m+1) (M:Int)=strip m ((M / 2:Nat):Int):=by
    rw [strip,if_pos (by omega)]
    rfl
   rw [e]
   exact this
  ·have c:(Int.tmod (wN neg M).2.2 2==0)=false:=by
    simp only [wN]
    have:Int.tmod ((M % B64:Nat):Int) 2=(((M % B64) % 2:Nat):Int):=rfl
    rw [this,hpar]
    have:M % 2=1:=by omega
    rw [this];rfl
   refine Evt.cfalse c ?_
   have e:strip (m+1) (M:Int)=((M:Int),m+1):=strip_odd (by omega)
   rw [e]
   simp only [Int.toNat_natCast]
   exact .pure

theorem fit_ev{neg:Bool}{M m:Nat}(hM:M<B64*B64)(hm:m<9223372036854775808):Evt (fun k _=>impl_wide_fit k (wN neg M) m) (mkD (wV neg M) m):=by
 refine Evt.eq (f:=fun k q=>_) ?_ (fun k q=>by rw [impl_wide_fit])
 refine Evt.bind (.const (isZero_eq _ _)) ?_
 by_cases h0:M=0
 ·refine Evt.ctrue (by simp [h0]) ?_
  have:wV neg M=0:=by subst h0;cases neg <;> rfl
  rw [this,mkD_zero]
  exact .pure
 ·refine Evt.cfalse (by simp [h0]) ?_
  refine Evt.inr (Evt.diag (fit_loop m neg M (0,0) hm hM)) ?_
  have hb:=strip_bound m (M:Int) (by omega)
  have hne:=strip_ne m (M:Int) (by omega)
  have hv:strip m (wV neg M)=(wV neg (strip m M).1.toNat,(strip m M).2):=by
   cases neg with
   | false=>simp only [wV];simp;rw [Int.max_eq_left hb.1]
   | true =>
    simp only [wV,if_true]
    rw [strip_neg,Int.toNat_of_nonneg hb.1]
  obtain⟨S,hS⟩:=Int.eq_ofNat_of_zero_le hb.1
  rw [hS]at hv
  simp only [Int.toNat_natCast,hS]at hv ⊢
  have hSM:S<B64*B64:=by omega
  have hS0:S≠0:=by omega
  unfold mkD
  rw [hv]
  simp only [wN]
  have e1:=Nat.div_add_mod S B64
  have hlt:=Nat.mod_lt S (y:=B64) (by simp [B64])
  by_cases g1:(strip m (M:Int)).2≤24
  ·refine Evt.cfalse (by simp;omega) ?_
   by_cases g2:S / B64=0
   ·refine Evt.cfalse (by simp [g2]) ?_
    have g3:S % B64=S:=by rw [g2]at e1;omega
    simp only [g3]
    by_cases g4:S≤1099511627776
    ·refine Evt.cfalse (by simp;omega) ?_
     rw [if_pos (by cases neg <;> simp [wV] <;> omega)]
     have w1:IntKind.wrap .i64 (S:Int)=S:=by rw [w64] <;> omega
     have w2:IntKind.wrap .i64 (0 - (S:Int)) = -(S:Int):=by rw [w64] <;> omega
     cases neg with
     | true =>
      refine Evt.ctrue rfl (.const ?_)
      rw [w1,w2];rfl
     | false =>
      refine Evt.cfalse rfl (.const ?_)
      rw [w1];rfl
    ·refine Evt.ctrue (by simp;omega) ?_
     rw [if_neg (by cases neg <;> simp [wV] <;> omega)]
     exact .pure
   ·have hq:0<S / B64:=Nat.pos_of_ne_zero g2
    refine Evt.ctrue (decide_eq_true (Int.ofNat_lt.2 hq)) ?_
    have:B64≤S:=by
     have:B64*1≤B64*(S / B64):=Nat.mul_le_mul_left _ hq
     omega
    simp only [B64]at this
    rw [if_neg (by cases neg <;> simp [wV] <;> omega)]
    exact .pure
  ·refine Evt.ctrue (by simp;omega) ?_
   rw [if_neg (by intro h;exact g1 h.2.2)]
   exact .pure
end Go.Ev.G

namespace Go.Ev.G
open Go Go.Ev
set_option maxRecDepth 100000

theorem gd_nat{a:Int×Int}(h:gd a):∃(n:Int) (j:Nat),a=(n,(j:Int))∧j≤24 ∧ -1099511627776≤n∧n≤1099511627776∧(j=0∨n % 2≠0):=by
 obtain⟨n,j⟩:=a
 obtain⟨h1,h2,h3,h4,h5⟩:=h
 simp only at *
 obtain⟨j,rfl⟩:=Int.eq_ofNat_of_zero_le h1
 exact⟨n,j,rfl,by omega,h3,h4,by omega⟩

theorem max_if(a b:Int):(if a<b then b else a)=max a b:=by
 by_cases h:a<b
 ·rw [if_pos h];omega
 ·rw [if_neg h];omega

theorem wide_at{n:Int}{j K:Nat}(hj:j≤K)(hK:K≤48)(h1 : -1099511627776≤n)(h2:n≤1099511627776) :
  impl_wideOf n=some (wN (decide (n<0)) n.natAbs)∧impl_wide_shift (wN (decide (n<0)) n.natAbs) (IntKind.wrap .i64 ((K:Int) - (j:Int)))=some (wN (decide (n<0)) (n.natAbs*2 ^ (K - j))) ∧
   n.natAbs*2 ^ (K - j)<B64*33554432∧wV (decide (n<0)) (n.natAbs*2 ^ (K - j))=n*2 ^ (K - j):=by
 have hw:IntKind.wrap .i64 ((K:Int) - (j:Int))=((K - j:Nat):Int):=by rw [w64] <;> omega
 have hp:2 ^ (K - j)≤2 ^ 48:=Nat.pow_le_pow_right (by omega) (by omega)
 have hb:n.natAbs*2 ^ (K - j)<B64*33554432:=by
  have:n.natAbs*2 ^ (K - j)≤1099511627776*2 ^ 48:=Nat.mul_le_mul (by omega) hp
  simp only [B64]
  omega
 refine⟨wideOf_eq (by omega) (by omega),?_,hb,?_⟩
 ·rw [hw]
  exact shl_eq (by omega) (Nat.lt_of_lt_of_le hb (by simp [B64]))
 ·have h0:=wV_of n
  unfold wV at h0 ⊢
  by_cases h:n<0
  ·simp only [h,decide_true,if_true]at h0 ⊢
   conv=>rhs;rw [←h0]
   simp [Int.neg_mul]
  ·simp only [h,decide_false,Bool.false_eq_true,if_false]at h0 ⊢
   conv=>rhs;rw [←h0]
   simp

theorem sumOf_ev{a b:Int×Int}(ha:gd a)(hb:gd b):Evt (fun k _=>impl_sumOf k a b) (sumD a b):=by
 obtain⟨n,j,rfl,a1,a2,a3,a4⟩:=gd_nat ha
 obtain⟨m,i,rfl,b1,b2,b3,b4⟩:=gd_nat hb
 refine Evt.eq (f:=fun k q=>_) ?_ (fun k q=>by rw [impl_sumOf])
 simp only [max_if]
 have hmax:max ((j:Nat):Int) (i:Int)=((max j i:Nat):Int):=by omega
 simp only [hmax]
 obtain⟨u1,u2,u3,u4⟩:=wide_at (n:=n) (j:=j) (K:=max j i) (by omega) (by omega) a2 a3
 obtain⟨v1,v2,v3,v4⟩:=wide_at (n:=m) (j:=i) (K:=max j i) (by omega) (by omega) b2 b3
 refine Evt.bind (.const u1) (Evt.bind (.const u2) (Evt.bind (.const v1) (Evt.bind (.const v2) ?_)))
 obtain⟨neg,M,hM,hv,hev⟩:=add_ev (n1:=decide (n<0)) (n2:=decide (m<0)) (M1:=n.natAbs*2 ^ (max j i - j)) (M2:=m.natAbs*2 ^ (max j i - i)) (by simp only [B64]at *; omega)
 refine Evt.bind hev (Evt.bind (fit_ev (by simp only [B64]at *; omega) (by omega)) ?_)
 rw [hv,u4,v4]
 have e:sumD (n,(j:Int)) (m,(i:Int))=mkD (n*2 ^ (max j i - j)+m*2 ^ (max j i - i)) (max j i):=by simp [sumD,sumN,exA]
 rw [e]
 exact .pure

def sv(a:Int×Int):Int:=a.1*2 ^ (24 - a.2.toNat)

theorem cmpI_mul{a b p:Int}(hp:0<p):cmpI (a*p) (b*p)=cmpI a b:=by
 unfold cmpI
 have i1:(a*p<b*p)↔(a<b):=Int.mul_lt_mul_right hp
 have i2:(b*p<a*p)↔(b<a):=Int.mul_lt_mul_right hp
 simp only [i1,i2]

theorem cmpD_scale{n m:Int}{j i K:Nat}(hj:j≤K)(hi:i≤K)(hK:K≤24):cmpI (n*2 ^ (K - j)) (m*2 ^ (K - i))=cmpI (n*2 ^ (24 - j)) (m*2 ^ (24 - i)):=by
 have hp:(0:Int)<2 ^ (24 - K):=Int.pow_pos (by omega)
 rw [←cmpI_mul (a:=n*2 ^ (K - j)) (b:=m*2 ^ (K - i)) hp,Int.mul_assoc,Int.mul_assoc,←Int.pow_add,←Int.pow_add]
 rw [show K - j+(24 - K)=24 - j by omega,show K - i+(24 - K)=24 - i by omega]

theorem compareD_ev{a b:Int×Int}(ha:gd a)(hb:gd b):Evt (fun k _=>impl_compareD k a b) (cmpI (sv a) (sv b)):=by
 obtain⟨n,j,rfl,a1,a2,a3,a4⟩:=gd_nat ha
 obtain⟨m,i,rfl,b1,b2,b3,b4⟩:=gd_nat hb
 refine Evt.eq (f:=fun k q=>_) ?_ (fun k q=>by rw [impl_compareD])
 simp only [max_if]
 have hmax:max ((j:Nat):Int) (i:Int)=((max j i:Nat):Int):=by omega
 simp only [hmax]
 obtain⟨u1,u2,u3,u4⟩:=wide_at (n:=n) (j:=j) (K:=max j i) (by omega) (by omega) a2 a3
 obtain⟨v1,v2,v3,v4⟩:=wide_at (n:=m) (j:=i) (K:=max j i) (by omega) (by omega) b2 b3
 refine Evt.bind (.const u1) (Evt.bind (.const u2) (Evt.bind (.const v1) (Evt.bind (.const v2) (Evt.bind (wV_cmp _ _ _ _) ?_))))
 rw [u4,v4,cmpD_scale (by omega) (by omega) (by omega)]
 exact .pure

theorem sign_eq(n:Int):spec_l1Sign n=some (cmpI n 0):=by
 unfold spec_l1Sign cmpI
 rcases Int.lt_trichotomy n 0 with h | h | h
 ·have h1 : ¬ n>0:=by omega
  simp [h,h1]
 ·subst h;rfl
 ·have h1 : ¬ n<0:=by omega
  simp [h,h1]

theorem dyDown_eq{n:Int}{p:Nat}(hp:0<p)(h1 : -9223372036854775807≤n)(h2:n<9223372036854775808):spec_dyDown n p=some (n / (p:Int)):=by
 unfold spec_dyDown
 have e0:(((p:Nat):Int)==0)=false:=by rw [beq_eq_false_iff_ne];omega
 have hq:Int.tmod n p+p*Int.tdiv n p=n:=Int.tmod_add_mul_tdiv n p
 have hpi:(0:Int)<p:=by omega
 have hle : -9223372036854775807≤Int.tdiv n p∧Int.tdiv n p<9223372036854775808:=by
  have h3:=Int.natAbs_tdiv_le_natAbs n p
  omega
 rw [e0]
 simp only [cond_false]
 by_cases h:Int.tmod n p<0
 ·have hd:decide (Int.tmod n p<0)=true:=by simpa using h
  have hlt : -(p:Int)<Int.tmod n p:=by
   have:=Int.lt_tmod_of_pos n hpi
   exact this
  have e:n / (p:Int)=Int.tdiv n p - 1:=by
   have h4:n=(Int.tmod n p+p)+p*(Int.tdiv n p - 1):=by
    rw [Int.mul_sub,Int.mul_one];omega
   conv=>lhs;rw [h4]
   rw [Int.add_mul_ediv_left _ _ (by omega),Int.ediv_eq_zero_of_lt (by omega) (by omega)]
   omega
  rw [hd,w64 (n:=Int.tdiv n p) (by omega) (by omega),w64 (by omega) (by omega),e]
  rfl
 ·have hd:decide (Int.tmod n p<0)=false:=by simpa using h
  have hlt:Int.tmod n p<p:=Int.tmod_lt_of_pos n hpi
  have e:n / (p:Int)=Int.tdiv n p:=by
   have h4:n=Int.tmod n p+p*Int.tdiv n p:=by omega
   conv=>lhs;rw [h4]
   rw [Int.add_mul_ediv_left _ _ (by omega),Int.ediv_eq_zero_of_lt (by omega) (by omega)]
   omega
  rw [hd,w64 (n:=Int.tdiv n p) (by omega) (by omega),e]
  rfl

theorem dyFloor_eq{n:Int}{j:Nat}(hj:j≤24)(h1 : -1099511627776≤n)(h2:n≤1099511627776):spec_dyFloor (n,(j:Int))=some (n / ((2 ^ j:Nat):Int)):=by
 unfold spec_dyFloor
 simp only [dyPower_eq (show j≤62 by omega),Option.bind_some]
 rw [dyDown_eq (Nat.pow_pos (by omega)) (by omega) (by omega)]
 rfl

theorem dyCmp_ev{a b:Int×Int}(ha:gd a)(hb:gd b):Evt (fun k _=>spec_dyCmp k a b) (cmpI (sv a) (sv b)):=by
 obtain⟨n,j,rfl,a1,a2,a3,a4⟩:=gd_nat ha
 obtain⟨m,i,rfl,b1,b2,b3,b4⟩:=gd_nat hb
 refine Evt.eq (f:=fun k q=>_) ?_ (fun k q=>by rw [spec_dyCmp])
 refine Evt.bind (.const (dyFloor_eq a1 a2 a3)) (Evt.bind (.const (dyFloor_eq b1 b2 b3)) ?_)
  -- what each is made of
 have part:∀(n:Int) (j:Nat),j≤24 → -1099511627776≤n→n≤1099511627776→∃r:Int,0≤r∧r<((2 ^ j:Nat):Int)∧n=r+(n / ((2 ^ j:Nat):Int))*((2 ^ j:Nat):Int) ∧ -1099511627776≤n / ((2 ^ j:Nat):Int)∧n / ((2 ^ j:Nat):Int)≤1099511627776 ∧
   n*2 ^ (24 - j)=r*2 ^ (24 - j)+(n / ((2 ^ j:Nat):Int))*16777216∧r*2 ^ (24 - j)<16777216∧0≤r*2 ^ (24 - j):=by
  intro n j hj h1 h2
  have hp:(0:Nat)<2 ^ j:=Nat.pow_pos (by omega)
  have hpi:(0:Int)<((2 ^ j:Nat):Int):=by omega
  have e:=Int.emod_add_mul_ediv n ((2 ^ j:Nat):Int)
  have h3:=Int.emod_nonneg n (show((2 ^ j:Nat):Int)≠0 by omega)
  have h4:=Int.emod_lt_of_pos n hpi
  have hpow:((2 ^ j:Nat):Int)*2 ^ (24 - j)=16777216:=by
   rw [show((2 ^ j:Nat):Int)=(2:Int) ^ j by simp,←Int.pow_add,show j+(24 - j)=24 by omega]
   rfl
  have hq:(0:Int)<2 ^ (24 - j):=Int.pow_pos (by omega)
  refine⟨n % ((2 ^ j:Nat):Int),h3,h4,?_,?_,?_,?_,?_,?_⟩
  ·rw [Int.mul_comm (n / _)];exact e.symm
  ·have:=Int.ediv_le_ediv hpi h1
   have h5:(-1099511627776:Int) ≤ -1099511627776 / ((2 ^ j:Nat):Int):=by
    rw [Int.le_ediv_iff_mul_le hpi]
    have:(1:Int)≤((2 ^ j:Nat):Int):=by omega
    omega
   omega
  ·have:=Int.ediv_le_ediv hpi h2
   have h5:(1099511627776:Int) / ((2 ^ j:Nat):Int)≤1099511627776:=Int.ediv_le_self _ (by omega)
   omega
  ·conv=>lhs;rw [←e]
   rw [Int.add_mul,Int.mul_comm ((2 ^ j:Nat):Int),Int.mul_assoc,hpow]
  ·rw [←hpow]
   exact Int.mul_lt_mul_of_pos_right h4 hq
  ·exact Int.mul_nonneg h3 (by omega)
 obtain⟨r,r1,r2,r3,r4,r5,r6,r7,r8⟩:=part n j a1 a2 a3
 obtain⟨s,s1,s2,s3,s4,s5,s6,s7,s8⟩:=part m i b1 b2 b3
 have hsv1:sv (n,(j:Int))=r*2 ^ (24 - j)+(n / ((2 ^ j:Nat):Int))*16777216:=by simp only [sv,Int.toNat_natCast];exact r6
 have hsv2:sv (m,(i:Int))=s*2 ^ (24 - i)+(m / ((2 ^ i:Nat):Int))*16777216:=by simp only [sv,Int.toNat_natCast];exact s6
 rw [hsv1,hsv2]
 generalize hP:n / ((2 ^ j:Nat):Int)=p at *
 generalize hQ:m / ((2 ^ i:Nat):Int)=q at *
 by_cases hpq:p=q
 ·subst hpq
  refine Evt.cfalse (by simp) ?_
  refine Evt.bind (.const (dyPower_eq (show j≤62 by omega))) ?_
  have pj:((2 ^ j:Nat):Int)≤16777216:=by
   have:2 ^ j≤2 ^ 24:=Nat.pow_le_pow_right (by omega) a1
   omega
  have pi:((2 ^ i:Nat):Int)≤16777216:=by
   have:2 ^ i≤2 ^ 24:=Nat.pow_le_pow_right (by omega) b1
   omega
  have w1:IntKind.wrap .i64 (p*((2 ^ j:Nat):Int))=n - r:=by rw [w64] <;> omega
  have w2:IntKind.wrap .i64 (p*((2 ^ i:Nat):Int))=m - s:=by rw [w64] <;> omega
  have w3:IntKind.wrap .i64 (n - (n - r))=r:=by rw [w64] <;> omega
  have w4:IntKind.wrap .i64 (m - (m - s))=s:=by rw [w64] <;> omega
  simp only [w1,w3]
  have x1:=dyAt_ev (n:=r) (j:=j) (K:=24) a1 (by omega) (by omega) (by omega)
  have x2:=dyAt_ev (n:=s) (j:=i) (K:=24) b1 (by omega) (by omega) (by omega)
  have t1:=atV_small (24 - j) r (by omega) (by omega)
  have t2:=atV_small (24 - i) s (by omega) (by omega)
  refine Evt.bind x1 (Evt.bind (.const (dyPower_eq (show i≤62 by omega))) ?_)
  simp only [w2,w4]
  refine Evt.bind x2 ?_
  rw [atV_true _ _ t1,atV_true _ _ t2,w64 (by omega) (by omega)]
  refine Evt.bind (.const (sign_eq _)) (.const ?_)
  congr 1
  unfold cmpI
  have i1:(r*2 ^ (24 - j) - s*2 ^ (24 - i)<0)↔(r*2 ^ (24 - j)+p*16777216<s*2 ^ (24 - i)+p*16777216):=by omega
  have i2:(0<r*2 ^ (24 - j) - s*2 ^ (24 - i))↔(s*2 ^ (24 - i)+p*16777216<r*2 ^ (24 - j)+p*16777216):=by omega
  simp only [i1,i2]
 ·refine Evt.ctrue (by simpa using hpq) ?_
  rw [w64 (by omega) (by omega)]
  refine Evt.bind (.const (sign_eq _)) (.const ?_)
  congr 1
  unfold cmpI
  rcases Int.lt_or_gt_of_ne hpq with h | h
  ·rw [if_pos (by omega),if_pos (by omega)]
  ·rw [if_neg (by omega),if_pos (by omega),if_neg (by omega),if_pos (by omega)]

theorem minus_eq{a:Int×Int}(h:gd a):impl_minus a=some (-a.1,a.2):=by
 have:=h.2.2
 unfold impl_minus
 rw [w64 (by omega) (by omega)]
 congr 2
 omega

theorem gd_neg{a:Int×Int}(h:gd a):gd (-a.1,a.2):=⟨h.1,h.2.1,by have:=h.2.2;simp;omega,by have:=h.2.2;simp;omega,by rcases h.2.2.2.2 with h | h;exact .inl h;exact .inr (by simp;omega)⟩
theorem sv_neg(a:Int×Int):sv (-a.1,a.2) = -sv a:=by simp [sv,Int.neg_mul]
theorem sv_pos{a:Int×Int}:(0<sv a)↔0<a.1:=by
 have hp:(0:Int)<2 ^ (24 - a.2.toNat):=Int.pow_pos (by omega)
 unfold sv
 constructor
 ·intro h;exact Int.pos_of_mul_pos_left h hp
 ·intro h;exact Int.mul_pos h hp

end Go.Ev.G

namespace Go.Ev.G
open Go Go.Ev
set_option maxRecDepth 100000

theorem toV_fst{γ:Type}{v:γ}{a:List γ}{b:Bool}:(toV id v a b).1=a:=by
 unfold toV
 split
 ·rename_i h;exact h.2.symm
 ·simp
theorem toV_rows{γ:Type}{v:γ}{w:List γ×List γ}{a:List (List γ)}{b:Bool}:((toV (fun x=>toV id v x b) w a b).1.map fun z=>z.1)=a:=by
 unfold toV
 split
 ·rename_i h;rw [h.2];rfl
 ·simp only [List.map_map]
  conv=>rhs;rw [←List.map_id a]
  apply List.map_congr_left
  intro x hx
  exact toV_fst

def Sized{γ:Type}(a:List (List γ)):Prop:=a.length+(a.map List.length).sum≤1000000

theorem le_sum{l:List Nat}{x:Nat}(h:x∈l):x≤l.sum:=by
 induction l with
 | nil=>simp at h
 | cons y l ih =>
  simp only [List.sum_cons]
  rcases List.mem_cons.1 h with rfl | h
  ·omega
  ·have:=ih h;omega
theorem Sized.len{γ:Type}{a:List (List γ)}(h:Sized a):a.length≤1000000:=by unfold Sized at h;omega
theorem Sized.row{γ:Type}{a:List (List γ)}(h:Sized a):∀x∈a,x.length≤1000000:=by
 intro x hx
 unfold Sized at h
 have:=le_sum (List.mem_map.2 ⟨x,hx,rfl⟩:x.length∈a.map List.length)
 omega

end Go.Ev.G

namespace Go.Ev.G
open Go Go.Ev
set_option maxRecDepth 100000

theorem mkD_false{n:Int}{k:Nat}(h:(mkD n k).2=false):(mkD n k).1=(0,0):=by
 unfold mkD at h ⊢
 split at h
 ·cases h
 ·rename_i h2;rw [if_neg h2]

def osum:(Int×Int)→List (Int×Int)→Option (Int×Int)
 | s,[]=>some s
 | s,x::xs=>if (sumD s x).2 then osum (sumD s x).1 xs else none
theorem reckoner_sum_ev{b:Bool}{s x:Int×Int}(hs:gd s)(hx:gd x):Evt (fun k _=>impl_reckoner_sum k b s x) (if b then sumD s x else((0,0),false)):=by
 refine Evt.eq (f:=fun k q=>_) ?_ (fun k q=>by rw [impl_reckoner_sum])
 refine Evt.bind (sumOf_ev hs hx) (.const ?_)
 unfold impl_reckoner_keep
 cases b with
 | true =>
  cases h:(sumD s x).2 with
  | true=>simp [h,Prod.ext_iff]
  | false =>
   have h3:sumD s x=((0,0),false):=Prod.ext (mkD_false h) h
   rw [h3];simp
 | false=>rfl

end Go.Ev.G

namespace Go.Ev.G
open Go Go.Ev
set_option maxRecDepth 100000

theorem sum_twice:∀(x:List (List (Int×Int))),(x.map fun r=>2*r.length).sum=2*(x.map List.length).sum
 | []=>rfl
 | r::x=>by simp only [List.map_cons,List.sum_cons];rw [sum_twice x];omega
theorem Sized.marks{a:List (List (Int×Int))}(h:Sized a):101+(a.map fun r=>2*r.length).sum<lenB:=by
 unfold Sized at h
 rw [sum_twice]
 simp only [lenB];omega

end Go.Ev.G

namespace Go.Ev.G
open Go Go.Ev
set_option maxRecDepth 100000

def ivGd(x:(Int×Int)×Int×Int):Prop:=gd x.1∧gd x.2∧sv x.1≤sv x.2
instance:DecidablePred ivGd:=fun x=>by unfold ivGd;exact inferInstance
theorem cmpI_lt(a b:Int):decide (cmpI a b<0)=decide (a<b):=by
 unfold cmpI
 rw [decide_eq_decide]
 split <;> (try split) <;> omega
theorem cmpI_gt(a b:Int):decide (cmpI a b>0)=decide (b<a):=by
 unfold cmpI
 rw [decide_eq_decide]
 split <;> (try split) <;> omega

end Go.Ev.G

namespace Go.Ev.G
open Go Go.Ev
set_option maxRecDepth 100000

theorem one_gd:gd (1,0):=by decide
theorem greater_ev{a b:Int×Int}(ha:gd a)(hb:gd b):Evt (fun k _=>impl_greater k a b) (if sv a<sv b then b else a):=by
 refine Evt.eq (f:=fun k q=>_) ?_ (fun k q=>by rw [impl_greater])
 refine Evt.bind (compareD_ev hb ha) ?_
 rw [cmpI_gt]
 by_cases h:sv a<sv b
 ·rw [if_pos h];exact Evt.ctrue (decide_eq_true h) .pure
 ·rw [if_neg h];exact Evt.cfalse (decide_eq_false h) .pure

end Go.Ev.G

namespace Go.Ev.G
open Go Go.Ev
set_option maxRecDepth 100000

theorem two_lt{α β:Type}{d r:List α}{d' r':List β}{e':β}(h:d.length=d'.length):decide ((d.length:Int)<((d'++e'::r').length:Int))=true:=by simp;omega
theorem two_get{α β:Type}{d:List α}{d' r':List β}{e' z:β}(h:d.length=d'.length):(d'++e'::r').getD (Int.toNat (d.length:Int)) z=e':=by rw [h];exact mid_get

theorem min64{m:Nat}(h:m≤64):min (Int.toNat (m:Int)) (IntKind.bits .i64)=m:=by
 rw [Int.toNat_natCast];exact Nat.min_eq_left (by simp only [IntKind.bits];omega)

theorem fitD_ev{n:Int}{p:Nat}(h1 : -9223372036854775808<n)(h2:n<9223372036854775808)(hp:p<9223372036854775808):Evt (fun k _=>impl_wide_fit k (wN (decide (n<0)) n.natAbs) (p:Int)) (mkD n p):=by
 have:=fit_ev (neg:=decide (n<0)) (M:=n.natAbs) (m:=p) (by simp only [B64];omega) hp
 rw [wV_of]at this
 exact this

end Go.Ev.G

namespace Go.Ev.G
open Go Go.Ev
set_option maxRecDepth 100000

def B32:Nat:=4294967296
theorem andw32{a:Nat}(ha:a<B64):(BitVec.toNat (BitVec.ofInt (IntKind.bits .u64) (a:Int) &&& BitVec.ofInt (IntKind.bits .u64) 4294967295):Int)=((a % B32:Nat):Int):=by
 have h1:BitVec.ofInt (IntKind.bits .u64) (a:Int)=BitVec.ofNat 64 a:=by rfl
 have h2:BitVec.ofInt (IntKind.bits .u64) 4294967295=BitVec.ofNat 64 4294967295:=by rfl
 rw [h1,h2]
 have:(BitVec.toNat (BitVec.ofNat 64 a &&& BitVec.ofNat 64 4294967295))=a % B32:=by
  rw [BitVec.toNat_and,BitVec.toNat_ofNat,BitVec.toNat_ofNat]
  have e1:a % 2 ^ 64=a:=Nat.mod_eq_of_lt (by simpa [B64] using ha)
  rw [e1]
  have e2:4294967295 % 2 ^ 64=2 ^ 32 - 1:=by decide
  rw [e2,Nat.and_two_pow_sub_one_eq_mod]
  rfl
 exact congrArg _ this
theorem fdiv32(a:Nat):Int.fdiv (a:Int) (2 ^ min (Int.toNat 32) (IntKind.bits .u64))=((a / B32:Nat):Int):=by
 have:min (Int.toNat 32) (IntKind.bits .u64)=32:=by decide
 rw [this,fdiv_pow]
 rfl

theorem mul64_eq{a b:Nat}(ha:a≤1099511627776)(hb:b≤1099511627776):math_bits_Mul64 a b=some (((a*b / B64:Nat):Int),((a*b % B64:Nat):Int)):=by
 have la:a<B64:=by simp only [B64];omega
 have lb:b<B64:=by simp only [B64];omega
 unfold math_bits_Mul64
 rw [andw32 la,andw32 lb,fdiv32,fdiv32]
 obtain⟨x1,x0,ea,hx0⟩:∃x1 x0,a=B32*x1+x0∧x0<B32:=⟨a / B32,a % B32,(Nat.div_add_mod a B32).symm,Nat.mod_lt _ (by decide)⟩
 obtain⟨y1,y0,eb,hy0⟩:∃y1 y0,b=B32*y1+y0∧y0<B32:=⟨b / B32,b % B32,(Nat.div_add_mod b B32).symm,Nat.mod_lt _ (by decide)⟩
 have da:a / B32=x1:=by rw [ea,Nat.mul_add_div (by decide),Nat.div_eq_of_lt hx0];rfl
 have ma:a % B32=x0:=by rw [ea,Nat.mul_add_mod,Nat.mod_eq_of_lt hx0]
 have db:b / B32=y1:=by rw [eb,Nat.mul_add_div (by decide),Nat.div_eq_of_lt hy0];rfl
 have mb:b % B32=y0:=by rw [eb,Nat.mul_add_mod,Nat.mod_eq_of_lt hy0]
 rw [da,ma,db,mb]
 have lx1:x1≤256:=by simp only [B32]at ea hx0;omega
 have ly1:y1≤256:=by simp only [B32]at eb hy0;omega
 have p00:x0*y0≤4294967295*4294967295:=Nat.mul_le_mul (by simp only [B32]at hx0;omega) (by simp only [B32]at hy0;omega)
 have p01:x0*y1≤4294967295*256:=Nat.mul_le_mul (by simp only [B32]at hx0;omega) ly1
 have p10:x1*y0≤256*4294967295:=Nat.mul_le_mul lx1 (by simp only [B32]at hy0;omega)
 have p11:x1*y1≤256*256:=Nat.mul_le_mul lx1 ly1
 have full:a*b=B64*(x1*y1)+B32*(x0*y1+x1*y0)+x0*y0:=by
  rw [ea,eb,show B64=B32*B32 from rfl]
  simp only [Nat.mul_add,Nat.add_mul]
  have e1:B32*x1*(B32*y1)=B32*B32*(x1*y1):=by ac_rfl
  have e2:x0*(B32*y1)=B32*(x0*y1):=by ac_rfl
  have e3:B32*x1*y0=B32*(x1*y0):=by ac_rfl
  rw [e1,e2,e3];omega
 have w:∀n:Nat,n<B64→IntKind.wrap .u64 (n:Int)=(n:Int):=fun n h=>wu64 (by omega) (by simp only [B64]at h;omega)
 have m1:∀x y:Nat,((x:Int)*(y:Int))=((x*y:Nat):Int):=fun x y=>(Int.natCast_mul x y).symm
 have m2:∀x y:Nat,((x:Int)+(y:Int))=((x+y:Nat):Int):=fun x y=>(Int.natCast_add x y).symm
 rw [w x0 (by simp only [B64,B32]at hx0 ⊢; omega),w y0 (by simp only [B64,B32]at hy0 ⊢; omega)]
 simp only [m1]
 rw [w (x0*y0) (by simp only [B64];omega),w (x1*y0) (by simp only [B64];omega),w (x1*y1) (by simp only [B64];omega),w (x0*y1) (by simp only [B64];omega)]
 rw [fdiv32]
 simp only [m2]
 have c0:x0*y0 / B32≤4294967295:=by simp only [B32];omega
 rw [w (x1*y0+x0*y0 / B32) (by simp only [B64];omega)]
 rw [andw32 (by simp only [B64];omega),fdiv32]
 rw [w ((x1*y0+x0*y0 / B32) % B32) (by simp only [B64,B32];omega)]
 simp only [m2]
 rw [w ((x1*y0+x0*y0 / B32) % B32+x0*y1) (by simp only [B64,B32];omega),fdiv32]
 rw [w (x1*y1+(x1*y0+x0*y0 / B32) / B32) (by simp only [B64,B32];omega)]
 simp only [m2]
 rw [w _ (by simp only [B64,B32];omega),wu64_mod]
 congr 2
 ·congr 1
  rw [full]
  simp only [B64,B32]
  omega
end Go.Ev.G

namespace Go.Ev.G
open Go Go.Ev
set_option maxRecDepth 100000

def prodD(a b:Int×Int):(Int×Int)×Bool:=mkD (a.1*b.1) (a.2.toNat+b.2.toNat)
theorem prodD_gd(a b:Int×Int):gd (prodD a b).1:=mkD_gd _ _

theorem wV_mul(a b:Int):wV (!(decide (a<0)==decide (b<0))) (a.natAbs*b.natAbs)=a*b:=by
 unfold wV
 by_cases ha:a<0 <;> by_cases hb:b<0
 ·simp only [decide_eq_true ha,decide_eq_true hb]
  rw [if_neg (by simp),Int.natCast_mul,show(a.natAbs:Int) = -a by omega,show(b.natAbs:Int) = -b by omega,Int.neg_mul_neg]
 ·simp only [decide_eq_true ha,decide_eq_false hb]
  rw [if_pos (by simp),Int.natCast_mul,show(a.natAbs:Int) = -a by omega,show(b.natAbs:Int)=b by omega,Int.neg_mul,Int.neg_neg]
 ·simp only [decide_eq_false ha,decide_eq_true hb]
  rw [if_pos (by simp),Int.natCast_mul,show(a.natAbs:Int)=a by omega,show(b.natAbs:Int) = -b by omega,Int.mul_neg,Int.neg_neg]
 ·simp only [decide_eq_false ha,decide_eq_false hb]
  rw [if_neg (by simp),Int.natCast_mul,show(a.natAbs:Int)=a by omega,show(b.natAbs:Int)=b by omega]

theorem natAbs_bound{a:Int}(h1 : -1099511627776≤a)(h2:a≤1099511627776):a.natAbs≤1099511627776:=by omega
theorem mul_bound{a b:Nat}(ha:a≤1099511627776)(hb:b≤1099511627776):a*b<B64*B64:=by
 have:a*b≤1099511627776*1099511627776:=Nat.mul_le_mul ha hb
 simp only [B64];omega

theorem productOf_ev{a b:Int×Int}(ha:gd a)(hb:gd b):Evt (fun k _=>impl_productOf k a b) (prodD a b):=by
 refine Evt.eq (f:=fun k q=>_) ?_ (fun k q=>by rw [impl_productOf])
 have a1:=ha.2.2
 have b1:=hb.2.2
 have na:=natAbs_bound a1.1 a1.2.1
 have nb:=natAbs_bound b1.1 b1.2.1
 have htw:impl_timesWide a.1 b.1=some (wN (!(decide (a.1<0)==decide (b.1<0))) (a.1.natAbs*b.1.natAbs)):=by
  unfold impl_timesWide
  rw [size_eq (by omega) (by omega),Option.bind_some,size_eq (by omega) (by omega),Option.bind_some,mul64_eq na nb]
  rfl
 refine Evt.bind (.const htw) ?_
 have e:IntKind.wrap .i64 (a.2+b.2)=((a.2.toNat+b.2.toNat:Nat):Int):=by
  have:=ha.1;have:=ha.2.1;have:=hb.1;have:=hb.2.1
  rw [w64 (by omega) (by omega)];omega
 rw [e]
 have hf:=fit_ev (neg := !(decide (a.1<0)==decide (b.1<0))) (M:=a.1.natAbs*b.1.natAbs) (m:=a.2.toNat+b.2.toNat) (mul_bound na nb) (by have:=ha.2.1;have:=hb.2.1;omega)
 rw [wV_mul]at hf
 exact Evt.bind hf .pure

theorem reckoner_product_ev{b:Bool}{s x:Int×Int}(hs:gd s)(hx:gd x):Evt (fun k _=>impl_reckoner_product k b s x) (if b then prodD s x else((0,0),false)):=by
 refine Evt.eq (f:=fun k q=>_) ?_ (fun k q=>by rw [impl_reckoner_product])
 refine Evt.bind (productOf_ev hs hx) (.const ?_)
 unfold impl_reckoner_keep
 cases b with
 | true =>
  cases h:(prodD s x).2 with
  | true=>simp [h,Prod.ext_iff]
  | false =>
   have h3:prodD s x=((0,0),false):=Prod.ext (mkD_false h) h
   rw [h3];simp
 | false=>rfl

theorem mkD_strip_left:∀(p:Nat) (x y:Int),mkD (x*y) p=mkD ((strip p x).1*y) (strip p x).2
 | 0,_,_=>rfl
 | p+1,x,y=>by
  unfold strip
  split
  ·rename_i h
   rw [←mkD_strip_left p (x / 2) y]
   have e:x*y=2*(x / 2*y):=by rw [←Int.mul_assoc,Int.mul_comm 2,Int.ediv_mul_cancel (Int.dvd_of_emod_eq_zero h)]
   unfold mkD
   have e2:strip (p+1) (x*y)=strip p (x / 2*y):=by
    rw [e]
    conv=>lhs;unfold strip
    rw [if_pos (by omega)]
    congr 1
    omega
   rw [e2]
  ·rfl

theorem dyMul_loop1{b z:Int×Int}:∀(m:Nat) (n j:Int),-9223372036854775808<n→n<9223372036854775808→m<9223372036854775808 →
  Evt (fun k q=>spec_dyMul_L60 k q (n,j) b z (m:Int)) (.inr (((strip m n).1,j),b,z,((strip m n).2:Int),()))
 | 0,n,j,h1,h2,hm=>Evt.step (fun k q=>spec_dyMul_L60.eq_2 k _ _ _ _ q) (Evt.cfalse (by simp) .pure)
 | m+1,n,j,h1,h2,hm=>by
  refine Evt.step (fun k q=>spec_dyMul_L60.eq_2 k _ _ _ _ q) (Evt.ctrue (decide_eq_true (by omega)) ?_)
  unfold strip
  by_cases h:n % 2=0
  ·refine Evt.ctrue (by simpa using (tmod2 n).2 h) ?_
   rw [if_pos h]
   simp only
   rw [tdiv2 h,w64 (n:=n / 2) (by omega) (by omega),show IntKind.wrap .i64 (((m+1:Nat):Int) - 1)=(m:Int)by rw [w64 (by omega) (by omega)];omega]
   exact dyMul_loop1 m (n / 2) j (by omega) (by omega) (by omega)
  ·rw [if_neg h]
   exact Evt.cfalse (by simpa using fun hh=>h ((tmod2 n).1 hh)) .pure

theorem dyMul_loop2{a z:Int×Int}:∀(m:Nat) (n j:Int),-9223372036854775808<n→n<9223372036854775808→m<9223372036854775808 →
  Evt (fun k q=>spec_dyMul_L124 k q a (n,j) z (m:Int)) (.inr (a,((strip m n).1,j),z,((strip m n).2:Int),()))
 | 0,n,j,h1,h2,hm=>Evt.step (fun k q=>spec_dyMul_L124.eq_2 k _ _ _ _ q) (Evt.cfalse (by simp) .pure)
 | m+1,n,j,h1,h2,hm=>by
  refine Evt.step (fun k q=>spec_dyMul_L124.eq_2 k _ _ _ _ q) (Evt.ctrue (decide_eq_true (by omega)) ?_)
  unfold strip
  by_cases h:n % 2=0
  ·refine Evt.ctrue (by simpa using (tmod2 n).2 h) ?_
   rw [if_pos h]
   simp only
   rw [tdiv2 h,w64 (n:=n / 2) (by omega) (by omega),show IntKind.wrap .i64 (((m+1:Nat):Int) - 1)=(m:Int)by rw [w64 (by omega) (by omega)];omega]
   exact dyMul_loop2 m (n / 2) j (by omega) (by omega) (by omega)
  ·rw [if_neg h]
   exact Evt.cfalse (by simpa using fun hh=>h ((tmod2 n).1 hh)) .pure

theorem abs_eq{n:Int}(h1 : -9223372036854775808<n)(h2:n<9223372036854775808):spec_l1Abs n=some (n.natAbs:Int):=by
 unfold spec_l1Abs
 rw [most_eq,w64 (by omega) (by omega)]
 simp only [Option.bind_some]
 congr 1
 omega

theorem strip_abs_le(m:Nat)(n:Int):(strip m n).1.natAbs≤n.natAbs:=by
 by_cases h:0≤n
 ·have:=strip_bound m n h
  omega
 ·have h1:=strip_bound m (-n) (by omega)
  rw [strip_neg]at h1
  simp only at h1
  omega

theorem odd_mul{x y:Int}(hx:x % 2≠0)(hy:y % 2≠0):(x*y) % 2≠0:=by
 have hx':x % 2=1:=by omega
 have hy':y % 2=1:=by omega
 rw [Int.mul_emod,hx',hy']
 decide

theorem dyMul_ev{a b:Int×Int}(ha:gd a)(hb:gd b):Evt (fun k _=>spec_dyMul k a b) (prodD a b):=by
 refine Evt.eq (f:=fun k q=>_) ?_ (fun k q=>by rw [spec_dyMul])
 have a1:=ha.2.2
 have b1:=hb.2.2
 unfold prodD
 by_cases ha0:a.1=0
 ·refine Evt.ctrue (by simp [ha0]) ?_
  rw [ha0,Int.zero_mul,mkD_zero]
  exact .pure
 refine Evt.cfalse (by simpa using ha0) ?_
 by_cases hb0:b.1=0
 ·refine Evt.ctrue (by simp [hb0]) ?_
  rw [hb0,Int.mul_zero,mkD_zero]
  exact .pure
 refine Evt.cfalse (by simpa using hb0) ?_
 have e:IntKind.wrap .i64 (a.2+b.2)=((a.2.toNat+b.2.toNat:Nat):Int):=by
  have:=ha.1;have:=ha.2.1;have:=hb.1;have:=hb.2.1
  rw [w64 (by omega) (by omega)];omega
 rw [e]
 have hp:a.2.toNat+b.2.toNat≤48:=by have:=ha.2.1;have:=hb.2.1;omega
 generalize a.2.toNat+b.2.toNat=p at hp ⊢
 have l1:=dyMul_loop1 (b:=b) (z:=(0,0)) p a.1 a.2 (by omega) (by omega) (by omega)
 rw [show((a.1,a.2):Int×Int)=a from rfl]at l1
 refine Evt.inr (Evt.diag l1) ?_
 have l2:=dyMul_loop2 (a:=((strip p a.1).1,a.2)) (z:=(0,0)) (strip p a.1).2 b.1 b.2 (by omega) (by omega) (by have:=strip_le p a.1;omega)
 rw [show((b.1,b.2):Int×Int)=b from rfl]at l2
 refine Evt.inr (Evt.diag l2) ?_
 simp only
 rw [mkD_strip_left p a.1 b.1,Int.mul_comm (strip p a.1).1 b.1,mkD_strip_left (strip p a.1).2 b.1]
 have fa:=strip_form p a.1
 have fb:=strip_form (strip p a.1).2 b.1
 have na:=strip_ne p a.1 ha0
 have nb:=strip_ne (strip p a.1).2 b.1 hb0
 have la:=strip_abs_le p a.1
 have lb:=strip_abs_le (strip p a.1).2 b.1
 have lp:=strip_le p a.1
 have lp2:=strip_le (strip p a.1).2 b.1
 generalize (strip p a.1).1=x at fa na la ⊢
 generalize (strip p a.1).2=q at fa fb nb lb lp lp2 ⊢
 generalize (strip q b.1).1=y at fb nb lb ⊢
 generalize (strip q b.1).2=r at fb lp2 ⊢
 rw [Int.mul_comm y x]
 refine Evt.bind (.const (abs_eq (by omega) (by omega))) (Evt.bind (.const (abs_eq (by omega) (by omega))) (Evt.cfalse (by simp;omega) ?_))
 have hM:IntKind.wrap .i64 (Int.tdiv 1099511627776 (y.natAbs:Int))=((1099511627776 / y.natAbs:Nat):Int):=by
  have:Int.tdiv 1099511627776 (y.natAbs:Int)=((1099511627776 / y.natAbs:Nat):Int):=rfl
  rw [this]
  have hq:1099511627776 / y.natAbs≤1099511627776:=Nat.div_le_self _ _
  generalize 1099511627776 / y.natAbs=qq at hq ⊢
  rw [w64 (by omega) (by omega)]
 rw [hM]
 have habs:(x*y).natAbs=x.natAbs*y.natAbs:=Int.natAbs_mul x y
 have hy0:0<y.natAbs:=by omega
 by_cases hbig:x.natAbs>1099511627776 / y.natAbs
 ·refine Evt.ctrue (decide_eq_true (by omega)) ?_
  have:1099511627776<x.natAbs*y.natAbs:=(Nat.div_lt_iff_lt_mul hy0).1 hbig
  have hodd:r=0∨(x*y) % 2≠0:=by
   rcases fb with h | h
   ·exact .inl h
   ·rcases fa with h2 | h2
    ·exact .inl (by omega)
    ·exact .inr (odd_mul h2 h)
  have:mkD (x*y) r=((0,0),false):=by
   rcases hodd with rfl | h
   ·unfold mkD strip
    rw [if_neg (by simp only;omega)]
   ·exact mkD_odd h (by omega)
  rw [this]
  exact .pure
 ·refine Evt.cfalse (decide_eq_false (by omega)) ?_
  have hle:x.natAbs*y.natAbs≤1099511627776:=by
   have:=(Nat.le_div_iff_mul_le hy0).1 (Nat.le_of_not_gt hbig)
   exact this
  rw [w64 (n:=x*y) (by omega) (by omega)]
  exact Evt.bind (dyMake_ev (by omega) (by omega) (by omega)) .pure
end Go.Ev.G

namespace Go.Ev.G
open Go Go.Ev
set_option maxRecDepth 100000

section
variable {α β : Type}
def Flag(g:α→Option β)(z:β)(b0:Bool)(d:List α)(b:Bool)(o:List β):Prop :=
 o.length=d.length∧b=(b0&&d.all fun x=>(g x).isSome)∧(b=true→o=d.map fun x=>(g x).getD z)
theorem Flag.nil{g:α→Option β}{z:β}{b0:Bool}:Flag g z b0 [] b0 []:=⟨rfl,by simp,fun _=>rfl⟩
theorem Flag.step{g:α→Option β}{z:β}{b0 b:Bool}{d:List α}{o:List β}{e:α}{v:β}(h:Flag g z b0 d b o)(hv:b=true→(g e).isSome=true→g e=some v):Flag g z b0 (d ++ [e]) (b&&(g e).isSome) (o ++ [v]):=by
 obtain⟨h1,h2,h3⟩:=h
 refine⟨by simp [h1],?_,?_⟩
 ·rw [h2,List.all_append]
  simp only [List.all_cons,List.all_nil,Bool.and_true,Bool.and_assoc]
 ·intro hh
  rw [Bool.and_eq_true]at hh
  rw [List.map_append,h3 hh.1]
  simp only [List.map_cons,List.map_nil,hv hh.1 hh.2,Option.getD_some]
end

abbrev Pt:=List (Int×Int)
def prO(p:(Int×Int)×(Int×Int)):Option (Int×Int):=if (prodD p.1 p.2).2 then some (prodD p.1 p.2).1 else none
end Go.Ev.G

namespace Go.Ev
open Go

section
variable {α β : Type}
def Ev3{α:Type}(f:Nat→Nat→Nat→Option α)(r:α):Prop:=∃k0,∀k m n,k0≤k→k0≤m→k0≤n→f k m n=some r

theorem Ev3.of{f:Nat→Option α}{r:α}(h:Evt (fun k _=>f k) r):Ev3 (fun k _ _=>f k) r:=by
 obtain⟨k0,h⟩:=h
 exact⟨k0,fun k m n hk _ _=>h k k hk hk⟩
theorem Ev3.diag{f:Nat→Nat→Nat→Option α}{r:α}(h:Ev3 f r):Evt (fun k m=>f k m k) r:=by
 obtain⟨k0,h⟩:=h
 exact⟨k0,fun k m hk hm=>h k m k hk hm hk⟩
theorem Ev3.const{o:Option α}{r:α}(h:o=some r):Ev3 (fun _ _ _=>o) r:=⟨0,fun _ _ _ _ _ _=>h⟩
theorem Ev3.pure{r:α}:Ev3 (fun _ _ _=>some r) r:=⟨0,fun _ _ _ _ _ _=>rfl⟩
theorem Ev3.bind{f:Nat→Nat→Nat→Option α}{g:Nat→Nat→Nat→α→Option β}{a:α}{r:β}(h:Ev3 f a)(h':Ev3 (fun k m n=>g k m n a) r):Ev3 (fun k m n=>Option.bind (f k m n) fun x=>g k m n x) r:=by
 obtain⟨k0,h⟩:=h
 obtain⟨k1,h'⟩:=h'
 refine⟨max k0 k1,fun k m n hk hm hn => ?_⟩
 exact(congrArg (fun o=>Option.bind o fun x=>g k m n x) (h k m n (by omega) (by omega) (by omega))).trans (h' k m n (by omega) (by omega) (by omega))
theorem Ev3.inr{R P A:Type}{f:Nat→Nat→Nat→Option (R ⊕ P)}{G:Nat→Nat→Nat→R→Option A}{K:Nat→Nat→Nat→P→Option A}{y:P}{r:A}(h:Ev3 f (.inr y))(h':Ev3 (fun k m n=>K k m n y) r):Ev3 (fun k m n=>both (f k m n) (G k m n) (K k m n)) r:=by
 obtain⟨k0,h⟩:=h
 obtain⟨k1,h'⟩:=h'
 refine⟨max k0 k1,fun k m n hk hm hn => ?_⟩
 exact(congrArg (fun o=>both o (G k m n) (K k m n)) (h k m n (by omega) (by omega) (by omega))).trans (h' k m n (by omega) (by omega) (by omega))
theorem Ev3.inl{R P A:Type}{f:Nat→Nat→Nat→Option (R ⊕ P)}{G:Nat→Nat→Nat→R→Option A}{K:Nat→Nat→Nat→P→Option A}{q:R}{r:A}(h:Ev3 f (.inl q))(h':Ev3 (fun k m n=>G k m n q) r):Ev3 (fun k m n=>both (f k m n) (G k m n) (K k m n)) r:=by
 obtain⟨k0,h⟩:=h
 obtain⟨k1,h'⟩:=h'
 refine⟨max k0 k1,fun k m n hk hm hn => ?_⟩
 exact(congrArg (fun o=>both o (G k m n) (K k m n)) (h k m n (by omega) (by omega) (by omega))).trans (h' k m n (by omega) (by omega) (by omega))
theorem Ev3.ctrue{c:Bool}{f g:Nat→Nat→Nat→Option α}{r:α}(hc:c=true)(h:Ev3 f r):Ev3 (fun k m n=>bif c then f k m n else g k m n) r:=by subst hc;exact h
theorem Ev3.cfalse{c:Bool}{f g:Nat→Nat→Nat→Option α}{r:α}(hc:c=false)(h:Ev3 g r):Ev3 (fun k m n=>bif c then f k m n else g k m n) r:=by subst hc;exact h
theorem Ev3.step{L F:Nat→Nat→Nat→Option α}{r:α}(hL:∀k m n,L k m (n+1)=F k m n)(h:Ev3 F r):Ev3 L r:=by
 obtain⟨k0,h⟩:=h
 refine⟨k0+1,fun k m n hk hm hn => ?_⟩
 obtain⟨n,rfl⟩:∃n',n=n'+1:=⟨n - 1,by omega⟩
 rw [hL]
 exact h k m n (by omega) (by omega) (by omega)
end
end Go.Ev

namespace Go.Ev.G
open Go Go.Ev
set_option maxRecDepth 100000

def partV{α:Type}(m:List (List α))(i j:Nat):List (List α):=(m.eraseIdx i).map (·.eraseIdx j)
end Go.Ev.G

namespace Go.Ev.G
open Go Go.Ev
set_option maxRecDepth 100000

def ngD(c:Nat)(x:Int×Int):Int×Int:=if c % 2=1 then(-x.1,x.2)else x
def tmO(c:Nat)(a:Int×Int)(d:Option (Int×Int)):Option (Int×Int):=match d with
 | none=>none
 | some d=>if (prodD a d).2 then some (ngD c (prodD a d).1)else none
def detO:Nat→List Pt→Option (Int×Int)
 | 0,m=>some ((m.getD 0 []).getD 0 (0,0))
 | n+1,m =>
  let ts:=(List.range (n+2)).map fun c=>tmO c ((m.getD 0 []).getD c (0,0)) (detO n (partV m 0 c))
  if ts.all (·.isSome)then osum (0,0) (ts.map fun o=>o.getD (0,0))else none
theorem dyMinus_eq{x:Int×Int}(h:gd x):spec_dyMinus x=some (-x.1,x.2):=by
 have:=h.2.2
 unfold spec_dyMinus
 rw [w64 (by omega) (by omega)]
 congr 2
 omega

def terms(n:Nat)(m:List Pt):List (Option (Int×Int)):=(List.range (n+2)).map fun c=>tmO c ((m.getD 0 []).getD c (0,0)) (detO n (partV m 0 c))
end Go.Ev.G

namespace Go.Ev.G
open Go Go.Ev
set_option maxRecDepth 100000

abbrev Iv:=(Int×Int)×Int×Int
def gdI(x:Iv):Prop:=gd x.1∧gd x.2

theorem sv_inj{a b:Int×Int}(ha:gd a)(hb:gd b)(h:sv a=sv b):a=b:=by
 have key:∀ {n m:Int} {j i:Nat},j<i→i≤24→(i=0∨m % 2≠0)→n*2 ^ (24 - j)=m*2 ^ (24 - i)→False:=by
  intro n m j i hji hi hodd e
  have e1:(24 - j)=(i - j)+(24 - i):=by omega
  rw [e1,Int.pow_add,←Int.mul_assoc]at e
  have hp:(2:Int) ^ (24 - i)≠0:=Int.ne_of_gt (Int.pow_pos (by omega))
  have e2:=Int.eq_of_mul_eq_mul_right hp e
  have e3:i - j=(i - j - 1)+1:=by omega
  rw [e3,Int.pow_succ,←Int.mul_assoc]at e2
  omega
 obtain⟨n,j,rfl,hj,_,_,hn⟩:=gd_nat ha
 obtain⟨m,i,rfl,hi,_,_,hm⟩:=gd_nat hb
 unfold sv at h
 simp only [Int.toNat_natCast]at h
 rcases Nat.lt_trichotomy j i with hlt | rfl | hlt
 ·exact(key hlt hi hm h).elim
 ·have hp:(2:Int) ^ (24 - j)≠0:=Int.ne_of_gt (Int.pow_pos (by omega))
  rw [Int.eq_of_mul_eq_mul_right hp h]
 ·exact(key hlt hj hn h.symm).elim

def minD(a b:Int×Int):Int×Int:=if sv b<sv a then b else a
def maxD(a b:Int×Int):Int×Int:=if sv a<sv b then b else a
theorem minD_gd{a b:Int×Int}(ha:gd a)(hb:gd b):gd (minD a b):=by unfold minD;split;exact hb;exact ha
theorem maxD_gd{a b:Int×Int}(ha:gd a)(hb:gd b):gd (maxD a b):=by unfold maxD;split;exact hb;exact ha
theorem minD_sv(a b:Int×Int):sv (minD a b)=min (sv a) (sv b):=by unfold minD;split <;> omega
theorem maxD_sv(a b:Int×Int):sv (maxD a b)=max (sv a) (sv b):=by unfold maxD;split <;> omega
theorem lesser_ev{a b:Int×Int}(ha:gd a)(hb:gd b):Evt (fun k _=>impl_lesser k a b) (minD a b):=by
 refine Evt.eq (f:=fun k q=>_) ?_ (fun k q=>by rw [impl_lesser])
 refine Evt.bind (compareD_ev hb ha) ?_
 rw [cmpI_lt]
 unfold minD
 by_cases h:sv b<sv a
 ·rw [if_pos h];exact Evt.ctrue (decide_eq_true h) .pure
 ·rw [if_neg h];exact Evt.cfalse (decide_eq_false h) .pure
theorem greater_ev2{a b:Int×Int}(ha:gd a)(hb:gd b):Evt (fun k _=>impl_greater k a b) (maxD a b):=greater_ev ha hb

def rdD(p:Nat)(a:Int×Int):Int×Int:=if a.2≤p then a else(mkD (a.1 / ((2 ^ (a.2.toNat - p):Nat):Int)) p).1
theorem rdD_gd{p:Nat}{a:Int×Int}(h:gd a):gd (rdD p a):=by
 unfold rdD
 split
 ·exact h
 ·exact mkD_gd _ _
theorem div_bound{n:Int}{q:Nat}(hq:0<q)(h1 : -1099511627776≤n)(h2:n≤1099511627776) : -1099511627776≤n / (q:Int)∧n / (q:Int)≤1099511627776:=by
 constructor
 ·exact(Int.le_ediv_iff_mul_le (by omega)).2 (by
   have:(1099511627776:Int)*1≤1099511627776*q:=Int.mul_le_mul_of_nonneg_left (by omega) (by omega)
   rw [Int.neg_mul];omega)
 ·have h:=Int.ediv_le_ediv (a:=n) (b:=1099511627776) (c:=(q:Int)) (by omega) h2
  have h3:(1099511627776:Int) / (q:Int)≤1099511627776:=Int.ediv_le_self _ (by omega)
  omega
theorem dyRound_ev{p:Nat}{a:Int×Int}(ha:gd a)(hp:p≤24):Evt (fun k _=>spec_dyRound k a p) (rdD p a):=by
 refine Evt.eq (f:=fun k q=>_) ?_ (fun k q=>by rw [spec_dyRound])
 obtain⟨n,j,rfl,hj,h1,h2,hn⟩:=gd_nat ha
 unfold rdD
 simp only [Int.toNat_natCast]
 by_cases h:j≤p
 ·rw [if_pos (by omega)];exact Evt.ctrue (decide_eq_true (by omega)) .pure
 ·rw [if_neg (by omega)]
  refine Evt.cfalse (decide_eq_false (by omega)) ?_
  have e:IntKind.wrap .i64 ((j:Int) - (p:Int))=((j - p:Nat):Int):=by rw [w64 (by omega) (by omega)];omega
  rw [e]
  have hq:0<2 ^ (j - p):=Nat.pow_pos (by omega)
  have hb:=div_bound hq h1 h2
  exact Evt.bind (.const (dyPower_eq (by omega))) (Evt.bind (.const (dyDown_eq hq (by omega) (by omega))) (Evt.bind (dyMake_ev (by omega) (by omega) (by omega)) .pure))
theorem roundDown_ev{p:Nat}{a:Int×Int}(ha:gd a)(hp:p≤24):Evt (fun k _=>impl_roundDown k a p) (rdD p a):=by
 refine Evt.eq (f:=fun k q=>_) ?_ (fun k q=>by rw [impl_roundDown])
 obtain⟨n,j,rfl,hj,h1,h2,hn⟩:=gd_nat ha
 unfold rdD
 simp only [Int.toNat_natCast]
 by_cases h:j≤p
 ·rw [if_pos (by omega)];exact Evt.ctrue (decide_eq_true (by omega)) .pure
 ·rw [if_neg (by omega)]
  refine Evt.cfalse (decide_eq_false (by omega)) ?_
  have e:IntKind.wrap .i64 ((j:Int) - (p:Int))=((j - p:Nat):Int):=by rw [w64 (by omega) (by omega)];omega
  rw [e]
  have hq:0<2 ^ (j - p):=Nat.pow_pos (by omega)
  have hb:=div_bound hq h1 h2
  refine Evt.cfalse (decide_eq_false (by omega)) ?_
  have e2:Int.fdiv n (2 ^ min (Int.toNat ((j - p:Nat):Int)) (IntKind.bits .i64))=n / ((2 ^ (j - p):Nat):Int):=by
   rw [min64 (by omega)]
   have:(2:Int) ^ (j - p)=((2 ^ (j - p):Nat):Int):=by simp
   rw [this]
   exact Int.fdiv_eq_ediv_of_nonneg _ (by omega)
  rw [e2]
  exact Evt.bind (.const (wideOf_eq (by omega) (by omega))) (Evt.bind (fitD_ev (by omega) (by omega) (by omega)) .pure)

def ng(a:Int×Int):Int×Int:=(-a.1,a.2)
def rdI(p:Nat)(x:Iv):Iv:=(rdD p x.1,ng (rdD p (ng x.2)))
theorem rdI_gd{p:Nat}{x:Iv}(h:gdI x):gdI (rdI p x):=⟨rdD_gd h.1,gd_neg (rdD_gd (gd_neg h.2))⟩
theorem ivRound_ev{p:Nat}{x:Iv}(h:gdI x)(hp:p≤24):Evt (fun k _=>spec_ivRound k x p) (rdI p x):=by
 refine Evt.eq (f:=fun k q=>_) ?_ (fun k q=>by rw [spec_ivRound])
 have up:Evt (fun k _=>spec_ivUp k x.2 p) (ng (rdD p (ng x.2))):=by
  refine Evt.eq (f:=fun k q=>_) ?_ (fun k q=>by rw [spec_ivUp])
  exact Evt.bind (.const (dyMinus_eq h.2)) (Evt.bind (dyRound_ev (gd_neg h.2) hp) (Evt.bind (.const (dyMinus_eq (rdD_gd (gd_neg h.2)))) .pure))
 exact Evt.bind (dyRound_ev h.1 hp) (Evt.bind up .pure)
theorem roundOut_ev{p:Nat}{x:Iv}(h:gdI x)(hp:p≤24):Evt (fun k _=>impl_roundOut k x p) (rdI p x):=by
 refine Evt.eq (f:=fun k q=>_) ?_ (fun k q=>by rw [impl_roundOut])
 exact Evt.bind (roundDown_ev h.1 hp) (Evt.bind (.const (minus_eq h.2)) (Evt.bind (roundDown_ev (gd_neg h.2) hp) (Evt.bind (.const (minus_eq (rdD_gd (gd_neg h.2)))) .pure)))

def ends4(a b c d:Int×Int):Iv:=(minD (minD a b) (minD c d),maxD (maxD a b) (maxD c d))
theorem ends4_gd{a b c d:Int×Int}(ha:gd a)(hb:gd b)(hc:gd c)(hd:gd d):gdI (ends4 a b c d):=⟨minD_gd (minD_gd ha hb) (minD_gd hc hd),maxD_gd (maxD_gd ha hb) (maxD_gd hc hd)⟩
def foldE:Iv→List (Int×Int)→Iv
 | s,[]=>s
 | s,x::r=>foldE (minD s.1 x,maxD s.2 x) r
theorem ivEnds_ev{x:Int×Int}{xs:Pt}(hx:∀y∈x::xs,gd y)(hb:(x::xs).length<lenB):Evt (fun k _=>spec_ivEnds k (x::xs)) (foldE (x,x) (x::xs)):=by
 refine Evt.eq (f:=fun k q=>_) ?_ (fun k q=>by rw [spec_ivEnds])
 have key:∀(r d:Pt) (s z:Iv),d++r=x::xs→gdI s→Evt (fun k n=>spec_ivEnds_L58 k n z s (x::xs) ((x::xs).length:Int) d.length) (.inr (z,foldE s r,())):=by
  intro r
  induction r with
  | nil =>
   intro d s z h hs
   refine Evt.step (fun k n=>spec_ivEnds_L58.eq_2 k _ _ _ _ _ n) ?_
   rw [List.append_nil]at h
   rw [←h]
   exact Evt.rng0 .pure
  | cons e r ih =>
   intro d s z h hs
   have ge:gd e:=hx e (by rw [←h];simp)
   refine Evt.step (fun k n=>spec_ivEnds_L58.eq_2 k _ _ _ _ _ n) ?_
   have ih:=ih (d ++ [e]) (minD s.1 e,maxD s.2 e) z (by simpa using h) ⟨minD_gd hs.1 ge,maxD_gd hs.2 ge⟩
   rw [←len_next (r:=r) (by rw [h];exact hb)]at ih
   rw [←h]at ih ⊢
   refine Evt.ctrue mid_lt (Evt.ctrue mid_ge (Evt.ctrue mid_lt ?_))
   rw [mid_get]
   refine Evt.inr (y:=(z,(minD s.1 e,s.2),e,d++e::r,((d++e::r).length:Int),(d.length:Int),())) ?_ ?_
   ·refine Evt.bind (dyCmp_ev ge hs.1) ?_
    rw [cmpI_lt]
    unfold minD
    by_cases hh:sv e<sv s.1
    ·rw [if_pos hh];exact Evt.ctrue (decide_eq_true hh) .pure
    ·rw [if_neg hh];exact Evt.cfalse (decide_eq_false hh) .pure
   ·refine Evt.bind (dyCmp_ev hs.2 ge) ?_
    rw [cmpI_lt]
    rw [show foldE s (e::r)=foldE (minD s.1 e,maxD s.2 e) r from rfl]
    by_cases hh:sv s.2<sv e
    ·have hmx:maxD s.2 e=e:=if_pos hh
     rw [hmx]at ih ⊢; exact Evt.ctrue (decide_eq_true hh) ih
    ·have hmx:maxD s.2 e=s.2:=if_neg hh
     rw [hmx]at ih ⊢; exact Evt.cfalse (decide_eq_false hh) ih
 have gx:=hx x (by simp)
 refine Evt.ctrue (by simp <;> omega) (Evt.ctrue (by simp <;> omega) ?_)
 exact Evt.inr (Evt.diag (key (x::xs) [] (x,x) ((0,0),0,0) rfl ⟨gx,gx⟩)) .pure
theorem fold4{a b c d:Int×Int}(ha:gd a)(hb:gd b)(hc:gd c)(hd:gd d):foldE (a,a) [a,b,c,d]=ends4 a b c d:=by
 simp only [foldE,ends4]
 refine Prod.ext (sv_inj ?_ ?_ ?_) (sv_inj ?_ ?_ ?_)
 ·exact minD_gd (minD_gd (minD_gd (minD_gd ha ha) hb) hc) hd
 ·exact minD_gd (minD_gd ha hb) (minD_gd hc hd)
 ·simp only [minD_sv];omega
 ·exact maxD_gd (maxD_gd (maxD_gd (maxD_gd ha ha) hb) hc) hd
 ·exact maxD_gd (maxD_gd ha hb) (maxD_gd hc hd)
 ·simp only [maxD_sv];omega

def mulO(i k:Iv):Option Iv:=match prO (i.1,k.1),prO (i.1,k.2),prO (i.2,k.1),prO (i.2,k.2)with
 | some a,some b,some c,some d=>some (rdI 16 (ends4 a b c d))
 | _,_,_,_=>none
theorem prO_gd{p:(Int×Int)×Int×Int}{t:Int×Int}(h:prO p=some t):gd t:=by
 unfold prO at h
 split at h
 ·cases h;exact prodD_gd _ _
 ·cases h
theorem mulO_gd{i k t:Iv}(h:mulO i k=some t):gdI t:=by
 unfold mulO at h
 split at h
 ·rename_i h1 h2 h3 h4
  cases h
  exact rdI_gd (ends4_gd (prO_gd h1) (prO_gd h2) (prO_gd h3) (prO_gd h4))
 ·cases h
theorem mul1_ev{x y:Int×Int}(hx:gd x)(hy:gd y):Evt (fun k _=>spec_dyMul k x y) (match prO (x,y)with | some t=>(t,true) | none=>((0,0),false)):=by
 have:=dyMul_ev hx hy
 unfold prO
 cases h:(prodD x y).2 with
 | true=>rw [if_pos rfl];rw [show prodD x y=((prodD x y).1,true)from Prod.ext rfl h]at this;exact this
 | false=>rw [if_neg (by simp)];rw [show prodD x y=((0,0),false)from Prod.ext (mkD_false h) h]at this;exact this

theorem ivMul_ev{i k':Iv}(hi:gdI i)(hk:gdI k'):Evt (fun k _=>spec_ivMul k i k') (match mulO i k' with | some t=>(t,true) | none=>(((0,0),0,0),false)):=by
 refine Evt.eq (f:=fun k q=>_) ?_ (fun k q=>by rw [spec_ivMul])
 have w1:IntKind.wrap .i64 (0+1)=1:=by decide
 have w2:IntKind.wrap .i64 (1+1)=2:=by decide
 have row:∀(x:Int×Int) (z:Iv) (acc:Pt) (x17:Pt) (x18 x19:Int),gd x→acc.length≤2→Evt (fun k n=>spec_ivMul_L14950 k n k' z acc x x17 x18 x19 [k'.1,k'.2] 2 0) (match prO (x,k'.1),prO (x,k'.2)with | some a,some b => .inr (k',z,acc ++ [a] ++ [b],x17,x18,x19,()) | _,_ => .inl (((0,0),0,0),false)):=by
  intro x z acc x17 x18 x19 hx hacc
  refine Evt.step (fun k n=>spec_ivMul_L14950.eq_2 k _ _ _ _ _ _ _ _ _ _ n) (Evt.ctrue rfl (Evt.ctrue rfl (Evt.ctrue rfl (Evt.bind (mul1_ev (y:=k'.1) hx hk.1) ?_))))
  cases prO (x,k'.1)with
  | none=>exact Evt.ctrue rfl .pure
  | some a =>
   refine Evt.cfalse rfl (Evt.ctrue (by simp;omega) ?_)
   rw [w1]
   refine Evt.step (fun k n=>spec_ivMul_L14950.eq_2 k _ _ _ _ _ _ _ _ _ _ n) (Evt.ctrue rfl (Evt.ctrue rfl (Evt.ctrue rfl (Evt.bind (mul1_ev (y:=k'.2) hx hk.2) ?_))))
   cases prO (x,k'.2)with
   | none=>exact Evt.ctrue rfl .pure
   | some b =>
    refine Evt.cfalse rfl (Evt.ctrue (by simp;omega) ?_)
    rw [w2]
    exact Evt.step (fun k n=>spec_ivMul_L14950.eq_2 k _ _ _ _ _ _ _ _ _ _ n) (Evt.cfalse rfl .pure)
 unfold mulO
 have r1:=fun z=>row i.1 z [] [i.1,i.2] 2 0 hi.1 (by simp)
 have r2:=fun z a b=>row i.2 z [a,b] [i.1,i.2] 2 1 hi.2 (by simp)
 cases h1:prO (i.1,k'.1)with
 | none =>
  rw [h1]at r1
  exact Evt.inl (Evt.diag (f:=fun k n=>spec_ivMul_L58 k n k' ((0,0),0,0) [] [i.1,i.2] 2 0) (Evt.step (fun k n=>spec_ivMul_L58.eq_2 k _ _ _ _ _ _ n) (Evt.ctrue rfl (Evt.ctrue rfl (Evt.ctrue rfl (Evt.inl (Evt.diag (r1 _)) .pure)))))) .pure
 | some a =>
 cases h2:prO (i.1,k'.2)with
 | none =>
  rw [h1,h2]at r1
  exact Evt.inl (Evt.diag (f:=fun k n=>spec_ivMul_L58 k n k' ((0,0),0,0) [] [i.1,i.2] 2 0) (Evt.step (fun k n=>spec_ivMul_L58.eq_2 k _ _ _ _ _ _ n) (Evt.ctrue rfl (Evt.ctrue rfl (Evt.ctrue rfl (Evt.inl (Evt.diag (r1 _)) .pure)))))) .pure
 | some b =>
 rw [h1,h2]at r1
 have go:∀ {y:((Iv×Bool) ⊕ (Iv×Pt×Unit))},Evt (fun k n=>spec_ivMul_L58 k n k' ((0,0),0,0) [a,b] [i.1,i.2] 2 1) y→Evt (fun k _=>spec_ivMul_L58 k k k' ((0,0),0,0) [] [i.1,i.2] 2 0) y:=by
  intro y hy
  refine Evt.diag (f:=fun k n=>spec_ivMul_L58 k n k' ((0,0),0,0) [] [i.1,i.2] 2 0) (Evt.step (fun k n=>spec_ivMul_L58.eq_2 k _ _ _ _ _ _ n) (Evt.ctrue rfl (Evt.ctrue rfl (Evt.ctrue rfl (Evt.inr (Evt.diag (r1 _)) ?_)))))
  exact hy
 cases h3:prO (i.2,k'.1)with
 | none =>
  rw [h3]at r2
  exact Evt.inl (go (Evt.step (fun k n=>spec_ivMul_L58.eq_2 k _ _ _ _ _ _ n) (Evt.ctrue rfl (Evt.ctrue rfl (Evt.ctrue rfl (Evt.inl (Evt.diag (r2 _ a b)) .pure)))))) .pure
 | some c =>
 cases h4:prO (i.2,k'.2)with
 | none =>
  rw [h3,h4]at r2
  exact Evt.inl (go (Evt.step (fun k n=>spec_ivMul_L58.eq_2 k _ _ _ _ _ _ n) (Evt.ctrue rfl (Evt.ctrue rfl (Evt.ctrue rfl (Evt.inl (Evt.diag (r2 _ a b)) .pure)))))) .pure
 | some d =>
  rw [h3,h4]at r2
  have ga:=prO_gd h1
  have gb:=prO_gd h2
  have gc:=prO_gd h3
  have ge:=prO_gd h4
  refine Evt.inr (go (y := .inr (((0,0),0,0),[a,b,c,d],())) (Evt.step (fun k n=>spec_ivMul_L58.eq_2 k _ _ _ _ _ _ n) (Evt.ctrue rfl (Evt.ctrue rfl (Evt.ctrue rfl (Evt.inr (Evt.diag (r2 _ a b)) ?_)))))) ?_
  ·exact Evt.step (fun k n=>spec_ivMul_L58.eq_2 k _ _ _ _ _ _ n) (Evt.cfalse rfl .pure)
  ·refine Evt.bind (ivEnds_ev (x:=a) (xs := [b,c,d]) (by simp [ga,gb,gc,ge]) (by simp [lenB])) ?_
   rw [fold4 ga gb gc ge]
   exact Evt.bind (ivRound_ev (p:=16) (ends4_gd ga gb gc ge) (by omega)) .pure

theorem multiply_ev{b:Bool}{i k':Iv}(hi:gdI i)(hk:gdI k'):∃v,gdI v∧(b=true→(mulO i k').isSome=true→mulO i k'=some v)∧Evt (fun k _=>impl_reckoner_multiply k b i k') (v,b&&(mulO i k').isSome):=by
 let P (c:Bool) (x y:Int×Int):(Int×Int)×Bool:=if c then prodD x y else((0,0),false)
 have gP:∀c x y,gd (P c x y).1:=by
  intro c x y
  simp only [P]
  split
  ·exact prodD_gd _ _
  ·decide
 have eP:∀c x y,(P c x y).2=(c&&(prO (x,y)).isSome):=by
  intro c x y
  simp only [P]
  cases c with
  | false=>rfl
  | true =>
   unfold prO
   simp only [if_true,Bool.true_and]
   cases (prodD x y).2 <;> rfl
 let p1:=P b i.1 k'.1
 let p2:=P p1.2 i.1 k'.2
 let p3:=P p2.2 i.2 k'.1
 let p4:=P p3.2 i.2 k'.2
 have f4:p4.2=(b&&(mulO i k').isSome):=by
  simp only [p4,p3,p2,p1,eP]
  unfold mulO
  cases b with
  | false=>rfl
  | true =>
   cases prO (i.1,k'.1) <;> cases prO (i.1,k'.2) <;> cases prO (i.2,k'.1) <;> cases prO (i.2,k'.2) <;> rfl
 refine⟨rdI 16 (ends4 p1.1 p2.1 p3.1 p4.1),rdI_gd (ends4_gd (gP _ _ _) (gP _ _ _) (gP _ _ _) (gP _ _ _)),?_,?_⟩
 ·intro hb hs
  subst hb
  have hv:∀ {x y t},prO (x,y)=some t→(P true x y).1=t:=by
   intro x y t h
   simp only [P,if_true]
   unfold prO at h
   split at h
   ·cases h;rfl
   ·cases h
  unfold mulO at hs ⊢
  split at hs
  ·rename_i a b c d h1 h2 h3 h4
   try simp only [h1,h2,h3,h4]
   have q1:p1.1=a:=hv h1
   have t1:p1.2=true:=by simp only [p1,eP,h1];rfl
   have q2:p2.1=b:=by simp only [p2,t1];exact hv h2
   have t2:p2.2=true:=by simp only [p2,eP,t1,h2];rfl
   have q3:p3.1=c:=by simp only [p3,t2];exact hv h3
   have t3:p3.2=true:=by simp only [p3,eP,t2,h3];rfl
   have q4:p4.1=d:=by simp only [p4,t3];exact hv h4
   rw [q1,q2,q3,q4]
  ·cases hs
 ·rw [←f4]
  refine Evt.eq (f:=fun k q=>_) ?_ (fun k q=>by rw [impl_reckoner_multiply])
  have e1:Evt (fun k _=>impl_reckoner_product k b i.1 k'.1) p1:=reckoner_product_ev hi.1 hk.1
  have e2:Evt (fun k _=>impl_reckoner_product k p1.2 i.1 k'.2) p2:=reckoner_product_ev hi.1 hk.2
  have e3:Evt (fun k _=>impl_reckoner_product k p2.2 i.2 k'.1) p3:=reckoner_product_ev hi.2 hk.1
  have e4:Evt (fun k _=>impl_reckoner_product k p3.2 i.2 k'.2) p4:=reckoner_product_ev hi.2 hk.2
  refine Evt.bind e1 (Evt.bind e2 (Evt.bind e3 (Evt.bind e4 ?_)))
  refine Evt.bind (lesser_ev (gP _ _ _) (gP _ _ _)) (Evt.bind (lesser_ev (gP _ _ _) (gP _ _ _)) (Evt.bind (lesser_ev (minD_gd (gP _ _ _) (gP _ _ _)) (minD_gd (gP _ _ _) (gP _ _ _))) ?_))
  refine Evt.bind (greater_ev2 (gP _ _ _) (gP _ _ _)) (Evt.bind (greater_ev2 (gP _ _ _) (gP _ _ _)) (Evt.bind (greater_ev2 (maxD_gd (gP _ _ _) (gP _ _ _)) (maxD_gd (gP _ _ _) (gP _ _ _))) ?_))
  exact Evt.bind (roundOut_ev (p:=16) (ends4_gd (gP _ _ _) (gP _ _ _) (gP _ _ _) (gP _ _ _)) (by omega)) .pure

def smO(a b:Int×Int):Option (Int×Int):=if (sumD a b).2 then some (sumD a b).1 else none
def addO(i k:Iv):Option Iv:=match smO i.1 k.1,smO i.2 k.2 with
 | some a,some b=>some (a,b)
 | _,_=>none
theorem addO_gd{i k t:Iv}(h:addO i k=some t):gdI t:=by
 unfold addO smO at h
 split at h
 ·rename_i h1 h2
  cases h
  split at h1
  ·cases h1
   split at h2
   ·cases h2;exact⟨sumD_gd _ _,sumD_gd _ _⟩
   ·cases h2
  ·cases h1
 ·cases h
theorem ivAdd_ev{i k':Iv}(hi:gdI i)(hk:gdI k'):Evt (fun k _=>spec_ivAdd k i k') (match addO i k' with | some t=>(t,true) | none=>(((0,0),0,0),false)):=by
 refine Evt.eq (f:=fun k q=>_) ?_ (fun k q=>by rw [spec_ivAdd])
 refine Evt.bind (dyAdd_ev hi.1 hk.1) (Evt.bind (dyAdd_ev hi.2 hk.2) (.const ?_))
 unfold spec_ivBoth addO smO
 cases (sumD i.1 k'.1).2 <;> cases (sumD i.2 k'.2).2 <;> rfl
theorem add_ev2{b:Bool}{i k':Iv}(hi:gdI i)(hk:gdI k'):∃v,gdI v∧(b=true→(addO i k').isSome=true→addO i k'=some v)∧(∀f:Nat→Option ((Int×Int)×Bool),True) ∧
  ∃r2 r4:(Int×Int)×Bool,v=(r2.1,r4.1)∧r4.2=(b&&(addO i k').isSome)∧Evt (fun k _=>impl_reckoner_sum k b i.1 k'.1) r2∧Evt (fun k _=>impl_reckoner_sum k r2.2 i.2 k'.2) r4:=by
 let S (c:Bool) (x y:Int×Int):(Int×Int)×Bool:=if c then sumD x y else((0,0),false)
 have gS:∀c x y,gd (S c x y).1:=by
  intro c x y
  simp only [S]
  split
  ·exact sumD_gd _ _
  ·decide
 have eS:∀c x y,(S c x y).2=(c&&(smO x y).isSome):=by
  intro c x y
  simp only [S]
  cases c with
  | false=>rfl
  | true =>
   unfold smO
   simp only [if_true,Bool.true_and]
   cases (sumD x y).2 <;> rfl
 refine⟨((S b i.1 k'.1).1,(S (S b i.1 k'.1).2 i.2 k'.2).1),⟨gS _ _ _,gS _ _ _⟩,?_,fun _=>trivial,S b i.1 k'.1,S (S b i.1 k'.1).2 i.2 k'.2,rfl,?_,reckoner_sum_ev hi.1 hk.1,reckoner_sum_ev hi.2 hk.2⟩
 ·intro hb hs
  subst hb
  have hv:∀ {x y t},smO x y=some t→(S true x y).1=t:=by
   intro x y t h
   simp only [S,if_true]
   unfold smO at h
   split at h
   ·cases h;rfl
   ·cases h
  unfold addO at hs ⊢
  split at hs
  ·rename_i a c h1 h2
   try simp only [h1,h2]
   have t1:(S true i.1 k'.1).2=true:=by rw [eS,h1];rfl
   rw [hv h1,t1,hv h2]
  ·cases hs
 ·simp only [eS]
  unfold addO
  cases b with
  | false=>rfl
  | true=>cases smO i.1 k'.1 <;> cases smO i.2 k'.2 <;> rfl
theorem addI_ev{b:Bool}{i k':Iv}(hi:gdI i)(hk:gdI k'):∃v,gdI v∧(b=true→(addO i k').isSome=true→addO i k'=some v)∧Evt (fun k _=>impl_reckoner_add k b i k') (v,b&&(addO i k').isSome):=by
 obtain⟨v,gv,hv,_,r2,r4,rfl,hf,e1,e2⟩:=add_ev2 (b:=b) hi hk
 refine⟨_,gv,hv,?_⟩
 rw [←hf]
 refine Evt.eq (f:=fun k q=>_) ?_ (fun k q=>by rw [impl_reckoner_add])
 exact Evt.bind e1 (Evt.bind e2 .pure)
end Go.Ev.G

namespace Go.Ev.G
open Go Go.Ev
set_option maxRecDepth 100000

abbrev zI:Iv:=((0,0),0,0)
theorem zI_gd:gdI zI:=⟨by decide,by decide⟩
def oI(o:Option Iv):Iv×Bool:=match o with
 | some t=>(t,true)
 | none=>(zI,false)

end Go.Ev.G

namespace Go.Ev.G
open Go Go.Ev
set_option maxRecDepth 100000

theorem sv_mkD{n:Int}{k:Nat}(h:(mkD n k).2=true):sv (mkD n k).1*2 ^ k=n*2 ^ 24:=by
 unfold mkD at h ⊢
 split at h
 ·rename_i hs
  rw [if_pos hs]
  have hv:=strip_val k n
  have hle:=strip_le k n
  generalize strip k n=s at hv hle hs
  unfold sv
  simp only [Int.toNat_natCast]
  rw [←hv,Int.mul_assoc,Int.mul_assoc,←Int.pow_add,←Int.pow_add]
  congr 2
  omega
 ·cases h
theorem prO_sv{a b t:Int×Int}(ha:gd a)(hb:gd b)(h:prO (a,b)=some t):sv t*2 ^ 24=sv a*sv b:=by
 obtain⟨n,j,rfl,hj,_,_,_⟩:=gd_nat ha
 obtain⟨m,i,rfl,hi,_,_,_⟩:=gd_nat hb
 unfold prO prodD at h
 simp only [Int.toNat_natCast]at h
 cases hc:(mkD (n*m) (j+i)).2 with
 | false=>rw [hc]at h;simp at h
 | true =>
  rw [hc,if_pos rfl]at h
  cases h
  have e:=sv_mkD hc
  have hpp:(0:Int)<2 ^ (j+i):=Int.pow_pos (by decide)
  refine Int.eq_of_mul_eq_mul_right (Int.ne_of_gt hpp) ?_
  rw [Int.mul_assoc,Int.mul_comm (2 ^ 24),←Int.mul_assoc,e]
  unfold sv
  simp only [Int.toNat_natCast]
  have e1:(2:Int) ^ 24*2 ^ 24=2 ^ (24 - j)*2 ^ (24 - i)*2 ^ (j+i):=by
   rw [←Int.pow_add,←Int.pow_add,←Int.pow_add];congr 1;omega
  have e2:n*2 ^ (24 - j)*(m*2 ^ (24 - i))*2 ^ (j+i)=n*m*(2 ^ (24 - j)*2 ^ (24 - i)*2 ^ (j+i)):=by
   simp only [Int.mul_assoc,Int.mul_left_comm,Int.mul_comm]
  rw [e2,←e1,Int.mul_assoc]

def rO(a:Int×Int):Nat→Option (Int×Int)
 | 0=>some (1,0)
 | n+1=>match rO a n with
  | some t=>prO (t,a)
  | none=>none
theorem rO_gd{a t:Int×Int}:∀ {n:Nat},rO a n=some t→gd t
 | 0,h=>by cases h;decide
 | n+1,h=>by
  unfold rO at h
  split at h
  ·exact prO_gd h
  ·cases h
theorem rO_sv{a:Int×Int}(ha:gd a):∀(n:Nat) (t:Int×Int),rO a n=some t→sv t*(2 ^ 24) ^ n=2 ^ 24*sv a ^ n
 | 0,t,h=>by cases h;simp [sv]
 | n+1,t,h=>by
  unfold rO at h
  split at h
  ·rename_i s hs
   have h1:=prO_sv (rO_gd hs) ha h
   have h2:=rO_sv ha n s hs
   rw [Int.pow_succ (2 ^ 24) n,Int.pow_succ (sv a) n,show sv t*((2 ^ 24) ^ n*2 ^ 24)=sv t*2 ^ 24*(2 ^ 24) ^ n by rw [Int.mul_comm ((2 ^ 24) ^ n),Int.mul_assoc],h1,←Int.mul_assoc,←h2]
   simp only [Int.mul_left_comm,Int.mul_comm]
  ·cases h
theorem prO_one{a:Int×Int}(h:gd a):prO ((1,0),a)=some a:=by
 unfold prO prodD
 have:=mkD_self h
 simp only [Int.one_mul,show Int.toNat (0:Int)=0 from rfl,Nat.zero_add,this,if_true]
theorem rO_one{a:Int×Int}(h:gd a):rO a 1=some a:=prO_one h
theorem cube_le{x y:Int}(h:x≤y):x*x*x≤y*y*y:=by
 have pos:∀ {x y:Int},0≤x→x≤y→x*x*x≤y*y*y:=fun {x y} h0 h =>
  Int.mul_le_mul (Int.mul_le_mul h h h0 (by omega)) h h0 (Int.mul_nonneg (by omega) (by omega))
 have npos:∀ {x:Int},0≤x→0≤x*x*x:=fun h=>Int.mul_nonneg (Int.mul_nonneg h h) h
 have neg:∀(x:Int),(-x)*(-x)*(-x) = -(x*x*x):=fun x=>by simp [Int.neg_mul,Int.mul_neg]
 by_cases h0:0≤x
 ·exact pos h0 h
 ·have a1:=npos (x := -x) (by omega)
  rw [neg]at a1
  by_cases h1:0≤y
  ·have a2:=npos h1;omega
  ·have:=pos (x := -y) (y := -x) (by omega) (by omega)
   rw [neg,neg]at this
   omega
theorem rO_le{a b s t:Int×Int}(ha:gd a)(hb:gd b)(hab:sv a≤sv b){n:Nat}(hn:n=1∨n=3)(h:rO a n=some s)(h':rO b n=some t):sv s≤sv t:=by
 have h1:=rO_sv ha n s h
 have h2:=rO_sv hb n t h'
 have hp:sv a ^ n≤sv b ^ n:=by
  rcases hn with rfl | rfl
  ·rw [Int.pow_one,Int.pow_one];exact hab
  ·have:=cube_le hab
   simpa [Int.pow_succ] using this
 have hq:(0:Int)<(2 ^ 24) ^ n:=Int.pow_pos (by decide)
 have:sv s*(2 ^ 24) ^ n≤sv t*(2 ^ 24) ^ n:=by
  rw [h1,h2]
  exact Int.mul_le_mul_of_nonneg_left hp (by decide)
 exact Int.le_of_mul_le_mul_right this hq
theorem rO_nonneg{a s:Int×Int}(ha:gd a){n:Nat}(hn:n=2∨n=4)(h:rO a n=some s):0≤sv s:=by
 have h1:=rO_sv ha n s h
 have hp:0≤sv a ^ n:=by
  have h2:0≤sv a*sv a:=by
   rcases Int.le_total 0 (sv a)with h | h
   ·exact Int.mul_nonneg h h
   ·exact Int.mul_nonneg_of_nonpos_of_nonpos h h
  rcases hn with rfl | rfl
  ·simpa [Int.pow_succ] using h2
  ·have:=Int.mul_nonneg h2 h2
   simpa [Int.pow_succ,Int.mul_assoc] using this
 have hq:(0:Int)<(2 ^ 24) ^ n:=Int.pow_pos (by decide)
 have:0*(2 ^ 24) ^ n≤sv s*(2 ^ 24) ^ n:=by
  rw [h1,Int.zero_mul]
  exact Int.mul_nonneg (by decide) hp
 exact Int.le_of_mul_le_mul_right this hq
def zin(i:Iv):Bool:=decide (i.1.1≤0)&&decide (0≤i.2.1)
def powO(i:Iv)(n:Nat):Option Iv:=if n=0 then some ((1,0),1,0)else match rO i.1 n,rO i.2 n with
 | some l,some h=>some (rdI 16 (if n % 2=0 then(if zin i then(0,0)else minD l h,maxD l h)else(l,h)))
 | _,_=>none
theorem powO_gd{i v:Iv}{n:Nat}(h:powO i n=some v):gdI v:=by
 unfold powO at h
 split at h
 ·cases h;exact⟨one_gd,one_gd⟩
 ·split at h
  ·rename_i l h h1 h2
   cases h
   have g1:=rO_gd h1
   have g2:=rO_gd h2
   refine rdI_gd ?_
   split
   ·refine⟨?_,maxD_gd g1 g2⟩
    simp only
    split
    ·decide
    ·exact minD_gd g1 g2
   ·exact⟨g1,g2⟩
  ·cases h
theorem pow_ends{i:Iv}{l h:Int×Int}(hi:ivGd i){n:Nat}(hn:n≤4)(h0:n≠0)(h1:rO i.1 n=some l)(h2:rO i.2 n=some h) :
  foldE (l,l) (if n % 2=0∧zin i=true then [l,h,(0,0)]else [l,h])=(if n % 2=0 then(if zin i then(0,0)else minD l h,maxD l h)else(l,h)):=by
 have gl:=rO_gd h1
 have gh:=rO_gd h2
 have g0:gd (0,0):=by decide
 have m1:minD l l=l:=by unfold minD;split <;> rfl
 have m2:maxD l l=l:=by unfold maxD;split <;> rfl
 have s0:sv (0,0)=0:=by decide
 by_cases he:n % 2=0
 ·have c:=rO_nonneg hi.1 (n:=n) (by omega) h1
  have d:=rO_nonneg hi.2.1 (n:=n) (by omega) h2
  cases hz:zin i with
  | true =>
   simp only [he,true_and,if_true,foldE,m1,m2]
   refine Prod.ext (sv_inj ?_ g0 ?_) (sv_inj ?_ ?_ ?_)
   ·exact minD_gd (minD_gd gl gh) g0
   ·simp only [minD_sv,s0];omega
   ·exact maxD_gd (maxD_gd gl gh) g0
   ·exact maxD_gd gl gh
   ·simp only [maxD_sv,s0];omega
  | false=>simp [he,foldE,m1,m2]
 ·have c:=rO_le hi.1 hi.2.1 hi.2.2 (n:=n) (by omega) h1 h2
  simp only [he,false_and,if_false,foldE,m1,m2]
  refine Prod.ext (sv_inj (minD_gd gl gh) gl ?_) (sv_inj (maxD_gd gl gh) gh ?_)
  ·simp only [minD_sv];omega
  ·simp only [maxD_sv];omega
theorem rdI_one:rdI 16 ((1,0),1,0)=((1,0),1,0):=by decide

theorem mkD_ok{n:Int}{k:Nat}(h1 : -1099511627776≤n)(h2:n≤1099511627776)(hk:k≤24):(mkD n k).2=true:=by
 have a:=strip_le k n
 have b : -1099511627776≤(strip k n).1∧(strip k n).1≤1099511627776:=by
  rcases Int.le_total 0 n with h | h
  ·have:=strip_bound k n h;omega
  ·have:=strip_bound k (-n) (by omega)
   rw [strip_neg]at this
   simp only at this
   omega
 unfold mkD
 rw [if_pos ⟨b.1,b.2,by omega⟩]
theorem rdD_sv{p:Nat}{a:Int×Int}(ha:gd a)(hp:p≤24):sv (rdD p a)≤sv a:=by
 obtain⟨n,j,rfl,hj,h1,h2,hn⟩:=gd_nat ha
 unfold rdD
 simp only [Int.toNat_natCast]
 by_cases h:j≤p
 ·rw [if_pos (by omega)];exact Int.le_refl _
 ·rw [if_neg (by omega)]
  have hq:0<2 ^ (j - p):=Nat.pow_pos (by omega)
  have hb:=div_bound hq h1 h2
  have e:=sv_mkD (mkD_ok hb.1 hb.2 hp)
  generalize mkD (n / ((2 ^ (j - p):Nat):Int)) p=m at e
  have hpp:(0:Int)<2 ^ p:=Int.pow_pos (by decide)
  have hd:n / ((2 ^ (j - p):Nat):Int)*((2 ^ (j - p):Nat):Int)≤n:=Int.ediv_mul_le _ (by omega)
  have e2:sv (n,(j:Int))*2 ^ p=n*2 ^ (24 - (j - p)):=by
   unfold sv
   simp only [Int.toNat_natCast]
   rw [Int.mul_assoc,←Int.pow_add]
   congr 2
   omega
  have e3:n / ((2 ^ (j - p):Nat):Int)*2 ^ 24=n / ((2 ^ (j - p):Nat):Int)*((2 ^ (j - p):Nat):Int)*2 ^ (24 - (j - p)):=by
   rw [Int.natCast_pow,Int.mul_assoc]
   have:((2:Nat):Int)=2:=rfl
   rw [this,←Int.pow_add]
   congr 2
   omega
  have hh:sv m.1*2 ^ p≤sv (n,(j:Int))*2 ^ p:=by
   rw [e,e2,e3]
   exact Int.mul_le_mul_of_nonneg_right hd (Int.le_of_lt (Int.pow_pos (by decide)))
  exact Int.le_of_mul_le_mul_right hh hpp
theorem rdI_iv{p:Nat}{x:Iv}(h:gdI x)(hle:sv x.1≤sv x.2)(hp:p≤24):ivGd (rdI p x):=by
 have g:=rdI_gd (p:=p) h
 refine⟨g.1,g.2,?_⟩
 have a:=rdD_sv (p:=p) h.1 hp
 have b:=rdD_sv (p:=p) (gd_neg h.2) hp
 have c:sv (ng x.2) = - sv x.2:=sv_neg _
 have d:sv (ng (rdD p (ng x.2))) = - sv (rdD p (ng x.2)):=sv_neg _
 unfold rdI
 simp only [d]
 have e:sv (rdD p (-x.2.1,x.2.2))≤sv (-x.2.1,x.2.2):=b
 have f:sv (-x.2.1,x.2.2) = - sv x.2:=sv_neg _
 have k:sv (rdD p (ng x.2))=sv (rdD p (-x.2.1,x.2.2)):=rfl
 omega
theorem mulO_iv{i k t:Iv}(h:mulO i k=some t):ivGd t:=by
 unfold mulO at h
 split at h
 ·rename_i h1 h2 h3 h4
  cases h
  refine rdI_iv (ends4_gd (prO_gd h1) (prO_gd h2) (prO_gd h3) (prO_gd h4)) ?_ (by omega)
  simp only [ends4,minD_sv,maxD_sv]
  omega
 ·cases h
theorem sumD_sv{a b:Int×Int}(ha:gd a)(hb:gd b)(h:(sumD a b).2=true):sv (sumD a b).1=sv a+sv b:=by
 have e:=sv_mkD h
 unfold sumD at e ⊢
 generalize hm:mkD (sumN a b) (exA a b)=m at e
 unfold sumN at e
 obtain⟨n,j,rfl,hj,_⟩:=gd_nat ha
 obtain⟨o,i,rfl,hi,_⟩:=gd_nat hb
 have hK:exA (n,(j:Int)) (o,(i:Int))=max j i:=by simp [exA]
 rw [hK]at e
 simp only [Int.toNat_natCast]at e
 have hpp:(0:Int)<2 ^ max j i:=Int.pow_pos (by decide)
 have e1:∀(x:Int) (u:Nat),u≤max j i→u≤24→x*2 ^ (max j i - u)*2 ^ 24=x*2 ^ (24 - u)*2 ^ max j i:=by
  intro x u h1 h2
  rw [Int.mul_assoc,Int.mul_assoc,←Int.pow_add,←Int.pow_add]
  congr 2
  omega
 refine Int.eq_of_mul_eq_mul_right (Int.ne_of_gt hpp) ?_
 rw [e,Int.add_mul,Int.add_mul,e1 n j (by omega) hj,e1 o i (by omega) hi]
 rfl
theorem addO_iv{i k t:Iv}(hi:ivGd i)(hk:ivGd k)(h:addO i k=some t):ivGd t:=by
 have g:=addO_gd h
 refine⟨g.1,g.2,?_⟩
 unfold addO smO at h
 split at h
 ·rename_i h1 h2
  cases h
  split at h1
  ·rename_i c1
   cases h1
   split at h2
   ·rename_i c2
    cases h2
    simp only
    rw [sumD_sv hi.1 hk.1 c1,sumD_sv hi.2.1 hk.2.1 c2]
    have:=hi.2.2
    have:=hk.2.2
    omega
   ·cases h2
  ·cases h1
 ·cases h
end Go.Ev.G

namespace Go.Ev.G
open Go Go.Ev
set_option maxRecDepth 100000

theorem tmod2N(n:Nat):Int.tmod (n:Int) 2=((n % 2:Nat):Int):=rfl
theorem rO_none{a:Int×Int}{j:Nat}(h:rO a j=none):∀ {m:Nat},rO a (j+m)=none
 | 0=>h
 | m+1=>by
  have:=rO_none h (m:=m)
  rw [←Nat.add_assoc,rO,this]
theorem ivRaise_loop{a z:Int×Int}(ha:gd a){N:Nat}(hN:N≤4):∀(m j:Nat) (t:Int×Int),j+m=N→rO a j=some t→Evt (fun k n=>spec_ivRaise_L28 k n m a z t) (match rO a N with | some v => .inr (z,v,()) | none => .inl ((0,0),false))
 | 0,j,t,hj,ht=>by
  refine Evt.step (fun k n=>spec_ivRaise_L28.eq_2 k _ _ _ _ n) (Evt.cfalse rfl ?_)
  have:j=N:=by omega
  rw [←this,ht]
  exact .pure
 | m+1,j,t,hj,ht=>by
  refine Evt.step (fun k n=>spec_ivRaise_L28.eq_2 k _ _ _ _ n) (Evt.ctrue (decide_eq_true (by omega)) ?_)
  refine Evt.bind (mul1_ev (rO_gd ht) ha) ?_
  have e:rO a (j+1)=prO (t,a):=by rw [rO,ht]
  cases h:prO (t,a)with
  | none =>
   rw [h]at e
   have:=rO_none e (m:=m)
   rw [show j+1+m=N by omega]at this
   rw [this]
   exact Evt.ctrue rfl .pure
  | some v =>
   rw [h]at e
   refine Evt.cfalse rfl ?_
   have w:IntKind.wrap .i64 (((m+1:Nat):Int) - 1)=(m:Int):=by rw [w64 (by omega) (by omega)];omega
   rw [w]
   exact ivRaise_loop ha hN m (j+1) v (by omega) e
theorem ivRaise_ev{a:Int×Int}{n:Nat}(ha:gd a)(hn:n≤4):Evt (fun k _=>spec_ivRaise k a n) (match rO a n with | some v=>(v,true) | none=>((0,0),false)):=by
 refine Evt.eq (f:=fun k q=>_) ?_ (fun k q=>by rw [spec_ivRaise])
 refine Evt.bind (.const rfl) ?_
 have h:=ivRaise_loop (z:=(0,0)) ha hn n 0 (1,0) (by omega) rfl
 cases hr:rO a n with
 | none=>rw [hr]at h;exact Evt.inl (Evt.diag h) .pure
 | some v=>rw [hr]at h;exact Evt.inr (Evt.diag h) .pure
theorem ivZero_eq(i:Iv):spec_ivZero i=some (zin i):=by
 unfold spec_ivZero zin
 cases h:decide (i.1.1≤0) <;> simp
theorem foldE_iv{x:Int×Int}:∀ {xs:Pt} {s:Iv},gdI s→(∀y∈xs,gd y)→gdI (foldE s xs)
 | [],s,hs,_=>hs
 | y::r,s,hs,h=>by
  unfold foldE
  exact foldE_iv (x:=x) ⟨minD_gd hs.1 (h y (by simp)),maxD_gd hs.2 (h y (by simp))⟩ (fun z hz=>h z (by simp [hz]))
theorem ivPower_ev{i:Iv}{n:Nat}(hi:ivGd i)(hn:n≤4):Evt (fun k _=>spec_ivPower k i n) (oI (powO i n)):=by
 refine Evt.eq (f:=fun k q=>_) ?_ (fun k q=>by rw [spec_ivPower])
 refine Evt.bind (ivRaise_ev hi.1 hn) (Evt.bind (ivRaise_ev hi.2.1 hn) ?_)
 by_cases h0:n=0
 ·subst h0
  refine Evt.cfalse rfl (Evt.cfalse rfl ?_)
  refine Evt.inr (y:=(((0,0),0,0),[(1,0),(1,0)],())) (Evt.cfalse rfl .pure) ?_
  refine Evt.bind (ivEnds_ev (x:=(1,0)) (xs := [(1,0)]) (by simp [one_gd]) (by simp [lenB])) ?_
  have e:foldE ((1,0),1,0) [(1,0),(1,0)]=((1,0),1,0):=by decide
  rw [e]
  refine Evt.bind (ivRound_ev (p:=16) ⟨one_gd,one_gd⟩ (by omega)) ?_
  rw [rdI_one]
  exact .pure
 ·unfold powO
  rw [if_neg h0]
  cases h1:rO i.1 n with
  | none=>exact Evt.ctrue rfl .pure
  | some l =>
   refine Evt.cfalse rfl ?_
   cases h2:rO i.2 n with
   | none=>exact Evt.ctrue rfl .pure
   | some h =>
    refine Evt.cfalse rfl ?_
    have gl:=rO_gd h1
    have gh:=rO_gd h2
    have g0:gd (0,0):=by decide
    have ends:=pow_ends hi hn h0 h1 h2
    have tm:Int.tmod (n:Int) 2=((n % 2:Nat):Int):=tmod2N n
    have fin:∀xs:Pt,(∀y∈l::xs,gd y)→(l::xs).length≤3→Evt (fun k _=>Option.bind (spec_ivEnds k (l::xs)) fun r6=>Option.bind (spec_ivRound k r6 16) fun r7=>some (r7,true)) (rdI 16 (foldE (l,l) (l::xs)),true):=by
     intro xs hx hlen
     refine Evt.bind (ivEnds_ev (x:=l) (xs:=xs) hx (by simp only [lenB];omega)) (Evt.bind (ivRound_ev (p:=16) (foldE_iv (x:=l) ⟨gl,gl⟩ hx) (by omega)) .pure)
    by_cases he:n % 2=0
    ·cases hz:zin i with
     | true =>
      refine Evt.inr (y:=(((0,0),0,0),[l,h,(0,0)],())) (Evt.ctrue (decide_eq_true (by omega)) (Evt.ctrue (by rw [tm,he];rfl) (Evt.bind (.const (ivZero_eq i)) ?_))) ?_
      ·rw [hz]
       exact Evt.ctrue rfl (Evt.bind (.const rfl) (Evt.ctrue rfl .pure))
      ·rw [if_pos ⟨he,hz⟩]at ends
       rw [hz]at ends
       have:=fin [h,(0,0)] (by simp [gl,gh,g0]) (by simp)
       rw [ends]at this
       exact this
     | false =>
      refine Evt.inr (y:=(((0,0),0,0),[l,h],())) (Evt.ctrue (decide_eq_true (by omega)) (Evt.ctrue (by rw [tm,he];rfl) (Evt.bind (.const (ivZero_eq i)) ?_))) ?_
      ·rw [hz]
       exact Evt.cfalse rfl .pure
      ·rw [if_neg (by simp [hz])]at ends
       rw [hz]at ends
       have:=fin [h] (by simp [gl,gh]) (by simp)
       rw [ends]at this
       exact this
    ·refine Evt.inr (y:=(((0,0),0,0),[l,h],())) (Evt.ctrue (decide_eq_true (by omega)) (Evt.cfalse ?_ .pure)) ?_
     ·rw [tm]
      have:n % 2=1:=by omega
      rw [this];rfl
     ·rw [if_neg (by simp [he])]at ends
      have:=fin [h] (by simp [gl,gh]) (by simp)
      rw [ends]at this
      exact this

def sgI(i:Iv):Int:=if 0<i.1.1 then 1 else if i.2.1<0 then -1 else 0
theorem signOf_eq(i:Iv):impl_signOf i=some (sgI i):=by
 unfold impl_signOf sgI
 by_cases h:0<i.1.1
 ·rw [decide_eq_true h,if_pos h];rfl
 ·rw [decide_eq_false h,if_neg h]
  by_cases h2:i.2.1<0
  ·rw [decide_eq_true h2,if_pos h2];rfl
  ·rw [decide_eq_false h2,if_neg h2];rfl
theorem sgI_zero(i:Iv):(sgI i==0)=zin i:=by
 unfold sgI zin
 by_cases h:0<i.1.1
 ·rw [if_pos h,decide_eq_false (by omega)];rfl
 ·rw [if_neg h,decide_eq_true (by omega)]
  by_cases h2:i.2.1<0
  ·rw [if_pos h2,decide_eq_false (by omega)];rfl
  ·rw [if_neg h2,decide_eq_true (by omega)];rfl
theorem sv_lt0{a:Int×Int}:sv a<0↔a.1<0:=by
 have h:=sv_pos (a:=(-a.1,a.2))
 rw [sv_neg]at h
 simp only at h
 omega
theorem ivSign_eq{i:Iv}(hi:ivGd i):spec_ivSign i=some (sgI i):=by
 unfold spec_ivSign
 rw [ivZero_eq,Option.bind_some]
 cases hz:zin i with
 | true =>
  have:=sgI_zero i
  rw [hz]at this
  have:sgI i=0:=by simpa using this
  rw [this];rfl
 | false =>
  simp only [cond_false,sign_eq,Option.bind_some]
  unfold zin at hz
  unfold sgI cmpI
  by_cases h:0<i.1.1
  ·rw [if_pos h,if_neg (by omega),if_pos h]
  ·rw [decide_eq_true (by omega),Bool.true_and]at hz
   have h2:=of_decide_eq_false hz
   have h3:sv i.2<0:=sv_lt0.2 (by omega)
   have h4:i.1.1<0:=sv_lt0.1 (by have:=hi.2.2;omega)
   rw [if_pos h4,if_neg h,if_pos (show i.2.1<0 by omega)]

def bothP(i:Iv)(j:Nat):Bool:=(rO i.1 j).isSome&&(rO i.2 j).isSome
theorem prod_flag1{c:Bool}{s a:Int×Int}:(if c=true then prodD s a else((0,0),false)).2=(c&&(prO (s,a)).isSome):=by
 cases c with
 | false=>rfl
 | true =>
  unfold prO
  simp only [if_true,Bool.true_and]
  cases (prodD s a).2 <;> rfl
theorem prod_val1{c:Bool}{s a v:Int×Int}(hc:c=true)(h:prO (s,a)=some v):(if c=true then prodD s a else((0,0),false)).1=v:=by
 subst hc
 unfold prO at h
 simp only [if_true]
 split at h
 ·cases h;rfl
 ·cases h
theorem prod_gd1{c:Bool}{s a:Int×Int}:gd (if c=true then prodD s a else((0,0),false)).1:=by
 split
 ·exact prodD_gd _ _
 ·decide
theorem power_loop{b:Bool}{i z:Iv}{x2:Int}(hi:ivGd i){N:Nat}(hN:N≤3):∀(m j:Nat) (c:Bool) (l h:Int×Int),j+m=N→gd l→gd h→c=(b&&bothP i (j+1))→(c=true→rO i.1 (j+1)=some l∧rO i.2 (j+1)=some h) →
  ∃l' h',gd l'∧gd h'∧((b&&bothP i (N+1))=true→rO i.1 (N+1)=some l'∧rO i.2 (N+1)=some h')∧Evt (fun k n=>impl_reckoner_power_L122 k n c x2 i z l h N j) (.inr (x2,i,z,l',h',b&&bothP i (N+1),()))
 | 0,j,c,l,h,hj,gl,gh,hc,hv=>by
  have e:j=N:=by omega
  subst e
  refine⟨l,h,gl,gh,by rw [←hc];exact hv,?_⟩
  refine Evt.step (fun k n=>impl_reckoner_power_L122.eq_2 k _ _ _ _ _ _ _ _ n) (Evt.cfalse (decide_eq_false (by omega)) ?_)
  rw [hc]
  exact .pure
 | m+1,j,c,l,h,hj,gl,gh,hc,hv=>by
  have e1:=reckoner_product_ev (b:=c) gl hi.1
  have e2:=reckoner_product_ev (b:=(if c=true then prodD l i.1 else((0,0),false)).2) gh hi.2.1
  have hstep:∀(a:Int×Int) (s:Int×Int),rO a (j+1)=some s→rO a (j+1+1)=prO (s,a):=by
   intro a s hs
   rw [rO,hs]
  have hflag:(if (if c=true then prodD l i.1 else((0,0),false)).2=true then prodD h i.2 else((0,0),false)).2=(b&&bothP i (j+1+1)):=by
   rw [prod_flag1,prod_flag1]
   cases hcc:c with
   | true =>
    obtain⟨q1,q2⟩:=hv hcc
    rw [hcc]at hc
    have hb:b=true:=by cases b with | false=>cases hc | true=>rfl
    unfold bothP
    rw [hstep _ _ q1,hstep _ _ q2,hb]
    rfl
   | false =>
    rw [hcc]at hc
    cases b with
    | false=>rfl
    | true =>
     unfold bothP at hc ⊢
     cases q1:rO i.1 (j+1)with
     | none =>
      have:=rO_none q1 (m:=1)
      rw [this];rfl
     | some _ =>
      cases q2:rO i.2 (j+1)with
      | none =>
       have:=rO_none q2 (m:=1)
       rw [this];simp
      | some _=>rw [q1,q2]at hc;cases hc
  obtain⟨l',h',r1,r2,r3,r4⟩:=power_loop hi hN m (j+1) (b&&bothP i (j+1+1)) (if c=true then prodD l i.1 else((0,0),false)).1 (if (if c=true then prodD l i.1 else((0,0),false)).2=true then prodD h i.2 else((0,0),false)).1 (by omega) prod_gd1 prod_gd1 rfl (by
   intro hf
   rw [←hflag]at hf
   rw [prod_flag1]at hf
   have hf1:=hf
   rw [Bool.and_eq_true]at hf
   have hf2:=hf.1
   rw [prod_flag1,Bool.and_eq_true]at hf2
   obtain⟨q1,q2⟩:=hv hf2.1
   obtain⟨v1,w1⟩:=Option.isSome_iff_exists.1 hf2.2
   obtain⟨v2,w2⟩:=Option.isSome_iff_exists.1 hf.2
   rw [hstep _ _ q1,hstep _ _ q2,w1,w2,prod_val1 hf2.1 w1,prod_val1 hf.1 w2]
   exact⟨rfl,rfl⟩)
  refine⟨l',h',r1,r2,r3,?_⟩
  refine Evt.step (fun k n=>impl_reckoner_power_L122.eq_2 k _ _ _ _ _ _ _ _ n) (Evt.ctrue (decide_eq_true (by omega)) ?_)
  refine Evt.bind e1 (Evt.bind e2 ?_)
  have w:IntKind.wrap .i64 ((j:Int)+1)=((j+1:Nat):Int):=by rw [w64 (by omega) (by omega)];omega
  rw [w,hflag]
  exact r4
theorem power_ev{b:Bool}{i:Iv}{n:Nat}(hi:ivGd i)(hn:n≤4):∃v,gdI v∧(b=true→(powO i n).isSome=true→powO i n=some v)∧Evt (fun k _=>impl_reckoner_power k b i n) (v,b&&(powO i n).isSome):=by
 by_cases h0:n=0
 ·subst h0
  refine⟨((1,0),1,0),⟨one_gd,one_gd⟩,fun _ _=>rfl,?_⟩
  refine Evt.eq (f:=fun k q=>_) ?_ (fun k q=>by rw [impl_reckoner_power])
  rw [show(powO i 0).isSome=true from rfl,Bool.and_true]
  exact Evt.ctrue rfl (Evt.bind (.const rfl) (Evt.bind (.const rfl) .pure))
 ·obtain⟨N,rfl⟩:∃N,n=N+1:=⟨n - 1,by omega⟩
  have g0:gd (0,0):=by decide
  obtain⟨l,h,gl,gh,hv,hl⟩:=power_loop (b:=b) (z:=((0,0),0,0)) (x2:=((N+1:Nat):Int)) hi (N:=N) (by omega) N 0 b i.1 i.2 (by omega) hi.1 hi.2.1 (by unfold bothP;rw [rO_one hi.1,rO_one hi.2.1];simp) (fun _=>⟨rO_one hi.1,rO_one hi.2.1⟩)
  have hflag:(powO i (N+1)).isSome=bothP i (N+1):=by
   unfold powO bothP
   rw [if_neg h0]
   cases rO i.1 (N+1) <;> cases rO i.2 (N+1) <;> rfl
  have tm:Int.tmod ((N+1:Nat):Int) 2=(((N+1) % 2:Nat):Int):=tmod2N (N+1)
  let w:Iv:=if (N+1) % 2=0 then(if zin i then(0,0)else minD l h,maxD l h)else(l,h)
  have gw:gdI w:=by
   show gdI (if (N+1) % 2=0 then(if zin i then(0,0)else minD l h,maxD l h)else(l,h))
   split
   ·refine⟨?_,maxD_gd gl gh⟩
    simp only
    split
    ·exact g0
    ·exact minD_gd gl gh
   ·exact⟨gl,gh⟩
  refine⟨rdI 16 w,rdI_gd gw,?_,?_⟩
  ·intro hb hs
   rw [hflag]at hs
   obtain⟨q1,q2⟩:=hv (by rw [hb,hs];rfl)
   unfold powO
   rw [if_neg h0,q1,q2]
  ·refine Evt.eq (f:=fun k q=>_) ?_ (fun k q=>by rw [impl_reckoner_power])
   refine Evt.cfalse (by simp;omega) ?_
   have wN:IntKind.wrap .i64 (((N+1:Nat):Int) - 1)=(N:Int):=by rw [w64 (by omega) (by omega)];omega
   rw [wN,hflag]
   refine Evt.inr (Evt.diag hl) ?_
   refine Evt.inr (y:=(((0,0),0,0),w.1,w.2,b&&bothP i (N+1),())) ?_ ?_
   ·by_cases he:(N+1) % 2=0
    ·refine Evt.ctrue (by rw [tm,he];rfl) ?_
     refine Evt.bind (lesser_ev gl gh) (Evt.bind (greater_ev2 gl gh) (Evt.bind (.const (signOf_eq i)) ?_))
     rw [sgI_zero]
     have ew:w=(if zin i then(0,0)else minD l h,maxD l h):=if_pos he
     rw [ew]
     cases hz:zin i with
     | true=>exact Evt.ctrue rfl (Evt.bind (.const rfl) .pure)
     | false=>exact Evt.cfalse rfl .pure
    ·have ew:w=(l,h):=if_neg he
     rw [ew]
     refine Evt.cfalse ?_ .pure
     rw [tm]
     have:(N+1) % 2=1:=by omega
     rw [this];rfl
   ·exact Evt.bind (roundOut_ev (p:=16) gw (by omega)) .pure
end Go.Ev.G

namespace Go.Ev.G
open Go Go.Ev
set_option maxRecDepth 100000

def sideOk(L:Int)(p:Int×Int):Bool:=decide ((-L≤p.1∧p.1≤L)∧(-L≤p.2∧p.2≤L)∧p.1<p.2)
def sideOdd(p:Int×Int):Bool:=(Int.tmod p.1 2 != 0)||(Int.tmod p.2 2 != 0)
def bxV(b:Int×List Int×List Int):Bool :=
 decide (0≤b.1∧b.1≤8)&&(decide (1≤(b.2.1.length:Int)∧(b.2.1.length:Int)≤3)&&(decide (b.2.2.length=b.2.1.length)&&((b.2.1.zip b.2.2).all (sideOk (8*2 ^ b.1.toNat))&&(b.1==0||(b.2.1.zip b.2.2).any sideOdd))))

theorem bxGood_loop{k:Nat}{d8 L:Int}{los his:List Int}(hL:0≤L∧L≤1000000)(hb:los.length<lenB):∀(r r' d d':List Int) (b:Bool),d++r=los→d'++r'=his→d.length=d'.length→r.length=r'.length →
  Evt (fun k n=>spec_bxGood_L250 k n (d8,los,his) L b los (los.length:Int) d.length) (if (r.zip r').all (sideOk L)then .inr (b||(r.zip r').any sideOdd,())else .inl false):=by
 intro r
 induction r with
 | nil =>
  intro r' d d' b h h' hl hr
  refine Evt.step (fun k n=>spec_bxGood_L250.eq_2 k _ _ _ _ _ _ n) ?_
  rw [List.append_nil]at h
  subst h
  simp only [List.zip_nil_left,List.all_nil,List.any_nil,Bool.or_false,if_true]
  exact Evt.rng0 .pure
 | cons e r ih =>
  intro r' d d' b h h' hl hr
  obtain⟨e',r',rfl⟩:∃x y,r'=x::y:=by cases r' with
   | nil=>simp at hr
   | cons x y=>exact⟨x,y,rfl⟩
  refine Evt.step (fun k n=>spec_bxGood_L250.eq_2 k _ _ _ _ _ _ n) ?_
  have ih:=fun b=>ih r' (d ++ [e]) (d' ++ [e']) b (by simpa using h) (by simpa using h') (by simp [hl]) (by simpa using hr)
  rw [←len_next (r:=r) (by rw [h];exact hb)]at ih
  subst h
  subst h'
  simp only
  refine Evt.ctrue mid_lt (Evt.ctrue mid_ge (Evt.ctrue mid_lt (Evt.ctrue mid_ge (Evt.ctrue (two_lt (r:=r) hl) ?_))))
  rw [mid_get,two_get hl]
  have hw:IntKind.wrap .i64 (0 - L) = -L:=by rw [w64 (by omega) (by omega)];omega
  rw [hw]
  refine Evt.bind (.const (l1In_eq _ _ _)) ?_
  simp only [List.zip_cons_cons,List.all_cons,List.any_cons]
  by_cases h1 : -L≤e∧e≤L
  ·refine Evt.cfalse (by simp [h1]) (Evt.bind (.const (l1In_eq _ _ _)) ?_)
   by_cases h2 : -L≤e'∧e'≤L
   ·refine Evt.cfalse (by simp [h2]) ?_
    by_cases h3:e≥e'
    ·refine Evt.ctrue (decide_eq_true h3) ?_
     have:sideOk L (e,e')=false:=by unfold sideOk;exact decide_eq_false (by simp only;omega)
     simp only [this,Bool.false_and]
     exact .pure
    ·refine Evt.cfalse (decide_eq_false h3) ?_
     have:sideOk L (e,e')=true:=by unfold sideOk;exact decide_eq_true (by simp only;omega)
     simp only [this,Bool.true_and]
     cases b with
     | true=>exact Evt.ctrue rfl (by simpa using ih true)
     | false =>
      refine Evt.cfalse rfl ?_
      cases h4:(Int.tmod e 2 != 0)with
      | true=>refine Evt.ctrue rfl ?_;simp only [sideOdd,h4,Bool.true_or,Bool.or_true];simpa using ih true
      | false=>refine Evt.cfalse rfl ?_;simp only [sideOdd,h4,Bool.false_or];exact ih _
   ·refine Evt.ctrue (by rw [decide_eq_false h2];rfl) ?_
    have:sideOk L (e,e')=false:=by unfold sideOk;exact decide_eq_false (by simp only;omega)
    simp only [this,Bool.false_and]
    exact .pure
  ·refine Evt.ctrue (by rw [decide_eq_false h1];rfl) ?_
   have:sideOk L (e,e')=false:=by unfold sideOk;exact decide_eq_false (by simp only;omega)
   simp only [this,Bool.false_and]
   exact .pure

theorem isBox_loop{k:Nat}{d8 L:Int}{los his:List Int}(hL:0≤L∧L≤1000000)(hb:los.length<lenB):∀(r r' d d':List Int) (b:Bool),d++r=los→d'++r'=his→d.length=d'.length→r.length=r'.length →
  Evt (fun k n=>impl_isBox_L122 k n (d8,los,his) L b los (los.length:Int) d.length) (if (r.zip r').all (sideOk L)then .inr (b||(r.zip r').any sideOdd,())else .inl false):=by
 intro r
 induction r with
 | nil =>
  intro r' d d' b h h' hl hr
  refine Evt.step (fun k n=>impl_isBox_L122.eq_2 k _ _ _ _ _ _ n) ?_
  rw [List.append_nil]at h
  subst h
  simp only [List.zip_nil_left,List.all_nil,List.any_nil,Bool.or_false,if_true]
  exact Evt.rng0 .pure
 | cons e r ih =>
  intro r' d d' b h h' hl hr
  obtain⟨e',r',rfl⟩:∃x y,r'=x::y:=by cases r' with
   | nil=>simp at hr
   | cons x y=>exact⟨x,y,rfl⟩
  refine Evt.step (fun k n=>impl_isBox_L122.eq_2 k _ _ _ _ _ _ n) ?_
  have ih:=fun b=>ih r' (d ++ [e]) (d' ++ [e']) b (by simpa using h) (by simpa using h') (by simp [hl]) (by simpa using hr)
  rw [←len_next (r:=r) (by rw [h];exact hb)]at ih
  subst h
  subst h'
  simp only
  refine Evt.ctrue mid_lt (Evt.ctrue mid_ge (Evt.ctrue mid_lt ?_))
  rw [mid_get]
  have hw:IntKind.wrap .i64 (0 - L) = -L:=by rw [w64 (by omega) (by omega)];omega
  rw [hw]
  refine Evt.bind (.const (inside_eq _ _ _)) ?_
  simp only [List.zip_cons_cons,List.all_cons,List.any_cons]
  by_cases h1 : -L≤e∧e≤L
  ·refine Evt.cfalse (by simp [h1]) (Evt.ctrue mid_ge (Evt.ctrue (two_lt (r:=r) hl) ?_))
   rw [two_get hl,w64 (n:=e+1) (by omega) (by omega)]
   refine Evt.bind (.const (inside_eq _ _ _)) ?_
   by_cases h2:e+1≤e'∧e'≤L
   ·refine Evt.cfalse (by simp [h2]) ?_
    have:sideOk L (e,e')=true:=by unfold sideOk;exact decide_eq_true (by simp only;omega)
    simp only [this,Bool.true_and]
    cases b with
    | true=>exact Evt.ctrue rfl (by simpa using ih true)
    | false =>
     refine Evt.cfalse rfl ?_
     cases h4:(Int.tmod e 2 != 0)with
     | true=>refine Evt.ctrue rfl ?_;simp only [sideOdd,h4,Bool.true_or,Bool.or_true];simpa using ih true
     | false =>
      refine Evt.cfalse rfl (Evt.ctrue mid_ge (Evt.ctrue (two_lt (r:=r) hl) ?_))
      simp only [sideOdd,h4,Bool.false_or];exact ih _
   ·refine Evt.ctrue (by rw [decide_eq_false h2];rfl) ?_
    have:sideOk L (e,e')=false:=by unfold sideOk;exact decide_eq_false (by simp only;omega)
    simp only [this,Bool.false_and]
    exact .pure
  ·refine Evt.ctrue (by rw [decide_eq_false h1];rfl) ?_
   have:sideOk L (e,e')=false:=by unfold sideOk;exact decide_eq_false (by simp only;omega)
   simp only [this,Bool.false_and]
   exact .pure

theorem pow8{n:Nat}(h:n≤8):(0:Int)≤8*2 ^ n∧(8:Int)*2 ^ n≤2048:=by
 have h1:(2:Nat) ^ n≤2 ^ 8:=Nat.pow_le_pow_right (by omega) h
 have h2:((2:Int) ^ n)=((2 ^ n:Nat):Int):=by simp
 rw [h2]
 have h3:(2:Nat) ^ 8=256:=by decide
 rw [h3]at h1
 generalize (2:Nat) ^ n=q at h1
 omega

theorem bxGood_ev{b:Int×List Int×List Int}(hb:b.2.1.length<lenB):Evt (fun k _=>spec_bxGood k b) (bxV b):=by
 obtain⟨d8,los,his⟩:=b
 refine Evt.eq (f:=fun k q=>_) ?_ (fun k q=>by rw [spec_bxGood])
 unfold bxV
 simp only at hb ⊢
 refine Evt.bind (.const (l1In_eq _ _ _)) ?_
 by_cases h1:0≤d8∧d8≤8
 ·refine Evt.cfalse (by simp [h1]) (Evt.bind (.const (l1In_eq _ _ _)) ?_)
  rw [decide_eq_true h1,Bool.true_and]
  by_cases h2:1≤(los.length:Int)∧(los.length:Int)≤3
  ·refine Evt.cfalse (by rw [decide_eq_true h2];rfl) ?_
   rw [decide_eq_true h2,Bool.true_and]
   by_cases h3:his.length=los.length
   ·refine Evt.cfalse (by simp [h3]) ?_
    rw [decide_eq_true h3,Bool.true_and]
    obtain⟨m,rfl⟩:∃m:Nat,d8=m:=⟨d8.toNat,by omega⟩
    have hm:m≤8:=by omega
    have hp:=pow8 hm
    have e1:((2 ^ m:Nat):Int)=2 ^ m:=by simp
    refine Evt.bind (.const (dyPower_eq (by omega))) ?_
    rw [e1,w64 (by omega) (by omega)]
    have h0:=bxGood_loop (k:=0) (d8:=(m:Int)) (L:=8*2 ^ m) (los:=los) (his:=his) (by omega) hb los his [] [] ((m:Int)==0) rfl rfl rfl h3.symm
    simp only [List.length_nil,Int.toNat_natCast]at h0 ⊢
    cases hall:(los.zip his).all (sideOk (8*2 ^ m))with
    | true=>rw [hall]at h0;exact Evt.inr (Evt.diag h0) .pure
    | false=>rw [hall]at h0;exact Evt.inl (Evt.diag h0) .pure
   ·refine Evt.ctrue (by rw [bne_iff_ne];omega) ?_
    rw [decide_eq_false h3];exact .pure
  ·refine Evt.ctrue (by rw [decide_eq_false h2];rfl) ?_
   rw [decide_eq_false h2];exact .pure
 ·refine Evt.ctrue (by rw [decide_eq_false h1];rfl) ?_
  rw [decide_eq_false h1];exact .pure

theorem isBox_ev{b:Int×List Int×List Int}(hb:b.2.1.length<lenB):Evt (fun k _=>impl_isBox k b) (bxV b):=by
 obtain⟨d8,los,his⟩:=b
 refine Evt.eq (f:=fun k q=>_) ?_ (fun k q=>by rw [impl_isBox])
 unfold bxV
 simp only at hb ⊢
 refine Evt.bind (.const (inside_eq _ _ _)) ?_
 by_cases h1:0≤d8∧d8≤8
 ·refine Evt.cfalse (by simp [h1]) (Evt.bind (.const (inside_eq _ _ _)) ?_)
  rw [decide_eq_true h1,Bool.true_and]
  by_cases h2:1≤(los.length:Int)∧(los.length:Int)≤3
  ·refine Evt.cfalse (by rw [decide_eq_true h2];rfl) ?_
   rw [decide_eq_true h2,Bool.true_and]
   by_cases h3:his.length=los.length
   ·refine Evt.cfalse (by simp [h3]) ?_
    rw [decide_eq_true h3,Bool.true_and]
    obtain⟨m,rfl⟩:∃m:Nat,d8=m:=⟨d8.toNat,by omega⟩
    have hm:m≤8:=by omega
    have hp:=pow8 hm
    refine Evt.cfalse (by simp) ?_
    have e0:min (Int.toNat (m:Int)) (IntKind.bits .i64)=m:=by
     rw [Int.toNat_natCast];exact Nat.min_eq_left (by simp only [IntKind.bits];omega)
    rw [e0,w64 (by omega) (by omega)]
    have h0:=isBox_loop (k:=0) (d8:=(m:Int)) (L:=8*2 ^ m) (los:=los) (his:=his) (by omega) hb los his [] [] ((m:Int)==0) rfl rfl rfl h3.symm
    simp only [List.length_nil,Int.toNat_natCast]at h0 ⊢
    cases hall:(los.zip his).all (sideOk (8*2 ^ m))with
    | true=>rw [hall]at h0;exact Evt.inr (Evt.diag h0) .pure
    | false=>rw [hall]at h0;exact Evt.inl (Evt.diag h0) .pure
   ·refine Evt.ctrue (by rw [bne_iff_ne];omega) ?_
    rw [decide_eq_false h3];exact .pure
  ·refine Evt.ctrue (by rw [decide_eq_false h2];rfl) ?_
   rw [decide_eq_false h2];exact .pure
 ·refine Evt.ctrue (by rw [decide_eq_false h1];rfl) ?_
  rw [decide_eq_false h1];exact .pure

end Go.Ev.G

namespace Go.Ev.G
open Go Go.Ev
set_option maxRecDepth 100000

abbrev Tm:=Int×Int×Int×Int
def tmGd(t:Tm):Prop:=(-1000≤t.1∧t.1≤1000)∧(0≤t.2.1∧t.2.1≤4)∧(0≤t.2.2.1∧t.2.2.1≤4)∧(0≤t.2.2.2∧t.2.2.2≤4)∧t.2.1+t.2.2.1+t.2.2.2≤4
instance:DecidablePred tmGd:=fun x=>by unfold tmGd;exact inferInstance

theorem poTerm_eq(t:Tm):spec_poTerm t=some (decide (tmGd t)):=by
 unfold spec_poTerm
 simp only [l1In_eq,Option.bind_some]
 by_cases h1 : -1000≤t.1∧t.1≤1000
 ·rw [decide_eq_true h1,cond_true]
  by_cases h2:0≤t.2.1∧t.2.1≤4
  ·rw [decide_eq_true h2,cond_true]
   by_cases h3:0≤t.2.2.1∧t.2.2.1≤4
   ·rw [decide_eq_true h3,cond_true]
    by_cases h4:0≤t.2.2.2∧t.2.2.2≤4
    ·rw [decide_eq_true h4,cond_true,w64 (n:=t.2.1+t.2.2.1) (by omega) (by omega),w64 (by omega) (by omega)]
     congr 1
     rw [decide_eq_decide]
     exact⟨fun h=>⟨h1,h2,h3,h4,h⟩,fun h=>h.2.2.2.2⟩
    ·rw [decide_eq_false h4,decide_eq_false fun h:tmGd t=>h4 h.2.2.2.1];rfl
   ·rw [decide_eq_false h3,decide_eq_false fun h:tmGd t=>h3 h.2.2.1];rfl
  ·rw [decide_eq_false h2,decide_eq_false fun h:tmGd t=>h2 h.2.1];rfl
 ·rw [decide_eq_false h1,decide_eq_false fun h:tmGd t=>h1 h.1];rfl

theorem hasDegree_eq{t:Tm}(h1 : -1000≤t.1∧t.1≤1000):impl_hasDegree t=some (decide (tmGd t)):=by
 unfold impl_hasDegree impl_Term_degree
 simp only [inside_eq,Option.bind_some]
 by_cases h2:0≤t.2.1∧t.2.1≤4
 ·rw [decide_eq_true h2,cond_true]
  by_cases h3:0≤t.2.2.1∧t.2.2.1≤4
  ·rw [decide_eq_true h3,cond_true]
   by_cases h4:0≤t.2.2.2∧t.2.2.2≤4
   ·rw [decide_eq_true h4,cond_true,w64 (n:=t.2.1+t.2.2.1) (by omega) (by omega),w64 (by omega) (by omega)]
    congr 1
    rw [decide_eq_decide]
    exact⟨fun h=>⟨h1,h2,h3,h4,h⟩,fun h=>h.2.2.2.2⟩
   ·rw [decide_eq_false h4,decide_eq_false fun h:tmGd t=>h4 h.2.2.2.1];rfl
  ·rw [decide_eq_false h3,decide_eq_false fun h:tmGd t=>h3 h.2.2.1];rfl
 ·rw [decide_eq_false h2,decide_eq_false fun h:tmGd t=>h2 h.2.1];rfl

def lexI(a b:Tm):Int:=if a.2.1≠b.2.1 then cmpI a.2.1 b.2.1 else if a.2.2.1≠b.2.2.1 then cmpI a.2.2.1 b.2.2.1 else cmpI a.2.2.2 b.2.2.2
theorem cmpI_sub(a b:Int):cmpI (a - b) 0=cmpI a b:=by
 unfold cmpI
 split <;> split <;> (try split) <;> (try split) <;> omega
theorem poOrder_eq{a b:Tm}(ha:tmGd a)(hb:tmGd b):spec_poOrder a b=some (lexI a b):=by
 have a1:=ha.2
 have b1:=hb.2
 unfold spec_poOrder lexI
 rw [w64 (n:=a.2.1 - b.2.1) (by omega) (by omega),w64 (n:=a.2.2.1 - b.2.2.1) (by omega) (by omega),w64 (n:=a.2.2.2 - b.2.2.2) (by omega) (by omega)]
 simp only [sign_eq,Option.bind_some,cmpI_sub]
 by_cases h1:a.2.1=b.2.1
 ·rw [if_neg (by simpa using h1),show(a.2.1 != b.2.1)=false by simpa using h1,cond_false]
  by_cases h2:a.2.2.1=b.2.2.1
  ·rw [if_neg (by simpa using h2),show(a.2.2.1 != b.2.2.1)=false by simpa using h2,cond_false]
  ·rw [if_pos h2,show(a.2.2.1 != b.2.2.1)=true by simpa using h2,cond_true]
 ·rw [if_pos h1,show(a.2.1 != b.2.1)=true by simpa using h1,cond_true]

theorem cmpC_eq(a b:Int):cmp_Compare_int a b=some (cmpI a b):=by
 unfold cmp_Compare_int cmp_isNaN_int cmpI
 simp only [bne_self_eq_false,Option.bind_some,cond_false]
 by_cases h:a<b
 ·simp [h]
 ·by_cases h2:b<a
  ·simp [h,h2]
  ·simp [h,h2]

theorem or3_ev(x y z:Int):Evt (fun k _=>cmp_Or_int k [x,y,z]) (orI x (orI y z)):=by
 refine Evt.eq (f:=fun k q=>_) ?_ (fun k q=>by rw [cmp_Or_int])
 have w1:IntKind.wrap .i64 (0+1)=1:=by decide
 have w2:IntKind.wrap .i64 (1+1)=2:=by decide
 have w3:IntKind.wrap .i64 (2+1)=3:=by decide
 have l3:Evt (fun k n=>cmp_Or_int_L58 k n 0 [x,y,z] 3 3) (.inr (0,())):=Evt.step (fun k n=>cmp_Or_int_L58.eq_2 k _ _ _ _ n) (Evt.cfalse rfl .pure)
 have l2:Evt (fun k n=>cmp_Or_int_L58 k n 0 [x,y,z] 3 2) (if z != 0 then .inl z else .inr (0,())):=by
  refine Evt.step (fun k n=>cmp_Or_int_L58.eq_2 k _ _ _ _ n) (Evt.ctrue rfl (Evt.ctrue rfl (Evt.ctrue rfl ?_)))
  rw [w3]
  cases h:(z != 0)with
  | true=>exact Evt.ctrue h .pure
  | false=>exact Evt.cfalse h l3
 have l1:Evt (fun k n=>cmp_Or_int_L58 k n 0 [x,y,z] 3 1) (if y != 0 then .inl y else if z != 0 then .inl z else .inr (0,())):=by
  refine Evt.step (fun k n=>cmp_Or_int_L58.eq_2 k _ _ _ _ n) (Evt.ctrue rfl (Evt.ctrue rfl (Evt.ctrue rfl ?_)))
  rw [w2]
  cases h:(y != 0)with
  | true=>exact Evt.ctrue h .pure
  | false=>exact Evt.cfalse h l2
 have l0:Evt (fun k n=>cmp_Or_int_L58 k n 0 [x,y,z] (([x,y,z]:List Int).length:Int) 0) (if x != 0 then .inl x else if y != 0 then .inl y else if z != 0 then .inl z else .inr (0,())):=by
  refine Evt.step (fun k n=>cmp_Or_int_L58.eq_2 k _ _ _ _ n) (Evt.ctrue rfl (Evt.ctrue rfl (Evt.ctrue rfl ?_)))
  rw [w1]
  cases h:(x != 0)with
  | true=>exact Evt.ctrue h .pure
  | false=>exact Evt.cfalse h l1
 unfold orI
 cases hx:(x != 0)with
 | true =>
  rw [hx]at l0
  rw [show(x==0)=false by simpa using hx]
  exact Evt.inl (Evt.diag l0) .pure
 | false =>
  rw [hx]at l0
  rw [show(x==0)=true by simpa using hx,cond_true]
  cases hy:(y != 0)with
  | true =>
   rw [hy]at l0
   rw [show(y==0)=false by simpa using hy]
   exact Evt.inl (Evt.diag l0) .pure
  | false =>
   rw [hy]at l0
   rw [show(y==0)=true by simpa using hy,cond_true]
   cases hz:(z != 0)with
   | true=>rw [hz]at l0;exact Evt.inl (Evt.diag l0) .pure
   | false =>
    rw [hz]at l0
    have hz0:z=0:=by simpa using hz
    subst hz0
    exact Evt.inr (Evt.diag l0) .pure

theorem cmpI_zero(a b:Int):cmpI a b=0↔a=b:=by
 unfold cmpI
 split <;> (try split) <;> omega
theorem compareTerms_ev(a b:Tm):Evt (fun k _=>impl_compareTerms k a b) (lexI a b):=by
 refine Evt.eq (f:=fun k q=>_) ?_ (fun k q=>by rw [impl_compareTerms])
 refine Evt.bind (.const (cmpC_eq _ _)) (Evt.bind (.const (cmpC_eq _ _)) (Evt.bind (.const (cmpC_eq _ _)) (Evt.bind (or3_ev _ _ _) ?_)))
 have:orI (cmpI a.2.1 b.2.1) (orI (cmpI a.2.2.1 b.2.2.1) (cmpI a.2.2.2 b.2.2.2))=lexI a b:=by
  unfold lexI
  by_cases h1:a.2.1=b.2.1
  ·rw [(cmpI_zero _ _).2 h1,orI_z,if_neg (by simpa using h1)]
   by_cases h2:a.2.2.1=b.2.2.1
   ·rw [(cmpI_zero _ _).2 h2,orI_z,if_neg (by simpa using h2)]
   ·rw [orI_ne (fun h=>h2 ((cmpI_zero _ _).1 h)),if_pos h2]
  ·rw [orI_ne (fun h=>h1 ((cmpI_zero _ _).1 h)),if_pos h1]
 rw [this]
 exact .pure

def okFrom:Option Tm→List Tm→Bool
 | _,[]=>true
 | p,e::r=>(decide (tmGd e) && !(e.1==0))&&((match p with | none=>true | some q=>decide (lexI q e<0))&&okFrom (some e) r)
def lastO(d:List Tm):Option Tm:=d.getLast?
def polyV(xs:List Tm):Bool:=okFrom none xs&&decide ((xs.length:Int)≤20)

theorem okFrom_gd:∀(r:List Tm) (p:Option Tm),okFrom p r=true→∀t∈r,tmGd t
 | [],_,_=>by simp
 | e::r,p,h=>by
  unfold okFrom at h
  simp only [Bool.and_eq_true,decide_eq_true_eq]at h
  intro t ht
  rcases List.mem_cons.1 ht with rfl | ht
  ·exact h.1.1
  ·exact okFrom_gd r _ h.2.2 t ht
theorem polyV_gd{xs:List Tm}(h:polyV xs=true):∀t∈xs,tmGd t:=by
 unfold polyV at h
 rw [Bool.and_eq_true]at h
 exact okFrom_gd xs _ h.1

theorem last_get{d r:List Tm}{e q z:Tm}:(d ++ [q]++e::r).getD (Int.toNat (d.length:Int)) z=q:=by simp

theorem poGood_ev{xs:List Tm}(hb:xs.length<lenB):Evt (fun k _=>spec_poGood k xs) (polyV xs):=by
 refine Evt.eq (f:=fun k q=>_) ?_ (fun k q=>by rw [spec_poGood])
 have key:∀(r d:List Tm),d++r=xs→(∀q,lastO d=some q→tmGd q)→Evt (fun k n=>spec_poGood_L26 k n xs xs (xs.length:Int) d.length) (if okFrom (lastO d) r then .inr (xs,())else .inl false):=by
  intro r
  induction r with
  | nil =>
   intro d h hg
   refine Evt.step (fun k n=>spec_poGood_L26.eq_2 k _ _ _ _ n) ?_
   rw [List.append_nil]at h
   subst h
   exact Evt.rng0 .pure
  | cons e r ih =>
   intro d h hg
   refine Evt.step (fun k n=>spec_poGood_L26.eq_2 k _ _ _ _ n) ?_
   have ih:=ih (d ++ [e]) (by simpa using h)
   rw [←len_next (r:=r) (by rw [h];exact hb)]at ih
   rw [show lastO (d ++ [e])=some e by simp [lastO]]at ih
   subst h
   refine Evt.ctrue mid_lt (Evt.ctrue mid_ge (Evt.ctrue mid_lt ?_))
   rw [mid_get]
   refine Evt.bind (.const (poTerm_eq e)) ?_
   unfold okFrom
   by_cases h1:tmGd e
   ·simp only [decide_eq_true h1,Bool.true_and]
    refine Evt.cfalse rfl ?_
    have ih:=ih (fun q hq=>by cases hq;exact h1)
    cases h2:(e.1==0)with
    | true=>exact Evt.ctrue rfl .pure
    | false =>
     refine Evt.cfalse rfl ?_
     simp only [Bool.not_false,Bool.true_and]
     rcases List.eq_nil_or_concat d with rfl | ⟨d0,q,rfl⟩
     ·exact Evt.cfalse rfl (by simpa [lastO] using ih)
     ·simp only [List.concat_eq_append]at hg ih ⊢
      have hq:lastO (d0 ++ [q])=some q:=by simp [lastO]
      have hl:(((d0 ++ [q]).length:Nat):Int)=(d0.length:Int)+1:=by simp
      have hlb:d0.length<lenB:=by simp at hb;omega
      simp only [lenB]at hlb
      refine Evt.ctrue (by rw [hl];exact decide_eq_true (by omega)) ?_
      have hw:IntKind.wrap .i64 (((d0 ++ [q]).length:Int) - 1)=(d0.length:Int):=by rw [hl,w64 (by omega) (by omega)];omega
      rw [hw,last_get]
      refine Evt.ctrue (by simp) (Evt.ctrue (by simp <;> omega) (Evt.bind (.const (poOrder_eq (hg q hq) h1)) ?_))
      simp only [hq]
      by_cases h3:lexI q e<0
      ·simp only [decide_eq_true h3,Bool.true_and]
       exact Evt.cfalse (decide_eq_false (by omega)) ih
      ·simp only [decide_eq_false h3,Bool.false_and]
       exact Evt.ctrue (decide_eq_true (by omega)) .pure
   ·simp only [decide_eq_false h1,Bool.false_and]
    exact Evt.ctrue rfl .pure
 have h0:=key xs [] rfl (by intro q hq;cases hq)
 simp only [List.length_nil]at h0
 unfold polyV
 rw [show lastO []=none from rfl]at h0
 cases hall:okFrom none xs with
 | true=>rw [hall]at h0;exact Evt.inr (Evt.diag h0) .pure
 | false=>rw [hall]at h0;exact Evt.inl (Evt.diag h0) .pure

theorem isPoly_ev{xs:List Tm}(hb:xs.length<lenB):Evt (fun k _=>impl_isPoly k xs) (polyV xs):=by
 refine Evt.eq (f:=fun k q=>_) ?_ (fun k q=>by rw [impl_isPoly])
 have key:∀(r d:List Tm),d++r=xs→Evt (fun k n=>impl_isPoly_L26 k n xs xs (xs.length:Int) d.length) (if okFrom (lastO d) r then .inr (xs,())else .inl false):=by
  intro r
  induction r with
  | nil =>
   intro d h
   refine Evt.step (fun k n=>impl_isPoly_L26.eq_2 k _ _ _ _ n) ?_
   rw [List.append_nil]at h
   subst h
   exact Evt.rng0 .pure
  | cons e r ih =>
   intro d h
   refine Evt.step (fun k n=>impl_isPoly_L26.eq_2 k _ _ _ _ n) ?_
   have ih:=ih (d ++ [e]) (by simpa using h)
   rw [←len_next (r:=r) (by rw [h];exact hb)]at ih
   rw [show lastO (d ++ [e])=some e by simp [lastO]]at ih
   subst h
   refine Evt.ctrue mid_lt (Evt.ctrue mid_ge (Evt.ctrue mid_lt ?_))
   rw [mid_get]
   unfold okFrom
   cases h2:(e.1==0)with
   | true =>
    simp only [Bool.not_true,Bool.and_false,Bool.false_and]
    exact Evt.ctrue rfl .pure
   | false =>
   refine Evt.cfalse rfl (Evt.bind (.const (inside_eq _ _ _)) ?_)
   simp only [Bool.not_false,Bool.and_true]
   by_cases h0 : -1000≤e.1∧e.1≤1000
   ·refine Evt.cfalse (by rw [decide_eq_true h0];rfl) (Evt.bind (.const (hasDegree_eq h0)) ?_)
    by_cases h1:tmGd e
    ·simp only [decide_eq_true h1,Bool.true_and]
     refine Evt.cfalse rfl ?_
     rcases List.eq_nil_or_concat d with rfl | ⟨d0,q,rfl⟩
     ·exact Evt.cfalse rfl (by simpa [lastO] using ih)
     ·simp only [List.concat_eq_append]at ih ⊢
      have hq:lastO (d0 ++ [q])=some q:=by simp [lastO]
      have hl:(((d0 ++ [q]).length:Nat):Int)=(d0.length:Int)+1:=by simp
      have hlb:d0.length<lenB:=by simp at hb;omega
      simp only [lenB]at hlb
      refine Evt.ctrue (by rw [hl];exact decide_eq_true (by omega)) ?_
      have hw:IntKind.wrap .i64 (((d0 ++ [q]).length:Int) - 1)=(d0.length:Int):=by rw [hl,w64 (by omega) (by omega)];omega
      rw [hw,last_get]
      refine Evt.ctrue (by simp) (Evt.ctrue (by simp <;> omega) (Evt.bind (compareTerms_ev q e) ?_))
      simp only [hq]
      by_cases h3:lexI q e<0
      ·simp only [decide_eq_true h3,Bool.true_and]
       exact Evt.cfalse (decide_eq_false (by omega)) ih
      ·simp only [decide_eq_false h3,Bool.false_and]
       exact Evt.ctrue (decide_eq_true (by omega)) .pure
    ·simp only [decide_eq_false h1,Bool.false_and]
     exact Evt.ctrue rfl .pure
   ·simp only [decide_eq_false fun h:tmGd e=>h0 h.1,Bool.false_and]
    exact Evt.ctrue (by rw [decide_eq_false h0];rfl) .pure
 have h0:=key xs [] rfl
 simp only [List.length_nil]at h0
 unfold polyV
 rw [show lastO []=none from rfl]at h0
 cases hall:okFrom none xs with
 | true=>rw [hall]at h0;exact Evt.inr (Evt.diag h0) .pure
 | false=>rw [hall]at h0;exact Evt.inl (Evt.diag h0) .pure
end Go.Ev.G

namespace Go.Ev.G
open Go Go.Ev
set_option maxRecDepth 100000

def pw(t:Tm)(j:Nat):Int:=if j=0 then t.2.1 else if j=1 then t.2.2.1 else t.2.2.2
def big(xs:List Tm)(j:Nat):Bool:=xs.any fun t=>decide (pw t j>0)
def needs(n:Nat)(xs:List Tm):Bool:=(decide (n≤0)&&big xs 0)||((decide (n≤1)&&big xs 1)||(decide (n≤2)&&big xs 2))

theorem poPower_eq(t:Tm)(j:Nat):spec_poPower t j=some (pw t j):=by
 unfold spec_poPower pw
 by_cases h:j=0
 ·subst h;rfl
 ·rw [if_neg h,show((j:Int)==0)=false by simp;omega,cond_false]
  by_cases h1:j=1
  ·subst h1;rfl
  ·rw [if_neg h1,show((j:Int)==1)=false by simp;omega,cond_false]

def degV(j:Nat):Int→List Tm→Int
 | m,[]=>m
 | m,t::r=>degV j (max m (pw t j)) r
theorem degV_pos(j:Nat):∀(xs:List Tm) (m:Int),decide (degV j m xs>0)=(decide (m>0)||big xs j)
 | [],m=>by simp [degV,big]
 | t::r,m=>by
  rw [degV,degV_pos j r]
  unfold big
  rw [List.any_cons,←Bool.or_assoc]
  congr 1
  rw [Bool.eq_iff_iff]
  simp only [Bool.or_eq_true,decide_eq_true_eq]
  omega

theorem degreeIn_ev{xs:List Tm}{j:Nat}(hb:xs.length<lenB):Evt (fun k _=>spec_poDegreeIn k xs j) (degV j (-1) xs):=by
 refine Evt.eq (f:=fun k q=>_) ?_ (fun k q=>by rw [spec_poDegreeIn])
 have key:∀(r d:List Tm) (m:Int),d++r=xs→Evt (fun k n=>spec_poDegreeIn_L58 k n j m xs (xs.length:Int) d.length) (.inr (degV j m r,())):=by
  intro r
  induction r with
  | nil =>
   intro d m h
   refine Evt.step (fun k n=>spec_poDegreeIn_L58.eq_2 k _ _ _ _ _ n) ?_
   rw [List.append_nil]at h
   subst h
   exact Evt.rng0 .pure
  | cons e r ih =>
   intro d m h
   refine Evt.step (fun k n=>spec_poDegreeIn_L58.eq_2 k _ _ _ _ _ n) ?_
   have ih:=ih (d ++ [e]) (max m (pw e j)) (by simpa using h)
   rw [←len_next (r:=r) (by rw [h];exact hb)]at ih
   subst h
   refine Evt.ctrue mid_lt (Evt.ctrue mid_ge (Evt.ctrue mid_lt ?_))
   rw [mid_get]
   exact Evt.bind (.const (poPower_eq _ _)) (Evt.bind (.const (most_eq _ _)) ih)
 have h0:=key xs [] (-1) rfl
 simp only [List.length_nil]at h0
 exact Evt.inr (Evt.diag h0) .pure

theorem system_inner{n:Nat}{xs:List Tm}(hb:xs.length<lenB)(x0 x6:List (List Tm))(x7 x8:Int) :
  Evt (fun k m=>spec_poSystem_L13518 k m x0 xs (n:Int) x6 x7 x8) (if needs n xs then .inl false else .inr (x0,x6,x7,x8,())):=by
 have l3:∀j:Nat,3≤j→Evt (fun k m=>spec_poSystem_L13518 k m x0 xs (j:Int) x6 x7 x8) (.inr (x0,x6,x7,x8,())):=by
  intro j hj
  exact Evt.step (fun k m=>spec_poSystem_L13518.eq_2 k _ _ _ _ _ _ m) (Evt.cfalse (decide_eq_false (by omega)) .pure)
 have st:∀(j:Nat) (b:Bool),j<3→Evt (fun k m=>spec_poSystem_L13518 k m x0 xs ((j+1:Nat):Int) x6 x7 x8) (if b then .inl false else .inr (x0,x6,x7,x8,()))→Evt (fun k m=>spec_poSystem_L13518 k m x0 xs (j:Int) x6 x7 x8) (if (big xs j||b)then .inl false else .inr (x0,x6,x7,x8,())):=by
  intro j b hj h
  refine Evt.step (fun k m=>spec_poSystem_L13518.eq_2 k _ _ _ _ _ _ m) (Evt.ctrue (decide_eq_true (by omega)) (Evt.bind (degreeIn_ev hb) ?_))
  rw [degV_pos]
  rw [w64_next (by simp only [lenB];omega)]
  cases big xs j with
  | true=>exact Evt.ctrue rfl .pure
  | false=>exact Evt.cfalse rfl (by simpa using h)
 have l2:=st 2 false (by omega) (by simpa using l3 3 (by omega))
 have l1:=st 1 _ (by omega) l2
 have l0:=st 0 _ (by omega) l1
 match n with
 | 0=>simpa [needs] using l0
 | 1=>simpa [needs] using l1
 | 2=>simpa [needs] using l2
 | m+3 =>
  have:=l3 (m+3) (by omega)
  have e:needs (m+3) xs=false:=by simp [needs]
  rw [e]
  exact this

def sysV(m:List (List Tm)):Bool:=(m.all fun xs=>polyV xs && !needs m.length xs)&&decide (1≤(m.length:Int)∧(m.length:Int)≤3)

theorem poSystem_ev{m:List (List Tm)}(hb:m.length<lenB)(hm:∀r∈m,r.length<lenB):Evt (fun k _=>spec_poSystem k m) (sysV m):=by
 refine Evt.eq (f:=fun k q=>_) ?_ (fun k q=>by rw [spec_poSystem])
 have key:∀(r d:List (List Tm)),d++r=m→Evt (fun k n=>spec_poSystem_L26 k n m m (m.length:Int) d.length) (if (r.all fun xs=>polyV xs && !needs m.length xs)then .inr (m,())else .inl false):=by
  intro r
  induction r with
  | nil =>
   intro d h
   refine Evt.step (fun k n=>spec_poSystem_L26.eq_2 k _ _ _ _ n) ?_
   rw [List.append_nil]at h
   subst h
   exact Evt.rng0 .pure
  | cons e r ih =>
   intro d h
   refine Evt.step (fun k n=>spec_poSystem_L26.eq_2 k _ _ _ _ n) ?_
   have he:=hm e (by rw [←h];simp)
   have ih:=ih (d ++ [e]) (by simpa using h)
   rw [←len_next (r:=r) (by rw [h];exact hb)]at ih
   have hi:=system_inner (n:=m.length) he m m (m.length:Int) (d.length:Int)
   subst h
   refine Evt.ctrue mid_lt (Evt.ctrue mid_ge (Evt.ctrue mid_lt ?_))
   rw [mid_get]
   refine Evt.bind (poGood_ev he) ?_
   cases hp:polyV e with
   | false=>simp only [List.all_cons,hp,Bool.false_and];exact Evt.ctrue rfl .pure
   | true =>
    refine Evt.cfalse rfl ?_
    cases hn:needs (d++e::r).length e with
    | true=>rw [hn]at hi;simp only [List.all_cons,hp,hn,Bool.not_true,Bool.and_false,Bool.false_and];exact Evt.inl (Evt.diag hi) .pure
    | false=>rw [hn]at hi;simp only [List.all_cons,hp,hn,Bool.not_false,Bool.true_and];exact Evt.inr (Evt.diag hi) ih
 have h0:=key m [] rfl
 simp only [List.length_nil]at h0
 unfold sysV
 cases hall:(m.all fun xs=>polyV xs && !needs m.length xs)with
 | true=>rw [hall]at h0;exact Evt.inr (Evt.diag h0) (Evt.bind (.const (l1In_eq _ _ _)) .pure)
 | false=>rw [hall]at h0;exact Evt.inl (Evt.diag h0) .pure

def needsT(n:Nat)(t:Tm):Bool:=(decide (n≤0)&&decide (t.2.1>0))||((decide (n≤1)&&decide (t.2.2.1>0))||(decide (n≤2)&&decide (t.2.2.2>0)))
theorem needs_any(n:Nat)(xs:List Tm):needs n xs=xs.any (needsT n):=by
 rw [Bool.eq_iff_iff]
 simp only [needs,big,Bool.or_eq_true,Bool.and_eq_true,decide_eq_true_eq,List.any_eq_true,needsT,pw]
 constructor
 ·rintro(⟨h,t,ht,hp⟩ | ⟨h,t,ht,hp⟩ | ⟨h,t,ht,hp⟩)
  ·exact⟨t,ht,.inl ⟨h,by simpa using hp⟩⟩
  ·exact⟨t,ht,.inr (.inl ⟨h,by simpa using hp⟩)⟩
  ·exact⟨t,ht,.inr (.inr ⟨h,by simpa using hp⟩)⟩
 ·rintro⟨t,ht,⟨h,hp⟩ | ⟨h,hp⟩ | ⟨h,hp⟩⟩
  ·exact .inl ⟨h,t,ht,by simpa using hp⟩
  ·exact .inr (.inl ⟨h,t,ht,by simpa using hp⟩)
  ·exact .inr (.inr ⟨h,t,ht,by simpa using hp⟩)

theorem needs_inner(n:Nat)(t:Tm)(x9:List Tm)(x10 x11:Int) :
  Evt (fun k m=>impl_needsAtMost_L6758 k m (n:Int) x9 x10 x11 t.2 0) (if needsT n t then .inl false else .inr ((n:Int),x9,x10,x11,())):=by
 have w1:IntKind.wrap .i64 (0+1)=1:=by decide
 have w2:IntKind.wrap .i64 (1+1)=2:=by decide
 have w3:IntKind.wrap .i64 (2+1)=3:=by decide
 have l3:Evt (fun k m=>impl_needsAtMost_L6758 k m (n:Int) x9 x10 x11 t.2 3) (.inr ((n:Int),x9,x10,x11,())) :=
  Evt.step (fun k m=>impl_needsAtMost_L6758.eq_2 k _ _ _ _ _ _ m) (Evt.cfalse rfl .pure)
 have l2:Evt (fun k m=>impl_needsAtMost_L6758 k m (n:Int) x9 x10 x11 t.2 2) (if (decide (n≤2)&&decide (t.2.2.2>0))then .inl false else .inr ((n:Int),x9,x10,x11,())):=by
  refine Evt.step (fun k m=>impl_needsAtMost_L6758.eq_2 k _ _ _ _ _ _ m) (Evt.ctrue rfl (Evt.cfalse rfl (Evt.cfalse rfl (Evt.ctrue rfl ?_))))
  rw [w3]
  by_cases h:n≤2
  ·refine Evt.ctrue (decide_eq_true (by omega)) ?_
   simp only [decide_eq_true h,Bool.true_and]
   cases decide (t.2.2.2>0)with
   | true=>exact Evt.ctrue rfl .pure
   | false=>exact Evt.cfalse rfl l3
  ·simp only [decide_eq_false h,Bool.false_and]
   exact Evt.cfalse (decide_eq_false (by omega)) l3
 have l1:Evt (fun k m=>impl_needsAtMost_L6758 k m (n:Int) x9 x10 x11 t.2 1) (if ((decide (n≤1)&&decide (t.2.2.1>0))||(decide (n≤2)&&decide (t.2.2.2>0)))then .inl false else .inr ((n:Int),x9,x10,x11,())):=by
  refine Evt.step (fun k m=>impl_needsAtMost_L6758.eq_2 k _ _ _ _ _ _ m) (Evt.ctrue rfl (Evt.cfalse rfl (Evt.ctrue rfl ?_)))
  rw [w2]
  by_cases h:n≤1
  ·refine Evt.ctrue (decide_eq_true (by omega)) ?_
   simp only [decide_eq_true h,Bool.true_and]
   cases decide (t.2.2.1>0)with
   | true=>exact Evt.ctrue rfl .pure
   | false=>exact Evt.cfalse rfl l2
  ·simp only [decide_eq_false h,Bool.false_and,Bool.false_or]
   exact Evt.cfalse (decide_eq_false (by omega)) l2
 refine Evt.step (fun k m=>impl_needsAtMost_L6758.eq_2 k _ _ _ _ _ _ m) (Evt.ctrue rfl (Evt.ctrue rfl ?_))
 rw [w1]
 unfold needsT
 by_cases h:n≤0
 ·refine Evt.ctrue (decide_eq_true (by omega)) ?_
  simp only [decide_eq_true h,Bool.true_and]
  cases decide (t.2.1>0)with
  | true=>exact Evt.ctrue rfl .pure
  | false=>exact Evt.cfalse rfl l1
 ·simp only [decide_eq_false h,Bool.false_and,Bool.false_or]
  exact Evt.cfalse (decide_eq_false (by omega)) l1

theorem needsAtMost_ev{xs:List Tm}{n:Nat}(hb:xs.length<lenB):Evt (fun k _=>impl_needsAtMost k xs n) (!needs n xs):=by
 refine Evt.eq (f:=fun k q=>_) ?_ (fun k q=>by rw [impl_needsAtMost])
 rw [needs_any]
 have key:∀(r d:List Tm),d++r=xs→Evt (fun k m=>impl_needsAtMost_L26 k m n xs (xs.length:Int) d.length) (if r.any (needsT n)then .inl false else .inr ()):=by
  intro r
  induction r with
  | nil =>
   intro d h
   refine Evt.step (fun k m=>impl_needsAtMost_L26.eq_2 k _ _ _ _ m) ?_
   rw [List.append_nil]at h
   subst h
   exact Evt.rng0 .pure
  | cons e r ih =>
   intro d h
   refine Evt.step (fun k m=>impl_needsAtMost_L26.eq_2 k _ _ _ _ m) ?_
   have ih:=ih (d ++ [e]) (by simpa using h)
   rw [←len_next (r:=r) (by rw [h];exact hb)]at ih
   have hi:=needs_inner n e xs (xs.length:Int) (d.length:Int)
   subst h
   refine Evt.ctrue mid_lt (Evt.ctrue mid_ge (Evt.ctrue mid_lt ?_))
   rw [mid_get]
   refine Evt.bind (.const rfl) ?_
   cases hn:needsT n e with
   | true=>rw [hn]at hi;simp only [List.any_cons,hn,Bool.true_or];exact Evt.inl (Evt.diag hi) .pure
   | false=>rw [hn]at hi;simp only [List.any_cons,hn,Bool.false_or];exact Evt.inr (Evt.diag hi) ih
 have h0:=key xs [] rfl
 simp only [List.length_nil]at h0
 cases hall:xs.any (needsT n)with
 | true=>rw [hall]at h0;exact Evt.inl (Evt.diag h0) .pure
 | false=>rw [hall]at h0;exact Evt.inr (Evt.diag h0) .pure

theorem isSystem_ev{m:List (List Tm)}(hb:m.length<lenB)(hm:∀r∈m,r.length<lenB):Evt (fun k _=>impl_isSystem k m) (sysV m):=by
 refine Evt.eq (f:=fun k q=>_) ?_ (fun k q=>by rw [impl_isSystem])
 have key:∀(r d:List (List Tm)),d++r=m→Evt (fun k n=>impl_isSystem_L26 k n m m (m.length:Int) d.length) (if (r.all fun xs=>polyV xs && !needs m.length xs)then .inr (m,())else .inl false):=by
  intro r
  induction r with
  | nil =>
   intro d h
   refine Evt.step (fun k n=>impl_isSystem_L26.eq_2 k _ _ _ _ n) ?_
   rw [List.append_nil]at h
   subst h
   exact Evt.rng0 .pure
  | cons e r ih =>
   intro d h
   refine Evt.step (fun k n=>impl_isSystem_L26.eq_2 k _ _ _ _ n) ?_
   have he:=hm e (by rw [←h];simp)
   have ih:=ih (d ++ [e]) (by simpa using h)
   rw [←len_next (r:=r) (by rw [h];exact hb)]at ih
   subst h
   refine Evt.ctrue mid_lt (Evt.ctrue mid_ge (Evt.ctrue mid_lt ?_))
   rw [mid_get]
   refine Evt.bind (isPoly_ev he) ?_
   cases hp:polyV e with
   | false=>simp only [List.all_cons,hp,Bool.false_and];exact Evt.ctrue rfl .pure
   | true =>
    refine Evt.cfalse rfl (Evt.bind (needsAtMost_ev he) ?_)
    cases hn:needs (d++e::r).length e with
    | true=>simp only [List.all_cons,hp,hn,Bool.not_true,Bool.and_false,Bool.false_and];exact Evt.ctrue rfl .pure
    | false=>simp only [List.all_cons,hp,hn,Bool.not_false,Bool.true_and];exact Evt.cfalse rfl ih
 have h0:=key m [] rfl
 simp only [List.length_nil]at h0
 unfold sysV
 cases hall:(m.all fun xs=>polyV xs && !needs m.length xs)with
 | true=>rw [hall]at h0;exact Evt.inr (Evt.diag h0) (Evt.bind (.const (inside_eq _ _ _)) .pure)
 | false=>rw [hall]at h0;exact Evt.inl (Evt.diag h0) .pure

theorem szBox_eq{b:Int×List Int×List Int}(h1:b.2.1.length≤maxLen)(h2:b.2.2.length≤maxLen){a:Nat}(ha:a≤1000000) :
  laws_szBox b a=some (if b.2.1.length+b.2.2.length≤a then((a - (b.2.1.length+b.2.2.length):Nat):Int)else -1):=by
 unfold laws_szBox
 rw [szIntS_ev h1 ha]
 by_cases h3:b.2.1.length≤a
 ·rw [if_pos h3,Option.bind_some,decide_eq_false (by omega),cond_false,szIntS_ev h2 (by omega)]
  by_cases h4:b.2.2.length≤a - b.2.1.length
  ·rw [if_pos h4,if_pos (by omega),Option.bind_some,decide_eq_false (by omega),cond_false]
   congr 2
   omega
  ·rw [if_neg h4,if_neg (by omega)];rfl
 ·rw [if_neg h3,if_neg (by omega)];rfl
def boxR(b:Int×List Int×List Int)(f:Bool):Int×(List Int×List Int)×List Int×List Int:=(b.1,toV id fI b.2.1 f,toV id fI b.2.2 f)
theorem toBox_ev{b:Int×List Int×List Int}{f:Bool}(h1:b.2.1.length≤1000000)(h2:b.2.2.length≤1000000):Evt (fun k _=>laws_toBox k b f) (boxR b f):=by
 refine Evt.eq (f:=fun k q=>_) ?_ (fun k q=>by rw [laws_toBox])
 exact Evt.bind (toIntS_ev h1) (Evt.bind (toIntS_ev h2) .pure)
theorem boxR_eq(b:Int×List Int×List Int)(f:Bool):((boxR b f).1,(boxR b f).2.1.1,(boxR b f).2.2.1)=b:=by
 simp only [boxR,toV_fst]
theorem intactBox_ev{b:Int×List Int×List Int}(h1:b.2.1.length≤1000000)(h2:b.2.2.length≤1000000):Evt (fun k _=>laws_intactBox k (boxR b false) (boxR b false)) true:=by
 refine Evt.eq (f:=fun k q=>_) ?_ (fun k q=>by rw [laws_intactBox])
 exact Evt.cfalse (by simp) (Evt.bind (intactIntS_ev (room_toV h1)) (Evt.cfalse rfl (Evt.bind (intactIntS_ev (room_toV h2)) (Evt.cfalse rfl .pure))))
theorem intactT_ev{a:List (List Tm)}(h:Sized a):Evt (fun k _=>laws_intactTermSS k (toV (fun x=>toV id fT x false) ([fT],[]) a false) (toV (fun x=>toV id fT x false) ([fT],[]) a false)) true:=by
 refine intactTermSS_ev (room_toV h.len) ?_ ?_
 ·intro y hy
  simp [toV]at hy
  obtain⟨x,hx,rfl⟩:=hy
  exact⟨by simp,h.row x hx⟩
 ·intro y hy
  simp [toV]at hy
  rw [hy.2];simp [lenB]

abbrev tTerm:Ty := .pair (.int .i64) (.pair (.int .i64) (.pair (.int .i64) (.int .i64)))
abbrev tBox:Ty := .pair (.int .i64) (.pair (.sl (.int .i64)) (.sl (.int .i64)))
end Go.Ev.G

namespace Go.Ev.G
open Go Go.Ev
set_option maxRecDepth 100000

def tmW(t:Tm):Prop:=(-10000≤t.1∧t.1≤10000)∧(0≤t.2.1∧t.2.1≤4)∧(0≤t.2.2.1∧t.2.2.1≤4)∧(0≤t.2.2.2∧t.2.2.2≤4)
theorem tmGd_W{t:Tm}(h:tmGd t):tmW t:=by
 obtain⟨h1,h2,h3,h4,_⟩:=h
 exact⟨by omega,h2,h3,h4⟩
def sgl(a:Int×Int):Iv:=(a,a)
theorem sgl_iv{a:Int×Int}(h:gd a):ivGd (sgl a):=⟨h,h,Int.le_refl _⟩
def stepO(s:Iv)(e:Nat)(o:Option Iv):Option Iv:=o.bind fun a=>(powO s e).bind fun q=>mulO a q
def partF(t:Tm):Nat→Option Iv→List Iv→Option Iv
 | _,o,[]=>o
 | j,o,s::r=>partF t (j+1) (stepO s (pw t j).toNat o) r
def monO(t:Tm)(sides:List Iv):Option Iv:=partF t 0 (some (sgl (t.1,0))) sides
def accO(p o:Option Iv):Option Iv:=o.bind fun a=>p.bind fun q=>addO a q
def valF(sides:List Iv):Option Iv→List Tm→Option Iv
 | o,[]=>o
 | o,t::r=>valF sides (accO (monO t sides) o) r
def valO(p:List Tm)(sides:List Iv):Option Iv:=valF sides (some zI) p

theorem partF_none{t:Tm}:∀(r:List Iv) (j:Nat),partF t j none r=none
 | [],_=>rfl
 | _::r,j=>partF_none r (j+1)
theorem valF_none{sides:List Iv}:∀(r:List Tm),valF sides none r=none
 | []=>rfl
 | _::r=>valF_none r
theorem partF_iv{t:Tm}:∀(r:List Iv) (j:Nat) (o:Option Iv) (v:Iv),(∀a,o=some a→ivGd a)→partF t j o r=some v→ivGd v
 | [],_,o,v,ho,h=>ho v h
 | s::r,j,o,v,ho,h=>by
  refine partF_iv r (j+1) _ v ?_ h
  intro a ha
  unfold stepO at ha
  obtain⟨x,_,hx⟩:=Option.bind_eq_some_iff.1 ha
  obtain⟨q,_,hq⟩:=Option.bind_eq_some_iff.1 hx
  exact mulO_iv hq
theorem gd_int{n:Int}(h : -10000≤n∧n≤10000):gd (n,0):=⟨Int.le_refl _,by simp,by simp only;omega,by simp only;omega,.inl rfl⟩
theorem monO_iv{t:Tm}{sides:List Iv}{v:Iv}(ht:tmW t)(h:monO t sides=some v):ivGd v :=
 partF_iv sides 0 _ v (fun a ha=>by cases ha;exact sgl_iv (gd_int ht.1)) h
theorem valF_iv{sides:List Iv}:∀(r:List Tm) (o:Option Iv) (v:Iv),(∀t∈r,tmW t)→(∀a,o=some a→ivGd a)→valF sides o r=some v→ivGd v
 | [],o,v,_,ho,h=>ho v h
 | t::r,o,v,ht,ho,h=>by
  refine valF_iv r _ v (fun x hx=>ht x (by simp [hx])) ?_ h
  intro a ha
  unfold accO at ha
  obtain⟨x,hx0,hx⟩:=Option.bind_eq_some_iff.1 ha
  obtain⟨q,hq0,hq⟩:=Option.bind_eq_some_iff.1 hx
  exact addO_iv (ho x hx0) (monO_iv (ht t (by simp)) hq0) hq
theorem zI_iv:ivGd zI:=⟨by decide,by decide,Int.le_refl _⟩
theorem valO_iv{p:List Tm}{sides:List Iv}{v:Iv}(ht:∀t∈p,tmW t)(h:valO p sides=some v):ivGd v:=valF_iv p _ v ht (fun a ha=>by cases ha;exact zI_iv) h
theorem pw_nat{t:Tm}(ht:tmW t)(j:Nat):∃e:Nat,pw t j=e∧e≤4:=by
 obtain⟨_,h2,h3,h4⟩:=ht
 unfold pw
 split
 ·exact⟨t.2.1.toNat,by omega,by omega⟩
 ·split
  ·exact⟨t.2.2.1.toNat,by omega,by omega⟩
  ·exact⟨t.2.2.2.toNat,by omega,by omega⟩

theorem vaOver_inner{t:Tm}{sides:List Iv}(ht:tmW t)(hs:∀s∈sides,ivGd s)(hb:sides.length<lenB)(x1:List Iv)(x4 x6:Iv)(x20:List Tm)(x21 x22:Int) :
  ∀(r d:List Iv) (o:Iv),d++r=sides→gdI o→Evt (fun k n=>spec_vaOver_L59802 k n x1 x4 x6 t o x20 x21 x22 sides (sides.length:Int) d.length) (match partF t d.length (some o) r with | some v => .inr (x1,x4,x6,v,x20,x21,x22,()) | none => .inl (zI,false))
 | [],d,o,hd,ho=>by
  rw [List.append_nil]at hd
  subst hd
  refine Evt.step (fun k n=>spec_vaOver_L59802.eq_2 k _ _ _ _ _ _ _ _ _ _ _ n) (Evt.rng0 .pure)
 | s::r,d,o,hd,ho=>by
  refine Evt.step (fun k n=>spec_vaOver_L59802.eq_2 k _ _ _ _ _ _ _ _ _ _ _ n) ?_
  have gs:ivGd s:=hs s (by rw [←hd];simp)
  obtain⟨e,he,he4⟩:=pw_nat ht d.length
  rw [←hd]
  refine Evt.ctrue mid_lt (Evt.ctrue mid_ge (Evt.ctrue mid_lt ?_))
  rw [mid_get]
  refine Evt.bind (.const (poPower_eq t d.length)) ?_
  rw [he]
  refine Evt.bind (ivPower_ev gs he4) ?_
  have es:partF t d.length (some o) (s::r)=partF t (d.length+1) (stepO s e (some o)) r:=by rw [partF,he];rfl
  rw [es]
  unfold stepO
  rw [Option.bind_some]
  cases hp:powO s e with
  | none =>
   rw [Option.bind_none,partF_none]
   exact Evt.ctrue rfl .pure
  | some q =>
   refine Evt.cfalse rfl ?_
   rw [Option.bind_some]
   have hmul:=ivMul_ev ho (powO_gd hp)
   cases hm:mulO o q with
   | none =>
    rw [hm]at hmul
    rw [partF_none]
    exact Evt.bind hmul (Evt.ctrue rfl .pure)
   | some v =>
    rw [hm]at hmul
    refine Evt.bind hmul (Evt.cfalse rfl ?_)
    have ih:=vaOver_inner ht hs hb x1 x4 x6 x20 x21 x22 r (d ++ [s]) v (by simpa using hd) (mulO_gd hm)
    rw [←hd]at ih
    rw [len_next (by rw [hd];exact hb)]
    simpa using ih
theorem vaOver_ev{p:List Tm}{sides:List Iv}(ht:∀t∈p,tmW t)(hs:∀s∈sides,ivGd s)(hb:sides.length<lenB)(hp:p.length<lenB):Evt (fun k _=>spec_vaOver k p sides) (oI (valO p sides)):=by
 refine Evt.eq (f:=fun k q=>_) ?_ (fun k q=>by rw [spec_vaOver])
 refine Evt.bind (.const rfl) (Evt.bind (.const rfl) ?_)
 have key:∀(r d:List Tm) (o:Iv),d++r=p→gdI o→Evt (fun k n=>spec_vaOver_L58 k n sides zI o p (p.length:Int) d.length) (match valF sides (some o) r with | some v => .inr (zI,v,()) | none => .inl (zI,false)):=by
  intro r
  induction r with
  | nil =>
   intro d o hd ho
   rw [List.append_nil]at hd
   subst hd
   exact Evt.step (fun k n=>spec_vaOver_L58.eq_2 k _ _ _ _ _ _ n) (Evt.rng0 .pure)
  | cons t r ih =>
   intro d o hd ho
   refine Evt.step (fun k n=>spec_vaOver_L58.eq_2 k _ _ _ _ _ _ n) ?_
   have gt:=ht t (by rw [←hd];simp)
   rw [←hd]
   refine Evt.ctrue mid_lt (Evt.ctrue mid_ge (Evt.ctrue mid_lt ?_))
   rw [mid_get]
   refine Evt.bind (.const rfl) (Evt.bind (.const rfl) ?_)
   have hin:=vaOver_inner gt hs hb sides zI o (d++t::r) ((d++t::r).length:Int) (d.length:Int) sides [] (sgl (t.1,0)) rfl ⟨gd_int gt.1,gd_int gt.1⟩
   simp only [List.length_nil]at hin
   have es:valF sides (some o) (t::r)=valF sides (accO (monO t sides) (some o)) r:=rfl
   rw [es]
   unfold accO
   rw [Option.bind_some]
   have em:partF t 0 (some (sgl (t.1,0))) sides=monO t sides:=rfl
   rw [em]at hin
   cases hm:monO t sides with
   | none =>
    rw [hm]at hin
    rw [Option.bind_none,valF_none]
    exact Evt.inl (Evt.diag hin) .pure
   | some q =>
    rw [hm]at hin
    rw [Option.bind_some]
    refine Evt.inr (Evt.diag hin) ?_
    have gq:=monO_iv gt hm
    refine Evt.bind (ivAdd_ev ho ⟨gq.1,gq.2.1⟩) ?_
    cases ha:addO o q with
    | none =>
     rw [valF_none]
     exact Evt.ctrue rfl .pure
    | some v =>
     refine Evt.cfalse rfl ?_
     have ih:=ih (d ++ [t]) v (by simpa using hd) (addO_gd ha)
     rw [←hd]at ih
     simp only
     rw [len_next (by rw [hd];exact hp)]
     exact ih
 have hk:=key p [] zI rfl zI_gd
 simp only [List.length_nil]at hk
 unfold valO
 cases hv:valF sides (some zI) p with
 | none=>rw [hv]at hk;exact Evt.inl (Evt.diag hk) .pure
 | some v=>rw [hv]at hk;exact Evt.inr (Evt.diag hk) .pure

theorem step_flag{b c:Bool}{o:Option Iv}{s v v1:Iv}{e:Nat}(hc:c=(b&&o.isSome))(ho:c=true→o=some v)(h1:c=true→(powO s e).isSome=true→powO s e=some v1) :
  ((c&&(powO s e).isSome)&&(mulO v v1).isSome)=(b&&(stepO s e o).isSome):=by
 cases hcc:c with
 | false =>
  rw [hcc]at hc
  cases b with
  | false=>rfl
  | true =>
   cases o with
   | none=>rfl
   | some _=>cases hc
 | true =>
  have h2:=ho hcc
  subst h2
  have hb:b=true:=by rw [hcc]at hc;cases b with | false=>cases hc | true=>rfl
  rw [hb]
  unfold stepO
  rw [Option.bind_some]
  cases hp:powO s e with
  | none=>rfl
  | some q =>
   have:=h1 hcc (by rw [hp];rfl)
   rw [hp]at this
   cases this
   rw [Option.bind_some]
   rfl
theorem step_val{b c:Bool}{o:Option Iv}{s v v1 v2:Iv}{e:Nat}(ho:c=true→o=some v)(h1:c=true→(powO s e).isSome=true→powO s e=some v1)
  (h2:(c&&(powO s e).isSome)=true→(mulO v v1).isSome=true→mulO v v1=some v2) (h:((c&&(powO s e).isSome)&&(mulO v v1).isSome)=true):stepO s e o=some v2:=by
 rw [Bool.and_eq_true,Bool.and_eq_true]at h
 have q1:=ho h.1.1
 have q2:=h1 h.1.1 h.1.2
 have q3:=h2 (by rw [h.1.1,h.1.2];rfl) h.2
 rw [q1]
 unfold stepO
 rw [Option.bind_some,q2,Option.bind_some,q3]
theorem valueOver_inner{b:Bool}{t:Tm}{sides:List Iv}(ht:tmW t)(hs:∀s∈sides,ivGd s)(hb:sides.length≤3)(x1:List Iv)(x4 x7:Iv)(x16:List Tm)(x17 x18:Int) :
  ∀(r d:List Iv) (c:Bool) (v:Iv) (o:Option Iv),d++r=sides→gdI v→c=(b&&o.isSome)→(c=true→o=some v) →
   ∃v',gdI v'∧((b&&(partF t d.length o r).isSome)=true→partF t d.length o r=some v')∧Evt (fun k n=>impl_valueOver_L125338 k n x1 x4 c x7 t v x16 x17 x18 sides (sides.length:Int) d.length) (.inr (x1,x4,b&&(partF t d.length o r).isSome,x7,v',x16,x17,x18,()))
 | [],d,c,v,o,hd,gv,hc,ho=>by
  rw [List.append_nil]at hd
  subst hd
  refine⟨v,gv,fun h=>ho (by rw [hc];exact h),Evt.step (fun k n=>impl_valueOver_L125338.eq_2 k _ _ _ _ _ _ _ _ _ _ _ _ n) (Evt.rng0 ?_)⟩
  rw [hc]
  exact .pure
 | s::r,d,c,v,o,hd,gv,hc,ho=>by
  have gs:ivGd s:=hs s (by rw [←hd];simp)
  have hl:d.length≤2:=by
   have:=congrArg List.length hd
   simp at this;omega
  obtain⟨e,he,he4⟩:=pw_nat ht d.length
  obtain⟨v1,g1,q1,e1⟩:=power_ev (b:=c) gs he4
  obtain⟨v2,g2,q2,e2⟩:=multiply_ev (b:=(c&&(powO s e).isSome)) gv g1
  have es:partF t d.length o (s::r)=partF t (d.length+1) (stepO s e o) r:=by rw [partF,he];rfl
  have hf:=step_flag (s:=s) (v1:=v1) (e:=e) hc ho q1
  obtain⟨v',g',hv',hl'⟩:=valueOver_inner ht hs hb x1 x4 x7 x16 x17 x18 r (d ++ [s]) ((c&&(powO s e).isSome)&&(mulO v v1).isSome) v2 (stepO s e o) (by simpa using hd) g2 hf (step_val (b:=b) ho q1 q2)
  rw [show(d ++ [s]).length=d.length+1 by simp]at hv' hl'
  rw [es]
  refine⟨v',g',hv',Evt.step (fun k n=>impl_valueOver_L125338.eq_2 k _ _ _ _ _ _ _ _ _ _ _ _ n) ?_⟩
  rw [←hd]at hl' ⊢
  refine Evt.ctrue mid_lt (Evt.ctrue mid_ge (Evt.ctrue mid_lt ?_))
  rw [mid_get,len_next (by rw [hd];simp only [lenB];omega),show(d ++ [s]).length=d.length+1 by simp]
  refine Evt.bind (.const rfl) ?_
  have hj:d.length=0∨d.length=1∨d.length=2:=by omega
  rcases hj with hj | hj | hj
  ·have hpw:t.2.1=(e:Int):=by rw [←he,hj];rfl
   refine Evt.ctrue (by rw [hj];rfl) ?_
   simp only [hpw]
   exact Evt.bind e1 (Evt.bind e2 hl')
  ·have hpw:t.2.2.1=(e:Int):=by rw [←he,hj];rfl
   refine Evt.cfalse (by rw [hj];rfl) (Evt.ctrue (by rw [hj];rfl) ?_)
   simp only [hpw]
   exact Evt.bind e1 (Evt.bind e2 hl')
  ·have hpw:t.2.2.2=(e:Int):=by rw [←he,hj];rfl
   refine Evt.cfalse (by rw [hj];rfl) (Evt.cfalse (by rw [hj];rfl) (Evt.ctrue (by rw [hj];rfl) ?_))
   simp only [hpw]
   exact Evt.bind e1 (Evt.bind e2 hl')
theorem valueOver_ev{p:List Tm}{sides:List Iv}(ht:∀t∈p,tmW t)(hs:∀s∈sides,ivGd s)(hb:sides.length≤3)(hp:p.length<lenB):Evt (fun k _=>impl_valueOver k p sides) (oI (valO p sides)):=by
 refine Evt.eq (f:=fun k q=>_) ?_ (fun k q=>by rw [impl_valueOver])
 have key:∀(r d:List Tm) (c:Bool) (v:Iv) (o:Option Iv),d++r=p→gdI v→c=o.isSome→(c=true→o=some v) →
   ∃v',((valF sides o r).isSome=true→valF sides o r=some v')∧Evt (fun k n=>impl_valueOver_L122 k n sides zI c v p (p.length:Int) d.length) (.inr (zI,(valF sides o r).isSome,v',())):=by
  intro r
  induction r with
  | nil =>
   intro d c v o hd gv hc ho
   rw [List.append_nil]at hd
   subst hd
   refine⟨v,fun h=>ho (by rw [hc];exact h),Evt.step (fun k n=>impl_valueOver_L122.eq_2 k _ _ _ _ _ _ _ n) (Evt.rng0 ?_)⟩
   rw [hc]
   exact .pure
  | cons t r ih =>
   intro d c v o hd gv hc ho
   have gt:=ht t (by rw [←hd];simp)
   obtain⟨q,gq,hq,hin⟩:=valueOver_inner (b:=c) gt hs hb sides zI v (d++t::r) ((d++t::r).length:Int) (d.length:Int) sides [] c (sgl (t.1,0)) (some (sgl (t.1,0))) rfl ⟨gd_int gt.1,gd_int gt.1⟩ (by simp) (fun _=>rfl)
   simp only [List.length_nil]at hq hin
   have em:partF t 0 (some (sgl (t.1,0))) sides=monO t sides:=rfl
   rw [em]at hq hin
   obtain⟨w,gw,hw,ha⟩:=addI_ev (b:=(c&&(monO t sides).isSome)) gv gq
   have hf:((c&&(monO t sides).isSome)&&(addO v q).isSome)=(accO (monO t sides) o).isSome:=by
    cases hcc:c with
    | false =>
     rw [hcc]at hc
     cases o with
     | none=>rfl
     | some _=>cases hc
    | true =>
     have h2:=ho hcc
     subst h2
     unfold accO
     rw [Option.bind_some]
     cases hm:monO t sides with
     | none=>rfl
     | some q' =>
      have:=hq (by rw [hcc,hm];rfl)
      rw [hm]at this
      cases this
      rfl
   obtain⟨v',hv',hl'⟩:=ih (d ++ [t]) ((c&&(monO t sides).isSome)&&(addO v q).isSome) w (accO (monO t sides) o) (by simpa using hd) gw hf (by
    intro h
    rw [Bool.and_eq_true]at h
    have h1:=h.1
    rw [Bool.and_eq_true]at h1
    rw [ho h1.1,hq h.1]
    exact hw h.1 h.2)
   have es:valF sides o (t::r)=valF sides (accO (monO t sides) o) r:=rfl
   rw [es]
   refine⟨v',hv',Evt.step (fun k n=>impl_valueOver_L122.eq_2 k _ _ _ _ _ _ _ n) ?_⟩
   rw [←hd]at hl' ⊢
   refine Evt.ctrue mid_lt (Evt.ctrue mid_ge (Evt.ctrue mid_lt ?_))
   rw [mid_get]
   refine Evt.bind (.const rfl) (Evt.bind (.const rfl) (Evt.inr (Evt.diag hin) (Evt.bind ha ?_)))
   simp only
   rw [len_next (by rw [hd];exact hp)]
   exact hl'
 obtain⟨v',hv',hl'⟩:=key p [] true zI (some zI) rfl zI_gd rfl (fun _=>rfl)
 simp only [List.length_nil]at hl'
 refine Evt.inr (Evt.diag hl') ?_
 unfold impl_reckoner_result valO
 cases hv:(valF sides (some zI) p).isSome with
 | true =>
  rw [hv' hv]
  exact Evt.bind (.const rfl) .pure
 | false =>
  have:valF sides (some zI) p=none:=by simpa using hv
  rw [this]
  exact Evt.bind (.const rfl) .pure
end Go.Ev.G

namespace Go.Ev.G
open Go Go.Ev
set_option maxRecDepth 100000

theorem find_loop{R:Type}{L:Nat→Nat→Int→Option (R ⊕ Unit)}{p:Nat→Int→Option Bool}{out:Nat→R}{N:Nat}{P:Nat→Bool}(hN:N≤1000)
  (hp:∀j:Nat,j<N→Evt (fun k _=>p k j) (P j))
  (hL:∀(k n i:Nat),i<N→L k (n+1) i=Option.bind (p k i) fun r=>bif r then some (.inl (out i))else L k n (IntKind.wrap .i64 ((i:Int)+1)))
  (hE:∀k n,L k (n+1) N=some (.inr ())):Evt (fun k n=>L k n 0) (match (List.range N).find? P with | some j => .inl (out j) | none => .inr ()):=by
 have key:∀(m j:Nat),j+m=N→Evt (fun k n=>L k n j) (match (List.range' j m).find? P with | some j => .inl (out j) | none => .inr ()):=by
  intro m
  induction m with
  | zero =>
   intro j hj
   have:j=N:=by omega
   subst this
   exact Evt.step (F:=fun _ _=>some (.inr ())) hE .pure
  | succ m ih =>
   intro j hj
   refine Evt.step (fun k n=>hL k n j (by omega)) ?_
   refine Evt.bind (hp j (by omega)) ?_
   rw [List.range'_succ,List.find?_cons]
   cases P j with
   | true=>exact Evt.ctrue rfl .pure
   | false =>
    refine Evt.cfalse rfl ?_
    rw [w64_next (by simp only [lenB];omega)]
    exact ih (j+1) (by omega)
 have:=key N 0 (by omega)
 rw [List.range_eq_range']
 exact this

def hV(m:Nat)(s:List (List Tm))(sides:List Iv)(r:Nat):Bool:=match valO (s.getD (r % m) []) sides with
 | some v=>sgI v==(if r<m then 1 else -1)
 | none=>false
structure Sd(s:List (List Tm))(sides:List Iv):Prop where
 sd:∀i∈sides,ivGd i
 ln:sides.length≤3
 tm:∀p∈s,∀t∈p,tmW t
 lp:∀p∈s,p.length<lenB
theorem getD_in{α:Type}{l:List α}{j:Nat}{z:α}(h:j<l.length):l.getD j z∈l:=by
 rw [List.getD_eq_getElem?_getD,List.getElem?_eq_getElem h]
 exact List.getElem_mem h
theorem beq_tail{m:Nat}{s:List (List Tm)}{sides:List Iv}{r:Nat}{v:Iv}(h:valO (s.getD (r % m) []) sides=some v){x:Int}(hx:x=if r<m then 1 else -1):hV m s sides r=(sgI v==x):=by
 unfold hV
 rw [h,hx]
theorem imHolds_ev{s:List (List Tm)}{sides:List Iv}(h:Sd s sides)(hl:s.length=2){r:Nat}(hr:r<4):Evt (fun k _=>spec_imHolds k s sides r) (hV 2 s sides r):=by
 refine Evt.eq (f:=fun k q=>_) ?_ (fun k q=>by rw [spec_imHolds])
 have e:Int.tmod (r:Int) 2=((r % 2:Nat):Int):=rfl
 rw [e]
 have hm:s.getD (r % 2) []∈s:=getD_in (by omega)
 refine Evt.ctrue (decide_eq_true (by omega)) (Evt.ctrue (decide_eq_true (by omega)) ?_)
 simp only [Int.toNat_natCast]
 refine Evt.bind (vaOver_ev (h.tm _ hm) h.sd (by have:=h.ln;simp only [lenB];omega) (h.lp _ hm)) ?_
 cases hv:valO (s.getD (r % 2) []) sides with
 | none =>
  have:hV 2 s sides r=false:=by unfold hV;rw [hv]
  rw [this]
  exact Evt.cfalse rfl .pure
 | some v =>
  refine Evt.ctrue rfl (Evt.bind (.const (ivSign_eq (valO_iv (h.tm _ hm) hv))) ?_)
  rw [beq_tail hv (x:=IntKind.wrap .i64 (1 - (IntKind.wrap .i64 (2*(IntKind.wrap .i64 (Int.tdiv (r:Int) 2)))))) (by
   have:r=0∨r=1∨r=2∨r=3:=by omega
   rcases this with rfl | rfl | rfl | rfl <;> decide)]
  exact .pure
theorem imReason_ev{s:List (List Tm)}{sides:List Iv}(h:Sd s sides)(hl:s.length=2):Evt (fun k _=>spec_imReason k s sides) (match (List.range 4).find? (hV 2 s sides)with | some j=>((j:Int),true) | none=>(0,false)):=by
 refine Evt.eq (f:=fun k q=>_) ?_ (fun k q=>by rw [spec_imReason])
 have:=find_loop (L:=fun k n i=>spec_imReason_L26 k n s sides i) (p:=fun k i=>spec_imHolds k s sides i) (out:=fun j=>((j:Int),true)) (N:=4) (P:=hV 2 s sides) (by omega) (fun j hj=>imHolds_ev h hl hj)
  (fun k n i hi=>by rw [spec_imReason_L26.eq_2,decide_eq_true (by omega)];rfl) (fun k n=>by rw [spec_imReason_L26.eq_2];rfl)
 cases hf:(List.range 4).find? (hV 2 s sides)with
 | none=>rw [hf]at this;exact Evt.inr (Evt.diag this) .pure
 | some j=>rw [hf]at this;exact Evt.inl (Evt.diag this) .pure

abbrev Ed:=Int×(Int×Int)×(Int×Int)×Int×Int
def sidesE(e:Ed):List Iv:=if e.1=0 then [sgl e.2.1,(minD e.2.2.1 e.2.2.2,maxD e.2.2.1 e.2.2.2)]else [(minD e.2.2.1 e.2.2.2,maxD e.2.2.1 e.2.2.2),sgl e.2.1]
structure EdOk(e:Ed):Prop where
 sd:e.1=0∨e.1=1
 a:gd e.2.1
 f:gd e.2.2.1
 t:gd e.2.2.2
theorem along_iv{a b:Int×Int}(ha:gd a)(hb:gd b):ivGd (minD a b,maxD a b):=⟨minD_gd ha hb,maxD_gd ha hb,by simp only [minD_sv,maxD_sv];omega⟩
theorem EdOk.sides{e:Ed}(h:EdOk e):∀i∈sidesE e,ivGd i:=by
 intro i hi
 have q:=along_iv h.f h.t
 have r:=sgl_iv h.a
 unfold sidesE at hi
 split at hi <;> (simp only [List.mem_cons,List.not_mem_nil,or_false]at hi;rcases hi with rfl | rfl <;> assumption)
theorem EdOk.len(e:Ed):(sidesE e).length=2:=by unfold sidesE;split <;> rfl
theorem Sd.edge{s:List (List Tm)}(h1:∀p∈s,∀t∈p,tmW t)(h2:∀p∈s,p.length<lenB){e:Ed}(h:EdOk e):Sd s (sidesE e):=⟨h.sides,by rw [EdOk.len];omega,h1,h2⟩
theorem imSides_ev{e:Ed}(h:EdOk e):Evt (fun k _=>spec_imSides k e) (sidesE e):=by
 refine Evt.eq (f:=fun k q=>_) ?_ (fun k q=>by rw [spec_imSides])
 have gf:=h.f
 have gt:=h.t
 refine Evt.bind (ivEnds_ev (x:=e.2.2.1) (xs := [e.2.2.2]) (by simp [gf,gt]) (by simp [lenB])) ?_
 have m1:∀l:Int×Int,minD l l=l:=fun l=>by unfold minD;split <;> rfl
 have m2:∀l:Int×Int,maxD l l=l:=fun l=>by unfold maxD;split <;> rfl
 have ends:foldE (e.2.2.1,e.2.2.1) [e.2.2.1,e.2.2.2]=(minD e.2.2.1 e.2.2.2,maxD e.2.2.1 e.2.2.2):=by simp only [foldE,m1,m2]
 rw [ends]
 unfold sidesE
 by_cases h0:e.1=0
 ·rw [if_pos h0]
  exact Evt.ctrue (by rw [h0];rfl) (Evt.bind (.const rfl) .pure)
 ·rw [if_neg h0]
  exact Evt.cfalse (by simpa using h0) (Evt.bind (.const rfl) .pure)
theorem edgeHolds_ev{s:List (List Tm)}{e:Ed}(h:Sd s (sidesE e))(he:EdOk e)(hl:s.length=2){r:Nat}(hr:r<4):Evt (fun k _=>impl_edgeHolds k s e r) (hV 2 s (sidesE e) r):=by
 refine Evt.eq (f:=fun k q=>_) ?_ (fun k q=>by rw [impl_edgeHolds])
 refine Evt.bind (.const rfl) (Evt.bind (lesser_ev he.f he.t) (Evt.bind (greater_ev2 he.f he.t) ?_))
 refine Evt.inr (y:=(s,(r:Int),sidesE e,())) ?_ ?_
 ·unfold sidesE
  rcases he.sd with h0 | h1
  ·rw [if_pos h0]
   exact Evt.cfalse (by rw [h0];rfl) .pure
  ·rw [if_neg (by omega)]
   exact Evt.ctrue (by rw [h1];rfl) (Evt.ctrue rfl (Evt.ctrue rfl (Evt.ctrue rfl (Evt.ctrue rfl .pure))))
 ·have em:Int.tmod (r:Int) 2=((r % 2:Nat):Int):=rfl
  simp only [em]
  have hm:s.getD (r % 2) []∈s:=getD_in (by omega)
  refine Evt.ctrue (decide_eq_true (by omega)) (Evt.ctrue (decide_eq_true (by omega)) ?_)
  simp only [Int.toNat_natCast]
  refine Evt.bind (valueOver_ev (h.tm _ hm) h.sd h.ln (h.lp _ hm)) ?_
  cases hv:valO (s.getD (r % 2) []) (sidesE e)with
  | none =>
   have:hV 2 s (sidesE e) r=false:=by unfold hV;rw [hv]
   rw [this]
   exact Evt.cfalse rfl .pure
  | some v =>
   refine Evt.ctrue rfl (Evt.bind (.const (signOf_eq v)) ?_)
   rw [beq_tail hv (x:=IntKind.wrap .i64 (1 - (IntKind.wrap .i64 ((IntKind.wrap .i64 (Int.tdiv (r:Int) 2))*2)))) (by
    have:r=0∨r=1∨r=2∨r=3:=by omega
    rcases this with rfl | rfl | rfl | rfl <;> decide)]
   exact .pure
def rsn(s:List (List Tm))(e:Ed):Option Nat:=(List.range 4).find? (hV 2 s (sidesE e))
theorem edgeReason_ev{s:List (List Tm)}{e:Ed}(h:Sd s (sidesE e))(he:EdOk e)(hl:s.length=2):Evt (fun k _=>impl_edgeReason k s e) (match rsn s e with | some j=>(j:Int) | none => -1):=by
 refine Evt.eq (f:=fun k q=>_) ?_ (fun k q=>by rw [impl_edgeReason])
 have:=find_loop (L:=fun k n i=>impl_edgeReason_L26 k n s e i) (p:=fun k i=>impl_edgeHolds k s e i) (out:=fun j=>(j:Int)) (N:=4) (P:=hV 2 s (sidesE e)) (by omega) (fun j hj=>edgeHolds_ev h he hl hj)
  (fun k n i hi=>by rw [impl_edgeReason_L26.eq_2,decide_eq_true (by omega)];rfl) (fun k n=>by rw [impl_edgeReason_L26.eq_2];rfl)
 unfold rsn
 cases hf:(List.range 4).find? (hV 2 s (sidesE e))with
 | none=>rw [hf]at this;exact Evt.inr (Evt.diag this) .pure
 | some j=>rw [hf]at this;exact Evt.inl (Evt.diag this) .pure
theorem imReason_ev2{s:List (List Tm)}{e:Ed}(h:Sd s (sidesE e))(hl:s.length=2):Evt (fun k _=>spec_imReason k s (sidesE e)) (match rsn s e with | some j=>((j:Int),true) | none=>(0,false)):=imReason_ev h hl

def twoV(m:List (List Tm)):Bool:=sysV m&&((m.length:Int)==2)
theorem isTwo_ev{m:List (List Tm)}(hb:m.length<lenB)(hm:∀r∈m,r.length<lenB):Evt (fun k _=>impl_isTwo k m) (twoV m):=by
 refine Evt.eq (f:=fun k q=>_) ?_ (fun k q=>by rw [impl_isTwo])
 unfold twoV
 cases h:((m.length:Int)==2)with
 | false=>rw [Bool.and_false];exact Evt.cfalse rfl .pure
 | true=>rw [Bool.and_true];exact Evt.ctrue rfl (Evt.bind (isSystem_ev hb hm) .pure)
theorem sysV_tm{m:List (List Tm)}(h:sysV m=true):∀p∈m,∀t∈p,tmW t:=by
 unfold sysV at h
 rw [Bool.and_eq_true,List.all_eq_true]at h
 intro p hp t ht
 have:=h.1 p hp
 rw [Bool.and_eq_true]at this
 exact tmGd_W (polyV_gd this.1 t ht)
theorem twoV_len{m:List (List Tm)}(h:twoV m=true):sysV m=true∧m.length=2:=by
 unfold twoV at h
 rw [Bool.and_eq_true]at h
 refine⟨h.1,?_⟩
 have:=h.2
 simp at this
 omega
end Go.Ev.G

