/- What the plain functions of the law compute, for all inputs within the sizes that the theorems name. -/
import Derived.Test.YtbbbcdmgjjechaaPFaceSigns1
import Derived.IntWalk
import Derived.Laws.Bits64
import Derived.KernelRfl
set_option linter.unusedVariables false
namespace Go.Ev
open Go

def Evt{α:Type}(f:Nat→Nat→Option α)(r:α):Prop:=∃k0,∀k n,k0≤k→k0≤n→f k n=some r

section
variable {α β γ δ : Type}

theorem Evt.const{o:Option α}{r:α}(h:o=some r):Evt (fun _ _=>o) r:=⟨0,fun _ _ _ _=>h⟩
theorem Evt.pure{r:α}:Evt (fun _ _=>some r) r:=⟨0,fun _ _ _ _=>rfl⟩
theorem Evt.bind{f:Nat→Nat→Option α}{g:Nat→Nat→α→Option β}{a:α}{r:β}(h:Evt f a)(h':Evt (fun k n=>g k n a) r):Evt (fun k n=>Option.bind (f k n) fun x=>g k n x) r:=by
 obtain⟨k1,h1⟩:=h
 obtain⟨k2,h2⟩:=h'
 refine⟨max k1 k2,fun k n hk hn => ?_⟩
 exact(congrArg (fun o=>Option.bind o fun x=>g k n x) (h1 k n (by omega) (by omega))).trans (h2 k n (by omega) (by omega))
theorem Evt.inr{R P A:Type}{f:Nat→Nat→Option (R ⊕ P)}{G:Nat→Nat→R→Option A}{K:Nat→Nat→P→Option A}{y:P}{r:A}(h:Evt f (.inr y))(h':Evt (fun k n=>K k n y) r):Evt (fun k n=>both (f k n) (G k n) (K k n)) r:=by
 obtain⟨k1,h1⟩:=h
 obtain⟨k2,h2⟩:=h'
 refine⟨max k1 k2,fun k n hk hn => ?_⟩
 exact(congrArg (fun o=>both o (G k n) (K k n)) (h1 k n (by omega) (by omega))).trans (h2 k n (by omega) (by omega))
theorem Evt.inl{R P A:Type}{f:Nat→Nat→Option (R ⊕ P)}{G:Nat→Nat→R→Option A}{K:Nat→Nat→P→Option A}{q:R}{r:A}(h:Evt f (.inl q))(h':Evt (fun k n=>G k n q) r):Evt (fun k n=>both (f k n) (G k n) (K k n)) r:=by
 obtain⟨k1,h1⟩:=h
 obtain⟨k2,h2⟩:=h'
 refine⟨max k1 k2,fun k n hk hn => ?_⟩
 exact(congrArg (fun o=>both o (G k n) (K k n)) (h1 k n (by omega) (by omega))).trans (h2 k n (by omega) (by omega))
theorem Evt.ctrue{c:Bool}{f g:Nat→Nat→Option α}{r:α}(hc:c=true)(h:Evt f r):Evt (fun k n=>bif c then f k n else g k n) r:=by subst hc;exact h
theorem Evt.cfalse{c:Bool}{f g:Nat→Nat→Option α}{r:α}(hc:c=false)(h:Evt g r):Evt (fun k n=>bif c then f k n else g k n) r:=by subst hc;exact h
theorem Evt.diag{f:Nat→Nat→Option α}{r:α}(h:Evt f r):Evt (fun k _=>f k k) r:=by
 obtain⟨k1,h1⟩:=h
 exact⟨k1,fun k n hk _=>h1 k k hk hk⟩
theorem Evt.step{L F:Nat→Nat→Option α}{r:α}(hL:∀k n,L k (n+1)=F k n)(h:Evt F r):Evt L r:=by
 obtain⟨k1,h1⟩:=h
 refine⟨k1+1,fun k n hk hn => ?_⟩
 obtain⟨m,rfl⟩:∃m,n=m+1:=⟨n - 1,by omega⟩
 rw [hL]
 exact h1 k m (by omega) (by omega)
theorem Evt.eq{f g:Nat→Nat→Option α}{r:α}(h:Evt f r)(e:∀k n,g k n=f k n):Evt g r:=by
 obtain⟨k1,h1⟩:=h
 exact⟨k1,fun k n hk hn=>by rw [e];exact h1 k n hk hn⟩
theorem Evt.get{f:Nat→Option α}{r:α}(h:Evt (fun k _=>f k) r):∃k,f k=some r:=by
 obtain⟨k1,h1⟩:=h
 exact⟨k1,h1 k1 k1 (Nat.le_refl _) (Nat.le_refl _)⟩
end

def lenB:Nat:=4611686018427387904
theorem w64{n:Int}(h0 : -9223372036854775808≤n)(h1:n≤9223372036854775807):IntKind.wrap .i64 n=n:=by rw [IntKind.wrap_i64];omega
theorem w64_next{m:Nat}(h:m<lenB):IntKind.wrap .i64 ((m:Int)+1)=((m+1:Nat):Int):=by
 simp only [lenB]at h
 rw [w64] <;> omega
theorem wu64{n:Int}(h0:0≤n)(h1:n≤18446744073709551615):IntKind.wrap .u64 n=n:=by
 rw [IntKind.wrap_u64];omega

section
variable {α : Type}
theorem mid_lt{d r:List α}{e:α}:decide ((d.length:Int)<((d++e::r).length:Int))=true:=by simp;omega
theorem mid_ge{m:Nat}:decide ((0:Int)≤(m:Int))=true:=by simp
theorem mid_get{d r:List α}{e z:α}:(d++e::r).getD (Int.toNat (d.length:Int)) z=e:=by simp
theorem mid_set{d r:List α}{e v:α}:(d++e::r).set (Int.toNat (d.length:Int)) v=d++v::r:=by simp
theorem mid_end{d:List α}:decide ((d.length:Int)<(d.length:Int))=false:=by simp
end
end Go.Ev

namespace Go.Ev
open Go

def roomN(n:Nat):Nat:=if n % 6=5 then 0 else if n % 3=0 then 1 else n

def toV{β γ:Type}(f:β→γ)(v:γ)(a:List β)(b:Bool):List γ×List γ:=if b=true∧a = []then([],[])else(a.map f,List.replicate (roomN a.length) v)

section
variable {β γ R : Type}

theorem to_loop{dβ:β}{L:Nat→Nat→List β→List γ→Int→Option (R ⊕ (List β×List γ×Unit))}{F:Nat→β→Option γ}{f:β→γ}
  (hL:∀k n x0 x5 x6,L k (n+1) x0 x5 x6=(bif (decide (x6<(x0.length:Int)))then(bif (decide (0≤x6))then(bif (decide (x6<(x0.length:Int)))then(Option.bind (F k (x0.getD (Int.toNat x6) dβ)) fun r3=>(bif (decide (0≤x6))then(bif (decide (x6<(x5.length:Int)))then(L k n x0 (x5.set (Int.toNat x6) r3) (IntKind.wrap .i64 (x6+1)))else none)else none))else none)else none)else some (Sum.inr (x0,x5,())))) :
  ∀(r d:List β) (d' r':List γ),d'.length=d.length→r.length≤r'.length→(d++r).length<lenB→(∀x∈r,Evt (fun k _=>F k x) (f x)) →
   Evt (fun k n=>L k n (d++r) (d'++r') d.length) (.inr (d++r,d'++r.map f++r'.drop r.length,()))
 | [],d,d',r',h1,h2,h3,h4=>by
  refine Evt.step (fun k n=>hL k n _ _ _) ?_
  simp only [List.append_nil,mid_end,List.map_nil,List.length_nil,List.drop_zero]
  exact Evt.cfalse rfl .pure
 | x::r,d,d',[],h1,h2,h3,h4=>by simp at h2
 | x::r,d,d',y::r',h1,h2,h3,h4=>by
  refine Evt.step (fun k n=>hL k n _ _ _) ?_
  refine Evt.ctrue mid_lt (Evt.ctrue mid_ge (Evt.ctrue mid_lt ?_))
  rw [mid_get]
  refine Evt.bind (h4 x (by simp)) (Evt.ctrue mid_ge (Evt.ctrue (by rw [←h1];exact mid_lt) ?_))
  rw [←h1,mid_set,w64_next (by simp at h3;omega),h1]
  have:=to_loop hL r (d ++ [x]) (d' ++ [f x]) r' (by simp [h1]) (by simpa using h2) (by simpa using h3) (fun z hz=>h4 z (by simp [hz]))
  simpa using this

theorem fill_loop{x0:β}{v:γ}{L:Nat→Nat→List γ→Int→Option (R ⊕ (β×List γ×Unit))}
  (hL:∀k n x5 x7,L k (n+1) x5 x7=(bif (decide (x7<(x5.length:Int)))then(bif (decide (0≤x7))then(bif (decide (x7<(x5.length:Int)))then(L k n (x5.set (Int.toNat x7) v) (IntKind.wrap .i64 (x7+1)))else none)else none)else some (Sum.inr (x0,x5,())))) :
  ∀(r d:List γ),(d++r).length<lenB→Evt (fun k n=>L k n (d++r) d.length) (.inr (x0,d++List.replicate r.length v,()))
 | [],d,h=>by
  refine Evt.step (fun k n=>hL k n _ _) ?_
  simp only [List.append_nil,mid_end,List.length_nil,List.replicate_zero]
  exact Evt.cfalse rfl .pure
 | x::r,d,h=>by
  refine Evt.step (fun k n=>hL k n _ _) ?_
  refine Evt.ctrue mid_lt (Evt.ctrue mid_ge (Evt.ctrue mid_lt ?_))
  rw [mid_set,w64_next (by simp at h;omega)]
  have:=fill_loop hL r (d ++ [v]) (by simpa using h)
  simpa [List.replicate_succ] using this

theorem to_all{dβ:β}{dγ v:γ}{T:Nat→Option (List γ×List γ)}{room:Int→Option Int}{F:Nat→β→Option γ}{f:β→γ}{a:List β}{b:Bool}
  {L1:Nat→Nat→List β→List γ→Int→Option ((List γ×List γ) ⊕ (List β×List γ×Unit))} {L2:Nat→Nat→List β→List γ→Int→Option ((List γ×List γ) ⊕ (List β×List γ×Unit))}
  (hroom:∀n:Nat,room n=some (roomN n:Int))
  (hL1:∀k n x0 x5 x6,L1 k (n+1) x0 x5 x6=(bif (decide (x6<(x0.length:Int)))then(bif (decide (0≤x6))then(bif (decide (x6<(x0.length:Int)))then(Option.bind (F k (x0.getD (Int.toNat x6) dβ)) fun r3=>(bif (decide (0≤x6))then(bif (decide (x6<(x5.length:Int)))then(L1 k n x0 (x5.set (Int.toNat x6) r3) (IntKind.wrap .i64 (x6+1)))else none)else none))else none)else none)else some (Sum.inr (x0,x5,()))))
  (hL2:∀k n x0 x5 x7,L2 k (n+1) x0 x5 x7=(bif (decide (x7<(x5.length:Int)))then(bif (decide (0≤x7))then(bif (decide (x7<(x5.length:Int)))then(L2 k n x0 (x5.set (Int.toNat x7) v) (IntKind.wrap .i64 (x7+1)))else none)else none)else some (Sum.inr (x0,x5,()))))
  (hT:∀k,T k=(bif b&&((a.length:Int)==0)then some ([],[])else(Option.bind (room (a.length:Int)) fun r2=>(bif (decide (0≤(IntKind.wrap .i64 ((a.length:Int)+r2))))then(bif (decide ((Int.toNat (IntKind.wrap .i64 ((a.length:Int)+r2)))<274877906944))then(both (R:=List γ×List γ) (P:=List β×List γ×Unit) (L1 k k a (List.replicate (Int.toNat (IntKind.wrap .i64 ((a.length:Int)+r2))) dγ) 0) (fun q5=>some q5) (fun y4=>(both (R:=List γ×List γ) (P:=List β×List γ×Unit) (L2 k k y4.1 y4.2.1 (y4.1.length:Int)) (fun q8=>some q8) (fun y7=>(bif (decide (0≤(y7.1.length:Int)))then(bif (decide ((y7.1.length:Int)≤(y7.2.1.length:Int)))then some ((y7.2.1.take (Int.toNat (y7.1.length:Int))),(y7.2.1.drop (Int.toNat (y7.1.length:Int))))else none)else none)))))else none)else none))))
  (ha:a.length≤1000000) (hF:∀x∈a,Evt (fun k _=>F k x) (f x)):Evt (fun k _=>T k) (toV f v a b):=by
 have hr:roomN a.length≤a.length+1:=by unfold roomN;split <;> (try split) <;> omega
 refine Evt.eq ?_ (fun k n=>hT k)
 by_cases hb:b=true∧a = []
 ·refine Evt.ctrue (by simp [hb.1,hb.2]) ?_
  rw [toV,if_pos hb]
  exact .pure
 ·refine Evt.cfalse ?_ ?_
  ·cases b with
   | false=>rfl
   | true =>
    have:a ≠ []:=fun h=>hb ⟨rfl,h⟩
    simp [this]
  rw [toV,if_neg hb]
  refine Evt.bind (.const (hroom _)) ?_
  have hw:IntKind.wrap .i64 ((a.length:Int)+(roomN a.length:Int))=((a.length+roomN a.length:Nat):Int):=by rw [w64] <;> omega
  rw [hw]
  refine Evt.ctrue mid_ge (Evt.ctrue (by simp <;> omega) ?_)
  have h1:=to_loop hL1 a [] [] (List.replicate (Int.toNat ((a.length+roomN a.length:Nat):Int)) dγ) rfl (by simp <;> omega) (by simp [lenB];omega) hF
  simp only [List.nil_append,List.length_nil]at h1
  refine Evt.inr (Evt.diag h1) ?_
  have h2:=fill_loop (x0:=a) (L:=fun k n=>L2 k n a) (fun k n x5 x7=>hL2 k n a x5 x7) (List.drop a.length (List.replicate (Int.toNat ((a.length+roomN a.length:Nat):Int)) dγ)) (a.map f) (by simp [lenB];omega)
  simp only [List.length_map]at h2
  refine Evt.inr (Evt.diag h2) ?_
  have e:(((a.length+roomN a.length:Nat):Int)).toNat=a.length+roomN a.length:=by omega
  rw [e]
  refine Evt.ctrue mid_ge (Evt.ctrue (by simp <;> omega) ?_)
  refine Evt.const ?_
  simp

theorem eq_loop{d0:γ}{Q:Nat→γ→γ→Option Bool}{L:Nat→Nat→List γ→List γ→Int→Option (Bool ⊕ Unit)}
  (hL:∀k n x0 x1 x5,L k (n+1) x0 x1 x5=(bif (decide (x5<(x0.length:Int)))then(bif (decide (0≤x5))then(bif (decide (x5<(x0.length:Int)))then(bif (decide (0≤x5))then(bif (decide (x5<(x1.length:Int)))then(Option.bind (Q k (x0.getD (Int.toNat x5) d0) (x1.getD (Int.toNat x5) d0)) fun r1=>(bif (!r1)then some (Sum.inl false)else(L k n x0 x1 (IntKind.wrap .i64 (x5+1)))))else none)else none)else none)else none)else some (Sum.inr ()))) :
  ∀(r d:List γ),(d++r).length<lenB→(∀x∈r,Evt (fun k _=>Q k x x) true)→Evt (fun k n=>L k n (d++r) (d++r) d.length) (.inr ())
 | [],d,h,_=>by
  refine Evt.step (fun k n=>hL k n _ _ _) ?_
  simp only [List.append_nil,mid_end]
  exact Evt.cfalse rfl .pure
 | x::r,d,h,hQ=>by
  refine Evt.step (fun k n=>hL k n _ _ _) ?_
  refine Evt.ctrue mid_lt (Evt.ctrue mid_ge (Evt.ctrue mid_lt (Evt.ctrue mid_ge (Evt.ctrue mid_lt ?_))))
  rw [mid_get]
  refine Evt.bind (hQ x (by simp)) (Evt.cfalse rfl ?_)
  rw [w64_next (by simp at h;omega)]
  have:=eq_loop hL r (d ++ [x]) (by simpa using h) (fun z hz=>hQ z (by simp [hz]))
  simpa using this

theorem eq_all{d0:γ}{Q:Nat→γ→γ→Option Bool}{L:Nat→Nat→List γ→List γ→Int→Option (Bool ⊕ Unit)}{E:Nat→List γ→List γ→Option Bool}
  (hL:∀k n x0 x1 x5,L k (n+1) x0 x1 x5=(bif (decide (x5<(x0.length:Int)))then(bif (decide (0≤x5))then(bif (decide (x5<(x0.length:Int)))then(bif (decide (0≤x5))then(bif (decide (x5<(x1.length:Int)))then(Option.bind (Q k (x0.getD (Int.toNat x5) d0) (x1.getD (Int.toNat x5) d0)) fun r1=>(bif (!r1)then some (Sum.inl false)else(L k n x0 x1 (IntKind.wrap .i64 (x5+1)))))else none)else none)else none)else none)else some (Sum.inr ())))
  (hE:∀k x0 x1,E k x0 x1=(bif ((x0.length:Int) != (x1.length:Int))then some false else(both (R:=Bool) (P:=Unit) (L k k x0 x1 0) (fun q3=>some q3) (fun _=>some true))))
  {x:List γ} (h:x.length<lenB) (hQ:∀z∈x,Evt (fun k _=>Q k z z) true):Evt (fun k _=>E k x x) true:=by
 refine Evt.eq ?_ (fun k n=>hE k x x)
 refine Evt.cfalse (by simp) ?_
 have:=eq_loop hL x [] (by simpa using h) hQ
 simp only [List.nil_append,List.length_nil]at this
 exact Evt.inr (Evt.diag this) .pure

def MarkOk(mark:Nat→γ→Int→Option (Int×γ))(held:Nat→γ→Int→Option Int)(w:γ→Nat):Prop :=
 ∀x (a:Nat),a+w x<lenB→∃y,Evt (fun k _=>mark k x a) (((a+w x:Nat):Int),y)∧Evt (fun k _=>held k y a) ((a+w x:Nat):Int)∧w y=w x

theorem mark_loop{M:Nat→Nat→List γ→Int→Int→Option ((Int×List γ) ⊕ (Int×List γ×Unit))}{H:Nat→Nat→List γ→Int→Int→Option (Int ⊕ (Int×Unit))}{mv:Nat→γ}{c:Nat}
  (hM:∀(k n:Nat) (d r:List γ) (e:γ) (a:Nat),a+c<lenB→(d++e::r).length<lenB→M k (n+1) (d++e::r) a d.length=M k n (d++mv a::r) ((a+c:Nat):Int) ((d.length+1:Nat):Int))
  (hM0:∀(k n:Nat) (d:List γ) (a:Int),M k (n+1) d a d.length=some (.inr (a,d,())))
  (hH:∀(k n:Nat) (d r:List γ) (a:Nat),a+c<lenB→(d++mv a::r).length<lenB→H k (n+1) (d++mv a::r) a d.length=H k n (d++mv a::r) ((a+c:Nat):Int) ((d.length+1:Nat):Int))
  (hH0:∀(k n:Nat) (d:List γ) (a:Int),H k (n+1) d a d.length=some (.inr (a,()))) :
  ∀(r d:List γ) (a:Nat),a+c*r.length<lenB→(d++r).length<lenB→∃y:List γ,y.length=r.length∧Evt (fun k n=>M k n (d++r) a d.length) (.inr (((a+c*r.length:Nat):Int),d++y,())) ∧
   ∀d2:List γ,(d2++y).length<lenB→Evt (fun k n=>H k n (d2++y) a d2.length) (.inr (((a+c*r.length:Nat):Int),()))
 | [],d,a,_,_=>by
  refine⟨[],rfl,?_,fun d2 _ => ?_⟩
  ·exact Evt.step (F:=fun _ _=>some (.inr (((a+c*([]:List γ).length:Nat):Int),d ++ [],()))) (fun k n=>by simpa using hM0 k n d a) .pure
  ·exact Evt.step (F:=fun _ _=>some (.inr (((a+c*([]:List γ).length:Nat):Int),()))) (fun k n=>by simpa using hH0 k n d2 a) .pure
 | e::r,d,a,ha,hd=>by
  have hc:a+c<lenB:=by
   have:c≤c*(e::r).length:=Nat.le_mul_of_pos_right _ (by simp)
   omega
  have hs:a+c+c*r.length=a+c*(e::r).length:=by simp [Nat.mul_add];omega
  obtain⟨y,h1,h2,h3⟩:=mark_loop hM hM0 hH hH0 r (d ++ [mv a]) (a+c) (by omega) (by simpa using hd)
  refine⟨mv a::y,by simp [h1],Evt.step (fun k n=>hM k n d r e a hc hd) ?_,fun d2 hd2=>Evt.step (fun k n=>hH k n d2 y a hc hd2) ?_⟩
  ·rw [hs]at h2
   simpa using h2
  ·have:=h3 (d2 ++ [mv a]) (by simpa using hd2)
   rw [hs]at this
   simpa using this

theorem mark_all{M:Nat→Nat→List γ→Int→Int→Option ((Int×List γ) ⊕ (Int×List γ×Unit))}{H:Nat→Nat→List γ→Int→Int→Option (Int ⊕ (Int×Unit))}{mark:Nat→List γ→Int→Option (Int×List γ)}{held:Nat→List γ→Int→Option Int}{mv:Nat→γ}{c:Nat}
  (hc:0<c)
  (hM:∀(k n:Nat) (d r:List γ) (e:γ) (a:Nat),a+c<lenB→(d++e::r).length<lenB→M k (n+1) (d++e::r) a d.length=M k n (d++mv a::r) ((a+c:Nat):Int) ((d.length+1:Nat):Int))
  (hM0:∀(k n:Nat) (d:List γ) (a:Int),M k (n+1) d a d.length=some (.inr (a,d,())))
  (hH:∀(k n:Nat) (d r:List γ) (a:Nat),a+c<lenB→(d++mv a::r).length<lenB→H k (n+1) (d++mv a::r) a d.length=H k n (d++mv a::r) ((a+c:Nat):Int) ((d.length+1:Nat):Int))
  (hH0:∀(k n:Nat) (d:List γ) (a:Int),H k (n+1) d a d.length=some (.inr (a,())))
  (hmark:∀k x a,mark k x a=both (R:=Int×List γ) (P:=Int×List γ×Unit) (M k k x a 0) (fun q=>some q) (fun y=>some (y.1,y.2.1)))
  (hheld:∀k x a,held k x a=both (R:=Int) (P:=Int×Unit) (H k k x a 0) (fun q=>some q) (fun y=>some y.1)) :
  MarkOk mark held (fun x=>c*x.length):=by
 intro x a ha
 simp only at ha
 have hx:x.length<lenB:=Nat.lt_of_le_of_lt (Nat.le_mul_of_pos_left _ hc) (by omega)
 obtain⟨y,h1,h2,h3⟩:=mark_loop hM hM0 hH hH0 x [] a ha (by simpa using hx)
 refine⟨y,Evt.eq ?_ (fun k _=>hmark k x a),Evt.eq ?_ (fun k _=>hheld k y a),by simp [h1]⟩
 ·simp only [List.nil_append,List.length_nil]at h2
  exact Evt.inr (Evt.diag h2) .pure
 ·have:=h3 [] (by simp [h1];exact hx)
  simp only [List.nil_append,List.length_nil]at this
  exact Evt.inr (Evt.diag this) .pure

theorem mark_rows{d0:γ}{M:Nat→Nat→List γ→Int→Int→Option ((Int×List γ) ⊕ (Int×List γ×Unit))}{H:Nat→Nat→List γ→Int→Int→Option (Int ⊕ (Int×Unit))}{mark:Nat→γ→Int→Option (Int×γ)}{held:Nat→γ→Int→Option Int}{w:γ→Nat}(hw:MarkOk mark held w)
  (hM:∀(k n:Nat) (x:List γ) (a i:Int),M k (n+1) x a i=(bif (decide (i<(x.length:Int)))then(bif (decide (0≤i))then(bif (decide (i<(x.length:Int)))then(Option.bind (mark k (x.getD (Int.toNat i) d0) a) fun r=>M k n (x.set (Int.toNat i) r.2) r.1 (IntKind.wrap .i64 (i+1)))else none)else none)else some (.inr (a,x,()))))
  (hH:∀(k n:Nat) (x:List γ) (a i:Int),H k (n+1) x a i=(bif (decide (i<(x.length:Int)))then(bif (decide (0≤i))then(bif (decide (i<(x.length:Int)))then(Option.bind (held k (x.getD (Int.toNat i) d0) a) fun r=>bif (decide (r<0))then some (.inl (-1))else H k n x r (IntKind.wrap .i64 (i+1)))else none)else none)else some (.inr (a,())))) :
  ∀(r d:List γ) (a:Nat),a+(r.map w).sum<lenB→(d++r).length<lenB→∃y:List γ,y.length=r.length∧y.map w=r.map w∧Evt (fun k n=>M k n (d++r) a d.length) (.inr (((a+(r.map w).sum:Nat):Int),d++y,())) ∧
   ∀d2:List γ,(d2++y).length<lenB→Evt (fun k n=>H k n (d2++y) a d2.length) (.inr (((a+(r.map w).sum:Nat):Int),()))
 | [],d,a,_,_=>by
  refine⟨[],rfl,rfl,Evt.step (fun k n=>hM k n _ _ _) ?_,fun d2 _=>Evt.step (fun k n=>hH k n _ _ _) ?_⟩
  ·refine Evt.cfalse (by simp) ?_
   simpa using Evt.pure
  ·refine Evt.cfalse (by simp) ?_
   simpa using Evt.pure
 | e::r,d,a,ha,hd=>by
  simp only [List.map_cons,List.sum_cons]at ha
  obtain⟨y0,m1,m2,m3⟩:=hw e a (by omega)
  obtain⟨y,h1,h1',h2,h3⟩:=mark_rows hw hM hH r (d ++ [y0]) (a+w e) (by omega) (by simpa using hd)
  have hs:a+w e+(r.map w).sum=a+((e::r).map w).sum:=by simp <;> omega
  refine⟨y0::y,by simp [h1],by simp [h1',m3],Evt.step (fun k n=>hM k n _ _ _) ?_,fun d2 hd2=>Evt.step (fun k n=>hH k n _ _ _) ?_⟩
  ·refine Evt.ctrue mid_lt (Evt.ctrue mid_ge (Evt.ctrue mid_lt ?_))
   rw [mid_get]
   refine Evt.bind m1 ?_
   rw [mid_set,w64_next (by simp at hd;omega)]
   rw [hs]at h2
   simpa using h2
  ·refine Evt.ctrue mid_lt (Evt.ctrue mid_ge (Evt.ctrue mid_lt ?_))
   rw [mid_get]
   refine Evt.bind m2 (Evt.cfalse (by simp <;> omega) ?_)
   rw [w64_next (by simp at hd2;omega)]
   have:=h3 (d2 ++ [y0]) (by simpa using hd2)
   rw [hs]at this
   simpa using this

theorem mark_rows_all{d0:γ}{M:Nat→Nat→List γ→Int→Int→Option ((Int×List γ) ⊕ (Int×List γ×Unit))}{H:Nat→Nat→List γ→Int→Int→Option (Int ⊕ (Int×Unit))}{mark:Nat→γ→Int→Option (Int×γ)}{held:Nat→γ→Int→Option Int}{w:γ→Nat}(hw:MarkOk mark held w)
  {marks:Nat→List γ→Int→Option (Int×List γ)} {helds:Nat→List γ→Int→Option Int}
  (hM:∀(k n:Nat) (x:List γ) (a i:Int),M k (n+1) x a i=(bif (decide (i<(x.length:Int)))then(bif (decide (0≤i))then(bif (decide (i<(x.length:Int)))then(Option.bind (mark k (x.getD (Int.toNat i) d0) a) fun r=>M k n (x.set (Int.toNat i) r.2) r.1 (IntKind.wrap .i64 (i+1)))else none)else none)else some (.inr (a,x,()))))
  (hH:∀(k n:Nat) (x:List γ) (a i:Int),H k (n+1) x a i=(bif (decide (i<(x.length:Int)))then(bif (decide (0≤i))then(bif (decide (i<(x.length:Int)))then(Option.bind (held k (x.getD (Int.toNat i) d0) a) fun r=>bif (decide (r<0))then some (.inl (-1))else H k n x r (IntKind.wrap .i64 (i+1)))else none)else none)else some (.inr (a,()))))
  (hmark:∀k x a,marks k x a=both (R:=Int×List γ) (P:=Int×List γ×Unit) (M k k x a 0) (fun q=>some q) (fun y=>some (y.1,y.2.1)))
  (hheld:∀k x a,helds k x a=both (R:=Int) (P:=Int×Unit) (H k k x a 0) (fun q=>some q) (fun y=>some y.1)) {x:List γ} (hx:x.length<lenB) {a:Nat} (ha:a+(x.map w).sum<lenB) :
  ∃y,Evt (fun k _=>marks k x a) (((a+(x.map w).sum:Nat):Int),y)∧Evt (fun k _=>helds k y a) ((a+(x.map w).sum:Nat):Int):=by
 obtain⟨y,h1,_,h2,h3⟩:=mark_rows hw hM hH x [] a ha (by simpa using hx)
 refine⟨y,Evt.eq ?_ (fun k _=>hmark k x a),Evt.eq ?_ (fun k _=>hheld k y a)⟩
 ·simp only [List.nil_append,List.length_nil]at h2
  exact Evt.inr (Evt.diag h2) .pure
 ·have:=h3 [] (by simp [h1];exact hx)
  simp only [List.nil_append,List.length_nil]at this
  exact Evt.inr (Evt.diag this) .pure

theorem sz_rows{d0:List γ}{S:Nat→Nat→List (List γ)→Int→Int→Option (Int ⊕ (Int×Unit))}{sz:List γ→Int→Option Int}
  (hsz:∀x a,sz x a=(bif (decide ((IntKind.wrap .i64 (a - (x.length:Int)))<0))then some (-1)else some (IntKind.wrap .i64 (a - (x.length:Int)))))
  (hS:∀(k n:Nat) (x:List (List γ)) (a i:Int),S k (n+1) x a i=(bif (decide (i<(x.length:Int)))then(bif (decide (0≤i))then(bif (decide (i<(x.length:Int)))then(Option.bind (sz (x.getD (Int.toNat i) d0) a) fun r=>bif (decide (r<0))then some (.inl (-1))else S k n x r (IntKind.wrap .i64 (i+1)))else none)else none)else some (.inr (a,())))) :
  ∀(r d:List (List γ)) (a:Nat),a≤1000000→(d++r).length<lenB→(∀x∈r,x.length≤maxLen)→Evt (fun k n=>S k n (d++r) a d.length) (if (r.map List.length).sum≤a then .inr (((a - (r.map List.length).sum:Nat):Int),())else .inl (-1))
 | [],d,a,_,_,_=>by
  refine Evt.step (fun k n=>hS k n _ _ _) (Evt.cfalse (by simp) ?_)
  simpa using Evt.pure
 | e::r,d,a,ha,hd,hm=>by
  refine Evt.step (fun k n=>hS k n _ _ _) ?_
  refine Evt.ctrue mid_lt (Evt.ctrue mid_ge (Evt.ctrue mid_lt ?_))
  rw [mid_get]
  have hme:=hm e (by simp)
  simp only [maxLen]at hme
  have hw:IntKind.wrap .i64 ((a:Int) - (e.length:Int))=(a:Int) - (e.length:Int):=by rw [w64] <;> omega
  by_cases hle:e.length≤a
  ·have h1:sz e a=some (((a - e.length:Nat):Int)):=by
    rw [hsz,hw]
    have:decide ((a:Int) - (e.length:Int)<0)=false:=by simp <;> omega
    rw [this]
    simp only [cond_false]
    congr 1
    omega
   refine Evt.bind (.const h1) (Evt.cfalse (by simp <;> omega) ?_)
   rw [w64_next (by simp at hd;omega)]
   have:=sz_rows hsz hS r (d ++ [e]) (a - e.length) (by omega) (by simpa using hd) (fun x hx=>hm x (by simp [hx]))
   simp only [List.map_cons,List.sum_cons]
   have hiff:((r.map List.length).sum≤a - e.length)↔(e.length+(r.map List.length).sum≤a):=by omega
   rw [show a - (e.length+(r.map List.length).sum)=a - e.length - (r.map List.length).sum by omega]
   simp only [hiff]at this
   simpa using this
  ·have h1:sz e a=some (-1):=by
    rw [hsz,hw]
    have:decide ((a:Int) - (e.length:Int)<0)=true:=by simp <;> omega
    rw [this]
    rfl
   refine Evt.bind (.const h1) (Evt.ctrue rfl ?_)
   rw [if_neg (by simp <;> omega)]
   exact .pure

theorem sz_one{sz:List γ→Int→Option Int}
  (hsz:∀x a,sz x a=(bif (decide ((IntKind.wrap .i64 (a - (x.length:Int)))<0))then some (-1)else some (IntKind.wrap .i64 (a - (x.length:Int))))) {x:List γ} (hx:x.length≤maxLen) {a:Nat} (ha:a≤1000000) :
  sz x a=some (if x.length≤a then((a - x.length:Nat):Int)else -1):=by
 simp only [maxLen]at hx
 have hw:IntKind.wrap .i64 ((a:Int) - (x.length:Int))=(a:Int) - (x.length:Int):=by rw [w64] <;> omega
 rw [hsz,hw]
 by_cases h:x.length≤a
 ·have:decide ((a:Int) - (x.length:Int)<0)=false:=by simp <;> omega
  rw [this,if_pos h]
  simp only [cond_false]
  congr 1
  omega
 ·have:decide ((a:Int) - (x.length:Int)<0)=true:=by simp <;> omega
  rw [this,if_neg h]
  rfl

theorem sz_all{d0:List γ}{S:Nat→Nat→List (List γ)→Int→Int→Option (Int ⊕ (Int×Unit))}{sz:List γ→Int→Option Int}{szs:Nat→List (List γ)→Int→Option Int}
  (hsz:∀x a,sz x a=(bif (decide ((IntKind.wrap .i64 (a - (x.length:Int)))<0))then some (-1)else some (IntKind.wrap .i64 (a - (x.length:Int)))))
  (hS:∀(k n:Nat) (x:List (List γ)) (a i:Int),S k (n+1) x a i=(bif (decide (i<(x.length:Int)))then(bif (decide (0≤i))then(bif (decide (i<(x.length:Int)))then(Option.bind (sz (x.getD (Int.toNat i) d0) a) fun r=>bif (decide (r<0))then some (.inl (-1))else S k n x r (IntKind.wrap .i64 (i+1)))else none)else none)else some (.inr (a,()))))
  (hszs:∀k x a,szs k x a=(bif (decide ((IntKind.wrap .i64 (a - (x.length:Int)))<0))then some (-1)else(both (R:=Int) (P:=Int×Unit) (S k k x (IntKind.wrap .i64 (a - (x.length:Int))) 0) (fun q4=>some q4) (fun y3=>some y3.1))))
  {x:List (List γ)} (hx:x.length≤maxLen) (hm:∀y∈x,y.length≤maxLen) {a:Nat} (ha:a≤1000000) :
  Evt (fun k _=>szs k x a) (if x.length+(x.map List.length).sum≤a then((a - (x.length+(x.map List.length).sum):Nat):Int)else -1):=by
 simp only [maxLen]at hx
 have hw:IntKind.wrap .i64 ((a:Int) - (x.length:Int))=(a:Int) - (x.length:Int):=by rw [w64] <;> omega
 refine Evt.eq ?_ (fun k _=>hszs k x a)
 rw [hw]
 by_cases h:x.length≤a
 ·refine Evt.cfalse (by simp <;> omega) ?_
  have e:(a:Int) - (x.length:Int)=((a - x.length:Nat):Int):=by omega
  rw [e]
  have:=sz_rows hsz hS x [] (a - x.length) (by omega) (by simp [lenB];omega) hm
  simp only [List.nil_append,List.length_nil]at this
  by_cases h2:(x.map List.length).sum≤a - x.length
  ·rw [if_pos h2]at this
   rw [if_pos (by omega)]
   refine Evt.inr (Evt.diag this) (.const ?_)
   simp only
   congr 2
   omega
  ·rw [if_neg h2]at this
   rw [if_neg (by omega)]
   exact Evt.inl (Evt.diag this) .pure
 ·rw [if_neg (by omega)]
  exact Evt.ctrue (by simp <;> omega) .pure
end
end Go.Ev

namespace Go.Ev
open Go

section
variable {α β : Type}

theorem Evt.rng0{d:List α}{F G:Nat→Nat→Option β}{res:β}(h:Evt G res):Evt (fun k n=>bif (decide ((d.length:Int)<(d.length:Int)))then F k n else G k n) res:=Evt.cfalse mid_end h

theorem len_next{d r:List α}{e:α}(h:(d++e::r).length<lenB):IntKind.wrap .i64 ((d.length:Int)+1)=((d ++ [e]).length:Int):=by
 rw [w64_next (by simp at h;omega)];simp

end
end Go.Ev

namespace Go.Ev.G
open Go Go.Ev
set_option maxRecDepth 100000

theorem room_eq(n:Nat):laws_roomBehind n=some (roomN n:Int):=by
 unfold laws_roomBehind roomN
 have h6:Int.tmod (n:Int) 6=((n % 6:Nat):Int):=rfl
 have h3:Int.tmod (n:Int) 3=((n % 3:Nat):Int):=rfl
 rw [h6,h3]
 by_cases h:n % 6=5
 ·have e:((((n % 6:Nat):Int))==5)=true:=by rw [h];rfl
  rw [e,if_pos h];rfl
 ·have e:((((n % 6:Nat):Int))==5)=false:=by
   rw [beq_eq_false_iff_ne];omega
  rw [e,if_neg h]
  by_cases h':n % 3=0
  ·have e:((((n % 3:Nat):Int))==0)=true:=by rw [h'];rfl
   rw [e,if_pos h'];rfl
  ·have e:((((n % 3:Nat):Int))==0)=false:=by
    rw [beq_eq_false_iff_ne];omega
   rw [e,if_neg h'];rfl

theorem room_le(n:Nat):roomN n≤n+1:=by unfold roomN;split <;> (try split) <;> omega

def fI:Int := -7000000000000000101
def fT:Int×Int×Int×Int:=(fI,fI,fI,fI)

theorem toIntS_ev{a:List Int}{b:Bool}(ha:a.length≤1000000):Evt (fun k _=>laws_toIntS k a b) (toV id fI a b) :=
 to_all (dβ:=0) (dγ:=0) (F:=fun _ x=>some x) (L1:=laws_toIntS_L122) (L2:=laws_toIntS_L250) room_eq (fun _ _ _ _ _=>rfl) (fun _ _ _ _ _=>rfl)
  (fun k=>by unfold laws_toIntS;cases b <;> cases a <;> rfl) ha (fun _ _ => .pure)

theorem toTermS_ev{a:List (Int×Int×Int×Int)}{b:Bool}(ha:a.length≤1000000):Evt (fun k _=>laws_toTermS k a b) (toV id fT a b) :=
 to_all (dβ:=(0,0,0,0)) (dγ:=(0,0,0,0)) (F:=fun _ x=>laws_toTerm x) (L1:=laws_toTermS_L122) (L2:=laws_toTermS_L250) room_eq (fun _ _ _ _ _=>rfl) (fun _ _ _ _ _=>rfl)
  (fun k=>by unfold laws_toTermS;cases b <;> cases a <;> rfl) ha (fun _ _ => .pure)

theorem toTermSS_ev{a:List (List (Int×Int×Int×Int))}{b:Bool}(ha:a.length≤1000000)(hm:∀x∈a,x.length≤1000000):Evt (fun k _=>laws_toTermSS k a b) (toV (fun x=>toV id fT x b) ([fT],[]) a b) :=
 to_all (dβ := []) (dγ:=([],[])) (F:=fun k x=>laws_toTermS k x b) (L1:=fun k n x0 x5 x6=>laws_toTermSS_L122 k n x0 b x5 x6) (L2:=laws_toTermSS_L250) room_eq (fun _ _ _ _ _=>rfl) (fun _ _ _ _ _=>rfl)
  (fun k=>by unfold laws_toTermSS;cases b <;> cases a <;> rfl) ha (fun x hx=>toTermS_ev (hm x hx))

theorem eqIntS_ev{x:List Int}(h:x.length<lenB):Evt (fun k _=>laws_eqIntS k x x) true :=
 eq_all (d0:=0) (Q:=fun _ a b=>some (!(a != b))) (L:=laws_eqIntS_L58) (E:=laws_eqIntS) (fun k n x0 x1 x5=>by simp only [Option.bind_some,Bool.not_not];rfl) (fun _ _ _=>rfl) h (fun z _ => .const (by simp))
theorem eqTerm_rfl(x:Int×Int×Int×Int):laws_eqTerm x x=some true:=by simp [laws_eqTerm]
theorem eqTermS_ev{x:List (Int×Int×Int×Int)}(h:x.length<lenB):Evt (fun k _=>laws_eqTermS k x x) true :=
 eq_all (d0:=(0,0,0,0)) (Q:=fun _ a b=>laws_eqTerm a b) (L:=laws_eqTermS_L58) (E:=laws_eqTermS) (fun k n x0 x1 x5=>rfl) (fun _ _ _=>rfl) h (fun z _ => .const (eqTerm_rfl z))
theorem eqTermSS_ev{x:List (List (Int×Int×Int×Int))}(h:x.length<lenB)(hm:∀y∈x,y.length<lenB):Evt (fun k _=>laws_eqTermSS k x x) true :=
 eq_all (d0 := []) (Q:=fun k a b=>laws_eqTermS k a b) (L:=laws_eqTermSS_L58) (E:=laws_eqTermSS) (fun k n x0 x1 x5=>rfl) (fun _ _ _=>rfl) h (fun z hz=>eqTermS_ev (hm z hz))


def Room{γ:Type}(x:List γ×List γ):Prop:=x.2.length=roomN x.1.length∧x.1.length≤1000000

theorem intact_all{γ:Type}{E:Nat→List γ→List γ→Option Bool}{I:Nat→(List γ×List γ)→(List γ×List γ)→Option Bool}{x:List γ×List γ}(hx:Room x)
  (hI:∀k a0 a1,I k a0 a1=(Option.bind (laws_roomBehind (a1.1.length:Int)) fun r1=>(bif ((a0.1.length:Int)==(a1.1.length:Int))then(bif (decide (0≤(IntKind.wrap .i64 ((a1.1.length:Int)+r1))))then(bif (decide ((IntKind.wrap .i64 ((a1.1.length:Int)+r1))≤((a0.1++a0.2).length:Int)))then(bif (decide (0≤(IntKind.wrap .i64 ((a1.1.length:Int)+r1))))then(bif (decide ((IntKind.wrap .i64 ((a1.1.length:Int)+r1))≤((a1.1++a1.2).length:Int)))then(Option.bind (E k (((a0.1++a0.2).take (Int.toNat (IntKind.wrap .i64 ((a1.1.length:Int)+r1)))).drop 0) (((a1.1++a1.2).take (Int.toNat (IntKind.wrap .i64 ((a1.1.length:Int)+r1)))).drop 0)) fun r2=>some r2)else none)else none)else none)else none)else some false)))
  (hE:Evt (fun k _=>E k (x.1++x.2) (x.1++x.2)) true):Evt (fun k _=>I k x x) true:=by
 have hr:=room_le x.1.length
 have h1:=hx.1
 have h2:=hx.2
 refine Evt.eq ?_ (fun k _=>hI k x x)
 refine Evt.bind (.const (room_eq _)) ?_
 have hw:IntKind.wrap .i64 ((x.1.length:Int)+(roomN x.1.length:Int))=(((x.1++x.2).length:Nat):Int):=by
  rw [List.length_append,h1,w64] <;> omega
 rw [hw]
 refine Evt.ctrue (by simp) (Evt.ctrue mid_ge (Evt.ctrue (by simp) (Evt.ctrue mid_ge (Evt.ctrue (by simp) ?_))))
 have e:(((x.1++x.2).length:Nat):Int).toNat=(x.1++x.2).length:=Int.toNat_natCast _
 rw [e,List.take_length,List.drop_zero]
 exact Evt.bind hE .pure

theorem small{γ:Type}{x:List γ×List γ}(hx:Room x):(x.1++x.2).length<lenB:=by
 have hr:=room_le x.1.length
 have h1:=hx.1
 have h2:=hx.2
 rw [List.length_append,h1]
 simp only [lenB]
 omega

theorem intactIntS_ev{x:List Int×List Int}(hx:Room x):Evt (fun k _=>laws_intactIntS k x x) true:=intact_all (E:=laws_eqIntS) hx (fun _ _ _=>rfl) (eqIntS_ev (small hx))
theorem intactTermS_ev{x:List (Int×Int×Int×Int)×List (Int×Int×Int×Int)}(hx:Room x):Evt (fun k _=>laws_intactTermS k x x) true:=intact_all (E:=laws_eqTermS) hx (fun _ _ _=>rfl) (eqTermS_ev (small hx))

theorem intact_loop{γ:Type}{d0:γ}{Q:Nat→γ→γ→Option Bool}{x:List γ×List γ}{m:Int}{L:Nat→Nat→Int→Option (Bool ⊕ ((List γ×List γ)×(List γ×List γ)×Int×Unit))}
  (hL:∀k n x6,L k (n+1) x6=(bif (decide (x6<(x.1.length:Int)))then(bif (decide (0≤x6))then(bif (decide (x6<(x.1.length:Int)))then(bif (decide (0≤x6))then(bif (decide (x6<(x.1.length:Int)))then(Option.bind (Q k (x.1.getD (Int.toNat x6) d0) (x.1.getD (Int.toNat x6) d0)) fun r2=>(bif (!r2)then some (Sum.inl false)else(L k n (IntKind.wrap .i64 (x6+1)))))else none)else none)else none)else none)else some (Sum.inr (x,x,m,())))) (hb:x.1.length<lenB) :
  ∀(r d:List γ),d++r=x.1→(∀z∈r,Evt (fun k _=>Q k z z) true)→Evt (fun k n=>L k n d.length) (.inr (x,x,m,()))
 | [],d,h,_=>by
  refine Evt.step (fun k n=>hL k n _) (Evt.cfalse (by rw [←h];simp) .pure)
 | z::r,d,h,hQ=>by
  refine Evt.step (fun k n=>hL k n _) ?_
  rw [←h]
  refine Evt.ctrue mid_lt (Evt.ctrue mid_ge (Evt.ctrue mid_lt (Evt.ctrue mid_ge (Evt.ctrue mid_lt ?_))))
  rw [mid_get]
  refine Evt.bind (hQ z (by simp)) (Evt.cfalse rfl ?_)
  rw [w64_next (by rw [←h]at hb;simp at hb;omega)]
  have:=intact_loop hL hb r (d ++ [z]) (by simpa using h) (fun y hy=>hQ y (by simp [hy]))
  simpa using this

theorem intact_rows{γ:Type}{d0:List γ×List γ}{Q:Nat→(List γ×List γ)→(List γ×List γ)→Option Bool}{E:Nat→List (List γ)→List (List γ)→Option Bool}{x:List (List γ×List γ)×List (List γ×List γ)}(hx:Room x)(hm:∀y∈x.1,Room y)
  {I:Nat→(List (List γ×List γ)×List (List γ×List γ))→(List (List γ×List γ)×List (List γ×List γ))→Option Bool}
  {L:Nat→Nat→(List (List γ×List γ)×List (List γ×List γ))→(List (List γ×List γ)×List (List γ×List γ))→Int→Int→Option (Bool ⊕ ((List (List γ×List γ)×List (List γ×List γ))×(List (List γ×List γ)×List (List γ×List γ))×Int×Unit))}
  (hL:∀k n x0 x1 x5 x6,L k (n+1) x0 x1 x5 x6=(bif (decide (x6<(x1.1.length:Int)))then(bif (decide (0≤x6))then(bif (decide (x6<(x0.1.length:Int)))then(bif (decide (0≤x6))then(bif (decide (x6<(x1.1.length:Int)))then(Option.bind (Q k (x0.1.getD (Int.toNat x6) d0) (x1.1.getD (Int.toNat x6) d0)) fun r2=>(bif (!r2)then some (Sum.inl false)else(L k n x0 x1 x5 (IntKind.wrap .i64 (x6+1)))))else none)else none)else none)else none)else some (Sum.inr (x0,x1,x5,()))))
  (hI:∀k a0 a1,I k a0 a1=(Option.bind (laws_roomBehind (a1.1.length:Int)) fun r1=>(bif ((a0.1.length:Int) != (a1.1.length:Int))then some false else(both (R:=Bool) (P:=(List (List γ×List γ)×List (List γ×List γ))×(List (List γ×List γ)×List (List γ×List γ))×Int×Unit) (L k k a0 a1 (IntKind.wrap .i64 ((a1.1.length:Int)+r1)) 0) (fun q5=>some q5) (fun y4=>(bif (decide (0≤(y4.2.1.1.length:Int)))then(bif (decide ((y4.2.1.1.length:Int)≤y4.2.2.1))then(bif (decide (y4.2.2.1≤((y4.1.1++y4.1.2).length:Int)))then(bif (decide (0≤(y4.2.1.1.length:Int)))then(bif (decide ((y4.2.1.1.length:Int)≤y4.2.2.1))then(bif (decide (y4.2.2.1≤((y4.2.1.1++y4.2.1.2).length:Int)))then(Option.bind (E k ((((y4.1.1++y4.1.2).take (Int.toNat y4.2.2.1)).drop (Int.toNat (y4.2.1.1.length:Int))).map fun z=>z.1) ((((y4.2.1.1++y4.2.1.2).take (Int.toNat y4.2.2.1)).drop (Int.toNat (y4.2.1.1.length:Int))).map fun z=>z.1)) fun r6=>some r6)else none)else none)else none)else none)else none)else none))))))
  (hQ:∀y∈x.1,Evt (fun k _=>Q k y y) true) (hE:Evt (fun k _=>E k (x.2.map fun z=>z.1) (x.2.map fun z=>z.1)) true):Evt (fun k _=>I k x x) true:=by
 have hr:=room_le x.1.length
 have h1:=hx.1
 have h2:=hx.2
 refine Evt.eq ?_ (fun k _=>hI k x x)
 refine Evt.bind (.const (room_eq _)) (Evt.cfalse (by simp) ?_)
 have hw:IntKind.wrap .i64 ((x.1.length:Int)+(roomN x.1.length:Int))=(((x.1++x.2).length:Nat):Int):=by
  rw [List.length_append,h1,w64] <;> omega
 rw [hw]
 have:=intact_loop (L:=fun k n x6=>L k n x x (((x.1++x.2).length:Nat):Int) x6) (fun k n x6=>hL k n x x _ x6) (by simp only [lenB];omega) x.1 [] rfl hQ
 simp only [List.length_nil]at this
 refine Evt.inr (Evt.diag this) ?_
 refine Evt.ctrue mid_ge (Evt.ctrue (by simp <;> omega) (Evt.ctrue (by simp <;> omega) (Evt.ctrue mid_ge (Evt.ctrue (by simp <;> omega) (Evt.ctrue (by simp <;> omega) ?_)))))
 have e:(((x.1++x.2).length:Nat):Int).toNat=(x.1++x.2).length:=Int.toNat_natCast _
 have e2:((x.1.length:Nat):Int).toNat=x.1.length:=Int.toNat_natCast _
 simp only [e,e2,List.take_length,List.drop_left]
 exact Evt.bind hE .pure

theorem intactTermSS_ev{x:List (List (Int×Int×Int×Int)×List (Int×Int×Int×Int))×List (List (Int×Int×Int×Int)×List (Int×Int×Int×Int))}(hx:Room x)(hm:∀y∈x.1,Room y)(h2:∀y∈x.2,y.1.length<lenB):Evt (fun k _=>laws_intactTermSS k x x) true :=
 intact_rows (d0:=([],[])) (Q:=laws_intactTermS) (E:=laws_eqTermSS) (L:=laws_intactTermSS_L122) hx hm (fun _ _ _ _ _ _=>rfl) (fun _ _ _=>rfl) (fun y hy=>intactTermS_ev (hm y hy))
  (eqTermSS_ev (by have:=small hx;simp at this ⊢; omega) (by intro y hy;obtain⟨z,hz,rfl⟩:=List.mem_map.1 hy;exact h2 z hz))

theorem room_toV{β γ:Type}{f:β→γ}{v:γ}{a:List β}(h:a.length≤1000000):Room (toV f v a false):=by
 refine⟨?_,?_⟩
 ·simp [toV]
 ·simp [toV];exact h

def heldAny{γ:Type}(c:Nat):Nat→List γ→Int→Option Int:=fun _ x a=>some (a+c*x.length)
theorem nat_mul_sub{c a b:Nat}(h:b<a):c*(a - b)=c+c*(a - (b+1)):=by
 obtain⟨m,rfl⟩:∃m,a=b+1+m:=⟨a - (b+1),by omega⟩
 rw [show b+1+m - b=m+1 by omega,show b+1+m - (b+1)=m by omega,Nat.mul_add,Nat.mul_one,Nat.add_comm]

theorem mark_only{γ:Type}{M:Nat→Nat→List γ→Int→Int→Option ((Int×List γ) ⊕ (Int×List γ×Unit))}{mark:Nat→List γ→Int→Option (Int×List γ)}{mv:Nat→γ}{c:Nat}
  (hc:0<c)
  (hM:∀(k n:Nat) (d r:List γ) (e:γ) (a:Nat),a+c<lenB→(d++e::r).length<lenB→M k (n+1) (d++e::r) a d.length=M k n (d++mv a::r) ((a+c:Nat):Int) ((d.length+1:Nat):Int))
  (hM0:∀(k n:Nat) (d:List γ) (a:Int),M k (n+1) d a d.length=some (.inr (a,d,())))
  (hmark:∀k x a,mark k x a=both (R:=Int×List γ) (P:=Int×List γ×Unit) (M k k x a 0) (fun q=>some q) (fun y=>some (y.1,y.2.1))) :
  MarkOk mark (heldAny c) (fun x=>c*x.length) :=
 mark_all (M:=M) (H:=fun _ _ x a i=>some (.inr (a+c*(x.length - i.toNat:Nat),()))) (mv:=mv) hc hM hM0
  (fun k n d r a h1 h2=>by
   have h:d.length<(d++mv a::r).length:=by simp
   have:=nat_mul_sub (c:=c) h
   simp only [Int.toNat_natCast]
   congr 3
   omega)
  (fun k n d a=>by simp) hmark (fun k x a=>by simp [heldAny,both])

theorem markIntS_only:MarkOk laws_markIntS (heldAny 1) (fun x=>1*x.length) :=
 mark_only (M:=laws_markIntS_L26) (mv:=fun a=>(a:Int)) (by omega)
  (fun k n d r e a h1 h2=>by
   rw [laws_markIntS_L26]
   rw [mid_lt,mid_ge,mid_set,w64_next (m:=d.length) (by simp at h2;omega),w64_next (m:=a) (by omega)]
   rfl)
  (fun k n d a=>by rw [laws_markIntS_L26,mid_end];rfl)
  (fun _ _ _=>rfl)

theorem szIntS_ev{x:List Int}(hx:x.length≤maxLen){a:Nat}(ha:a≤1000000):laws_szIntS x a=some (if x.length≤a then((a - x.length:Nat):Int)else -1):=sz_one (fun _ _=>rfl) hx ha
theorem szTermSS_ev{x:List (List (Int×Int×Int×Int))}(hx:x.length≤maxLen)(hm:∀y∈x,y.length≤maxLen){a:Nat}(ha:a≤1000000) :
  Evt (fun k _=>laws_szTermSS k x a) (if x.length+(x.map List.length).sum≤a then((a - (x.length+(x.map List.length).sum):Nat):Int)else -1) :=
 sz_all (sz:=laws_szTermS) (S:=laws_szTermSS_L122) (fun _ _=>rfl) (fun _ _ _ _ _=>rfl) (fun _ _ _=>rfl) hx hm ha
end Go.Ev.G

namespace Go.Ev.G
open Go Go.Ev
set_option maxRecDepth 100000

def gd(a:Int×Int):Prop:=0≤a.2∧a.2≤24 ∧ -1099511627776≤a.1∧a.1≤1099511627776∧(a.2=0∨a.1 % 2≠0)
instance (a:Int×Int):Decidable (gd a):=by unfold gd;infer_instance

theorem l1In_eq(n lo hi:Int):spec_l1In n lo hi=some (decide (lo≤n∧n≤hi)):=by
 unfold spec_l1In
 by_cases h:lo≤n
 ·have:decide (n≥lo)=true:=by simpa using h
  rw [this];simp [h]
 ·have:decide (n≥lo)=false:=by simpa using h
  rw [this];simp [h]
theorem inside_eq(n lo hi:Int):impl_inside n lo hi=some (decide (lo≤n∧n≤hi)):=l1In_eq n lo hi
def strip:Nat→Int→Int×Nat
 | 0,n=>(n,0)
 | k+1,n=>if n % 2=0 then strip k (n / 2)else(n,k+1)

def mkD(n:Int)(k:Nat):(Int×Int)×Bool :=
 if -1099511627776≤(strip k n).1∧(strip k n).1≤1099511627776∧(strip k n).2≤24 then(((strip k n).1,((strip k n).2:Int)),true)else((0,0),false)

theorem strip_form:∀(k:Nat) (n:Int),(strip k n).2=0∨(strip k n).1 % 2≠0
 | 0,n => .inl rfl
 | k+1,n=>by
  unfold strip
  split
  ·exact strip_form k _
  ·rename_i h;exact .inr h
theorem mkD_gd(n:Int)(k:Nat):gd (mkD n k).1:=by
 unfold mkD
 split
 ·rename_i h
  have:=strip_form k n
  refine⟨by simp,by simp;omega,h.1,h.2.1,?_⟩
  rcases this with h | h
  ·left;simp [h]
  ·right;exact h
 ·exact⟨by simp,by simp,by simp,by simp,.inl rfl⟩

theorem dyPower_eq{m:Nat}(h:m≤62):spec_dyPower m=some (((2 ^ m:Nat):Int)):=by
 unfold spec_dyPower
 have h1:IntKind.wrap .u64 (m:Int)=m:=wu64 (by omega) (by omega)
 have h2:min (Int.toNat (m:Int)) (IntKind.bits .i64)=m:=by simp [IntKind.bits];omega
 rw [h1,h2]
 have h3:(2:Nat) ^ m≤4611686018427387904:=Nat.pow_le_pow_right (n:=2) (by omega) h
 have h4:(1:Int)*2 ^ m=((2 ^ m:Nat):Int):=by simp
 have h5:decide ((m:Int)<0)=false:=by simp
 rw [h4]
 generalize 2 ^ m=p at *
 rw [w64 (by omega) (by omega),h5]
 rfl

end Go.Ev.G

namespace Go.Ev.G
open Go Go.Ev
set_option maxRecDepth 100000

def exA(a b:Int×Int):Nat:=max a.2.toNat b.2.toNat
def sumN(a b:Int×Int):Int:=a.1*2 ^ (exA a b - a.2.toNat)+b.1*2 ^ (exA a b - b.2.toNat)
def sumD(a b:Int×Int):(Int×Int)×Bool:=mkD (sumN a b) (exA a b)

theorem most_eq(a b:Int):spec_l1Most a b=some (max a b):=by
 unfold spec_l1Most
 by_cases h:a>b
 ·have:decide (a>b)=true:=by simpa using h
  rw [this];simp only [cond_true];congr 1;omega
 ·have:decide (a>b)=false:=by simpa using h
  rw [this];simp only [cond_false];congr 1;omega

end Go.Ev.G

namespace Go.Ev.G
open Go Go.Ev
set_option maxRecDepth 100000

def cmpI(a b:Int):Int:=if a<b then -1 else if b<a then 1 else 0

def orI(x y:Int):Int:=bif x==0 then y else x
theorem orI_ne{x:Int}(h:x≠0)(y:Int):orI x y=x:=by
 have:(x==0)=false:=by simpa using h
 rw [orI,this];rfl
theorem orI_z(y:Int):orI 0 y=y:=rfl

end Go.Ev.G

namespace Go.Ev.G
open Go Go.Ev
set_option maxRecDepth 100000

def sv(a:Int×Int):Int:=a.1*2 ^ (24 - a.2.toNat)

theorem sign_eq(n:Int):spec_l1Sign n=some (cmpI n 0):=by
 unfold spec_l1Sign cmpI
 rcases Int.lt_trichotomy n 0 with h | h | h
 ·have h1 : ¬ n>0:=by omega
  simp [h,h1]
 ·subst h;rfl
 ·have h1 : ¬ n<0:=by omega
  simp [h,h1]

end Go.Ev.G

namespace Go.Ev.G
open Go Go.Ev
set_option maxRecDepth 100000

theorem toV_fst{γ:Type}{v:γ}{a:List γ}{b:Bool}:(toV id v a b).1=a:=by
 unfold toV
 split
 ·rename_i h;exact h.2.symm
 ·simp
theorem toV_rows{γ:Type}{v:γ}{w:List γ×List γ}{a:List (List γ)}{b:Bool}:((toV (fun x=>toV id v x b) w a b).1.map fun z=>z.1)=a:=by
 unfold toV
 split
 ·rename_i h;rw [h.2];rfl
 ·simp only [List.map_map]
  conv=>rhs;rw [←List.map_id a]
  apply List.map_congr_left
  intro x hx
  exact toV_fst

def Sized{γ:Type}(a:List (List γ)):Prop:=a.length+(a.map List.length).sum≤1000000

theorem le_sum{l:List Nat}{x:Nat}(h:x∈l):x≤l.sum:=by
 induction l with
 | nil=>simp at h
 | cons y l ih =>
  simp only [List.sum_cons]
  rcases List.mem_cons.1 h with rfl | h
  ·omega
  ·have:=ih h;omega
theorem Sized.len{γ:Type}{a:List (List γ)}(h:Sized a):a.length≤1000000:=by unfold Sized at h;omega
theorem Sized.row{γ:Type}{a:List (List γ)}(h:Sized a):∀x∈a,x.length≤1000000:=by
 intro x hx
 unfold Sized at h
 have:=le_sum (List.mem_map.2 ⟨x,hx,rfl⟩:x.length∈a.map List.length)
 omega

end Go.Ev.G

namespace Go.Ev.G
open Go Go.Ev
set_option maxRecDepth 100000

def osum:(Int×Int)→List (Int×Int)→Option (Int×Int)
 | s,[]=>some s
 | s,x::xs=>if (sumD s x).2 then osum (sumD s x).1 xs else none
end Go.Ev.G

namespace Go.Ev.G
open Go Go.Ev
set_option maxRecDepth 100000

theorem sum_twice:∀(x:List (List (Int×Int))),(x.map fun r=>2*r.length).sum=2*(x.map List.length).sum
 | []=>rfl
 | r::x=>by simp only [List.map_cons,List.sum_cons];rw [sum_twice x];omega
theorem Sized.marks{a:List (List (Int×Int))}(h:Sized a):101+(a.map fun r=>2*r.length).sum<lenB:=by
 unfold Sized at h
 rw [sum_twice]
 simp only [lenB];omega

end Go.Ev.G

namespace Go.Ev.G
open Go Go.Ev
set_option maxRecDepth 100000

def ivGd(x:(Int×Int)×Int×Int):Prop:=gd x.1∧gd x.2∧sv x.1≤sv x.2
instance:DecidablePred ivGd:=fun x=>by unfold ivGd;exact inferInstance
end Go.Ev.G

namespace Go.Ev.G
open Go Go.Ev
set_option maxRecDepth 100000

theorem two_lt{α β:Type}{d r:List α}{d' r':List β}{e':β}(h:d.length=d'.length):decide ((d.length:Int)<((d'++e'::r').length:Int))=true:=by simp;omega
theorem two_get{α β:Type}{d:List α}{d' r':List β}{e' z:β}(h:d.length=d'.length):(d'++e'::r').getD (Int.toNat (d.length:Int)) z=e':=by rw [h];exact mid_get

end Go.Ev.G

namespace Go.Ev.G
open Go Go.Ev
set_option maxRecDepth 100000

def sideOk(L:Int)(p:Int×Int):Bool:=decide ((-L≤p.1∧p.1≤L)∧(-L≤p.2∧p.2≤L)∧p.1<p.2)
def sideOdd(p:Int×Int):Bool:=(Int.tmod p.1 2 != 0)||(Int.tmod p.2 2 != 0)
def bxV(b:Int×List Int×List Int):Bool :=
 decide (0≤b.1∧b.1≤8)&&(decide (1≤(b.2.1.length:Int)∧(b.2.1.length:Int)≤3)&&(decide (b.2.2.length=b.2.1.length)&&((b.2.1.zip b.2.2).all (sideOk (8*2 ^ b.1.toNat))&&(b.1==0||(b.2.1.zip b.2.2).any sideOdd))))

theorem bxGood_loop{k:Nat}{d8 L:Int}{los his:List Int}(hL:0≤L∧L≤1000000)(hb:los.length<lenB):∀(r r' d d':List Int) (b:Bool),d++r=los→d'++r'=his→d.length=d'.length→r.length=r'.length →
  Evt (fun k n=>spec_bxGood_L250 k n (d8,los,his) L b los (los.length:Int) d.length) (if (r.zip r').all (sideOk L)then .inr (b||(r.zip r').any sideOdd,())else .inl false):=by
 intro r
 induction r with
 | nil =>
  intro r' d d' b h h' hl hr
  refine Evt.step (fun k n=>spec_bxGood_L250.eq_2 k _ _ _ _ _ _ n) ?_
  rw [List.append_nil]at h
  subst h
  simp only [List.zip_nil_left,List.all_nil,List.any_nil,Bool.or_false,if_true]
  exact Evt.rng0 .pure
 | cons e r ih =>
  intro r' d d' b h h' hl hr
  obtain⟨e',r',rfl⟩:∃x y,r'=x::y:=by cases r' with
   | nil=>simp at hr
   | cons x y=>exact⟨x,y,rfl⟩
  refine Evt.step (fun k n=>spec_bxGood_L250.eq_2 k _ _ _ _ _ _ n) ?_
  have ih:=fun b=>ih r' (d ++ [e]) (d' ++ [e']) b (by simpa using h) (by simpa using h') (by simp [hl]) (by simpa using hr)
  rw [←len_next (r:=r) (by rw [h];exact hb)]at ih
  subst h
  subst h'
  simp only
  refine Evt.ctrue mid_lt (Evt.ctrue mid_ge (Evt.ctrue mid_lt (Evt.ctrue mid_ge (Evt.ctrue (two_lt (r:=r) hl) ?_))))
  rw [mid_get,two_get hl]
  have hw:IntKind.wrap .i64 (0 - L) = -L:=by rw [w64 (by omega) (by omega)];omega
  rw [hw]
  refine Evt.bind (.const (l1In_eq _ _ _)) ?_
  simp only [List.zip_cons_cons,List.all_cons,List.any_cons]
  by_cases h1 : -L≤e∧e≤L
  ·refine Evt.cfalse (by simp [h1]) (Evt.bind (.const (l1In_eq _ _ _)) ?_)
   by_cases h2 : -L≤e'∧e'≤L
   ·refine Evt.cfalse (by simp [h2]) ?_
    by_cases h3:e≥e'
    ·refine Evt.ctrue (decide_eq_true h3) ?_
     have:sideOk L (e,e')=false:=by unfold sideOk;exact decide_eq_false (by simp only;omega)
     simp only [this,Bool.false_and]
     exact .pure
    ·refine Evt.cfalse (decide_eq_false h3) ?_
     have:sideOk L (e,e')=true:=by unfold sideOk;exact decide_eq_true (by simp only;omega)
     simp only [this,Bool.true_and]
     cases b with
     | true=>exact Evt.ctrue rfl (by simpa using ih true)
     | false =>
      refine Evt.cfalse rfl ?_
      cases h4:(Int.tmod e 2 != 0)with
      | true=>refine Evt.ctrue rfl ?_;simp only [sideOdd,h4,Bool.true_or,Bool.or_true];simpa using ih true
      | false=>refine Evt.cfalse rfl ?_;simp only [sideOdd,h4,Bool.false_or];exact ih _
   ·refine Evt.ctrue (by rw [decide_eq_false h2];rfl) ?_
    have:sideOk L (e,e')=false:=by unfold sideOk;exact decide_eq_false (by simp only;omega)
    simp only [this,Bool.false_and]
    exact .pure
  ·refine Evt.ctrue (by rw [decide_eq_false h1];rfl) ?_
   have:sideOk L (e,e')=false:=by unfold sideOk;exact decide_eq_false (by simp only;omega)
   simp only [this,Bool.false_and]
   exact .pure

theorem isBox_loop{k:Nat}{d8 L:Int}{los his:List Int}(hL:0≤L∧L≤1000000)(hb:los.length<lenB):∀(r r' d d':List Int) (b:Bool),d++r=los→d'++r'=his→d.length=d'.length→r.length=r'.length →
  Evt (fun k n=>impl_isBox_L122 k n (d8,los,his) L b los (los.length:Int) d.length) (if (r.zip r').all (sideOk L)then .inr (b||(r.zip r').any sideOdd,())else .inl false):=by
 intro r
 induction r with
 | nil =>
  intro r' d d' b h h' hl hr
  refine Evt.step (fun k n=>impl_isBox_L122.eq_2 k _ _ _ _ _ _ n) ?_
  rw [List.append_nil]at h
  subst h
  simp only [List.zip_nil_left,List.all_nil,List.any_nil,Bool.or_false,if_true]
  exact Evt.rng0 .pure
 | cons e r ih =>
  intro r' d d' b h h' hl hr
  obtain⟨e',r',rfl⟩:∃x y,r'=x::y:=by cases r' with
   | nil=>simp at hr
   | cons x y=>exact⟨x,y,rfl⟩
  refine Evt.step (fun k n=>impl_isBox_L122.eq_2 k _ _ _ _ _ _ n) ?_
  have ih:=fun b=>ih r' (d ++ [e]) (d' ++ [e']) b (by simpa using h) (by simpa using h') (by simp [hl]) (by simpa using hr)
  rw [←len_next (r:=r) (by rw [h];exact hb)]at ih
  subst h
  subst h'
  simp only
  refine Evt.ctrue mid_lt (Evt.ctrue mid_ge (Evt.ctrue mid_lt ?_))
  rw [mid_get]
  have hw:IntKind.wrap .i64 (0 - L) = -L:=by rw [w64 (by omega) (by omega)];omega
  rw [hw]
  refine Evt.bind (.const (inside_eq _ _ _)) ?_
  simp only [List.zip_cons_cons,List.all_cons,List.any_cons]
  by_cases h1 : -L≤e∧e≤L
  ·refine Evt.cfalse (by simp [h1]) (Evt.ctrue mid_ge (Evt.ctrue (two_lt (r:=r) hl) ?_))
   rw [two_get hl,w64 (n:=e+1) (by omega) (by omega)]
   refine Evt.bind (.const (inside_eq _ _ _)) ?_
   by_cases h2:e+1≤e'∧e'≤L
   ·refine Evt.cfalse (by simp [h2]) ?_
    have:sideOk L (e,e')=true:=by unfold sideOk;exact decide_eq_true (by simp only;omega)
    simp only [this,Bool.true_and]
    cases b with
    | true=>exact Evt.ctrue rfl (by simpa using ih true)
    | false =>
     refine Evt.cfalse rfl ?_
     cases h4:(Int.tmod e 2 != 0)with
     | true=>refine Evt.ctrue rfl ?_;simp only [sideOdd,h4,Bool.true_or,Bool.or_true];simpa using ih true
     | false =>
      refine Evt.cfalse rfl (Evt.ctrue mid_ge (Evt.ctrue (two_lt (r:=r) hl) ?_))
      simp only [sideOdd,h4,Bool.false_or];exact ih _
   ·refine Evt.ctrue (by rw [decide_eq_false h2];rfl) ?_
    have:sideOk L (e,e')=false:=by unfold sideOk;exact decide_eq_false (by simp only;omega)
    simp only [this,Bool.false_and]
    exact .pure
  ·refine Evt.ctrue (by rw [decide_eq_false h1];rfl) ?_
   have:sideOk L (e,e')=false:=by unfold sideOk;exact decide_eq_false (by simp only;omega)
   simp only [this,Bool.false_and]
   exact .pure

theorem pow8{n:Nat}(h:n≤8):(0:Int)≤8*2 ^ n∧(8:Int)*2 ^ n≤2048:=by
 have h1:(2:Nat) ^ n≤2 ^ 8:=Nat.pow_le_pow_right (by omega) h
 have h2:((2:Int) ^ n)=((2 ^ n:Nat):Int):=by simp
 rw [h2]
 have h3:(2:Nat) ^ 8=256:=by decide
 rw [h3]at h1
 generalize (2:Nat) ^ n=q at h1
 omega

theorem bxGood_ev{b:Int×List Int×List Int}(hb:b.2.1.length<lenB):Evt (fun k _=>spec_bxGood k b) (bxV b):=by
 obtain⟨d8,los,his⟩:=b
 refine Evt.eq (f:=fun k q=>_) ?_ (fun k q=>by rw [spec_bxGood])
 unfold bxV
 simp only at hb ⊢
 refine Evt.bind (.const (l1In_eq _ _ _)) ?_
 by_cases h1:0≤d8∧d8≤8
 ·refine Evt.cfalse (by simp [h1]) (Evt.bind (.const (l1In_eq _ _ _)) ?_)
  rw [decide_eq_true h1,Bool.true_and]
  by_cases h2:1≤(los.length:Int)∧(los.length:Int)≤3
  ·refine Evt.cfalse (by rw [decide_eq_true h2];rfl) ?_
   rw [decide_eq_true h2,Bool.true_and]
   by_cases h3:his.length=los.length
   ·refine Evt.cfalse (by simp [h3]) ?_
    rw [decide_eq_true h3,Bool.true_and]
    obtain⟨m,rfl⟩:∃m:Nat,d8=m:=⟨d8.toNat,by omega⟩
    have hm:m≤8:=by omega
    have hp:=pow8 hm
    have e1:((2 ^ m:Nat):Int)=2 ^ m:=by simp
    refine Evt.bind (.const (dyPower_eq (by omega))) ?_
    rw [e1,w64 (by omega) (by omega)]
    have h0:=bxGood_loop (k:=0) (d8:=(m:Int)) (L:=8*2 ^ m) (los:=los) (his:=his) (by omega) hb los his [] [] ((m:Int)==0) rfl rfl rfl h3.symm
    simp only [List.length_nil,Int.toNat_natCast]at h0 ⊢
    cases hall:(los.zip his).all (sideOk (8*2 ^ m))with
    | true=>rw [hall]at h0;exact Evt.inr (Evt.diag h0) .pure
    | false=>rw [hall]at h0;exact Evt.inl (Evt.diag h0) .pure
   ·refine Evt.ctrue (by rw [bne_iff_ne];omega) ?_
    rw [decide_eq_false h3];exact .pure
  ·refine Evt.ctrue (by rw [decide_eq_false h2];rfl) ?_
   rw [decide_eq_false h2];exact .pure
 ·refine Evt.ctrue (by rw [decide_eq_false h1];rfl) ?_
  rw [decide_eq_false h1];exact .pure

theorem isBox_ev{b:Int×List Int×List Int}(hb:b.2.1.length<lenB):Evt (fun k _=>impl_isBox k b) (bxV b):=by
 obtain⟨d8,los,his⟩:=b
 refine Evt.eq (f:=fun k q=>_) ?_ (fun k q=>by rw [impl_isBox])
 unfold bxV
 simp only at hb ⊢
 refine Evt.bind (.const (inside_eq _ _ _)) ?_
 by_cases h1:0≤d8∧d8≤8
 ·refine Evt.cfalse (by simp [h1]) (Evt.bind (.const (inside_eq _ _ _)) ?_)
  rw [decide_eq_true h1,Bool.true_and]
  by_cases h2:1≤(los.length:Int)∧(los.length:Int)≤3
  ·refine Evt.cfalse (by rw [decide_eq_true h2];rfl) ?_
   rw [decide_eq_true h2,Bool.true_and]
   by_cases h3:his.length=los.length
   ·refine Evt.cfalse (by simp [h3]) ?_
    rw [decide_eq_true h3,Bool.true_and]
    obtain⟨m,rfl⟩:∃m:Nat,d8=m:=⟨d8.toNat,by omega⟩
    have hm:m≤8:=by omega
    have hp:=pow8 hm
    refine Evt.cfalse (by simp) ?_
    have e0:min (Int.toNat (m:Int)) (IntKind.bits .i64)=m:=by
     rw [Int.toNat_natCast];exact Nat.min_eq_left (by simp only [IntKind.bits];omega)
    rw [e0,w64 (by omega) (by omega)]
    have h0:=isBox_loop (k:=0) (d8:=(m:Int)) (L:=8*2 ^ m) (los:=los) (his:=his) (by omega) hb los his [] [] ((m:Int)==0) rfl rfl rfl h3.symm
    simp only [List.length_nil,Int.toNat_natCast]at h0 ⊢
    cases hall:(los.zip his).all (sideOk (8*2 ^ m))with
    | true=>rw [hall]at h0;exact Evt.inr (Evt.diag h0) .pure
    | false=>rw [hall]at h0;exact Evt.inl (Evt.diag h0) .pure
   ·refine Evt.ctrue (by rw [bne_iff_ne];omega) ?_
    rw [decide_eq_false h3];exact .pure
  ·refine Evt.ctrue (by rw [decide_eq_false h2];rfl) ?_
   rw [decide_eq_false h2];exact .pure
 ·refine Evt.ctrue (by rw [decide_eq_false h1];rfl) ?_
  rw [decide_eq_false h1];exact .pure

end Go.Ev.G

namespace Go.Ev.G
open Go Go.Ev
set_option maxRecDepth 100000

abbrev Tm:=Int×Int×Int×Int
def tmGd(t:Tm):Prop:=(-1000≤t.1∧t.1≤1000)∧(0≤t.2.1∧t.2.1≤4)∧(0≤t.2.2.1∧t.2.2.1≤4)∧(0≤t.2.2.2∧t.2.2.2≤4)∧t.2.1+t.2.2.1+t.2.2.2≤4
instance:DecidablePred tmGd:=fun x=>by unfold tmGd;exact inferInstance

theorem poTerm_eq(t:Tm):spec_poTerm t=some (decide (tmGd t)):=by
 unfold spec_poTerm
 simp only [l1In_eq,Option.bind_some]
 by_cases h1 : -1000≤t.1∧t.1≤1000
 ·rw [decide_eq_true h1,cond_true]
  by_cases h2:0≤t.2.1∧t.2.1≤4
  ·rw [decide_eq_true h2,cond_true]
   by_cases h3:0≤t.2.2.1∧t.2.2.1≤4
   ·rw [decide_eq_true h3,cond_true]
    by_cases h4:0≤t.2.2.2∧t.2.2.2≤4
    ·rw [decide_eq_true h4,cond_true,w64 (n:=t.2.1+t.2.2.1) (by omega) (by omega),w64 (by omega) (by omega)]
     congr 1
     rw [decide_eq_decide]
     exact⟨fun h=>⟨h1,h2,h3,h4,h⟩,fun h=>h.2.2.2.2⟩
    ·rw [decide_eq_false h4,decide_eq_false fun h:tmGd t=>h4 h.2.2.2.1];rfl
   ·rw [decide_eq_false h3,decide_eq_false fun h:tmGd t=>h3 h.2.2.1];rfl
  ·rw [decide_eq_false h2,decide_eq_false fun h:tmGd t=>h2 h.2.1];rfl
 ·rw [decide_eq_false h1,decide_eq_false fun h:tmGd t=>h1 h.1];rfl

theorem hasDegree_eq{t:Tm}(h1 : -1000≤t.1∧t.1≤1000):impl_hasDegree t=some (decide (tmGd t)):=by
 unfold impl_hasDegree impl_Term_degree
 simp only [inside_eq,Option.bind_some]
 by_cases h2:0≤t.2.1∧t.2.1≤4
 ·rw [decide_eq_true h2,cond_true]
  by_cases h3:0≤t.2.2.1∧t.2.2.1≤4
  ·rw [decide_eq_true h3,cond_true]
   by_cases h4:0≤t.2.2.2∧t.2.2.2≤4
   ·rw [decide_eq_true h4,cond_true,w64 (n:=t.2.1+t.2.2.1) (by omega) (by omega),w64 (by omega) (by omega)]
    congr 1
    rw [decide_eq_decide]
    exact⟨fun h=>⟨h1,h2,h3,h4,h⟩,fun h=>h.2.2.2.2⟩
   ·rw [decide_eq_false h4,decide_eq_false fun h:tmGd t=>h4 h.2.2.2.1];rfl
  ·rw [decide_eq_false h3,decide_eq_false fun h:tmGd t=>h3 h.2.2.1];rfl
 ·rw [decide_eq_false h2,decide_eq_false fun h:tmGd t=>h2 h.2.1];rfl

def lexI(a b:Tm):Int:=if a.2.1≠b.2.1 then cmpI a.2.1 b.2.1 else if a.2.2.1≠b.2.2.1 then cmpI a.2.2.1 b.2.2.1 else cmpI a.2.2.2 b.2.2.2
theorem cmpI_sub(a b:Int):cmpI (a - b) 0=cmpI a b:=by
 unfold cmpI
 split <;> split <;> (try split) <;> (try split) <;> omega
theorem poOrder_eq{a b:Tm}(ha:tmGd a)(hb:tmGd b):spec_poOrder a b=some (lexI a b):=by
 have a1:=ha.2
 have b1:=hb.2
 unfold spec_poOrder lexI
 rw [w64 (n:=a.2.1 - b.2.1) (by omega) (by omega),w64 (n:=a.2.2.1 - b.2.2.1) (by omega) (by omega),w64 (n:=a.2.2.2 - b.2.2.2) (by omega) (by omega)]
 simp only [sign_eq,Option.bind_some,cmpI_sub]
 by_cases h1:a.2.1=b.2.1
 ·rw [if_neg (by simpa using h1),show(a.2.1 != b.2.1)=false by simpa using h1,cond_false]
  by_cases h2:a.2.2.1=b.2.2.1
  ·rw [if_neg (by simpa using h2),show(a.2.2.1 != b.2.2.1)=false by simpa using h2,cond_false]
  ·rw [if_pos h2,show(a.2.2.1 != b.2.2.1)=true by simpa using h2,cond_true]
 ·rw [if_pos h1,show(a.2.1 != b.2.1)=true by simpa using h1,cond_true]

theorem cmpC_eq(a b:Int):cmp_Compare_int a b=some (cmpI a b):=by
 unfold cmp_Compare_int cmp_isNaN_int cmpI
 simp only [bne_self_eq_false,Option.bind_some,cond_false]
 by_cases h:a<b
 ·simp [h]
 ·by_cases h2:b<a
  ·simp [h,h2]
  ·simp [h,h2]

theorem or3_ev(x y z:Int):Evt (fun k _=>cmp_Or_int k [x,y,z]) (orI x (orI y z)):=by
 refine Evt.eq (f:=fun k q=>_) ?_ (fun k q=>by rw [cmp_Or_int])
 have w1:IntKind.wrap .i64 (0+1)=1:=by decide
 have w2:IntKind.wrap .i64 (1+1)=2:=by decide
 have w3:IntKind.wrap .i64 (2+1)=3:=by decide
 have l3:Evt (fun k n=>cmp_Or_int_L58 k n 0 [x,y,z] 3 3) (.inr (0,())):=Evt.step (fun k n=>cmp_Or_int_L58.eq_2 k _ _ _ _ n) (Evt.cfalse rfl .pure)
 have l2:Evt (fun k n=>cmp_Or_int_L58 k n 0 [x,y,z] 3 2) (if z != 0 then .inl z else .inr (0,())):=by
  refine Evt.step (fun k n=>cmp_Or_int_L58.eq_2 k _ _ _ _ n) (Evt.ctrue rfl (Evt.ctrue rfl (Evt.ctrue rfl ?_)))
  rw [w3]
  cases h:(z != 0)with
  | true=>exact Evt.ctrue h .pure
  | false=>exact Evt.cfalse h l3
 have l1:Evt (fun k n=>cmp_Or_int_L58 k n 0 [x,y,z] 3 1) (if y != 0 then .inl y else if z != 0 then .inl z else .inr (0,())):=by
  refine Evt.step (fun k n=>cmp_Or_int_L58.eq_2 k _ _ _ _ n) (Evt.ctrue rfl (Evt.ctrue rfl (Evt.ctrue rfl ?_)))
  rw [w2]
  cases h:(y != 0)with
  | true=>exact Evt.ctrue h .pure
  | false=>exact Evt.cfalse h l2
 have l0:Evt (fun k n=>cmp_Or_int_L58 k n 0 [x,y,z] (([x,y,z]:List Int).length:Int) 0) (if x != 0 then .inl x else if y != 0 then .inl y else if z != 0 then .inl z else .inr (0,())):=by
  refine Evt.step (fun k n=>cmp_Or_int_L58.eq_2 k _ _ _ _ n) (Evt.ctrue rfl (Evt.ctrue rfl (Evt.ctrue rfl ?_)))
  rw [w1]
  cases h:(x != 0)with
  | true=>exact Evt.ctrue h .pure
  | false=>exact Evt.cfalse h l1
 unfold orI
 cases hx:(x != 0)with
 | true =>
  rw [hx]at l0
  rw [show(x==0)=false by simpa using hx]
  exact Evt.inl (Evt.diag l0) .pure
 | false =>
  rw [hx]at l0
  rw [show(x==0)=true by simpa using hx,cond_true]
  cases hy:(y != 0)with
  | true =>
   rw [hy]at l0
   rw [show(y==0)=false by simpa using hy]
   exact Evt.inl (Evt.diag l0) .pure
  | false =>
   rw [hy]at l0
   rw [show(y==0)=true by simpa using hy,cond_true]
   cases hz:(z != 0)with
   | true=>rw [hz]at l0;exact Evt.inl (Evt.diag l0) .pure
   | false =>
    rw [hz]at l0
    have hz0:z=0:=by simpa using hz
    subst hz0
    exact Evt.inr (Evt.diag l0) .pure

theorem cmpI_zero(a b:Int):cmpI a b=0↔a=b:=by
 unfold cmpI
 split <;> (try split) <;> omega
theorem compareTerms_ev(a b:Tm):Evt (fun k _=>impl_compareTerms k a b) (lexI a b):=by
 refine Evt.eq (f:=fun k q=>_) ?_ (fun k q=>by rw [impl_compareTerms])
 refine Evt.bind (.const (cmpC_eq _ _)) (Evt.bind (.const (cmpC_eq _ _)) (Evt.bind (.const (cmpC_eq _ _)) (Evt.bind (or3_ev _ _ _) ?_)))
 have:orI (cmpI a.2.1 b.2.1) (orI (cmpI a.2.2.1 b.2.2.1) (cmpI a.2.2.2 b.2.2.2))=lexI a b:=by
  unfold lexI
  by_cases h1:a.2.1=b.2.1
  ·rw [(cmpI_zero _ _).2 h1,orI_z,if_neg (by simpa using h1)]
   by_cases h2:a.2.2.1=b.2.2.1
   ·rw [(cmpI_zero _ _).2 h2,orI_z,if_neg (by simpa using h2)]
   ·rw [orI_ne (fun h=>h2 ((cmpI_zero _ _).1 h)),if_pos h2]
  ·rw [orI_ne (fun h=>h1 ((cmpI_zero _ _).1 h)),if_pos h1]
 rw [this]
 exact .pure

def okFrom:Option Tm→List Tm→Bool
 | _,[]=>true
 | p,e::r=>(decide (tmGd e) && !(e.1==0))&&((match p with | none=>true | some q=>decide (lexI q e<0))&&okFrom (some e) r)
def lastO(d:List Tm):Option Tm:=d.getLast?
def polyV(xs:List Tm):Bool:=okFrom none xs&&decide ((xs.length:Int)≤20)

theorem okFrom_gd:∀(r:List Tm) (p:Option Tm),okFrom p r=true→∀t∈r,tmGd t
 | [],_,_=>by simp
 | e::r,p,h=>by
  unfold okFrom at h
  simp only [Bool.and_eq_true,decide_eq_true_eq]at h
  intro t ht
  rcases List.mem_cons.1 ht with rfl | ht
  ·exact h.1.1
  ·exact okFrom_gd r _ h.2.2 t ht
theorem polyV_gd{xs:List Tm}(h:polyV xs=true):∀t∈xs,tmGd t:=by
 unfold polyV at h
 rw [Bool.and_eq_true]at h
 exact okFrom_gd xs _ h.1

theorem last_get{d r:List Tm}{e q z:Tm}:(d ++ [q]++e::r).getD (Int.toNat (d.length:Int)) z=q:=by simp

theorem poGood_ev{xs:List Tm}(hb:xs.length<lenB):Evt (fun k _=>spec_poGood k xs) (polyV xs):=by
 refine Evt.eq (f:=fun k q=>_) ?_ (fun k q=>by rw [spec_poGood])
 have key:∀(r d:List Tm),d++r=xs→(∀q,lastO d=some q→tmGd q)→Evt (fun k n=>spec_poGood_L26 k n xs xs (xs.length:Int) d.length) (if okFrom (lastO d) r then .inr (xs,())else .inl false):=by
  intro r
  induction r with
  | nil =>
   intro d h hg
   refine Evt.step (fun k n=>spec_poGood_L26.eq_2 k _ _ _ _ n) ?_
   rw [List.append_nil]at h
   subst h
   exact Evt.rng0 .pure
  | cons e r ih =>
   intro d h hg
   refine Evt.step (fun k n=>spec_poGood_L26.eq_2 k _ _ _ _ n) ?_
   have ih:=ih (d ++ [e]) (by simpa using h)
   rw [←len_next (r:=r) (by rw [h];exact hb)]at ih
   rw [show lastO (d ++ [e])=some e by simp [lastO]]at ih
   subst h
   refine Evt.ctrue mid_lt (Evt.ctrue mid_ge (Evt.ctrue mid_lt ?_))
   rw [mid_get]
   refine Evt.bind (.const (poTerm_eq e)) ?_
   unfold okFrom
   by_cases h1:tmGd e
   ·simp only [decide_eq_true h1,Bool.true_and]
    refine Evt.cfalse rfl ?_
    have ih:=ih (fun q hq=>by cases hq;exact h1)
    cases h2:(e.1==0)with
    | true=>exact Evt.ctrue rfl .pure
    | false =>
     refine Evt.cfalse rfl ?_
     simp only [Bool.not_false,Bool.true_and]
     rcases List.eq_nil_or_concat d with rfl | ⟨d0,q,rfl⟩
     ·exact Evt.cfalse rfl (by simpa [lastO] using ih)
     ·simp only [List.concat_eq_append]at hg ih ⊢
      have hq:lastO (d0 ++ [q])=some q:=by simp [lastO]
      have hl:(((d0 ++ [q]).length:Nat):Int)=(d0.length:Int)+1:=by simp
      have hlb:d0.length<lenB:=by simp at hb;omega
      simp only [lenB]at hlb
      refine Evt.ctrue (by rw [hl];exact decide_eq_true (by omega)) ?_
      have hw:IntKind.wrap .i64 (((d0 ++ [q]).length:Int) - 1)=(d0.length:Int):=by rw [hl,w64 (by omega) (by omega)];omega
      rw [hw,last_get]
      refine Evt.ctrue (by simp) (Evt.ctrue (by simp <;> omega) (Evt.bind (.const (poOrder_eq (hg q hq) h1)) ?_))
      simp only [hq]
      by_cases h3:lexI q e<0
      ·simp only [decide_eq_true h3,Bool.true_and]
       exact Evt.cfalse (decide_eq_false (by omega)) ih
      ·simp only [decide_eq_false h3,Bool.false_and]
       exact Evt.ctrue (decide_eq_true (by omega)) .pure
   ·simp only [decide_eq_false h1,Bool.false_and]
    exact Evt.ctrue rfl .pure
 have h0:=key xs [] rfl (by intro q hq;cases hq)
 simp only [List.length_nil]at h0
 unfold polyV
 rw [show lastO []=none from rfl]at h0
 cases hall:okFrom none xs with
 | true=>rw [hall]at h0;exact Evt.inr (Evt.diag h0) .pure
 | false=>rw [hall]at h0;exact Evt.inl (Evt.diag h0) .pure

theorem isPoly_ev{xs:List Tm}(hb:xs.length<lenB):Evt (fun k _=>impl_isPoly k xs) (polyV xs):=by
 refine Evt.eq (f:=fun k q=>_) ?_ (fun k q=>by rw [impl_isPoly])
 have key:∀(r d:List Tm),d++r=xs→Evt (fun k n=>impl_isPoly_L26 k n xs xs (xs.length:Int) d.length) (if okFrom (lastO d) r then .inr (xs,())else .inl false):=by
  intro r
  induction r with
  | nil =>
   intro d h
   refine Evt.step (fun k n=>impl_isPoly_L26.eq_2 k _ _ _ _ n) ?_
   rw [List.append_nil]at h
   subst h
   exact Evt.rng0 .pure
  | cons e r ih =>
   intro d h
   refine Evt.step (fun k n=>impl_isPoly_L26.eq_2 k _ _ _ _ n) ?_
   have ih:=ih (d ++ [e]) (by simpa using h)
   rw [←len_next (r:=r) (by rw [h];exact hb)]at ih
   rw [show lastO (d ++ [e])=some e by simp [lastO]]at ih
   subst h
   refine Evt.ctrue mid_lt (Evt.ctrue mid_ge (Evt.ctrue mid_lt ?_))
   rw [mid_get]
   unfold okFrom
   cases h2:(e.1==0)with
   | true =>
    simp only [Bool.not_true,Bool.and_false,Bool.false_and]
    exact Evt.ctrue rfl .pure
   | false =>
   refine Evt.cfalse rfl (Evt.bind (.const (inside_eq _ _ _)) ?_)
   simp only [Bool.not_false,Bool.and_true]
   by_cases h0 : -1000≤e.1∧e.1≤1000
   ·refine Evt.cfalse (by rw [decide_eq_true h0];rfl) (Evt.bind (.const (hasDegree_eq h0)) ?_)
    by_cases h1:tmGd e
    ·simp only [decide_eq_true h1,Bool.true_and]
     refine Evt.cfalse rfl ?_
     rcases List.eq_nil_or_concat d with rfl | ⟨d0,q,rfl⟩
     ·exact Evt.cfalse rfl (by simpa [lastO] using ih)
     ·simp only [List.concat_eq_append]at ih ⊢
      have hq:lastO (d0 ++ [q])=some q:=by simp [lastO]
      have hl:(((d0 ++ [q]).length:Nat):Int)=(d0.length:Int)+1:=by simp
      have hlb:d0.length<lenB:=by simp at hb;omega
      simp only [lenB]at hlb
      refine Evt.ctrue (by rw [hl];exact decide_eq_true (by omega)) ?_
      have hw:IntKind.wrap .i64 (((d0 ++ [q]).length:Int) - 1)=(d0.length:Int):=by rw [hl,w64 (by omega) (by omega)];omega
      rw [hw,last_get]
      refine Evt.ctrue (by simp) (Evt.ctrue (by simp <;> omega) (Evt.bind (compareTerms_ev q e) ?_))
      simp only [hq]
      by_cases h3:lexI q e<0
      ·simp only [decide_eq_true h3,Bool.true_and]
       exact Evt.cfalse (decide_eq_false (by omega)) ih
      ·simp only [decide_eq_false h3,Bool.false_and]
       exact Evt.ctrue (decide_eq_true (by omega)) .pure
    ·simp only [decide_eq_false h1,Bool.false_and]
     exact Evt.ctrue rfl .pure
   ·simp only [decide_eq_false fun h:tmGd e=>h0 h.1,Bool.false_and]
    exact Evt.ctrue (by rw [decide_eq_false h0];rfl) .pure
 have h0:=key xs [] rfl
 simp only [List.length_nil]at h0
 unfold polyV
 rw [show lastO []=none from rfl]at h0
 cases hall:okFrom none xs with
 | true=>rw [hall]at h0;exact Evt.inr (Evt.diag h0) .pure
 | false=>rw [hall]at h0;exact Evt.inl (Evt.diag h0) .pure
end Go.Ev.G

namespace Go.Ev.G
open Go Go.Ev
set_option maxRecDepth 100000

def keyT(t:Tm):Int:=25*t.2.1+5*t.2.2.1+t.2.2.2
end Go.Ev.G

namespace Go.Ev.G
open Go Go.Ev
set_option maxRecDepth 100000

def prodD(a b:Int×Int):(Int×Int)×Bool:=mkD (a.1*b.1) (a.2.toNat+b.2.toNat)
end Go.Ev.G

namespace Go.Ev.G
open Go Go.Ev
set_option maxRecDepth 100000

section
variable {α β : Type}
def Flag(g:α→Option β)(z:β)(b0:Bool)(d:List α)(b:Bool)(o:List β):Prop :=
 o.length=d.length∧b=(b0&&d.all fun x=>(g x).isSome)∧(b=true→o=d.map fun x=>(g x).getD z)
theorem Flag.nil{g:α→Option β}{z:β}{b0:Bool}:Flag g z b0 [] b0 []:=⟨rfl,by simp,fun _=>rfl⟩
theorem Flag.step{g:α→Option β}{z:β}{b0 b:Bool}{d:List α}{o:List β}{e:α}{v:β}(h:Flag g z b0 d b o)(hv:b=true→(g e).isSome=true→g e=some v):Flag g z b0 (d ++ [e]) (b&&(g e).isSome) (o ++ [v]):=by
 obtain⟨h1,h2,h3⟩:=h
 refine⟨by simp [h1],?_,?_⟩
 ·rw [h2,List.all_append]
  simp only [List.all_cons,List.all_nil,Bool.and_true,Bool.and_assoc]
 ·intro hh
  rw [Bool.and_eq_true]at hh
  rw [List.map_append,h3 hh.1]
  simp only [List.map_cons,List.map_nil,hv hh.1 hh.2,Option.getD_some]
end

abbrev Pt:=List (Int×Int)
end Go.Ev.G

namespace Go.Ev
open Go

section
variable {α β : Type}
def Ev3{α:Type}(f:Nat→Nat→Nat→Option α)(r:α):Prop:=∃k0,∀k m n,k0≤k→k0≤m→k0≤n→f k m n=some r

theorem Ev3.of{f:Nat→Option α}{r:α}(h:Evt (fun k _=>f k) r):Ev3 (fun k _ _=>f k) r:=by
 obtain⟨k0,h⟩:=h
 exact⟨k0,fun k m n hk _ _=>h k k hk hk⟩
theorem Ev3.diag{f:Nat→Nat→Nat→Option α}{r:α}(h:Ev3 f r):Evt (fun k m=>f k m k) r:=by
 obtain⟨k0,h⟩:=h
 exact⟨k0,fun k m hk hm=>h k m k hk hm hk⟩
theorem Ev3.const{o:Option α}{r:α}(h:o=some r):Ev3 (fun _ _ _=>o) r:=⟨0,fun _ _ _ _ _ _=>h⟩
theorem Ev3.pure{r:α}:Ev3 (fun _ _ _=>some r) r:=⟨0,fun _ _ _ _ _ _=>rfl⟩
theorem Ev3.bind{f:Nat→Nat→Nat→Option α}{g:Nat→Nat→Nat→α→Option β}{a:α}{r:β}(h:Ev3 f a)(h':Ev3 (fun k m n=>g k m n a) r):Ev3 (fun k m n=>Option.bind (f k m n) fun x=>g k m n x) r:=by
 obtain⟨k0,h⟩:=h
 obtain⟨k1,h'⟩:=h'
 refine⟨max k0 k1,fun k m n hk hm hn => ?_⟩
 exact(congrArg (fun o=>Option.bind o fun x=>g k m n x) (h k m n (by omega) (by omega) (by omega))).trans (h' k m n (by omega) (by omega) (by omega))
theorem Ev3.inr{R P A:Type}{f:Nat→Nat→Nat→Option (R ⊕ P)}{G:Nat→Nat→Nat→R→Option A}{K:Nat→Nat→Nat→P→Option A}{y:P}{r:A}(h:Ev3 f (.inr y))(h':Ev3 (fun k m n=>K k m n y) r):Ev3 (fun k m n=>both (f k m n) (G k m n) (K k m n)) r:=by
 obtain⟨k0,h⟩:=h
 obtain⟨k1,h'⟩:=h'
 refine⟨max k0 k1,fun k m n hk hm hn => ?_⟩
 exact(congrArg (fun o=>both o (G k m n) (K k m n)) (h k m n (by omega) (by omega) (by omega))).trans (h' k m n (by omega) (by omega) (by omega))
theorem Ev3.inl{R P A:Type}{f:Nat→Nat→Nat→Option (R ⊕ P)}{G:Nat→Nat→Nat→R→Option A}{K:Nat→Nat→Nat→P→Option A}{q:R}{r:A}(h:Ev3 f (.inl q))(h':Ev3 (fun k m n=>G k m n q) r):Ev3 (fun k m n=>both (f k m n) (G k m n) (K k m n)) r:=by
 obtain⟨k0,h⟩:=h
 obtain⟨k1,h'⟩:=h'
 refine⟨max k0 k1,fun k m n hk hm hn => ?_⟩
 exact(congrArg (fun o=>both o (G k m n) (K k m n)) (h k m n (by omega) (by omega) (by omega))).trans (h' k m n (by omega) (by omega) (by omega))
theorem Ev3.ctrue{c:Bool}{f g:Nat→Nat→Nat→Option α}{r:α}(hc:c=true)(h:Ev3 f r):Ev3 (fun k m n=>bif c then f k m n else g k m n) r:=by subst hc;exact h
theorem Ev3.cfalse{c:Bool}{f g:Nat→Nat→Nat→Option α}{r:α}(hc:c=false)(h:Ev3 g r):Ev3 (fun k m n=>bif c then f k m n else g k m n) r:=by subst hc;exact h
theorem Ev3.step{L F:Nat→Nat→Nat→Option α}{r:α}(hL:∀k m n,L k m (n+1)=F k m n)(h:Ev3 F r):Ev3 L r:=by
 obtain⟨k0,h⟩:=h
 refine⟨k0+1,fun k m n hk hm hn => ?_⟩
 obtain⟨n,rfl⟩:∃n',n=n'+1:=⟨n - 1,by omega⟩
 rw [hL]
 exact h k m n (by omega) (by omega) (by omega)
end
end Go.Ev

namespace Go.Ev.G
open Go Go.Ev
set_option maxRecDepth 100000

def partV{α:Type}(m:List (List α))(i j:Nat):List (List α):=(m.eraseIdx i).map (·.eraseIdx j)
end Go.Ev.G

namespace Go.Ev.G
open Go Go.Ev
set_option maxRecDepth 100000

def ngD(c:Nat)(x:Int×Int):Int×Int:=if c % 2=1 then(-x.1,x.2)else x
def tmO(c:Nat)(a:Int×Int)(d:Option (Int×Int)):Option (Int×Int):=match d with
 | none=>none
 | some d=>if (prodD a d).2 then some (ngD c (prodD a d).1)else none
def detO:Nat→List Pt→Option (Int×Int)
 | 0,m=>some ((m.getD 0 []).getD 0 (0,0))
 | n+1,m =>
  let ts:=(List.range (n+2)).map fun c=>tmO c ((m.getD 0 []).getD c (0,0)) (detO n (partV m 0 c))
  if ts.all (·.isSome)then osum (0,0) (ts.map fun o=>o.getD (0,0))else none
def terms(n:Nat)(m:List Pt):List (Option (Int×Int)):=(List.range (n+2)).map fun c=>tmO c ((m.getD 0 []).getD c (0,0)) (detO n (partV m 0 c))
end Go.Ev.G

namespace Go.Ev.G
open Go Go.Ev
set_option maxRecDepth 100000

abbrev Iv:=(Int×Int)×Int×Int
def minD(a b:Int×Int):Int×Int:=if sv b<sv a then b else a
def maxD(a b:Int×Int):Int×Int:=if sv a<sv b then b else a
theorem minD_gd{a b:Int×Int}(ha:gd a)(hb:gd b):gd (minD a b):=by unfold minD;split;exact hb;exact ha
theorem maxD_gd{a b:Int×Int}(ha:gd a)(hb:gd b):gd (maxD a b):=by unfold maxD;split;exact hb;exact ha
theorem minD_sv(a b:Int×Int):sv (minD a b)=min (sv a) (sv b):=by unfold minD;split <;> omega
theorem maxD_sv(a b:Int×Int):sv (maxD a b)=max (sv a) (sv b):=by unfold maxD;split <;> omega
end Go.Ev.G

namespace Go.Ev.G
open Go Go.Ev
set_option maxRecDepth 100000

def pw(t:Tm)(j:Nat):Int:=if j=0 then t.2.1 else if j=1 then t.2.2.1 else t.2.2.2
def big(xs:List Tm)(j:Nat):Bool:=xs.any fun t=>decide (pw t j>0)
def needs(n:Nat)(xs:List Tm):Bool:=(decide (n≤0)&&big xs 0)||((decide (n≤1)&&big xs 1)||(decide (n≤2)&&big xs 2))

theorem poPower_eq(t:Tm)(j:Nat):spec_poPower t j=some (pw t j):=by
 unfold spec_poPower pw
 by_cases h:j=0
 ·subst h;rfl
 ·rw [if_neg h,show((j:Int)==0)=false by simp;omega,cond_false]
  by_cases h1:j=1
  ·subst h1;rfl
  ·rw [if_neg h1,show((j:Int)==1)=false by simp;omega,cond_false]

def degV(j:Nat):Int→List Tm→Int
 | m,[]=>m
 | m,t::r=>degV j (max m (pw t j)) r
theorem degV_pos(j:Nat):∀(xs:List Tm) (m:Int),decide (degV j m xs>0)=(decide (m>0)||big xs j)
 | [],m=>by simp [degV,big]
 | t::r,m=>by
  rw [degV,degV_pos j r]
  unfold big
  rw [List.any_cons,←Bool.or_assoc]
  congr 1
  rw [Bool.eq_iff_iff]
  simp only [Bool.or_eq_true,decide_eq_true_eq]
  omega

theorem degreeIn_ev{xs:List Tm}{j:Nat}(hb:xs.length<lenB):Evt (fun k _=>spec_poDegreeIn k xs j) (degV j (-1) xs):=by
 refine Evt.eq (f:=fun k q=>_) ?_ (fun k q=>by rw [spec_poDegreeIn])
 have key:∀(r d:List Tm) (m:Int),d++r=xs→Evt (fun k n=>spec_poDegreeIn_L58 k n j m xs (xs.length:Int) d.length) (.inr (degV j m r,())):=by
  intro r
  induction r with
  | nil =>
   intro d m h
   refine Evt.step (fun k n=>spec_poDegreeIn_L58.eq_2 k _ _ _ _ _ n) ?_
   rw [List.append_nil]at h
   subst h
   exact Evt.rng0 .pure
  | cons e r ih =>
   intro d m h
   refine Evt.step (fun k n=>spec_poDegreeIn_L58.eq_2 k _ _ _ _ _ n) ?_
   have ih:=ih (d ++ [e]) (max m (pw e j)) (by simpa using h)
   rw [←len_next (r:=r) (by rw [h];exact hb)]at ih
   subst h
   refine Evt.ctrue mid_lt (Evt.ctrue mid_ge (Evt.ctrue mid_lt ?_))
   rw [mid_get]
   exact Evt.bind (.const (poPower_eq _ _)) (Evt.bind (.const (most_eq _ _)) ih)
 have h0:=key xs [] (-1) rfl
 simp only [List.length_nil]at h0
 exact Evt.inr (Evt.diag h0) .pure

theorem system_inner{n:Nat}{xs:List Tm}(hb:xs.length<lenB)(x0 x6:List (List Tm))(x7 x8:Int) :
  Evt (fun k m=>spec_poSystem_L13518 k m x0 xs (n:Int) x6 x7 x8) (if needs n xs then .inl false else .inr (x0,x6,x7,x8,())):=by
 have l3:∀j:Nat,3≤j→Evt (fun k m=>spec_poSystem_L13518 k m x0 xs (j:Int) x6 x7 x8) (.inr (x0,x6,x7,x8,())):=by
  intro j hj
  exact Evt.step (fun k m=>spec_poSystem_L13518.eq_2 k _ _ _ _ _ _ m) (Evt.cfalse (decide_eq_false (by omega)) .pure)
 have st:∀(j:Nat) (b:Bool),j<3→Evt (fun k m=>spec_poSystem_L13518 k m x0 xs ((j+1:Nat):Int) x6 x7 x8) (if b then .inl false else .inr (x0,x6,x7,x8,()))→Evt (fun k m=>spec_poSystem_L13518 k m x0 xs (j:Int) x6 x7 x8) (if (big xs j||b)then .inl false else .inr (x0,x6,x7,x8,())):=by
  intro j b hj h
  refine Evt.step (fun k m=>spec_poSystem_L13518.eq_2 k _ _ _ _ _ _ m) (Evt.ctrue (decide_eq_true (by omega)) (Evt.bind (degreeIn_ev hb) ?_))
  rw [degV_pos]
  rw [w64_next (by simp only [lenB];omega)]
  cases big xs j with
  | true=>exact Evt.ctrue rfl .pure
  | false=>exact Evt.cfalse rfl (by simpa using h)
 have l2:=st 2 false (by omega) (by simpa using l3 3 (by omega))
 have l1:=st 1 _ (by omega) l2
 have l0:=st 0 _ (by omega) l1
 match n with
 | 0=>simpa [needs] using l0
 | 1=>simpa [needs] using l1
 | 2=>simpa [needs] using l2
 | m+3 =>
  have:=l3 (m+3) (by omega)
  have e:needs (m+3) xs=false:=by simp [needs]
  rw [e]
  exact this

def sysV(m:List (List Tm)):Bool:=(m.all fun xs=>polyV xs && !needs m.length xs)&&decide (1≤(m.length:Int)∧(m.length:Int)≤3)

theorem poSystem_ev{m:List (List Tm)}(hb:m.length<lenB)(hm:∀r∈m,r.length<lenB):Evt (fun k _=>spec_poSystem k m) (sysV m):=by
 refine Evt.eq (f:=fun k q=>_) ?_ (fun k q=>by rw [spec_poSystem])
 have key:∀(r d:List (List Tm)),d++r=m→Evt (fun k n=>spec_poSystem_L26 k n m m (m.length:Int) d.length) (if (r.all fun xs=>polyV xs && !needs m.length xs)then .inr (m,())else .inl false):=by
  intro r
  induction r with
  | nil =>
   intro d h
   refine Evt.step (fun k n=>spec_poSystem_L26.eq_2 k _ _ _ _ n) ?_
   rw [List.append_nil]at h
   subst h
   exact Evt.rng0 .pure
  | cons e r ih =>
   intro d h
   refine Evt.step (fun k n=>spec_poSystem_L26.eq_2 k _ _ _ _ n) ?_
   have he:=hm e (by rw [←h];simp)
   have ih:=ih (d ++ [e]) (by simpa using h)
   rw [←len_next (r:=r) (by rw [h];exact hb)]at ih
   have hi:=system_inner (n:=m.length) he m m (m.length:Int) (d.length:Int)
   subst h
   refine Evt.ctrue mid_lt (Evt.ctrue mid_ge (Evt.ctrue mid_lt ?_))
   rw [mid_get]
   refine Evt.bind (poGood_ev he) ?_
   cases hp:polyV e with
   | false=>simp only [List.all_cons,hp,Bool.false_and];exact Evt.ctrue rfl .pure
   | true =>
    refine Evt.cfalse rfl ?_
    cases hn:needs (d++e::r).length e with
    | true=>rw [hn]at hi;simp only [List.all_cons,hp,hn,Bool.not_true,Bool.and_false,Bool.false_and];exact Evt.inl (Evt.diag hi) .pure
    | false=>rw [hn]at hi;simp only [List.all_cons,hp,hn,Bool.not_false,Bool.true_and];exact Evt.inr (Evt.diag hi) ih
 have h0:=key m [] rfl
 simp only [List.length_nil]at h0
 unfold sysV
 cases hall:(m.all fun xs=>polyV xs && !needs m.length xs)with
 | true=>rw [hall]at h0;exact Evt.inr (Evt.diag h0) (Evt.bind (.const (l1In_eq _ _ _)) .pure)
 | false=>rw [hall]at h0;exact Evt.inl (Evt.diag h0) .pure

def needsT(n:Nat)(t:Tm):Bool:=(decide (n≤0)&&decide (t.2.1>0))||((decide (n≤1)&&decide (t.2.2.1>0))||(decide (n≤2)&&decide (t.2.2.2>0)))
theorem needs_any(n:Nat)(xs:List Tm):needs n xs=xs.any (needsT n):=by
 rw [Bool.eq_iff_iff]
 simp only [needs,big,Bool.or_eq_true,Bool.and_eq_true,decide_eq_true_eq,List.any_eq_true,needsT,pw]
 constructor
 ·rintro(⟨h,t,ht,hp⟩ | ⟨h,t,ht,hp⟩ | ⟨h,t,ht,hp⟩)
  ·exact⟨t,ht,.inl ⟨h,by simpa using hp⟩⟩
  ·exact⟨t,ht,.inr (.inl ⟨h,by simpa using hp⟩)⟩
  ·exact⟨t,ht,.inr (.inr ⟨h,by simpa using hp⟩)⟩
 ·rintro⟨t,ht,⟨h,hp⟩ | ⟨h,hp⟩ | ⟨h,hp⟩⟩
  ·exact .inl ⟨h,t,ht,by simpa using hp⟩
  ·exact .inr (.inl ⟨h,t,ht,by simpa using hp⟩)
  ·exact .inr (.inr ⟨h,t,ht,by simpa using hp⟩)

theorem needs_inner(n:Nat)(t:Tm)(x9:List Tm)(x10 x11:Int) :
  Evt (fun k m=>impl_needsAtMost_L6758 k m (n:Int) x9 x10 x11 t.2 0) (if needsT n t then .inl false else .inr ((n:Int),x9,x10,x11,())):=by
 have w1:IntKind.wrap .i64 (0+1)=1:=by decide
 have w2:IntKind.wrap .i64 (1+1)=2:=by decide
 have w3:IntKind.wrap .i64 (2+1)=3:=by decide
 have l3:Evt (fun k m=>impl_needsAtMost_L6758 k m (n:Int) x9 x10 x11 t.2 3) (.inr ((n:Int),x9,x10,x11,())) :=
  Evt.step (fun k m=>impl_needsAtMost_L6758.eq_2 k _ _ _ _ _ _ m) (Evt.cfalse rfl .pure)
 have l2:Evt (fun k m=>impl_needsAtMost_L6758 k m (n:Int) x9 x10 x11 t.2 2) (if (decide (n≤2)&&decide (t.2.2.2>0))then .inl false else .inr ((n:Int),x9,x10,x11,())):=by
  refine Evt.step (fun k m=>impl_needsAtMost_L6758.eq_2 k _ _ _ _ _ _ m) (Evt.ctrue rfl (Evt.cfalse rfl (Evt.cfalse rfl (Evt.ctrue rfl ?_))))
  rw [w3]
  by_cases h:n≤2
  ·refine Evt.ctrue (decide_eq_true (by omega)) ?_
   simp only [decide_eq_true h,Bool.true_and]
   cases decide (t.2.2.2>0)with
   | true=>exact Evt.ctrue rfl .pure
   | false=>exact Evt.cfalse rfl l3
  ·simp only [decide_eq_false h,Bool.false_and]
   exact Evt.cfalse (decide_eq_false (by omega)) l3
 have l1:Evt (fun k m=>impl_needsAtMost_L6758 k m (n:Int) x9 x10 x11 t.2 1) (if ((decide (n≤1)&&decide (t.2.2.1>0))||(decide (n≤2)&&decide (t.2.2.2>0)))then .inl false else .inr ((n:Int),x9,x10,x11,())):=by
  refine Evt.step (fun k m=>impl_needsAtMost_L6758.eq_2 k _ _ _ _ _ _ m) (Evt.ctrue rfl (Evt.cfalse rfl (Evt.ctrue rfl ?_)))
  rw [w2]
  by_cases h:n≤1
  ·refine Evt.ctrue (decide_eq_true (by omega)) ?_
   simp only [decide_eq_true h,Bool.true_and]
   cases decide (t.2.2.1>0)with
   | true=>exact Evt.ctrue rfl .pure
   | false=>exact Evt.cfalse rfl l2
  ·simp only [decide_eq_false h,Bool.false_and,Bool.false_or]
   exact Evt.cfalse (decide_eq_false (by omega)) l2
 refine Evt.step (fun k m=>impl_needsAtMost_L6758.eq_2 k _ _ _ _ _ _ m) (Evt.ctrue rfl (Evt.ctrue rfl ?_))
 rw [w1]
 unfold needsT
 by_cases h:n≤0
 ·refine Evt.ctrue (decide_eq_true (by omega)) ?_
  simp only [decide_eq_true h,Bool.true_and]
  cases decide (t.2.1>0)with
  | true=>exact Evt.ctrue rfl .pure
  | false=>exact Evt.cfalse rfl l1
 ·simp only [decide_eq_false h,Bool.false_and,Bool.false_or]
  exact Evt.cfalse (decide_eq_false (by omega)) l1

theorem needsAtMost_ev{xs:List Tm}{n:Nat}(hb:xs.length<lenB):Evt (fun k _=>impl_needsAtMost k xs n) (!needs n xs):=by
 refine Evt.eq (f:=fun k q=>_) ?_ (fun k q=>by rw [impl_needsAtMost])
 rw [needs_any]
 have key:∀(r d:List Tm),d++r=xs→Evt (fun k m=>impl_needsAtMost_L26 k m n xs (xs.length:Int) d.length) (if r.any (needsT n)then .inl false else .inr ()):=by
  intro r
  induction r with
  | nil =>
   intro d h
   refine Evt.step (fun k m=>impl_needsAtMost_L26.eq_2 k _ _ _ _ m) ?_
   rw [List.append_nil]at h
   subst h
   exact Evt.rng0 .pure
  | cons e r ih =>
   intro d h
   refine Evt.step (fun k m=>impl_needsAtMost_L26.eq_2 k _ _ _ _ m) ?_
   have ih:=ih (d ++ [e]) (by simpa using h)
   rw [←len_next (r:=r) (by rw [h];exact hb)]at ih
   have hi:=needs_inner n e xs (xs.length:Int) (d.length:Int)
   subst h
   refine Evt.ctrue mid_lt (Evt.ctrue mid_ge (Evt.ctrue mid_lt ?_))
   rw [mid_get]
   refine Evt.bind (.const rfl) ?_
   cases hn:needsT n e with
   | true=>rw [hn]at hi;simp only [List.any_cons,hn,Bool.true_or];exact Evt.inl (Evt.diag hi) .pure
   | false=>rw [hn]at hi;simp only [List.any_cons,hn,Bool.false_or];exact Evt.inr (Evt.diag hi) ih
 have h0:=key xs [] rfl
 simp only [List.length_nil]at h0
 cases hall:xs.any (needsT n)with
 | true=>rw [hall]at h0;exact Evt.inl (Evt.diag h0) .pure
 | false=>rw [hall]at h0;exact Evt.inr (Evt.diag h0) .pure

theorem isSystem_ev{m:List (List Tm)}(hb:m.length<lenB)(hm:∀r∈m,r.length<lenB):Evt (fun k _=>impl_isSystem k m) (sysV m):=by
 refine Evt.eq (f:=fun k q=>_) ?_ (fun k q=>by rw [impl_isSystem])
 have key:∀(r d:List (List Tm)),d++r=m→Evt (fun k n=>impl_isSystem_L26 k n m m (m.length:Int) d.length) (if (r.all fun xs=>polyV xs && !needs m.length xs)then .inr (m,())else .inl false):=by
  intro r
  induction r with
  | nil =>
   intro d h
   refine Evt.step (fun k n=>impl_isSystem_L26.eq_2 k _ _ _ _ n) ?_
   rw [List.append_nil]at h
   subst h
   exact Evt.rng0 .pure
  | cons e r ih =>
   intro d h
   refine Evt.step (fun k n=>impl_isSystem_L26.eq_2 k _ _ _ _ n) ?_
   have he:=hm e (by rw [←h];simp)
   have ih:=ih (d ++ [e]) (by simpa using h)
   rw [←len_next (r:=r) (by rw [h];exact hb)]at ih
   subst h
   refine Evt.ctrue mid_lt (Evt.ctrue mid_ge (Evt.ctrue mid_lt ?_))
   rw [mid_get]
   refine Evt.bind (isPoly_ev he) ?_
   cases hp:polyV e with
   | false=>simp only [List.all_cons,hp,Bool.false_and];exact Evt.ctrue rfl .pure
   | true =>
    refine Evt.cfalse rfl (Evt.bind (needsAtMost_ev he) ?_)
    cases hn:needs (d++e::r).length e with
    | true=>simp only [List.all_cons,hp,hn,Bool.not_true,Bool.and_false,Bool.false_and];exact Evt.ctrue rfl .pure
    | false=>simp only [List.all_cons,hp,hn,Bool.not_false,Bool.true_and];exact Evt.cfalse rfl ih
 have h0:=key m [] rfl
 simp only [List.length_nil]at h0
 unfold sysV
 cases hall:(m.all fun xs=>polyV xs && !needs m.length xs)with
 | true=>rw [hall]at h0;exact Evt.inr (Evt.diag h0) (Evt.bind (.const (inside_eq _ _ _)) .pure)
 | false=>rw [hall]at h0;exact Evt.inl (Evt.diag h0) .pure

theorem szBox_eq{b:Int×List Int×List Int}(h1:b.2.1.length≤maxLen)(h2:b.2.2.length≤maxLen){a:Nat}(ha:a≤1000000) :
  laws_szBox b a=some (if b.2.1.length+b.2.2.length≤a then((a - (b.2.1.length+b.2.2.length):Nat):Int)else -1):=by
 unfold laws_szBox
 rw [szIntS_ev h1 ha]
 by_cases h3:b.2.1.length≤a
 ·rw [if_pos h3,Option.bind_some,decide_eq_false (by omega),cond_false,szIntS_ev h2 (by omega)]
  by_cases h4:b.2.2.length≤a - b.2.1.length
  ·rw [if_pos h4,if_pos (by omega),Option.bind_some,decide_eq_false (by omega),cond_false]
   congr 2
   omega
  ·rw [if_neg h4,if_neg (by omega)];rfl
 ·rw [if_neg h3,if_neg (by omega)];rfl
def boxR(b:Int×List Int×List Int)(f:Bool):Int×(List Int×List Int)×List Int×List Int:=(b.1,toV id fI b.2.1 f,toV id fI b.2.2 f)
theorem toBox_ev{b:Int×List Int×List Int}{f:Bool}(h1:b.2.1.length≤1000000)(h2:b.2.2.length≤1000000):Evt (fun k _=>laws_toBox k b f) (boxR b f):=by
 refine Evt.eq (f:=fun k q=>_) ?_ (fun k q=>by rw [laws_toBox])
 exact Evt.bind (toIntS_ev h1) (Evt.bind (toIntS_ev h2) .pure)
theorem boxR_eq(b:Int×List Int×List Int)(f:Bool):((boxR b f).1,(boxR b f).2.1.1,(boxR b f).2.2.1)=b:=by
 simp only [boxR,toV_fst]
theorem intactBox_ev{b:Int×List Int×List Int}(h1:b.2.1.length≤1000000)(h2:b.2.2.length≤1000000):Evt (fun k _=>laws_intactBox k (boxR b false) (boxR b false)) true:=by
 refine Evt.eq (f:=fun k q=>_) ?_ (fun k q=>by rw [laws_intactBox])
 exact Evt.cfalse (by simp) (Evt.bind (intactIntS_ev (room_toV h1)) (Evt.cfalse rfl (Evt.bind (intactIntS_ev (room_toV h2)) (Evt.cfalse rfl .pure))))
theorem intactT_ev{a:List (List Tm)}(h:Sized a):Evt (fun k _=>laws_intactTermSS k (toV (fun x=>toV id fT x false) ([fT],[]) a false) (toV (fun x=>toV id fT x false) ([fT],[]) a false)) true:=by
 refine intactTermSS_ev (room_toV h.len) ?_ ?_
 ·intro y hy
  simp [toV]at hy
  obtain⟨x,hx,rfl⟩:=hy
  exact⟨by simp,h.row x hx⟩
 ·intro y hy
  simp [toV]at hy
  rw [hy.2];simp [lenB]

abbrev tTerm:Ty := .pair (.int .i64) (.pair (.int .i64) (.pair (.int .i64) (.int .i64)))
abbrev tBox:Ty := .pair (.int .i64) (.pair (.sl (.int .i64)) (.sl (.int .i64)))
end Go.Ev.G

namespace Go.Ev.G
open Go Go.Ev
set_option maxRecDepth 100000

def tmW(t:Tm):Prop:=(-10000≤t.1∧t.1≤10000)∧(0≤t.2.1∧t.2.1≤4)∧(0≤t.2.2.1∧t.2.2.1≤4)∧(0≤t.2.2.2∧t.2.2.2≤4)
def sgl(a:Int×Int):Iv:=(a,a)
theorem sgl_iv{a:Int×Int}(h:gd a):ivGd (sgl a):=⟨h,h,Int.le_refl _⟩
end Go.Ev.G

namespace Go.Ev.G
open Go Go.Ev
set_option maxRecDepth 100000

structure Sd(s:List (List Tm))(sides:List Iv):Prop where
 sd:∀i∈sides,ivGd i
 ln:sides.length≤3
 tm:∀p∈s,∀t∈p,tmW t
 lp:∀p∈s,p.length<lenB
abbrev Ed:=Int×(Int×Int)×(Int×Int)×Int×Int
def sidesE(e:Ed):List Iv:=if e.1=0 then [sgl e.2.1,(minD e.2.2.1 e.2.2.2,maxD e.2.2.1 e.2.2.2)]else [(minD e.2.2.1 e.2.2.2,maxD e.2.2.1 e.2.2.2),sgl e.2.1]
structure EdOk(e:Ed):Prop where
 sd:e.1=0∨e.1=1
 a:gd e.2.1
 f:gd e.2.2.1
 t:gd e.2.2.2
theorem along_iv{a b:Int×Int}(ha:gd a)(hb:gd b):ivGd (minD a b,maxD a b):=⟨minD_gd ha hb,maxD_gd ha hb,by simp only [minD_sv,maxD_sv];omega⟩
theorem EdOk.sides{e:Ed}(h:EdOk e):∀i∈sidesE e,ivGd i:=by
 intro i hi
 have q:=along_iv h.f h.t
 have r:=sgl_iv h.a
 unfold sidesE at hi
 split at hi <;> (simp only [List.mem_cons,List.not_mem_nil,or_false]at hi;rcases hi with rfl | rfl <;> assumption)
theorem EdOk.len(e:Ed):(sidesE e).length=2:=by unfold sidesE;split <;> rfl
theorem Sd.edge{s:List (List Tm)}(h1:∀p∈s,∀t∈p,tmW t)(h2:∀p∈s,p.length<lenB){e:Ed}(h:EdOk e):Sd s (sidesE e):=⟨h.sides,by rw [EdOk.len];omega,h1,h2⟩
end Go.Ev.G

namespace Go.Ev.G
open Go Go.Ev
set_option maxRecDepth 100000

abbrev Bx:=Int×List Int×List Int
end Go.Ev.G

namespace Go.Ev.G
open Go Go.Ev
set_option maxRecDepth 100000

theorem markBox_ev{b:Int×List Int×List Int}{a:Nat}(h:a+b.2.1.length+b.2.2.length<lenB):Evt (fun k _=>laws_markBox k b a) ((a+1*b.2.1.length+1*b.2.2.length:Nat):Int):=by
 refine Evt.eq (f:=fun k q=>_) ?_ (fun k q=>by rw [laws_markBox])
 obtain⟨y,hy,_⟩:=markIntS_only b.2.1 a (by show a+1*b.2.1.length<lenB;omega)
 obtain⟨z,hz,_⟩:=markIntS_only b.2.2 (a+1*b.2.1.length) (by show a+1*b.2.1.length+1*b.2.2.length<lenB;omega)
 exact Evt.bind hy (Evt.bind hz .pure)

end Go.Ev.G

namespace Go.Ev.G
open Go Go.Ev
set_option maxRecDepth 100000

theorem markIntS_ok:MarkOk laws_markIntS laws_heldIntS (fun x=>1*x.length) :=
 mark_all (M:=laws_markIntS_L26) (H:=laws_heldIntS_L26) (mv:=fun a=>(a:Int)) (by omega)
  (fun k n d r e a h1 h2=>by
   rw [laws_markIntS_L26]
   rw [mid_lt,mid_ge,mid_set,w64_next (m:=d.length) (by simp at h2;omega),w64_next (m:=a) (by omega)]
   rfl)
  (fun k n d a=>by rw [laws_markIntS_L26,mid_end];rfl)
  (fun k n d r a h1 h2=>by
   rw [laws_heldIntS_L26]
   simp only [mid_lt,mid_ge,mid_get,cond_true]
   rw [w64_next (m:=d.length) (by simp at h2;omega),w64_next (m:=a) (by omega)]
   simp only [bne_self_eq_false,cond_false])
  (fun k n d a=>by rw [laws_heldIntS_L26,mid_end];rfl)
  (fun _ _ _=>rfl) (fun _ _ _=>rfl)
theorem markTermS_only:MarkOk laws_markTermS (heldAny 4) (fun x=>4*x.length) :=
 mark_only (M:=laws_markTermS_L26) (mv:=fun a=>((a:Int),((a+1:Nat):Int),((a+2:Nat):Int),((a+3:Nat):Int))) (by omega)
  (fun k n d r e a h1 h2=>by
   rw [laws_markTermS_L26]
   simp only [mid_lt,mid_ge,mid_get,mid_set,cond_true]
   rw [w64_next (m:=d.length) (by simp at h2;omega),w64_next (m:=a) (by omega),w64_next (m:=a+1) (by omega),w64_next (m:=a+2) (by omega),w64_next (m:=a+3) (by omega)])
  (fun k n d a=>by rw [laws_markTermS_L26,mid_end];rfl)
  (fun _ _ _=>rfl)
def heldAnyL{γ:Type}(c:Nat)(k:Nat):Nat→List (List γ)→Int→Int→Option (Int ⊕ (Int×Unit))
 | 0,_,_,_=>none
 | n+1,x,a,i=>(bif (decide (i<(x.length:Int)))then(bif (decide (0≤i))then(bif (decide (i<(x.length:Int)))then(Option.bind (heldAny c k (x.getD (Int.toNat i) []) a) fun r=>bif (decide (r<0))then some (.inl (-1))else heldAnyL c k n x r (IntKind.wrap .i64 (i+1)))else none)else none)else some (.inr (a,())))
theorem markTermSS_ev{x:List (List Tm)}{a:Nat}(hx:x.length<lenB)(ha:a+(x.map fun r=>4*r.length).sum<lenB):∃y,Evt (fun k _=>laws_markTermSS k x a) (((a+(x.map fun r=>4*r.length).sum:Nat):Int),y):=by
 obtain⟨y,h1,_⟩:=mark_rows_all (M:=laws_markTermSS_L26) (H:=heldAnyL 4) (marks:=laws_markTermSS) (helds:=fun k x a=>both (R:=Int) (P:=Int×Unit) (heldAnyL 4 k k x a 0) (fun q=>some q) (fun y=>some y.1)) markTermS_only (fun _ _ _ _ _=>rfl) (fun _ _ _ _ _=>rfl) (fun _ _ _=>rfl) (fun _ _ _=>rfl) hx ha
 exact⟨y,h1⟩
theorem sum_four:∀(x:List (List Tm)),(x.map fun r=>4*r.length).sum=4*(x.map List.length).sum
 | []=>rfl
 | r::x=>by simp only [List.map_cons,List.sum_cons,sum_four x];omega
theorem Sized.marks4{a:List (List Tm)}(h:Sized a):101+(a.map fun r=>4*r.length).sum≤4000101:=by
 rw [sum_four];unfold Sized at h;omega

section
variable {V : Type}
theorem frame_sbl{W:Type}{a:List (List Tm)}{b:Bx}{S I:Nat→List (List Tm)→Bx→Option V}{C:Nat→V→V→Option Bool→Option Bool}{M:Nat→V→(W→Option Bool)→Option Bool}{H:Nat→W→Option Bool→Option Bool}{v:V}{w:W}(ha:a.length≤maxLen)(hm:∀x∈a,x.length≤maxLen)(h1:b.2.1.length≤maxLen)(h2:b.2.2.length≤maxLen)
  (hC:∀ {f:Nat→Nat→Option Bool} {r:Bool},Evt f r→Evt (fun k n=>C k v v (f k n)) r)
  (hM:∀ {f:Nat→Nat→W→Option Bool} {r:Bool},Evt (fun k n=>f k n w) r→Evt (fun k n=>M k v (f k n)) r) (hH:∀ {f:Nat→Nat→Option Bool} {r:Bool},Evt f r→Evt (fun k n=>H k w (f k n)) r)
  (hS:a.length<274877906944→(∀r∈a,r.length<lenB)→b.2.1.length<lenB→Evt (fun k _=>S k a b) v) (hI:a.length<lenB→(∀r∈a,r.length<lenB)→b.2.1.length<lenB→Evt (fun k _=>I k a b) v) :
  Evt (fun k _=>(Option.bind (laws_szTermSS k a 1000000) fun r1=>(bif (decide (r1<0))then some true else(Option.bind (laws_szBox b r1) fun r2=>(bif (decide (r2<0))then some true else(Option.bind (laws_toTermSS k a false) fun r3=>(Option.bind (laws_toBox k b false) fun r4=>(Option.bind (S k (r3.1.map fun z=>z.1) (r4.1,r4.2.1.1,r4.2.2.1)) fun r5=>(Option.bind (laws_toTermSS k a false) fun r6=>(Option.bind (laws_toBox k b false) fun r7=>(Option.bind (I k (r6.1.map fun z=>z.1) (r7.1,r7.2.1.1,r7.2.2.1)) fun r8=>C k r5 r8 (Option.bind (laws_toTermSS k a false) fun r10=>(Option.bind (laws_intactTermSS k r6 r10) fun r11=>(bif (!r11)then some false else(Option.bind (laws_toBox k b false) fun r12=>(Option.bind (laws_intactBox k r7 r12) fun r13=>(bif (!r13)then some false else
   (Option.bind (laws_markTermSS k (r6.1.map fun z=>z.1) 101) fun r14=>(Option.bind (laws_markBox k (r7.1,r7.2.1.1,r7.2.2.1) r14.1) fun r15=>(bif (decide (r15<0))then some false else C k r5 r8 (M k r8 fun w=>H k w (Option.bind (laws_toTermSS k a true) fun r19=>(Option.bind (laws_toBox k b true) fun r20=>(Option.bind (I k (r19.1.map fun z=>z.1) (r20.1,r20.2.1.1,r20.2.2.1)) fun r21=>C k r5 r21 (H k w (some true)))))))))))))))))))))))))) true:=by
 refine Evt.bind (szTermSS_ev (a:=1000000) ha hm (by omega)) ?_
 by_cases hz:a.length+(a.map List.length).sum≤1000000
 ·rw [if_pos hz]
  have hs:Sized a:=hz
  refine Evt.cfalse (by simp <;> omega) (Evt.bind (.const (szBox_eq h1 h2 (by omega))) ?_)
  by_cases hy:b.2.1.length+b.2.2.length≤1000000 - (a.length+(a.map List.length).sum)
  ·rw [if_pos hy]
   refine Evt.cfalse (by simp <;> omega) ?_
   have b1:b.2.1.length≤1000000:=by omega
   have b2:b.2.2.length≤1000000:=by omega
   have hr:∀r∈a,r.length<lenB:=fun r hr=>by have:=hs.row r hr;simp only [lenB];omega
   have hl:=hs.len
   have spec:=hS (by omega) hr (by simp only [lenB];omega)
   have impl:=hI (by simp only [lenB];omega) hr (by simp only [lenB];omega)
   have hm4:=hs.marks4
   obtain⟨y,hy1⟩:=markTermSS_ev (x:=a) (a:=101) (by simp only [lenB];omega) (by simp only [lenB];omega)
   have hb1:=markBox_ev (b:=b) (a:=101+(a.map fun r=>4*r.length).sum) (by simp only [lenB];omega)
   refine Evt.bind (toTermSS_ev hs.len hs.row) (Evt.bind (toBox_ev b1 b2) ?_)
   simp only [toV_rows,boxR_eq]
   refine Evt.bind spec (Evt.bind (toTermSS_ev hs.len hs.row) (Evt.bind (toBox_ev b1 b2) ?_))
   simp only [toV_rows,boxR_eq]
   refine Evt.bind impl (hC (Evt.bind (toTermSS_ev hs.len hs.row) (Evt.bind (intactT_ev hs) (Evt.cfalse rfl (Evt.bind (toBox_ev b1 b2) (Evt.bind (intactBox_ev b1 b2) (Evt.cfalse rfl ?_)))))))
   refine Evt.bind hy1 (Evt.bind hb1 (Evt.cfalse (by simp <;> omega) (hC (hM (hH (Evt.bind (toTermSS_ev hs.len hs.row) (Evt.bind (toBox_ev b1 b2) ?_)))))))
   simp only [toV_rows,boxR_eq]
   exact Evt.bind impl (hC (hH .pure))
  ·rw [if_neg hy]
   exact Evt.ctrue rfl .pure
 ·rw [if_neg hz]
  exact Evt.ctrue rfl .pure
end
structure Pl(s:List (List Tm)):Prop where
 ln:s.length=2
 tm:∀p∈s,∀t∈p,tmW t
 lp:∀p∈s,p.length<lenB
theorem Pl.sd{s:List (List Tm)}(h:Pl s){e:Ed}(he:EdOk e):Sd s (sidesE e):=Sd.edge h.tm h.lp he
end Go.Ev.G

namespace Go.Ev.G
open Go Go.Ev
set_option maxRecDepth 100000

theorem evt_100{α:Type}{f:Nat→Option α}{r:α}(h:∀k,f (k+100)=some r):Evt (fun k _=>f k) r:=⟨100,fun k n hk _=>by
 obtain⟨m,rfl⟩:∃m,k=m+100:=⟨k - 100,by omega⟩
 exact h m⟩
end Go.Ev.G

namespace Go.Ev.G
open Go Go.Ev
set_option maxRecDepth 100000

def chN:Nat→Nat→Nat
 | _,0=>1
 | 0,_+1=>0
 | n+1,j+1=>chN n j+chN n (j+1)
theorem nj_cases{n j:Nat}(hn:n≤4)(hj:j≤n){P:Nat→Nat→Prop}(h:∀a ∈ [(0,0),(1,0),(1,1),(2,0),(2,1),(2,2),(3,0),(3,1),(3,2),(3,3),(4,0),(4,1),(4,2),(4,3),(4,4)],P a.1 a.2):P n j:=by
 rcases(by omega:n=0∨n=1∨n=2∨n=3∨n=4)with rfl | rfl | rfl | rfl | rfl
 ·obtain rfl:j=0:=by omega
  exact h (0,0) (by simp)
 ·rcases(by omega:j=0∨j=1)with rfl | rfl
  ·exact h (1,0) (by simp)
  ·exact h (1,1) (by simp)
 ·rcases(by omega:j=0∨j=1∨j=2)with rfl | rfl | rfl
  ·exact h (2,0) (by simp)
  ·exact h (2,1) (by simp)
  ·exact h (2,2) (by simp)
 ·rcases(by omega:j=0∨j=1∨j=2∨j=3)with rfl | rfl | rfl | rfl
  ·exact h (3,0) (by simp)
  ·exact h (3,1) (by simp)
  ·exact h (3,2) (by simp)
  ·exact h (3,3) (by simp)
 ·rcases(by omega:j=0∨j=1∨j=2∨j=3∨j=4)with rfl | rfl | rfl | rfl | rfl
  ·exact h (4,0) (by simp)
  ·exact h (4,1) (by simp)
  ·exact h (4,2) (by simp)
  ·exact h (4,3) (by simp)
  ·exact h (4,4) (by simp)
theorem chN_bd{n j:Nat}(hn:n≤4)(hj:j≤n):1≤chN n j∧chN n j≤6:=nj_cases (P:=fun n j=>1≤chN n j∧chN n j≤6) hn hj (by decide)
theorem choose_ev{n j:Nat}(hn:n≤4)(hj:j≤n):Evt (fun k _=>impl_choose k (n:Int) (j:Int)) (chN n j:Int):=by
 refine evt_100 (fun k => ?_)
 refine nj_cases (P:=fun n j=>impl_choose (k+100) (n:Int) (j:Int)=some (chN n j:Int)) hn hj ?_
 simp only [List.mem_cons,List.not_mem_nil,or_false,forall_eq_or_imp,forall_eq]
 exact⟨by kernel_rfl,by kernel_rfl,by kernel_rfl,by kernel_rfl,by kernel_rfl,by kernel_rfl,by kernel_rfl,by kernel_rfl,by kernel_rfl,by kernel_rfl,by kernel_rfl,by kernel_rfl,by kernel_rfl,by kernel_rfl,by kernel_rfl⟩
theorem beChoose_ev{n j:Nat}(hn:n≤4)(hj:j≤n):Evt (fun k _=>spec_beChoose k (n:Int) (j:Int)) (chN n j:Int):=by
 refine evt_100 (fun k => ?_)
 refine nj_cases (P:=fun n j=>spec_beChoose (k+100) (n:Int) (j:Int)=some (chN n j:Int)) hn hj ?_
 simp only [List.mem_cons,List.not_mem_nil,or_false,forall_eq_or_imp,forall_eq]
 exact⟨by kernel_rfl,by kernel_rfl,by kernel_rfl,by kernel_rfl,by kernel_rfl,by kernel_rfl,by kernel_rfl,by kernel_rfl,by kernel_rfl,by kernel_rfl,by kernel_rfl,by kernel_rfl,by kernel_rfl,by kernel_rfl,by kernel_rfl⟩

structure Ok(n j:Nat)(l:List Tm):Prop where
 gd:∀t∈l,tmGd t
 er:∀t∈l,t.2.1+t.2.2.1<n∨(t.2.1+t.2.2.1=n∧t.2.2.1<j)
 z:∀t∈l,t.2.2.2=0
 pw:l.Pairwise fun a b=>keyT a≠keyT b
 len:2*l.length≤n*(n+1)+2*j
theorem Ok.key{n j:Nat}{l:List Tm}(h:Ok n j l)(hn:n≤4)(hj:j≤n){t:Tm}(ht:t.2=(((n - j:Nat):Int),(j:Int),0)):∀r∈l,keyT r≠keyT t:=by
 intro r hr
 have g:=h.gd r hr
 have e:=h.er r hr
 have z:=h.z r hr
 unfold keyT
 rw [ht,z]
 simp only
 obtain⟨_,g1,g2,_,_⟩:=g
 omega
theorem Ok.nil:Ok 0 0 []:=⟨by simp,by simp,by simp,List.Pairwise.nil,by simp⟩

end Go.Ev.G

namespace Go.Ev.G
open Go Go.Ev
set_option maxRecDepth 100000

theorem wrap_eq{a b:Int}:IntKind.wrap .i64 a=IntKind.wrap .i64 b↔a % 18446744073709551616=b % 18446744073709551616:=by
 rw [IntKind.wrap_i64,IntKind.wrap_i64]
 omega
theorem wrap_mod(a:Int):IntKind.wrap .i64 a % 18446744073709551616=a % 18446744073709551616:=by
 rw [IntKind.wrap_i64]
 omega
theorem wr_add(a b:Int):IntKind.wrap .i64 (IntKind.wrap .i64 a+IntKind.wrap .i64 b)=IntKind.wrap .i64 (a+b):=by
 rw [wrap_eq,Int.add_emod,wrap_mod,wrap_mod,←Int.add_emod]
theorem wr_addl(a b:Int):IntKind.wrap .i64 (IntKind.wrap .i64 a+b)=IntKind.wrap .i64 (a+b):=by
 rw [wrap_eq,Int.add_emod,wrap_mod,←Int.add_emod]
theorem wr_addr(a b:Int):IntKind.wrap .i64 (a+IntKind.wrap .i64 b)=IntKind.wrap .i64 (a+b):=by
 rw [wrap_eq,Int.add_emod,wrap_mod,←Int.add_emod]
theorem wr_mull(a b:Int):IntKind.wrap .i64 (IntKind.wrap .i64 a*b)=IntKind.wrap .i64 (a*b):=by
 rw [wrap_eq,Int.mul_emod,wrap_mod,←Int.mul_emod]
theorem wr_mulr(a b:Int):IntKind.wrap .i64 (a*IntKind.wrap .i64 b)=IntKind.wrap .i64 (a*b):=by
 rw [wrap_eq,Int.mul_emod,wrap_mod,←Int.mul_emod]

def sm(n:Nat)(f:Nat→Int):Int:=((List.range n).map f).sum
theorem sm_succ(n:Nat)(f:Nat→Int):sm (n+1) f=sm n f+f n:=by
 unfold sm
 rw [List.range_succ,List.map_append,List.sum_append]
 simp
theorem sm_zero(f:Nat→Int):sm 0 f=0:=rfl
theorem sm_congr{n:Nat}{f g:Nat→Int}(h:∀i,i<n→f i=g i):sm n f=sm n g:=by
 induction n with
 | zero=>rfl
 | succ n ih=>rw [sm_succ,sm_succ,ih (fun i hi=>h i (by omega)),h n (by omega)]
theorem sm_wrap(n:Nat)(f:Nat→Int):IntKind.wrap .i64 (sm n fun i=>IntKind.wrap .i64 (f i))=IntKind.wrap .i64 (sm n f):=by
 induction n with
 | zero=>rfl
 | succ n ih=>rw [sm_succ,sm_succ,←wr_addl,ih,wr_add]
theorem sm_wmul(n:Nat)(w f:Nat→Int):IntKind.wrap .i64 (sm n fun i=>w i*IntKind.wrap .i64 (f i))=IntKind.wrap .i64 (sm n fun i=>w i*f i):=by
 rw [←sm_wrap,←sm_wrap n (fun i=>w i*f i)]
 congr 1
 exact sm_congr (fun i _=>by rw [wr_mulr])
theorem sm_head{n:Nat}{f:Nat→Int}(h:∀i,1≤i→i<n+1→f i=0):sm (n+1) f=f 0:=by
 induction n with
 | zero=>simp [sm]
 | succ n ih=>rw [sm_succ,ih (fun i h1 h2=>h i h1 (by omega)),h (n+1) (by omega) (by omega),Int.add_zero]
theorem sm_mul(n:Nat)(c:Int)(f:Nat→Int):sm n (fun i=>c*f i)=c*sm n f:=by
 induction n with
 | zero=>simp [sm]
 | succ n ih=>rw [sm_succ,sm_succ,ih,Int.mul_add]
def sN(n:Nat)(f:Nat→Nat):Nat:=((List.range n).map f).sum
theorem sN_succ(n:Nat)(f:Nat→Nat):sN (n+1) f=sN n f+f n:=by
 unfold sN
 rw [List.range_succ,List.map_append,List.sum_append]
 simp
theorem sN_le{n:Nat}{f g:Nat→Nat}(h:∀i,i<n→f i≤g i):sN n f≤sN n g:=by
 induction n with
 | zero=>simp [sN]
 | succ n ih =>
  have h1:=ih (fun i hi=>h i (by omega))
  have h2:=h n (by omega)
  rw [sN_succ,sN_succ]
  omega
theorem sN_mul(n c:Nat)(f:Nat→Nat):sN n (fun i=>c*f i)=c*sN n f:=by
 induction n with
 | zero=>simp [sN]
 | succ n ih=>rw [sN_succ,sN_succ,ih,Nat.mul_add]
theorem sN_add(n:Nat)(f g:Nat→Nat):sN n (fun i=>f i+g i)=sN n f+sN n g:=by
 induction n with
 | zero=>simp [sN]
 | succ n ih=>rw [sN_succ,sN_succ,sN_succ,ih];omega
theorem sm_abs{n:Nat}{f:Nat→Int}:(sm n f).natAbs≤sN n fun i=>(f i).natAbs:=by
 induction n with
 | zero=>simp [sm,sN]
 | succ n ih=>rw [sm_succ,sN_succ];omega

def gr(a b c:Nat)(f:Nat→Nat→Nat→Int):List Int:=(List.range (a*b*c)).map fun q=>f (q / c / b) (q / c % b) (q % c)
def ix(b c x y z:Nat):Nat:=(x*b+y)*c+z
theorem gr_len{a b c:Nat}{f:Nat→Nat→Nat→Int}:(gr a b c f).length=a*b*c:=by simp [gr]
theorem ix_dec{b c x y z:Nat}(hy:y<b)(hz:z<c):ix b c x y z / c / b=x∧ix b c x y z / c % b=y∧ix b c x y z % c=z:=by
 have h1:ix b c x y z / c=x*b+y:=by
  unfold ix
  rw [Nat.add_comm,Nat.add_mul_div_right _ _ (by omega),Nat.div_eq_of_lt hz,Nat.zero_add]
 have h2:ix b c x y z % c=z:=by
  unfold ix
  rw [Nat.add_comm,Nat.add_mul_mod_self_right,Nat.mod_eq_of_lt hz]
 refine⟨?_,?_,h2⟩
 ·rw [h1,Nat.add_comm,Nat.add_mul_div_right _ _ (by omega),Nat.div_eq_of_lt hy,Nat.zero_add]
 ·rw [h1,Nat.add_comm,Nat.add_mul_mod_self_right,Nat.mod_eq_of_lt hy]
theorem ix_lt{a b c x y z:Nat}(hx:x<a)(hy:y<b)(hz:z<c):ix b c x y z<a*b*c:=by
 unfold ix
 have h1:x*b+y<a*b:=by
  have:(x+1)*b≤a*b:=Nat.mul_le_mul_right _ hx
  rw [Nat.add_mul]at this
  omega
 have h2:(x*b+y+1)*c≤a*b*c:=Nat.mul_le_mul_right _ h1
 rw [Nat.add_mul (x*b+y) 1 c]at h2
 omega
theorem ix_code{b c q:Nat}:ix b c (q / c / b) (q / c % b) (q % c)=q:=by
 unfold ix
 rw [Nat.mul_comm (q / c / b) b,Nat.div_add_mod,Nat.mul_comm (q / c) c,Nat.div_add_mod]
theorem dec_lt{a b c q:Nat}(h:q<a*b*c):q / c / b<a∧q / c % b<b∧q % c<c:=by
 have hc:0<c:=Nat.pos_of_ne_zero (fun e=>by subst e;simp at h)
 have hb:0<b:=Nat.pos_of_ne_zero (fun e=>by subst e;simp at h)
 refine⟨?_,Nat.mod_lt _ hb,Nat.mod_lt _ hc⟩
 rw [Nat.div_lt_iff_lt_mul hb,Nat.div_lt_iff_lt_mul hc]
 exact h
theorem gr_get{a b c x y z:Nat}{f:Nat→Nat→Nat→Int}(hx:x<a)(hy:y<b)(hz:z<c):(gr a b c f).getD (ix b c x y z) 0=f x y z:=by
 have h:=ix_lt hx hy hz
 obtain⟨d1,d2,d3⟩:=ix_dec (x:=x) hy hz
 unfold gr
 rw [List.getD_eq_getElem?_getD,List.getElem?_map,List.getElem?_range h]
 simp only [Option.map_some,Option.getD_some,d1,d2,d3]
theorem gr_congr{a b c:Nat}{f g:Nat→Nat→Nat→Int}(h:∀x y z,x<a→y<b→z<c→f x y z=g x y z):gr a b c f=gr a b c g:=by
 unfold gr
 apply List.map_congr_left
 intro q hq
 obtain⟨h1,h2,h3⟩:=dec_lt (List.mem_range.1 hq)
 exact h _ _ _ h1 h2 h3
theorem gr_set{a b c x y z:Nat}{f:Nat→Nat→Nat→Int}(hy:y<b)(hz:z<c){v:Int}:(gr a b c f).set (ix b c x y z) v=gr a b c fun x' y' z'=>if x'=x∧y'=y∧z'=z then v else f x' y' z':=by
 obtain⟨d1,d2,d3⟩:=ix_dec (x:=x) hy hz
 apply List.ext_getElem
 ·simp [gr]
 ·intro q h1 h2
  simp only [gr,List.getElem_set,List.getElem_map,List.getElem_range]
  by_cases hq:ix b c x y z=q
  ·subst hq
   rw [if_pos rfl,d1,d2,d3,if_pos ⟨rfl,rfl,rfl⟩]
  ·rw [if_neg hq,if_neg]
   rintro⟨e1,e2,e3⟩
   apply hq
   rw [←e1,←e2,←e3]
   exact ix_code
theorem gr_mem{a b c:Nat}{f:Nat→Nat→Nat→Int}{v:Int}(h:v∈gr a b c f):∃x y z,x<a∧y<b∧z<c∧v=f x y z:=by
 obtain⟨q,hq,rfl⟩:=List.mem_map.1 h
 obtain⟨h1,h2,h3⟩:=dec_lt (List.mem_range.1 hq)
 exact⟨_,_,_,h1,h2,h3,rfl⟩
theorem mem_gr{a b c x y z:Nat}{f:Nat→Nat→Nat→Int}(hx:x<a)(hy:y<b)(hz:z<c):f x y z∈gr a b c f:=by
 obtain⟨d1,d2,d3⟩:=ix_dec (x:=x) hy hz
 refine List.mem_map.2 ⟨ix b c x y z,List.mem_range.2 (ix_lt hx hy hz),?_⟩
 rw [d1,d2,d3]
end Go.Ev.G

namespace Go.Ev.G
open Go Go.Ev
set_option maxRecDepth 100000

theorem least_eq(a b:Int):spec_l1Least a b=some (min a b):=by
 unfold spec_l1Least
 by_cases h:a<b
 ·rw [decide_eq_true h,cond_true];congr 1;omega
 ·rw [decide_eq_false h,cond_false];congr 1;omega
theorem pow_loop{b:Int}:∀(m:Nat) (c:Int),m≤1000→Evt (fun k n=>spec_bePower_L28 k n b (m:Int) (IntKind.wrap .i64 c)) (.inr (IntKind.wrap .i64 (c*b ^ m),())):=by
 intro m
 induction m with
 | zero =>
  intro c _
  refine Evt.step (fun k n=>spec_bePower_L28.eq_2 k _ _ _ n) ?_
  rw [Int.pow_zero,Int.mul_one]
  exact Evt.cfalse (by decide) .pure
 | succ m ih =>
  intro c hm
  have ih:=ih (c*b) (by omega)
  rw [Int.mul_assoc,←Int.pow_succ']at ih
  refine Evt.step (fun k n=>spec_bePower_L28.eq_2 k _ _ _ n) ?_
  rw [wr_mull,w64 (n:=((m+1:Nat):Int) - 1) (by omega) (by omega),show((m+1:Nat):Int) - 1=(m:Int)by omega]
  exact Evt.ctrue (decide_eq_true (by omega)) ih
theorem bePow_ev2{b:Int}{e:Nat}(he:e≤1000):Evt (fun k _=>spec_bePower k b (e:Int)) (IntKind.wrap .i64 (b ^ e)):=by
 refine Evt.eq (f:=fun k q=>_) ?_ (fun k q=>by rw [spec_bePower])
 have h:=pow_loop (b:=b) e 1 he
 rw [Int.one_mul]at h
 have e1:IntKind.wrap .i64 1=1:=by decide
 rw [e1]at h
 exact Evt.inr (Evt.diag h) .pure
def pt(l w:Int)(e j:Nat):Int:=chN e j*l ^ (e - j)*w ^ j
theorem chN_zero:∀ {n j:Nat},n<j→chN n j=0
 | 0,j+1,_=>rfl
 | n+1,j+1,h=>by
  rw [chN,chN_zero (n:=n) (j:=j) (by omega),chN_zero (n:=n) (j:=j+1) (by omega)]
theorem pt_zero{l w:Int}{e j:Nat}(h:e<j):pt l w e j=0:=by unfold pt;rw [chN_zero h];simp
theorem bePart_ev{l h:Int}{e j:Nat}(he:e≤4)(hj:j≤e)(hl:l.natAbs≤128)(hh:h.natAbs≤128):Evt (fun k _=>spec_bePart k l h (e:Int) (j:Int)) (IntKind.wrap .i64 (pt l (h - l) e j)):=by
 refine Evt.eq (f:=fun k q=>_) ?_ (fun k q=>by rw [spec_bePart])
 rw [w64 (n:=(e:Int) - j) (by omega) (by omega),w64 (n:=h - l) (by omega) (by omega),show(e:Int) - j=((e - j:Nat):Int)by omega]
 refine Evt.bind (beChoose_ev he hj) (Evt.bind (bePow_ev2 (by omega)) (Evt.bind (bePow_ev2 (by omega)) ?_))
 simp only [wr_mull,wr_mulr]
 exact .pure

def lst3(g:Nat→Int):List Int := [g 0,g 1,g 2]
theorem lst3_set{g:Nat→Int}{d:Nat}{v:Int}(h:d<3):(lst3 g).set d v=lst3 fun i=>if i=d then v else g i:=by
 rcases(by omega:d=0∨d=1∨d=2)with rfl | rfl | rfl <;> rfl
theorem lst3_congr{g g':Nat→Int}(h:∀i,i<3→g i=g' i):lst3 g=lst3 g':=by
 unfold lst3
 rw [h 0 (by omega),h 1 (by omega),h 2 (by omega)]

def eN(t:Tm)(i:Nat):Nat:=(pw t i).toNat
theorem eN_pw{t:Tm}(h:tmGd t)(i:Nat):((eN t i:Nat):Int)=pw t i∧eN t i≤4:=by
 obtain⟨_,h1,h2,h3,_⟩:=h
 unfold eN pw
 split
 ·omega
 ·split <;> omega
theorem eN0{t:Tm}(h:tmGd t):t.2.1=(eN t 0:Int):=(eN_pw h 0).1.symm
theorem eN1{t:Tm}(h:tmGd t):t.2.2.1=(eN t 1:Int):=(eN_pw h 1).1.symm
theorem eN2{t:Tm}(h:tmGd t):t.2.2.2=(eN t 2:Int):=(eN_pw h 2).1.symm
theorem eN_deg{t:Tm}(h:tmGd t):eN t 0+eN t 1+eN t 2≤4:=by
 have:=h.2.2.2.2
 rw [eN0 h,eN1 h,eN2 h]at this
 omega

structure GC(D:Nat→Nat)(L H:Nat→Int):Prop where
 d:∀i,D i≤4
 l:∀i,(L i).natAbs≤128
 h:∀i,(H i).natAbs≤128
def prt(L H:Nat→Int)(t:Tm)(i j:Nat):Int:=pt (L i) (H i - L i) (eN t i) j
def av(L H:Nat→Int)(t:Tm)(C:Int)(x y z:Nat):Int:=C*prt L H t 0 x*prt L H t 1 y*prt L H t 2 z
theorem vol_le{D:Nat→Nat}(h:∀i,D i≤4):(D 0+1)*(D 1+1)*(D 2+1)≤125:=by
 have h0:=h 0
 have h1:=h 1
 have h2:=h 2
 exact Nat.mul_le_mul (Nat.mul_le_mul (show D 0+1≤5 by omega) (show D 1+1≤5 by omega)) (show D 2+1≤5 by omega)
theorem beAt_eq{D:Nat→Nat}(h:∀i,D i≤4){x y z:Nat}(hx:x≤D 0)(hy:y≤D 1)(hz:z≤D 2):spec_beAt (lst3 fun i=>(D i:Int)) (x:Int) (y:Int) (z:Int)=some ((ix (D 1+1) (D 2+1) x y z:Nat):Int):=by
 unfold spec_beAt
 have h1:=h 1
 have h2:=h 2
 have hv:=vol_le h
 have hi:=ix_lt (a:=D 0+1) (b:=D 1+1) (c:=D 2+1) (x:=x) (y:=y) (z:=z) (by omega) (by omega) (by omega)
 have e1:(lst3 fun i=>(D i:Int)).getD 1 0=(D 1:Int):=rfl
 have e2:(lst3 fun i=>(D i:Int)).getD 2 0=(D 2:Int):=rfl
 rw [e1,e2]
 simp only [wr_mull,wr_mulr,wr_addl]
 have e3:((x:Int)*((D 1:Int)+1)+y)*((D 2:Int)+1)+z=((ix (D 1+1) (D 2+1) x y z:Nat):Int):=by unfold ix;simp
 rw [e3,w64 (by omega) (by omega)]
 rfl

theorem z_loop{D:Nat→Nat}{L H:Nat→Int}(g:GC D L H){t:Tm}(ht:tmGd t){C:Int}{x y m2:Nat}(hx:x≤eN t 0∧x≤D 0)(hy:y≤eN t 1∧y≤D 1)(hm2:m2=min (eN t 2) (D 2))(x0:List Tm)(x3:Int)(x62:List Tm)(x63 x64:Int):∀(m z:Nat) (f:Nat→Nat→Nat→Int),z+m=m2+1 →
  Evt (fun k n=>spec_beGrid_L1062003858 k n x0 x3 (lst3 fun i=>(D i:Int)) (gr (D 0+1) (D 1+1) (D 2+1) f) (lst3 L) (lst3 H) t (IntKind.wrap .i64 C) (x:Int) (y:Int) (z:Int) x62 x63 x64)
   (.inr (x0,x3,lst3 (fun i=>(D i:Int)),gr (D 0+1) (D 1+1) (D 2+1) (fun x' y' z'=>if x'=x∧y'=y∧z≤z'∧z'≤m2 then IntKind.wrap .i64 (f x' y' z'+av L H t C x' y' z')else f x' y' z'),lst3 L,lst3 H,t,IntKind.wrap .i64 C,(x:Int),(y:Int),x62,x63,x64,())):=by
 intro m
 induction m with
 | zero =>
  intro z f h
  refine Evt.step (fun k n=>spec_beGrid_L1062003858.eq_2 k _ _ _ _ _ _ _ _ _ _ _ _ _ _ n) ?_
  have e2:(lst3 fun i=>(D i:Int)).getD 2 0=(D 2:Int):=rfl
  rw [eN2 ht,e2]
  refine Evt.ctrue rfl (Evt.bind (.const (least_eq _ _)) (Evt.cfalse (decide_eq_false (by omega)) ?_))
  have e3:gr (D 0+1) (D 1+1) (D 2+1) (fun x' y' z'=>if x'=x∧y'=y∧z≤z'∧z'≤m2 then IntKind.wrap .i64 (f x' y' z'+av L H t C x' y' z')else f x' y' z')=gr (D 0+1) (D 1+1) (D 2+1) f:=gr_congr (fun a b c _ _ _=>by rw [if_neg];omega)
  rw [e3]
  exact .pure
 | succ m ih =>
  intro z f h
  have hz:z≤m2:=by omega
  have d0:=g.d 0
  have d1:=g.d 1
  have d2:=g.d 2
  have hv:=vol_le g.d
  have hi:=ix_lt (a:=D 0+1) (b:=D 1+1) (c:=D 2+1) (x:=x) (y:=y) (z:=z) (by omega) (by omega) (by omega)
  have ih:=ih (z+1) (fun x' y' z'=>if x'=x∧y'=y∧z'=z then IntKind.wrap .i64 (f x y z+av L H t C x y z)else f x' y' z') (by omega)
  have e4:gr (D 0+1) (D 1+1) (D 2+1) (fun x' y' z'=>if x'=x∧y'=y∧z+1≤z'∧z'≤m2 then IntKind.wrap .i64 ((if x'=x∧y'=y∧z'=z then IntKind.wrap .i64 (f x y z+av L H t C x y z)else f x' y' z')+av L H t C x' y' z')else if x'=x∧y'=y∧z'=z then IntKind.wrap .i64 (f x y z+av L H t C x y z)else f x' y' z')=gr (D 0+1) (D 1+1) (D 2+1) (fun x' y' z'=>if x'=x∧y'=y∧z≤z'∧z'≤m2 then IntKind.wrap .i64 (f x' y' z'+av L H t C x' y' z')else f x' y' z'):=by
   refine gr_congr (fun a b c _ _ _ => ?_)
   by_cases h1:a=x∧b=y∧z+1≤c∧c≤m2
   ·rw [if_pos h1,if_neg (by omega),if_pos (by omega)]
   ·rw [if_neg h1]
    by_cases h2:a=x∧b=y∧c=z
    ·rw [if_pos h2,if_pos (by omega)]
     obtain⟨rfl,rfl,rfl⟩:=h2
     rfl
    ·rw [if_neg h2,if_neg (by omega)]
  rw [e4]at ih
  refine Evt.step (fun k n=>spec_beGrid_L1062003858.eq_2 k _ _ _ _ _ _ _ _ _ _ _ _ _ _ n) ?_
  have e2:(lst3 fun i=>(D i:Int)).getD 2 0=(D 2:Int):=rfl
  have g0:(lst3 L).getD 0 0=L 0:=rfl
  have g1:(lst3 L).getD 1 0=L 1:=rfl
  have g2:(lst3 L).getD 2 0=L 2:=rfl
  have k0:(lst3 H).getD 0 0=H 0:=rfl
  have k1:(lst3 H).getD 1 0=H 1:=rfl
  have k2:(lst3 H).getD 2 0=H 2:=rfl
  rw [eN0 ht,eN1 ht,eN2 ht,e2,g0,g1,g2,k0,k1,k2]
  have p0:=bePart_ev (l:=L 0) (h:=H 0) (e:=eN t 0) (j:=x) (eN_pw ht 0).2 hx.1 (g.l 0) (g.h 0)
  have p1:=bePart_ev (l:=L 1) (h:=H 1) (e:=eN t 1) (j:=y) (eN_pw ht 1).2 hy.1 (g.l 1) (g.h 1)
  have p2:=bePart_ev (l:=L 2) (h:=H 2) (e:=eN t 2) (j:=z) (eN_pw ht 2).2 (by omega) (g.l 2) (g.h 2)
  refine Evt.ctrue rfl (Evt.bind (.const (least_eq _ _)) (Evt.ctrue (decide_eq_true (by omega)) (Evt.bind (.const (beAt_eq g.d hx.2 hy.2 (by omega))) (Evt.ctrue mid_ge (Evt.ctrue (decide_eq_true (by rw [gr_len];omega)) (Evt.ctrue rfl (Evt.ctrue rfl (Evt.bind p0 (Evt.ctrue rfl (Evt.ctrue rfl (Evt.bind p1 (Evt.ctrue rfl (Evt.ctrue rfl (Evt.bind p2 (Evt.ctrue mid_ge (Evt.ctrue (decide_eq_true (by rw [gr_len];omega)) ?_))))))))))))))))
  rw [Int.toNat_natCast,gr_get (by omega) (by omega) (by omega),gr_set (by omega) (by omega),w64_next (by simp only [lenB];omega)]
  simp only [wr_mull,wr_mulr,wr_addr]
  exact ih
end Go.Ev.G

namespace Go.Ev.G
open Go Go.Ev
set_option maxRecDepth 100000

theorem y_loop{D:Nat→Nat}{L H:Nat→Int}(g:GC D L H){t:Tm}(ht:tmGd t){C:Int}{x m1 m2:Nat}(hx:x≤eN t 0∧x≤D 0)(hm1:m1=min (eN t 1) (D 1))(hm2:m2=min (eN t 2) (D 2))(x0:List Tm)(x3:Int)(x62:List Tm)(x63 x64:Int):∀(m y:Nat) (f:Nat→Nat→Nat→Int),y+m=m1+1 →
  Evt (fun k n=>spec_beGrid_L16593810 k n x0 x3 (lst3 fun i=>(D i:Int)) (gr (D 0+1) (D 1+1) (D 2+1) f) (lst3 L) (lst3 H) t (IntKind.wrap .i64 C) (x:Int) (y:Int) x62 x63 x64)
   (.inr (x0,x3,lst3 (fun i=>(D i:Int)),gr (D 0+1) (D 1+1) (D 2+1) (fun x' y' z'=>if x'=x∧y≤y'∧y'≤m1∧z'≤m2 then IntKind.wrap .i64 (f x' y' z'+av L H t C x' y' z')else f x' y' z'),lst3 L,lst3 H,t,IntKind.wrap .i64 C,(x:Int),x62,x63,x64,())):=by
 intro m
 induction m with
 | zero =>
  intro y f h
  refine Evt.step (fun k n=>spec_beGrid_L16593810.eq_2 k _ _ _ _ _ _ _ _ _ _ _ _ _ n) ?_
  have e2:(lst3 fun i=>(D i:Int)).getD 1 0=(D 1:Int):=rfl
  rw [eN1 ht,e2]
  refine Evt.ctrue rfl (Evt.bind (.const (least_eq _ _)) (Evt.cfalse (decide_eq_false (by omega)) ?_))
  have e3:gr (D 0+1) (D 1+1) (D 2+1) (fun x' y' z'=>if x'=x∧y≤y'∧y'≤m1∧z'≤m2 then IntKind.wrap .i64 (f x' y' z'+av L H t C x' y' z')else f x' y' z')=gr (D 0+1) (D 1+1) (D 2+1) f:=gr_congr (fun a b c _ _ _=>by rw [if_neg];omega)
  rw [e3]
  exact .pure
 | succ m ih =>
  intro y f h
  have hy:y≤m1:=by omega
  have d1:=g.d 1
  have hz:=z_loop g ht (C:=C) hx (y:=y) ⟨by omega,by omega⟩ hm2 x0 x3 x62 x63 x64 (m2+1) 0 f (by omega)
  have ih:=ih (y+1) (fun x' y' z'=>if x'=x∧y'=y∧0≤z'∧z'≤m2 then IntKind.wrap .i64 (f x' y' z'+av L H t C x' y' z')else f x' y' z') (by omega)
  have e4:gr (D 0+1) (D 1+1) (D 2+1) (fun x' y' z'=>if x'=x∧y+1≤y'∧y'≤m1∧z'≤m2 then IntKind.wrap .i64 ((if x'=x∧y'=y∧0≤z'∧z'≤m2 then IntKind.wrap .i64 (f x' y' z'+av L H t C x' y' z')else f x' y' z')+av L H t C x' y' z')else if x'=x∧y'=y∧0≤z'∧z'≤m2 then IntKind.wrap .i64 (f x' y' z'+av L H t C x' y' z')else f x' y' z')=gr (D 0+1) (D 1+1) (D 2+1) (fun x' y' z'=>if x'=x∧y≤y'∧y'≤m1∧z'≤m2 then IntKind.wrap .i64 (f x' y' z'+av L H t C x' y' z')else f x' y' z'):=by
   refine gr_congr (fun a b c _ _ _ => ?_)
   by_cases h1:a=x∧y+1≤b∧b≤m1∧c≤m2
   ·rw [if_pos h1,if_neg (by omega),if_pos (by omega)]
   ·rw [if_neg h1]
    by_cases h2:a=x∧b=y∧0≤c∧c≤m2
    ·rw [if_pos h2,if_pos (by omega)]
    ·rw [if_neg h2,if_neg (by omega)]
  rw [e4]at ih
  refine Evt.step (fun k n=>spec_beGrid_L16593810.eq_2 k _ _ _ _ _ _ _ _ _ _ _ _ _ n) ?_
  have e2:(lst3 fun i=>(D i:Int)).getD 1 0=(D 1:Int):=rfl
  rw [eN1 ht,e2]
  refine Evt.ctrue rfl (Evt.bind (.const (least_eq _ _)) (Evt.ctrue (decide_eq_true (by omega)) (Evt.inr (Evt.diag hz) ?_)))
  simp only
  rw [w64_next (by simp only [lenB];omega)]
  exact ih
theorem x_loop{D:Nat→Nat}{L H:Nat→Int}(g:GC D L H){t:Tm}(ht:tmGd t){C:Int}{m0 m1 m2:Nat}(hm0:m0=min (eN t 0) (D 0))(hm1:m1=min (eN t 1) (D 1))(hm2:m2=min (eN t 2) (D 2))(x0:List Tm)(x3:Int)(x62:List Tm)(x63 x64:Int):∀(m x:Nat) (f:Nat→Nat→Nat→Int),x+m=m0+1 →
  Evt (fun k n=>spec_beGrid_L259278 k n x0 x3 (lst3 fun i=>(D i:Int)) (gr (D 0+1) (D 1+1) (D 2+1) f) (lst3 L) (lst3 H) t (IntKind.wrap .i64 C) (x:Int) x62 x63 x64)
   (.inr (x0,x3,lst3 (fun i=>(D i:Int)),gr (D 0+1) (D 1+1) (D 2+1) (fun x' y' z'=>if x≤x'∧x'≤m0∧y'≤m1∧z'≤m2 then IntKind.wrap .i64 (f x' y' z'+av L H t C x' y' z')else f x' y' z'),lst3 L,lst3 H,x62,x63,x64,())):=by
 intro m
 induction m with
 | zero =>
  intro x f h
  refine Evt.step (fun k n=>spec_beGrid_L259278.eq_2 k _ _ _ _ _ _ _ _ _ _ _ _ n) ?_
  have e2:(lst3 fun i=>(D i:Int)).getD 0 0=(D 0:Int):=rfl
  rw [eN0 ht,e2]
  refine Evt.ctrue rfl (Evt.bind (.const (least_eq _ _)) (Evt.cfalse (decide_eq_false (by omega)) ?_))
  have e3:gr (D 0+1) (D 1+1) (D 2+1) (fun x' y' z'=>if x≤x'∧x'≤m0∧y'≤m1∧z'≤m2 then IntKind.wrap .i64 (f x' y' z'+av L H t C x' y' z')else f x' y' z')=gr (D 0+1) (D 1+1) (D 2+1) f:=gr_congr (fun a b c _ _ _=>by rw [if_neg];omega)
  rw [e3]
  exact .pure
 | succ m ih =>
  intro x f h
  have hx:x≤m0:=by omega
  have d0:=g.d 0
  have hy:=y_loop g ht (C:=C) (x:=x) ⟨by omega,by omega⟩ hm1 hm2 x0 x3 x62 x63 x64 (m1+1) 0 f (by omega)
  have ih:=ih (x+1) (fun x' y' z'=>if x'=x∧0≤y'∧y'≤m1∧z'≤m2 then IntKind.wrap .i64 (f x' y' z'+av L H t C x' y' z')else f x' y' z') (by omega)
  have e4:gr (D 0+1) (D 1+1) (D 2+1) (fun x' y' z'=>if x+1≤x'∧x'≤m0∧y'≤m1∧z'≤m2 then IntKind.wrap .i64 ((if x'=x∧0≤y'∧y'≤m1∧z'≤m2 then IntKind.wrap .i64 (f x' y' z'+av L H t C x' y' z')else f x' y' z')+av L H t C x' y' z')else if x'=x∧0≤y'∧y'≤m1∧z'≤m2 then IntKind.wrap .i64 (f x' y' z'+av L H t C x' y' z')else f x' y' z')=gr (D 0+1) (D 1+1) (D 2+1) (fun x' y' z'=>if x≤x'∧x'≤m0∧y'≤m1∧z'≤m2 then IntKind.wrap .i64 (f x' y' z'+av L H t C x' y' z')else f x' y' z'):=by
   refine gr_congr (fun a b c _ _ _ => ?_)
   by_cases h1:x+1≤a∧a≤m0∧b≤m1∧c≤m2
   ·rw [if_pos h1,if_neg (by omega),if_pos (by omega)]
   ·rw [if_neg h1]
    by_cases h2:a=x∧0≤b∧b≤m1∧c≤m2
    ·rw [if_pos h2,if_pos (by omega)]
    ·rw [if_neg h2,if_neg (by omega)]
  rw [e4]at ih
  refine Evt.step (fun k n=>spec_beGrid_L259278.eq_2 k _ _ _ _ _ _ _ _ _ _ _ _ n) ?_
  have e2:(lst3 fun i=>(D i:Int)).getD 0 0=(D 0:Int):=rfl
  rw [eN0 ht,e2]
  refine Evt.ctrue rfl (Evt.bind (.const (least_eq _ _)) (Evt.ctrue (decide_eq_true (by omega)) (Evt.inr (Evt.diag hy) ?_)))
  simp only
  rw [w64_next (by simp only [lenB];omega)]
  exact ih

def degN(t:Tm):Nat:=eN t 0+eN t 1+eN t 2
def dgF:Int→List Tm→Int
 | m,[]=>m
 | m,t::r=>dgF (max m (degN t)) r
theorem dgF_ge:∀(p:List Tm) (m:Int),m≤dgF m p∧∀t∈p,(degN t:Int)≤dgF m p
 | [],m=>⟨Int.le_refl _,by simp⟩
 | t::r,m=>by
  obtain⟨h1,h2⟩:=dgF_ge r (max m (degN t))
  refine⟨by rw [dgF];omega,fun u hu => ?_⟩
  rw [dgF]
  rcases List.mem_cons.1 hu with rfl | hu
  ·omega
  ·exact h2 u hu
theorem dgF_le:∀(p:List Tm) (m:Int),m≤4→(∀t∈p,tmGd t)→dgF m p≤4
 | [],m,h,_=>h
 | t::r,m,h,hg=>by
  rw [dgF]
  have:=eN_deg (hg t (by simp))
  exact dgF_le r _ (by unfold degN;omega) (fun u hu=>hg u (by simp [hu]))
theorem degN_sum{t:Tm}(h:tmGd t):IntKind.wrap .i64 (IntKind.wrap .i64 (t.2.1+t.2.2.1)+t.2.2.2)=(degN t:Int):=by
 have:=eN_deg h
 rw [eN0 h,eN1 h,eN2 h,w64 (n:=(eN t 0:Int)+eN t 1) (by omega) (by omega),w64 (by omega) (by omega)]
 unfold degN
 omega
theorem poDegree_ev{p:List Tm}(hb:p.length<lenB)(hg:∀t∈p,tmGd t):Evt (fun k _=>spec_poDegree k p) (dgF (-1) p):=by
 refine Evt.eq (f:=fun k q=>_) ?_ (fun k q=>by rw [spec_poDegree])
 have key:∀(r d:List Tm) (m:Int),d++r=p→Evt (fun k n=>spec_poDegree_L58 k n m p (p.length:Int) d.length) (.inr (dgF m r,())):=by
  intro r
  induction r with
  | nil =>
   intro d m h
   refine Evt.step (fun k n=>spec_poDegree_L58.eq_2 k _ _ _ _ n) ?_
   rw [List.append_nil]at h
   subst h
   exact Evt.rng0 .pure
  | cons e r ih =>
   intro d m h
   refine Evt.step (fun k n=>spec_poDegree_L58.eq_2 k _ _ _ _ n) ?_
   have ih:=ih (d ++ [e]) (max m (degN e)) (by simpa using h)
   rw [←len_next (r:=r) (by rw [h];exact hb)]at ih
   have he:=hg e (by rw [←h];simp)
   subst h
   refine Evt.ctrue mid_lt (Evt.ctrue mid_ge (Evt.ctrue mid_lt ?_))
   rw [mid_get,degN_sum he]
   exact Evt.bind (.const (most_eq _ _)) ih
 have h0:=key p [] (-1) rfl
 simp only [List.length_nil]at h0
 exact Evt.inr (Evt.diag h0) .pure
theorem degreeOf_ev{p:List Tm}(hb:p.length<lenB)(hg:∀t∈p,tmGd t):Evt (fun k _=>impl_degreeOf k p) (dgF (-1) p):=by
 refine Evt.eq (f:=fun k q=>_) ?_ (fun k q=>by rw [impl_degreeOf])
 have key:∀(r d:List Tm) (m:Int),d++r=p→Evt (fun k n=>impl_degreeOf_L58 k n m p (p.length:Int) d.length) (.inr (dgF m r,())):=by
  intro r
  induction r with
  | nil =>
   intro d m h
   refine Evt.step (fun k n=>impl_degreeOf_L58.eq_2 k _ _ _ _ n) ?_
   rw [List.append_nil]at h
   subst h
   exact Evt.rng0 .pure
  | cons e r ih =>
   intro d m h
   refine Evt.step (fun k n=>impl_degreeOf_L58.eq_2 k _ _ _ _ n) ?_
   have ih:=ih (d ++ [e]) (max m (degN e)) (by simpa using h)
   rw [←len_next (r:=r) (by rw [h];exact hb)]at ih
   have he:=hg e (by rw [←h];simp)
   subst h
   refine Evt.ctrue mid_lt (Evt.ctrue mid_ge (Evt.ctrue mid_lt ?_))
   rw [mid_get]
   have hd:impl_Term_degree e=some (degN e:Int):=by unfold impl_Term_degree;rw [degN_sum he]
   have hm:(if m<(degN e:Int)then(degN e:Int)else m)=max m (degN e):=by split <;> omega
   rw [←hm]at ih
   rw [dgF,←hm]
   exact Evt.bind (.const hd) ih
 have h0:=key p [] (-1) rfl
 simp only [List.length_nil]at h0
 exact Evt.inr (Evt.diag h0) .pure

def dgN(p:List Tm):Nat:=(dgF (-1) p).toNat
def Ct(K n:Nat)(t:Tm):Int:=t.1*((2 ^ K:Nat):Int) ^ (n - degN t)
def Av(K:Nat)(L H:Nat→Int)(p q:List Tm)(x y z:Nat):Int:=(q.map fun t=>av L H t (Ct K (dgN p) t) x y z).sum
theorem av_zero{L H:Nat→Int}{t:Tm}{C:Int}{x y z:Nat}(h:eN t 0<x∨eN t 1<y∨eN t 2<z):av L H t C x y z=0:=by
 unfold av prt
 rcases h with h | h | h
 ·rw [pt_zero h,Int.mul_zero,Int.zero_mul,Int.zero_mul]
 ·rw [pt_zero h,Int.mul_zero,Int.zero_mul]
 ·rw [pt_zero h,Int.mul_zero]
theorem t_loop{D:Nat→Nat}{L H:Nat→Int}(g:GC D L H){p:List Tm}{K:Nat}(hK:K≤4)(hb:p.length<lenB)(hg:∀t∈p,tmGd t):∀(r d:List Tm),d++r=p →
  Evt (fun k n=>spec_beGrid_L506 k n p (K:Int) (lst3 fun i=>(D i:Int)) (gr (D 0+1) (D 1+1) (D 2+1) fun x y z=>IntKind.wrap .i64 (Av K L H p d x y z)) (lst3 L) (lst3 H) p (p.length:Int) d.length)
   (.inr (lst3 (fun i=>(D i:Int)),gr (D 0+1) (D 1+1) (D 2+1) (fun x y z=>IntKind.wrap .i64 (Av K L H p p x y z)),())):=by
 intro r
 induction r with
 | nil =>
  intro d h
  rw [List.append_nil]at h
  subst h
  refine Evt.step (fun k n=>spec_beGrid_L506.eq_2 k _ _ _ _ _ _ _ _ _ n) ?_
  exact Evt.cfalse (by simp) .pure
 | cons t r ih =>
  intro d h
  have ih:=ih (d ++ [t]) (by simpa using h)
  rw [←len_next (r:=r) (by rw [h];exact hb)]at ih
  have hxl:=congrArg List.length h
  simp at hxl
  have htm:t∈p:=by rw [←h];simp
  have ht:=hg t htm
  have hdg:=(dgF_ge p (-1)).2 t htm
  have hdl:=dgF_le p (-1) (by omega) hg
  have hn:dgF (-1) p=(dgN p:Int):=by unfold dgN;omega
  rw [hn]at hdg hdl
  have hx:=x_loop g ht (C:=Ct K (dgN p) t) rfl rfl rfl p (K:Int) p (p.length:Int) (d.length:Int) (min (eN t 0) (D 0)+1) 0 (fun x y z=>IntKind.wrap .i64 (Av K L H p d x y z)) (by omega)
  have e4:gr (D 0+1) (D 1+1) (D 2+1) (fun x' y' z'=>if 0≤x'∧x'≤min (eN t 0) (D 0)∧y'≤min (eN t 1) (D 1)∧z'≤min (eN t 2) (D 2)then IntKind.wrap .i64 (IntKind.wrap .i64 (Av K L H p d x' y' z')+av L H t (Ct K (dgN p) t) x' y' z')else IntKind.wrap .i64 (Av K L H p d x' y' z'))=gr (D 0+1) (D 1+1) (D 2+1) (fun x y z=>IntKind.wrap .i64 (Av K L H p (d ++ [t]) x y z)):=by
   refine gr_congr (fun a b c ha hb hc => ?_)
   have ea:Av K L H p (d ++ [t]) a b c=Av K L H p d a b c+av L H t (Ct K (dgN p) t) a b c:=by unfold Av;simp
   rw [ea]
   by_cases h1:0≤a∧a≤min (eN t 0) (D 0)∧b≤min (eN t 1) (D 1)∧c≤min (eN t 2) (D 2)
   ·rw [if_pos h1,wr_addl]
   ·rw [if_neg h1,av_zero (by omega),Int.add_zero]
  rw [e4]at hx
  have g0:p.getD (Int.toNat (d.length:Int)) (0,0,0,0)=t:=by rw [←h];exact mid_get
  refine Evt.step (fun k n=>spec_beGrid_L506.eq_2 k _ _ _ _ _ _ _ _ _ n) ?_
  rw [g0]
  have e5:IntKind.wrap .i64 (IntKind.wrap .i64 (IntKind.wrap .i64 ((dgN p:Int) - t.2.1) - t.2.2.1) - t.2.2.2)=((dgN p - degN t:Nat):Int):=by
   rw [eN0 ht,eN1 ht,eN2 ht]
   have h3:=eN_deg ht
   unfold degN at hdg ⊢
   rw [w64 (n:=(dgN p:Int) - eN t 0) (by omega) (by omega),w64 (n:=(dgN p:Int) - eN t 0 - eN t 1) (by omega) (by omega),w64 (by omega) (by omega)]
   omega
  refine Evt.ctrue (decide_eq_true (by omega)) (Evt.ctrue mid_ge (Evt.ctrue (decide_eq_true (by omega)) (Evt.bind (.const (dyPower_eq (by omega))) (Evt.bind (poDegree_ev hb hg) ?_))))
  rw [hn,e5]
  refine Evt.bind (bePow_ev2 (by omega)) ?_
  rw [wr_mulr]
  exact Evt.inr (Evt.diag hx) ih
end Go.Ev.G

namespace Go.Ev.G
open Go Go.Ev
set_option maxRecDepth 100000

def mxE(p:List Tm)(i:Nat):Nat:=(max 0 (degV i (-1) p)).toNat
def Dg(p:List Tm)(lo hi:List Int)(i:Nat):Nat:=if lo.getD i 0<hi.getD i 0 then mxE p i else 0
theorem degV_bd(i:Nat):∀(p:List Tm) (m:Int),m≤4→(∀t∈p,tmGd t)→degV i m p≤4∧m≤degV i m p∧∀t∈p,pw t i≤degV i m p
 | [],m,h,_=>⟨h,Int.le_refl _,by simp⟩
 | t::r,m,h,hg=>by
  have e:=eN_pw (hg t (by simp)) i
  obtain⟨h1,h2,h3⟩:=degV_bd i r (max m (pw t i)) (by omega) (fun u hu=>hg u (by simp [hu]))
  refine⟨h1,by rw [degV];omega,fun u hu => ?_⟩
  rw [degV]
  rcases List.mem_cons.1 hu with rfl | hu
  ·omega
  ·exact h3 u hu
theorem mxE_le{p:List Tm}(hg:∀t∈p,tmGd t)(i:Nat):mxE p i≤4∧∀t∈p,eN t i≤mxE p i:=by
 obtain⟨h1,h2,h3⟩:=degV_bd i p (-1) (by omega) hg
 refine⟨by unfold mxE;omega,fun t ht => ?_⟩
 have h4:=h3 t ht
 have e:=eN_pw (hg t ht) i
 unfold mxE
 omega
theorem Dg_le{p:List Tm}(hg:∀t∈p,tmGd t){lo hi:List Int}(i:Nat):Dg p lo hi i≤4:=by
 unfold Dg
 split
 ·exact(mxE_le hg i).1
 ·omega
theorem getD_out{l:List Int}{i:Nat}(h:l.length≤i):l.getD i 0=0:=by
 rw [List.getD_eq_getElem?_getD,List.getElem?_eq_none h]
 rfl
theorem Dg_out{p:List Tm}{lo hi:List Int}{i:Nat}(h1:lo.length≤i)(h2:hi.length≤i):Dg p lo hi i=0:=by
 unfold Dg
 rw [getD_out h1,getD_out h2]
 rfl
theorem beDegrees_ev{p:List Tm}(hb:p.length<lenB)(hg:∀t∈p,tmGd t){lo hi:List Int}(hl:hi.length=lo.length)(h3:lo.length≤3):Evt (fun k _=>spec_beDegrees k p lo hi) (lst3 fun i=>(Dg p lo hi i:Int)):=by
 refine Evt.eq (f:=fun k q=>_) ?_ (fun k q=>by rw [spec_beDegrees])
 have key:∀(m d:Nat),d+m=lo.length→Evt (fun k n=>spec_beDegrees_L58 k n p lo hi (lst3 fun i=>if i<d then(Dg p lo hi i:Int)else 0) (lo.length:Int) (d:Int)) (.inr (lst3 fun i=>(Dg p lo hi i:Int),())):=by
  intro m
  induction m with
  | zero =>
   intro d h
   refine Evt.step (fun k n=>spec_beDegrees_L58.eq_2 k _ _ _ _ _ _ n) ?_
   have e:lst3 (fun i=>if i<d then(Dg p lo hi i:Int)else 0)=lst3 fun i=>(Dg p lo hi i:Int):=lst3_congr (fun i _=>by
    by_cases hi:i<d
    ·rw [if_pos hi]
    ·rw [if_neg hi,Dg_out (by omega) (by omega)]
     rfl)
   rw [e]
   exact Evt.cfalse (decide_eq_false (by omega)) .pure
  | succ m ih =>
   intro d h
   have ih:=ih (d+1) (by omega)
   have e1:Int.toNat (d:Int)=d:=by omega
   refine Evt.step (fun k n=>spec_beDegrees_L58.eq_2 k _ _ _ _ _ _ n) ?_
   rw [e1,w64_next (by simp only [lenB];omega)]
   refine Evt.ctrue (decide_eq_true (by omega)) (Evt.ctrue mid_ge (Evt.ctrue (decide_eq_true (by omega)) (Evt.ctrue mid_ge (Evt.ctrue (decide_eq_true (by omega)) ?_))))
   by_cases hlt:lo.getD d 0<hi.getD d 0
   ·have e2:lst3 (fun i=>if i<d+1 then(Dg p lo hi i:Int)else 0)=lst3 (fun i=>if i=d then max 0 (degV d (-1) p)else if i<d then(Dg p lo hi i:Int)else 0):=lst3_congr (fun i _=>by
     by_cases hi:i=d
     ·rw [if_pos hi,if_pos (by omega),hi]
      unfold Dg mxE
      rw [if_pos hlt]
      omega
     ·rw [if_neg hi]
      by_cases hj:i<d
      ·rw [if_pos hj,if_pos (by omega)]
      ·rw [if_neg hj,if_neg (by omega)])
    rw [e2,←lst3_set (g:=fun i=>if i<d then(Dg p lo hi i:Int)else 0) (show d<3 by omega)]at ih
    exact Evt.ctrue (decide_eq_true hlt) (Evt.bind (degreeIn_ev hb) (Evt.bind (.const (most_eq _ _)) (Evt.ctrue mid_ge (Evt.ctrue (decide_eq_true (by show(d:Int)<3;omega)) ih))))
   ·have e2:lst3 (fun i=>if i<d+1 then(Dg p lo hi i:Int)else 0)=lst3 (fun i=>if i<d then(Dg p lo hi i:Int)else 0):=lst3_congr (fun i _=>by
     by_cases hi:i<d
     ·rw [if_pos hi,if_pos (by omega)]
     ·rw [if_neg hi]
      by_cases hj:i<d+1
      ·have:i=d:=by omega
       subst this
       rw [if_pos hj]
       unfold Dg
       rw [if_neg hlt]
       rfl
      ·rw [if_neg hj])
    rw [e2]at ih
    exact Evt.cfalse (decide_eq_false (by omega)) ih
 have h0:=key lo.length 0 (by omega)
 have e0:lst3 (fun i=>if i<0 then(Dg p lo hi i:Int)else 0) = [0,0,0]:=rfl
 rw [e0]at h0
 exact Evt.inr (Evt.diag h0) .pure
theorem ends_loop{p:List Tm}{lo hi:List Int}(hl:hi.length=lo.length)(h3:lo.length≤3)(x3:Int)(x10 x11:List Int):∀(m d:Nat),d+m=lo.length →
  Evt (fun k n=>spec_beGrid_L250 k n p lo hi x3 x10 x11 (lst3 fun i=>if i<d then lo.getD i 0 else 0) (lst3 fun i=>if i<d then hi.getD i 0 else 0) (lo.length:Int) (d:Int)) (.inr (p,x3,x10,x11,lst3 (fun i=>lo.getD i 0),lst3 (fun i=>hi.getD i 0),())):=by
 intro m
 induction m with
 | zero =>
  intro d h
  refine Evt.step (fun k n=>spec_beGrid_L250.eq_2 k _ _ _ _ _ _ _ _ _ _ n) ?_
  have e:∀l:List Int,l.length=d→lst3 (fun i=>if i<d then l.getD i 0 else 0)=lst3 fun i=>l.getD i 0:=fun l hl=>lst3_congr (fun i _=>by
   by_cases hi:i<d
   ·rw [if_pos hi]
   ·rw [if_neg hi,getD_out (by omega)])
  rw [e lo (by omega),e hi (by omega)]
  exact Evt.cfalse (decide_eq_false (by omega)) .pure
 | succ m ih =>
  intro d h
  have ih:=ih (d+1) (by omega)
  have e1:Int.toNat (d:Int)=d:=by omega
  have e2:∀l:List Int,lst3 (fun i=>if i<d+1 then l.getD i 0 else 0)=(lst3 (fun i=>if i<d then l.getD i 0 else 0)).set d (l.getD d 0):=fun l=>by
   rw [lst3_set (by omega)]
   refine lst3_congr (fun i _ => ?_)
   by_cases hi:i=d
   ·rw [if_pos hi,if_pos (by omega),hi]
   ·rw [if_neg hi]
    by_cases hj:i<d
    ·rw [if_pos hj,if_pos (by omega)]
    ·rw [if_neg hj,if_neg (by omega)]
  rw [e2,e2]at ih
  refine Evt.step (fun k n=>spec_beGrid_L250.eq_2 k _ _ _ _ _ _ _ _ _ _ n) ?_
  rw [e1,w64_next (by simp only [lenB];omega)]
  exact Evt.ctrue (decide_eq_true (by omega)) (Evt.ctrue mid_ge (Evt.ctrue (decide_eq_true (by omega)) (Evt.ctrue mid_ge (Evt.ctrue (decide_eq_true (by show(d:Int)<3;omega)) (Evt.ctrue mid_ge (Evt.ctrue (decide_eq_true (by omega)) (Evt.ctrue mid_ge (Evt.ctrue (decide_eq_true (by show(d:Int)<3;omega)) ih))))))))
theorem beGrid_ev{p:List Tm}{K:Nat}(hK:K≤4)(hb:p.length<lenB)(hg:∀t∈p,tmGd t){lo hi:List Int}(hl:hi.length=lo.length)(h3:lo.length≤3)(g:GC (Dg p lo hi) (fun i=>lo.getD i 0) (fun i=>hi.getD i 0)) :
  Evt (fun k _=>spec_beGrid k p lo hi (K:Int)) (gr (Dg p lo hi 0+1) (Dg p lo hi 1+1) (Dg p lo hi 2+1) (fun x y z=>IntKind.wrap .i64 (Av K (fun i=>lo.getD i 0) (fun i=>hi.getD i 0) p p x y z)),lst3 fun i=>(Dg p lo hi i:Int)):=by
 refine Evt.eq (f:=fun k q=>_) ?_ (fun k q=>by rw [spec_beGrid])
 have hv:=vol_le g.d
 have e0:(lst3 fun i=>(Dg p lo hi i:Int)).getD 0 0=(Dg p lo hi 0:Int):=rfl
 have e1:(lst3 fun i=>(Dg p lo hi i:Int)).getD 1 0=(Dg p lo hi 1:Int):=rfl
 have e2:(lst3 fun i=>(Dg p lo hi i:Int)).getD 2 0=(Dg p lo hi 2:Int):=rfl
 refine Evt.bind (beDegrees_ev hb hg hl h3) ?_
 rw [e0,e1,e2]
 have ew:IntKind.wrap .i64 (IntKind.wrap .i64 (IntKind.wrap .i64 ((Dg p lo hi 0:Int)+1)*IntKind.wrap .i64 ((Dg p lo hi 1:Int)+1))*IntKind.wrap .i64 ((Dg p lo hi 2:Int)+1))=(((Dg p lo hi 0+1)*(Dg p lo hi 1+1)*(Dg p lo hi 2+1):Nat):Int):=by
  simp only [wr_mull,wr_mulr]
  have e3:((Dg p lo hi 0:Int)+1)*((Dg p lo hi 1:Int)+1)*((Dg p lo hi 2:Int)+1)=(((Dg p lo hi 0+1)*(Dg p lo hi 1+1)*(Dg p lo hi 2+1):Nat):Int):=by simp
  rw [e3,w64 (by omega) (by omega)]
 rw [ew,Int.toNat_natCast]
 have er:List.replicate ((Dg p lo hi 0+1)*(Dg p lo hi 1+1)*(Dg p lo hi 2+1)) (0:Int)=gr (Dg p lo hi 0+1) (Dg p lo hi 1+1) (Dg p lo hi 2+1) (fun x y z=>IntKind.wrap .i64 (Av K (fun i=>lo.getD i 0) (fun i=>hi.getD i 0) p [] x y z)):=by
  have:∀x y z,IntKind.wrap .i64 (Av K (fun i=>lo.getD i 0) (fun i=>hi.getD i 0) p [] x y z)=0:=fun x y z=>rfl
  simp only [gr,this]
  rw [List.map_const',List.length_range]
 rw [er]
 have h1:=ends_loop (p:=p) hl h3 (K:Int) (lst3 fun i=>(Dg p lo hi i:Int)) (gr (Dg p lo hi 0+1) (Dg p lo hi 1+1) (Dg p lo hi 2+1) (fun x y z=>IntKind.wrap .i64 (Av K (fun i=>lo.getD i 0) (fun i=>hi.getD i 0) p [] x y z))) lo.length 0 (by omega)
 have ez:∀l:List Int,lst3 (fun i=>if i<0 then l.getD i 0 else 0) = [0,0,0]:=fun l=>rfl
 rw [ez,ez]at h1
 have h2:=t_loop g hK hb hg p [] rfl
 exact Evt.ctrue rfl (Evt.ctrue rfl (Evt.ctrue rfl (Evt.ctrue (decide_eq_true (by omega)) (Evt.ctrue (decide_eq_true (by omega)) (Evt.inr (Evt.diag h1) (Evt.inr (Evt.diag h2) .pure))))))

def fac(d:Nat):Int := [1,1,2,3,12].getD d 0
def wt(d i j:Nat):Int:=(chN i j:Int)*Int.tdiv (fac d) (chN d j)
theorem beFactor_eq{d:Nat}(h:d≤4):spec_beFactor (d:Int)=some (fac d):=by
 rcases(by omega:d=0∨d=1∨d=2∨d=3∨d=4)with rfl | rfl | rfl | rfl | rfl <;> rfl
theorem multiple_eq{d:Nat}(h:d≤4):impl_multiple (d:Int)=some (fac d):=by
 rcases(by omega:d=0∨d=1∨d=2∨d=3∨d=4)with rfl | rfl | rfl | rfl | rfl <;> rfl
theorem wt_bd{d i j:Nat}(hd:d≤4)(hi:i≤d)(hj:j≤d):0≤wt d i j∧wt d i j≤fac d∧0≤Int.tdiv (fac d) (chN d j)∧Int.tdiv (fac d) (chN d j)≤12:=by
 rcases(by omega:d=0∨d=1∨d=2∨d=3∨d=4)with rfl | rfl | rfl | rfl | rfl
 ·obtain rfl:i=0:=by omega
  obtain rfl:j=0:=by omega
  decide
 ·rcases(by omega:i=0∨i=1)with rfl | rfl <;> rcases(by omega:j=0∨j=1)with rfl | rfl <;> decide
 ·rcases(by omega:i=0∨i=1∨i=2)with rfl | rfl | rfl <;> rcases(by omega:j=0∨j=1∨j=2)with rfl | rfl | rfl <;> decide
 ·rcases(by omega:i=0∨i=1∨i=2∨i=3)with rfl | rfl | rfl | rfl <;> rcases(by omega:j=0∨j=1∨j=2∨j=3)with rfl | rfl | rfl | rfl <;> decide
 ·rcases(by omega:i=0∨i=1∨i=2∨i=3∨i=4)with rfl | rfl | rfl | rfl | rfl <;> rcases(by omega:j=0∨j=1∨j=2∨j=3∨j=4)with rfl | rfl | rfl | rfl | rfl <;> decide
theorem one_inner{a:List Int}{d i:Nat}(hd:d≤4)(hi:i≤d)(ha:a.length=d+1)(x4:List Int)(x12 x13:Int):∀(m j:Nat),j+m=i+1 →
  Evt (fun k n=>spec_beOne_L125338 k n a (d:Int) x4 (i:Int) (IntKind.wrap .i64 (sm j fun j=>wt d i j*a.getD j 0)) (j:Int) x12 x13) (.inr (a,(d:Int),x4,IntKind.wrap .i64 (sm (i+1) fun j=>wt d i j*a.getD j 0),x12,x13,())):=by
 intro m
 induction m with
 | zero =>
  intro j h
  refine Evt.step (fun k n=>spec_beOne_L125338.eq_2 k _ _ _ _ _ _ _ _ n) ?_
  have:j=i+1:=by omega
  subst this
  exact Evt.cfalse (decide_eq_false (by omega)) .pure
 | succ m ih =>
  intro j h
  have ih:=ih (j+1) (by omega)
  have hw:=wt_bd hd hi (show j≤d by omega)
  have hc:=chN_bd (n:=d) (j:=j) hd (by omega)
  refine Evt.step (fun k n=>spec_beOne_L125338.eq_2 k _ _ _ _ _ _ _ _ n) ?_
  refine Evt.ctrue (decide_eq_true (by omega)) (Evt.bind (beChoose_ev (by omega) (by omega)) (Evt.bind (.const (beFactor_eq hd)) (Evt.bind (beChoose_ev hd (by omega)) (Evt.cfalse (by simp;omega) (Evt.ctrue mid_ge (Evt.ctrue (decide_eq_true (by omega)) ?_))))))
  rw [Int.toNat_natCast,w64_next (by simp only [lenB];omega)]
  simp only [wr_mull,wr_mulr,wr_addr,wr_addl]
  rw [sm_succ]at ih
  exact ih
def oneV(a:List Int):List Int:=(List.range a.length).map fun i=>IntKind.wrap .i64 (sm (i+1) fun j=>wt (a.length - 1) i j*a.getD j 0)
theorem beOne_ev{a:List Int}{d:Nat}(hd:d≤4)(ha:a.length=d+1):Evt (fun k _=>spec_beOne k a) (oneV a):=by
 refine Evt.eq (f:=fun k q=>_) ?_ (fun k q=>by rw [spec_beOne])
 have key:∀(m i:Nat),i+m=d+1→Evt (fun k n=>spec_beOne_L122 k n a (d:Int) ((List.range i).map fun i=>IntKind.wrap .i64 (sm (i+1) fun j=>wt d i j*a.getD j 0)) (a.length:Int) (i:Int)) (.inr ((List.range (d+1)).map (fun i=>IntKind.wrap .i64 (sm (i+1) fun j=>wt d i j*a.getD j 0)),())):=by
  intro m
  induction m with
  | zero =>
   intro i h
   refine Evt.step (fun k n=>spec_beOne_L122.eq_2 k _ _ _ _ _ n) ?_
   have:i=d+1:=by omega
   subst this
   exact Evt.cfalse (decide_eq_false (by omega)) .pure
  | succ m ih =>
   intro i h
   have ih:=ih (i+1) (by omega)
   rw [List.range_succ,List.map_append]at ih
   have hin:=one_inner hd (show i≤d by omega) ha ((List.range i).map fun i=>IntKind.wrap .i64 (sm (i+1) fun j=>wt d i j*a.getD j 0)) (a.length:Int) (i:Int) (i+1) 0 (by omega)
   rw [sm_zero]at hin
   have e0:IntKind.wrap .i64 0=0:=by decide
   rw [e0]at hin
   refine Evt.step (fun k n=>spec_beOne_L122.eq_2 k _ _ _ _ _ n) ?_
   refine Evt.ctrue (decide_eq_true (by omega)) (Evt.inr (Evt.diag hin) ?_)
   simp only
   rw [w64_next (by simp only [lenB];omega)]
   exact Evt.ctrue (decide_eq_true (by simp;omega)) ih
 have h0:=key (d+1) 0 (by omega)
 have e1:(a.length:Int) - 1=(d:Int):=by omega
 rw [e1,w64 (n:=(d:Int)) (by omega) (by omega)]
 refine Evt.inr (Evt.diag h0) ?_
 unfold oneV
 rw [ha]
 exact .pure
end Go.Ev.G

namespace Go.Ev.G
open Go Go.Ev
set_option maxRecDepth 100000

def lnP(c:Nat→Nat)(m:Nat):List Int:=(List.range m).map fun l=>((c l:Nat):Int)
theorem lnP_len{c:Nat→Nat}{m:Nat}:(lnP c m).length=m:=by simp [lnP]
theorem lnP_get{c:Nat→Nat}{m l:Nat}(h:l<m):(lnP c m).getD l 0=((c l:Nat):Int):=by
 unfold lnP
 rw [List.getD_eq_getElem?_getD,List.getElem?_map,List.getElem?_range h]
 rfl
theorem lnP_succ{c:Nat→Nat}{m:Nat}:lnP c (m+1)=lnP c m ++ [((c m:Nat):Int)]:=by
 unfold lnP
 rw [List.range_succ,List.map_append]
 rfl
theorem line_get{a:List Int}{c:Nat→Nat}{m:Nat}(hm:m≤5)(hc:∀l,l<m→c l<a.length):∀(r l:Nat),l+r=m →
  Evt (fun k n=>spec_beLine_L26 k n a (lnP c m) ((List.range l).map fun l=>a.getD (c l) 0) (lnP c m) (m:Int) (l:Int)) (.inr (a,lnP c m,(List.range m).map (fun l=>a.getD (c l) 0),())):=by
 intro r
 induction r with
 | zero =>
  intro l h
  refine Evt.step (fun k n=>spec_beLine_L26.eq_2 k _ _ _ _ _ _ n) ?_
  have:l=m:=by omega
  subst this
  exact Evt.cfalse (decide_eq_false (by omega)) .pure
 | succ r ih =>
  intro l h
  have ih:=ih (l+1) (by omega)
  rw [List.range_succ,List.map_append]at ih
  have hl:=hc l (by omega)
  refine Evt.step (fun k n=>spec_beLine_L26.eq_2 k _ _ _ _ _ _ n) ?_
  rw [Int.toNat_natCast,lnP_get (by omega),Int.toNat_natCast,w64_next (by simp only [lenB];omega)]
  exact Evt.ctrue (decide_eq_true (by omega)) (Evt.ctrue mid_ge (Evt.ctrue (decide_eq_true (by rw [lnP_len];omega)) (Evt.ctrue mid_ge (Evt.ctrue (decide_eq_true (by omega)) (Evt.ctrue (decide_eq_true (by simp;omega)) ih)))))

structure Ln(a b c m:Nat)(px py pz:Nat→Nat)(on:Nat→Nat→Nat→Prop)(iv:Nat→Nat→Nat→Nat):Prop where
 lt:∀l,l<m→px l<a∧py l<b∧pz l<c
 eq:∀x y z l,l<m→((x=px l∧y=py l∧z=pz l)↔(on x y z∧iv x y z=l))
theorem line_set{a b c m:Nat}{px py pz:Nat→Nat}{on:Nat→Nat→Nat→Prop}[∀x y z,Decidable (on x y z)]{iv:Nat→Nat→Nat→Nat}(h:Ln a b c m px py pz on iv)(hm:m≤5){f:Nat→Nat→Nat→Int}{v:List Int}(hv:v.length=m):∀(r l:Nat),l+r=m →
  Evt (fun k n=>spec_beLine_L30 k n (gr a b c fun x y z=>if on x y z∧iv x y z<l then v.getD (iv x y z) 0 else f x y z) (lnP (fun l=>ix b c (px l) (py l) (pz l)) m) v (m:Int) (l:Int)) (.inr (gr a b c (fun x y z=>if on x y z∧iv x y z<m then v.getD (iv x y z) 0 else f x y z),())):=by
 intro r
 induction r with
 | zero =>
  intro l hl
  refine Evt.step (fun k n=>spec_beLine_L30.eq_2 k _ _ _ _ _ n) ?_
  have:l=m:=by omega
  subst this
  exact Evt.cfalse (decide_eq_false (by omega)) .pure
 | succ r ih =>
  intro l hl
  have ih:=ih (l+1) (by omega)
  obtain⟨h1,h2,h3⟩:=h.lt l (by omega)
  have hi:=ix_lt h1 h2 h3
  have e1:(gr a b c fun x y z=>if on x y z∧iv x y z<l+1 then v.getD (iv x y z) 0 else f x y z)=(gr a b c fun x y z=>if on x y z∧iv x y z<l then v.getD (iv x y z) 0 else f x y z).set (ix b c (px l) (py l) (pz l)) (v.getD l 0):=by
   rw [gr_set h2 h3]
   refine gr_congr (fun x y z _ _ _ => ?_)
   have e:=h.eq x y z l (by omega)
   by_cases hp:x=px l∧y=py l∧z=pz l
   ·rw [if_pos hp]
    obtain⟨o1,o2⟩:=e.1 hp
    rw [if_pos ⟨o1,by omega⟩,o2]
   ·rw [if_neg hp]
    by_cases ho:on x y z∧iv x y z<l
    ·rw [if_pos ho,if_pos ⟨ho.1,by omega⟩]
    ·rw [if_neg ho,if_neg]
     rintro⟨o1,o2⟩
     by_cases h5:iv x y z=l
     ·exact hp (e.2 ⟨o1,h5⟩)
     ·exact ho ⟨o1,by omega⟩
  rw [e1]at ih
  refine Evt.step (fun k n=>spec_beLine_L30.eq_2 k _ _ _ _ _ n) ?_
  rw [Int.toNat_natCast,lnP_get (by omega),Int.toNat_natCast,w64_next (by simp only [lenB];omega)]
  exact Evt.ctrue (decide_eq_true (by omega)) (Evt.ctrue mid_ge (Evt.ctrue (decide_eq_true (by omega)) (Evt.ctrue mid_ge (Evt.ctrue (decide_eq_true (by rw [lnP_len];omega)) (Evt.ctrue mid_ge (Evt.ctrue (decide_eq_true (by rw [gr_len];omega)) ih))))))
theorem map_get{g:Nat→Int}{m j:Nat}(h:j<m):((List.range m).map g).getD j 0=g j:=by
 rw [List.getD_eq_getElem?_getD,List.getElem?_map,List.getElem?_range h]
 rfl
theorem beLine_ev{a b c d:Nat}{px py pz:Nat→Nat}{on:Nat→Nat→Nat→Prop}[∀x y z,Decidable (on x y z)]{iv:Nat→Nat→Nat→Nat}(h:Ln a b c (d+1) px py pz on iv)(hd:d≤4){f:Nat→Nat→Nat→Int} :
  Evt (fun k _=>spec_beLine k (gr a b c f) (lnP (fun l=>ix b c (px l) (py l) (pz l)) (d+1))) (gr a b c fun x y z=>if on x y z∧iv x y z<d+1 then IntKind.wrap .i64 (sm (iv x y z+1) fun j=>wt d (iv x y z) j*f (px j) (py j) (pz j))else f x y z):=by
 refine Evt.eq (f:=fun k q=>_) ?_ (fun k q=>by rw [spec_beLine])
 have h1:=line_get (a:=gr a b c f) (c:=fun l=>ix b c (px l) (py l) (pz l)) (m:=d+1) (by omega) (fun l hl=>by
  obtain⟨a1,a2,a3⟩:=h.lt l hl
  rw [gr_len]
  exact ix_lt a1 a2 a3) (d+1) 0 (by omega)
 have e1:(List.range (d+1)).map (fun l=>(gr a b c f).getD (ix b c (px l) (py l) (pz l)) 0)=(List.range (d+1)).map fun l=>f (px l) (py l) (pz l):=by
  apply List.map_congr_left
  intro l hl
  obtain⟨a1,a2,a3⟩:=h.lt l (List.mem_range.1 hl)
  exact gr_get a1 a2 a3
 rw [e1]at h1
 have hlen:((List.range (d+1)).map fun l=>f (px l) (py l) (pz l)).length=d+1:=by simp
 have h2:=beOne_ev (a:=(List.range (d+1)).map fun l=>f (px l) (py l) (pz l)) hd hlen
 have hvl:(oneV ((List.range (d+1)).map fun l=>f (px l) (py l) (pz l))).length=d+1:=by simp [oneV]
 have h3:=line_set h (by omega) (f:=f) hvl (d+1) 0 (by omega)
 have e2:(gr a b c fun x y z=>if on x y z∧iv x y z<0 then(oneV ((List.range (d+1)).map fun l=>f (px l) (py l) (pz l))).getD (iv x y z) 0 else f x y z)=gr a b c f:=gr_congr (fun x y z _ _ _=>by rw [if_neg];omega)
 have e3:(gr a b c fun x y z=>if on x y z∧iv x y z<d+1 then(oneV ((List.range (d+1)).map fun l=>f (px l) (py l) (pz l))).getD (iv x y z) 0 else f x y z)=gr a b c fun x y z=>if on x y z∧iv x y z<d+1 then IntKind.wrap .i64 (sm (iv x y z+1) fun j=>wt d (iv x y z) j*f (px j) (py j) (pz j))else f x y z:=gr_congr (fun x y z _ _ _=>by
  by_cases ho:on x y z∧iv x y z<d+1
  ·rw [if_pos ho,if_pos ho]
   unfold oneV
   rw [hlen,map_get ho.2]
   congr 1
   refine sm_congr (fun j hj => ?_)
   rw [map_get (by omega)]
   rfl
  ·rw [if_neg ho,if_neg ho])
 rw [e2,e3]at h3
 simp only [List.range_zero,List.map_nil]at h1
 rw [lnP_len]
 refine Evt.inr (Evt.diag h1) (Evt.bind h2 ?_)
 simp only
 rw [hvl]
 exact Evt.inr (Evt.diag h3) .pure

def TA(D:Nat→Nat)(f:Nat→Nat→Nat→Int)(x y z:Nat):Int:=IntKind.wrap .i64 (sm (z+1) fun j=>wt (D 2) z j*f x y j)
theorem atA{D:Nat→Nat}(g:∀i,D i≤4){x0 y0:Nat}(hu:x0≤D 0)(hi:y0≤D 1)(a:List Int):∀(r l:Nat),l+r=D 2+1 →
  Evt (fun k n=>spec_beList_L954954 k n a (lst3 fun i=>(D i:Int)) (x0:Int) (y0:Int) (lnP (fun l=>ix (D 1+1) (D 2+1) x0 y0 l) l) (l:Int)) (.inr (a,lst3 (fun i=>(D i:Int)),(x0:Int),(y0:Int),lnP (fun l=>ix (D 1+1) (D 2+1) x0 y0 l) (D 2+1),())):=by
 intro r
 have g2:=g 2
 induction r with
 | zero =>
  intro l h
  refine Evt.step (fun k n=>spec_beList_L954954.eq_2 k _ _ _ _ _ _ n) ?_
  have:l=D 2+1:=by omega
  subst this
  have e:(lst3 fun i=>(D i:Int)).getD 2 0=(D 2:Int):=rfl
  rw [e]
  exact Evt.ctrue rfl (Evt.cfalse (decide_eq_false (by omega)) .pure)
 | succ r ih =>
  intro l h
  have ih:=ih (l+1) (by omega)
  rw [lnP_succ]at ih
  refine Evt.step (fun k n=>spec_beList_L954954.eq_2 k _ _ _ _ _ _ n) ?_
  have e:(lst3 fun i=>(D i:Int)).getD 2 0=(D 2:Int):=rfl
  rw [e,w64_next (by simp only [lenB];omega)]
  exact Evt.ctrue rfl (Evt.ctrue (decide_eq_true (by omega)) (Evt.bind (.const (beAt_eq g (x:=x0) (y:=y0) (z:=l) hu hi (by omega))) (Evt.ctrue (decide_eq_true (by rw [lnP_len];simp;omega)) ih)))
theorem inA{D:Nat→Nat}(g:∀i,D i≤4){x0:Nat}(hu:x0≤D 0):∀(r y0:Nat) (f:Nat→Nat→Nat→Int),y0+r=D 1+1 →
  Evt (fun k n=>spec_beList_L3730 k n (gr (D 0+1) (D 1+1) (D 2+1) f) (lst3 fun i=>(D i:Int)) (x0:Int) (y0:Int)) (.inr (gr (D 0+1) (D 1+1) (D 2+1) (fun x y z=>if x=x0∧y0≤y then TA D f x y z else f x y z),lst3 (fun i=>(D i:Int)),(x0:Int),())):=by
 intro r
 have g1:=g 1
 have g2:=g 2
 induction r with
 | zero =>
  intro y0 f h
  refine Evt.step (fun k n=>spec_beList_L3730.eq_2 k _ _ _ _ n) ?_
  have e:(lst3 fun i=>(D i:Int)).getD 1 0=(D 1:Int):=rfl
  rw [e]
  have e2:(gr (D 0+1) (D 1+1) (D 2+1) fun x y z=>if x=x0∧y0≤y then TA D f x y z else f x y z)=gr (D 0+1) (D 1+1) (D 2+1) f:=gr_congr (fun x y z _ _ _=>by rw [if_neg];omega)
  rw [e2]
  exact Evt.ctrue rfl (Evt.cfalse (decide_eq_false (by omega)) .pure)
 | succ r ih =>
  intro y0 f h
  have hi:y0≤D 1:=by omega
  have hat:=atA g hu hi (gr (D 0+1) (D 1+1) (D 2+1) f) (D 2+1) 0 (by omega)
  have hln:Ln (D 0+1) (D 1+1) (D 2+1) (D 2+1) (fun _=>x0) (fun _=>y0) (fun l=>l) (fun x y z=>x=x0∧y=y0) (fun x y z=>z):=⟨fun l hl=>by omega,fun x y z l hl=>by omega⟩
  have hbl:=beLine_ev hln g2 (f:=f)
  have ih:=ih (y0+1) (fun x y z=>if (x=x0∧y=y0)∧z<D 2+1 then IntKind.wrap .i64 (sm (z+1) fun j=>wt (D 2) z j*f x0 y0 j)else f x y z) (by omega)
  have e2:(gr (D 0+1) (D 1+1) (D 2+1) fun x y z=>if x=x0∧y0+1≤y then TA D (fun x y z=>if (x=x0∧y=y0)∧z<D 2+1 then IntKind.wrap .i64 (sm (z+1) fun j=>wt (D 2) z j*f x0 y0 j)else f x y z) x y z else if (x=x0∧y=y0)∧z<D 2+1 then IntKind.wrap .i64 (sm (z+1) fun j=>wt (D 2) z j*f x0 y0 j)else f x y z)=gr (D 0+1) (D 1+1) (D 2+1) fun x y z=>if x=x0∧y0≤y then TA D f x y z else f x y z:=by
   refine gr_congr (fun x y z hx hy hz => ?_)
   by_cases h1:x=x0∧y0+1≤y
   ·rw [if_pos h1,if_pos (by omega)]
    unfold TA
    congr 1
    refine sm_congr (fun j hj => ?_)
    dsimp only
    rw [if_neg (by omega)]
   ·rw [if_neg h1]
    by_cases h2:x=x0∧y=y0
    ·rw [if_pos ⟨h2,by omega⟩,if_pos (by omega)]
     obtain⟨rfl,rfl⟩:=h2
     rfl
    ·rw [if_neg (fun hh=>h2 hh.1),if_neg (by omega)]
  rw [e2]at ih
  refine Evt.step (fun k n=>spec_beList_L3730.eq_2 k _ _ _ _ n) ?_
  have e:(lst3 fun i=>(D i:Int)).getD 1 0=(D 1:Int):=rfl
  rw [e]
  have ez:lnP (fun l=>ix (D 1+1) (D 2+1) x0 y0 l) 0 = []:=rfl
  rw [ez]at hat
  refine Evt.ctrue rfl (Evt.ctrue (decide_eq_true (by omega)) (Evt.inr (Evt.diag hat) ?_))
  simp only
  rw [w64_next (by simp only [lenB];omega)]
  exact Evt.bind hbl ih
theorem passA{D:Nat→Nat}(g:∀i,D i≤4):∀(r x0:Nat) (f:Nat→Nat→Nat→Int),x0+r=D 0+1 →
  Evt (fun k n=>spec_beList_L58 k n (gr (D 0+1) (D 1+1) (D 2+1) f) (lst3 fun i=>(D i:Int)) (x0:Int)) (.inr (gr (D 0+1) (D 1+1) (D 2+1) (fun x y z=>if x0≤x then TA D f x y z else f x y z),lst3 (fun i=>(D i:Int)),())):=by
 intro r
 have g1:=g 0
 induction r with
 | zero =>
  intro x0 f h
  refine Evt.step (fun k n=>spec_beList_L58.eq_2 k _ _ _ n) ?_
  have e:(lst3 fun i=>(D i:Int)).getD 0 0=(D 0:Int):=rfl
  rw [e]
  have e2:(gr (D 0+1) (D 1+1) (D 2+1) fun x y z=>if x0≤x then TA D f x y z else f x y z)=gr (D 0+1) (D 1+1) (D 2+1) f:=gr_congr (fun x y z _ _ _=>by rw [if_neg];omega)
  rw [e2]
  exact Evt.ctrue rfl (Evt.cfalse (decide_eq_false (by omega)) .pure)
 | succ r ih =>
  intro x0 f h
  have hin:=inA g (show x0≤D 0 by omega) (D 1+1) 0 f (by omega)
  have ih:=ih (x0+1) (fun x y z=>if x=x0∧0≤y then TA D f x y z else f x y z) (by omega)
  have e2:(gr (D 0+1) (D 1+1) (D 2+1) fun x y z=>if x0+1≤x then TA D (fun x y z=>if x=x0∧0≤y then TA D f x y z else f x y z) x y z else if x=x0∧0≤y then TA D f x y z else f x y z)=gr (D 0+1) (D 1+1) (D 2+1) fun x y z=>if x0≤x then TA D f x y z else f x y z:=by
   refine gr_congr (fun x y z hx hy hz => ?_)
   by_cases h1:x0+1≤x
   ·rw [if_pos h1,if_pos (by omega)]
    conv=>lhs;unfold TA
    conv=>rhs;unfold TA
    congr 1
    refine sm_congr (fun j hj => ?_)
    dsimp only
    rw [if_neg (by omega)]
   ·rw [if_neg h1]
    by_cases h2:x=x0
    ·rw [if_pos ⟨h2,by omega⟩,if_pos (by omega)]
    ·rw [if_neg (fun hh=>h2 hh.1),if_neg (by omega)]
  rw [e2]at ih
  refine Evt.step (fun k n=>spec_beList_L58.eq_2 k _ _ _ n) ?_
  have e:(lst3 fun i=>(D i:Int)).getD 0 0=(D 0:Int):=rfl
  rw [e]
  refine Evt.ctrue rfl (Evt.ctrue (decide_eq_true (by omega)) (Evt.inr (Evt.diag hin) ?_))
  simp only
  rw [w64_next (by simp only [lenB];omega)]
  exact ih

def TB(D:Nat→Nat)(f:Nat→Nat→Nat→Int)(x y z:Nat):Int:=IntKind.wrap .i64 (sm (y+1) fun j=>wt (D 1) y j*f x j z)
theorem atB{D:Nat→Nat}(g:∀i,D i≤4){x0 z0:Nat}(hu:x0≤D 0)(hi:z0≤D 2)(a:List Int):∀(r l:Nat),l+r=D 1+1 →
  Evt (fun k n=>spec_beList_L2003530 k n a (lst3 fun i=>(D i:Int)) (x0:Int) (z0:Int) (lnP (fun l=>ix (D 1+1) (D 2+1) x0 l z0) l) (l:Int)) (.inr (a,lst3 (fun i=>(D i:Int)),(x0:Int),(z0:Int),lnP (fun l=>ix (D 1+1) (D 2+1) x0 l z0) (D 1+1),())):=by
 intro r
 have g2:=g 1
 induction r with
 | zero =>
  intro l h
  refine Evt.step (fun k n=>spec_beList_L2003530.eq_2 k _ _ _ _ _ _ n) ?_
  have:l=D 1+1:=by omega
  subst this
  have e:(lst3 fun i=>(D i:Int)).getD 1 0=(D 1:Int):=rfl
  rw [e]
  exact Evt.ctrue rfl (Evt.cfalse (decide_eq_false (by omega)) .pure)
 | succ r ih =>
  intro l h
  have ih:=ih (l+1) (by omega)
  rw [lnP_succ]at ih
  refine Evt.step (fun k n=>spec_beList_L2003530.eq_2 k _ _ _ _ _ _ n) ?_
  have e:(lst3 fun i=>(D i:Int)).getD 1 0=(D 1:Int):=rfl
  rw [e,w64_next (by simp only [lenB];omega)]
  exact Evt.ctrue rfl (Evt.ctrue (decide_eq_true (by omega)) (Evt.bind (.const (beAt_eq g (x:=x0) (y:=l) (z:=z0) hu (by omega) hi)) (Evt.ctrue (decide_eq_true (by rw [lnP_len];simp;omega)) ih)))
theorem inB{D:Nat→Nat}(g:∀i,D i≤4){x0:Nat}(hu:x0≤D 0):∀(r z0:Nat) (f:Nat→Nat→Nat→Int),z0+r=D 2+1 →
  Evt (fun k n=>spec_beList_L7826 k n (gr (D 0+1) (D 1+1) (D 2+1) f) (lst3 fun i=>(D i:Int)) (x0:Int) (z0:Int)) (.inr (gr (D 0+1) (D 1+1) (D 2+1) (fun x y z=>if x=x0∧z0≤z then TB D f x y z else f x y z),lst3 (fun i=>(D i:Int)),(x0:Int),())):=by
 intro r
 have g1:=g 2
 have g2:=g 1
 induction r with
 | zero =>
  intro z0 f h
  refine Evt.step (fun k n=>spec_beList_L7826.eq_2 k _ _ _ _ n) ?_
  have e:(lst3 fun i=>(D i:Int)).getD 2 0=(D 2:Int):=rfl
  rw [e]
  have e2:(gr (D 0+1) (D 1+1) (D 2+1) fun x y z=>if x=x0∧z0≤z then TB D f x y z else f x y z)=gr (D 0+1) (D 1+1) (D 2+1) f:=gr_congr (fun x y z _ _ _=>by rw [if_neg];omega)
  rw [e2]
  exact Evt.ctrue rfl (Evt.cfalse (decide_eq_false (by omega)) .pure)
 | succ r ih =>
  intro z0 f h
  have hi:z0≤D 2:=by omega
  have hat:=atB g hu hi (gr (D 0+1) (D 1+1) (D 2+1) f) (D 1+1) 0 (by omega)
  have hln:Ln (D 0+1) (D 1+1) (D 2+1) (D 1+1) (fun _=>x0) (fun l=>l) (fun _=>z0) (fun x y z=>x=x0∧z=z0) (fun x y z=>y):=⟨fun l hl=>by omega,fun x y z l hl=>by omega⟩
  have hbl:=beLine_ev hln g2 (f:=f)
  have ih:=ih (z0+1) (fun x y z=>if (x=x0∧z=z0)∧y<D 1+1 then IntKind.wrap .i64 (sm (y+1) fun j=>wt (D 1) y j*f x0 j z0)else f x y z) (by omega)
  have e2:(gr (D 0+1) (D 1+1) (D 2+1) fun x y z=>if x=x0∧z0+1≤z then TB D (fun x y z=>if (x=x0∧z=z0)∧y<D 1+1 then IntKind.wrap .i64 (sm (y+1) fun j=>wt (D 1) y j*f x0 j z0)else f x y z) x y z else if (x=x0∧z=z0)∧y<D 1+1 then IntKind.wrap .i64 (sm (y+1) fun j=>wt (D 1) y j*f x0 j z0)else f x y z)=gr (D 0+1) (D 1+1) (D 2+1) fun x y z=>if x=x0∧z0≤z then TB D f x y z else f x y z:=by
   refine gr_congr (fun x y z hx hy hz => ?_)
   by_cases h1:x=x0∧z0+1≤z
   ·rw [if_pos h1,if_pos (by omega)]
    unfold TB
    congr 1
    refine sm_congr (fun j hj => ?_)
    dsimp only
    rw [if_neg (by omega)]
   ·rw [if_neg h1]
    by_cases h2:x=x0∧z=z0
    ·rw [if_pos ⟨h2,by omega⟩,if_pos (by omega)]
     obtain⟨rfl,rfl⟩:=h2
     rfl
    ·rw [if_neg (fun hh=>h2 hh.1),if_neg (by omega)]
  rw [e2]at ih
  refine Evt.step (fun k n=>spec_beList_L7826.eq_2 k _ _ _ _ n) ?_
  have e:(lst3 fun i=>(D i:Int)).getD 2 0=(D 2:Int):=rfl
  rw [e]
  have ez:lnP (fun l=>ix (D 1+1) (D 2+1) x0 l z0) 0 = []:=rfl
  rw [ez]at hat
  refine Evt.ctrue rfl (Evt.ctrue (decide_eq_true (by omega)) (Evt.inr (Evt.diag hat) ?_))
  simp only
  rw [w64_next (by simp only [lenB];omega)]
  exact Evt.bind hbl ih
theorem passB{D:Nat→Nat}(g:∀i,D i≤4):∀(r x0:Nat) (f:Nat→Nat→Nat→Int),x0+r=D 0+1 →
  Evt (fun k n=>spec_beList_L122 k n (gr (D 0+1) (D 1+1) (D 2+1) f) (lst3 fun i=>(D i:Int)) (x0:Int)) (.inr (gr (D 0+1) (D 1+1) (D 2+1) (fun x y z=>if x0≤x then TB D f x y z else f x y z),lst3 (fun i=>(D i:Int)),())):=by
 intro r
 have g1:=g 0
 induction r with
 | zero =>
  intro x0 f h
  refine Evt.step (fun k n=>spec_beList_L122.eq_2 k _ _ _ n) ?_
  have e:(lst3 fun i=>(D i:Int)).getD 0 0=(D 0:Int):=rfl
  rw [e]
  have e2:(gr (D 0+1) (D 1+1) (D 2+1) fun x y z=>if x0≤x then TB D f x y z else f x y z)=gr (D 0+1) (D 1+1) (D 2+1) f:=gr_congr (fun x y z _ _ _=>by rw [if_neg];omega)
  rw [e2]
  exact Evt.ctrue rfl (Evt.cfalse (decide_eq_false (by omega)) .pure)
 | succ r ih =>
  intro x0 f h
  have hin:=inB g (show x0≤D 0 by omega) (D 2+1) 0 f (by omega)
  have ih:=ih (x0+1) (fun x y z=>if x=x0∧0≤z then TB D f x y z else f x y z) (by omega)
  have e2:(gr (D 0+1) (D 1+1) (D 2+1) fun x y z=>if x0+1≤x then TB D (fun x y z=>if x=x0∧0≤z then TB D f x y z else f x y z) x y z else if x=x0∧0≤z then TB D f x y z else f x y z)=gr (D 0+1) (D 1+1) (D 2+1) fun x y z=>if x0≤x then TB D f x y z else f x y z:=by
   refine gr_congr (fun x y z hx hy hz => ?_)
   by_cases h1:x0+1≤x
   ·rw [if_pos h1,if_pos (by omega)]
    conv=>lhs;unfold TB
    conv=>rhs;unfold TB
    congr 1
    refine sm_congr (fun j hj => ?_)
    dsimp only
    rw [if_neg (by omega)]
   ·rw [if_neg h1]
    by_cases h2:x=x0
    ·rw [if_pos ⟨h2,by omega⟩,if_pos (by omega)]
    ·rw [if_neg (fun hh=>h2 hh.1),if_neg (by omega)]
  rw [e2]at ih
  refine Evt.step (fun k n=>spec_beList_L122.eq_2 k _ _ _ n) ?_
  have e:(lst3 fun i=>(D i:Int)).getD 0 0=(D 0:Int):=rfl
  rw [e]
  refine Evt.ctrue rfl (Evt.ctrue (decide_eq_true (by omega)) (Evt.inr (Evt.diag hin) ?_))
  simp only
  rw [w64_next (by simp only [lenB];omega)]
  exact ih

def TC(D:Nat→Nat)(f:Nat→Nat→Nat→Int)(x y z:Nat):Int:=IntKind.wrap .i64 (sm (x+1) fun j=>wt (D 0) x j*f j y z)
theorem atC{D:Nat→Nat}(g:∀i,D i≤4){y0 z0:Nat}(hu:y0≤D 1)(hi:z0≤D 2)(a:List Int):∀(r l:Nat),l+r=D 0+1 →
  Evt (fun k n=>spec_beList_L4100682 k n a (lst3 fun i=>(D i:Int)) (y0:Int) (z0:Int) (lnP (fun l=>ix (D 1+1) (D 2+1) l y0 z0) l) (l:Int)) (.inr (a,lst3 (fun i=>(D i:Int)),(y0:Int),(z0:Int),lnP (fun l=>ix (D 1+1) (D 2+1) l y0 z0) (D 0+1),())):=by
 intro r
 have g2:=g 0
 induction r with
 | zero =>
  intro l h
  refine Evt.step (fun k n=>spec_beList_L4100682.eq_2 k _ _ _ _ _ _ n) ?_
  have:l=D 0+1:=by omega
  subst this
  have e:(lst3 fun i=>(D i:Int)).getD 0 0=(D 0:Int):=rfl
  rw [e]
  exact Evt.ctrue rfl (Evt.cfalse (decide_eq_false (by omega)) .pure)
 | succ r ih =>
  intro l h
  have ih:=ih (l+1) (by omega)
  rw [lnP_succ]at ih
  refine Evt.step (fun k n=>spec_beList_L4100682.eq_2 k _ _ _ _ _ _ n) ?_
  have e:(lst3 fun i=>(D i:Int)).getD 0 0=(D 0:Int):=rfl
  rw [e,w64_next (by simp only [lenB];omega)]
  exact Evt.ctrue rfl (Evt.ctrue (decide_eq_true (by omega)) (Evt.bind (.const (beAt_eq g (x:=l) (y:=y0) (z:=z0) (by omega) hu hi)) (Evt.ctrue (decide_eq_true (by rw [lnP_len];simp;omega)) ih)))
theorem inC{D:Nat→Nat}(g:∀i,D i≤4){y0:Nat}(hu:y0≤D 1):∀(r z0:Nat) (f:Nat→Nat→Nat→Int),z0+r=D 2+1 →
  Evt (fun k n=>spec_beList_L16018 k n (gr (D 0+1) (D 1+1) (D 2+1) f) (lst3 fun i=>(D i:Int)) (y0:Int) (z0:Int)) (.inr (gr (D 0+1) (D 1+1) (D 2+1) (fun x y z=>if y=y0∧z0≤z then TC D f x y z else f x y z),lst3 (fun i=>(D i:Int)),(y0:Int),())):=by
 intro r
 have g1:=g 2
 have g2:=g 0
 induction r with
 | zero =>
  intro z0 f h
  refine Evt.step (fun k n=>spec_beList_L16018.eq_2 k _ _ _ _ n) ?_
  have e:(lst3 fun i=>(D i:Int)).getD 2 0=(D 2:Int):=rfl
  rw [e]
  have e2:(gr (D 0+1) (D 1+1) (D 2+1) fun x y z=>if y=y0∧z0≤z then TC D f x y z else f x y z)=gr (D 0+1) (D 1+1) (D 2+1) f:=gr_congr (fun x y z _ _ _=>by rw [if_neg];omega)
  rw [e2]
  exact Evt.ctrue rfl (Evt.cfalse (decide_eq_false (by omega)) .pure)
 | succ r ih =>
  intro z0 f h
  have hi:z0≤D 2:=by omega
  have hat:=atC g hu hi (gr (D 0+1) (D 1+1) (D 2+1) f) (D 0+1) 0 (by omega)
  have hln:Ln (D 0+1) (D 1+1) (D 2+1) (D 0+1) (fun l=>l) (fun _=>y0) (fun _=>z0) (fun x y z=>y=y0∧z=z0) (fun x y z=>x):=⟨fun l hl=>by omega,fun x y z l hl=>by omega⟩
  have hbl:=beLine_ev hln g2 (f:=f)
  have ih:=ih (z0+1) (fun x y z=>if (y=y0∧z=z0)∧x<D 0+1 then IntKind.wrap .i64 (sm (x+1) fun j=>wt (D 0) x j*f j y0 z0)else f x y z) (by omega)
  have e2:(gr (D 0+1) (D 1+1) (D 2+1) fun x y z=>if y=y0∧z0+1≤z then TC D (fun x y z=>if (y=y0∧z=z0)∧x<D 0+1 then IntKind.wrap .i64 (sm (x+1) fun j=>wt (D 0) x j*f j y0 z0)else f x y z) x y z else if (y=y0∧z=z0)∧x<D 0+1 then IntKind.wrap .i64 (sm (x+1) fun j=>wt (D 0) x j*f j y0 z0)else f x y z)=gr (D 0+1) (D 1+1) (D 2+1) fun x y z=>if y=y0∧z0≤z then TC D f x y z else f x y z:=by
   refine gr_congr (fun x y z hx hy hz => ?_)
   by_cases h1:y=y0∧z0+1≤z
   ·rw [if_pos h1,if_pos (by omega)]
    unfold TC
    congr 1
    refine sm_congr (fun j hj => ?_)
    dsimp only
    rw [if_neg (by omega)]
   ·rw [if_neg h1]
    by_cases h2:y=y0∧z=z0
    ·rw [if_pos ⟨h2,by omega⟩,if_pos (by omega)]
     obtain⟨rfl,rfl⟩:=h2
     rfl
    ·rw [if_neg (fun hh=>h2 hh.1),if_neg (by omega)]
  rw [e2]at ih
  refine Evt.step (fun k n=>spec_beList_L16018.eq_2 k _ _ _ _ n) ?_
  have e:(lst3 fun i=>(D i:Int)).getD 2 0=(D 2:Int):=rfl
  rw [e]
  have ez:lnP (fun l=>ix (D 1+1) (D 2+1) l y0 z0) 0 = []:=rfl
  rw [ez]at hat
  refine Evt.ctrue rfl (Evt.ctrue (decide_eq_true (by omega)) (Evt.inr (Evt.diag hat) ?_))
  simp only
  rw [w64_next (by simp only [lenB];omega)]
  exact Evt.bind hbl ih
theorem passC{D:Nat→Nat}(g:∀i,D i≤4):∀(r y0:Nat) (f:Nat→Nat→Nat→Int),y0+r=D 1+1 →
  Evt (fun k n=>spec_beList_L250 k n (gr (D 0+1) (D 1+1) (D 2+1) f) (lst3 fun i=>(D i:Int)) (y0:Int)) (.inr (gr (D 0+1) (D 1+1) (D 2+1) (fun x y z=>if y0≤y then TC D f x y z else f x y z),lst3 (fun i=>(D i:Int)),())):=by
 intro r
 have g1:=g 1
 induction r with
 | zero =>
  intro y0 f h
  refine Evt.step (fun k n=>spec_beList_L250.eq_2 k _ _ _ n) ?_
  have e:(lst3 fun i=>(D i:Int)).getD 1 0=(D 1:Int):=rfl
  rw [e]
  have e2:(gr (D 0+1) (D 1+1) (D 2+1) fun x y z=>if y0≤y then TC D f x y z else f x y z)=gr (D 0+1) (D 1+1) (D 2+1) f:=gr_congr (fun x y z _ _ _=>by rw [if_neg];omega)
  rw [e2]
  exact Evt.ctrue rfl (Evt.cfalse (decide_eq_false (by omega)) .pure)
 | succ r ih =>
  intro y0 f h
  have hin:=inC g (show y0≤D 1 by omega) (D 2+1) 0 f (by omega)
  have ih:=ih (y0+1) (fun x y z=>if y=y0∧0≤z then TC D f x y z else f x y z) (by omega)
  have e2:(gr (D 0+1) (D 1+1) (D 2+1) fun x y z=>if y0+1≤y then TC D (fun x y z=>if y=y0∧0≤z then TC D f x y z else f x y z) x y z else if y=y0∧0≤z then TC D f x y z else f x y z)=gr (D 0+1) (D 1+1) (D 2+1) fun x y z=>if y0≤y then TC D f x y z else f x y z:=by
   refine gr_congr (fun x y z hx hy hz => ?_)
   by_cases h1:y0+1≤y
   ·rw [if_pos h1,if_pos (by omega)]
    conv=>lhs;unfold TC
    conv=>rhs;unfold TC
    congr 1
    refine sm_congr (fun j hj => ?_)
    dsimp only
    rw [if_neg (by omega)]
   ·rw [if_neg h1]
    by_cases h2:y=y0
    ·rw [if_pos ⟨h2,by omega⟩,if_pos (by omega)]
    ·rw [if_neg (fun hh=>h2 hh.1),if_neg (by omega)]
  rw [e2]at ih
  refine Evt.step (fun k n=>spec_beList_L250.eq_2 k _ _ _ n) ?_
  have e:(lst3 fun i=>(D i:Int)).getD 1 0=(D 1:Int):=rfl
  rw [e]
  refine Evt.ctrue rfl (Evt.ctrue (decide_eq_true (by omega)) (Evt.inr (Evt.diag hin) ?_))
  simp only
  rw [w64_next (by simp only [lenB];omega)]
  exact ih

theorem beList_ev{p:List Tm}{K:Nat}(hK:K≤4)(hb:p.length<lenB)(hg:∀t∈p,tmGd t){lo hi:List Int}(hl:hi.length=lo.length)(h3:lo.length≤3)(g:GC (Dg p lo hi) (fun i=>lo.getD i 0) (fun i=>hi.getD i 0)) :
  Evt (fun k _=>spec_beList k p lo hi (K:Int)) (gr (Dg p lo hi 0+1) (Dg p lo hi 1+1) (Dg p lo hi 2+1) (TC (Dg p lo hi) (TB (Dg p lo hi) (TA (Dg p lo hi) fun x y z=>IntKind.wrap .i64 (Av K (fun i=>lo.getD i 0) (fun i=>hi.getD i 0) p p x y z)))),lst3 fun i=>(Dg p lo hi i:Int)):=by
 refine Evt.eq (f:=fun k q=>_) ?_ (fun k q=>by rw [spec_beList])
 have hA:=passA g.d (Dg p lo hi 0+1) 0 (fun x y z=>IntKind.wrap .i64 (Av K (fun i=>lo.getD i 0) (fun i=>hi.getD i 0) p p x y z)) (by omega)
 have hB:=passB g.d (Dg p lo hi 0+1) 0 (TA (Dg p lo hi) fun x y z=>IntKind.wrap .i64 (Av K (fun i=>lo.getD i 0) (fun i=>hi.getD i 0) p p x y z)) (by omega)
 have hC:=passC g.d (Dg p lo hi 1+1) 0 (TB (Dg p lo hi) (TA (Dg p lo hi) fun x y z=>IntKind.wrap .i64 (Av K (fun i=>lo.getD i 0) (fun i=>hi.getD i 0) p p x y z))) (by omega)
 have e:∀(T f:Nat→Nat→Nat→Int) (c:Nat→Nat→Nat→Nat),(gr (Dg p lo hi 0+1) (Dg p lo hi 1+1) (Dg p lo hi 2+1) fun x y z=>if 0≤c x y z then T x y z else f x y z)=gr (Dg p lo hi 0+1) (Dg p lo hi 1+1) (Dg p lo hi 2+1) T:=fun T f c=>gr_congr (fun x y z _ _ _=>by rw [if_pos (by omega)])
 rw [e _ _ (fun x _ _=>x)]at hA
 rw [e _ _ (fun x _ _=>x)]at hB
 rw [e _ _ (fun _ y _=>y)]at hC
 exact Evt.bind (beGrid_ev hK hb hg hl h3 g) (Evt.inr (Evt.diag hA) (Evt.inr (Evt.diag hB) (Evt.inr (Evt.diag hC) .pure)))
end Go.Ev.G

namespace Go.Ev.G
open Go Go.Ev
set_option maxRecDepth 100000

theorem degV_max(j:Nat):∀(p:List Tm) (a b:Int),degV j (max a b) p=max a (degV j b p)
 | [],_,_=>rfl
 | t::r,a,b=>by
  rw [degV,degV,show max (max a b) (pw t j)=max a (max b (pw t j))by omega,degV_max j r]
theorem degV_mx{p:List Tm}(i:Nat):degV i 0 p=(mxE p i:Int):=by
 have h:=degV_max i p 0 (-1)
 have e:max (0:Int) (-1)=0:=by decide
 rw [e]at h
 unfold mxE
 omega
def lsN(s:Nat)(g:Nat→Int):List Int:=(List.range s).map g
theorem lsN_len{s:Nat}{g:Nat→Int}:(lsN s g).length=s:=by simp [lsN]
theorem lsN_get{s i:Nat}{g:Nat→Int}(h:i<s):(lsN s g).getD i 0=g i:=map_get h
theorem lsN_set{s d:Nat}{g:Nat→Int}{v:Int}:(lsN s g).set d v=lsN s fun i=>if i=d then v else g i:=by
 unfold lsN
 apply List.ext_getElem
 ·simp
 ·intro i h1 h2
  simp only [List.getElem_set,List.getElem_map,List.getElem_range]
  by_cases h:d=i
  ·rw [if_pos h,if_pos h.symm]
  ·rw [if_neg h,if_neg (fun e=>h e.symm)]
theorem lsN_congr{s:Nat}{g g':Nat→Int}(h:∀i,i<s→g i=g' i):lsN s g=lsN s g':=by
 unfold lsN
 exact List.map_congr_left (fun i hi=>h i (List.mem_range.1 hi))
theorem exps_take{t:Tm}{s:Nat}(h:s≤3):([t.2.1,t.2.2.1,t.2.2.2]:List Int).take s=lsN s (pw t):=by
 rcases(by omega:s=0∨s=1∨s=2∨s=3)with rfl | rfl | rfl | rfl <;> rfl
theorem degs_inner{s:Nat}(hs:s≤3){t:Tm}(x13:List Tm)(x14 x15:Int):∀(r d:Nat) (g:Nat→Int),d+r=s →
  Evt (fun k n=>impl_degreesOf_L29902 k n (s:Int) (lsN s g) x13 x14 x15 (lsN s (pw t)) (s:Int) (d:Int)) (.inr ((s:Int),lsN s (fun i=>if d≤i then max (g i) (pw t i)else g i),x13,x14,x15,())):=by
 intro r
 induction r with
 | zero =>
  intro d g h
  refine Evt.step (fun k n=>impl_degreesOf_L29902.eq_2 k _ _ _ _ _ _ _ _ n) ?_
  have e:lsN s (fun i=>if d≤i then max (g i) (pw t i)else g i)=lsN s g:=lsN_congr (fun i hi=>by rw [if_neg (by omega)])
  rw [e]
  exact Evt.cfalse (decide_eq_false (by omega)) .pure
 | succ r ih =>
  intro d g h
  have ih:=ih (d+1) (fun i=>if i=d then max (g d) (pw t d)else g i) (by omega)
  have e:lsN s (fun i=>if d+1≤i then max (if i=d then max (g d) (pw t d)else g i) (pw t i)else if i=d then max (g d) (pw t d)else g i)=lsN s (fun i=>if d≤i then max (g i) (pw t i)else g i):=lsN_congr (fun i hi=>by
   by_cases h1:d+1≤i
   ·rw [if_pos h1,if_neg (by omega),if_pos (by omega)]
   ·rw [if_neg h1]
    by_cases h2:i=d
    ·subst h2
     rw [if_pos rfl,if_pos (by omega)]
    ·rw [if_neg h2,if_neg (by omega)])
  rw [e,←lsN_set]at ih
  refine Evt.step (fun k n=>impl_degreesOf_L29902.eq_2 k _ _ _ _ _ _ _ _ n) ?_
  rw [Int.toNat_natCast,lsN_get (by omega),lsN_get (by omega),w64_next (by simp only [lenB];omega)]
  have hm:(if g d<pw t d then pw t d else g d)=max (g d) (pw t d):=by split <;> omega
  rw [hm]
  exact Evt.ctrue (decide_eq_true (by omega)) (Evt.ctrue mid_ge (Evt.ctrue (decide_eq_true (by rw [lsN_len];omega)) (Evt.ctrue mid_ge (Evt.ctrue (decide_eq_true (by rw [lsN_len];omega)) (Evt.ctrue mid_ge (Evt.ctrue (decide_eq_true (by rw [lsN_len];omega)) ih))))))
theorem degreesOf_ev{p:List Tm}{s:Nat}(hs:s≤3)(hb:p.length<lenB):Evt (fun k _=>impl_degreesOf k p (s:Int)) (lsN s fun i=>(mxE p i:Int)):=by
 refine Evt.eq (f:=fun k q=>_) ?_ (fun k q=>by rw [impl_degreesOf])
 have key:∀(r d:List Tm) (g:Nat→Int),d++r=p→Evt (fun k n=>impl_degreesOf_L58 k n (s:Int) (lsN s g) p (p.length:Int) d.length) (.inr (lsN s (fun i=>degV i (g i) r),())):=by
  intro r
  induction r with
  | nil =>
   intro d g h
   refine Evt.step (fun k n=>impl_degreesOf_L58.eq_2 k _ _ _ _ _ n) ?_
   rw [List.append_nil]at h
   subst h
   exact Evt.cfalse (by simp) .pure
  | cons e r ih =>
   intro d g h
   have hxl:=congrArg List.length h
   simp at hxl
   have hi:=degs_inner hs (t:=e) p (p.length:Int) (d.length:Int) s 0 g (by omega)
   have ih:=ih (d ++ [e]) (fun i=>if 0≤i then max (g i) (pw e i)else g i) (by simpa using h)
   rw [←len_next (r:=r) (by rw [h];exact hb)]at ih
   have e1:lsN s (fun i=>degV i (if 0≤i then max (g i) (pw e i)else g i) r)=lsN s (fun i=>degV i (g i) (e::r)):=lsN_congr (fun i _=>by rw [if_pos (by omega)];rfl)
   rw [e1]at ih
   have g0:p.getD (Int.toNat (d.length:Int)) (0,0,0,0)=e:=by rw [←h];exact mid_get
   refine Evt.step (fun k n=>impl_degreesOf_L58.eq_2 k _ _ _ _ _ n) ?_
   rw [g0]
   have ex:impl_Term_exponents e=some e.2:=rfl
   refine Evt.ctrue (decide_eq_true (by omega)) (Evt.ctrue mid_ge (Evt.ctrue (decide_eq_true (by omega)) (Evt.bind (.const ex) (Evt.ctrue mid_ge (Evt.ctrue (decide_eq_true (by omega)) ?_)))))
   rw [Int.toNat_natCast,exps_take hs,lsN_len]
   exact Evt.inr (Evt.diag hi) ih
 have h0:=key p [] (fun _=>0) rfl
 have e0:List.replicate (Int.toNat (s:Int)) (0:Int)=lsN s fun _=>0:=by
  rw [Int.toNat_natCast]
  unfold lsN
  rw [List.map_const',List.length_range]
 rw [e0]
 have e1:lsN s (fun i=>degV i 0 p)=lsN s fun i=>(mxE p i:Int):=lsN_congr (fun i _=>degV_mx i)
 rw [e1]at h0
 exact Evt.ctrue mid_ge (Evt.ctrue (decide_eq_true (by omega)) (Evt.inr (Evt.diag h0) .pure))

def plS(out:List (List Int))(m:Nat):List (List Int):=out.flatMap fun l=>(List.range (m+1)).map fun n:Nat=>l ++ [(n:Int)]
theorem plS_len{out:List (List Int)}{m:Nat}:(plS out m).length=out.length*(m+1):=by
 unfold plS
 induction out with
 | nil=>simp
 | cons l out ih=>rw [List.flatMap_cons,List.length_append,ih];simp [Nat.add_mul];omega
theorem pl_inner{out:List (List Int)}{l:List Int}(hl:l.length≤10){m:Nat}(hm:m≤4)(x11:List Int)(x12 x13 x18 x19:Int):∀(r n0:Nat) (nx:List (List Int)),n0+r=m+1→nx.length+r≤1000 →
  Evt (fun k n=>impl_places_L15309414 k n (m:Int) nx l x11 x12 x13 out x18 x19 ((m+1:Nat):Int) (n0:Int)) (.inr ((m:Int),nx++(List.range' n0 r).map (fun n:Nat=>l ++ [(n:Int)]),x11,x12,x13,out,x18,x19,())):=by
 intro r
 induction r with
 | zero =>
  intro n0 nx h _
  refine Evt.step (fun k n=>impl_places_L15309414.eq_2 k _ _ _ _ _ _ _ _ _ _ _ n) ?_
  simp only [List.range'_zero,List.map_nil,List.append_nil]
  exact Evt.cfalse (decide_eq_false (by omega)) .pure
 | succ r ih =>
  intro n0 nx h hx
  have ih:=ih (n0+1) (nx ++ [l ++ [(n0:Int)]]) (by omega) (by simp;omega)
  have e:nx ++ [l ++ [(n0:Int)]]++(List.range' (n0+1) r).map (fun n:Nat=>l ++ [(n:Int)])=nx++(List.range' n0 (r+1)).map (fun n:Nat=>l ++ [(n:Int)]):=by simp [List.range'_succ]
  rw [e]at ih
  have hcl:slices_Clone_int_int l=some l:=by
   unfold slices_Clone_int_int
   rw [decide_eq_true (by simp;omega)]
   rfl
  refine Evt.step (fun k n=>impl_places_L15309414.eq_2 k _ _ _ _ _ _ _ _ _ _ _ n) ?_
  rw [w64_next (by simp only [lenB];omega)]
  exact Evt.ctrue (decide_eq_true (by omega)) (Evt.bind (.const hcl) (Evt.ctrue (decide_eq_true (by simp;omega)) (Evt.ctrue (decide_eq_true (by simp;omega)) ih)))
theorem pl_mid{m:Nat}(hm:m≤4){out:List (List Int)}(ho:out.length≤25)(hl:∀l∈out,l.length≤10)(x11:List Int)(x12 x13:Int):∀(r d:List (List Int)),d++r=out →
  Evt (fun k n=>impl_places_L59802 k n (m:Int) (plS d m) x11 x12 x13 out (out.length:Int) d.length) (.inr (plS out m,x11,x12,x13,())):=by
 intro r
 induction r with
 | nil =>
  intro d h
  rw [List.append_nil]at h
  subst h
  refine Evt.step (fun k n=>impl_places_L59802.eq_2 k _ _ _ _ _ _ _ _ n) ?_
  exact Evt.cfalse (by simp) .pure
 | cons e r ih =>
  intro d h
  have hxl:=congrArg List.length h
  simp at hxl
  have ih:=ih (d ++ [e]) (by simpa using h)
  rw [←len_next (r:=r) (by rw [h];simp only [lenB];omega)]at ih
  have hpl:(plS d m).length≤125:=by
   rw [plS_len]
   have:d.length*(m+1)≤25*5:=Nat.mul_le_mul (by omega) (by omega)
   omega
  have hi:=pl_inner (out:=out) (hl e (by rw [←h];simp)) hm x11 x12 x13 (out.length:Int) (d.length:Int) (m+1) 0 (plS d m) (by omega) (by omega)
  have e1:plS d m++(List.range' 0 (m+1)).map (fun n:Nat=>e ++ [(n:Int)])=plS (d ++ [e]) m:=by
   unfold plS
   rw [List.flatMap_append,List.range_eq_range']
   simp
  rw [e1]at hi
  have g0:out.getD (Int.toNat (d.length:Int)) []=e:=by rw [←h];exact mid_get
  refine Evt.step (fun k n=>impl_places_L59802.eq_2 k _ _ _ _ _ _ _ _ n) ?_
  rw [g0,w64_next (m:=m) (by simp only [lenB];omega)]
  exact Evt.ctrue (decide_eq_true (by omega)) (Evt.ctrue mid_ge (Evt.ctrue (decide_eq_true (by omega)) (Evt.inr (Evt.diag hi) ih)))
def plO(g:Nat→Nat)(s:Nat):List (List Int):=((List.range s).map g).foldl plS [[]]
theorem plO_succ{g:Nat→Nat}{s:Nat}:plO g (s+1)=plS (plO g s) (g s):=by
 unfold plO
 rw [List.range_succ,List.map_append,List.foldl_append]
 rfl
theorem plO_ok{g:Nat→Nat}(hg:∀i,g i≤4):∀(s:Nat),(plO g s).length≤5 ^ s∧1≤(plO g s).length∧∀l∈plO g s,l.length=s∧∀i,i<s→0≤l.getD i 0∧l.getD i 0≤(g i:Int)
 | 0=>⟨Nat.le_refl 1,Nat.le_refl 1,by
  intro l hl
  have:l = []:=by simpa [plO] using hl
  subst this
  exact⟨rfl,fun i hi=>absurd hi (by omega)⟩⟩
 | s+1=>by
  obtain⟨h1,h2,h3⟩:=plO_ok hg s
  rw [plO_succ,plS_len]
  have:=hg s
  refine⟨?_,?_,?_⟩
  ·rw [Nat.pow_succ]
   exact Nat.mul_le_mul h1 (by omega)
  ·exact Nat.mul_le_mul h2 (show 1≤g s+1 by omega)
  ·intro l hl
   obtain⟨l0,hl0,hl⟩:=List.mem_flatMap.1 hl
   obtain⟨n,hn,rfl⟩:=List.mem_map.1 hl
   have hn:=List.mem_range.1 hn
   obtain⟨e,he⟩:=h3 l0 hl0
   refine⟨by simp [e],fun i hi => ?_⟩
   by_cases hs:i<s
   ·have e2:(l0 ++ [(n:Int)]).getD i 0=l0.getD i 0:=by
     rw [List.getD_eq_getElem?_getD,List.getD_eq_getElem?_getD,List.getElem?_append_left (by omega)]
    rw [e2]
    exact he i hs
   ·have:i=s:=by omega
    subst this
    have e2:(l0 ++ [(n:Int)]).getD i 0=n:=by
     rw [List.getD_eq_getElem?_getD,List.getElem?_append_right (by omega),e]
     simp
    rw [e2]
    omega
theorem places_ev{g:Nat→Nat}(hg:∀i,g i≤4){s:Nat}(hs:s≤3):Evt (fun k _=>impl_places k (lsN s fun i=>(g i:Int))) (plO g s):=by
 refine Evt.eq (f:=fun k q=>_) ?_ (fun k q=>by rw [impl_places])
 have key:∀(r d:Nat),d+r=s→Evt (fun k n=>impl_places_L58 k n (plO g d) (lsN s fun i=>(g i:Int)) (s:Int) (d:Int)) (.inr (plO g s,())):=by
  intro r
  induction r with
  | zero =>
   intro d h
   refine Evt.step (fun k n=>impl_places_L58.eq_2 k _ _ _ _ n) ?_
   have:d=s:=by omega
   subst this
   exact Evt.cfalse (decide_eq_false (by omega)) .pure
  | succ r ih =>
   intro d h
   have ih:=ih (d+1) (by omega)
   rw [plO_succ,←w64_next (m:=d) (by simp only [lenB];omega)]at ih
   obtain⟨h1,h2,h3⟩:=plO_ok hg d
   have h25:(plO g d).length≤25:=by
    have:5 ^ d≤5 ^ 2:=Nat.pow_le_pow_right (by decide) (by omega)
    omega
   have hm:=pl_mid (m:=g d) (hg d) (out:=plO g d) h25 (fun l hl=>by rw [(h3 l hl).1];omega) (lsN s fun i=>(g i:Int)) (s:Int) (d:Int) (plO g d) [] rfl
   refine Evt.step (fun k n=>impl_places_L58.eq_2 k _ _ _ _ n) ?_
   rw [Int.toNat_natCast,lsN_get (by omega)]
   exact Evt.ctrue (decide_eq_true (by omega)) (Evt.ctrue mid_ge (Evt.ctrue (decide_eq_true (by rw [lsN_len];omega)) (Evt.inr (Evt.diag hm) ih)))
 have h0:=key s 0 (by omega)
 rw [lsN_len]
 exact Evt.inr (Evt.diag h0) .pure
end Go.Ev.G

namespace Go.Ev.G
open Go Go.Ev
set_option maxRecDepth 100000

theorem choose_all{n j:Nat}(hn:n≤4)(hj:j≤4):Evt (fun k _=>impl_choose k (n:Int) (j:Int)) (chN n j:Int):=by
 by_cases h:j≤n
 ·exact choose_ev hn h
 ·rcases(by omega:(n=0∧j=1)∨(n=0∧j=2)∨(n=0∧j=3)∨(n=0∧j=4)∨(n=1∧j=2)∨(n=1∧j=3)∨(n=1∧j=4)∨(n=2∧j=3)∨(n=2∧j=4)∨(n=3∧j=4))with ⟨rfl,rfl⟩ | ⟨rfl,rfl⟩ | ⟨rfl,rfl⟩ | ⟨rfl,rfl⟩ | ⟨rfl,rfl⟩ | ⟨rfl,rfl⟩ | ⟨rfl,rfl⟩ | ⟨rfl,rfl⟩ | ⟨rfl,rfl⟩ | ⟨rfl,rfl⟩
  all_goals exact evt_100 (fun k=>by kernel_rfl)

def pr:Nat→(Nat→Int)→Int
 | 0,_=>1
 | n+1,f=>pr n f*f n
def jn(l:List Int)(q:Nat):Nat:=(l.getD q 0).toNat

theorem w_loop{lo hi:List Int}{i:Nat}(h1:i<lo.length)(h2:i<hi.length)(x1 x9:Int)(x10:List Int)(x11:Int)(x12:List (List Int))(x13:List Int)(x15:Tm)(x16:Int×Int×Int)(x17:Int)(x18:List Int)(x21 x22:Int)(x42:List Tm)(x43 x44:Int)(x50:List (List Int))(x51 x52:Int)(x67:List Int)(x68 x69:Int){j:Nat}(hj:j≤4):∀(r l:Nat) (c:Int),l+r=j →
  Evt (fun k n=>impl_bernstein_L543746216762 k n x1 lo hi x9 x10 x11 x12 x13 x15 x16 x17 x18 (IntKind.wrap .i64 c) (i:Int) x21 x22 x42 x43 x44 x50 x51 x52 x67 x68 x69 (j:Int) (l:Int))
   (.inr (x1,lo,hi,x9,x10,x11,x12,x13,x15,x16,x17,x18,IntKind.wrap .i64 (c*(hi.getD i 0 - lo.getD i 0) ^ r),(i:Int),x21,x22,x42,x43,x44,x50,x51,x52,x67,x68,x69,())):=by
 intro r
 induction r with
 | zero =>
  intro l c h
  refine Evt.step (fun k n=>impl_bernstein_L543746216762.eq_2 k _ _ _ _ _ _ _ _ _ _ _ _ _ _ _ _ _ _ _ _ _ _ _ _ _ _ _ n) ?_
  rw [Int.pow_zero,Int.mul_one]
  exact Evt.cfalse (decide_eq_false (by omega)) .pure
 | succ r ih =>
  intro l c h
  have ih:=ih (l+1) (c*(hi.getD i 0 - lo.getD i 0)) (by omega)
  rw [Int.mul_assoc,←Int.pow_succ']at ih
  refine Evt.step (fun k n=>impl_bernstein_L543746216762.eq_2 k _ _ _ _ _ _ _ _ _ _ _ _ _ _ _ _ _ _ _ _ _ _ _ _ _ _ _ n) ?_
  rw [Int.toNat_natCast,w64_next (by simp only [lenB];omega)]
  simp only [wr_mull,wr_mulr]
  exact Evt.ctrue (decide_eq_true (by omega)) (Evt.ctrue mid_ge (Evt.ctrue (decide_eq_true (by omega)) (Evt.ctrue mid_ge (Evt.ctrue (decide_eq_true (by omega)) ih))))
theorem l_loop{lo hi:List Int}{i:Nat}(h1:i<lo.length)(x1 x9:Int)(x10:List Int)(x11:Int)(x12:List (List Int))(x13:List Int)(x15:Tm)(x16:Int×Int×Int)(x17:Int)(x18:List Int)(x42:List Tm)(x43 x44:Int)(x50:List (List Int))(x51 x52:Int)(x67:List Int)(x68 x69:Int){X:Int}(hX:X≤4):∀(r l:Nat) (c:Int),X.toNat=l+r →
  Evt (fun k n=>impl_bernstein_L543746216766 k n x1 lo hi x9 x10 x11 x12 x13 x15 x16 x17 x18 (IntKind.wrap .i64 c) (i:Int) x42 x43 x44 x50 x51 x52 x67 x68 x69 X (l:Int))
   (.inr (x1,lo,hi,x9,x10,x11,x12,x13,x15,x16,x17,x18,IntKind.wrap .i64 (c*lo.getD i 0 ^ r),x42,x43,x44,x50,x51,x52,x67,x68,x69,())):=by
 intro r
 induction r with
 | zero =>
  intro l c h
  refine Evt.step (fun k n=>impl_bernstein_L543746216766.eq_2 k _ _ _ _ _ _ _ _ _ _ _ _ _ _ _ _ _ _ _ _ _ _ _ _ _ n) ?_
  rw [Int.pow_zero,Int.mul_one]
  exact Evt.cfalse (decide_eq_false (by omega)) .pure
 | succ r ih =>
  intro l c h
  have ih:=ih (l+1) (c*lo.getD i 0) (by omega)
  rw [Int.mul_assoc,←Int.pow_succ']at ih
  refine Evt.step (fun k n=>impl_bernstein_L543746216766.eq_2 k _ _ _ _ _ _ _ _ _ _ _ _ _ _ _ _ _ _ _ _ _ _ _ _ _ n) ?_
  rw [Int.toNat_natCast,w64_next (by simp only [lenB];omega)]
  simp only [wr_mull]
  exact Evt.ctrue (decide_eq_true (by omega)) (Evt.ctrue mid_ge (Evt.ctrue (decide_eq_true (by omega)) ih))
theorem e_loop{lo hi:List Int}{s:Nat}(hs:s≤3)(h1:lo.length=s)(h2:hi.length=s){t:Tm}(ht:tmGd t){js:List Int}(hjl:js.length=s)(hjs:∀i,i<s→0≤js.getD i 0∧js.getD i 0≤4)(x1 x9:Int)(x10:List Int)(x11:Int)(x12:List (List Int))(x13:List Int)(x16:Int×Int×Int)(x17:Int)(x42:List Tm)(x43 x44:Int)(x50:List (List Int))(x51 x52:Int)(C:Int):∀(r i:Nat),i+r=s →
  Evt (fun k n=>impl_bernstein_L265501082 k n x1 lo hi x9 x10 x11 x12 x13 t x16 x17 js (IntKind.wrap .i64 (C*pr i fun q=>prt (fun i=>lo.getD i 0) (fun i=>hi.getD i 0) t q (jn js q))) x42 x43 x44 x50 x51 x52 (lsN s (pw t)) (s:Int) (i:Int))
   (.inr (x1,lo,hi,x9,x10,x11,x12,x13,t,x16,x17,IntKind.wrap .i64 (C*pr s fun q=>prt (fun i=>lo.getD i 0) (fun i=>hi.getD i 0) t q (jn js q)),x42,x43,x44,x50,x51,x52,())):=by
 intro r
 induction r with
 | zero =>
  intro i h
  refine Evt.step (fun k n=>impl_bernstein_L265501082.eq_2 k _ _ _ _ _ _ _ _ _ _ _ _ _ _ _ _ _ _ _ _ _ _ n) ?_
  have:i=s:=by omega
  subst this
  exact Evt.cfalse (decide_eq_false (by omega)) .pure
 | succ r ih =>
  intro i h
  have ih:=ih (i+1) (by omega)
  have ej:=hjs i (by omega)
  have e1:js.getD i 0=((jn js i:Nat):Int):=by unfold jn;omega
  have hj4:jn js i≤4:=by omega
  have ee:=eN_pw ht i
  have hw:=w_loop (lo:=lo) (hi:=hi) (i:=i) (by omega) (by omega) x1 x9 x10 x11 x12 x13 t x16 x17 js (eN t i:Int) (jn js i:Int) x42 x43 x44 x50 x51 x52 (lsN s (pw t)) (s:Int) (i:Int) hj4 (jn js i) 0 ((C*pr i fun q=>prt (fun i=>lo.getD i 0) (fun i=>hi.getD i 0) t q (jn js q))*chN (eN t i) (jn js i)) (by omega)
  have hl:=l_loop (lo:=lo) (hi:=hi) (i:=i) (by omega) x1 x9 x10 x11 x12 x13 t x16 x17 js x42 x43 x44 x50 x51 x52 (lsN s (pw t)) (s:Int) (i:Int) (X:=(eN t i:Int) - (jn js i:Int)) (by omega) (eN t i - jn js i) 0 ((C*pr i fun q=>prt (fun i=>lo.getD i 0) (fun i=>hi.getD i 0) t q (jn js q))*chN (eN t i) (jn js i)*(hi.getD i 0 - lo.getD i 0) ^ jn js i) (by omega)
  have e2:(C*pr i fun q=>prt (fun i=>lo.getD i 0) (fun i=>hi.getD i 0) t q (jn js q))*chN (eN t i) (jn js i)*(hi.getD i 0 - lo.getD i 0) ^ jn js i*lo.getD i 0 ^ (eN t i - jn js i)=C*pr (i+1) fun q=>prt (fun i=>lo.getD i 0) (fun i=>hi.getD i 0) t q (jn js q):=by
   rw [pr]
   have e3:prt (fun i=>lo.getD i 0) (fun i=>hi.getD i 0) t i (jn js i)=chN (eN t i) (jn js i)*lo.getD i 0 ^ (eN t i - jn js i)*(hi.getD i 0 - lo.getD i 0) ^ jn js i:=rfl
   rw [e3]
   ac_rfl
  rw [e2]at hl
  refine Evt.step (fun k n=>impl_bernstein_L265501082.eq_2 k _ _ _ _ _ _ _ _ _ _ _ _ _ _ _ _ _ _ _ _ _ _ n) ?_
  rw [Int.toNat_natCast,lsN_get (by omega),e1,←ee.1]
  refine Evt.ctrue (decide_eq_true (by omega)) (Evt.ctrue mid_ge (Evt.ctrue (decide_eq_true (by rw [lsN_len];omega)) (Evt.ctrue mid_ge (Evt.ctrue (decide_eq_true (by omega)) (Evt.bind (choose_all ee.2 hj4) ?_)))))
  rw [wr_mull]
  refine Evt.inr (Evt.diag hw) ?_
  simp only
  rw [w64 (n:=(eN t i:Int) - (jn js i:Int)) (by omega) (by omega)]
  rw [←w64_next (m:=i) (by simp only [lenB];omega)]at ih
  exact Evt.inr (Evt.diag hl) ih

def cf(K n s:Nat)(L H:Nat→Int)(t:Tm)(l:List Int):Int:=Ct K n t*pr s fun q=>prt L H t q (jn l q)
theorem x_pass{lo hi:List Int}{s:Nat}(hs:s≤3)(h1:lo.length=s)(h2:hi.length=s){t:Tm}(ht:tmGd t){K n:Nat}(hK:K≤4)(hn:degN t≤n)(hn4:n≤4){all:List (List Int)}(hal:all.length≤125)(hall:∀l∈all,l.length=s∧∀i,i<s→0≤l.getD i 0∧l.getD i 0≤4)(S:List Int→Int)(x10:List Int)(x42:List Tm)(x43 x44:Int):∀(r d:List (List Int)),d++r=all →
  Evt (fun k m=>impl_bernstein_L259278 k m (K:Int) lo hi (s:Int) x10 (n:Int) all (d.map (fun l=>IntKind.wrap .i64 (S l+cf K n s (fun i=>lo.getD i 0) (fun i=>hi.getD i 0) t l))++r.map fun l=>IntKind.wrap .i64 (S l)) t t.2 x42 x43 x44 all (all.length:Int) d.length)
   (.inr ((K:Int),lo,hi,(s:Int),x10,(n:Int),all,all.map (fun l=>IntKind.wrap .i64 (S l+cf K n s (fun i=>lo.getD i 0) (fun i=>hi.getD i 0) t l)),x42,x43,x44,())):=by
 intro r
 induction r with
 | nil =>
  intro d h
  rw [List.append_nil]at h
  subst h
  refine Evt.step (fun k n=>impl_bernstein_L259278.eq_2 k _ _ _ _ _ _ _ _ _ _ _ _ _ _ _ _ n) ?_
  rw [List.map_nil,List.append_nil]
  exact Evt.cfalse (by simp) .pure
 | cons e r ih =>
  intro d h
  have hxl:=congrArg List.length h
  simp at hxl
  have ih:=ih (d ++ [e]) (by simpa using h)
  rw [←len_next (r:=r) (by rw [h];simp only [lenB];omega)]at ih
  obtain⟨le,ge⟩:=hall e (by rw [←h];simp)
  have hd:=eN_deg ht
  have hel:=e_loop hs h1 h2 ht le ge (K:Int) (s:Int) x10 (n:Int) all (d.map (fun l=>IntKind.wrap .i64 (S l+cf K n s (fun i=>lo.getD i 0) (fun i=>hi.getD i 0) t l))++(e::r).map fun l=>IntKind.wrap .i64 (S l)) t.2 (d.length:Int) x42 x43 x44 all (all.length:Int) (d.length:Int) (Ct K n t) s 0 (by omega)
  have e0:(Ct K n t*pr 0 fun q=>prt (fun i=>lo.getD i 0) (fun i=>hi.getD i 0) t q (jn e q))=Ct K n t:=by rw [pr,Int.mul_one]
  rw [e0]at hel
  have g0:all.getD (Int.toNat (d.length:Int)) []=e:=by rw [←h];exact mid_get
  have hdeg:impl_Term_degree t=some (degN t:Int):=by unfold impl_Term_degree;rw [degN_sum ht]
  have hkn:K*(n - degN t)≤16:=Nat.mul_le_mul hK (show n - degN t≤4 by omega)
  have ek:IntKind.wrap .i64 ((K:Int)*IntKind.wrap .i64 ((n:Int) - (degN t:Int)))=((K*(n - degN t):Nat):Int):=by
   rw [wr_mulr,show(n:Int) - (degN t:Int)=((n - degN t:Nat):Int)by omega,←Int.natCast_mul,w64 (by omega) (by omega)]
  have eb:IntKind.bits .i64=64:=rfl
  refine Evt.step (fun k n=>impl_bernstein_L259278.eq_2 k _ _ _ _ _ _ _ _ _ _ _ _ _ _ _ _ n) ?_
  refine Evt.ctrue (decide_eq_true (by omega)) (Evt.ctrue mid_ge (Evt.ctrue (decide_eq_true (by omega)) (Evt.bind (.const hdeg) ?_)))
  rw [g0,ek,Int.toNat_natCast,eb,Nat.min_eq_left (by omega),Int.toNat_natCast,exps_take hs,lsN_len]
  have ec:t.1*(2:Int) ^ (K*(n - degN t))=Ct K n t:=by
   unfold Ct
   rw [Int.pow_mul]
   simp
  rw [ec]
  refine Evt.cfalse (decide_eq_false (by omega)) (Evt.ctrue mid_ge (Evt.ctrue (decide_eq_true (by omega)) (Evt.inr (Evt.diag hel) ?_)))
  simp only
  have dl:(d.map (fun l=>IntKind.wrap .i64 (S l+cf K n s (fun i=>lo.getD i 0) (fun i=>hi.getD i 0) t l))).length=d.length:=by simp
  have eg:(d.map (fun l=>IntKind.wrap .i64 (S l+cf K n s (fun i=>lo.getD i 0) (fun i=>hi.getD i 0) t l))++(e::r).map fun l=>IntKind.wrap .i64 (S l)).getD d.length 0=IntKind.wrap .i64 (S e):=by
   rw [List.map_cons,←dl]
   simp [List.getD_eq_getElem?_getD]
  have es:(d.map (fun l=>IntKind.wrap .i64 (S l+cf K n s (fun i=>lo.getD i 0) (fun i=>hi.getD i 0) t l))++(e::r).map fun l=>IntKind.wrap .i64 (S l)).set d.length (IntKind.wrap .i64 (S e+cf K n s (fun i=>lo.getD i 0) (fun i=>hi.getD i 0) t e))=(d ++ [e]).map (fun l=>IntKind.wrap .i64 (S l+cf K n s (fun i=>lo.getD i 0) (fun i=>hi.getD i 0) t l))++r.map fun l=>IntKind.wrap .i64 (S l):=by
   rw [List.map_cons,←dl,List.map_append]
   simp
  have ll:d.length<(d.map (fun l=>IntKind.wrap .i64 (S l+cf K n s (fun i=>lo.getD i 0) (fun i=>hi.getD i 0) t l))++(e::r).map fun l=>IntKind.wrap .i64 (S l)).length:=by simp
  rw [Int.toNat_natCast,eg,wr_add]
  refine Evt.ctrue mid_ge (Evt.ctrue (decide_eq_true (by omega)) (Evt.ctrue mid_ge (Evt.ctrue (decide_eq_true (by omega)) ?_)))
  have es2:(Ct K n t*pr s fun q=>prt (fun i=>lo.getD i 0) (fun i=>hi.getD i 0) t q (jn e q))=cf K n s (fun i=>lo.getD i 0) (fun i=>hi.getD i 0) t e:=rfl
  rw [es2,es]
  exact ih

theorem p_loop{lo hi:List Int}{s:Nat}(hs:s≤3)(h1:lo.length=s)(h2:hi.length=s){p:List Tm}(hb:p.length<lenB)(hg:∀t∈p,tmGd t){K n:Nat}(hK:K≤4)(hn:∀t∈p,degN t≤n)(hn4:n≤4){all:List (List Int)}(hal:all.length≤125)(hall:∀l∈all,l.length=s∧∀i,i<s→0≤l.getD i 0∧l.getD i 0≤4)(x10:List Int):∀(r d:List Tm),d++r=p →
  Evt (fun k m=>impl_bernstein_L506 k m (K:Int) lo hi (s:Int) x10 (n:Int) all (all.map fun l=>IntKind.wrap .i64 ((d.map fun t=>cf K n s (fun i=>lo.getD i 0) (fun i=>hi.getD i 0) t l).sum)) p (p.length:Int) d.length)
   (.inr ((s:Int),x10,all,all.map (fun l=>IntKind.wrap .i64 ((p.map fun t=>cf K n s (fun i=>lo.getD i 0) (fun i=>hi.getD i 0) t l).sum)),())):=by
 intro r
 induction r with
 | nil =>
  intro d h
  rw [List.append_nil]at h
  subst h
  refine Evt.step (fun k n=>impl_bernstein_L506.eq_2 k _ _ _ _ _ _ _ _ _ _ _ n) ?_
  exact Evt.cfalse (by simp) .pure
 | cons t r ih =>
  intro d h
  have hxl:=congrArg List.length h
  simp at hxl
  have ih:=ih (d ++ [t]) (by simpa using h)
  rw [←len_next (r:=r) (by rw [h];exact hb)]at ih
  have htm:t∈p:=by rw [←h];simp
  have hx:=x_pass hs h1 h2 (hg t htm) hK (hn t htm) hn4 hal hall (fun l=>(d.map fun t=>cf K n s (fun i=>lo.getD i 0) (fun i=>hi.getD i 0) t l).sum) x10 p (p.length:Int) (d.length:Int) all [] rfl
  simp only [List.map_nil,List.nil_append,List.length_nil]at hx
  have e1:(all.map fun l=>IntKind.wrap .i64 (((d ++ [t]).map fun t=>cf K n s (fun i=>lo.getD i 0) (fun i=>hi.getD i 0) t l).sum))=all.map fun l=>IntKind.wrap .i64 ((d.map fun t=>cf K n s (fun i=>lo.getD i 0) (fun i=>hi.getD i 0) t l).sum+cf K n s (fun i=>lo.getD i 0) (fun i=>hi.getD i 0) t l):=List.map_congr_left (fun l _=>by simp)
  rw [e1]at ih
  have g0:p.getD (Int.toNat (d.length:Int)) (0,0,0,0)=t:=by rw [←h];exact mid_get
  have ex:impl_Term_exponents t=some t.2:=rfl
  refine Evt.step (fun k n=>impl_bernstein_L506.eq_2 k _ _ _ _ _ _ _ _ _ _ _ n) ?_
  rw [g0]
  exact Evt.ctrue (decide_eq_true (by omega)) (Evt.ctrue mid_ge (Evt.ctrue (decide_eq_true (by omega)) (Evt.bind (.const ex) (Evt.inr (Evt.diag hx) ih))))

def Wt(D:Nat→Nat)(s:Nat)(is js:List Int):Int:=pr s fun q=>wt (D q) (jn is q) (jn js q)
theorem s_loop{D:Nat→Nat}(hD:∀i,D i≤4){s:Nat}(hs:s≤3){is js:List Int}(hi:is.length=s)(hj:js.length=s)(his:∀i,i<s→0≤is.getD i 0∧is.getD i 0≤(D i:Int))(hjs:∀i,i<s→0≤js.getD i 0∧js.getD i 0≤(D i:Int))(x12:List (List Int))(x13 x23:List Int)(x24:Int)(x123:List (List Int))(x124 x125:Int)(x130:List (List Int))(x131 x132:Int)(C:Int):∀(r i:Nat),i+r=s →
  Evt (fun k n=>impl_bernstein_L535402906 k n (s:Int) (lsN s fun i=>(D i:Int)) x12 x13 x23 x24 is js (IntKind.wrap .i64 (C*pr i fun q=>wt (D q) (jn is q) (jn js q))) x123 x124 x125 x130 x131 x132 (s:Int) (i:Int))
   (.inr ((s:Int),lsN s (fun i=>(D i:Int)),x12,x13,x23,x24,is,IntKind.wrap .i64 (C*Wt D s is js),x123,x124,x125,x130,x131,x132,())):=by
 intro r
 induction r with
 | zero =>
  intro i h
  refine Evt.step (fun k n=>impl_bernstein_L535402906.eq_2 k _ _ _ _ _ _ _ _ _ _ _ _ _ _ _ _ _ n) ?_
  have:i=s:=by omega
  subst this
  exact Evt.cfalse (decide_eq_false (by omega)) .pure
 | succ r ih =>
  intro i h
  have ih:=ih (i+1) (by omega)
  have ei:=his i (by omega)
  have ej:=hjs i (by omega)
  have hd:=hD i
  have e1:is.getD i 0=((jn is i:Nat):Int):=by unfold jn;omega
  have e2:js.getD i 0=((jn js i:Nat):Int):=by unfold jn;omega
  have hc:=chN_bd (n:=D i) (j:=jn js i) hd (by omega)
  have e3:(C*pr i fun q=>wt (D q) (jn is q) (jn js q))*(Int.tdiv (fac (D i)) (chN (D i) (jn js i))*chN (jn is i) (jn js i))=C*pr (i+1) fun q=>wt (D q) (jn is q) (jn js q):=by
   rw [pr]
   have e4:wt (D i) (jn is i) (jn js i)=chN (jn is i) (jn js i)*Int.tdiv (fac (D i)) (chN (D i) (jn js i)):=rfl
   rw [e4]
   ac_rfl
  rw [←w64_next (m:=i) (by simp only [lenB];omega),←e3]at ih
  refine Evt.step (fun k n=>impl_bernstein_L535402906.eq_2 k _ _ _ _ _ _ _ _ _ _ _ _ _ _ _ _ _ n) ?_
  rw [Int.toNat_natCast,lsN_get (by omega),e1,e2,lsN_len]
  refine Evt.ctrue (decide_eq_true (by omega)) (Evt.ctrue mid_ge (Evt.ctrue (decide_eq_true (by omega)) (Evt.bind (.const (multiple_eq hd)) (Evt.ctrue mid_ge (Evt.ctrue (decide_eq_true (by omega)) (Evt.ctrue mid_ge (Evt.ctrue (decide_eq_true (by omega)) (Evt.bind (choose_all hd (by omega)) (Evt.cfalse (by simp;omega) (Evt.ctrue mid_ge (Evt.ctrue (decide_eq_true (by omega)) (Evt.ctrue mid_ge (Evt.ctrue (decide_eq_true (by omega)) (Evt.bind (choose_all (by omega) (by omega)) ?_))))))))))))))
  simp only [wr_mull,wr_mulr]
  exact ih
theorem j_pass{D:Nat→Nat}(hD:∀i,D i≤4){s:Nat}(hs:s≤3){all:List (List Int)}(hal:all.length≤125)(hall:∀l∈all,l.length=s∧∀i,i<s→0≤l.getD i 0∧l.getD i 0≤(D i:Int)){is:List Int}(his:is∈all)(A:List Int→Int)(O1 O2:List Int)(x124 x125:Int):∀(r d:List (List Int)),d++r=all →
  Evt (fun k m=>impl_bernstein_L522854 k m (s:Int) (lsN s fun i=>(D i:Int)) all (all.map fun l=>IntKind.wrap .i64 (A l)) (O1++IntKind.wrap .i64 ((d.map fun l=>A l*Wt D s is l).sum)::O2) (O1.length:Int) is all x124 x125 all (all.length:Int) d.length)
   (.inr ((s:Int),lsN s (fun i=>(D i:Int)),all,all.map (fun l=>IntKind.wrap .i64 (A l)),O1++IntKind.wrap .i64 ((all.map fun l=>A l*Wt D s is l).sum)::O2,all,x124,x125,())):=by
 intro r
 induction r with
 | nil =>
  intro d h
  rw [List.append_nil]at h
  subst h
  refine Evt.step (fun k n=>impl_bernstein_L522854.eq_2 k _ _ _ _ _ _ _ _ _ _ _ _ _ n) ?_
  exact Evt.cfalse (by simp) .pure
 | cons e r ih =>
  intro d h
  have hxl:=congrArg List.length h
  simp at hxl
  have ih:=ih (d ++ [e]) (by simpa using h)
  rw [←len_next (r:=r) (by rw [h];simp only [lenB];omega)]at ih
  obtain⟨le,ge⟩:=hall e (by rw [←h];simp)
  obtain⟨li,gi⟩:=hall is his
  have hsl:=s_loop hD hs li le gi ge all (all.map fun l=>IntKind.wrap .i64 (A l)) (O1++IntKind.wrap .i64 ((d.map fun l=>A l*Wt D s is l).sum)::O2) (O1.length:Int) all x124 x125 all (all.length:Int) (d.length:Int) (A e) s 0 (by omega)
  have e0:(A e*pr 0 fun q=>wt (D q) (jn is q) (jn e q))=A e:=by rw [pr,Int.mul_one]
  rw [e0]at hsl
  have g0:all.getD (Int.toNat (d.length:Int)) []=e:=by rw [←h];exact mid_get
  have g1:(all.map fun l=>IntKind.wrap .i64 (A l)).getD (Int.toNat (d.length:Int)) 0=IntKind.wrap .i64 (A e):=by
   rw [←h,List.map_append,List.map_cons]
   have:(d.length:Int)=((d.map fun l=>IntKind.wrap .i64 (A l)).length:Int):=by simp
   rw [this]
   exact mid_get
  have e1:((d ++ [e]).map fun l=>A l*Wt D s is l).sum=(d.map fun l=>A l*Wt D s is l).sum+A e*Wt D s is e:=by simp
  rw [e1]at ih
  refine Evt.step (fun k n=>impl_bernstein_L522854.eq_2 k _ _ _ _ _ _ _ _ _ _ _ _ _ n) ?_
  rw [g0,g1]
  refine Evt.ctrue (decide_eq_true (by omega)) (Evt.ctrue mid_ge (Evt.ctrue (decide_eq_true (by omega)) (Evt.ctrue mid_ge (Evt.ctrue (decide_eq_true (by simp;omega)) (Evt.inr (Evt.diag hsl) ?_)))))
  simp only
  rw [mid_get,mid_set,wr_add]
  exact Evt.ctrue mid_ge (Evt.ctrue mid_lt (Evt.ctrue mid_ge (Evt.ctrue mid_lt ih)))
theorem i_pass{D:Nat→Nat}(hD:∀i,D i≤4){s:Nat}(hs:s≤3){all:List (List Int)}(hal:all.length≤125)(hall:∀l∈all,l.length=s∧∀i,i<s→0≤l.getD i 0∧l.getD i 0≤(D i:Int))(A:List Int→Int):∀(r d:List (List Int)),d++r=all →
  Evt (fun k m=>impl_bernstein_L2042 k m (s:Int) (lsN s fun i=>(D i:Int)) all (all.map fun l=>IntKind.wrap .i64 (A l)) ((d.map fun is=>IntKind.wrap .i64 ((all.map fun l=>A l*Wt D s is l).sum))++List.replicate r.length 0) all (all.length:Int) d.length)
   (.inr (all.map (fun is=>IntKind.wrap .i64 ((all.map fun l=>A l*Wt D s is l).sum)),())):=by
 intro r
 induction r with
 | nil =>
  intro d h
  rw [List.append_nil]at h
  subst h
  refine Evt.step (fun k n=>impl_bernstein_L2042.eq_2 k _ _ _ _ _ _ _ _ n) ?_
  rw [List.length_nil,List.replicate_zero,List.append_nil]
  exact Evt.cfalse (by simp) .pure
 | cons e r ih =>
  intro d h
  have hxl:=congrArg List.length h
  simp at hxl
  have ih:=ih (d ++ [e]) (by simpa using h)
  rw [←len_next (r:=r) (by rw [h];simp only [lenB];omega)]at ih
  have hj:=j_pass hD hs hal hall (is:=e) (by rw [←h];simp) A (d.map fun is=>IntKind.wrap .i64 ((all.map fun l=>A l*Wt D s is l).sum)) (List.replicate r.length 0) (all.length:Int) (d.length:Int) all [] rfl
  have e0:IntKind.wrap .i64 (([]:List (List Int)).map fun l=>A l*Wt D s e l).sum=0:=rfl
  rw [e0,List.length_map]at hj
  have e1:(d.map fun is=>IntKind.wrap .i64 ((all.map fun l=>A l*Wt D s is l).sum))++(0:Int)::List.replicate r.length 0=(d.map fun is=>IntKind.wrap .i64 ((all.map fun l=>A l*Wt D s is l).sum))++List.replicate (e::r).length 0:=by rw [List.length_cons,List.replicate_succ]
  rw [e1]at hj
  have e2:(d.map fun is=>IntKind.wrap .i64 ((all.map fun l=>A l*Wt D s is l).sum))++IntKind.wrap .i64 ((all.map fun l=>A l*Wt D s e l).sum)::List.replicate r.length 0=((d ++ [e]).map fun is=>IntKind.wrap .i64 ((all.map fun l=>A l*Wt D s is l).sum))++List.replicate r.length 0:=by simp
  rw [e2]at hj
  simp only [List.length_nil]at hj
  have g0:all.getD (Int.toNat (d.length:Int)) []=e:=by rw [←h];exact mid_get
  refine Evt.step (fun k n=>impl_bernstein_L2042.eq_2 k _ _ _ _ _ _ _ _ n) ?_
  rw [g0]
  exact Evt.ctrue (decide_eq_true (by omega)) (Evt.ctrue mid_ge (Evt.ctrue (decide_eq_true (by omega)) (Evt.inr (Evt.diag hj) ih)))

def bsV3(p:List Tm)(K:Nat)(lo hi:List Int):List Int:=(plO (mxE p) lo.length).map fun is=>IntKind.wrap .i64 (((plO (mxE p) lo.length).map fun l=>(p.map fun t=>cf K (dgN p) lo.length (fun i=>lo.getD i 0) (fun i=>hi.getD i 0) t l).sum*Wt (mxE p) lo.length is l).sum)
theorem bernstein_ev{lo hi:List Int}(hs:lo.length≤3)(h2:hi.length=lo.length){p:List Tm}(hb:p.length<lenB)(hg:∀t∈p,tmGd t){K:Nat}(hK:K≤4):Evt (fun k _=>impl_bernstein k p (K:Int) lo hi) (bsV3 p K lo hi):=by
 refine Evt.eq (f:=fun k q=>_) ?_ (fun k q=>by rw [impl_bernstein])
 have hD:∀i,mxE p i≤4:=fun i=>(mxE_le hg i).1
 obtain⟨o1,o2,o3⟩:=plO_ok hD lo.length
 have o125:(plO (mxE p) lo.length).length≤125:=by
  have:5 ^ lo.length≤5 ^ 3:=Nat.pow_le_pow_right (by decide) hs
  omega
 have o4:∀l∈plO (mxE p) lo.length,l.length=lo.length∧∀i,i<lo.length→0≤l.getD i 0∧l.getD i 0≤4:=fun l hl=>⟨(o3 l hl).1,fun i h4=>by have:=(o3 l hl).2 i h4;have:=hD i;omega⟩
 have hip:=i_pass hD hs o125 o3 (fun l=>(p.map fun t=>cf K (dgN p) lo.length (fun i=>lo.getD i 0) (fun i=>hi.getD i 0) t l).sum) (plO (mxE p) lo.length) [] rfl
 simp only [List.map_nil,List.nil_append,List.length_nil]at hip
 have er:∀n:Nat,List.replicate (Int.toNat (n:Int)) (0:Int)=List.replicate n 0:=fun n=>by rw [Int.toNat_natCast]
 refine Evt.bind (degreesOf_ev hs hb) (Evt.bind (degreeOf_ev hb hg) (Evt.bind (places_ev hD hs) (Evt.ctrue mid_ge (Evt.ctrue (decide_eq_true (by omega)) ?_))))
 by_cases hp:p = []
 ·subst hp
  have h0:Evt (fun k n=>impl_bernstein_L506 k n (K:Int) lo hi (lo.length:Int) (lsN lo.length fun i=>(mxE [] i:Int)) (dgF (-1) []) (plO (mxE []) lo.length) (List.replicate (Int.toNat ((plO (mxE []) lo.length).length:Int)) 0) [] (([]:List Tm).length:Int) 0) (.inr ((lo.length:Int),lsN lo.length (fun i=>(mxE [] i:Int)),plO (mxE []) lo.length,List.replicate (Int.toNat ((plO (mxE []) lo.length).length:Int)) 0,())):=by
   refine Evt.step (fun k n=>impl_bernstein_L506.eq_2 k _ _ _ _ _ _ _ _ _ _ _ n) ?_
   exact Evt.cfalse rfl .pure
  refine Evt.inr (Evt.diag h0) ?_
  simp only
  refine Evt.ctrue mid_ge (Evt.ctrue (decide_eq_true (by omega)) ?_)
  have e1:List.replicate (Int.toNat ((plO (mxE []) lo.length).length:Int)) (0:Int)=(plO (mxE []) lo.length).map fun l=>IntKind.wrap .i64 ((([]:List Tm).map fun t=>cf K (dgN []) lo.length (fun i=>lo.getD i 0) (fun i=>hi.getD i 0) t l).sum):=by
   rw [er]
   have:∀l:List Int,IntKind.wrap .i64 ((([]:List Tm).map fun t=>cf K (dgN []) lo.length (fun i=>lo.getD i 0) (fun i=>hi.getD i 0) t l).sum)=0:=fun l=>rfl
   simp only [this]
   rw [List.map_const']
  rw [e1]
  rw [←er,e1]at hip
  exact Evt.inr (Evt.diag hip) .pure
 ·obtain⟨t0,p0,hp0⟩:=List.exists_cons_of_ne_nil hp
  have hdg:=(dgF_ge p (-1)).2
  have hdl:=dgF_le p (-1) (by omega) hg
  have hd0:=hdg t0 (by rw [hp0];simp)
  have hn:dgF (-1) p=(dgN p:Int):=by unfold dgN;omega
  rw [hn]at hdl
  have hpl:=p_loop hs rfl h2 hb hg hK (n:=dgN p) (fun t ht=>by have:=hdg t ht;omega) (by omega) o125 o4 (lsN lo.length fun i=>(mxE p i:Int)) p [] rfl
  have e0:(plO (mxE p) lo.length).map (fun l=>IntKind.wrap .i64 ((([]:List Tm).map fun t=>cf K (dgN p) lo.length (fun i=>lo.getD i 0) (fun i=>hi.getD i 0) t l).sum))=List.replicate (Int.toNat ((plO (mxE p) lo.length).length:Int)) 0:=by
   have:∀l:List Int,IntKind.wrap .i64 ((([]:List Tm).map fun t=>cf K (dgN p) lo.length (fun i=>lo.getD i 0) (fun i=>hi.getD i 0) t l).sum)=0:=fun l=>rfl
   simp only [this]
   rw [List.map_const',er]
  rw [e0]at hpl
  simp only [List.length_nil]at hpl
  rw [hn]
  refine Evt.inr (Evt.diag hpl) ?_
  simp only
  rw [er]
  exact Evt.ctrue mid_ge (Evt.ctrue (decide_eq_true (by omega)) (Evt.inr (Evt.diag hip) .pure))
end Go.Ev.G

namespace Go.Ev.G
open Go Go.Ev
set_option maxRecDepth 100000

def S3(d0 d1 d2:Nat)(f:Nat→Nat→Nat→Int):Int:=sm (d0+1) fun a=>sm (d1+1) fun b=>sm (d2+1) fun c=>f a b c
theorem sm_ext{n m:Nat}{f:Nat→Int}(h:n≤m)(hz:∀i,n≤i→f i=0):sm m f=sm n f:=by
 obtain⟨k,rfl⟩:=Nat.le.dest h
 induction k with
 | zero=>rfl
 | succ k ih=>rw [←Nat.add_assoc,sm_succ,ih (by omega),hz _ (by omega),Int.add_zero]
theorem wt_zero{d i j:Nat}(h:i<j):wt d i j=0:=by unfold wt;rw [chN_zero h];simp
theorem wt_at0(d i:Nat):wt d i 0=fac d:=by
 unfold wt
 have e1:chN i 0=1:=by cases i <;> rfl
 have e2:chN d 0=1:=by cases d <;> rfl
 rw [e1,e2]
 simp
def B3(d0 d1 d2:Nat)(A:Nat→Nat→Nat→Int)(x y z:Nat):Int:=S3 d0 d1 d2 fun a b c=>A a b c*(wt d0 x a*wt d1 y b*wt d2 z c)
theorem spec_B3{D:Nat→Nat}{A:Nat→Nat→Nat→Int}{x y z:Nat}(hx:x≤D 0)(hy:y≤D 1)(hz:z≤D 2):TC D (TB D (TA D fun x y z=>IntKind.wrap .i64 (A x y z))) x y z=IntKind.wrap .i64 (B3 (D 0) (D 1) (D 2) A x y z):=by
 have hA:∀a b,TA D (fun x y z=>IntKind.wrap .i64 (A x y z)) a b z=IntKind.wrap .i64 (sm (D 2+1) fun c=>wt (D 2) z c*A a b c):=by
  intro a b
  unfold TA
  rw [sm_wmul]
  congr 1
  exact(sm_ext (by omega) (fun i hi=>by rw [wt_zero (by omega),Int.zero_mul])).symm
 have hB:∀a,TB D (TA D fun x y z=>IntKind.wrap .i64 (A x y z)) a y z=IntKind.wrap .i64 (sm (D 1+1) fun b=>wt (D 1) y b*sm (D 2+1) fun c=>wt (D 2) z c*A a b c):=by
  intro a
  unfold TB
  rw [sm_congr (g:=fun b=>wt (D 1) y b*IntKind.wrap .i64 (sm (D 2+1) fun c=>wt (D 2) z c*A a b c)) (fun b _=>by rw [hA]),sm_wmul]
  congr 1
  exact(sm_ext (by omega) (fun i hi=>by rw [wt_zero (by omega),Int.zero_mul])).symm
 unfold TC
 rw [sm_congr (g:=fun a=>wt (D 0) x a*IntKind.wrap .i64 (sm (D 1+1) fun b=>wt (D 1) y b*sm (D 2+1) fun c=>wt (D 2) z c*A a b c)) (fun a _=>by rw [hB]),sm_wmul]
 congr 1
 rw [←sm_ext (n:=x+1) (m:=D 0+1) (by omega) (fun i hi=>by rw [wt_zero (by omega),Int.zero_mul])]
 unfold B3 S3
 refine sm_congr fun a _ => ?_
 rw [←sm_mul]
 refine sm_congr fun b _ => ?_
 rw [←sm_mul,←sm_mul]
 refine sm_congr fun c _ => ?_
 ac_rfl

theorem sum_flat{out:List (List Int)}{m:Nat}{F:List Int→Int}:((plS out m).map F).sum=(out.map fun l=>sm (m+1) fun n=>F (l ++ [(n:Int)])).sum:=by
 unfold plS
 induction out with
 | nil=>rfl
 | cons l out ih =>
  rw [List.flatMap_cons,List.map_append,List.sum_append,ih,List.map_cons,List.sum_cons]
  congr 1
  unfold sm
  rw [List.map_map]
  rfl
theorem jn_0{a:Nat}{l:List Int}:jn ((a:Int)::l) 0=a:=by unfold jn;simp
theorem jn_1{a b:Nat}{l:List Int}:jn ((a:Int)::(b:Int)::l) 1=b:=by unfold jn;simp
theorem jn_2{a b c:Nat}{l:List Int}:jn ((a:Int)::(b:Int)::(c:Int)::l) 2=c:=by unfold jn;simp
theorem jn_out{l:List Int}{q:Nat}(h:l.length≤q):jn l q=0:=by unfold jn;rw [getD_out h];rfl
theorem plO_sum{g:Nat→Nat}{s:Nat}(h1:1≤s)(hs:s≤3)(hz:∀i,s≤i→i<3→g i=0)(F:Nat→Nat→Nat→Int):((plO g s).map fun l=>F (jn l 0) (jn l 1) (jn l 2)).sum=S3 (g 0) (g 1) (g 2) F:=by
 have p1:plO g 1=plS [[]] (g 0):=plO_succ
 have p2:plO g 2=plS (plO g 1) (g 1):=plO_succ
 have p3:plO g 3=plS (plO g 2) (g 2):=plO_succ
 unfold S3
 rcases(by omega:s=1∨s=2∨s=3)with rfl | rfl | rfl
 ·rw [p1,sum_flat,hz 1 (by omega) (by omega),hz 2 (by omega) (by omega)]
  simp only [List.map_cons,List.map_nil,List.sum_cons,List.sum_nil,Int.add_zero,List.nil_append,Nat.zero_add]
  refine sm_congr fun a _ => ?_
  rw [jn_0,jn_out (by simp),jn_out (by simp)]
  simp [sm]
 ·rw [p2,sum_flat,p1,sum_flat,hz 2 (by omega) (by omega)]
  simp only [List.map_cons,List.map_nil,List.sum_cons,List.sum_nil,Int.add_zero,List.nil_append,Nat.zero_add,List.cons_append]
  refine sm_congr fun a _=>sm_congr fun b _ => ?_
  rw [jn_0,jn_1,jn_out (by simp)]
  simp [sm]
 ·rw [p3,sum_flat,p2,sum_flat,p1,sum_flat]
  simp only [List.map_cons,List.map_nil,List.sum_cons,List.sum_nil,Int.add_zero,List.nil_append,List.cons_append]
  refine sm_congr fun a _=>sm_congr fun b _=>sm_congr fun c _ => ?_
  rw [jn_0,jn_1,jn_2]
theorem mem_plS{out:List (List Int)}{m n:Nat}{l:List Int}(hl:l∈out)(hn:n≤m):l ++ [(n:Int)]∈plS out m :=
 List.mem_flatMap.2 ⟨l,hl,List.mem_map.2 ⟨n,List.mem_range.2 (by omega),rfl⟩⟩
theorem plO_has{g:Nat→Nat}{s:Nat}(h1:1≤s)(hs:s≤3)(hz:∀i,s≤i→i<3→g i=0){x y z:Nat}(hx:x≤g 0)(hy:y≤g 1)(hz':z≤g 2):∃l∈plO g s,jn l 0=x∧jn l 1=y∧jn l 2=z:=by
 have p1:plO g 1=plS [[]] (g 0):=plO_succ
 have p2:plO g 2=plS (plO g 1) (g 1):=plO_succ
 have p3:plO g 3=plS (plO g 2) (g 2):=plO_succ
 have m1 : [(x:Int)]∈plO g 1:=by rw [p1];exact mem_plS (l := []) (by simp) hx
 have m2 : [(x:Int),(y:Int)]∈plO g 2:=by rw [p2];exact mem_plS (l := [(x:Int)]) m1 hy
 have m3 : [(x:Int),(y:Int),(z:Int)]∈plO g 3:=by rw [p3];exact mem_plS (l := [(x:Int),(y:Int)]) m2 hz'
 rcases(by omega:s=1∨s=2∨s=3)with rfl | rfl | rfl
 ·have e1:=hz 1 (by omega) (by omega)
  have e2:=hz 2 (by omega) (by omega)
  exact⟨_,m1,jn_0,by rw [jn_out (by simp)];omega,by rw [jn_out (by simp)];omega⟩
 ·have e2:=hz 2 (by omega) (by omega)
  exact⟨_,m2,jn_0,jn_1,by rw [jn_out (by simp)];omega⟩
 ·exact⟨_,m3,jn_0,jn_1,jn_2⟩
theorem pr_pad{s:Nat}(hs:s≤3){f:Nat→Int}(h:∀i,s≤i→i<3→f i=1):pr s f=f 0*f 1*f 2:=by
 rcases(by omega:s=0∨s=1∨s=2∨s=3)with rfl | rfl | rfl | rfl
 ·rw [h 0 (by omega) (by omega),h 1 (by omega) (by omega),h 2 (by omega) (by omega)];rfl
 ·rw [h 1 (by omega) (by omega),h 2 (by omega) (by omega)];simp [pr]
 ·rw [h 2 (by omega) (by omega)];simp [pr]
 ·simp [pr]

structure Fc(p:List Tm)(K:Nat)(lo hi:List Int)(q:Nat):Prop where
 sz:1≤lo.length∧lo.length≤3
 hl:hi.length=lo.length
 k4:K≤4
 len:p.length≤20
 gd:∀t∈p,tmGd t
 nd:∀t∈p,∀i,lo.length≤i→i<3→eN t i=0
 qs:q<lo.length
 fl:lo.getD q 0=hi.getD q 0
 lt:∀i,i<lo.length→i≠q→lo.getD i 0<hi.getD i 0
 bl:∀i,(lo.getD i 0).natAbs≤128
 bh:∀i,(hi.getD i 0).natAbs≤128
theorem mxE_zero{p:List Tm}{i:Nat}(hg:∀t∈p,tmGd t)(h:∀t∈p,eN t i=0):mxE p i=0:=by
 have:∀(p:List Tm) (m:Int),m≤0→(∀t∈p,tmGd t)→(∀t∈p,eN t i=0)→degV i m p≤0:=by
  intro p
  induction p with
  | nil=>intro m hm _ _;exact hm
  | cons t r ih =>
   intro m hm hg h
   have e:=eN_pw (hg t (by simp)) i
   have h0:=h t (by simp)
   rw [degV]
   exact ih _ (by omega) (fun u hu=>hg u (by simp [hu])) (fun u hu=>h u (by simp [hu]))
 have h1:=this p (-1) (by omega) hg h
 unfold mxE
 omega
theorem Fc.mz{p:List Tm}{K:Nat}{lo hi:List Int}{q:Nat}(h:Fc p K lo hi q):∀i,lo.length≤i→i<3→mxE p i=0:=fun i hi h3=>mxE_zero h.gd (fun t ht=>h.nd t ht i hi h3)
theorem Fc.D{p:List Tm}{K:Nat}{lo hi:List Int}{q:Nat}(h:Fc p K lo hi q):∀i,i<3→Dg p lo hi i=if i=q then 0 else mxE p i:=by
 intro i h3
 unfold Dg
 by_cases hq:i=q
 ·subst hq
  rw [if_pos rfl,if_neg (by have:=h.fl;omega)]
 ·rw [if_neg hq]
  by_cases hs:i<lo.length
  ·rw [if_pos (h.lt i hs hq)]
  ·rw [h.mz i (by omega) h3]
   split <;> rfl
theorem Fc.gc{p:List Tm}{K:Nat}{lo hi:List Int}{q:Nat}(h:Fc p K lo hi q):GC (Dg p lo hi) (fun i=>lo.getD i 0) (fun i=>hi.getD i 0):=⟨fun _=>Dg_le h.gd _,h.bl,h.bh⟩

def AA(p:List Tm)(K:Nat)(lo hi:List Int):Nat→Nat→Nat→Int:=Av K (fun i=>lo.getD i 0) (fun i=>hi.getD i 0) p p
theorem cf_av{p:List Tm}{K:Nat}{lo hi:List Int}{q:Nat}(h:Fc p K lo hi q){l:List Int}(hl:l.length=lo.length):(p.map fun t=>cf K (dgN p) lo.length (fun i=>lo.getD i 0) (fun i=>hi.getD i 0) t l).sum=AA p K lo hi (jn l 0) (jn l 1) (jn l 2):=by
 unfold AA Av
 congr 1
 refine List.map_congr_left (fun t ht => ?_)
 unfold cf av
 rw [pr_pad h.sz.2 (fun i hi2 h3=>by
  unfold prt pt
  rw [h.nd t ht i hi2 h3,jn_out (by omega)]
  simp [chN])]
 ac_rfl
theorem Wt_pad{p:List Tm}{K:Nat}{lo hi:List Int}{q:Nat}(h:Fc p K lo hi q){is l:List Int}(hi2:is.length=lo.length)(hl:l.length=lo.length):Wt (mxE p) lo.length is l=wt (mxE p 0) (jn is 0) (jn l 0)*wt (mxE p 1) (jn is 1) (jn l 1)*wt (mxE p 2) (jn is 2) (jn l 2):=by
 unfold Wt
 rw [pr_pad h.sz.2 (fun i hi3 h3=>by
  rw [h.mz i hi3 h3,jn_out (by omega),jn_out (by omega)]
  rfl)]
theorem impl_B3{p:List Tm}{K:Nat}{lo hi:List Int}{q:Nat}(h:Fc p K lo hi q):bsV3 p K lo hi=(plO (mxE p) lo.length).map fun is=>IntKind.wrap .i64 (B3 (mxE p 0) (mxE p 1) (mxE p 2) (AA p K lo hi) (jn is 0) (jn is 1) (jn is 2)):=by
 unfold bsV3
 have hD:∀i,mxE p i≤4:=fun i=>(mxE_le h.gd i).1
 obtain⟨_,_,o3⟩:=plO_ok hD lo.length
 refine List.map_congr_left (fun is his => ?_)
 congr 1
 unfold B3
 rw [←plO_sum h.sz.1 h.sz.2 h.mz]
 congr 1
 refine List.map_congr_left (fun l hl => ?_)
 rw [cf_av h (o3 l hl).1,Wt_pad h (o3 is his).1 (o3 l hl).1]
theorem AA_flat{p:List Tm}{K:Nat}{lo hi:List Int}{q:Nat}(h:Fc p K lo hi q){a b c:Nat}(hn:(q=0∧1≤a)∨(q=1∧1≤b)∨(q=2∧1≤c)):AA p K lo hi a b c=0:=by
 unfold AA Av
 have:∀(r:List Tm),(r.map fun t=>av (fun i=>lo.getD i 0) (fun i=>hi.getD i 0) t (Ct K (dgN p) t) a b c).sum=0:=by
  intro r
  induction r with
  | nil=>rfl
  | cons t r ih =>
   rw [List.map_cons,List.sum_cons,ih,Int.add_zero]
   have hz:∀j,1≤j→prt (fun i=>lo.getD i 0) (fun i=>hi.getD i 0) t q j=0:=by
    intro j hj
    unfold prt pt
    simp only
    rw [h.fl,Int.sub_self]
    have:(0:Int) ^ j=0:=Int.zero_pow (by omega)
    rw [this,Int.mul_zero]
   unfold av
   rcases hn with ⟨rfl,hh⟩ | ⟨rfl,hh⟩ | ⟨rfl,hh⟩
   ·rw [hz _ hh,Int.mul_zero,Int.zero_mul,Int.zero_mul]
   ·rw [hz _ hh,Int.mul_zero,Int.zero_mul]
   ·rw [hz _ hh,Int.mul_zero]
 exact this p
def zq(q i x:Nat):Nat:=if i=q then 0 else x
theorem sm_z(n:Nat):(sm n fun _=>0)=0:=by
 induction n with
 | zero=>rfl
 | succ n ih=>rw [sm_succ,ih];rfl
theorem sm_one(f:Nat→Int):sm 1 f=f 0:=by simp [sm]
theorem B3_flat{p:List Tm}{K:Nat}{lo hi:List Int}{q:Nat}(h:Fc p K lo hi q)(x y z:Nat):B3 (mxE p 0) (mxE p 1) (mxE p 2) (AA p K lo hi) x y z=fac (mxE p q)*B3 (Dg p lo hi 0) (Dg p lo hi 1) (Dg p lo hi 2) (AA p K lo hi) (zq q 0 x) (zq q 1 y) (zq q 2 z):=by
 have hq:q=0∨q=1∨q=2:=by have:=h.qs;have:=h.sz;omega
 have w0:∀i,wt 0 i 0=1:=fun i=>by rw [wt_at0];rfl
 rw [h.D 0 (by omega),h.D 1 (by omega),h.D 2 (by omega)]
 unfold B3 S3 zq
 rcases hq with rfl | rfl | rfl
 ·simp only [if_true,show(1:Nat)≠0 by decide,show(2:Nat)≠0 by decide,if_false,Nat.zero_add]
  rw [sm_one,w0]
  rw [sm_head (fun a h1 h2=>by
   have hz:∀b c,AA p K lo hi a b c*(wt (mxE p 0) x a*wt (mxE p 1) y b*wt (mxE p 2) z c)=0:=fun b c=>by rw [AA_flat h (.inl ⟨rfl,h1⟩),Int.zero_mul]
   rw [sm_congr (g:=fun _=>0) (fun b _=>by rw [sm_congr (g:=fun _=>0) (fun c _=>hz b c),sm_z]),sm_z]),wt_at0,←sm_mul]
  refine sm_congr fun b _ => ?_
  rw [←sm_mul]
  refine sm_congr fun c _ => ?_
  rw [Int.one_mul]
  ac_rfl
 ·simp only [if_true,show(0:Nat)≠1 by decide,show(2:Nat)≠1 by decide,if_false,Nat.zero_add]
  rw [←sm_mul]
  refine sm_congr fun a _ => ?_
  rw [sm_one,w0]
  rw [sm_head (fun b h1 h2=>by
   have hz:∀c,AA p K lo hi a b c*(wt (mxE p 0) x a*wt (mxE p 1) y b*wt (mxE p 2) z c)=0:=fun c=>by rw [AA_flat h (.inr (.inl ⟨rfl,h1⟩)),Int.zero_mul]
   rw [sm_congr (g:=fun _=>0) (fun c _=>hz c),sm_z]),wt_at0,←sm_mul]
  refine sm_congr fun c _ => ?_
  rw [Int.mul_one]
  ac_rfl
 ·simp only [if_true,show(0:Nat)≠2 by decide,show(1:Nat)≠2 by decide,if_false,Nat.zero_add]
  rw [←sm_mul]
  refine sm_congr fun a _ => ?_
  rw [←sm_mul]
  refine sm_congr fun b _ => ?_
  rw [sm_one,w0]
  rw [sm_head (fun c h1 h2=>by rw [AA_flat h (.inr (.inr ⟨rfl,h1⟩)),Int.zero_mul]),wt_at0]
  rw [Int.mul_one]
  ac_rfl
end Go.Ev.G

