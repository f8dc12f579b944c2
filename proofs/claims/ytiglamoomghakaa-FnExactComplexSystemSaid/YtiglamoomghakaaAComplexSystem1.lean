/- What the plain functions of the law compute, for all inputs within the sizes that the theorems name. -/
import Derived.Test.YtiglamoomghakaaPComplexSystem1
import Derived.IntWalk
import Derived.Laws.Bits64
import Derived.KernelRfl
set_option linter.unusedVariables false
namespace Go.Ev
open Go

def Evt{α:Type}(f:Nat→Nat→Option α)(r:α):Prop:=∃k0,∀k n,k0≤k→k0≤n→f k n=some r

section
variable {α β γ δ : Type}

theorem Evt.const{o:Option α}{r:α}(h:o=some r):Evt (fun _ _=>o) r:=⟨0,fun _ _ _ _=>h⟩
theorem Evt.pure{r:α}:Evt (fun _ _=>some r) r:=⟨0,fun _ _ _ _=>rfl⟩
theorem Evt.bind{f:Nat→Nat→Option α}{g:Nat→Nat→α→Option β}{a:α}{r:β}(h:Evt f a)(h':Evt (fun k n=>g k n a) r):Evt (fun k n=>Option.bind (f k n) fun x=>g k n x) r:=by
 obtain⟨k1,h1⟩:=h
 obtain⟨k2,h2⟩:=h'
 refine⟨max k1 k2,fun k n hk hn => ?_⟩
 exact(congrArg (fun o=>Option.bind o fun x=>g k n x) (h1 k n (by omega) (by omega))).trans (h2 k n (by omega) (by omega))
theorem Evt.inr{R P A:Type}{f:Nat→Nat→Option (R ⊕ P)}{G:Nat→Nat→R→Option A}{K:Nat→Nat→P→Option A}{y:P}{r:A}(h:Evt f (.inr y))(h':Evt (fun k n=>K k n y) r):Evt (fun k n=>both (f k n) (G k n) (K k n)) r:=by
 obtain⟨k1,h1⟩:=h
 obtain⟨k2,h2⟩:=h'
 refine⟨max k1 k2,fun k n hk hn => ?_⟩
 exact(congrArg (fun o=>both o (G k n) (K k n)) (h1 k n (by omega) (by omega))).trans (h2 k n (by omega) (by omega))
theorem Evt.inl{R P A:Type}{f:Nat→Nat→Option (R ⊕ P)}{G:Nat→Nat→R→Option A}{K:Nat→Nat→P→Option A}{q:R}{r:A}(h:Evt f (.inl q))(h':Evt (fun k n=>G k n q) r):Evt (fun k n=>both (f k n) (G k n) (K k n)) r:=by
 obtain⟨k1,h1⟩:=h
 obtain⟨k2,h2⟩:=h'
 refine⟨max k1 k2,fun k n hk hn => ?_⟩
 exact(congrArg (fun o=>both o (G k n) (K k n)) (h1 k n (by omega) (by omega))).trans (h2 k n (by omega) (by omega))
theorem Evt.ctrue{c:Bool}{f g:Nat→Nat→Option α}{r:α}(hc:c=true)(h:Evt f r):Evt (fun k n=>bif c then f k n else g k n) r:=by subst hc;exact h
theorem Evt.cfalse{c:Bool}{f g:Nat→Nat→Option α}{r:α}(hc:c=false)(h:Evt g r):Evt (fun k n=>bif c then f k n else g k n) r:=by subst hc;exact h
theorem Evt.diag{f:Nat→Nat→Option α}{r:α}(h:Evt f r):Evt (fun k _=>f k k) r:=by
 obtain⟨k1,h1⟩:=h
 exact⟨k1,fun k n hk _=>h1 k k hk hk⟩
theorem Evt.step{L F:Nat→Nat→Option α}{r:α}(hL:∀k n,L k (n+1)=F k n)(h:Evt F r):Evt L r:=by
 obtain⟨k1,h1⟩:=h
 refine⟨k1+1,fun k n hk hn => ?_⟩
 obtain⟨m,rfl⟩:∃m,n=m+1:=⟨n - 1,by omega⟩
 rw [hL]
 exact h1 k m (by omega) (by omega)
theorem Evt.eq{f g:Nat→Nat→Option α}{r:α}(h:Evt f r)(e:∀k n,g k n=f k n):Evt g r:=by
 obtain⟨k1,h1⟩:=h
 exact⟨k1,fun k n hk hn=>by rw [e];exact h1 k n hk hn⟩
theorem Evt.get{f:Nat→Option α}{r:α}(h:Evt (fun k _=>f k) r):∃k,f k=some r:=by
 obtain⟨k1,h1⟩:=h
 exact⟨k1,h1 k1 k1 (Nat.le_refl _) (Nat.le_refl _)⟩
end

def lenB:Nat:=4611686018427387904
theorem w64{n:Int}(h0 : -9223372036854775808≤n)(h1:n≤9223372036854775807):IntKind.wrap .i64 n=n:=by rw [IntKind.wrap_i64];omega
theorem w64_next{m:Nat}(h:m<lenB):IntKind.wrap .i64 ((m:Int)+1)=((m+1:Nat):Int):=by
 simp only [lenB]at h
 rw [w64] <;> omega
section
variable {α : Type}
theorem mid_lt{d r:List α}{e:α}:decide ((d.length:Int)<((d++e::r).length:Int))=true:=by simp;omega
theorem mid_ge{m:Nat}:decide ((0:Int)≤(m:Int))=true:=by simp
theorem mid_get{d r:List α}{e z:α}:(d++e::r).getD (Int.toNat (d.length:Int)) z=e:=by simp
theorem mid_set{d r:List α}{e v:α}:(d++e::r).set (Int.toNat (d.length:Int)) v=d++v::r:=by simp
theorem mid_end{d:List α}:decide ((d.length:Int)<(d.length:Int))=false:=by simp
end
end Go.Ev

namespace Go.Ev
open Go

def roomN(n:Nat):Nat:=if n % 6=5 then 0 else if n % 3=0 then 1 else n

def toV{β γ:Type}(f:β→γ)(v:γ)(a:List β)(b:Bool):List γ×List γ:=if b=true∧a = []then([],[])else(a.map f,List.replicate (roomN a.length) v)

section
variable {β γ R : Type}

theorem to_loop{dβ:β}{L:Nat→Nat→List β→List γ→Int→Option (R ⊕ (List β×List γ×Unit))}{F:Nat→β→Option γ}{f:β→γ}
  (hL:∀k n x0 x5 x6,L k (n+1) x0 x5 x6=(bif (decide (x6<(x0.length:Int)))then(bif (decide (0≤x6))then(bif (decide (x6<(x0.length:Int)))then(Option.bind (F k (x0.getD (Int.toNat x6) dβ)) fun r3=>(bif (decide (0≤x6))then(bif (decide (x6<(x5.length:Int)))then(L k n x0 (x5.set (Int.toNat x6) r3) (IntKind.wrap .i64 (x6+1)))else none)else none))else none)else none)else some (Sum.inr (x0,x5,())))) :
  ∀(r d:List β) (d' r':List γ),d'.length=d.length→r.length≤r'.length→(d++r).length<lenB→(∀x∈r,Evt (fun k _=>F k x) (f x)) →
   Evt (fun k n=>L k n (d++r) (d'++r') d.length) (.inr (d++r,d'++r.map f++r'.drop r.length,()))
 | [],d,d',r',h1,h2,h3,h4=>by
  refine Evt.step (fun k n=>hL k n _ _ _) ?_
  simp only [List.append_nil,mid_end,List.map_nil,List.length_nil,List.drop_zero]
  exact Evt.cfalse rfl .pure
 | x::r,d,d',[],h1,h2,h3,h4=>by simp at h2
 | x::r,d,d',y::r',h1,h2,h3,h4=>by
  refine Evt.step (fun k n=>hL k n _ _ _) ?_
  refine Evt.ctrue mid_lt (Evt.ctrue mid_ge (Evt.ctrue mid_lt ?_))
  rw [mid_get]
  refine Evt.bind (h4 x (by simp)) (Evt.ctrue mid_ge (Evt.ctrue (by rw [←h1];exact mid_lt) ?_))
  rw [←h1,mid_set,w64_next (by simp at h3;omega),h1]
  have:=to_loop hL r (d ++ [x]) (d' ++ [f x]) r' (by simp [h1]) (by simpa using h2) (by simpa using h3) (fun z hz=>h4 z (by simp [hz]))
  simpa using this

theorem fill_loop{x0:β}{v:γ}{L:Nat→Nat→List γ→Int→Option (R ⊕ (β×List γ×Unit))}
  (hL:∀k n x5 x7,L k (n+1) x5 x7=(bif (decide (x7<(x5.length:Int)))then(bif (decide (0≤x7))then(bif (decide (x7<(x5.length:Int)))then(L k n (x5.set (Int.toNat x7) v) (IntKind.wrap .i64 (x7+1)))else none)else none)else some (Sum.inr (x0,x5,())))) :
  ∀(r d:List γ),(d++r).length<lenB→Evt (fun k n=>L k n (d++r) d.length) (.inr (x0,d++List.replicate r.length v,()))
 | [],d,h=>by
  refine Evt.step (fun k n=>hL k n _ _) ?_
  simp only [List.append_nil,mid_end,List.length_nil,List.replicate_zero]
  exact Evt.cfalse rfl .pure
 | x::r,d,h=>by
  refine Evt.step (fun k n=>hL k n _ _) ?_
  refine Evt.ctrue mid_lt (Evt.ctrue mid_ge (Evt.ctrue mid_lt ?_))
  rw [mid_set,w64_next (by simp at h;omega)]
  have:=fill_loop hL r (d ++ [v]) (by simpa using h)
  simpa [List.replicate_succ] using this

theorem to_all{dβ:β}{dγ v:γ}{T:Nat→Option (List γ×List γ)}{room:Int→Option Int}{F:Nat→β→Option γ}{f:β→γ}{a:List β}{b:Bool}
  {L1:Nat→Nat→List β→List γ→Int→Option ((List γ×List γ) ⊕ (List β×List γ×Unit))} {L2:Nat→Nat→List β→List γ→Int→Option ((List γ×List γ) ⊕ (List β×List γ×Unit))}
  (hroom:∀n:Nat,room n=some (roomN n:Int))
  (hL1:∀k n x0 x5 x6,L1 k (n+1) x0 x5 x6=(bif (decide (x6<(x0.length:Int)))then(bif (decide (0≤x6))then(bif (decide (x6<(x0.length:Int)))then(Option.bind (F k (x0.getD (Int.toNat x6) dβ)) fun r3=>(bif (decide (0≤x6))then(bif (decide (x6<(x5.length:Int)))then(L1 k n x0 (x5.set (Int.toNat x6) r3) (IntKind.wrap .i64 (x6+1)))else none)else none))else none)else none)else some (Sum.inr (x0,x5,()))))
  (hL2:∀k n x0 x5 x7,L2 k (n+1) x0 x5 x7=(bif (decide (x7<(x5.length:Int)))then(bif (decide (0≤x7))then(bif (decide (x7<(x5.length:Int)))then(L2 k n x0 (x5.set (Int.toNat x7) v) (IntKind.wrap .i64 (x7+1)))else none)else none)else some (Sum.inr (x0,x5,()))))
  (hT:∀k,T k=(bif b&&((a.length:Int)==0)then some ([],[])else(Option.bind (room (a.length:Int)) fun r2=>(bif (decide (0≤(IntKind.wrap .i64 ((a.length:Int)+r2))))then(bif (decide ((Int.toNat (IntKind.wrap .i64 ((a.length:Int)+r2)))<274877906944))then(both (R:=List γ×List γ) (P:=List β×List γ×Unit) (L1 k k a (List.replicate (Int.toNat (IntKind.wrap .i64 ((a.length:Int)+r2))) dγ) 0) (fun q5=>some q5) (fun y4=>(both (R:=List γ×List γ) (P:=List β×List γ×Unit) (L2 k k y4.1 y4.2.1 (y4.1.length:Int)) (fun q8=>some q8) (fun y7=>(bif (decide (0≤(y7.1.length:Int)))then(bif (decide ((y7.1.length:Int)≤(y7.2.1.length:Int)))then some ((y7.2.1.take (Int.toNat (y7.1.length:Int))),(y7.2.1.drop (Int.toNat (y7.1.length:Int))))else none)else none)))))else none)else none))))
  (ha:a.length≤1000000) (hF:∀x∈a,Evt (fun k _=>F k x) (f x)):Evt (fun k _=>T k) (toV f v a b):=by
 have hr:roomN a.length≤a.length+1:=by unfold roomN;split <;> (try split) <;> omega
 refine Evt.eq ?_ (fun k n=>hT k)
 by_cases hb:b=true∧a = []
 ·refine Evt.ctrue (by simp [hb.1,hb.2]) ?_
  rw [toV,if_pos hb]
  exact .pure
 ·refine Evt.cfalse ?_ ?_
  ·cases b with
   | false=>rfl
   | true =>
    have:a ≠ []:=fun h=>hb ⟨rfl,h⟩
    simp [this]
  rw [toV,if_neg hb]
  refine Evt.bind (.const (hroom _)) ?_
  have hw:IntKind.wrap .i64 ((a.length:Int)+(roomN a.length:Int))=((a.length+roomN a.length:Nat):Int):=by rw [w64] <;> omega
  rw [hw]
  refine Evt.ctrue mid_ge (Evt.ctrue (by simp <;> omega) ?_)
  have h1:=to_loop hL1 a [] [] (List.replicate (Int.toNat ((a.length+roomN a.length:Nat):Int)) dγ) rfl (by simp <;> omega) (by simp [lenB];omega) hF
  simp only [List.nil_append,List.length_nil]at h1
  refine Evt.inr (Evt.diag h1) ?_
  have h2:=fill_loop (x0:=a) (L:=fun k n=>L2 k n a) (fun k n x5 x7=>hL2 k n a x5 x7) (List.drop a.length (List.replicate (Int.toNat ((a.length+roomN a.length:Nat):Int)) dγ)) (a.map f) (by simp [lenB];omega)
  simp only [List.length_map]at h2
  refine Evt.inr (Evt.diag h2) ?_
  have e:(((a.length+roomN a.length:Nat):Int)).toNat=a.length+roomN a.length:=by omega
  rw [e]
  refine Evt.ctrue mid_ge (Evt.ctrue (by simp <;> omega) ?_)
  refine Evt.const ?_
  simp

theorem eq_loop{d0:γ}{Q:Nat→γ→γ→Option Bool}{L:Nat→Nat→List γ→List γ→Int→Option (Bool ⊕ Unit)}
  (hL:∀k n x0 x1 x5,L k (n+1) x0 x1 x5=(bif (decide (x5<(x0.length:Int)))then(bif (decide (0≤x5))then(bif (decide (x5<(x0.length:Int)))then(bif (decide (0≤x5))then(bif (decide (x5<(x1.length:Int)))then(Option.bind (Q k (x0.getD (Int.toNat x5) d0) (x1.getD (Int.toNat x5) d0)) fun r1=>(bif (!r1)then some (Sum.inl false)else(L k n x0 x1 (IntKind.wrap .i64 (x5+1)))))else none)else none)else none)else none)else some (Sum.inr ()))) :
  ∀(r d:List γ),(d++r).length<lenB→(∀x∈r,Evt (fun k _=>Q k x x) true)→Evt (fun k n=>L k n (d++r) (d++r) d.length) (.inr ())
 | [],d,h,_=>by
  refine Evt.step (fun k n=>hL k n _ _ _) ?_
  simp only [List.append_nil,mid_end]
  exact Evt.cfalse rfl .pure
 | x::r,d,h,hQ=>by
  refine Evt.step (fun k n=>hL k n _ _ _) ?_
  refine Evt.ctrue mid_lt (Evt.ctrue mid_ge (Evt.ctrue mid_lt (Evt.ctrue mid_ge (Evt.ctrue mid_lt ?_))))
  rw [mid_get]
  refine Evt.bind (hQ x (by simp)) (Evt.cfalse rfl ?_)
  rw [w64_next (by simp at h;omega)]
  have:=eq_loop hL r (d ++ [x]) (by simpa using h) (fun z hz=>hQ z (by simp [hz]))
  simpa using this

theorem eq_all{d0:γ}{Q:Nat→γ→γ→Option Bool}{L:Nat→Nat→List γ→List γ→Int→Option (Bool ⊕ Unit)}{E:Nat→List γ→List γ→Option Bool}
  (hL:∀k n x0 x1 x5,L k (n+1) x0 x1 x5=(bif (decide (x5<(x0.length:Int)))then(bif (decide (0≤x5))then(bif (decide (x5<(x0.length:Int)))then(bif (decide (0≤x5))then(bif (decide (x5<(x1.length:Int)))then(Option.bind (Q k (x0.getD (Int.toNat x5) d0) (x1.getD (Int.toNat x5) d0)) fun r1=>(bif (!r1)then some (Sum.inl false)else(L k n x0 x1 (IntKind.wrap .i64 (x5+1)))))else none)else none)else none)else none)else some (Sum.inr ())))
  (hE:∀k x0 x1,E k x0 x1=(bif ((x0.length:Int) != (x1.length:Int))then some false else(both (R:=Bool) (P:=Unit) (L k k x0 x1 0) (fun q3=>some q3) (fun _=>some true))))
  {x:List γ} (h:x.length<lenB) (hQ:∀z∈x,Evt (fun k _=>Q k z z) true):Evt (fun k _=>E k x x) true:=by
 refine Evt.eq ?_ (fun k n=>hE k x x)
 refine Evt.cfalse (by simp) ?_
 have:=eq_loop hL x [] (by simpa using h) hQ
 simp only [List.nil_append,List.length_nil]at this
 exact Evt.inr (Evt.diag this) .pure

def MarkOk(mark:Nat→γ→Int→Option (Int×γ))(held:Nat→γ→Int→Option Int)(w:γ→Nat):Prop :=
 ∀x (a:Nat),a+w x<lenB→∃y,Evt (fun k _=>mark k x a) (((a+w x:Nat):Int),y)∧Evt (fun k _=>held k y a) ((a+w x:Nat):Int)∧w y=w x

theorem mark_loop{M:Nat→Nat→List γ→Int→Int→Option ((Int×List γ) ⊕ (Int×List γ×Unit))}{H:Nat→Nat→List γ→Int→Int→Option (Int ⊕ (Int×Unit))}{mv:Nat→γ}{c:Nat}
  (hM:∀(k n:Nat) (d r:List γ) (e:γ) (a:Nat),a+c<lenB→(d++e::r).length<lenB→M k (n+1) (d++e::r) a d.length=M k n (d++mv a::r) ((a+c:Nat):Int) ((d.length+1:Nat):Int))
  (hM0:∀(k n:Nat) (d:List γ) (a:Int),M k (n+1) d a d.length=some (.inr (a,d,())))
  (hH:∀(k n:Nat) (d r:List γ) (a:Nat),a+c<lenB→(d++mv a::r).length<lenB→H k (n+1) (d++mv a::r) a d.length=H k n (d++mv a::r) ((a+c:Nat):Int) ((d.length+1:Nat):Int))
  (hH0:∀(k n:Nat) (d:List γ) (a:Int),H k (n+1) d a d.length=some (.inr (a,()))) :
  ∀(r d:List γ) (a:Nat),a+c*r.length<lenB→(d++r).length<lenB→∃y:List γ,y.length=r.length∧Evt (fun k n=>M k n (d++r) a d.length) (.inr (((a+c*r.length:Nat):Int),d++y,())) ∧
   ∀d2:List γ,(d2++y).length<lenB→Evt (fun k n=>H k n (d2++y) a d2.length) (.inr (((a+c*r.length:Nat):Int),()))
 | [],d,a,_,_=>by
  refine⟨[],rfl,?_,fun d2 _ => ?_⟩
  ·exact Evt.step (F:=fun _ _=>some (.inr (((a+c*([]:List γ).length:Nat):Int),d ++ [],()))) (fun k n=>by simpa using hM0 k n d a) .pure
  ·exact Evt.step (F:=fun _ _=>some (.inr (((a+c*([]:List γ).length:Nat):Int),()))) (fun k n=>by simpa using hH0 k n d2 a) .pure
 | e::r,d,a,ha,hd=>by
  have hc:a+c<lenB:=by
   have:c≤c*(e::r).length:=Nat.le_mul_of_pos_right _ (by simp)
   omega
  have hs:a+c+c*r.length=a+c*(e::r).length:=by simp [Nat.mul_add];omega
  obtain⟨y,h1,h2,h3⟩:=mark_loop hM hM0 hH hH0 r (d ++ [mv a]) (a+c) (by omega) (by simpa using hd)
  refine⟨mv a::y,by simp [h1],Evt.step (fun k n=>hM k n d r e a hc hd) ?_,fun d2 hd2=>Evt.step (fun k n=>hH k n d2 y a hc hd2) ?_⟩
  ·rw [hs]at h2
   simpa using h2
  ·have:=h3 (d2 ++ [mv a]) (by simpa using hd2)
   rw [hs]at this
   simpa using this

theorem mark_all{M:Nat→Nat→List γ→Int→Int→Option ((Int×List γ) ⊕ (Int×List γ×Unit))}{H:Nat→Nat→List γ→Int→Int→Option (Int ⊕ (Int×Unit))}{mark:Nat→List γ→Int→Option (Int×List γ)}{held:Nat→List γ→Int→Option Int}{mv:Nat→γ}{c:Nat}
  (hc:0<c)
  (hM:∀(k n:Nat) (d r:List γ) (e:γ) (a:Nat),a+c<lenB→(d++e::r).length<lenB→M k (n+1) (d++e::r) a d.length=M k n (d++mv a::r) ((a+c:Nat):Int) ((d.length+1:Nat):Int))
  (hM0:∀(k n:Nat) (d:List γ) (a:Int),M k (n+1) d a d.length=some (.inr (a,d,())))
  (hH:∀(k n:Nat) (d r:List γ) (a:Nat),a+c<lenB→(d++mv a::r).length<lenB→H k (n+1) (d++mv a::r) a d.length=H k n (d++mv a::r) ((a+c:Nat):Int) ((d.length+1:Nat):Int))
  (hH0:∀(k n:Nat) (d:List γ) (a:Int),H k (n+1) d a d.length=some (.inr (a,())))
  (hmark:∀k x a,mark k x a=both (R:=Int×List γ) (P:=Int×List γ×Unit) (M k k x a 0) (fun q=>some q) (fun y=>some (y.1,y.2.1)))
  (hheld:∀k x a,held k x a=both (R:=Int) (P:=Int×Unit) (H k k x a 0) (fun q=>some q) (fun y=>some y.1)) :
  MarkOk mark held (fun x=>c*x.length):=by
 intro x a ha
 simp only at ha
 have hx:x.length<lenB:=Nat.lt_of_le_of_lt (Nat.le_mul_of_pos_left _ hc) (by omega)
 obtain⟨y,h1,h2,h3⟩:=mark_loop hM hM0 hH hH0 x [] a ha (by simpa using hx)
 refine⟨y,Evt.eq ?_ (fun k _=>hmark k x a),Evt.eq ?_ (fun k _=>hheld k y a),by simp [h1]⟩
 ·simp only [List.nil_append,List.length_nil]at h2
  exact Evt.inr (Evt.diag h2) .pure
 ·have:=h3 [] (by simp [h1];exact hx)
  simp only [List.nil_append,List.length_nil]at this
  exact Evt.inr (Evt.diag this) .pure

theorem mark_rows{d0:γ}{M:Nat→Nat→List γ→Int→Int→Option ((Int×List γ) ⊕ (Int×List γ×Unit))}{H:Nat→Nat→List γ→Int→Int→Option (Int ⊕ (Int×Unit))}{mark:Nat→γ→Int→Option (Int×γ)}{held:Nat→γ→Int→Option Int}{w:γ→Nat}(hw:MarkOk mark held w)
  (hM:∀(k n:Nat) (x:List γ) (a i:Int),M k (n+1) x a i=(bif (decide (i<(x.length:Int)))then(bif (decide (0≤i))then(bif (decide (i<(x.length:Int)))then(Option.bind (mark k (x.getD (Int.toNat i) d0) a) fun r=>M k n (x.set (Int.toNat i) r.2) r.1 (IntKind.wrap .i64 (i+1)))else none)else none)else some (.inr (a,x,()))))
  (hH:∀(k n:Nat) (x:List γ) (a i:Int),H k (n+1) x a i=(bif (decide (i<(x.length:Int)))then(bif (decide (0≤i))then(bif (decide (i<(x.length:Int)))then(Option.bind (held k (x.getD (Int.toNat i) d0) a) fun r=>bif (decide (r<0))then some (.inl (-1))else H k n x r (IntKind.wrap .i64 (i+1)))else none)else none)else some (.inr (a,())))) :
  ∀(r d:List γ) (a:Nat),a+(r.map w).sum<lenB→(d++r).length<lenB→∃y:List γ,y.length=r.length∧y.map w=r.map w∧Evt (fun k n=>M k n (d++r) a d.length) (.inr (((a+(r.map w).sum:Nat):Int),d++y,())) ∧
   ∀d2:List γ,(d2++y).length<lenB→Evt (fun k n=>H k n (d2++y) a d2.length) (.inr (((a+(r.map w).sum:Nat):Int),()))
 | [],d,a,_,_=>by
  refine⟨[],rfl,rfl,Evt.step (fun k n=>hM k n _ _ _) ?_,fun d2 _=>Evt.step (fun k n=>hH k n _ _ _) ?_⟩
  ·refine Evt.cfalse (by simp) ?_
   simpa using Evt.pure
  ·refine Evt.cfalse (by simp) ?_
   simpa using Evt.pure
 | e::r,d,a,ha,hd=>by
  simp only [List.map_cons,List.sum_cons]at ha
  obtain⟨y0,m1,m2,m3⟩:=hw e a (by omega)
  obtain⟨y,h1,h1',h2,h3⟩:=mark_rows hw hM hH r (d ++ [y0]) (a+w e) (by omega) (by simpa using hd)
  have hs:a+w e+(r.map w).sum=a+((e::r).map w).sum:=by simp <;> omega
  refine⟨y0::y,by simp [h1],by simp [h1',m3],Evt.step (fun k n=>hM k n _ _ _) ?_,fun d2 hd2=>Evt.step (fun k n=>hH k n _ _ _) ?_⟩
  ·refine Evt.ctrue mid_lt (Evt.ctrue mid_ge (Evt.ctrue mid_lt ?_))
   rw [mid_get]
   refine Evt.bind m1 ?_
   rw [mid_set,w64_next (by simp at hd;omega)]
   rw [hs]at h2
   simpa using h2
  ·refine Evt.ctrue mid_lt (Evt.ctrue mid_ge (Evt.ctrue mid_lt ?_))
   rw [mid_get]
   refine Evt.bind m2 (Evt.cfalse (by simp <;> omega) ?_)
   rw [w64_next (by simp at hd2;omega)]
   have:=h3 (d2 ++ [y0]) (by simpa using hd2)
   rw [hs]at this
   simpa using this

theorem mark_rows_all{d0:γ}{M:Nat→Nat→List γ→Int→Int→Option ((Int×List γ) ⊕ (Int×List γ×Unit))}{H:Nat→Nat→List γ→Int→Int→Option (Int ⊕ (Int×Unit))}{mark:Nat→γ→Int→Option (Int×γ)}{held:Nat→γ→Int→Option Int}{w:γ→Nat}(hw:MarkOk mark held w)
  {marks:Nat→List γ→Int→Option (Int×List γ)} {helds:Nat→List γ→Int→Option Int}
  (hM:∀(k n:Nat) (x:List γ) (a i:Int),M k (n+1) x a i=(bif (decide (i<(x.length:Int)))then(bif (decide (0≤i))then(bif (decide (i<(x.length:Int)))then(Option.bind (mark k (x.getD (Int.toNat i) d0) a) fun r=>M k n (x.set (Int.toNat i) r.2) r.1 (IntKind.wrap .i64 (i+1)))else none)else none)else some (.inr (a,x,()))))
  (hH:∀(k n:Nat) (x:List γ) (a i:Int),H k (n+1) x a i=(bif (decide (i<(x.length:Int)))then(bif (decide (0≤i))then(bif (decide (i<(x.length:Int)))then(Option.bind (held k (x.getD (Int.toNat i) d0) a) fun r=>bif (decide (r<0))then some (.inl (-1))else H k n x r (IntKind.wrap .i64 (i+1)))else none)else none)else some (.inr (a,()))))
  (hmark:∀k x a,marks k x a=both (R:=Int×List γ) (P:=Int×List γ×Unit) (M k k x a 0) (fun q=>some q) (fun y=>some (y.1,y.2.1)))
  (hheld:∀k x a,helds k x a=both (R:=Int) (P:=Int×Unit) (H k k x a 0) (fun q=>some q) (fun y=>some y.1)) {x:List γ} (hx:x.length<lenB) {a:Nat} (ha:a+(x.map w).sum<lenB) :
  ∃y,Evt (fun k _=>marks k x a) (((a+(x.map w).sum:Nat):Int),y)∧Evt (fun k _=>helds k y a) ((a+(x.map w).sum:Nat):Int):=by
 obtain⟨y,h1,_,h2,h3⟩:=mark_rows hw hM hH x [] a ha (by simpa using hx)
 refine⟨y,Evt.eq ?_ (fun k _=>hmark k x a),Evt.eq ?_ (fun k _=>hheld k y a)⟩
 ·simp only [List.nil_append,List.length_nil]at h2
  exact Evt.inr (Evt.diag h2) .pure
 ·have:=h3 [] (by simp [h1];exact hx)
  simp only [List.nil_append,List.length_nil]at this
  exact Evt.inr (Evt.diag this) .pure

theorem sz_rows{d0:List γ}{S:Nat→Nat→List (List γ)→Int→Int→Option (Int ⊕ (Int×Unit))}{sz:List γ→Int→Option Int}
  (hsz:∀x a,sz x a=(bif (decide ((IntKind.wrap .i64 (a - (x.length:Int)))<0))then some (-1)else some (IntKind.wrap .i64 (a - (x.length:Int)))))
  (hS:∀(k n:Nat) (x:List (List γ)) (a i:Int),S k (n+1) x a i=(bif (decide (i<(x.length:Int)))then(bif (decide (0≤i))then(bif (decide (i<(x.length:Int)))then(Option.bind (sz (x.getD (Int.toNat i) d0) a) fun r=>bif (decide (r<0))then some (.inl (-1))else S k n x r (IntKind.wrap .i64 (i+1)))else none)else none)else some (.inr (a,())))) :
  ∀(r d:List (List γ)) (a:Nat),a≤1000000→(d++r).length<lenB→(∀x∈r,x.length≤maxLen)→Evt (fun k n=>S k n (d++r) a d.length) (if (r.map List.length).sum≤a then .inr (((a - (r.map List.length).sum:Nat):Int),())else .inl (-1))
 | [],d,a,_,_,_=>by
  refine Evt.step (fun k n=>hS k n _ _ _) (Evt.cfalse (by simp) ?_)
  simpa using Evt.pure
 | e::r,d,a,ha,hd,hm=>by
  refine Evt.step (fun k n=>hS k n _ _ _) ?_
  refine Evt.ctrue mid_lt (Evt.ctrue mid_ge (Evt.ctrue mid_lt ?_))
  rw [mid_get]
  have hme:=hm e (by simp)
  simp only [maxLen]at hme
  have hw:IntKind.wrap .i64 ((a:Int) - (e.length:Int))=(a:Int) - (e.length:Int):=by rw [w64] <;> omega
  by_cases hle:e.length≤a
  ·have h1:sz e a=some (((a - e.length:Nat):Int)):=by
    rw [hsz,hw]
    have:decide ((a:Int) - (e.length:Int)<0)=false:=by simp <;> omega
    rw [this]
    simp only [cond_false]
    congr 1
    omega
   refine Evt.bind (.const h1) (Evt.cfalse (by simp <;> omega) ?_)
   rw [w64_next (by simp at hd;omega)]
   have:=sz_rows hsz hS r (d ++ [e]) (a - e.length) (by omega) (by simpa using hd) (fun x hx=>hm x (by simp [hx]))
   simp only [List.map_cons,List.sum_cons]
   have hiff:((r.map List.length).sum≤a - e.length)↔(e.length+(r.map List.length).sum≤a):=by omega
   rw [show a - (e.length+(r.map List.length).sum)=a - e.length - (r.map List.length).sum by omega]
   simp only [hiff]at this
   simpa using this
  ·have h1:sz e a=some (-1):=by
    rw [hsz,hw]
    have:decide ((a:Int) - (e.length:Int)<0)=true:=by simp <;> omega
    rw [this]
    rfl
   refine Evt.bind (.const h1) (Evt.ctrue rfl ?_)
   rw [if_neg (by simp <;> omega)]
   exact .pure

theorem sz_all{d0:List γ}{S:Nat→Nat→List (List γ)→Int→Int→Option (Int ⊕ (Int×Unit))}{sz:List γ→Int→Option Int}{szs:Nat→List (List γ)→Int→Option Int}
  (hsz:∀x a,sz x a=(bif (decide ((IntKind.wrap .i64 (a - (x.length:Int)))<0))then some (-1)else some (IntKind.wrap .i64 (a - (x.length:Int)))))
  (hS:∀(k n:Nat) (x:List (List γ)) (a i:Int),S k (n+1) x a i=(bif (decide (i<(x.length:Int)))then(bif (decide (0≤i))then(bif (decide (i<(x.length:Int)))then(Option.bind (sz (x.getD (Int.toNat i) d0) a) fun r=>bif (decide (r<0))then some (.inl (-1))else S k n x r (IntKind.wrap .i64 (i+1)))else none)else none)else some (.inr (a,()))))
  (hszs:∀k x a,szs k x a=(bif (decide ((IntKind.wrap .i64 (a - (x.length:Int)))<0))then some (-1)else(both (R:=Int) (P:=Int×Unit) (S k k x (IntKind.wrap .i64 (a - (x.length:Int))) 0) (fun q4=>some q4) (fun y3=>some y3.1))))
  {x:List (List γ)} (hx:x.length≤maxLen) (hm:∀y∈x,y.length≤maxLen) {a:Nat} (ha:a≤1000000) :
  Evt (fun k _=>szs k x a) (if x.length+(x.map List.length).sum≤a then((a - (x.length+(x.map List.length).sum):Nat):Int)else -1):=by
 simp only [maxLen]at hx
 have hw:IntKind.wrap .i64 ((a:Int) - (x.length:Int))=(a:Int) - (x.length:Int):=by rw [w64] <;> omega
 refine Evt.eq ?_ (fun k _=>hszs k x a)
 rw [hw]
 by_cases h:x.length≤a
 ·refine Evt.cfalse (by simp <;> omega) ?_
  have e:(a:Int) - (x.length:Int)=((a - x.length:Nat):Int):=by omega
  rw [e]
  have:=sz_rows hsz hS x [] (a - x.length) (by omega) (by simp [lenB];omega) hm
  simp only [List.nil_append,List.length_nil]at this
  by_cases h2:(x.map List.length).sum≤a - x.length
  ·rw [if_pos h2]at this
   rw [if_pos (by omega)]
   refine Evt.inr (Evt.diag this) (.const ?_)
   simp only
   congr 2
   omega
  ·rw [if_neg h2]at this
   rw [if_neg (by omega)]
   exact Evt.inl (Evt.diag this) .pure
 ·rw [if_neg (by omega)]
  exact Evt.ctrue (by simp <;> omega) .pure
end
end Go.Ev

namespace Go.Ev
open Go

section
variable {α β : Type}

theorem Evt.rng{d r:List α}{e z:α}{F:Nat→Nat→α→Option β}{G:Nat→Nat→Option β}{res:β}(h:Evt (fun k n=>F k n e) res) :
  Evt (fun k n=>bif (decide ((d.length:Int)<((d++e::r).length:Int)))then(bif (decide (0≤(d.length:Int)))then(bif (decide ((d.length:Int)<((d++e::r).length:Int)))then F k n ((d++e::r).getD (Int.toNat (d.length:Int)) z)else none)else none)else G k n) res:=by
 refine Evt.ctrue mid_lt (Evt.ctrue mid_ge (Evt.ctrue mid_lt ?_))
 rw [mid_get]
 exact h
theorem Evt.rng0{d:List α}{F G:Nat→Nat→Option β}{res:β}(h:Evt G res):Evt (fun k n=>bif (decide ((d.length:Int)<(d.length:Int)))then F k n else G k n) res:=Evt.cfalse mid_end h

theorem len_next{d r:List α}{e:α}(h:(d++e::r).length<lenB):IntKind.wrap .i64 ((d.length:Int)+1)=((d ++ [e]).length:Int):=by
 rw [w64_next (by simp at h;omega)];simp

end
end Go.Ev

namespace Go.Ev.G
open Go Go.Ev
set_option maxRecDepth 100000

theorem room_eq(n:Nat):laws_roomBehind n=some (roomN n:Int):=by
 unfold laws_roomBehind roomN
 have h6:Int.tmod (n:Int) 6=((n % 6:Nat):Int):=rfl
 have h3:Int.tmod (n:Int) 3=((n % 3:Nat):Int):=rfl
 rw [h6,h3]
 by_cases h:n % 6=5
 ·have e:((((n % 6:Nat):Int))==5)=true:=by rw [h];rfl
  rw [e,if_pos h];rfl
 ·have e:((((n % 6:Nat):Int))==5)=false:=by
   rw [beq_eq_false_iff_ne];omega
  rw [e,if_neg h]
  by_cases h':n % 3=0
  ·have e:((((n % 3:Nat):Int))==0)=true:=by rw [h'];rfl
   rw [e,if_pos h'];rfl
  ·have e:((((n % 3:Nat):Int))==0)=false:=by
    rw [beq_eq_false_iff_ne];omega
   rw [e,if_neg h'];rfl

theorem room_le(n:Nat):roomN n≤n+1:=by unfold roomN;split <;> (try split) <;> omega

def fI:Int := -7000000000000000101
theorem toIntS_ev{a:List Int}{b:Bool}(ha:a.length≤1000000):Evt (fun k _=>laws_toIntS k a b) (toV id fI a b) :=
 to_all (dβ:=0) (dγ:=0) (F:=fun _ x=>some x) (L1:=laws_toIntS_L122) (L2:=laws_toIntS_L250) room_eq (fun _ _ _ _ _=>rfl) (fun _ _ _ _ _=>rfl)
  (fun k=>by unfold laws_toIntS;cases b <;> cases a <;> rfl) ha (fun _ _ => .pure)

theorem eqIntS_ev{x:List Int}(h:x.length<lenB):Evt (fun k _=>laws_eqIntS k x x) true :=
 eq_all (d0:=0) (Q:=fun _ a b=>some (!(a != b))) (L:=laws_eqIntS_L58) (E:=laws_eqIntS) (fun k n x0 x1 x5=>by simp only [Option.bind_some,Bool.not_not];rfl) (fun _ _ _=>rfl) h (fun z _ => .const (by simp))
theorem eqTerm_rfl(x:Int×Int×Int×Int):laws_eqTerm x x=some true:=by simp [laws_eqTerm]
theorem eqTermS_ev{x:List (Int×Int×Int×Int)}(h:x.length<lenB):Evt (fun k _=>laws_eqTermS k x x) true :=
 eq_all (d0:=(0,0,0,0)) (Q:=fun _ a b=>laws_eqTerm a b) (L:=laws_eqTermS_L58) (E:=laws_eqTermS) (fun k n x0 x1 x5=>rfl) (fun _ _ _=>rfl) h (fun z _ => .const (eqTerm_rfl z))
theorem eqTermSS_ev{x:List (List (Int×Int×Int×Int))}(h:x.length<lenB)(hm:∀y∈x,y.length<lenB):Evt (fun k _=>laws_eqTermSS k x x) true :=
 eq_all (d0 := []) (Q:=fun k a b=>laws_eqTermS k a b) (L:=laws_eqTermSS_L58) (E:=laws_eqTermSS) (fun k n x0 x1 x5=>rfl) (fun _ _ _=>rfl) h (fun z hz=>eqTermS_ev (hm z hz))


def Room{γ:Type}(x:List γ×List γ):Prop:=x.2.length=roomN x.1.length∧x.1.length≤1000000

theorem intact_all{γ:Type}{E:Nat→List γ→List γ→Option Bool}{I:Nat→(List γ×List γ)→(List γ×List γ)→Option Bool}{x:List γ×List γ}(hx:Room x)
  (hI:∀k a0 a1,I k a0 a1=(Option.bind (laws_roomBehind (a1.1.length:Int)) fun r1=>(bif ((a0.1.length:Int)==(a1.1.length:Int))then(bif (decide (0≤(IntKind.wrap .i64 ((a1.1.length:Int)+r1))))then(bif (decide ((IntKind.wrap .i64 ((a1.1.length:Int)+r1))≤((a0.1++a0.2).length:Int)))then(bif (decide (0≤(IntKind.wrap .i64 ((a1.1.length:Int)+r1))))then(bif (decide ((IntKind.wrap .i64 ((a1.1.length:Int)+r1))≤((a1.1++a1.2).length:Int)))then(Option.bind (E k (((a0.1++a0.2).take (Int.toNat (IntKind.wrap .i64 ((a1.1.length:Int)+r1)))).drop 0) (((a1.1++a1.2).take (Int.toNat (IntKind.wrap .i64 ((a1.1.length:Int)+r1)))).drop 0)) fun r2=>some r2)else none)else none)else none)else none)else some false)))
  (hE:Evt (fun k _=>E k (x.1++x.2) (x.1++x.2)) true):Evt (fun k _=>I k x x) true:=by
 have hr:=room_le x.1.length
 have h1:=hx.1
 have h2:=hx.2
 refine Evt.eq ?_ (fun k _=>hI k x x)
 refine Evt.bind (.const (room_eq _)) ?_
 have hw:IntKind.wrap .i64 ((x.1.length:Int)+(roomN x.1.length:Int))=(((x.1++x.2).length:Nat):Int):=by
  rw [List.length_append,h1,w64] <;> omega
 rw [hw]
 refine Evt.ctrue (by simp) (Evt.ctrue mid_ge (Evt.ctrue (by simp) (Evt.ctrue mid_ge (Evt.ctrue (by simp) ?_))))
 have e:(((x.1++x.2).length:Nat):Int).toNat=(x.1++x.2).length:=Int.toNat_natCast _
 rw [e,List.take_length,List.drop_zero]
 exact Evt.bind hE .pure

theorem small{γ:Type}{x:List γ×List γ}(hx:Room x):(x.1++x.2).length<lenB:=by
 have hr:=room_le x.1.length
 have h1:=hx.1
 have h2:=hx.2
 rw [List.length_append,h1]
 simp only [lenB]
 omega

theorem intactIntS_ev{x:List Int×List Int}(hx:Room x):Evt (fun k _=>laws_intactIntS k x x) true:=intact_all (E:=laws_eqIntS) hx (fun _ _ _=>rfl) (eqIntS_ev (small hx))
theorem intact_loop{γ:Type}{d0:γ}{Q:Nat→γ→γ→Option Bool}{x:List γ×List γ}{m:Int}{L:Nat→Nat→Int→Option (Bool ⊕ ((List γ×List γ)×(List γ×List γ)×Int×Unit))}
  (hL:∀k n x6,L k (n+1) x6=(bif (decide (x6<(x.1.length:Int)))then(bif (decide (0≤x6))then(bif (decide (x6<(x.1.length:Int)))then(bif (decide (0≤x6))then(bif (decide (x6<(x.1.length:Int)))then(Option.bind (Q k (x.1.getD (Int.toNat x6) d0) (x.1.getD (Int.toNat x6) d0)) fun r2=>(bif (!r2)then some (Sum.inl false)else(L k n (IntKind.wrap .i64 (x6+1)))))else none)else none)else none)else none)else some (Sum.inr (x,x,m,())))) (hb:x.1.length<lenB) :
  ∀(r d:List γ),d++r=x.1→(∀z∈r,Evt (fun k _=>Q k z z) true)→Evt (fun k n=>L k n d.length) (.inr (x,x,m,()))
 | [],d,h,_=>by
  refine Evt.step (fun k n=>hL k n _) (Evt.cfalse (by rw [←h];simp) .pure)
 | z::r,d,h,hQ=>by
  refine Evt.step (fun k n=>hL k n _) ?_
  rw [←h]
  refine Evt.ctrue mid_lt (Evt.ctrue mid_ge (Evt.ctrue mid_lt (Evt.ctrue mid_ge (Evt.ctrue mid_lt ?_))))
  rw [mid_get]
  refine Evt.bind (hQ z (by simp)) (Evt.cfalse rfl ?_)
  rw [w64_next (by rw [←h]at hb;simp at hb;omega)]
  have:=intact_loop hL hb r (d ++ [z]) (by simpa using h) (fun y hy=>hQ y (by simp [hy]))
  simpa using this

theorem intact_rows{γ:Type}{d0:List γ×List γ}{Q:Nat→(List γ×List γ)→(List γ×List γ)→Option Bool}{E:Nat→List (List γ)→List (List γ)→Option Bool}{x:List (List γ×List γ)×List (List γ×List γ)}(hx:Room x)(hm:∀y∈x.1,Room y)
  {I:Nat→(List (List γ×List γ)×List (List γ×List γ))→(List (List γ×List γ)×List (List γ×List γ))→Option Bool}
  {L:Nat→Nat→(List (List γ×List γ)×List (List γ×List γ))→(List (List γ×List γ)×List (List γ×List γ))→Int→Int→Option (Bool ⊕ ((List (List γ×List γ)×List (List γ×List γ))×(List (List γ×List γ)×List (List γ×List γ))×Int×Unit))}
  (hL:∀k n x0 x1 x5 x6,L k (n+1) x0 x1 x5 x6=(bif (decide (x6<(x1.1.length:Int)))then(bif (decide (0≤x6))then(bif (decide (x6<(x0.1.length:Int)))then(bif (decide (0≤x6))then(bif (decide (x6<(x1.1.length:Int)))then(Option.bind (Q k (x0.1.getD (Int.toNat x6) d0) (x1.1.getD (Int.toNat x6) d0)) fun r2=>(bif (!r2)then some (Sum.inl false)else(L k n x0 x1 x5 (IntKind.wrap .i64 (x6+1)))))else none)else none)else none)else none)else some (Sum.inr (x0,x1,x5,()))))
  (hI:∀k a0 a1,I k a0 a1=(Option.bind (laws_roomBehind (a1.1.length:Int)) fun r1=>(bif ((a0.1.length:Int) != (a1.1.length:Int))then some false else(both (R:=Bool) (P:=(List (List γ×List γ)×List (List γ×List γ))×(List (List γ×List γ)×List (List γ×List γ))×Int×Unit) (L k k a0 a1 (IntKind.wrap .i64 ((a1.1.length:Int)+r1)) 0) (fun q5=>some q5) (fun y4=>(bif (decide (0≤(y4.2.1.1.length:Int)))then(bif (decide ((y4.2.1.1.length:Int)≤y4.2.2.1))then(bif (decide (y4.2.2.1≤((y4.1.1++y4.1.2).length:Int)))then(bif (decide (0≤(y4.2.1.1.length:Int)))then(bif (decide ((y4.2.1.1.length:Int)≤y4.2.2.1))then(bif (decide (y4.2.2.1≤((y4.2.1.1++y4.2.1.2).length:Int)))then(Option.bind (E k ((((y4.1.1++y4.1.2).take (Int.toNat y4.2.2.1)).drop (Int.toNat (y4.2.1.1.length:Int))).map fun z=>z.1) ((((y4.2.1.1++y4.2.1.2).take (Int.toNat y4.2.2.1)).drop (Int.toNat (y4.2.1.1.length:Int))).map fun z=>z.1)) fun r6=>some r6)else none)else none)else none)else none)else none)else none))))))
  (hQ:∀y∈x.1,Evt (fun k _=>Q k y y) true) (hE:Evt (fun k _=>E k (x.2.map fun z=>z.1) (x.2.map fun z=>z.1)) true):Evt (fun k _=>I k x x) true:=by
 have hr:=room_le x.1.length
 have h1:=hx.1
 have h2:=hx.2
 refine Evt.eq ?_ (fun k _=>hI k x x)
 refine Evt.bind (.const (room_eq _)) (Evt.cfalse (by simp) ?_)
 have hw:IntKind.wrap .i64 ((x.1.length:Int)+(roomN x.1.length:Int))=(((x.1++x.2).length:Nat):Int):=by
  rw [List.length_append,h1,w64] <;> omega
 rw [hw]
 have:=intact_loop (L:=fun k n x6=>L k n x x (((x.1++x.2).length:Nat):Int) x6) (fun k n x6=>hL k n x x _ x6) (by simp only [lenB];omega) x.1 [] rfl hQ
 simp only [List.length_nil]at this
 refine Evt.inr (Evt.diag this) ?_
 refine Evt.ctrue mid_ge (Evt.ctrue (by simp <;> omega) (Evt.ctrue (by simp <;> omega) (Evt.ctrue mid_ge (Evt.ctrue (by simp <;> omega) (Evt.ctrue (by simp <;> omega) ?_)))))
 have e:(((x.1++x.2).length:Nat):Int).toNat=(x.1++x.2).length:=Int.toNat_natCast _
 have e2:((x.1.length:Nat):Int).toNat=x.1.length:=Int.toNat_natCast _
 simp only [e,e2,List.take_length,List.drop_left]
 exact Evt.bind hE .pure

theorem room_toV{β γ:Type}{f:β→γ}{v:γ}{a:List β}(h:a.length≤1000000):Room (toV f v a false):=by
 refine⟨?_,?_⟩
 ·simp [toV]
 ·simp [toV];exact h

def heldAny{γ:Type}(c:Nat):Nat→List γ→Int→Option Int:=fun _ x a=>some (a+c*x.length)
theorem nat_mul_sub{c a b:Nat}(h:b<a):c*(a - b)=c+c*(a - (b+1)):=by
 obtain⟨m,rfl⟩:∃m,a=b+1+m:=⟨a - (b+1),by omega⟩
 rw [show b+1+m - b=m+1 by omega,show b+1+m - (b+1)=m by omega,Nat.mul_add,Nat.mul_one,Nat.add_comm]

theorem mark_only{γ:Type}{M:Nat→Nat→List γ→Int→Int→Option ((Int×List γ) ⊕ (Int×List γ×Unit))}{mark:Nat→List γ→Int→Option (Int×List γ)}{mv:Nat→γ}{c:Nat}
  (hc:0<c)
  (hM:∀(k n:Nat) (d r:List γ) (e:γ) (a:Nat),a+c<lenB→(d++e::r).length<lenB→M k (n+1) (d++e::r) a d.length=M k n (d++mv a::r) ((a+c:Nat):Int) ((d.length+1:Nat):Int))
  (hM0:∀(k n:Nat) (d:List γ) (a:Int),M k (n+1) d a d.length=some (.inr (a,d,())))
  (hmark:∀k x a,mark k x a=both (R:=Int×List γ) (P:=Int×List γ×Unit) (M k k x a 0) (fun q=>some q) (fun y=>some (y.1,y.2.1))) :
  MarkOk mark (heldAny c) (fun x=>c*x.length) :=
 mark_all (M:=M) (H:=fun _ _ x a i=>some (.inr (a+c*(x.length - i.toNat:Nat),()))) (mv:=mv) hc hM hM0
  (fun k n d r a h1 h2=>by
   have h:d.length<(d++mv a::r).length:=by simp
   have:=nat_mul_sub (c:=c) h
   simp only [Int.toNat_natCast]
   congr 3
   omega)
  (fun k n d a=>by simp) hmark (fun k x a=>by simp [heldAny,both])

theorem markIntS_only:MarkOk laws_markIntS (heldAny 1) (fun x=>1*x.length) :=
 mark_only (M:=laws_markIntS_L26) (mv:=fun a=>(a:Int)) (by omega)
  (fun k n d r e a h1 h2=>by
   rw [laws_markIntS_L26]
   rw [mid_lt,mid_ge,mid_set,w64_next (m:=d.length) (by simp at h2;omega),w64_next (m:=a) (by omega)]
   rfl)
  (fun k n d a=>by rw [laws_markIntS_L26,mid_end];rfl)
  (fun _ _ _=>rfl)

end Go.Ev.G

namespace Go.Ev.G
open Go Go.Ev
set_option maxRecDepth 100000

def gd(a:Int×Int):Prop:=0≤a.2∧a.2≤24 ∧ -1099511627776≤a.1∧a.1≤1099511627776∧(a.2=0∨a.1 % 2≠0)
instance (a:Int×Int):Decidable (gd a):=by unfold gd;infer_instance

theorem l1In_eq(n lo hi:Int):spec_l1In n lo hi=some (decide (lo≤n∧n≤hi)):=by
 unfold spec_l1In
 by_cases h:lo≤n
 ·have:decide (n≥lo)=true:=by simpa using h
  rw [this];simp [h]
 ·have:decide (n≥lo)=false:=by simpa using h
  rw [this];simp [h]
theorem inside_eq(n lo hi:Int):impl_inside n lo hi=some (decide (lo≤n∧n≤hi)):=l1In_eq n lo hi
def strip:Nat→Int→Int×Nat
 | 0,n=>(n,0)
 | k+1,n=>if n % 2=0 then strip k (n / 2)else(n,k+1)

def mkD(n:Int)(k:Nat):(Int×Int)×Bool :=
 if -1099511627776≤(strip k n).1∧(strip k n).1≤1099511627776∧(strip k n).2≤24 then(((strip k n).1,((strip k n).2:Int)),true)else((0,0),false)

end Go.Ev.G

namespace Go.Ev.G
open Go Go.Ev
set_option maxRecDepth 100000

def exA(a b:Int×Int):Nat:=max a.2.toNat b.2.toNat
def sumN(a b:Int×Int):Int:=a.1*2 ^ (exA a b - a.2.toNat)+b.1*2 ^ (exA a b - b.2.toNat)
def sumD(a b:Int×Int):(Int×Int)×Bool:=mkD (sumN a b) (exA a b)

theorem most_eq(a b:Int):spec_l1Most a b=some (max a b):=by
 unfold spec_l1Most
 by_cases h:a>b
 ·have:decide (a>b)=true:=by simpa using h
  rw [this];simp only [cond_true];congr 1;omega
 ·have:decide (a>b)=false:=by simpa using h
  rw [this];simp only [cond_false];congr 1;omega

end Go.Ev.G

namespace Go.Ev.G
open Go Go.Ev
set_option maxRecDepth 100000

def cmpI(a b:Int):Int:=if a<b then -1 else if b<a then 1 else 0

def orI(x y:Int):Int:=bif x==0 then y else x
theorem orI_ne{x:Int}(h:x≠0)(y:Int):orI x y=x:=by
 have:(x==0)=false:=by simpa using h
 rw [orI,this];rfl
theorem orI_z(y:Int):orI 0 y=y:=rfl

end Go.Ev.G

namespace Go.Ev.G
open Go Go.Ev
set_option maxRecDepth 100000

def sv(a:Int×Int):Int:=a.1*2 ^ (24 - a.2.toNat)

theorem sign_eq(n:Int):spec_l1Sign n=some (cmpI n 0):=by
 unfold spec_l1Sign cmpI
 rcases Int.lt_trichotomy n 0 with h | h | h
 ·have h1 : ¬ n>0:=by omega
  simp [h,h1]
 ·subst h;rfl
 ·have h1 : ¬ n<0:=by omega
  simp [h,h1]

end Go.Ev.G

namespace Go.Ev.G
open Go Go.Ev
set_option maxRecDepth 100000

theorem l1All_ev{xs:List Int}{lo hi:Int}(hb:xs.length<lenB):Evt (fun k _=>spec_l1All k xs lo hi) (xs.all fun x=>decide (lo≤x∧x≤hi)):=by
 refine Evt.eq (f:=fun k q=>_) ?_ (fun k q=>by rw [spec_l1All])
 have key:∀(r d:List Int),d++r=xs→Evt (fun k n=>spec_l1All_L26 k n lo hi xs (xs.length:Int) d.length) (if (r.all fun x=>decide (lo≤x∧x≤hi))then .inr ()else .inl false):=by
  intro r
  induction r with
  | nil =>
   intro d h
   refine Evt.step (fun k n=>spec_l1All_L26.eq_2 k _ _ _ _ _ n) ?_
   rw [List.append_nil]at h
   subst h
   exact Evt.rng0 .pure
  | cons e r ih =>
   intro d h
   refine Evt.step (fun k n=>spec_l1All_L26.eq_2 k _ _ _ _ _ n) ?_
   have ih:=ih (d ++ [e]) (by simpa using h)
   rw [←len_next (r:=r) (by rw [h];exact hb)]at ih
   subst h
   refine Evt.rng (F:=fun k n x=>(Option.bind (spec_l1In x lo hi) fun r1=>(bif (!r1)then some (Sum.inl false)else(spec_l1All_L26 k n lo hi (d++e::r) ((d++e::r).length:Int) (IntKind.wrap .i64 ((d.length:Int)+1)))))) ?_
   refine Evt.bind (.const (l1In_eq _ _ _)) ?_
   by_cases h1:lo≤e∧e≤hi
   ·refine Evt.cfalse (by simp [h1]) ?_
    simp only [List.all_cons,h1,and_self,decide_true,Bool.true_and]
    exact ih
   ·refine Evt.ctrue (by rw [decide_eq_false h1];rfl) ?_
    simp only [List.all_cons,decide_eq_false h1,Bool.false_and]
    exact .pure
 have h0:=key xs [] rfl
 simp only [List.length_nil]at h0
 cases hall:(xs.all fun x=>decide (lo≤x∧x≤hi))with
 | true=>rw [hall]at h0;exact Evt.inr (Evt.diag h0) .pure
 | false=>rw [hall]at h0;exact Evt.inl (Evt.diag h0) .pure

end Go.Ev.G

namespace Go.Ev.G
open Go Go.Ev
set_option maxRecDepth 100000

theorem toV_fst{γ:Type}{v:γ}{a:List γ}{b:Bool}:(toV id v a b).1=a:=by
 unfold toV
 split
 ·rename_i h;exact h.2.symm
 ·simp
theorem toV_rows{γ:Type}{v:γ}{w:List γ×List γ}{a:List (List γ)}{b:Bool}:((toV (fun x=>toV id v x b) w a b).1.map fun z=>z.1)=a:=by
 unfold toV
 split
 ·rename_i h;rw [h.2];rfl
 ·simp only [List.map_map]
  conv=>rhs;rw [←List.map_id a]
  apply List.map_congr_left
  intro x hx
  exact toV_fst

def Sized{γ:Type}(a:List (List γ)):Prop:=a.length+(a.map List.length).sum≤1000000

theorem le_sum{l:List Nat}{x:Nat}(h:x∈l):x≤l.sum:=by
 induction l with
 | nil=>simp at h
 | cons y l ih =>
  simp only [List.sum_cons]
  rcases List.mem_cons.1 h with rfl | h
  ·omega
  ·have:=ih h;omega
theorem Sized.len{γ:Type}{a:List (List γ)}(h:Sized a):a.length≤1000000:=by unfold Sized at h;omega
theorem Sized.row{γ:Type}{a:List (List γ)}(h:Sized a):∀x∈a,x.length≤1000000:=by
 intro x hx
 unfold Sized at h
 have:=le_sum (List.mem_map.2 ⟨x,hx,rfl⟩:x.length∈a.map List.length)
 omega

end Go.Ev.G

namespace Go.Ev.G
open Go Go.Ev
set_option maxRecDepth 100000

def osum:(Int×Int)→List (Int×Int)→Option (Int×Int)
 | s,[]=>some s
 | s,x::xs=>if (sumD s x).2 then osum (sumD s x).1 xs else none
end Go.Ev.G

namespace Go.Ev.G
open Go Go.Ev
set_option maxRecDepth 100000

theorem sum_twice:∀(x:List (List (Int×Int))),(x.map fun r=>2*r.length).sum=2*(x.map List.length).sum
 | []=>rfl
 | r::x=>by simp only [List.map_cons,List.sum_cons];rw [sum_twice x];omega
theorem Sized.marks{a:List (List (Int×Int))}(h:Sized a):101+(a.map fun r=>2*r.length).sum<lenB:=by
 unfold Sized at h
 rw [sum_twice]
 simp only [lenB];omega

end Go.Ev.G

namespace Go.Ev.G
open Go Go.Ev
set_option maxRecDepth 100000

def ivGd(x:(Int×Int)×Int×Int):Prop:=gd x.1∧gd x.2∧sv x.1≤sv x.2
instance:DecidablePred ivGd:=fun x=>by unfold ivGd;exact inferInstance
end Go.Ev.G

namespace Go.Ev.G
open Go Go.Ev
set_option maxRecDepth 100000

abbrev Tm:=Int×Int×Int×Int
def tmGd(t:Tm):Prop:=(-1000≤t.1∧t.1≤1000)∧(0≤t.2.1∧t.2.1≤4)∧(0≤t.2.2.1∧t.2.2.1≤4)∧(0≤t.2.2.2∧t.2.2.2≤4)∧t.2.1+t.2.2.1+t.2.2.2≤4
instance:DecidablePred tmGd:=fun x=>by unfold tmGd;exact inferInstance

theorem poTerm_eq(t:Tm):spec_poTerm t=some (decide (tmGd t)):=by
 unfold spec_poTerm
 simp only [l1In_eq,Option.bind_some]
 by_cases h1 : -1000≤t.1∧t.1≤1000
 ·rw [decide_eq_true h1,cond_true]
  by_cases h2:0≤t.2.1∧t.2.1≤4
  ·rw [decide_eq_true h2,cond_true]
   by_cases h3:0≤t.2.2.1∧t.2.2.1≤4
   ·rw [decide_eq_true h3,cond_true]
    by_cases h4:0≤t.2.2.2∧t.2.2.2≤4
    ·rw [decide_eq_true h4,cond_true,w64 (n:=t.2.1+t.2.2.1) (by omega) (by omega),w64 (by omega) (by omega)]
     congr 1
     rw [decide_eq_decide]
     exact⟨fun h=>⟨h1,h2,h3,h4,h⟩,fun h=>h.2.2.2.2⟩
    ·rw [decide_eq_false h4,decide_eq_false fun h:tmGd t=>h4 h.2.2.2.1];rfl
   ·rw [decide_eq_false h3,decide_eq_false fun h:tmGd t=>h3 h.2.2.1];rfl
  ·rw [decide_eq_false h2,decide_eq_false fun h:tmGd t=>h2 h.2.1];rfl
 ·rw [decide_eq_false h1,decide_eq_false fun h:tmGd t=>h1 h.1];rfl

theorem hasDegree_eq{t:Tm}(h1 : -1000≤t.1∧t.1≤1000):impl_hasDegree t=some (decide (tmGd t)):=by
 unfold impl_hasDegree impl_Term_degree
 simp only [inside_eq,Option.bind_some]
 by_cases h2:0≤t.2.1∧t.2.1≤4
 ·rw [decide_eq_true h2,cond_true]
  by_cases h3:0≤t.2.2.1∧t.2.2.1≤4
  ·rw [decide_eq_true h3,cond_true]
   by_cases h4:0≤t.2.2.2∧t.2.2.2≤4
   ·rw [decide_eq_true h4,cond_true,w64 (n:=t.2.1+t.2.2.1) (by omega) (by omega),w64 (by omega) (by omega)]
    congr 1
    rw [decide_eq_decide]
    exact⟨fun h=>⟨h1,h2,h3,h4,h⟩,fun h=>h.2.2.2.2⟩
   ·rw [decide_eq_false h4,decide_eq_false fun h:tmGd t=>h4 h.2.2.2.1];rfl
  ·rw [decide_eq_false h3,decide_eq_false fun h:tmGd t=>h3 h.2.2.1];rfl
 ·rw [decide_eq_false h2,decide_eq_false fun h:tmGd t=>h2 h.2.1];rfl

def lexI(a b:Tm):Int:=if a.2.1≠b.2.1 then cmpI a.2.1 b.2.1 else if a.2.2.1≠b.2.2.1 then cmpI a.2.2.1 b.2.2.1 else cmpI a.2.2.2 b.2.2.2
theorem cmpI_sub(a b:Int):cmpI (a - b) 0=cmpI a b:=by
 unfold cmpI
 split <;> split <;> (try split) <;> (try split) <;> omega
theorem poOrder_eq{a b:Tm}(ha:tmGd a)(hb:tmGd b):spec_poOrder a b=some (lexI a b):=by
 have a1:=ha.2
 have b1:=hb.2
 unfold spec_poOrder lexI
 rw [w64 (n:=a.2.1 - b.2.1) (by omega) (by omega),w64 (n:=a.2.2.1 - b.2.2.1) (by omega) (by omega),w64 (n:=a.2.2.2 - b.2.2.2) (by omega) (by omega)]
 simp only [sign_eq,Option.bind_some,cmpI_sub]
 by_cases h1:a.2.1=b.2.1
 ·rw [if_neg (by simpa using h1),show(a.2.1 != b.2.1)=false by simpa using h1,cond_false]
  by_cases h2:a.2.2.1=b.2.2.1
  ·rw [if_neg (by simpa using h2),show(a.2.2.1 != b.2.2.1)=false by simpa using h2,cond_false]
  ·rw [if_pos h2,show(a.2.2.1 != b.2.2.1)=true by simpa using h2,cond_true]
 ·rw [if_pos h1,show(a.2.1 != b.2.1)=true by simpa using h1,cond_true]

theorem cmpC_eq(a b:Int):cmp_Compare_int a b=some (cmpI a b):=by
 unfold cmp_Compare_int cmp_isNaN_int cmpI
 simp only [bne_self_eq_false,Option.bind_some,cond_false]
 by_cases h:a<b
 ·simp [h]
 ·by_cases h2:b<a
  ·simp [h,h2]
  ·simp [h,h2]

theorem or3_ev(x y z:Int):Evt (fun k _=>cmp_Or_int k [x,y,z]) (orI x (orI y z)):=by
 refine Evt.eq (f:=fun k q=>_) ?_ (fun k q=>by rw [cmp_Or_int])
 have w1:IntKind.wrap .i64 (0+1)=1:=by decide
 have w2:IntKind.wrap .i64 (1+1)=2:=by decide
 have w3:IntKind.wrap .i64 (2+1)=3:=by decide
 have l3:Evt (fun k n=>cmp_Or_int_L58 k n 0 [x,y,z] 3 3) (.inr (0,())):=Evt.step (fun k n=>cmp_Or_int_L58.eq_2 k _ _ _ _ n) (Evt.cfalse rfl .pure)
 have l2:Evt (fun k n=>cmp_Or_int_L58 k n 0 [x,y,z] 3 2) (if z != 0 then .inl z else .inr (0,())):=by
  refine Evt.step (fun k n=>cmp_Or_int_L58.eq_2 k _ _ _ _ n) (Evt.ctrue rfl (Evt.ctrue rfl (Evt.ctrue rfl ?_)))
  rw [w3]
  cases h:(z != 0)with
  | true=>exact Evt.ctrue h .pure
  | false=>exact Evt.cfalse h l3
 have l1:Evt (fun k n=>cmp_Or_int_L58 k n 0 [x,y,z] 3 1) (if y != 0 then .inl y else if z != 0 then .inl z else .inr (0,())):=by
  refine Evt.step (fun k n=>cmp_Or_int_L58.eq_2 k _ _ _ _ n) (Evt.ctrue rfl (Evt.ctrue rfl (Evt.ctrue rfl ?_)))
  rw [w2]
  cases h:(y != 0)with
  | true=>exact Evt.ctrue h .pure
  | false=>exact Evt.cfalse h l2
 have l0:Evt (fun k n=>cmp_Or_int_L58 k n 0 [x,y,z] (([x,y,z]:List Int).length:Int) 0) (if x != 0 then .inl x else if y != 0 then .inl y else if z != 0 then .inl z else .inr (0,())):=by
  refine Evt.step (fun k n=>cmp_Or_int_L58.eq_2 k _ _ _ _ n) (Evt.ctrue rfl (Evt.ctrue rfl (Evt.ctrue rfl ?_)))
  rw [w1]
  cases h:(x != 0)with
  | true=>exact Evt.ctrue h .pure
  | false=>exact Evt.cfalse h l1
 unfold orI
 cases hx:(x != 0)with
 | true =>
  rw [hx]at l0
  rw [show(x==0)=false by simpa using hx]
  exact Evt.inl (Evt.diag l0) .pure
 | false =>
  rw [hx]at l0
  rw [show(x==0)=true by simpa using hx,cond_true]
  cases hy:(y != 0)with
  | true =>
   rw [hy]at l0
   rw [show(y==0)=false by simpa using hy]
   exact Evt.inl (Evt.diag l0) .pure
  | false =>
   rw [hy]at l0
   rw [show(y==0)=true by simpa using hy,cond_true]
   cases hz:(z != 0)with
   | true=>rw [hz]at l0;exact Evt.inl (Evt.diag l0) .pure
   | false =>
    rw [hz]at l0
    have hz0:z=0:=by simpa using hz
    subst hz0
    exact Evt.inr (Evt.diag l0) .pure

theorem cmpI_zero(a b:Int):cmpI a b=0↔a=b:=by
 unfold cmpI
 split <;> (try split) <;> omega
theorem compareTerms_ev(a b:Tm):Evt (fun k _=>impl_compareTerms k a b) (lexI a b):=by
 refine Evt.eq (f:=fun k q=>_) ?_ (fun k q=>by rw [impl_compareTerms])
 refine Evt.bind (.const (cmpC_eq _ _)) (Evt.bind (.const (cmpC_eq _ _)) (Evt.bind (.const (cmpC_eq _ _)) (Evt.bind (or3_ev _ _ _) ?_)))
 have:orI (cmpI a.2.1 b.2.1) (orI (cmpI a.2.2.1 b.2.2.1) (cmpI a.2.2.2 b.2.2.2))=lexI a b:=by
  unfold lexI
  by_cases h1:a.2.1=b.2.1
  ·rw [(cmpI_zero _ _).2 h1,orI_z,if_neg (by simpa using h1)]
   by_cases h2:a.2.2.1=b.2.2.1
   ·rw [(cmpI_zero _ _).2 h2,orI_z,if_neg (by simpa using h2)]
   ·rw [orI_ne (fun h=>h2 ((cmpI_zero _ _).1 h)),if_pos h2]
  ·rw [orI_ne (fun h=>h1 ((cmpI_zero _ _).1 h)),if_pos h1]
 rw [this]
 exact .pure

def okFrom:Option Tm→List Tm→Bool
 | _,[]=>true
 | p,e::r=>(decide (tmGd e) && !(e.1==0))&&((match p with | none=>true | some q=>decide (lexI q e<0))&&okFrom (some e) r)
def lastO(d:List Tm):Option Tm:=d.getLast?
def polyV(xs:List Tm):Bool:=okFrom none xs&&decide ((xs.length:Int)≤20)

theorem last_get{d r:List Tm}{e q z:Tm}:(d ++ [q]++e::r).getD (Int.toNat (d.length:Int)) z=q:=by simp

theorem poGood_ev{xs:List Tm}(hb:xs.length<lenB):Evt (fun k _=>spec_poGood k xs) (polyV xs):=by
 refine Evt.eq (f:=fun k q=>_) ?_ (fun k q=>by rw [spec_poGood])
 have key:∀(r d:List Tm),d++r=xs→(∀q,lastO d=some q→tmGd q)→Evt (fun k n=>spec_poGood_L26 k n xs xs (xs.length:Int) d.length) (if okFrom (lastO d) r then .inr (xs,())else .inl false):=by
  intro r
  induction r with
  | nil =>
   intro d h hg
   refine Evt.step (fun k n=>spec_poGood_L26.eq_2 k _ _ _ _ n) ?_
   rw [List.append_nil]at h
   subst h
   exact Evt.rng0 .pure
  | cons e r ih =>
   intro d h hg
   refine Evt.step (fun k n=>spec_poGood_L26.eq_2 k _ _ _ _ n) ?_
   have ih:=ih (d ++ [e]) (by simpa using h)
   rw [←len_next (r:=r) (by rw [h];exact hb)]at ih
   rw [show lastO (d ++ [e])=some e by simp [lastO]]at ih
   subst h
   refine Evt.ctrue mid_lt (Evt.ctrue mid_ge (Evt.ctrue mid_lt ?_))
   rw [mid_get]
   refine Evt.bind (.const (poTerm_eq e)) ?_
   unfold okFrom
   by_cases h1:tmGd e
   ·simp only [decide_eq_true h1,Bool.true_and]
    refine Evt.cfalse rfl ?_
    have ih:=ih (fun q hq=>by cases hq;exact h1)
    cases h2:(e.1==0)with
    | true=>exact Evt.ctrue rfl .pure
    | false =>
     refine Evt.cfalse rfl ?_
     simp only [Bool.not_false,Bool.true_and]
     rcases List.eq_nil_or_concat d with rfl | ⟨d0,q,rfl⟩
     ·exact Evt.cfalse rfl (by simpa [lastO] using ih)
     ·simp only [List.concat_eq_append]at hg ih ⊢
      have hq:lastO (d0 ++ [q])=some q:=by simp [lastO]
      have hl:(((d0 ++ [q]).length:Nat):Int)=(d0.length:Int)+1:=by simp
      have hlb:d0.length<lenB:=by simp at hb;omega
      simp only [lenB]at hlb
      refine Evt.ctrue (by rw [hl];exact decide_eq_true (by omega)) ?_
      have hw:IntKind.wrap .i64 (((d0 ++ [q]).length:Int) - 1)=(d0.length:Int):=by rw [hl,w64 (by omega) (by omega)];omega
      rw [hw,last_get]
      refine Evt.ctrue (by simp) (Evt.ctrue (by simp <;> omega) (Evt.bind (.const (poOrder_eq (hg q hq) h1)) ?_))
      simp only [hq]
      by_cases h3:lexI q e<0
      ·simp only [decide_eq_true h3,Bool.true_and]
       exact Evt.cfalse (decide_eq_false (by omega)) ih
      ·simp only [decide_eq_false h3,Bool.false_and]
       exact Evt.ctrue (decide_eq_true (by omega)) .pure
   ·simp only [decide_eq_false h1,Bool.false_and]
    exact Evt.ctrue rfl .pure
 have h0:=key xs [] rfl (by intro q hq;cases hq)
 simp only [List.length_nil]at h0
 unfold polyV
 rw [show lastO []=none from rfl]at h0
 cases hall:okFrom none xs with
 | true=>rw [hall]at h0;exact Evt.inr (Evt.diag h0) .pure
 | false=>rw [hall]at h0;exact Evt.inl (Evt.diag h0) .pure

theorem isPoly_ev{xs:List Tm}(hb:xs.length<lenB):Evt (fun k _=>impl_isPoly k xs) (polyV xs):=by
 refine Evt.eq (f:=fun k q=>_) ?_ (fun k q=>by rw [impl_isPoly])
 have key:∀(r d:List Tm),d++r=xs→Evt (fun k n=>impl_isPoly_L26 k n xs xs (xs.length:Int) d.length) (if okFrom (lastO d) r then .inr (xs,())else .inl false):=by
  intro r
  induction r with
  | nil =>
   intro d h
   refine Evt.step (fun k n=>impl_isPoly_L26.eq_2 k _ _ _ _ n) ?_
   rw [List.append_nil]at h
   subst h
   exact Evt.rng0 .pure
  | cons e r ih =>
   intro d h
   refine Evt.step (fun k n=>impl_isPoly_L26.eq_2 k _ _ _ _ n) ?_
   have ih:=ih (d ++ [e]) (by simpa using h)
   rw [←len_next (r:=r) (by rw [h];exact hb)]at ih
   rw [show lastO (d ++ [e])=some e by simp [lastO]]at ih
   subst h
   refine Evt.ctrue mid_lt (Evt.ctrue mid_ge (Evt.ctrue mid_lt ?_))
   rw [mid_get]
   unfold okFrom
   cases h2:(e.1==0)with
   | true =>
    simp only [Bool.not_true,Bool.and_false,Bool.false_and]
    exact Evt.ctrue rfl .pure
   | false =>
   refine Evt.cfalse rfl (Evt.bind (.const (inside_eq _ _ _)) ?_)
   simp only [Bool.not_false,Bool.and_true]
   by_cases h0 : -1000≤e.1∧e.1≤1000
   ·refine Evt.cfalse (by rw [decide_eq_true h0];rfl) (Evt.bind (.const (hasDegree_eq h0)) ?_)
    by_cases h1:tmGd e
    ·simp only [decide_eq_true h1,Bool.true_and]
     refine Evt.cfalse rfl ?_
     rcases List.eq_nil_or_concat d with rfl | ⟨d0,q,rfl⟩
     ·exact Evt.cfalse rfl (by simpa [lastO] using ih)
     ·simp only [List.concat_eq_append]at ih ⊢
      have hq:lastO (d0 ++ [q])=some q:=by simp [lastO]
      have hl:(((d0 ++ [q]).length:Nat):Int)=(d0.length:Int)+1:=by simp
      have hlb:d0.length<lenB:=by simp at hb;omega
      simp only [lenB]at hlb
      refine Evt.ctrue (by rw [hl];exact decide_eq_true (by omega)) ?_
      have hw:IntKind.wrap .i64 (((d0 ++ [q]).length:Int) - 1)=(d0.length:Int):=by rw [hl,w64 (by omega) (by omega)];omega
      rw [hw,last_get]
      refine Evt.ctrue (by simp) (Evt.ctrue (by simp <;> omega) (Evt.bind (compareTerms_ev q e) ?_))
      simp only [hq]
      by_cases h3:lexI q e<0
      ·simp only [decide_eq_true h3,Bool.true_and]
       exact Evt.cfalse (decide_eq_false (by omega)) ih
      ·simp only [decide_eq_false h3,Bool.false_and]
       exact Evt.ctrue (decide_eq_true (by omega)) .pure
    ·simp only [decide_eq_false h1,Bool.false_and]
     exact Evt.ctrue rfl .pure
   ·simp only [decide_eq_false fun h:tmGd e=>h0 h.1,Bool.false_and]
    exact Evt.ctrue (by rw [decide_eq_false h0];rfl) .pure
 have h0:=key xs [] rfl
 simp only [List.length_nil]at h0
 unfold polyV
 rw [show lastO []=none from rfl]at h0
 cases hall:okFrom none xs with
 | true=>rw [hall]at h0;exact Evt.inr (Evt.diag h0) .pure
 | false=>rw [hall]at h0;exact Evt.inl (Evt.diag h0) .pure
end Go.Ev.G

namespace Go.Ev.G
open Go Go.Ev
set_option maxRecDepth 100000

def keyT(t:Tm):Int:=25*t.2.1+5*t.2.2.1+t.2.2.2
def exOk(t:Tm):Prop:=(0≤t.2.1∧t.2.1≤4)∧(0≤t.2.2.1∧t.2.2.1≤4)∧(0≤t.2.2.2∧t.2.2.2≤4)
theorem lexI_lt{a b:Tm}(ha:exOk a)(hb:exOk b):lexI a b<0↔keyT a<keyT b:=by
 unfold lexI cmpI keyT
 obtain⟨⟨_,_⟩,⟨_,_⟩,_,_⟩:=ha
 obtain⟨⟨_,_⟩,⟨_,_⟩,_,_⟩:=hb
 split
 ·split
  ·omega
  ·split <;> omega
 ·split
  ·split
   ·omega
   ·split <;> omega
  ·split
   ·omega
   ·split <;> omega
theorem lexI_zero{a b:Tm}:lexI a b=0↔a.2=b.2:=by
 unfold lexI
 obtain⟨c,x,y,z⟩:=a
 obtain⟨c',x',y',z'⟩:=b
 simp only [Prod.mk.injEq]
 split
 ·rw [cmpI_zero];omega
 ·split
  ·rw [cmpI_zero];omega
  ·rw [cmpI_zero];omega
def srt(l:List Tm):Prop:=l.Pairwise fun a b=>keyT a≤keyT b

theorem ins_loop{x2 x8:Int}{e:Tm}{R:List Tm}(he:exOk e):∀(m:Nat) (P1 P2:List Tm),P1.length=m→(P1++e::P2++R).length<lenB→(∀t∈P1++P2,exOk t)→srt (P1++P2)→(∀p∈P2,keyT e≤keyT p) →
  ∃Y,Y.Perm (P1++e::P2)∧srt Y∧Evt (fun k n=>slices_insertionSortCmpFunc_Term_impl_compareTerms_L402 k n (P1++e::(P2++R)) 0 x2 () x8 P1.length) (.inr (Y++R,0,x2,(),x8,())):=by
 intro m
 induction m with
 | zero =>
  intro P1 P2 hm hb hx hs hp
  have hn:P1 = []:=List.eq_nil_of_length_eq_zero hm
  subst hn
  refine⟨e::P2,.refl _,List.pairwise_cons.2 ⟨hp,hs⟩,Evt.step (fun k n=>slices_insertionSortCmpFunc_Term_impl_compareTerms_L402.eq_2 k _ _ _ _ _ _ n) ?_⟩
  exact Evt.cfalse (by simp) .pure
 | succ m ih =>
  intro P1 P2 hm hb hx hs hp
  obtain⟨Q,p,hQ⟩:∃Q p,P1=Q ++ [p]:=⟨P1.dropLast,P1.getLast (by intro h;rw [h]at hm;simp at hm),(List.dropLast_concat_getLast _).symm⟩
  subst hQ
  have hQl:Q.length=m:=by simpa using hm
  have hpx:exOk p:=hx p (by simp)
  have e0:Q ++ [p]++e::(P2++R)=Q++p::e::(P2++R):=by simp
  have hlen:(Q ++ [p]++e::(P2++R)).length=Q.length+2+P2.length+R.length:=by simp;omega
  simp only [List.length_append,List.length_cons,List.length_nil,lenB]at hb
  have hj:IntKind.wrap .i64 (((Q ++ [p]).length:Int) - 1)=(Q.length:Int):=by rw [w64 (by simp <;> omega) (by simp <;> omega)];simp
  have g1:(Q ++ [p]++e::(P2++R)).getD (Int.toNat ((Q ++ [p]).length:Int)) (0,0,0,0)=e:=mid_get
  have g2:(Q ++ [p]++e::(P2++R)).getD (Int.toNat (Q.length:Int)) (0,0,0,0)=p:=by rw [e0];exact mid_get
  have s1:(Q ++ [p]++e::(P2++R)).set (Int.toNat ((Q ++ [p]).length:Int)) p=Q++p::(p::(P2++R)):=by rw [mid_set];simp
  have c1:decide (((Q ++ [p]).length:Int)<((Q ++ [p]++e::(P2++R)).length:Int))=true:=mid_lt
  have c2:decide ((Q.length:Int)<((Q ++ [p]++e::(P2++R)).length:Int))=true:=decide_eq_true (by rw [hlen];omega)
  have hstep:=fun(k n:Nat)=>slices_insertionSortCmpFunc_Term_impl_compareTerms_L402.eq_2 k (Q ++ [p]++e::(P2++R)) 0 x2 () x8 ((Q ++ [p]).length:Int) n
  simp only [hj,g1,g2,s1]at hstep
  by_cases hc:lexI e p<0
  ·obtain⟨Y,q1,q2,q3⟩:=ih Q (p::P2) hQl (by simp only [List.length_append,List.length_cons,lenB];omega) (by simpa using hx) (by simpa [srt] using hs) (by
    intro q hq
    have hep:=(lexI_lt he hpx).1 hc
    rcases List.mem_cons.1 hq with rfl | hq
    ·omega
    ·have h2:=(List.pairwise_append.1 hs).2.2 p (by simp) q hq
     omega)
   refine⟨Y,q1.trans ?_,q2,Evt.step (fun k n=>hstep k n) ?_⟩
   ·rw [List.append_assoc]
    exact List.Perm.append_left Q (List.Perm.swap p e P2)
   ·refine Evt.ctrue (decide_eq_true (by simp)) (Evt.ctrue mid_ge (Evt.ctrue c1 (Evt.ctrue mid_ge (Evt.ctrue c2 (Evt.bind (compareTerms_ev e p) (Evt.ctrue (decide_eq_true hc) (Evt.ctrue mid_ge (Evt.ctrue c2 (Evt.ctrue mid_ge (Evt.ctrue c1 (Evt.ctrue mid_ge (Evt.ctrue c1 (Evt.ctrue mid_ge (Evt.ctrue mid_lt ?_))))))))))))))
    rw [mid_set]
    exact q3
  ·refine⟨Q ++ [p]++e::P2,.refl _,?_,Evt.step (fun k n=>hstep k n) ?_⟩
   ·have hpe:keyT p≤keyT e:=by
     have:=mt (lexI_lt he hpx).2 hc
     omega
    refine List.pairwise_append.2 ⟨(List.pairwise_append.1 hs).1,List.pairwise_cons.2 ⟨hp,(List.pairwise_append.1 hs).2.1⟩,fun a ha b hb => ?_⟩
    have hap:keyT a≤keyT p:=by
     rcases List.mem_append.1 ha with ha | ha
     ·exact(List.pairwise_append.1 (List.pairwise_append.1 hs).1).2.2 a ha p (by simp)
     ·simp at ha;subst ha;exact Int.le_refl _
    rcases List.mem_cons.1 hb with rfl | hb
    ·omega
    ·have:=hp b hb
     omega
   ·refine Evt.ctrue (decide_eq_true (by simp)) (Evt.ctrue mid_ge (Evt.ctrue c1 (Evt.ctrue mid_ge (Evt.ctrue c2 (Evt.bind (compareTerms_ev e p) (Evt.cfalse (decide_eq_false hc) ?_))))))
    have:Q ++ [p]++e::(P2++R)=Q ++ [p]++e::P2++R:=by simp
    rw [this]
    exact .pure

theorem sort_loop:∀(r P:List Tm),(P++r).length<lenB→(∀t∈P++r,exOk t)→srt P →
  ∃Y,Y.Perm (P++r)∧srt Y∧Evt (fun k n=>slices_insertionSortCmpFunc_Term_impl_compareTerms_L6 k n (P++r) 0 ((P++r).length:Int) () P.length) (.inr (Y,())):=by
 intro r
 induction r with
 | nil =>
  intro P hb hx hs
  rw [List.append_nil]
  exact⟨P,.refl _,hs,Evt.step (fun k n=>slices_insertionSortCmpFunc_Term_impl_compareTerms_L6.eq_2 k _ _ _ _ _ n) (Evt.cfalse (by simp) .pure)⟩
 | cons e r ih =>
  intro P hb hx hs
  obtain⟨Y,q1,q2,q3⟩:=ins_loop (x2:=((P++e::r).length:Int)) (x8:=(P.length:Int)) (R:=r) (hx e (by simp)) P.length P [] rfl (by simpa using hb) (fun t ht=>hx t (by simp at ht;simp [ht])) (by simpa using hs) (by simp)
  have hl:=q1.length_eq
  have hl2:Y.length=P.length+1:=by simpa using hl
  have hmem:∀t∈Y++r,exOk t:=by
   intro t ht
   rcases List.mem_append.1 ht with ht | ht
   ·have:=q1.mem_iff.1 ht
    exact hx t (by simp at this;rcases this with h | h <;> simp [h])
   ·exact hx t (by simp [ht])
  have hlen:(Y++r).length=(P++e::r).length:=by simp;omega
  obtain⟨Z,z1,z2,z3⟩:=ih Y (by rw [hlen];exact hb) hmem q2
  refine⟨Z,z1.trans ?_,z2,Evt.step (fun k n=>slices_insertionSortCmpFunc_Term_impl_compareTerms_L6.eq_2 k _ _ _ _ _ n) ?_⟩
  ·have:=List.Perm.append_right r q1
   simpa using this
  ·refine Evt.ctrue mid_lt (Evt.inr (Evt.diag q3) ?_)
   rw [hlen,hl2]at z3
   have hb2:P.length<lenB:=by simp at hb;simp only [lenB]at hb ⊢; omega
   simp only [w64_next hb2]
   exact z3

theorem insSort_ev{l:List Tm}(hb:l.length<lenB)(hx:∀t∈l,exOk t):∃Y,Y.Perm l∧srt Y∧Evt (fun k _=>slices_insertionSortCmpFunc_Term_impl_compareTerms k l 0 (l.length:Int) ()) Y:=by
 cases l with
 | nil =>
  refine⟨[],.refl _,List.Pairwise.nil,Evt.eq (f:=fun k q=>_) ?_ (fun k q=>by rw [slices_insertionSortCmpFunc_Term_impl_compareTerms])⟩
  have h1:Evt (fun k n=>slices_insertionSortCmpFunc_Term_impl_compareTerms_L6 k n [] 0 (([]:List Tm).length:Int) () (IntKind.wrap .i64 (0+1))) (.inr ([],())):=Evt.step (fun k n=>slices_insertionSortCmpFunc_Term_impl_compareTerms_L6.eq_2 k _ _ _ _ _ n) (Evt.cfalse (by decide) .pure)
  exact Evt.inr (Evt.diag h1) .pure
 | cons a r =>
  obtain⟨Y,q1,q2,q3⟩:=sort_loop r [a] hb hx (List.pairwise_singleton _ _)
  refine⟨Y,q1,q2,Evt.eq (f:=fun k q=>_) ?_ (fun k q=>by rw [slices_insertionSortCmpFunc_Term_impl_compareTerms])⟩
  exact Evt.inr (Evt.diag q3) .pure
theorem insNone_ev{l:List Tm}{m:Nat}(hm:m<lenB):Evt (fun k _=>slices_insertionSortCmpFunc_Term_impl_compareTerms k l m m ()) l:=by
 refine Evt.eq (f:=fun k q=>_) ?_ (fun k q=>by rw [slices_insertionSortCmpFunc_Term_impl_compareTerms])
 have h1:Evt (fun k n=>slices_insertionSortCmpFunc_Term_impl_compareTerms_L6 k n l (m:Int) (m:Int) () (IntKind.wrap .i64 ((m:Int)+1))) (.inr (l,())):=by
  refine Evt.step (fun k n=>slices_insertionSortCmpFunc_Term_impl_compareTerms_L6.eq_2 k _ _ _ _ _ n) (Evt.cfalse (decide_eq_false ?_) .pure)
  rw [w64_next hm]
  omega
 exact Evt.inr (Evt.diag h1) .pure

theorem stable_ev{l:List Tm}(hb:l.length≤20)(hx:∀t∈l,exOk t):∃Y,Y.Perm l∧srt Y∧Evt (fun k _=>slices_SortStableFunc_Term_Term_impl_compareTerms k l ()) Y:=by
 obtain⟨Y,q1,q2,q3⟩:=insSort_ev (l:=l) (by simp only [lenB];omega) hx
 refine⟨Y,q1,q2,Evt.eq (f:=fun k q=>_) ?_ (fun k q=>by rw [slices_SortStableFunc_Term_Term_impl_compareTerms])⟩
 refine Evt.bind (a:=Y) ?_ .pure
 refine Evt.eq (f:=fun k q=>_) ?_ (fun k q=>by rw [slices_stableCmpFunc_Term_impl_compareTerms])
 have hend:Evt (fun k n=>slices_stableCmpFunc_Term_impl_compareTerms_L62 k n Y (l.length:Int) () 20) (.inr (Y,())) :=
  Evt.step (fun k n=>slices_stableCmpFunc_Term_impl_compareTerms_L62.eq_2 k _ _ _ _ n) (Evt.cfalse (decide_eq_false (by omega)) .pure)
 by_cases h20:l.length=20
 ·have hl:(l.length:Int)=20:=by omega
  have h1:Evt (fun k n=>slices_stableCmpFunc_Term_impl_compareTerms_L28 k n l (l.length:Int) () 20 0 20) (.inr (Y,(l.length:Int),(),20,20,())):=by
   refine Evt.step (fun k n=>slices_stableCmpFunc_Term_impl_compareTerms_L28.eq_2 k _ _ _ _ _ _ n) (Evt.ctrue (decide_eq_true (by omega)) ?_)
   rw [hl]at q3 ⊢
   refine Evt.bind q3 ?_
   exact Evt.step (fun k n=>slices_stableCmpFunc_Term_impl_compareTerms_L28.eq_2 k _ _ _ _ _ _ n) (Evt.cfalse (by decide) .pure)
  refine Evt.inr (Evt.diag h1) (Evt.bind (a:=Y) ?_ (Evt.inr (Evt.diag hend) .pure))
  rw [hl]
  exact insNone_ev (m:=20) (by simp only [lenB];omega)
 ·have h1:Evt (fun k n=>slices_stableCmpFunc_Term_impl_compareTerms_L28 k n l (l.length:Int) () 20 0 20) (.inr (l,(l.length:Int),(),20,0,())) :=
   Evt.step (fun k n=>slices_stableCmpFunc_Term_impl_compareTerms_L28.eq_2 k _ _ _ _ _ _ n) (Evt.cfalse (decide_eq_false (by omega)) .pure)
  exact Evt.inr (Evt.diag h1) (Evt.bind q3 (Evt.inr (Evt.diag hend) .pure))

def mgR:Option Tm→List Tm→List Tm
 | none,[] => []
 | none,t::r=>mgR (some t) r
 | some q,[] => [q]
 | some q,t::r=>if lexI q t=0 then mgR (some (q.1+t.1,q.2)) r else q::mgR (some t) r
theorem mgR_len:∀(r:List Tm) (o:Option Tm),(mgR o r).length≤r.length+1
 | [],none=>by simp [mgR]
 | [],some q=>by simp [mgR]
 | t::r,none=>by have:=mgR_len r (some t);simp [mgR];omega
 | t::r,some q=>by
  unfold mgR
  split
  ·have:=mgR_len r (some (q.1+t.1,q.2));simp;omega
  ·have:=mgR_len r (some t);simp;omega

theorem merge_loop{xs:List Tm}(hb:xs.length≤20):∀(r dd d:List Tm) (q:Tm),dd++r=xs→d.length≤dd.length→(∀t∈r,-4000≤t.1∧t.1≤4000) → -1000000+4000*(r.length:Int)≤q.1→q.1≤1000000 - 4000*(r.length:Int) →
  Evt (fun k n=>impl_collect_L250 k n (d ++ [q]) xs (xs.length:Int) dd.length) (.inr (d++mgR (some q) r,())):=by
 intro r
 induction r with
 | nil =>
  intro dd d q h _ _ _ _
  refine Evt.step (fun k n=>impl_collect_L250.eq_2 k _ _ _ _ n) ?_
  rw [List.append_nil]at h
  subst h
  exact Evt.cfalse (by simp) .pure
 | cons t r ih =>
  intro dd d q h hd ht h1 h2
  have hl:=congrArg List.length h
  simp at hl
  have hq1:=ht t (by simp)
  simp only [List.length_cons]at h1 h2
  have hw:IntKind.wrap .i64 (((d ++ [q]).length:Int) - 1)=(d.length:Int):=by rw [w64 (by simp <;> omega) (by simp <;> omega)];simp
  have g1:(d ++ [q]).getD (Int.toNat (d.length:Int)) (0,0,0,0)=q:=mid_get
  have g2:xs.getD (Int.toNat (dd.length:Int)) (0,0,0,0)=t:=by rw [←h];exact mid_get
  have hstep:=fun(k n:Nat)=>impl_collect_L250.eq_2 k (d ++ [q]) xs (xs.length:Int) (dd.length:Int) n
  simp only [hw,g1,g2]at hstep
  refine Evt.step (fun k n=>hstep k n) ?_
  have c0:decide ((dd.length:Int)<(xs.length:Int))=true:=by rw [←h];exact mid_lt
  have c1:decide ((d.length:Int)<((d ++ [q]).length:Int))=true:=mid_lt
  have hnx:=len_next (d:=dd) (r:=r) (e:=t) (by rw [h];simp only [lenB];omega)
  refine Evt.ctrue c0 (Evt.ctrue mid_ge (Evt.ctrue c0 (Evt.ctrue (decide_eq_true (by simp)) (Evt.ctrue mid_ge (Evt.ctrue c1 (Evt.bind (compareTerms_ev q t) ?_))))))
  rw [hnx]
  unfold mgR
  by_cases hz:lexI q t=0
  ·rw [if_pos hz]
   have ih:=ih (dd ++ [t]) d (q.1+t.1,q.2) (by simpa using h) (by simp;omega) (fun u hu=>ht u (by simp [hu])) (by simp only;omega) (by simp only;omega)
   refine Evt.ctrue (by simp [hz]) (Evt.ctrue mid_ge (Evt.ctrue c1 (Evt.ctrue mid_ge (Evt.ctrue c1 ?_))))
   rw [mid_set,w64 (n:=q.1+t.1) (by omega) (by omega)]
   exact ih
  ·rw [if_neg hz]
   have ih:=ih (dd ++ [t]) (d ++ [q]) t (by simpa using h) (by simp;omega) (fun u hu=>ht u (by simp [hu])) (by omega) (by omega)
   refine Evt.cfalse (by simpa using hz) (Evt.ctrue (decide_eq_true (by simp;omega)) ?_)
   rw [List.append_assoc d [q] (mgR _ _)]at ih
   exact ih
theorem merge_ev{xs:List Tm}(hb:xs.length≤20)(ht:∀t∈xs,-4000≤t.1∧t.1≤4000):Evt (fun k n=>impl_collect_L250 k n [] xs (xs.length:Int) 0) (.inr (mgR none xs,())):=by
 cases xs with
 | nil=>exact Evt.step (fun k n=>impl_collect_L250.eq_2 k _ _ _ _ n) (Evt.cfalse (by decide) .pure)
 | cons t r =>
  have ht1:=ht t (by simp)
  simp at hb
  have hm:=merge_loop (xs:=t::r) (by simpa using hb) r [t] [] t rfl (by simp) (fun u hu=>ht u (by simp [hu])) (by omega) (by omega)
  refine Evt.step (fun k n=>impl_collect_L250.eq_2 k _ _ _ _ n) ?_
  refine Evt.ctrue (decide_eq_true (by simp <;> omega)) (Evt.ctrue (by decide) (Evt.ctrue (decide_eq_true (by simp <;> omega)) (Evt.cfalse (by decide) (Evt.ctrue (decide_eq_true (by simp)) ?_))))
  exact hm

def nzT(t:Tm):Bool := !(t.1==0)
theorem index_ev{l:List Tm}(hb:l.length<lenB):(l.all nzT=true→Evt (fun k _=>slices_IndexFunc_Term_Term_impl_collect_1 k l ()) (-1))∧(l.all nzT=false→∃A b r,l=A++b::r∧A.all nzT=true∧nzT b=false∧Evt (fun k _=>slices_IndexFunc_Term_Term_impl_collect_1 k l ()) (A.length:Int)):=by
 have key:∀(r d:List Tm),d++r=l→d.all nzT=true→(r.all nzT=true→Evt (fun k n=>slices_IndexFunc_Term_Term_impl_collect_1_L26 k n l () (l.length:Int) d.length) (.inr ())) ∧
   (r.all nzT=false→∃A b r',l=A++b::r'∧A.all nzT=true∧nzT b=false∧Evt (fun k n=>slices_IndexFunc_Term_Term_impl_collect_1_L26 k n l () (l.length:Int) d.length) (.inl (A.length:Int))):=by
  intro r
  induction r with
  | nil =>
   intro d h hd
   refine⟨fun _=>Evt.step (fun k n=>slices_IndexFunc_Term_Term_impl_collect_1_L26.eq_2 k _ _ _ _ n) ?_,fun h=>by simp at h⟩
   rw [List.append_nil]at h
   subst h
   exact Evt.cfalse (by simp) .pure
  | cons e r ih =>
   intro d h hd
   have hnx:=len_next (d:=d) (r:=r) (e:=e) (by rw [h];exact hb)
   have g:l.getD (Int.toNat (d.length:Int)) (0,0,0,0)=e:=by rw [←h];exact mid_get
   have c0:decide ((d.length:Int)<(l.length:Int))=true:=by rw [←h];exact mid_lt
   have hstep:=fun(k n:Nat)=>slices_IndexFunc_Term_Term_impl_collect_1_L26.eq_2 k l () (l.length:Int) (d.length:Int) n
   simp only [g,hnx]at hstep
   cases he:nzT e with
   | true =>
    obtain⟨i1,i2⟩:=ih (d ++ [e]) (by simpa using h) (by simp only [List.all_append,hd,Bool.true_and,List.all_cons,he,List.all_nil])
    have hz:(e.1==0)=false:=by unfold nzT at he;simpa using he
    have st:∀v,Evt (fun k n=>slices_IndexFunc_Term_Term_impl_collect_1_L26 k n l () (l.length:Int) (d ++ [e]).length) v→Evt (fun k n=>slices_IndexFunc_Term_Term_impl_collect_1_L26 k n l () (l.length:Int) d.length) v:=fun v hv =>
     Evt.step (fun k n=>hstep k n) (Evt.ctrue c0 (Evt.ctrue mid_ge (Evt.ctrue c0 (Evt.bind (.const (r:=false) (by unfold impl_collect_1;rw [hz])) hv))))
    refine⟨fun ha=>st _ (i1 (by simpa [he] using ha)),fun ha => ?_⟩
    obtain⟨A,b,r',e1,e2,e3,e4⟩:=i2 (by simpa [he] using ha)
    exact⟨A,b,r',e1,e2,e3,st _ e4⟩
   | false =>
    have hz:(e.1==0)=true:=by unfold nzT at he;simpa using he
    refine⟨fun ha=>by simp [he]at ha,fun _=>⟨d,e,r,h.symm,hd,he,?_⟩⟩
    exact Evt.step (fun k n=>hstep k n) (Evt.ctrue c0 (Evt.ctrue mid_ge (Evt.ctrue c0 (Evt.bind (.const (r:=true) (by unfold impl_collect_1;rw [hz])) .pure))))
 obtain⟨k1,k2⟩:=key l [] rfl rfl
 refine⟨fun h=>Evt.eq (f:=fun k q=>_) ?_ (fun k q=>by rw [slices_IndexFunc_Term_Term_impl_collect_1]),fun h => ?_⟩
 ·exact Evt.inr (Evt.diag (k1 h)) .pure
 ·obtain⟨A,b,r',e1,e2,e3,e4⟩:=k2 h
  refine⟨A,b,r',e1,e2,e3,Evt.eq (f:=fun k q=>_) ?_ (fun k q=>by rw [slices_IndexFunc_Term_Term_impl_collect_1])⟩
  exact Evt.inl (Evt.diag e4) .pure

theorem delete_loop:∀(r A:List Tm) (b:Tm) (B:List Tm),(A++b::B++r).length<lenB→∃X,X.length=(A++b::B++r).length∧X.take (A++r.filter nzT).length=A++r.filter nzT ∧
  Evt (fun k n=>slices_DeleteFunc_Term_Term_impl_collect_1_L122 k n (A++b::(B++r)) () A.length ((A++b::B).length:Int)) (.inr (X,((A++r.filter nzT).length:Int),())):=by
 intro r
 induction r with
 | nil =>
  intro A b B hb
  refine⟨A++b::B,by simp,by simp,Evt.step (fun k n=>slices_DeleteFunc_Term_Term_impl_collect_1_L122.eq_2 k _ _ _ _ n) ?_⟩
  simp only [List.append_nil,List.filter_nil]
  exact Evt.cfalse (by simp) .pure
 | cons e r ih =>
  intro A b B hb
  have g:(A++b::(B++e::r)).getD (Int.toNat ((A++b::B).length:Int)) (0,0,0,0)=e:=by
   have:A++b::(B++e::r)=(A++b::B)++e::r:=by simp
   rw [this]
   exact mid_get
  have c0:decide (((A++b::B).length:Int)<((A++b::(B++e::r)).length:Int))=true:=decide_eq_true (by simp;omega)
  have c1:decide ((A.length:Int)<((A++b::(B++e::r)).length:Int))=true:=mid_lt
  have hlt:(A++b::B).length<lenB:=by simp at hb ⊢; simp only [lenB]at hb ⊢; omega
  have hlA:A.length<lenB:=by simp at hb ⊢; simp only [lenB]at hb ⊢; omega
  have hn1:=w64_next hlt
  have hn2:=w64_next hlA
  have hstep:=fun(k n:Nat)=>slices_DeleteFunc_Term_Term_impl_collect_1_L122.eq_2 k (A++b::(B++e::r)) () (A.length:Int) ((A++b::B).length:Int) n
  simp only [g,hn1,hn2]at hstep
  cases he:nzT e with
  | true =>
   have hz:(e.1==0)=false:=by unfold nzT at he;simpa using he
   cases B with
   | nil =>
    obtain⟨X,x1,x2,x3⟩:=ih (A ++ [e]) e [] (by simpa using hb)
    refine⟨X,by rw [x1];simp,by simpa [he] using x2,Evt.step (fun k n=>hstep k n) ?_⟩
    refine Evt.ctrue c0 (Evt.ctrue mid_ge (Evt.ctrue c0 (Evt.bind (.const (r:=false) (by unfold impl_collect_1;rw [hz])) (Evt.ctrue rfl (Evt.ctrue mid_ge (Evt.ctrue c1 ?_))))))
    rw [mid_set]
    have e3:A ++ [e]++e::([]++r)=A++e::([]++e::r):=by simp
    rw [e3]at x3
    have e4:A ++ [e]++r.filter nzT=A++(e::r).filter nzT:=by simp [he]
    have l1:(A ++ [e]).length=A.length+1:=by simp
    have l2:(A ++ [e]++e :: []).length=(A++b :: []).length+1:=by simp
    rw [e4,l1,l2]at x3
    exact x3
   | cons b' B =>
    obtain⟨X,x1,x2,x3⟩:=ih (A ++ [e]) b' (B ++ [e]) (by simp at hb ⊢; simp only [lenB]at hb ⊢; omega)
    refine⟨X,by rw [x1];simp,by simpa [he] using x2,Evt.step (fun k n=>hstep k n) ?_⟩
    refine Evt.ctrue c0 (Evt.ctrue mid_ge (Evt.ctrue c0 (Evt.bind (.const (r:=false) (by unfold impl_collect_1;rw [hz])) (Evt.ctrue rfl (Evt.ctrue mid_ge (Evt.ctrue c1 ?_))))))
    rw [mid_set]
    have e4:A ++ [e]++r.filter nzT=A++(e::r).filter nzT:=by simp [he]
    have l1:(A ++ [e]).length=A.length+1:=by simp
    have l2:(A ++ [e]++b'::(B ++ [e])).length=(A++b::b'::B).length+1:=by simp;omega
    have e3:A ++ [e]++b'::(B ++ [e]++r)=A++e::(b'::B++e::r):=by simp
    rw [e4,l1,l2,e3]at x3
    exact x3
  | false =>
   have hz:(e.1==0)=true:=by unfold nzT at he;simpa using he
   obtain⟨X,x1,x2,x3⟩:=ih A b (B ++ [e]) (by simpa using hb)
   refine⟨X,by rw [x1];simp,by simpa [he] using x2,Evt.step (fun k n=>hstep k n) ?_⟩
   refine Evt.ctrue c0 (Evt.ctrue mid_ge (Evt.ctrue c0 (Evt.bind (.const (r:=true) (by unfold impl_collect_1;rw [hz])) (Evt.cfalse rfl ?_))))
   have e4:A++r.filter nzT=A++(e::r).filter nzT:=by simp [he]
   have l2:(A++b::(B ++ [e])).length=(A++b::B).length+1:=by simp;omega
   have e3:A++b::(B ++ [e]++r)=A++b::(B++e::r):=by simp
   rw [e4,l2,e3]at x3
   exact x3

theorem delete_ev{l:List Tm}(hb:l.length<lenB):Evt (fun k _=>slices_DeleteFunc_Term_Term_impl_collect_1 k l ()) (l.filter nzT):=by
 refine Evt.eq (f:=fun k q=>_) ?_ (fun k q=>by rw [slices_DeleteFunc_Term_Term_impl_collect_1])
 obtain⟨i1,i2⟩:=index_ev hb
 cases ha:l.all nzT with
 | true =>
  have:l.filter nzT=l:=List.filter_eq_self.2 (List.all_eq_true.1 ha)
  rw [this]
  exact Evt.bind (i1 ha) (Evt.ctrue rfl .pure)
 | false =>
  obtain⟨A,b,r,rfl,hA,hbz,hev⟩:=i2 ha
  obtain⟨X,x1,x2,x3⟩:=delete_loop r A b [] (by simpa using hb)
  have hlA:A.length<lenB:=by simp at hb ⊢; simp only [lenB]at hb ⊢; omega
  have hn2:=w64_next hlA
  have e1:(A++b::r).filter nzT=A++r.filter nzT:=by rw [List.filter_append,List.filter_eq_self.2 (List.all_eq_true.1 hA),List.filter_cons,hbz];rfl
  rw [e1]
  have hle:(A++r.filter nzT).length<X.length:=by
   rw [x1]
   have:=List.length_filter_le nzT r
   simp
   omega
  refine Evt.bind hev (Evt.cfalse (by simp) ?_)
  have hx3:Evt (fun k n=>slices_DeleteFunc_Term_Term_impl_collect_1_L122 k n (A++b::r) () (A.length:Int) (IntKind.wrap .i64 ((A.length:Int)+1))) (.inr (X,((A++r.filter nzT).length:Int),())):=by
   rw [hn2]
   simpa using x3
  refine Evt.inr (Evt.diag hx3) ?_
  dsimp only
  generalize A++r.filter nzT=F at hle x2
  have hn:Int.toNat (F.length:Int)=F.length:=Int.toNat_natCast _
  have e2:(X.take F.length++List.replicate (X.length - F.length) ((0,0,0,0):Tm)).take F.length=F:=by
   rw [List.take_append_of_le_length (by rw [List.length_take];omega),List.take_take,Nat.min_self,x2]
  rw [hn]
  refine Evt.ctrue mid_ge (Evt.ctrue (decide_eq_true (by omega)) (Evt.ctrue mid_ge (Evt.ctrue (decide_eq_true (by rw [List.length_append,List.length_take,List.length_replicate,Nat.min_eq_left (Nat.le_of_lt hle)];omega)) ?_)))
  rw [e2]
  exact .pure

theorem mgR_filter:∀(r:List Tm) (q:Tm),(∀t∈q::r,exOk t)→srt (q::r)→((q::r).filter nzT).Pairwise (fun a b=>keyT a<keyT b)→(mgR (some q) r).filter nzT=(q::r).filter nzT
 | [],q,_,_,_=>rfl
 | t::r,q,hx,hs,hp=>by
  have hq:=hx q (by simp)
  have ht:=hx t (by simp)
  obtain⟨s1,s2⟩:=List.pairwise_cons.1 hs
  obtain⟨s3,s4⟩:=List.pairwise_cons.1 s2
  unfold mgR
  by_cases hz:lexI q t=0
  ·rw [if_pos hz]
   have h2:=lexI_zero.1 hz
   have hk:keyT q=keyT t:=by unfold keyT;rw [h2]
   by_cases hq0:q.1=0
   ·have e1:((q.1+t.1,q.2):Tm)=t:=by rw [hq0,h2,Int.zero_add]
    have nq:nzT q=false:=by unfold nzT;simp [hq0]
    rw [e1,List.filter_cons (x:=q),nq]
    rw [List.filter_cons (x:=q),nq]at hp
    exact mgR_filter r t (fun u hu=>hx u (by simp at hu ⊢; exact .inr hu)) s2 hp
   ·by_cases ht0:t.1=0
    ·have e1:((q.1+t.1,q.2):Tm)=q:=by rw [ht0,Int.add_zero]
     have nq:nzT q=true:=by unfold nzT;simp [hq0]
     have nt:nzT t=false:=by unfold nzT;simp [ht0]
     rw [e1,mgR_filter r q (fun u hu=>hx u (by simp at hu ⊢; rcases hu with h | h <;> simp [h])) (List.pairwise_cons.2 ⟨fun u hu=>s1 u (by simp [hu]),s4⟩) (by
      rw [List.filter_cons,if_pos nq,List.filter_cons,nt]at hp
      rw [List.filter_cons,if_pos nq]
      exact hp)]
     rw [List.filter_cons,List.filter_cons (x:=q),List.filter_cons (x:=t),nt,nq]
     rfl
    ·exfalso
     have nq:nzT q=true:=by unfold nzT;simp [hq0]
     have nt:nzT t=true:=by unfold nzT;simp [ht0]
     rw [List.filter_cons,if_pos nq,List.filter_cons,if_pos nt]at hp
     have:=(List.pairwise_cons.1 hp).1 t (by simp)
     omega
  ·rw [if_neg hz]
   have h2:((t::r).filter nzT).Pairwise (fun a b=>keyT a<keyT b):=by
    rw [List.filter_cons]at hp
    split at hp
    ·exact(List.pairwise_cons.1 hp).2
    ·exact hp
   have ih:=mgR_filter r t (fun u hu=>hx u (by simp at hu ⊢; exact .inr hu)) s2 h2
   rw [List.filter_cons,List.filter_cons (x:=q),ih]

end Go.Ev.G

namespace Go.Ev.G
open Go Go.Ev
set_option maxRecDepth 100000

def prodD(a b:Int×Int):(Int×Int)×Bool:=mkD (a.1*b.1) (a.2.toNat+b.2.toNat)
end Go.Ev.G

namespace Go.Ev.G
open Go Go.Ev
set_option maxRecDepth 100000

section
variable {α β : Type}
def Flag(g:α→Option β)(z:β)(b0:Bool)(d:List α)(b:Bool)(o:List β):Prop :=
 o.length=d.length∧b=(b0&&d.all fun x=>(g x).isSome)∧(b=true→o=d.map fun x=>(g x).getD z)
theorem Flag.nil{g:α→Option β}{z:β}{b0:Bool}:Flag g z b0 [] b0 []:=⟨rfl,by simp,fun _=>rfl⟩
theorem Flag.step{g:α→Option β}{z:β}{b0 b:Bool}{d:List α}{o:List β}{e:α}{v:β}(h:Flag g z b0 d b o)(hv:b=true→(g e).isSome=true→g e=some v):Flag g z b0 (d ++ [e]) (b&&(g e).isSome) (o ++ [v]):=by
 obtain⟨h1,h2,h3⟩:=h
 refine⟨by simp [h1],?_,?_⟩
 ·rw [h2,List.all_append]
  simp only [List.all_cons,List.all_nil,Bool.and_true,Bool.and_assoc]
 ·intro hh
  rw [Bool.and_eq_true]at hh
  rw [List.map_append,h3 hh.1]
  simp only [List.map_cons,List.map_nil,hv hh.1 hh.2,Option.getD_some]
end

abbrev Pt:=List (Int×Int)
end Go.Ev.G

namespace Go.Ev
open Go

section
variable {α β : Type}
def Ev3{α:Type}(f:Nat→Nat→Nat→Option α)(r:α):Prop:=∃k0,∀k m n,k0≤k→k0≤m→k0≤n→f k m n=some r

theorem Ev3.of{f:Nat→Option α}{r:α}(h:Evt (fun k _=>f k) r):Ev3 (fun k _ _=>f k) r:=by
 obtain⟨k0,h⟩:=h
 exact⟨k0,fun k m n hk _ _=>h k k hk hk⟩
theorem Ev3.diag{f:Nat→Nat→Nat→Option α}{r:α}(h:Ev3 f r):Evt (fun k m=>f k m k) r:=by
 obtain⟨k0,h⟩:=h
 exact⟨k0,fun k m hk hm=>h k m k hk hm hk⟩
theorem Ev3.const{o:Option α}{r:α}(h:o=some r):Ev3 (fun _ _ _=>o) r:=⟨0,fun _ _ _ _ _ _=>h⟩
theorem Ev3.pure{r:α}:Ev3 (fun _ _ _=>some r) r:=⟨0,fun _ _ _ _ _ _=>rfl⟩
theorem Ev3.bind{f:Nat→Nat→Nat→Option α}{g:Nat→Nat→Nat→α→Option β}{a:α}{r:β}(h:Ev3 f a)(h':Ev3 (fun k m n=>g k m n a) r):Ev3 (fun k m n=>Option.bind (f k m n) fun x=>g k m n x) r:=by
 obtain⟨k0,h⟩:=h
 obtain⟨k1,h'⟩:=h'
 refine⟨max k0 k1,fun k m n hk hm hn => ?_⟩
 exact(congrArg (fun o=>Option.bind o fun x=>g k m n x) (h k m n (by omega) (by omega) (by omega))).trans (h' k m n (by omega) (by omega) (by omega))
theorem Ev3.inr{R P A:Type}{f:Nat→Nat→Nat→Option (R ⊕ P)}{G:Nat→Nat→Nat→R→Option A}{K:Nat→Nat→Nat→P→Option A}{y:P}{r:A}(h:Ev3 f (.inr y))(h':Ev3 (fun k m n=>K k m n y) r):Ev3 (fun k m n=>both (f k m n) (G k m n) (K k m n)) r:=by
 obtain⟨k0,h⟩:=h
 obtain⟨k1,h'⟩:=h'
 refine⟨max k0 k1,fun k m n hk hm hn => ?_⟩
 exact(congrArg (fun o=>both o (G k m n) (K k m n)) (h k m n (by omega) (by omega) (by omega))).trans (h' k m n (by omega) (by omega) (by omega))
theorem Ev3.inl{R P A:Type}{f:Nat→Nat→Nat→Option (R ⊕ P)}{G:Nat→Nat→Nat→R→Option A}{K:Nat→Nat→Nat→P→Option A}{q:R}{r:A}(h:Ev3 f (.inl q))(h':Ev3 (fun k m n=>G k m n q) r):Ev3 (fun k m n=>both (f k m n) (G k m n) (K k m n)) r:=by
 obtain⟨k0,h⟩:=h
 obtain⟨k1,h'⟩:=h'
 refine⟨max k0 k1,fun k m n hk hm hn => ?_⟩
 exact(congrArg (fun o=>both o (G k m n) (K k m n)) (h k m n (by omega) (by omega) (by omega))).trans (h' k m n (by omega) (by omega) (by omega))
theorem Ev3.ctrue{c:Bool}{f g:Nat→Nat→Nat→Option α}{r:α}(hc:c=true)(h:Ev3 f r):Ev3 (fun k m n=>bif c then f k m n else g k m n) r:=by subst hc;exact h
theorem Ev3.cfalse{c:Bool}{f g:Nat→Nat→Nat→Option α}{r:α}(hc:c=false)(h:Ev3 g r):Ev3 (fun k m n=>bif c then f k m n else g k m n) r:=by subst hc;exact h
theorem Ev3.step{L F:Nat→Nat→Nat→Option α}{r:α}(hL:∀k m n,L k m (n+1)=F k m n)(h:Ev3 F r):Ev3 L r:=by
 obtain⟨k0,h⟩:=h
 refine⟨k0+1,fun k m n hk hm hn => ?_⟩
 obtain⟨n,rfl⟩:∃n',n=n'+1:=⟨n - 1,by omega⟩
 rw [hL]
 exact h k m n (by omega) (by omega) (by omega)
end
end Go.Ev

namespace Go.Ev.G
open Go Go.Ev
set_option maxRecDepth 100000

def partV{α:Type}(m:List (List α))(i j:Nat):List (List α):=(m.eraseIdx i).map (·.eraseIdx j)
end Go.Ev.G

namespace Go.Ev.G
open Go Go.Ev
set_option maxRecDepth 100000

def ngD(c:Nat)(x:Int×Int):Int×Int:=if c % 2=1 then(-x.1,x.2)else x
def tmO(c:Nat)(a:Int×Int)(d:Option (Int×Int)):Option (Int×Int):=match d with
 | none=>none
 | some d=>if (prodD a d).2 then some (ngD c (prodD a d).1)else none
def detO:Nat→List Pt→Option (Int×Int)
 | 0,m=>some ((m.getD 0 []).getD 0 (0,0))
 | n+1,m =>
  let ts:=(List.range (n+2)).map fun c=>tmO c ((m.getD 0 []).getD c (0,0)) (detO n (partV m 0 c))
  if ts.all (·.isSome)then osum (0,0) (ts.map fun o=>o.getD (0,0))else none
def terms(n:Nat)(m:List Pt):List (Option (Int×Int)):=(List.range (n+2)).map fun c=>tmO c ((m.getD 0 []).getD c (0,0)) (detO n (partV m 0 c))
end Go.Ev.G

namespace Go.Ev.G
open Go Go.Ev
set_option maxRecDepth 100000

abbrev Iv:=(Int×Int)×Int×Int
def minD(a b:Int×Int):Int×Int:=if sv b<sv a then b else a
def maxD(a b:Int×Int):Int×Int:=if sv a<sv b then b else a
theorem minD_gd{a b:Int×Int}(ha:gd a)(hb:gd b):gd (minD a b):=by unfold minD;split;exact hb;exact ha
theorem maxD_gd{a b:Int×Int}(ha:gd a)(hb:gd b):gd (maxD a b):=by unfold maxD;split;exact hb;exact ha
theorem minD_sv(a b:Int×Int):sv (minD a b)=min (sv a) (sv b):=by unfold minD;split <;> omega
theorem maxD_sv(a b:Int×Int):sv (maxD a b)=max (sv a) (sv b):=by unfold maxD;split <;> omega
end Go.Ev.G

namespace Go.Ev.G
open Go Go.Ev
set_option maxRecDepth 100000

abbrev zI:Iv:=((0,0),0,0)
end Go.Ev.G

namespace Go.Ev.G
open Go Go.Ev
set_option maxRecDepth 100000

def pw(t:Tm)(j:Nat):Int:=if j=0 then t.2.1 else if j=1 then t.2.2.1 else t.2.2.2
def big(xs:List Tm)(j:Nat):Bool:=xs.any fun t=>decide (pw t j>0)
def needs(n:Nat)(xs:List Tm):Bool:=(decide (n≤0)&&big xs 0)||((decide (n≤1)&&big xs 1)||(decide (n≤2)&&big xs 2))

theorem poPower_eq(t:Tm)(j:Nat):spec_poPower t j=some (pw t j):=by
 unfold spec_poPower pw
 by_cases h:j=0
 ·subst h;rfl
 ·rw [if_neg h,show((j:Int)==0)=false by simp;omega,cond_false]
  by_cases h1:j=1
  ·subst h1;rfl
  ·rw [if_neg h1,show((j:Int)==1)=false by simp;omega,cond_false]

def degV(j:Nat):Int→List Tm→Int
 | m,[]=>m
 | m,t::r=>degV j (max m (pw t j)) r
theorem degV_pos(j:Nat):∀(xs:List Tm) (m:Int),decide (degV j m xs>0)=(decide (m>0)||big xs j)
 | [],m=>by simp [degV,big]
 | t::r,m=>by
  rw [degV,degV_pos j r]
  unfold big
  rw [List.any_cons,←Bool.or_assoc]
  congr 1
  rw [Bool.eq_iff_iff]
  simp only [Bool.or_eq_true,decide_eq_true_eq]
  omega

theorem degreeIn_ev{xs:List Tm}{j:Nat}(hb:xs.length<lenB):Evt (fun k _=>spec_poDegreeIn k xs j) (degV j (-1) xs):=by
 refine Evt.eq (f:=fun k q=>_) ?_ (fun k q=>by rw [spec_poDegreeIn])
 have key:∀(r d:List Tm) (m:Int),d++r=xs→Evt (fun k n=>spec_poDegreeIn_L58 k n j m xs (xs.length:Int) d.length) (.inr (degV j m r,())):=by
  intro r
  induction r with
  | nil =>
   intro d m h
   refine Evt.step (fun k n=>spec_poDegreeIn_L58.eq_2 k _ _ _ _ _ n) ?_
   rw [List.append_nil]at h
   subst h
   exact Evt.rng0 .pure
  | cons e r ih =>
   intro d m h
   refine Evt.step (fun k n=>spec_poDegreeIn_L58.eq_2 k _ _ _ _ _ n) ?_
   have ih:=ih (d ++ [e]) (max m (pw e j)) (by simpa using h)
   rw [←len_next (r:=r) (by rw [h];exact hb)]at ih
   subst h
   refine Evt.ctrue mid_lt (Evt.ctrue mid_ge (Evt.ctrue mid_lt ?_))
   rw [mid_get]
   exact Evt.bind (.const (poPower_eq _ _)) (Evt.bind (.const (most_eq _ _)) ih)
 have h0:=key xs [] (-1) rfl
 simp only [List.length_nil]at h0
 exact Evt.inr (Evt.diag h0) .pure

theorem system_inner{n:Nat}{xs:List Tm}(hb:xs.length<lenB)(x0 x6:List (List Tm))(x7 x8:Int) :
  Evt (fun k m=>spec_poSystem_L13518 k m x0 xs (n:Int) x6 x7 x8) (if needs n xs then .inl false else .inr (x0,x6,x7,x8,())):=by
 have l3:∀j:Nat,3≤j→Evt (fun k m=>spec_poSystem_L13518 k m x0 xs (j:Int) x6 x7 x8) (.inr (x0,x6,x7,x8,())):=by
  intro j hj
  exact Evt.step (fun k m=>spec_poSystem_L13518.eq_2 k _ _ _ _ _ _ m) (Evt.cfalse (decide_eq_false (by omega)) .pure)
 have st:∀(j:Nat) (b:Bool),j<3→Evt (fun k m=>spec_poSystem_L13518 k m x0 xs ((j+1:Nat):Int) x6 x7 x8) (if b then .inl false else .inr (x0,x6,x7,x8,()))→Evt (fun k m=>spec_poSystem_L13518 k m x0 xs (j:Int) x6 x7 x8) (if (big xs j||b)then .inl false else .inr (x0,x6,x7,x8,())):=by
  intro j b hj h
  refine Evt.step (fun k m=>spec_poSystem_L13518.eq_2 k _ _ _ _ _ _ m) (Evt.ctrue (decide_eq_true (by omega)) (Evt.bind (degreeIn_ev hb) ?_))
  rw [degV_pos]
  rw [w64_next (by simp only [lenB];omega)]
  cases big xs j with
  | true=>exact Evt.ctrue rfl .pure
  | false=>exact Evt.cfalse rfl (by simpa using h)
 have l2:=st 2 false (by omega) (by simpa using l3 3 (by omega))
 have l1:=st 1 _ (by omega) l2
 have l0:=st 0 _ (by omega) l1
 match n with
 | 0=>simpa [needs] using l0
 | 1=>simpa [needs] using l1
 | 2=>simpa [needs] using l2
 | m+3 =>
  have:=l3 (m+3) (by omega)
  have e:needs (m+3) xs=false:=by simp [needs]
  rw [e]
  exact this

def sysV(m:List (List Tm)):Bool:=(m.all fun xs=>polyV xs && !needs m.length xs)&&decide (1≤(m.length:Int)∧(m.length:Int)≤3)

theorem poSystem_ev{m:List (List Tm)}(hb:m.length<lenB)(hm:∀r∈m,r.length<lenB):Evt (fun k _=>spec_poSystem k m) (sysV m):=by
 refine Evt.eq (f:=fun k q=>_) ?_ (fun k q=>by rw [spec_poSystem])
 have key:∀(r d:List (List Tm)),d++r=m→Evt (fun k n=>spec_poSystem_L26 k n m m (m.length:Int) d.length) (if (r.all fun xs=>polyV xs && !needs m.length xs)then .inr (m,())else .inl false):=by
  intro r
  induction r with
  | nil =>
   intro d h
   refine Evt.step (fun k n=>spec_poSystem_L26.eq_2 k _ _ _ _ n) ?_
   rw [List.append_nil]at h
   subst h
   exact Evt.rng0 .pure
  | cons e r ih =>
   intro d h
   refine Evt.step (fun k n=>spec_poSystem_L26.eq_2 k _ _ _ _ n) ?_
   have he:=hm e (by rw [←h];simp)
   have ih:=ih (d ++ [e]) (by simpa using h)
   rw [←len_next (r:=r) (by rw [h];exact hb)]at ih
   have hi:=system_inner (n:=m.length) he m m (m.length:Int) (d.length:Int)
   subst h
   refine Evt.ctrue mid_lt (Evt.ctrue mid_ge (Evt.ctrue mid_lt ?_))
   rw [mid_get]
   refine Evt.bind (poGood_ev he) ?_
   cases hp:polyV e with
   | false=>simp only [List.all_cons,hp,Bool.false_and];exact Evt.ctrue rfl .pure
   | true =>
    refine Evt.cfalse rfl ?_
    cases hn:needs (d++e::r).length e with
    | true=>rw [hn]at hi;simp only [List.all_cons,hp,hn,Bool.not_true,Bool.and_false,Bool.false_and];exact Evt.inl (Evt.diag hi) .pure
    | false=>rw [hn]at hi;simp only [List.all_cons,hp,hn,Bool.not_false,Bool.true_and];exact Evt.inr (Evt.diag hi) ih
 have h0:=key m [] rfl
 simp only [List.length_nil]at h0
 unfold sysV
 cases hall:(m.all fun xs=>polyV xs && !needs m.length xs)with
 | true=>rw [hall]at h0;exact Evt.inr (Evt.diag h0) (Evt.bind (.const (l1In_eq _ _ _)) .pure)
 | false=>rw [hall]at h0;exact Evt.inl (Evt.diag h0) .pure

def needsT(n:Nat)(t:Tm):Bool:=(decide (n≤0)&&decide (t.2.1>0))||((decide (n≤1)&&decide (t.2.2.1>0))||(decide (n≤2)&&decide (t.2.2.2>0)))
theorem needs_any(n:Nat)(xs:List Tm):needs n xs=xs.any (needsT n):=by
 rw [Bool.eq_iff_iff]
 simp only [needs,big,Bool.or_eq_true,Bool.and_eq_true,decide_eq_true_eq,List.any_eq_true,needsT,pw]
 constructor
 ·rintro(⟨h,t,ht,hp⟩ | ⟨h,t,ht,hp⟩ | ⟨h,t,ht,hp⟩)
  ·exact⟨t,ht,.inl ⟨h,by simpa using hp⟩⟩
  ·exact⟨t,ht,.inr (.inl ⟨h,by simpa using hp⟩)⟩
  ·exact⟨t,ht,.inr (.inr ⟨h,by simpa using hp⟩)⟩
 ·rintro⟨t,ht,⟨h,hp⟩ | ⟨h,hp⟩ | ⟨h,hp⟩⟩
  ·exact .inl ⟨h,t,ht,by simpa using hp⟩
  ·exact .inr (.inl ⟨h,t,ht,by simpa using hp⟩)
  ·exact .inr (.inr ⟨h,t,ht,by simpa using hp⟩)

theorem needs_inner(n:Nat)(t:Tm)(x9:List Tm)(x10 x11:Int) :
  Evt (fun k m=>impl_needsAtMost_L6758 k m (n:Int) x9 x10 x11 t.2 0) (if needsT n t then .inl false else .inr ((n:Int),x9,x10,x11,())):=by
 have w1:IntKind.wrap .i64 (0+1)=1:=by decide
 have w2:IntKind.wrap .i64 (1+1)=2:=by decide
 have w3:IntKind.wrap .i64 (2+1)=3:=by decide
 have l3:Evt (fun k m=>impl_needsAtMost_L6758 k m (n:Int) x9 x10 x11 t.2 3) (.inr ((n:Int),x9,x10,x11,())) :=
  Evt.step (fun k m=>impl_needsAtMost_L6758.eq_2 k _ _ _ _ _ _ m) (Evt.cfalse rfl .pure)
 have l2:Evt (fun k m=>impl_needsAtMost_L6758 k m (n:Int) x9 x10 x11 t.2 2) (if (decide (n≤2)&&decide (t.2.2.2>0))then .inl false else .inr ((n:Int),x9,x10,x11,())):=by
  refine Evt.step (fun k m=>impl_needsAtMost_L6758.eq_2 k _ _ _ _ _ _ m) (Evt.ctrue rfl (Evt.cfalse rfl (Evt.cfalse rfl (Evt.ctrue rfl ?_))))
  rw [w3]
  by_cases h:n≤2
  ·refine Evt.ctrue (decide_eq_true (by omega)) ?_
   simp only [decide_eq_true h,Bool.true_and]
   cases decide (t.2.2.2>0)with
   | true=>exact Evt.ctrue rfl .pure
   | false=>exact Evt.cfalse rfl l3
  ·simp only [decide_eq_false h,Bool.false_and]
   exact Evt.cfalse (decide_eq_false (by omega)) l3
 have l1:Evt (fun k m=>impl_needsAtMost_L6758 k m (n:Int) x9 x10 x11 t.2 1) (if ((decide (n≤1)&&decide (t.2.2.1>0))||(decide (n≤2)&&decide (t.2.2.2>0)))then .inl false else .inr ((n:Int),x9,x10,x11,())):=by
  refine Evt.step (fun k m=>impl_needsAtMost_L6758.eq_2 k _ _ _ _ _ _ m) (Evt.ctrue rfl (Evt.cfalse rfl (Evt.ctrue rfl ?_)))
  rw [w2]
  by_cases h:n≤1
  ·refine Evt.ctrue (decide_eq_true (by omega)) ?_
   simp only [decide_eq_true h,Bool.true_and]
   cases decide (t.2.2.1>0)with
   | true=>exact Evt.ctrue rfl .pure
   | false=>exact Evt.cfalse rfl l2
  ·simp only [decide_eq_false h,Bool.false_and,Bool.false_or]
   exact Evt.cfalse (decide_eq_false (by omega)) l2
 refine Evt.step (fun k m=>impl_needsAtMost_L6758.eq_2 k _ _ _ _ _ _ m) (Evt.ctrue rfl (Evt.ctrue rfl ?_))
 rw [w1]
 unfold needsT
 by_cases h:n≤0
 ·refine Evt.ctrue (decide_eq_true (by omega)) ?_
  simp only [decide_eq_true h,Bool.true_and]
  cases decide (t.2.1>0)with
  | true=>exact Evt.ctrue rfl .pure
  | false=>exact Evt.cfalse rfl l1
 ·simp only [decide_eq_false h,Bool.false_and,Bool.false_or]
  exact Evt.cfalse (decide_eq_false (by omega)) l1

theorem needsAtMost_ev{xs:List Tm}{n:Nat}(hb:xs.length<lenB):Evt (fun k _=>impl_needsAtMost k xs n) (!needs n xs):=by
 refine Evt.eq (f:=fun k q=>_) ?_ (fun k q=>by rw [impl_needsAtMost])
 rw [needs_any]
 have key:∀(r d:List Tm),d++r=xs→Evt (fun k m=>impl_needsAtMost_L26 k m n xs (xs.length:Int) d.length) (if r.any (needsT n)then .inl false else .inr ()):=by
  intro r
  induction r with
  | nil =>
   intro d h
   refine Evt.step (fun k m=>impl_needsAtMost_L26.eq_2 k _ _ _ _ m) ?_
   rw [List.append_nil]at h
   subst h
   exact Evt.rng0 .pure
  | cons e r ih =>
   intro d h
   refine Evt.step (fun k m=>impl_needsAtMost_L26.eq_2 k _ _ _ _ m) ?_
   have ih:=ih (d ++ [e]) (by simpa using h)
   rw [←len_next (r:=r) (by rw [h];exact hb)]at ih
   have hi:=needs_inner n e xs (xs.length:Int) (d.length:Int)
   subst h
   refine Evt.ctrue mid_lt (Evt.ctrue mid_ge (Evt.ctrue mid_lt ?_))
   rw [mid_get]
   refine Evt.bind (.const rfl) ?_
   cases hn:needsT n e with
   | true=>rw [hn]at hi;simp only [List.any_cons,hn,Bool.true_or];exact Evt.inl (Evt.diag hi) .pure
   | false=>rw [hn]at hi;simp only [List.any_cons,hn,Bool.false_or];exact Evt.inr (Evt.diag hi) ih
 have h0:=key xs [] rfl
 simp only [List.length_nil]at h0
 cases hall:xs.any (needsT n)with
 | true=>rw [hall]at h0;exact Evt.inl (Evt.diag h0) .pure
 | false=>rw [hall]at h0;exact Evt.inr (Evt.diag h0) .pure

theorem isSystem_ev{m:List (List Tm)}(hb:m.length<lenB)(hm:∀r∈m,r.length<lenB):Evt (fun k _=>impl_isSystem k m) (sysV m):=by
 refine Evt.eq (f:=fun k q=>_) ?_ (fun k q=>by rw [impl_isSystem])
 have key:∀(r d:List (List Tm)),d++r=m→Evt (fun k n=>impl_isSystem_L26 k n m m (m.length:Int) d.length) (if (r.all fun xs=>polyV xs && !needs m.length xs)then .inr (m,())else .inl false):=by
  intro r
  induction r with
  | nil =>
   intro d h
   refine Evt.step (fun k n=>impl_isSystem_L26.eq_2 k _ _ _ _ n) ?_
   rw [List.append_nil]at h
   subst h
   exact Evt.rng0 .pure
  | cons e r ih =>
   intro d h
   refine Evt.step (fun k n=>impl_isSystem_L26.eq_2 k _ _ _ _ n) ?_
   have he:=hm e (by rw [←h];simp)
   have ih:=ih (d ++ [e]) (by simpa using h)
   rw [←len_next (r:=r) (by rw [h];exact hb)]at ih
   subst h
   refine Evt.ctrue mid_lt (Evt.ctrue mid_ge (Evt.ctrue mid_lt ?_))
   rw [mid_get]
   refine Evt.bind (isPoly_ev he) ?_
   cases hp:polyV e with
   | false=>simp only [List.all_cons,hp,Bool.false_and];exact Evt.ctrue rfl .pure
   | true =>
    refine Evt.cfalse rfl (Evt.bind (needsAtMost_ev he) ?_)
    cases hn:needs (d++e::r).length e with
    | true=>simp only [List.all_cons,hp,hn,Bool.not_true,Bool.and_false,Bool.false_and];exact Evt.ctrue rfl .pure
    | false=>simp only [List.all_cons,hp,hn,Bool.not_false,Bool.true_and];exact Evt.cfalse rfl ih
 have h0:=key m [] rfl
 simp only [List.length_nil]at h0
 unfold sysV
 cases hall:(m.all fun xs=>polyV xs && !needs m.length xs)with
 | true=>rw [hall]at h0;exact Evt.inr (Evt.diag h0) (Evt.bind (.const (inside_eq _ _ _)) .pure)
 | false=>rw [hall]at h0;exact Evt.inl (Evt.diag h0) .pure

end Go.Ev.G

namespace Go.Ev.G
open Go Go.Ev
set_option maxRecDepth 100000

def tmW(t:Tm):Prop:=(-10000≤t.1∧t.1≤10000)∧(0≤t.2.1∧t.2.1≤4)∧(0≤t.2.2.1∧t.2.2.1≤4)∧(0≤t.2.2.2∧t.2.2.2≤4)
def sgl(a:Int×Int):Iv:=(a,a)
theorem sgl_iv{a:Int×Int}(h:gd a):ivGd (sgl a):=⟨h,h,Int.le_refl _⟩
end Go.Ev.G

namespace Go.Ev.G
open Go Go.Ev
set_option maxRecDepth 100000

structure Sd(s:List (List Tm))(sides:List Iv):Prop where
 sd:∀i∈sides,ivGd i
 ln:sides.length≤3
 tm:∀p∈s,∀t∈p,tmW t
 lp:∀p∈s,p.length<lenB
abbrev Ed:=Int×(Int×Int)×(Int×Int)×Int×Int
def sidesE(e:Ed):List Iv:=if e.1=0 then [sgl e.2.1,(minD e.2.2.1 e.2.2.2,maxD e.2.2.1 e.2.2.2)]else [(minD e.2.2.1 e.2.2.2,maxD e.2.2.1 e.2.2.2),sgl e.2.1]
structure EdOk(e:Ed):Prop where
 sd:e.1=0∨e.1=1
 a:gd e.2.1
 f:gd e.2.2.1
 t:gd e.2.2.2
theorem along_iv{a b:Int×Int}(ha:gd a)(hb:gd b):ivGd (minD a b,maxD a b):=⟨minD_gd ha hb,maxD_gd ha hb,by simp only [minD_sv,maxD_sv];omega⟩
theorem EdOk.sides{e:Ed}(h:EdOk e):∀i∈sidesE e,ivGd i:=by
 intro i hi
 have q:=along_iv h.f h.t
 have r:=sgl_iv h.a
 unfold sidesE at hi
 split at hi <;> (simp only [List.mem_cons,List.not_mem_nil,or_false]at hi;rcases hi with rfl | rfl <;> assumption)
theorem EdOk.len(e:Ed):(sidesE e).length=2:=by unfold sidesE;split <;> rfl
theorem Sd.edge{s:List (List Tm)}(h1:∀p∈s,∀t∈p,tmW t)(h2:∀p∈s,p.length<lenB){e:Ed}(h:EdOk e):Sd s (sidesE e):=⟨h.sides,by rw [EdOk.len];omega,h1,h2⟩
end Go.Ev.G

namespace Go.Ev.G
open Go Go.Ev
set_option maxRecDepth 100000

def heldAnyL{γ:Type}(c:Nat)(k:Nat):Nat→List (List γ)→Int→Int→Option (Int ⊕ (Int×Unit))
 | 0,_,_,_=>none
 | n+1,x,a,i=>(bif (decide (i<(x.length:Int)))then(bif (decide (0≤i))then(bif (decide (i<(x.length:Int)))then(Option.bind (heldAny c k (x.getD (Int.toNat i) []) a) fun r=>bif (decide (r<0))then some (.inl (-1))else heldAnyL c k n x r (IntKind.wrap .i64 (i+1)))else none)else none)else some (.inr (a,())))
section
variable {V : Type}
end
structure Pl(s:List (List Tm)):Prop where
 ln:s.length=2
 tm:∀p∈s,∀t∈p,tmW t
 lp:∀p∈s,p.length<lenB
theorem Pl.sd{s:List (List Tm)}(h:Pl s){e:Ed}(he:EdOk e):Sd s (sidesE e):=Sd.edge h.tm h.lp he
end Go.Ev.G

namespace Go.Ev.G
open Go Go.Ev
set_option maxRecDepth 100000

theorem evt_100{α:Type}{f:Nat→Option α}{r:α}(h:∀k,f (k+100)=some r):Evt (fun k _=>f k) r:=⟨100,fun k n hk _=>by
 obtain⟨m,rfl⟩:∃m,k=m+100:=⟨k - 100,by omega⟩
 exact h m⟩
end Go.Ev.G

namespace Go.Ev.G
open Go Go.Ev
set_option maxRecDepth 100000

def kLt(a b:Tm):Prop:=keyT a<keyT b
def Sp(R l:List Tm):Prop:=R.Pairwise kLt∧R.Perm (l.filter nzT)
theorem Sp_uniq{R S l:List Tm}(h:Sp R l)(h':Sp S l):R=S:=by
 refine List.Perm.eq_of_pairwise (le:=kLt) ?_ h.1 h'.1 (h.2.trans h'.2.symm)
 intro a b _ _ h1 h2
 unfold kLt at h1 h2
 omega
theorem tmGd_ex{t:Tm}(h:tmGd t):exOk t:=⟨h.2.1,h.2.2.1,h.2.2.2.1⟩

theorem collect_to{l W:List Tm}(hb:l.length≤20)(hg:∀t∈l,tmGd t)(hd:l.Pairwise fun a b=>keyT a≠keyT b)(hW:Sp W l):Evt (fun k _=>impl_collect k l) W:=by
 have hx:∀t∈l,exOk t:=fun t ht=>tmGd_ex (hg t ht)
 obtain⟨Y,q1,q2,q3⟩:=stable_ev hb hx
 refine Evt.eq (f:=fun k q=>_) ?_ (fun k q=>by rw [impl_collect])
 have hcl:slices_Clone_Term_Term l=some l:=by
  unfold slices_Clone_Term_Term
  rw [decide_eq_true (by simp;omega)]
  rfl
 have hl:=q1.length_eq
 have hm:=merge_ev (xs:=Y) (by omega) (fun t ht=>by have:=(hg t (q1.mem_iff.1 ht)).1;omega)
 have hlen:(mgR none Y).length<lenB:=by
  have:=mgR_len Y none
  simp only [lenB];omega
 refine Evt.bind (.const hcl) (Evt.bind q3 (Evt.inr (Evt.diag hm) (Evt.bind (delete_ev hlen) ?_)))
 have hYd:Y.Pairwise fun a b=>keyT a≠keyT b:=q1.symm.pairwise hd (fun {a b} h h'=>h h'.symm)
 have hYs:Y.Pairwise kLt:=by
  refine(q2.and hYd).imp ?_
  intro a b h
  have h1:=h.1
  have h2:=h.2
  unfold kLt
  omega
 have hYf:(Y.filter nzT).Pairwise kLt:=hYs.filter _
 have hg:(mgR none Y).filter nzT=Y.filter nzT:=by
  cases Y with
  | nil=>rfl
  | cons t r=>exact mgR_filter r t (fun u hu=>hx u (q1.mem_iff.1 hu)) q2 hYf
 rw [hg,Sp_uniq (R:=Y.filter nzT) (S:=W) (l:=l) ⟨hYf,q1.filter _⟩ hW]
 exact .pure

theorem put_loop{t:Tm}{B:List Tm}(ht:tmGd t)(hB:∀b,B.head? = some b → ¬ keyT b<keyT t):∀(r d:List Tm),(d++r++B).length<lenB→(∀a∈d++r++B,tmGd a)→(∀a∈r,keyT a<keyT t) →
  Evt (fun k n=>spec_poPut_L28 k n (d++r++B) t d.length) (.inr (d++r++B,t,((d++r).length:Int),())):=by
 intro r
 induction r with
 | nil =>
  intro d hb hg hr
  rw [List.append_nil]at hb hg ⊢
  refine Evt.step (fun k n=>spec_poPut_L28.eq_2 k _ _ _ n) ?_
  cases B with
  | nil =>
   rw [List.append_nil]
   exact Evt.cfalse (decide_eq_false (by simp)) .pure
  | cons b B =>
   have h1:=hB b rfl
   have gb:=hg b (by simp)
   refine Evt.ctrue mid_lt (Evt.ctrue mid_ge (Evt.ctrue mid_lt ?_))
   rw [mid_get]
   have h2 : ¬ lexI b t<0:=fun h=>h1 ((lexI_lt (tmGd_ex gb) (tmGd_ex ht)).1 h)
   exact Evt.bind (.const (poOrder_eq gb ht)) (Evt.cfalse (decide_eq_false h2) .pure)
 | cons e r ih =>
  intro d hb hg hr
  have ih:=ih (d ++ [e]) (by simpa using hb) (by simpa using hg) (fun a ha=>hr a (by simp [ha]))
  have e0:d ++ [e]++r++B=d++e::(r++B):=by simp
  have e1:d++e::r++B=d++e::(r++B):=by simp
  rw [e0]at ih
  rw [e1]at hb hg ⊢
  rw [←len_next (r:=r++B) hb]at ih
  have e2:(d ++ [e]++r).length=(d++e::r).length:=by simp
  rw [e2]at ih
  have ge:=hg e (by simp)
  refine Evt.step (fun k n=>spec_poPut_L28.eq_2 k _ _ _ n) (Evt.ctrue mid_lt (Evt.ctrue mid_ge (Evt.ctrue mid_lt ?_)))
  rw [mid_get]
  have h2:lexI e t<0:=(lexI_lt (tmGd_ex ge) (tmGd_ex ht)).2 (hr e (by simp))
  exact Evt.bind (.const (poOrder_eq ge ht)) (Evt.ctrue (decide_eq_true h2) ih)
theorem split_at(t:Tm):∀(R:List Tm),R.Pairwise kLt→(∀r∈R,keyT r≠keyT t)→∃A B,R=A++B∧(∀a∈A,keyT a<keyT t)∧∀b∈B,keyT t<keyT b
 | [],_,_=>⟨[],[],rfl,by simp,by simp⟩
 | r::R,hs,hn=>by
  obtain⟨s1,s2⟩:=List.pairwise_cons.1 hs
  by_cases h:keyT r<keyT t
  ·obtain⟨A,B,e,a1,b1⟩:=split_at t R s2 (fun x hx=>hn x (by simp [hx]))
   refine⟨r::A,B,by rw [e];rfl,?_,b1⟩
   intro a ha
   rcases List.mem_cons.1 ha with rfl | ha
   ·exact h
   ·exact a1 a ha
  ·have h2:=hn r (by simp)
   refine⟨[],r::R,rfl,by simp,?_⟩
   intro b hb
   rcases List.mem_cons.1 hb with rfl | hb
   ·omega
   ·have:=s1 b hb
    unfold kLt at this
    omega
theorem poPut_ev{R l:List Tm}{t:Tm}(hR:Sp R l)(hb:R.length≤100)(hg:∀r∈l,tmGd r)(ht:tmGd t)(hz:t.1≠0)(hn:∀r∈l,keyT r≠keyT t):∃R',Evt (fun k _=>spec_poPut k R t) R'∧Sp R' (l ++ [t])∧R'.length=R.length+1:=by
 have hm:∀r∈R,r∈l:=fun r hr=>(List.mem_filter.1 (hR.2.mem_iff.1 hr)).1
 obtain⟨A,B,rfl,a1,b1⟩:=split_at t R hR.1 (fun r hr=>hn r (hm r hr))
 have hlen:(A++B).length<lenB:=by simp only [lenB];omega
 have hl:=put_loop (t:=t) (B:=B) ht (by
  intro b hb
  cases B with
  | nil=>cases hb
  | cons c B=>cases hb;have:=b1 b (by simp);omega) A [] (by simpa using hlen) (fun a ha=>hg a (hm a (by simpa using ha))) a1
 simp only [List.nil_append,List.length_nil]at hl
 have hal:A.length≤100:=by simp at hb;omega
 refine⟨A++t::B,Evt.eq (f:=fun k q=>_) ?_ (fun k q=>by rw [spec_poPut]),⟨?_,?_⟩,by simp;omega⟩
 ·refine Evt.inr (Evt.diag hl) ?_
  simp only
  refine Evt.ctrue mid_ge (Evt.ctrue (decide_eq_true (by simp <;> omega)) ?_)
  have e1:Int.toNat (A.length:Int)=A.length:=by omega
  have e2:Int.toNat ((A++B).length:Int)=(A++B).length:=by omega
  have e3:((A++B).take (A++B).length).drop A.length=B:=by rw [List.take_length];simp
  have e4:((A++B).take A.length).drop 0=A:=by simp
  refine Evt.inr (y:=(A++B,t,(A.length:Int),B,())) ?_ ?_
  ·rw [e1,e2,e3]
   cases B with
   | nil=>exact Evt.cfalse (decide_eq_false (by simp)) .pure
   | cons b B =>
    have gb:=hg b (hm b (by simp))
    have h2 : ¬ lexI b t=0:=fun h=>by
     have:=lexI_zero.1 h
     have h3:=b1 b (by simp)
     unfold keyT at h3
     rw [this]at h3
     omega
    have e5:(A++b::B).getD A.length (0,0,0,0)=b:=by simp
    rw [e5]
    refine Evt.ctrue mid_lt (Evt.ctrue mid_ge (Evt.ctrue mid_lt (Evt.bind (.const (poOrder_eq gb ht)) (Evt.cfalse (by simpa using h2) .pure))))
  ·simp only
   rw [e1,e4]
   refine Evt.ctrue mid_ge (Evt.ctrue (decide_eq_true (by simp <;> omega)) (Evt.ctrue (decide_eq_true (by simp;omega)) ?_))
   refine Evt.inr (y:=(B,A ++ [t],())) ?_ ?_
   ·exact Evt.ctrue (by simpa using hz) (Evt.ctrue (decide_eq_true (by simp;omega)) .pure)
   ·simp only
    have e6:A ++ [t]++B=A++t::B:=by simp
    rw [e6]
    exact Evt.ctrue (decide_eq_true (by simp at hb ⊢; omega)) .pure
 ·have hs:=List.pairwise_append.1 hR.1
  refine List.pairwise_append.2 ⟨hs.1,List.pairwise_cons.2 ⟨fun b hb=>b1 b hb,hs.2.1⟩,?_⟩
  intro a ha b hb
  rcases List.mem_cons.1 hb with rfl | hb
  ·exact a1 a ha
  ·exact hs.2.2 a ha b hb
 ·have hnz:nzT t=true:=by unfold nzT;simpa using hz
  rw [List.filter_append]
  have : [t].filter nzT = [t]:=by simp [hnz]
  rw [this]
  exact List.perm_middle.trans ((List.Perm.cons t hR.2).trans (List.perm_append_singleton t _).symm)
end Go.Ev.G

namespace Go.Ev.G
open Go Go.Ev
set_option maxRecDepth 100000

def rotN:Nat→Int×Int→Int×Int
 | 0,p=>p
 | m+1,p=>rotN m (-p.2,p.1)
def chN:Nat→Nat→Nat
 | _,0=>1
 | 0,_+1=>0
 | n+1,j+1=>chN n j+chN n (j+1)
def reT(n j:Nat)(c:Int×Int):Tm:=((rotN j (c.1*chN n j,c.2*chN n j)).1,((n - j:Nat):Int),(j:Int),0)
def imT(n j:Nat)(c:Int×Int):Tm:=((rotN j (c.1*chN n j,c.2*chN n j)).2,((n - j:Nat):Int),(j:Int),0)
theorem rotN_mul(w:Int):∀(m:Nat) (p:Int×Int),rotN m (p.1*w,p.2*w)=((rotN m p).1*w,(rotN m p).2*w)
 | 0,p=>rfl
 | m+1,p=>by
  have h:=rotN_mul w m (-p.2,p.1)
  simp only [rotN]
  rw [←h,Int.neg_mul]
theorem rotN_bd:∀(m:Nat) (p:Int×Int) (B:Nat),p.1.natAbs≤B→p.2.natAbs≤B→(rotN m p).1.natAbs≤B∧(rotN m p).2.natAbs≤B
 | 0,p,B,h1,h2=>⟨h1,h2⟩
 | m+1,p,B,h1,h2=>rotN_bd m (-p.2,p.1) B (by simpa using h2) h1
theorem nj_cases{n j:Nat}(hn:n≤4)(hj:j≤n){P:Nat→Nat→Prop}(h:∀a ∈ [(0,0),(1,0),(1,1),(2,0),(2,1),(2,2),(3,0),(3,1),(3,2),(3,3),(4,0),(4,1),(4,2),(4,3),(4,4)],P a.1 a.2):P n j:=by
 rcases(by omega:n=0∨n=1∨n=2∨n=3∨n=4)with rfl | rfl | rfl | rfl | rfl
 ·obtain rfl:j=0:=by omega
  exact h (0,0) (by simp)
 ·rcases(by omega:j=0∨j=1)with rfl | rfl
  ·exact h (1,0) (by simp)
  ·exact h (1,1) (by simp)
 ·rcases(by omega:j=0∨j=1∨j=2)with rfl | rfl | rfl
  ·exact h (2,0) (by simp)
  ·exact h (2,1) (by simp)
  ·exact h (2,2) (by simp)
 ·rcases(by omega:j=0∨j=1∨j=2∨j=3)with rfl | rfl | rfl | rfl
  ·exact h (3,0) (by simp)
  ·exact h (3,1) (by simp)
  ·exact h (3,2) (by simp)
  ·exact h (3,3) (by simp)
 ·rcases(by omega:j=0∨j=1∨j=2∨j=3∨j=4)with rfl | rfl | rfl | rfl | rfl
  ·exact h (4,0) (by simp)
  ·exact h (4,1) (by simp)
  ·exact h (4,2) (by simp)
  ·exact h (4,3) (by simp)
  ·exact h (4,4) (by simp)
theorem chN_bd{n j:Nat}(hn:n≤4)(hj:j≤n):1≤chN n j∧chN n j≤6:=nj_cases (P:=fun n j=>1≤chN n j∧chN n j≤6) hn hj (by decide)
theorem choose_ev{n j:Nat}(hn:n≤4)(hj:j≤n):Evt (fun k _=>impl_choose k (n:Int) (j:Int)) (chN n j:Int):=by
 refine evt_100 (fun k => ?_)
 refine nj_cases (P:=fun n j=>impl_choose (k+100) (n:Int) (j:Int)=some (chN n j:Int)) hn hj ?_
 simp only [List.mem_cons,List.not_mem_nil,or_false,forall_eq_or_imp,forall_eq]
 exact⟨by kernel_rfl,by kernel_rfl,by kernel_rfl,by kernel_rfl,by kernel_rfl,by kernel_rfl,by kernel_rfl,by kernel_rfl,by kernel_rfl,by kernel_rfl,by kernel_rfl,by kernel_rfl,by kernel_rfl,by kernel_rfl,by kernel_rfl⟩
theorem beChoose_ev{n j:Nat}(hn:n≤4)(hj:j≤n):Evt (fun k _=>spec_beChoose k (n:Int) (j:Int)) (chN n j:Int):=by
 refine evt_100 (fun k => ?_)
 refine nj_cases (P:=fun n j=>spec_beChoose (k+100) (n:Int) (j:Int)=some (chN n j:Int)) hn hj ?_
 simp only [List.mem_cons,List.not_mem_nil,or_false,forall_eq_or_imp,forall_eq]
 exact⟨by kernel_rfl,by kernel_rfl,by kernel_rfl,by kernel_rfl,by kernel_rfl,by kernel_rfl,by kernel_rfl,by kernel_rfl,by kernel_rfl,by kernel_rfl,by kernel_rfl,by kernel_rfl,by kernel_rfl,by kernel_rfl,by kernel_rfl⟩

structure Ok(n j:Nat)(l:List Tm):Prop where
 gd:∀t∈l,tmGd t
 er:∀t∈l,t.2.1+t.2.2.1<n∨(t.2.1+t.2.2.1=n∧t.2.2.1<j)
 z:∀t∈l,t.2.2.2=0
 pw:l.Pairwise fun a b=>keyT a≠keyT b
 len:2*l.length≤n*(n+1)+2*j
theorem Ok.key{n j:Nat}{l:List Tm}(h:Ok n j l)(hn:n≤4)(hj:j≤n){t:Tm}(ht:t.2=(((n - j:Nat):Int),(j:Int),0)):∀r∈l,keyT r≠keyT t:=by
 intro r hr
 have g:=h.gd r hr
 have e:=h.er r hr
 have z:=h.z r hr
 unfold keyT
 rw [ht,z]
 simp only
 obtain⟨_,g1,g2,_,_⟩:=g
 omega
theorem Ok.snoc{n j:Nat}{l:List Tm}(h:Ok n j l)(hn:n≤4)(hj:j≤n){t:Tm}(ht:t.2=(((n - j:Nat):Int),(j:Int),0))(hc:t.1.natAbs≤1000):tmGd t∧Ok n (j+1) (l ++ [t]):=by
 have e1:t.2.1=((n - j:Nat):Int):=by rw [ht]
 have e2:t.2.2.1=(j:Int):=by rw [ht]
 have e3:t.2.2.2=0:=by rw [ht]
 have g:tmGd t:=by
  refine⟨by omega,by omega,by omega,by omega,by omega⟩
 refine⟨g,⟨?_,?_,?_,?_,?_⟩⟩
 ·intro r hr
  rcases List.mem_append.1 hr with hr | hr
  ·exact h.gd r hr
  ·rw [List.mem_singleton.1 hr];exact g
 ·intro r hr
  rcases List.mem_append.1 hr with hr | hr
  ·have:=h.er r hr
   omega
  ·rw [List.mem_singleton.1 hr]
   omega
 ·intro r hr
  rcases List.mem_append.1 hr with hr | hr
  ·exact h.z r hr
  ·rw [List.mem_singleton.1 hr];exact e3
 ·refine List.pairwise_append.2 ⟨h.pw,List.pairwise_singleton _ _,?_⟩
  intro a ha b hb
  rw [List.mem_singleton.1 hb]
  exact h.key hn hj ht a ha
 ·have:=h.len
  rw [List.length_append,List.length_singleton]
  omega
theorem Ok.next{n:Nat}{l:List Tm}(h:Ok n (n+1) l):Ok (n+1) 0 l:=by
 refine⟨h.gd,fun t ht=>by have:=h.er t ht;omega,h.z,h.pw,?_⟩
 have:=h.len
 have e:(n+1)*(n+1+1)=n*(n+1)+2*(n+1):=by rw [Nat.mul_comm,Nat.add_mul,Nat.add_mul];omega
 omega
theorem Ok.nil:Ok 0 0 []:=⟨by simp,by simp,by simp,List.Pairwise.nil,by simp⟩

theorem rot_loop(x4 x5:List Tm)(x6:Int)(x7:List Int)(x8:Int)(x12:List (List Int))(x13 x14 x20 x21:Int){j:Nat}(hj:j≤4):∀(m i:Nat) (p:Int×Int),i+m=j→p.1.natAbs≤1000→p.2.natAbs≤1000 →
  Evt (fun k n=>impl_complexSystem_L15309210 k n x4 x5 x6 x7 x8 p.1 p.2 x12 x13 x14 x20 x21 (j:Int) (i:Int)) (.inr (x4,x5,x6,x7,x8,(rotN m p).1,(rotN m p).2,x12,x13,x14,x20,x21,())):=by
 intro m
 induction m with
 | zero =>
  intro i p h _ _
  refine Evt.step (fun k n=>impl_complexSystem_L15309210.eq_2 k _ _ _ _ _ _ _ _ _ _ _ _ _ _ n) ?_
  exact Evt.cfalse (decide_eq_false (by omega)) .pure
 | succ m ih =>
  intro i p h h1 h2
  have ih:=ih (i+1) (-p.2,p.1) (by omega) (by simpa using h2) h1
  refine Evt.step (fun k n=>impl_complexSystem_L15309210.eq_2 k _ _ _ _ _ _ _ _ _ _ _ _ _ _ n) ?_
  rw [w64_next (by simp only [lenB];omega),show(0:Int) - p.2 = -p.2 by omega,w64 (n := -p.2) (by omega) (by omega)]
  exact Evt.ctrue (decide_eq_true (by omega)) ih

def reR(n:Nat)(c:Int×Int)(j m:Nat):List Tm:=(List.range' j m).map fun i=>reT n i c
def imR'(n:Nat)(c:Int×Int)(j m:Nat):List Tm:=(List.range' j m).map fun i=>imT n i c
def cOk(c:Int×Int):Prop:=c.1.natAbs≤100∧c.2.natAbs≤100
theorem cMul{n j:Nat}{c:Int×Int}(hn:n≤4)(hj:j≤n)(hc:cOk c):(c.1*chN n j).natAbs≤600∧(c.2*chN n j).natAbs≤600:=by
 have h:=(chN_bd hn hj).2
 rw [Int.natAbs_mul,Int.natAbs_mul]
 exact⟨Nat.mul_le_mul hc.1 h,Nat.mul_le_mul hc.2 h⟩
theorem impl_inner{n0:Nat}(hn:n0≤4){a b:Int}(hc:cOk (a,b))(x12:List (List Int))(x13 x14:Int):∀(m j:Nat) (re im:List Tm),j+m=n0+1→re.length+m≤1000→im.length+m≤1000 →
  Evt (fun k n=>impl_complexSystem_L14950 k n re im (n0:Int) [a,b] x12 x13 x14 ((n0+1:Nat):Int) (j:Int)) (.inr (re++reR n0 (a,b) j m,im++imR' n0 (a,b) j m,x12,x13,x14,())):=by
 intro m
 induction m with
 | zero =>
  intro j re im h _ _
  refine Evt.step (fun k n=>impl_complexSystem_L14950.eq_2 k _ _ _ _ _ _ _ _ _ n) ?_
  simp only [reR,imR',List.range'_zero,List.map_nil,List.append_nil]
  exact Evt.cfalse (decide_eq_false (by omega)) .pure
 | succ m ih =>
  intro j re im h h1 h2
  have ih:=ih (j+1) (re ++ [reT n0 j (a,b)]) (im ++ [imT n0 j (a,b)]) (by omega) (by simp;omega) (by simp;omega)
  have e1:re ++ [reT n0 j (a,b)]++reR n0 (a,b) (j+1) m=re++reR n0 (a,b) j (m+1):=by simp [reR,List.range'_succ]
  have e2:im ++ [imT n0 j (a,b)]++imR' n0 (a,b) (j+1) m=im++imR' n0 (a,b) j (m+1):=by simp [imR',List.range'_succ]
  rw [e1,e2]at ih
  obtain⟨m1,m2⟩:=cMul (j:=j) hn (by omega) hc
  simp only at m1 m2
  have hr:=rot_loop re im (n0:Int) [a,b] (j:Int) x12 x13 x14 ((n0+1:Nat):Int) (j:Int) (j:=j) (by omega) j 0 (a*chN n0 j,b*chN n0 j) (by omega) (by simp only;omega) (by simp only;omega)
  simp only at hr
  have hch:=choose_ev (j:=j) hn (by omega)
  refine Evt.step (fun k n=>impl_complexSystem_L14950.eq_2 k _ _ _ _ _ _ _ _ _ n) ?_
  refine Evt.ctrue (decide_eq_true (by omega)) (Evt.ctrue (by simp) (Evt.bind hch (Evt.ctrue (by simp) (Evt.bind hch ?_))))
  have g0:([a,b]:List Int).getD 0 0=a:=rfl
  have g1:([a,b]:List Int).getD 1 0=b:=rfl
  rw [g0,g1,w64 (n:=a*chN n0 j) (by omega) (by omega),w64 (n:=b*chN n0 j) (by omega) (by omega)]
  refine Evt.inr (Evt.diag hr) ?_
  simp only
  have e3:(n0:Int) - (j:Int)=((n0 - j:Nat):Int):=by omega
  rw [e3,w64 (n:=((n0 - j:Nat):Int)) (by omega) (by omega),w64_next (by simp only [lenB];omega)]
  exact Evt.ctrue (decide_eq_true (by simp;omega)) (Evt.ctrue (decide_eq_true (by simp;omega)) ih)

def rowOk(r:List Int):Prop:=∃a b,r = [a,b]∧cOk (a,b)
def co(r:List Int):Int×Int:=(r.getD 0 0,r.getD 1 0)
def reL:Nat→List (List Int)→List Tm
 | _,[] => []
 | n,r::rs=>reR n (co r) 0 (n+1)++reL (n+1) rs
def imL:Nat→List (List Int)→List Tm
 | _,[] => []
 | n,r::rs=>imR' n (co r) 0 (n+1)++imL (n+1) rs
theorem impl_outer{a:List (List Int)}(hl:a.length≤5)(hr:∀r∈a,rowOk r):∀(r d:List (List Int)) (re im:List Tm),d++r=a→re.length≤10*d.length→im.length≤10*d.length →
  Evt (fun k n=>impl_complexSystem_L58 k n re im a (a.length:Int) d.length) (.inr (re++reL d.length r,im++imL d.length r,())):=by
 intro r
 induction r with
 | nil =>
  intro d re im hd _ _
  rw [List.append_nil]at hd
  subst hd
  refine Evt.step (fun k n=>impl_complexSystem_L58.eq_2 k _ _ _ _ _ n) ?_
  simp only [reL,imL,List.append_nil]
  exact Evt.cfalse (by simp) .pure
 | cons e r ih =>
  intro d re im hd h1 h2
  have hxl:=congrArg List.length hd
  simp at hxl
  obtain⟨p,q,rfl,hc⟩:=hr e (by rw [←hd];simp)
  have hi:=impl_inner (n0:=d.length) (by omega) hc a (a.length:Int) (d.length:Int) (d.length+1) 0 re im (by omega) (by omega) (by omega)
  have ih:=ih (d ++ [[p,q]]) (re++reR d.length (p,q) 0 (d.length+1)) (im++imR' d.length (p,q) 0 (d.length+1)) (by simpa using hd) (by simp [reR];omega) (by simp [imR'];omega)
  rw [←len_next (r:=r) (by rw [hd];simp only [lenB];omega)]at ih
  have ec:co [p,q]=(p,q):=rfl
  have e1:re++reR d.length (p,q) 0 (d.length+1)++reL (d ++ [[p,q]]).length r=re++reL d.length ([p,q]::r):=by simp [reL,ec]
  have e2:im++imR' d.length (p,q) 0 (d.length+1)++imL (d ++ [[p,q]]).length r=im++imL d.length ([p,q]::r):=by simp [imL,ec]
  rw [e1,e2]at ih
  have g:a.getD (Int.toNat (d.length:Int)) [] = [p,q]:=by rw [←hd];exact mid_get
  refine Evt.step (fun k n=>impl_complexSystem_L58.eq_2 k _ _ _ _ _ n) ?_
  rw [g,w64_next (m:=d.length) (by simp only [lenB];omega)]
  refine Evt.ctrue (decide_eq_true (by omega)) (Evt.ctrue mid_ge (Evt.ctrue (decide_eq_true (by omega)) (Evt.inr (Evt.diag hi) ?_)))
  exact ih
end Go.Ev.G

namespace Go.Ev.G
open Go Go.Ev
set_option maxRecDepth 100000

theorem put_step{n j:Nat}{R l:List Tm}{t:Tm}(hn:n≤4)(hj:j≤n)(h:Ok n j l)(hR:Sp R l)(hb:R.length≤100)(ht:t.2=(((n - j:Nat):Int),(j:Int),0))(hc:t.1.natAbs≤1000) :
  ∃R',Sp R' (l ++ [t])∧R'.length≤R.length+1∧(t.1≠0→Evt (fun k _=>spec_poPut k R t) R')∧(t.1=0→R'=R):=by
 by_cases hz:t.1=0
 ·refine⟨R,⟨hR.1,?_⟩,by omega,fun h=>absurd hz h,fun _=>rfl⟩
  have : [t].filter nzT = []:=by simp [nzT,hz]
  rw [List.filter_append,this,List.append_nil]
  exact hR.2
 ·obtain⟨R',e,s,hl⟩:=poPut_ev hR hb h.gd (h.snoc hn hj ht hc).1 hz (h.key hn hj ht)
  exact⟨R',s,by omega,fun _=>e,fun h=>absurd h hz⟩

theorem spec_inner{n0:Nat}(hn:n0≤4){a b:Int}(hc:cOk (a,b))(x13:List (List Int))(x14 x15:Int):∀(m j:Nat) (R I lr li:List Tm),j+m=n0+1→R.length+m≤100→I.length+m≤100→Ok n0 j lr→Ok n0 j li→Sp R lr→Sp I li →
  ∃R' I',Sp R' (lr++reR n0 (a,b) j m)∧Sp I' (li++imR' n0 (a,b) j m)∧R'.length≤R.length+m∧I'.length≤I.length+m∧Ok n0 (n0+1) (lr++reR n0 (a,b) j m)∧Ok n0 (n0+1) (li++imR' n0 (a,b) j m) ∧
   Evt (fun k n=>spec_dgParted_L14950 k n R I (n0:Int) [a,b] (j:Int) x13 x14 x15) (.inr (R',I',x13,x14,x15,())):=by
 intro m
 induction m with
 | zero =>
  intro j R I lr li h _ _ o1 o2 s1 s2
  have hj:j=n0+1:=by omega
  subst hj
  refine⟨R,I,by simpa [reR] using s1,by simpa [imR'] using s2,by omega,by omega,by simpa [reR] using o1,by simpa [imR'] using o2,?_⟩
  refine Evt.step (fun k n=>spec_dgParted_L14950.eq_2 k _ _ _ _ _ _ _ _ n) ?_
  exact Evt.cfalse (decide_eq_false (by omega)) .pure
 | succ m ih =>
  intro j R I lr li h h1 h2 o1 o2 s1 s2
  have hj:j≤n0:=by omega
  obtain⟨m1,m2⟩:=cMul (j:=j) hn hj hc
  simp only at m1 m2
  obtain⟨b1,b2⟩:=rotN_bd j (a*chN n0 j,b*chN n0 j) 600 m1 m2
  obtain⟨q1,q2⟩:=rotN_bd j (a,b) 100 hc.1 hc.2
  have hch:=chN_bd hn hj
  have er:(reT n0 j (a,b)).1=(rotN j (a,b)).1*chN n0 j:=by
   show(rotN j (a*chN n0 j,b*chN n0 j)).1=_
   rw [rotN_mul (chN n0 j:Int) j (a,b)]
  have ei:(imT n0 j (a,b)).1=(rotN j (a,b)).2*chN n0 j:=by
   show(rotN j (a*chN n0 j,b*chN n0 j)).2=_
   rw [rotN_mul (chN n0 j:Int) j (a,b)]
  have br:(reT n0 j (a,b)).1.natAbs≤1000:=by show(rotN j (a*chN n0 j,b*chN n0 j)).1.natAbs≤1000;omega
  have bi:(imT n0 j (a,b)).1.natAbs≤1000:=by show(rotN j (a*chN n0 j,b*chN n0 j)).2.natAbs≤1000;omega
  obtain⟨R',sR,lR,eR,zR⟩:=put_step hn hj o1 s1 (t:=reT n0 j (a,b)) (by omega) rfl br
  obtain⟨I',sI,lI,eI,zI⟩:=put_step hn hj o2 s2 (t:=imT n0 j (a,b)) (by omega) rfl bi
  have k1:=(o1.snoc hn hj (t:=reT n0 j (a,b)) rfl br).2
  have k2:=(o2.snoc hn hj (t:=imT n0 j (a,b)) rfl bi).2
  obtain⟨R2,I2,c1,c2,c3,c4,c5,c6,c7⟩:=ih (j+1) R' I' _ _ (by omega) (by omega) (by omega) k1 k2 sR sI
  have e1:lr ++ [reT n0 j (a,b)]++reR n0 (a,b) (j+1) m=lr++reR n0 (a,b) j (m+1):=by simp [reR,List.range'_succ]
  have e2:li ++ [imT n0 j (a,b)]++imR' n0 (a,b) (j+1) m=li++imR' n0 (a,b) j (m+1):=by simp [imR',List.range'_succ]
  rw [e1]at c1 c5
  rw [e2]at c2 c6
  refine⟨R2,I2,c1,c2,by omega,by omega,c5,c6,?_⟩
  have e3:(n0:Int) - (j:Int)=((n0 - j:Nat):Int):=by omega
  have ej:IntKind.wrap .i64 ((j:Int)+1)=((j+1:Nat):Int):=w64_next (by simp only [lenB];omega)
  have nz:∀x:Int,x*chN n0 j=0↔x=0:=fun x=>⟨fun h=>by
   rcases Int.mul_eq_zero.1 h with h | h
   ·exact h
   ·omega,fun h=>by rw [h,Int.zero_mul]⟩
  have wr:IntKind.wrap .i64 ((rotN j (a,b)).1*chN n0 j)=(reT n0 j (a,b)).1:=by rw [←er];exact w64 (by omega) (by omega)
  have wi:IntKind.wrap .i64 ((rotN j (a,b)).2*chN n0 j)=(imT n0 j (a,b)).1:=by rw [←ei];exact w64 (by omega) (by omega)
  refine Evt.step (fun k n=>spec_dgParted_L14950.eq_2 k _ _ _ _ _ _ _ _ n) ?_
  refine Evt.ctrue (decide_eq_true (by omega)) (Evt.bind (beChoose_ev hn hj) (Evt.ctrue (by simp) (Evt.ctrue (by simp) ?_)))
  refine Evt.inr (y:=(R,I,(n0:Int),[a,b],(j:Int),((chN n0 j:Int),((n0 - j:Nat):Int),(j:Int),0),(rotN j (a,b)).1,(rotN j (a,b)).2,x13,x14,x15,())) (Evt.const ?_) ?_
  ·have g0:([a,b]:List Int).getD 0 0=a:=rfl
   have g1:([a,b]:List Int).getD 1 0=b:=rfl
   have ha:=hc.1
   have hb:=hc.2
   simp only at ha hb
   rw [g0,g1,e3,w64 (n:=((n0 - j:Nat):Int)) (by omega) (by omega),w64 (n:=0 - a) (by omega) (by omega),w64 (n:=0 - b) (by omega) (by omega),show 0 - a = -a by omega,show 0 - b = -b by omega]
   rcases(by omega:j=0∨j=1∨j=2∨j=3∨j=4)with rfl | rfl | rfl | rfl | rfl
   ·rfl
   ·rfl
   ·rfl
   ·simp only [rotN,Int.neg_neg];rfl
   ·simp only [rotN,Int.neg_neg];rfl
  ·simp only
   refine Evt.inr (y:=(R',I,(n0:Int),[a,b],(j:Int),((chN n0 j:Int),((n0 - j:Nat):Int),(j:Int),0),(rotN j (a,b)).2,x13,x14,x15,())) ?_ ?_
   ·by_cases hx:(rotN j (a,b)).1=0
    ·have hz:=zR (by rw [er,hx,Int.zero_mul])
     rw [hz]
     exact Evt.cfalse (by simpa using hx) .pure
    ·refine Evt.ctrue (by simpa using hx) ?_
     rw [wr]
     exact Evt.bind (eR (by rw [er];exact fun h=>hx ((nz _).1 h))) .pure
   ·simp only
    rw [ej]
    by_cases hx:(rotN j (a,b)).2=0
    ·have hz:=zI (by rw [ei,hx,Int.zero_mul])
     rw [hz]at c7
     exact Evt.cfalse (by simpa using hx) c7
    ·refine Evt.ctrue (by simpa using hx) ?_
     rw [wi]
     exact Evt.bind (eI (by rw [ei];exact fun h=>hx ((nz _).1 h))) c7
theorem spec_outer{a:List (List Int)}(hl:a.length≤5)(hr:∀r∈a,rowOk r):∀(r d:List (List Int)) (R I lr li:List Tm),d++r=a→R.length≤10*d.length→I.length≤10*d.length→Ok d.length 0 lr→Ok d.length 0 li→Sp R lr→Sp I li →
  ∃R' I',Sp R' (lr++reL d.length r)∧Sp I' (li++imL d.length r)∧Ok a.length 0 (lr++reL d.length r)∧Ok a.length 0 (li++imL d.length r)∧R'.length≤50∧I'.length≤50 ∧
   Evt (fun k n=>spec_dgParted_L58 k n R I a (a.length:Int) d.length) (.inr (R',I',())):=by
 intro r
 induction r with
 | nil =>
  intro d R I lr li hd h1 h2 o1 o2 s1 s2
  rw [List.append_nil]at hd
  subst hd
  refine⟨R,I,by simpa [reL] using s1,by simpa [imL] using s2,by simpa [reL] using o1,by simpa [imL] using o2,by omega,by omega,?_⟩
  refine Evt.step (fun k n=>spec_dgParted_L58.eq_2 k _ _ _ _ _ n) ?_
  exact Evt.cfalse (by simp) .pure
 | cons e r ih =>
  intro d R I lr li hd h1 h2 o1 o2 s1 s2
  have hxl:=congrArg List.length hd
  simp at hxl
  obtain⟨p,q,rfl,hc⟩:=hr e (by rw [←hd];simp)
  obtain⟨R',I',c1,c2,c3,c4,c5,c6,c7⟩:=spec_inner (n0:=d.length) (by omega) hc a (a.length:Int) (d.length:Int) (d.length+1) 0 R I lr li (by omega) (by omega) (by omega) o1 o2 s1 s2
  have dl:(d ++ [[p,q]]).length=d.length+1:=by simp
  obtain⟨R2,I2,e1,e2,e3,e4,e5,e6,e7⟩:=ih (d ++ [[p,q]]) R' I' _ _ (by simpa using hd) (by omega) (by omega) (by rw [dl];exact c5.next) (by rw [dl];exact c6.next) c1 c2
  rw [←len_next (r:=r) (by rw [hd];simp only [lenB];omega)]at e7
  have ec:co [p,q]=(p,q):=rfl
  have f1:lr++reR d.length (p,q) 0 (d.length+1)++reL (d ++ [[p,q]]).length r=lr++reL d.length ([p,q]::r):=by simp [reL,ec]
  have f2:li++imR' d.length (p,q) 0 (d.length+1)++imL (d ++ [[p,q]]).length r=li++imL d.length ([p,q]::r):=by simp [imL,ec]
  rw [f1]at e1 e3
  rw [f2]at e2 e4
  refine⟨R2,I2,e1,e2,e3,e4,e5,e6,?_⟩
  have g:a.getD (Int.toNat (d.length:Int)) [] = [p,q]:=by rw [←hd];exact mid_get
  refine Evt.step (fun k n=>spec_dgParted_L58.eq_2 k _ _ _ _ _ n) ?_
  rw [g]
  exact Evt.ctrue (decide_eq_true (by omega)) (Evt.ctrue mid_ge (Evt.ctrue (decide_eq_true (by omega)) (Evt.inr (Evt.diag c7) e7)))

theorem parts_ev{a:List (List Int)}(hl:a.length≤5)(hr:∀r∈a,rowOk r):∃W,W.length=2∧(∀r∈W,r.length≤50)∧Evt (fun k _=>spec_dgParted k a) (W,sysV W)∧Evt (fun k _=>impl_complexSystem k a) (if sysV W then(W,true)else([],false)):=by
 obtain⟨R,I,s1,s2,o1,o2,l1,l2,hs⟩:=spec_outer hl hr a [] [] [] [] [] rfl (by simp) (by simp) Ok.nil Ok.nil ⟨List.Pairwise.nil,List.Perm.refl _⟩ ⟨List.Pairwise.nil,List.Perm.refl _⟩
 have hi:=impl_outer hl hr a [] [] [] rfl (by simp) (by simp)
 simp only [List.nil_append,List.length_nil]at s1 s2 o1 o2 hs hi
 have len:∀l,Ok a.length 0 l→l.length≤20:=by
  intro l h
  have:=h.len
  rcases(by omega:a.length=0∨a.length=1∨a.length=2∨a.length=3∨a.length=4∨a.length=5)with e | e | e | e | e | e <;> rw [e]at this <;> omega
 have c1:=collect_to (len _ o1) o1.gd o1.pw s1
 have c2:=collect_to (len _ o2) o2.gd o2.pw s2
 have hw:∀r ∈ [R,I],r.length<lenB:=by
  intro r hr
  simp only [List.mem_cons,List.not_mem_nil,or_false]at hr
  simp only [lenB]
  rcases hr with rfl | rfl <;> omega
 refine⟨[R,I],rfl,?_,Evt.eq (f:=fun k q=>_) ?_ (fun k q=>by rw [spec_dgParted]),Evt.eq (f:=fun k q=>_) ?_ (fun k q=>by rw [impl_complexSystem])⟩
 ·intro r hr
  simp only [List.mem_cons,List.not_mem_nil,or_false]at hr
  rcases hr with rfl | rfl <;> omega
 ·exact Evt.inr (Evt.diag hs) (Evt.bind (poSystem_ev (by simp [lenB]) hw) .pure)
 ·refine Evt.inr (Evt.diag hi) (Evt.bind c1 (Evt.bind c2 (Evt.bind (isSystem_ev (by simp [lenB]) hw) ?_)))
  cases sysV [R,I]with
  | true=>exact Evt.cfalse rfl .pure
  | false=>exact Evt.ctrue rfl .pure
end Go.Ev.G

namespace Go.Ev.G
open Go Go.Ev
set_option maxRecDepth 100000

def rowB(r:List Int):Bool:=decide (r.length=2)&&r.all fun x=>decide (-100≤x∧x≤100)
def lastB(a:List (List Int)):Bool := !((a.getD (a.length - 1) []).all fun x=>decide (0≤x∧x≤0))
def cxV(a:List (List Int)):Bool:=a.all rowB&&(decide (1≤(a.length:Int)∧(a.length:Int)≤5)&&lastB a)
theorem rowB_form{r:List Int}(h:rowB r=true):∃p q,r = [p,q]∧(-100≤p∧p≤100)∧(-100≤q∧q≤100):=by
 unfold rowB at h
 simp only [Bool.and_eq_true,decide_eq_true_eq,List.all_eq_true]at h
 match r,h.1 with
 | [p,q],_=>exact⟨p,q,rfl,h.2 p (by simp),h.2 q (by simp)⟩
theorem dgComplex_ev{a:List (List Int)}(hb:a.length<lenB)(hm:∀r∈a,r.length<lenB):Evt (fun k _=>spec_dgComplex k a) (cxV a):=by
 refine Evt.eq (f:=fun k q=>_) ?_ (fun k q=>by rw [spec_dgComplex])
 have key:∀(r d:List (List Int)),d++r=a→Evt (fun k n=>spec_dgComplex_L26 k n a a (a.length:Int) d.length) (if r.all rowB then .inr (a,())else .inl false):=by
  intro r
  induction r with
  | nil =>
   intro d hd
   rw [List.append_nil]at hd
   subst hd
   refine Evt.step (fun k n=>spec_dgComplex_L26.eq_2 k _ _ _ _ n) ?_
   exact Evt.cfalse (by simp) .pure
  | cons e r ih =>
   intro d hd
   have ih:=ih (d ++ [e]) (by simpa using hd)
   rw [←len_next (r:=r) (by rw [hd];exact hb)]at ih
   have hxl:=congrArg List.length hd
   simp at hxl
   have g:a.getD (Int.toNat (d.length:Int)) []=e:=by rw [←hd];exact mid_get
   have he:=hm e (by rw [←hd];simp)
   refine Evt.step (fun k n=>spec_dgComplex_L26.eq_2 k _ _ _ _ n) ?_
   rw [g]
   refine Evt.ctrue (decide_eq_true (by omega)) (Evt.ctrue mid_ge (Evt.ctrue (decide_eq_true (by omega)) ?_))
   by_cases h2:e.length=2
   ·refine Evt.cfalse (by rw [h2];rfl) (Evt.bind (l1All_ev he) ?_)
    have e1:rowB e=e.all fun x=>decide (-100≤x∧x≤100):=by unfold rowB;rw [decide_eq_true h2,Bool.true_and]
    rw [List.all_cons,e1]
    cases e.all fun x=>decide (-100≤x∧x≤100)with
    | false=>exact Evt.ctrue rfl .pure
    | true=>exact Evt.cfalse rfl ih
   ·have e1:rowB e=false:=by unfold rowB;rw [decide_eq_false h2,Bool.false_and]
    rw [List.all_cons,e1]
    exact Evt.ctrue (by rw [bne_iff_ne];omega) .pure
 have h0:=key a [] rfl
 unfold cxV
 cases ha:a.all rowB with
 | false =>
  rw [ha]at h0
  exact Evt.inl (Evt.diag h0) .pure
 | true =>
  rw [ha]at h0
  refine Evt.inr (Evt.diag h0) (Evt.bind (.const (l1In_eq _ _ _)) ?_)
  simp only [Bool.true_and]
  by_cases h1:1≤(a.length:Int)∧(a.length:Int)≤5
  ·rw [decide_eq_true h1]
   refine Evt.ctrue rfl ?_
   have e1:(a.length:Int) - 1=((a.length - 1:Nat):Int):=by omega
   rw [e1,w64 (n:=((a.length - 1:Nat):Int)) (by omega) (by omega),Int.toNat_natCast]
   refine Evt.ctrue mid_ge (Evt.ctrue (decide_eq_true (by omega)) (Evt.bind (l1All_ev ?_) .pure))
   refine hm _ ?_
   rw [List.getD_eq_getElem?_getD,List.getElem?_eq_getElem (by omega)]
   exact List.getElem_mem _
  ·rw [decide_eq_false h1]
   exact Evt.cfalse rfl .pure
theorem isComplex_ev{a:List (List Int)}(hb:a.length<lenB):Evt (fun k _=>impl_isComplex k a) (cxV a):=by
 refine Evt.eq (f:=fun k q=>_) ?_ (fun k q=>by rw [impl_isComplex])
 have key:∀(r d:List (List Int)),d++r=a→Evt (fun k n=>impl_isComplex_L26 k n a a (a.length:Int) d.length) (if r.all rowB then .inr (a,())else .inl false):=by
  intro r
  induction r with
  | nil =>
   intro d hd
   rw [List.append_nil]at hd
   subst hd
   refine Evt.step (fun k n=>impl_isComplex_L26.eq_2 k _ _ _ _ n) ?_
   exact Evt.cfalse (by simp) .pure
  | cons e r ih =>
   intro d hd
   have ih:=ih (d ++ [e]) (by simpa using hd)
   rw [←len_next (r:=r) (by rw [hd];exact hb)]at ih
   have hxl:=congrArg List.length hd
   simp at hxl
   have g:a.getD (Int.toNat (d.length:Int)) []=e:=by rw [←hd];exact mid_get
   refine Evt.step (fun k n=>impl_isComplex_L26.eq_2 k _ _ _ _ n) ?_
   rw [g]
   refine Evt.ctrue (decide_eq_true (by omega)) (Evt.ctrue mid_ge (Evt.ctrue (decide_eq_true (by omega)) ?_))
   by_cases h2:e.length=2
   ·match e,h2 with
    | [p,q],_ =>
     have g0:([p,q]:List Int).getD 0 0=p:=rfl
     have g1:([p,q]:List Int).getD 1 0=q:=rfl
     have e1:rowB [p,q]=(decide (-100≤p∧p≤100)&&decide (-100≤q∧q≤100)):=by simp [rowB]
     rw [List.all_cons,e1,g0,g1]
     refine Evt.cfalse rfl (Evt.ctrue (by simp) (Evt.bind (.const (inside_eq _ _ _)) ?_))
     cases decide (-100≤p∧p≤100)with
     | false=>exact Evt.ctrue rfl .pure
     | true =>
      refine Evt.cfalse rfl (Evt.ctrue (by simp) (Evt.bind (.const (inside_eq _ _ _)) ?_))
      cases decide (-100≤q∧q≤100)with
      | false=>exact Evt.ctrue rfl .pure
      | true=>exact Evt.cfalse rfl ih
   ·have e1:rowB e=false:=by unfold rowB;rw [decide_eq_false h2,Bool.false_and]
    rw [List.all_cons,e1]
    exact Evt.ctrue (by rw [bne_iff_ne];omega) .pure
 have h0:=key a [] rfl
 unfold cxV
 cases ha:a.all rowB with
 | false =>
  rw [ha]at h0
  exact Evt.inl (Evt.diag h0) .pure
 | true =>
  rw [ha]at h0
  refine Evt.inr (Evt.diag h0) (Evt.bind (.const (inside_eq _ _ _)) ?_)
  simp only [Bool.true_and]
  by_cases h1:1≤(a.length:Int)∧(a.length:Int)≤5
  ·rw [decide_eq_true h1]
   refine Evt.ctrue rfl ?_
   have e1:(a.length:Int) - 1=((a.length - 1:Nat):Int):=by omega
   have hmem:a.getD (a.length - 1) []∈a:=by
    rw [List.getD_eq_getElem?_getD,List.getElem?_eq_getElem (by omega)]
    exact List.getElem_mem _
   obtain⟨p,q,hp,_,_⟩:=rowB_form (List.all_eq_true.1 ha _ hmem)
   unfold lastB
   rw [e1,w64 (n:=((a.length - 1:Nat):Int)) (by omega) (by omega),Int.toNat_natCast,hp]
   have g0:([p,q]:List Int).getD 0 0=p:=rfl
   have g1:([p,q]:List Int).getD 1 0=q:=rfl
   rw [g0,g1]
   refine Evt.ctrue mid_ge (Evt.ctrue (decide_eq_true (by omega)) (Evt.ctrue (by simp) ?_))
   have e2:(!([p,q].all fun x=>decide (0≤x∧x≤0)))=(p != 0||q != 0):=by
    rw [Bool.eq_iff_iff]
    simp only [List.all_cons,List.all_nil,Bool.and_true,Bool.not_eq_true',Bool.and_eq_false_iff,decide_eq_false_iff_not,Bool.or_eq_true,bne_iff_ne]
    omega
   rw [Bool.true_and,e2]
   by_cases hz:p=0
   ·refine Evt.cfalse (by simp [hz]) (Evt.ctrue mid_ge (Evt.ctrue (decide_eq_true (by omega)) (Evt.ctrue (by simp) ?_)))
    rw [hz]
    exact .pure
   ·have e3:(p != 0)=true:=by simpa using hz
    rw [e3,Bool.true_or]
    exact Evt.ctrue rfl .pure
  ·rw [decide_eq_false h1]
   exact Evt.cfalse rfl .pure
theorem cxV_form{a:List (List Int)}(h:cxV a=true):a.length≤5∧∀r∈a,rowOk r:=by
 unfold cxV at h
 simp only [Bool.and_eq_true,decide_eq_true_eq,List.all_eq_true]at h
 refine⟨by omega,fun r hr => ?_⟩
 obtain⟨p,q,e,hp,hq⟩:=rowB_form (h.1 r hr)
 exact⟨p,q,e,by simp only [cOk];omega⟩
theorem cs_val(a:List (List Int)):∃v:List (List Tm)×Bool,(v.1.length≤2∧∀r∈v.1,r.length≤50)∧(a.length<lenB→(∀r∈a,r.length<lenB)→Evt (fun k _=>spec_ComplexSystem k a) v) ∧
  (a.length<lenB→Evt (fun k _=>impl_ComplexSystem k a) v)∧(cxV a=true→Evt (fun k _=>impl_complexSystem k a) v)∧(cxV a=false→v=([],false)):=by
 cases hv:cxV a with
 | false =>
  refine⟨([],false),⟨by simp,by simp⟩,fun hb hm=>Evt.eq (f:=fun k q=>_) ?_ (fun k q=>by rw [spec_ComplexSystem]),fun hb=>Evt.eq (f:=fun k q=>_) ?_ (fun k q=>by rw [impl_ComplexSystem]),(fun h=>by cases h),fun _=>rfl⟩
  ·have:=dgComplex_ev hb hm
   rw [hv]at this
   exact Evt.bind this (Evt.ctrue rfl .pure)
  ·have:=isComplex_ev hb
   rw [hv]at this
   exact Evt.bind this (Evt.ctrue rfl .pure)
 | true =>
  obtain⟨hl,hr⟩:=cxV_form hv
  obtain⟨W,w1,w2,hs,hi⟩:=parts_ev hl hr
  refine⟨if sysV W then(W,true)else([],false),?_,fun hb hm=>Evt.eq (f:=fun k q=>_) ?_ (fun k q=>by rw [spec_ComplexSystem]),fun hb=>Evt.eq (f:=fun k q=>_) ?_ (fun k q=>by rw [impl_ComplexSystem]),fun _=>hi,fun h=>by cases h⟩
  ·split
   ·exact⟨by simp [w1],w2⟩
   ·exact⟨by simp,by simp⟩
  ·have:=dgComplex_ev hb hm
   rw [hv]at this
   refine Evt.bind this (Evt.cfalse rfl (Evt.bind hs ?_))
   cases sysV W with
   | true=>exact Evt.cfalse rfl .pure
   | false=>exact Evt.ctrue rfl .pure
  ·have:=isComplex_ev hb
   rw [hv]at this
   exact Evt.bind this (Evt.cfalse rfl (Evt.bind hi .pure))

theorem szIntSS_ev{x:List (List Int)}(hx:x.length≤maxLen)(hm:∀y∈x,y.length≤maxLen){a:Nat}(ha:a≤1000000) :
  Evt (fun k _=>laws_szIntSS k x a) (if x.length+(x.map List.length).sum≤a then((a - (x.length+(x.map List.length).sum):Nat):Int)else -1) :=
 sz_all (sz:=laws_szIntS) (S:=laws_szIntSS_L122) (fun _ _=>rfl) (fun _ _ _ _ _=>rfl) (fun _ _ _=>rfl) hx hm ha
theorem toIntSS_ev{a:List (List Int)}{b:Bool}(ha:a.length≤1000000)(hm:∀x∈a,x.length≤1000000):Evt (fun k _=>laws_toIntSS k a b) (toV (fun x=>toV id fI x b) ([fI],[]) a b) :=
 to_all (dβ := []) (dγ:=([],[])) (F:=fun k x=>laws_toIntS k x b) (L1:=fun k n x0 x5 x6=>laws_toIntSS_L122 k n x0 b x5 x6) (L2:=laws_toIntSS_L250) room_eq (fun _ _ _ _ _=>rfl) (fun _ _ _ _ _=>rfl)
  (fun k=>by unfold laws_toIntSS;cases b <;> cases a <;> rfl) ha (fun x hx=>toIntS_ev (hm x hx))
theorem eqIntSS_ev{x:List (List Int)}(h:x.length<lenB)(hm:∀y∈x,y.length<lenB):Evt (fun k _=>laws_eqIntSS k x x) true :=
 eq_all (d0 := []) (Q:=fun k a b=>laws_eqIntS k a b) (L:=laws_eqIntSS_L58) (E:=laws_eqIntSS) (fun k n x0 x1 x5=>rfl) (fun _ _ _=>rfl) h (fun z hz=>eqIntS_ev (hm z hz))
theorem intactIntSS_ev{x:List (List Int×List Int)×List (List Int×List Int)}(hx:Room x)(hm:∀y∈x.1,Room y)(h2:∀y∈x.2,y.1.length<lenB):Evt (fun k _=>laws_intactIntSS k x x) true :=
 intact_rows (d0:=([],[])) (Q:=laws_intactIntS) (E:=laws_eqIntSS) (L:=laws_intactIntSS_L122) hx hm (fun _ _ _ _ _ _=>rfl) (fun _ _ _=>rfl) (fun y hy=>intactIntS_ev (hm y hy))
  (eqIntSS_ev (by have:=small hx;simp at this ⊢; omega) (by intro y hy;obtain⟨z,hz,rfl⟩:=List.mem_map.1 hy;exact h2 z hz))
theorem intactI_ev{a:List (List Int)}(h:Sized a):Evt (fun k _=>laws_intactIntSS k (toV (fun x=>toV id fI x false) ([fI],[]) a false) (toV (fun x=>toV id fI x false) ([fI],[]) a false)) true:=by
 refine intactIntSS_ev (room_toV h.len) ?_ ?_
 ·intro y hy
  simp [toV]at hy
  obtain⟨x,hx,rfl⟩:=hy
  exact⟨by simp,h.row x hx⟩
 ·intro y hy
  simp [toV]at hy
  rw [hy.2];simp [lenB]
theorem markTermS_ok:MarkOk laws_markTermS laws_heldTermS (fun x=>4*x.length) :=
 mark_all (M:=laws_markTermS_L26) (H:=laws_heldTermS_L26) (mv:=fun a=>((a:Int),((a+1:Nat):Int),((a+2:Nat):Int),((a+3:Nat):Int))) (by omega)
  (fun k n d r e a h1 h2=>by
   rw [laws_markTermS_L26]
   simp only [mid_lt,mid_ge,mid_get,mid_set,cond_true]
   rw [w64_next (m:=d.length) (by simp at h2;omega),w64_next (m:=a) (by omega),w64_next (m:=a+1) (by omega),w64_next (m:=a+2) (by omega),w64_next (m:=a+3) (by omega)])
  (fun k n d a=>by rw [laws_markTermS_L26,mid_end];rfl)
  (fun k n d r a h1 h2=>by
   rw [laws_heldTermS_L26]
   simp only [mid_lt,mid_ge,mid_get,cond_true]
   have e1:IntKind.wrap .i64 (((a+1:Nat):Int)+1)=((a+2:Nat):Int):=w64_next (m:=a+1) (by omega)
   have e2:IntKind.wrap .i64 (((a+2:Nat):Int)+1)=((a+3:Nat):Int):=w64_next (m:=a+2) (by omega)
   have e3:IntKind.wrap .i64 (((a+3:Nat):Int)+1)=((a+4:Nat):Int):=w64_next (m:=a+3) (by omega)
   rw [w64_next (m:=d.length) (by simp at h2;omega),w64_next (m:=a) (by omega),e1,e2,e3]
   simp only [bne_self_eq_false,cond_false])
  (fun k n d a=>by rw [laws_heldTermS_L26,mid_end];rfl)
  (fun _ _ _=>rfl) (fun _ _ _=>rfl)
theorem markTermSS_ev2{x:List (List Tm)}{a:Nat}(hx:x.length<lenB)(ha:a+(x.map fun r=>4*r.length).sum<lenB):∃y,Evt (fun k _=>laws_markTermSS k x a) (((a+(x.map fun r=>4*r.length).sum:Nat):Int),y)∧Evt (fun k _=>laws_heldTermSS k y a) ((a+(x.map fun r=>4*r.length).sum:Nat):Int) :=
 mark_rows_all (M:=laws_markTermSS_L26) (H:=laws_heldTermSS_L26) markTermS_ok (fun _ _ _ _ _=>rfl) (fun _ _ _ _ _=>rfl) (fun _ _ _=>rfl) (fun _ _ _=>rfl) hx ha
theorem markIntSS_ev{x:List (List Int)}{a:Nat}(hx:x.length<lenB)(ha:a+(x.map fun r=>1*r.length).sum<lenB):∃y,Evt (fun k _=>laws_markIntSS k x a) (((a+(x.map fun r=>1*r.length).sum:Nat):Int),y):=by
 obtain⟨y,h1,_⟩:=mark_rows_all (M:=laws_markIntSS_L26) (H:=heldAnyL 1) (marks:=laws_markIntSS) (helds:=fun k x a=>both (R:=Int) (P:=Int×Unit) (heldAnyL 1 k k x a 0) (fun q=>some q) (fun y=>some y.1)) markIntS_only (fun _ _ _ _ _=>rfl) (fun _ _ _ _ _=>rfl) (fun _ _ _=>rfl) (fun _ _ _=>rfl) hx ha
 exact⟨y,h1⟩
theorem sum_le{x:List (List Int)}:(x.map fun r=>1*r.length).sum=(x.map List.length).sum:=by
 congr 1
 exact List.map_congr_left (fun r _=>Nat.one_mul _)
theorem sum4_le:∀(x:List (List Tm)),(∀r∈x,r.length≤50)→(x.map fun r=>4*r.length).sum≤200*x.length
 | [],_=>by simp
 | r::x,h=>by
  have h1:=h r (by simp)
  have h2:=sum4_le x (fun r hr=>h r (by simp [hr]))
  simp only [List.map_cons,List.sum_cons,List.length_cons]
  omega
theorem complexSystem_law(a:List (List Int))(ha:a.length≤maxLen)(hm:∀x∈a,x.length≤maxLen):∃k,laws_FnExactComplexSystem k a=some true:=by
 refine Evt.get (Evt.eq (f:=fun k q=>_) ?_ (fun k q=>by rw [laws_FnExactComplexSystem]))
 refine Evt.bind (szIntSS_ev (a:=1000000) ha hm (by omega)) ?_
 by_cases hz:a.length+(a.map List.length).sum≤1000000
 ·rw [if_pos hz]
  have hs:Sized a:=hz
  refine Evt.cfalse (by simp <;> omega) ?_
  have hl:=hs.len
  have hr:∀r∈a,r.length<lenB:=fun r hr=>by have:=hs.row r hr;simp only [lenB];omega
  obtain⟨v,⟨v1,v2⟩,hS,hI,_,_⟩:=cs_val a
  have spec:=hS (by simp only [lenB];omega) hr
  have impl:=hI (by simp only [lenB];omega)
  have eqs:Evt (fun k _=>laws_eqTermSS k v.1 v.1) true:=eqTermSS_ev (by simp only [lenB];omega) (fun y hy=>by have:=v2 y hy;simp only [lenB];omega)
  have h4:=sum4_le v.1 v2
  obtain⟨y,hy1,hy2⟩:=markTermSS_ev2 (x:=v.1) (a:=101) (by simp only [lenB];omega) (by simp only [lenB];omega)
  obtain⟨z,hz1⟩:=markIntSS_ev (x:=a) (a:=101) (by simp only [lenB];omega) (by rw [sum_le];simp only [lenB];omega)
  refine Evt.bind (toIntSS_ev hs.len hs.row) ?_
  simp only [toV_rows]
  refine Evt.bind spec (Evt.bind (toIntSS_ev hs.len hs.row) ?_)
  simp only [toV_rows]
  refine Evt.bind impl (Evt.bind eqs (Evt.cfalse rfl (Evt.cfalse (by simp) (Evt.bind (toIntSS_ev hs.len hs.row) (Evt.bind (intactI_ev hs) (Evt.cfalse rfl (Evt.bind hz1 (Evt.cfalse (by simp <;> omega) ?_))))))))
  refine Evt.bind eqs (Evt.cfalse rfl (Evt.cfalse (by simp) (Evt.bind hy1 (Evt.bind hy2 (Evt.cfalse (by simp <;> omega) (Evt.cfalse (by simp) (Evt.bind (toIntSS_ev hs.len hs.row) ?_)))))))
  simp only [toV_rows]
  exact Evt.bind impl (Evt.bind eqs (Evt.cfalse rfl (Evt.cfalse (by simp) (Evt.bind hy2 (Evt.cfalse (by simp <;> omega) (Evt.cfalse (by simp) .pure))))))
 ·rw [if_neg hz]
  exact Evt.ctrue rfl .pure
theorem complexSystem_row(a:List (List Int))(h:WfT (.sl (.sl (.int .i64))) a):∃k,laws_FnExactComplexSystem k a=some true:=complexSystem_law a h.1 (fun x hx=>(h.2 x hx).1)

end Go.Ev.G

