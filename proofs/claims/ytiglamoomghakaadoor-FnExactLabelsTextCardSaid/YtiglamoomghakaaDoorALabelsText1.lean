/- What the plain functions of the law compute, for all inputs within the sizes that the theorems name. -/
import Derived.Test.YtiglamoomghakaaDoorPLabelsText1
import Derived.IntWalk
import Derived.Laws.Bits64
import Derived.KernelRfl
set_option linter.unusedVariables false
namespace Go.Ev
open Go

def Evt{α:Type}(f:Nat→Nat→Option α)(r:α):Prop:=∃k0,∀k n,k0≤k→k0≤n→f k n=some r

section
variable {α β γ δ : Type}

theorem Evt.const{o:Option α}{r:α}(h:o=some r):Evt (fun _ _=>o) r:=⟨0,fun _ _ _ _=>h⟩
theorem Evt.pure{r:α}:Evt (fun _ _=>some r) r:=⟨0,fun _ _ _ _=>rfl⟩
theorem Evt.bind{f:Nat→Nat→Option α}{g:Nat→Nat→α→Option β}{a:α}{r:β}(h:Evt f a)(h':Evt (fun k n=>g k n a) r):Evt (fun k n=>Option.bind (f k n) fun x=>g k n x) r:=by
 obtain⟨k1,h1⟩:=h
 obtain⟨k2,h2⟩:=h'
 refine⟨max k1 k2,fun k n hk hn => ?_⟩
 exact(congrArg (fun o=>Option.bind o fun x=>g k n x) (h1 k n (by omega) (by omega))).trans (h2 k n (by omega) (by omega))
theorem Evt.inr{R P A:Type}{f:Nat→Nat→Option (R ⊕ P)}{G:Nat→Nat→R→Option A}{K:Nat→Nat→P→Option A}{y:P}{r:A}(h:Evt f (.inr y))(h':Evt (fun k n=>K k n y) r):Evt (fun k n=>both (f k n) (G k n) (K k n)) r:=by
 obtain⟨k1,h1⟩:=h
 obtain⟨k2,h2⟩:=h'
 refine⟨max k1 k2,fun k n hk hn => ?_⟩
 exact(congrArg (fun o=>both o (G k n) (K k n)) (h1 k n (by omega) (by omega))).trans (h2 k n (by omega) (by omega))
theorem Evt.inl{R P A:Type}{f:Nat→Nat→Option (R ⊕ P)}{G:Nat→Nat→R→Option A}{K:Nat→Nat→P→Option A}{q:R}{r:A}(h:Evt f (.inl q))(h':Evt (fun k n=>G k n q) r):Evt (fun k n=>both (f k n) (G k n) (K k n)) r:=by
 obtain⟨k1,h1⟩:=h
 obtain⟨k2,h2⟩:=h'
 refine⟨max k1 k2,fun k n hk hn => ?_⟩
 exact(congrArg (fun o=>both o (G k n) (K k n)) (h1 k n (by omega) (by omega))).trans (h2 k n (by omega) (by omega))
theorem Evt.ctrue{c:Bool}{f g:Nat→Nat→Option α}{r:α}(hc:c=true)(h:Evt f r):Evt (fun k n=>bif c then f k n else g k n) r:=by subst hc;exact h
theorem Evt.cfalse{c:Bool}{f g:Nat→Nat→Option α}{r:α}(hc:c=false)(h:Evt g r):Evt (fun k n=>bif c then f k n else g k n) r:=by subst hc;exact h
theorem Evt.diag{f:Nat→Nat→Option α}{r:α}(h:Evt f r):Evt (fun k _=>f k k) r:=by
 obtain⟨k1,h1⟩:=h
 exact⟨k1,fun k n hk _=>h1 k k hk hk⟩
theorem Evt.step{L F:Nat→Nat→Option α}{r:α}(hL:∀k n,L k (n+1)=F k n)(h:Evt F r):Evt L r:=by
 obtain⟨k1,h1⟩:=h
 refine⟨k1+1,fun k n hk hn => ?_⟩
 obtain⟨m,rfl⟩:∃m,n=m+1:=⟨n - 1,by omega⟩
 rw [hL]
 exact h1 k m (by omega) (by omega)
theorem Evt.eq{f g:Nat→Nat→Option α}{r:α}(h:Evt f r)(e:∀k n,g k n=f k n):Evt g r:=by
 obtain⟨k1,h1⟩:=h
 exact⟨k1,fun k n hk hn=>by rw [e];exact h1 k n hk hn⟩
theorem Evt.get{f:Nat→Option α}{r:α}(h:Evt (fun k _=>f k) r):∃k,f k=some r:=by
 obtain⟨k1,h1⟩:=h
 exact⟨k1,h1 k1 k1 (Nat.le_refl _) (Nat.le_refl _)⟩
end

def lenB:Nat:=4611686018427387904
theorem w64{n:Int}(h0 : -9223372036854775808≤n)(h1:n≤9223372036854775807):IntKind.wrap .i64 n=n:=by rw [IntKind.wrap_i64];omega
theorem w64_next{m:Nat}(h:m<lenB):IntKind.wrap .i64 ((m:Int)+1)=((m+1:Nat):Int):=by
 simp only [lenB]at h
 rw [w64] <;> omega
section
variable {α : Type}
theorem mid_lt{d r:List α}{e:α}:decide ((d.length:Int)<((d++e::r).length:Int))=true:=by simp;omega
theorem mid_ge{m:Nat}:decide ((0:Int)≤(m:Int))=true:=by simp
theorem mid_get{d r:List α}{e z:α}:(d++e::r).getD (Int.toNat (d.length:Int)) z=e:=by simp
theorem mid_set{d r:List α}{e v:α}:(d++e::r).set (Int.toNat (d.length:Int)) v=d++v::r:=by simp
theorem mid_end{d:List α}:decide ((d.length:Int)<(d.length:Int))=false:=by simp
end
end Go.Ev

namespace Go.Ev
open Go

def roomN(n:Nat):Nat:=if n % 6=5 then 0 else if n % 3=0 then 1 else n

def toV{β γ:Type}(f:β→γ)(v:γ)(a:List β)(b:Bool):List γ×List γ:=if b=true∧a = []then([],[])else(a.map f,List.replicate (roomN a.length) v)

section
variable {β γ R : Type}

theorem to_loop{dβ:β}{L:Nat→Nat→List β→List γ→Int→Option (R ⊕ (List β×List γ×Unit))}{F:Nat→β→Option γ}{f:β→γ}
  (hL:∀k n x0 x5 x6,L k (n+1) x0 x5 x6=(bif (decide (x6<(x0.length:Int)))then(bif (decide (0≤x6))then(bif (decide (x6<(x0.length:Int)))then(Option.bind (F k (x0.getD (Int.toNat x6) dβ)) fun r3=>(bif (decide (0≤x6))then(bif (decide (x6<(x5.length:Int)))then(L k n x0 (x5.set (Int.toNat x6) r3) (IntKind.wrap .i64 (x6+1)))else none)else none))else none)else none)else some (Sum.inr (x0,x5,())))) :
  ∀(r d:List β) (d' r':List γ),d'.length=d.length→r.length≤r'.length→(d++r).length<lenB→(∀x∈r,Evt (fun k _=>F k x) (f x)) →
   Evt (fun k n=>L k n (d++r) (d'++r') d.length) (.inr (d++r,d'++r.map f++r'.drop r.length,()))
 | [],d,d',r',h1,h2,h3,h4=>by
  refine Evt.step (fun k n=>hL k n _ _ _) ?_
  simp only [List.append_nil,mid_end,List.map_nil,List.length_nil,List.drop_zero]
  exact Evt.cfalse rfl .pure
 | x::r,d,d',[],h1,h2,h3,h4=>by simp at h2
 | x::r,d,d',y::r',h1,h2,h3,h4=>by
  refine Evt.step (fun k n=>hL k n _ _ _) ?_
  refine Evt.ctrue mid_lt (Evt.ctrue mid_ge (Evt.ctrue mid_lt ?_))
  rw [mid_get]
  refine Evt.bind (h4 x (by simp)) (Evt.ctrue mid_ge (Evt.ctrue (by rw [←h1];exact mid_lt) ?_))
  rw [←h1,mid_set,w64_next (by simp at h3;omega),h1]
  have:=to_loop hL r (d ++ [x]) (d' ++ [f x]) r' (by simp [h1]) (by simpa using h2) (by simpa using h3) (fun z hz=>h4 z (by simp [hz]))
  simpa using this

theorem fill_loop{x0:β}{v:γ}{L:Nat→Nat→List γ→Int→Option (R ⊕ (β×List γ×Unit))}
  (hL:∀k n x5 x7,L k (n+1) x5 x7=(bif (decide (x7<(x5.length:Int)))then(bif (decide (0≤x7))then(bif (decide (x7<(x5.length:Int)))then(L k n (x5.set (Int.toNat x7) v) (IntKind.wrap .i64 (x7+1)))else none)else none)else some (Sum.inr (x0,x5,())))) :
  ∀(r d:List γ),(d++r).length<lenB→Evt (fun k n=>L k n (d++r) d.length) (.inr (x0,d++List.replicate r.length v,()))
 | [],d,h=>by
  refine Evt.step (fun k n=>hL k n _ _) ?_
  simp only [List.append_nil,mid_end,List.length_nil,List.replicate_zero]
  exact Evt.cfalse rfl .pure
 | x::r,d,h=>by
  refine Evt.step (fun k n=>hL k n _ _) ?_
  refine Evt.ctrue mid_lt (Evt.ctrue mid_ge (Evt.ctrue mid_lt ?_))
  rw [mid_set,w64_next (by simp at h;omega)]
  have:=fill_loop hL r (d ++ [v]) (by simpa using h)
  simpa [List.replicate_succ] using this

theorem to_all{dβ:β}{dγ v:γ}{T:Nat→Option (List γ×List γ)}{room:Int→Option Int}{F:Nat→β→Option γ}{f:β→γ}{a:List β}{b:Bool}
  {L1:Nat→Nat→List β→List γ→Int→Option ((List γ×List γ) ⊕ (List β×List γ×Unit))} {L2:Nat→Nat→List β→List γ→Int→Option ((List γ×List γ) ⊕ (List β×List γ×Unit))}
  (hroom:∀n:Nat,room n=some (roomN n:Int))
  (hL1:∀k n x0 x5 x6,L1 k (n+1) x0 x5 x6=(bif (decide (x6<(x0.length:Int)))then(bif (decide (0≤x6))then(bif (decide (x6<(x0.length:Int)))then(Option.bind (F k (x0.getD (Int.toNat x6) dβ)) fun r3=>(bif (decide (0≤x6))then(bif (decide (x6<(x5.length:Int)))then(L1 k n x0 (x5.set (Int.toNat x6) r3) (IntKind.wrap .i64 (x6+1)))else none)else none))else none)else none)else some (Sum.inr (x0,x5,()))))
  (hL2:∀k n x0 x5 x7,L2 k (n+1) x0 x5 x7=(bif (decide (x7<(x5.length:Int)))then(bif (decide (0≤x7))then(bif (decide (x7<(x5.length:Int)))then(L2 k n x0 (x5.set (Int.toNat x7) v) (IntKind.wrap .i64 (x7+1)))else none)else none)else some (Sum.inr (x0,x5,()))))
  (hT:∀k,T k=(bif b&&((a.length:Int)==0)then some ([],[])else(Option.bind (room (a.length:Int)) fun r2=>(bif (decide (0≤(IntKind.wrap .i64 ((a.length:Int)+r2))))then(bif (decide ((Int.toNat (IntKind.wrap .i64 ((a.length:Int)+r2)))<274877906944))then(both (R:=List γ×List γ) (P:=List β×List γ×Unit) (L1 k k a (List.replicate (Int.toNat (IntKind.wrap .i64 ((a.length:Int)+r2))) dγ) 0) (fun q5=>some q5) (fun y4=>(both (R:=List γ×List γ) (P:=List β×List γ×Unit) (L2 k k y4.1 y4.2.1 (y4.1.length:Int)) (fun q8=>some q8) (fun y7=>(bif (decide (0≤(y7.1.length:Int)))then(bif (decide ((y7.1.length:Int)≤(y7.2.1.length:Int)))then some ((y7.2.1.take (Int.toNat (y7.1.length:Int))),(y7.2.1.drop (Int.toNat (y7.1.length:Int))))else none)else none)))))else none)else none))))
  (ha:a.length≤1000000) (hF:∀x∈a,Evt (fun k _=>F k x) (f x)):Evt (fun k _=>T k) (toV f v a b):=by
 have hr:roomN a.length≤a.length+1:=by unfold roomN;split <;> (try split) <;> omega
 refine Evt.eq ?_ (fun k n=>hT k)
 by_cases hb:b=true∧a = []
 ·refine Evt.ctrue (by simp [hb.1,hb.2]) ?_
  rw [toV,if_pos hb]
  exact .pure
 ·refine Evt.cfalse ?_ ?_
  ·cases b with
   | false=>rfl
   | true =>
    have:a ≠ []:=fun h=>hb ⟨rfl,h⟩
    simp [this]
  rw [toV,if_neg hb]
  refine Evt.bind (.const (hroom _)) ?_
  have hw:IntKind.wrap .i64 ((a.length:Int)+(roomN a.length:Int))=((a.length+roomN a.length:Nat):Int):=by rw [w64] <;> omega
  rw [hw]
  refine Evt.ctrue mid_ge (Evt.ctrue (by simp <;> omega) ?_)
  have h1:=to_loop hL1 a [] [] (List.replicate (Int.toNat ((a.length+roomN a.length:Nat):Int)) dγ) rfl (by simp <;> omega) (by simp [lenB];omega) hF
  simp only [List.nil_append,List.length_nil]at h1
  refine Evt.inr (Evt.diag h1) ?_
  have h2:=fill_loop (x0:=a) (L:=fun k n=>L2 k n a) (fun k n x5 x7=>hL2 k n a x5 x7) (List.drop a.length (List.replicate (Int.toNat ((a.length+roomN a.length:Nat):Int)) dγ)) (a.map f) (by simp [lenB];omega)
  simp only [List.length_map]at h2
  refine Evt.inr (Evt.diag h2) ?_
  have e:(((a.length+roomN a.length:Nat):Int)).toNat=a.length+roomN a.length:=by omega
  rw [e]
  refine Evt.ctrue mid_ge (Evt.ctrue (by simp <;> omega) ?_)
  refine Evt.const ?_
  simp

theorem eq_loop{d0:γ}{Q:Nat→γ→γ→Option Bool}{L:Nat→Nat→List γ→List γ→Int→Option (Bool ⊕ Unit)}
  (hL:∀k n x0 x1 x5,L k (n+1) x0 x1 x5=(bif (decide (x5<(x0.length:Int)))then(bif (decide (0≤x5))then(bif (decide (x5<(x0.length:Int)))then(bif (decide (0≤x5))then(bif (decide (x5<(x1.length:Int)))then(Option.bind (Q k (x0.getD (Int.toNat x5) d0) (x1.getD (Int.toNat x5) d0)) fun r1=>(bif (!r1)then some (Sum.inl false)else(L k n x0 x1 (IntKind.wrap .i64 (x5+1)))))else none)else none)else none)else none)else some (Sum.inr ()))) :
  ∀(r d:List γ),(d++r).length<lenB→(∀x∈r,Evt (fun k _=>Q k x x) true)→Evt (fun k n=>L k n (d++r) (d++r) d.length) (.inr ())
 | [],d,h,_=>by
  refine Evt.step (fun k n=>hL k n _ _ _) ?_
  simp only [List.append_nil,mid_end]
  exact Evt.cfalse rfl .pure
 | x::r,d,h,hQ=>by
  refine Evt.step (fun k n=>hL k n _ _ _) ?_
  refine Evt.ctrue mid_lt (Evt.ctrue mid_ge (Evt.ctrue mid_lt (Evt.ctrue mid_ge (Evt.ctrue mid_lt ?_))))
  rw [mid_get]
  refine Evt.bind (hQ x (by simp)) (Evt.cfalse rfl ?_)
  rw [w64_next (by simp at h;omega)]
  have:=eq_loop hL r (d ++ [x]) (by simpa using h) (fun z hz=>hQ z (by simp [hz]))
  simpa using this

theorem eq_all{d0:γ}{Q:Nat→γ→γ→Option Bool}{L:Nat→Nat→List γ→List γ→Int→Option (Bool ⊕ Unit)}{E:Nat→List γ→List γ→Option Bool}
  (hL:∀k n x0 x1 x5,L k (n+1) x0 x1 x5=(bif (decide (x5<(x0.length:Int)))then(bif (decide (0≤x5))then(bif (decide (x5<(x0.length:Int)))then(bif (decide (0≤x5))then(bif (decide (x5<(x1.length:Int)))then(Option.bind (Q k (x0.getD (Int.toNat x5) d0) (x1.getD (Int.toNat x5) d0)) fun r1=>(bif (!r1)then some (Sum.inl false)else(L k n x0 x1 (IntKind.wrap .i64 (x5+1)))))else none)else none)else none)else none)else some (Sum.inr ())))
  (hE:∀k x0 x1,E k x0 x1=(bif ((x0.length:Int) != (x1.length:Int))then some false else(both (R:=Bool) (P:=Unit) (L k k x0 x1 0) (fun q3=>some q3) (fun _=>some true))))
  {x:List γ} (h:x.length<lenB) (hQ:∀z∈x,Evt (fun k _=>Q k z z) true):Evt (fun k _=>E k x x) true:=by
 refine Evt.eq ?_ (fun k n=>hE k x x)
 refine Evt.cfalse (by simp) ?_
 have:=eq_loop hL x [] (by simpa using h) hQ
 simp only [List.nil_append,List.length_nil]at this
 exact Evt.inr (Evt.diag this) .pure

end
end Go.Ev

namespace Go.Ev
open Go

section
variable {α β : Type}

theorem Evt.rng{d r:List α}{e z:α}{F:Nat→Nat→α→Option β}{G:Nat→Nat→Option β}{res:β}(h:Evt (fun k n=>F k n e) res) :
  Evt (fun k n=>bif (decide ((d.length:Int)<((d++e::r).length:Int)))then(bif (decide (0≤(d.length:Int)))then(bif (decide ((d.length:Int)<((d++e::r).length:Int)))then F k n ((d++e::r).getD (Int.toNat (d.length:Int)) z)else none)else none)else G k n) res:=by
 refine Evt.ctrue mid_lt (Evt.ctrue mid_ge (Evt.ctrue mid_lt ?_))
 rw [mid_get]
 exact h
theorem Evt.rng0{d:List α}{F G:Nat→Nat→Option β}{res:β}(h:Evt G res):Evt (fun k n=>bif (decide ((d.length:Int)<(d.length:Int)))then F k n else G k n) res:=Evt.cfalse mid_end h

theorem len_next{d r:List α}{e:α}(h:(d++e::r).length<lenB):IntKind.wrap .i64 ((d.length:Int)+1)=((d ++ [e]).length:Int):=by
 rw [w64_next (by simp at h;omega)];simp

theorem index_all{d0:α}{L:Nat→Nat→Int→Option (Int ⊕ Unit)}{xs:List α}{p:Nat→α→Option Bool}{P:α→Bool}(hp:∀x∈xs,Evt (fun k _=>p k x) (P x))
  (hL:∀k n i,L k (n+1) i=(bif (decide (i<(xs.length:Int)))then(bif (decide (0≤i))then(bif (decide (i<(xs.length:Int)))then(Option.bind (p k (xs.getD (Int.toNat i) d0)) fun r1=>(bif r1 then some (Sum.inl i)else L k n (IntKind.wrap .i64 (i+1))))else none)else none)else some (.inr ())))
  (hb:xs.length<lenB):Evt (fun k n=>L k n 0) (match xs.findIdx? P with | some j => .inl (j:Int) | none => .inr ()):=by
 have key:∀(r d:List α),d++r=xs→Evt (fun k n=>L k n d.length) (match r.findIdx? P with | some j => .inl ((d.length+j:Nat):Int) | none => .inr ()):=by
  intro r
  induction r with
  | nil =>
   intro d h
   rw [List.append_nil]at h
   refine Evt.step (fun k n=>hL k n _) ?_
   rw [←h]
   exact Evt.rng0 .pure
  | cons e r ih =>
   intro d h
   refine Evt.step (fun k n=>hL k n _) ?_
   rw [←h]
   refine Evt.rng (F:=fun k n x=>(Option.bind (p k x) fun r1=>(bif r1 then some (Sum.inl (d.length:Int))else L k n (IntKind.wrap .i64 ((d.length:Int)+1))))) ?_
   refine Evt.bind (hp e (by rw [←h];simp)) ?_
   rw [List.findIdx?_cons]
   cases hP:P e with
   | true=>exact Evt.ctrue rfl .pure
   | false =>
    refine Evt.cfalse rfl ?_
    rw [len_next (e:=e) (r:=r) (by rw [h];exact hb)]
    have:=ih (d ++ [e]) (by simpa using h)
    cases hr:r.findIdx? P with
    | none=>rw [hr]at this;simpa using this
    | some j =>
     rw [hr]at this
     have e2:(d ++ [e]).length+j=d.length+(j+1):=by simp;omega
     simp only [e2]at this
     exact this
 have:=key xs [] rfl
 simpa using this

end
end Go.Ev

namespace Go.Ev.G
open Go Go.Ev
set_option maxRecDepth 100000

theorem room_eq(n:Nat):laws_roomBehind n=some (roomN n:Int):=by
 unfold laws_roomBehind roomN
 have h6:Int.tmod (n:Int) 6=((n % 6:Nat):Int):=rfl
 have h3:Int.tmod (n:Int) 3=((n % 3:Nat):Int):=rfl
 rw [h6,h3]
 by_cases h:n % 6=5
 ·have e:((((n % 6:Nat):Int))==5)=true:=by rw [h];rfl
  rw [e,if_pos h];rfl
 ·have e:((((n % 6:Nat):Int))==5)=false:=by
   rw [beq_eq_false_iff_ne];omega
  rw [e,if_neg h]
  by_cases h':n % 3=0
  ·have e:((((n % 3:Nat):Int))==0)=true:=by rw [h'];rfl
   rw [e,if_pos h'];rfl
  ·have e:((((n % 3:Nat):Int))==0)=false:=by
    rw [beq_eq_false_iff_ne];omega
   rw [e,if_neg h'];rfl

theorem room_le(n:Nat):roomN n≤n+1:=by unfold roomN;split <;> (try split) <;> omega

def fI:Int := -7000000000000000101
theorem toIntS_ev{a:List Int}{b:Bool}(ha:a.length≤1000000):Evt (fun k _=>laws_toIntS k a b) (toV id fI a b) :=
 to_all (dβ:=0) (dγ:=0) (F:=fun _ x=>some x) (L1:=laws_toIntS_L122) (L2:=laws_toIntS_L250) room_eq (fun _ _ _ _ _=>rfl) (fun _ _ _ _ _=>rfl)
  (fun k=>by unfold laws_toIntS;cases b <;> cases a <;> rfl) ha (fun _ _ => .pure)

theorem eqIntS_ev{x:List Int}(h:x.length<lenB):Evt (fun k _=>laws_eqIntS k x x) true :=
 eq_all (d0:=0) (Q:=fun _ a b=>some (!(a != b))) (L:=laws_eqIntS_L58) (E:=laws_eqIntS) (fun k n x0 x1 x5=>by simp only [Option.bind_some,Bool.not_not];rfl) (fun _ _ _=>rfl) h (fun z _ => .const (by simp))
def Room{γ:Type}(x:List γ×List γ):Prop:=x.2.length=roomN x.1.length∧x.1.length≤1000000

theorem intact_all{γ:Type}{E:Nat→List γ→List γ→Option Bool}{I:Nat→(List γ×List γ)→(List γ×List γ)→Option Bool}{x:List γ×List γ}(hx:Room x)
  (hI:∀k a0 a1,I k a0 a1=(Option.bind (laws_roomBehind (a1.1.length:Int)) fun r1=>(bif ((a0.1.length:Int)==(a1.1.length:Int))then(bif (decide (0≤(IntKind.wrap .i64 ((a1.1.length:Int)+r1))))then(bif (decide ((IntKind.wrap .i64 ((a1.1.length:Int)+r1))≤((a0.1++a0.2).length:Int)))then(bif (decide (0≤(IntKind.wrap .i64 ((a1.1.length:Int)+r1))))then(bif (decide ((IntKind.wrap .i64 ((a1.1.length:Int)+r1))≤((a1.1++a1.2).length:Int)))then(Option.bind (E k (((a0.1++a0.2).take (Int.toNat (IntKind.wrap .i64 ((a1.1.length:Int)+r1)))).drop 0) (((a1.1++a1.2).take (Int.toNat (IntKind.wrap .i64 ((a1.1.length:Int)+r1)))).drop 0)) fun r2=>some r2)else none)else none)else none)else none)else some false)))
  (hE:Evt (fun k _=>E k (x.1++x.2) (x.1++x.2)) true):Evt (fun k _=>I k x x) true:=by
 have hr:=room_le x.1.length
 have h1:=hx.1
 have h2:=hx.2
 refine Evt.eq ?_ (fun k _=>hI k x x)
 refine Evt.bind (.const (room_eq _)) ?_
 have hw:IntKind.wrap .i64 ((x.1.length:Int)+(roomN x.1.length:Int))=(((x.1++x.2).length:Nat):Int):=by
  rw [List.length_append,h1,w64] <;> omega
 rw [hw]
 refine Evt.ctrue (by simp) (Evt.ctrue mid_ge (Evt.ctrue (by simp) (Evt.ctrue mid_ge (Evt.ctrue (by simp) ?_))))
 have e:(((x.1++x.2).length:Nat):Int).toNat=(x.1++x.2).length:=Int.toNat_natCast _
 rw [e,List.take_length,List.drop_zero]
 exact Evt.bind hE .pure

theorem small{γ:Type}{x:List γ×List γ}(hx:Room x):(x.1++x.2).length<lenB:=by
 have hr:=room_le x.1.length
 have h1:=hx.1
 have h2:=hx.2
 rw [List.length_append,h1]
 simp only [lenB]
 omega

theorem intactIntS_ev{x:List Int×List Int}(hx:Room x):Evt (fun k _=>laws_intactIntS k x x) true:=intact_all (E:=laws_eqIntS) hx (fun _ _ _=>rfl) (eqIntS_ev (small hx))
theorem room_toV{β γ:Type}{f:β→γ}{v:γ}{a:List β}(h:a.length≤1000000):Room (toV f v a false):=by
 refine⟨?_,?_⟩
 ·simp [toV]
 ·simp [toV];exact h

end Go.Ev.G

namespace Go.Ev.G
open Go Go.Ev
set_option maxRecDepth 100000

def gd(a:Int×Int):Prop:=0≤a.2∧a.2≤24 ∧ -1099511627776≤a.1∧a.1≤1099511627776∧(a.2=0∨a.1 % 2≠0)
instance (a:Int×Int):Decidable (gd a):=by unfold gd;infer_instance

theorem l1In_eq(n lo hi:Int):spec_l1In n lo hi=some (decide (lo≤n∧n≤hi)):=by
 unfold spec_l1In
 by_cases h:lo≤n
 ·have:decide (n≥lo)=true:=by simpa using h
  rw [this];simp [h]
 ·have:decide (n≥lo)=false:=by simpa using h
  rw [this];simp [h]
theorem inside_eq(n lo hi:Int):impl_inside n lo hi=some (decide (lo≤n∧n≤hi)):=l1In_eq n lo hi
end Go.Ev.G

namespace Go.Ev.G
open Go Go.Ev
set_option maxRecDepth 100000

def sv(a:Int×Int):Int:=a.1*2 ^ (24 - a.2.toNat)

end Go.Ev.G

namespace Go.Ev.G
open Go Go.Ev
set_option maxRecDepth 100000

theorem l1All_ev{xs:List Int}{lo hi:Int}(hb:xs.length<lenB):Evt (fun k _=>spec_l1All k xs lo hi) (xs.all fun x=>decide (lo≤x∧x≤hi)):=by
 refine Evt.eq (f:=fun k q=>_) ?_ (fun k q=>by rw [spec_l1All])
 have key:∀(r d:List Int),d++r=xs→Evt (fun k n=>spec_l1All_L26 k n lo hi xs (xs.length:Int) d.length) (if (r.all fun x=>decide (lo≤x∧x≤hi))then .inr ()else .inl false):=by
  intro r
  induction r with
  | nil =>
   intro d h
   refine Evt.step (fun k n=>spec_l1All_L26.eq_2 k _ _ _ _ _ n) ?_
   rw [List.append_nil]at h
   subst h
   exact Evt.rng0 .pure
  | cons e r ih =>
   intro d h
   refine Evt.step (fun k n=>spec_l1All_L26.eq_2 k _ _ _ _ _ n) ?_
   have ih:=ih (d ++ [e]) (by simpa using h)
   rw [←len_next (r:=r) (by rw [h];exact hb)]at ih
   subst h
   refine Evt.rng (F:=fun k n x=>(Option.bind (spec_l1In x lo hi) fun r1=>(bif (!r1)then some (Sum.inl false)else(spec_l1All_L26 k n lo hi (d++e::r) ((d++e::r).length:Int) (IntKind.wrap .i64 ((d.length:Int)+1)))))) ?_
   refine Evt.bind (.const (l1In_eq _ _ _)) ?_
   by_cases h1:lo≤e∧e≤hi
   ·refine Evt.cfalse (by simp [h1]) ?_
    simp only [List.all_cons,h1,and_self,decide_true,Bool.true_and]
    exact ih
   ·refine Evt.ctrue (by rw [decide_eq_false h1];rfl) ?_
    simp only [List.all_cons,decide_eq_false h1,Bool.false_and]
    exact .pure
 have h0:=key xs [] rfl
 simp only [List.length_nil]at h0
 cases hall:(xs.all fun x=>decide (lo≤x∧x≤hi))with
 | true=>rw [hall]at h0;exact Evt.inr (Evt.diag h0) .pure
 | false=>rw [hall]at h0;exact Evt.inl (Evt.diag h0) .pure

end Go.Ev.G

namespace Go.Ev.G
open Go Go.Ev
set_option maxRecDepth 100000

theorem toV_fst{γ:Type}{v:γ}{a:List γ}{b:Bool}:(toV id v a b).1=a:=by
 unfold toV
 split
 ·rename_i h;exact h.2.symm
 ·simp
def Sized{γ:Type}(a:List (List γ)):Prop:=a.length+(a.map List.length).sum≤1000000

theorem Sized.len{γ:Type}{a:List (List γ)}(h:Sized a):a.length≤1000000:=by unfold Sized at h;omega
end Go.Ev.G

namespace Go.Ev.G
open Go Go.Ev
set_option maxRecDepth 100000

def ivGd(x:(Int×Int)×Int×Int):Prop:=gd x.1∧gd x.2∧sv x.1≤sv x.2
instance:DecidablePred ivGd:=fun x=>by unfold ivGd;exact inferInstance
end Go.Ev.G

namespace Go.Ev.G
open Go Go.Ev
set_option maxRecDepth 100000

section
variable {α β : Type}
def Flag(g:α→Option β)(z:β)(b0:Bool)(d:List α)(b:Bool)(o:List β):Prop :=
 o.length=d.length∧b=(b0&&d.all fun x=>(g x).isSome)∧(b=true→o=d.map fun x=>(g x).getD z)
theorem Flag.nil{g:α→Option β}{z:β}{b0:Bool}:Flag g z b0 [] b0 []:=⟨rfl,by simp,fun _=>rfl⟩
theorem Flag.step{g:α→Option β}{z:β}{b0 b:Bool}{d:List α}{o:List β}{e:α}{v:β}(h:Flag g z b0 d b o)(hv:b=true→(g e).isSome=true→g e=some v):Flag g z b0 (d ++ [e]) (b&&(g e).isSome) (o ++ [v]):=by
 obtain⟨h1,h2,h3⟩:=h
 refine⟨by simp [h1],?_,?_⟩
 ·rw [h2,List.all_append]
  simp only [List.all_cons,List.all_nil,Bool.and_true,Bool.and_assoc]
 ·intro hh
  rw [Bool.and_eq_true]at hh
  rw [List.map_append,h3 hh.1]
  simp only [List.map_cons,List.map_nil,hv hh.1 hh.2,Option.getD_some]
end

end Go.Ev.G

namespace Go.Ev
open Go

section
variable {α β : Type}
def Ev3{α:Type}(f:Nat→Nat→Nat→Option α)(r:α):Prop:=∃k0,∀k m n,k0≤k→k0≤m→k0≤n→f k m n=some r

theorem Ev3.of{f:Nat→Option α}{r:α}(h:Evt (fun k _=>f k) r):Ev3 (fun k _ _=>f k) r:=by
 obtain⟨k0,h⟩:=h
 exact⟨k0,fun k m n hk _ _=>h k k hk hk⟩
theorem Ev3.diag{f:Nat→Nat→Nat→Option α}{r:α}(h:Ev3 f r):Evt (fun k m=>f k m k) r:=by
 obtain⟨k0,h⟩:=h
 exact⟨k0,fun k m hk hm=>h k m k hk hm hk⟩
theorem Ev3.const{o:Option α}{r:α}(h:o=some r):Ev3 (fun _ _ _=>o) r:=⟨0,fun _ _ _ _ _ _=>h⟩
theorem Ev3.pure{r:α}:Ev3 (fun _ _ _=>some r) r:=⟨0,fun _ _ _ _ _ _=>rfl⟩
theorem Ev3.bind{f:Nat→Nat→Nat→Option α}{g:Nat→Nat→Nat→α→Option β}{a:α}{r:β}(h:Ev3 f a)(h':Ev3 (fun k m n=>g k m n a) r):Ev3 (fun k m n=>Option.bind (f k m n) fun x=>g k m n x) r:=by
 obtain⟨k0,h⟩:=h
 obtain⟨k1,h'⟩:=h'
 refine⟨max k0 k1,fun k m n hk hm hn => ?_⟩
 exact(congrArg (fun o=>Option.bind o fun x=>g k m n x) (h k m n (by omega) (by omega) (by omega))).trans (h' k m n (by omega) (by omega) (by omega))
theorem Ev3.inr{R P A:Type}{f:Nat→Nat→Nat→Option (R ⊕ P)}{G:Nat→Nat→Nat→R→Option A}{K:Nat→Nat→Nat→P→Option A}{y:P}{r:A}(h:Ev3 f (.inr y))(h':Ev3 (fun k m n=>K k m n y) r):Ev3 (fun k m n=>both (f k m n) (G k m n) (K k m n)) r:=by
 obtain⟨k0,h⟩:=h
 obtain⟨k1,h'⟩:=h'
 refine⟨max k0 k1,fun k m n hk hm hn => ?_⟩
 exact(congrArg (fun o=>both o (G k m n) (K k m n)) (h k m n (by omega) (by omega) (by omega))).trans (h' k m n (by omega) (by omega) (by omega))
theorem Ev3.inl{R P A:Type}{f:Nat→Nat→Nat→Option (R ⊕ P)}{G:Nat→Nat→Nat→R→Option A}{K:Nat→Nat→Nat→P→Option A}{q:R}{r:A}(h:Ev3 f (.inl q))(h':Ev3 (fun k m n=>G k m n q) r):Ev3 (fun k m n=>both (f k m n) (G k m n) (K k m n)) r:=by
 obtain⟨k0,h⟩:=h
 obtain⟨k1,h'⟩:=h'
 refine⟨max k0 k1,fun k m n hk hm hn => ?_⟩
 exact(congrArg (fun o=>both o (G k m n) (K k m n)) (h k m n (by omega) (by omega) (by omega))).trans (h' k m n (by omega) (by omega) (by omega))
theorem Ev3.ctrue{c:Bool}{f g:Nat→Nat→Nat→Option α}{r:α}(hc:c=true)(h:Ev3 f r):Ev3 (fun k m n=>bif c then f k m n else g k m n) r:=by subst hc;exact h
theorem Ev3.cfalse{c:Bool}{f g:Nat→Nat→Nat→Option α}{r:α}(hc:c=false)(h:Ev3 g r):Ev3 (fun k m n=>bif c then f k m n else g k m n) r:=by subst hc;exact h
theorem Ev3.step{L F:Nat→Nat→Nat→Option α}{r:α}(hL:∀k m n,L k m (n+1)=F k m n)(h:Ev3 F r):Ev3 L r:=by
 obtain⟨k0,h⟩:=h
 refine⟨k0+1,fun k m n hk hm hn => ?_⟩
 obtain⟨n,rfl⟩:∃n',n=n'+1:=⟨n - 1,by omega⟩
 rw [hL]
 exact h k m n (by omega) (by omega) (by omega)
end
end Go.Ev

namespace Go.Ev.G
open Go Go.Ev
set_option maxRecDepth 100000

abbrev Iv:=(Int×Int)×Int×Int
def minD(a b:Int×Int):Int×Int:=if sv b<sv a then b else a
def maxD(a b:Int×Int):Int×Int:=if sv a<sv b then b else a
theorem minD_gd{a b:Int×Int}(ha:gd a)(hb:gd b):gd (minD a b):=by unfold minD;split;exact hb;exact ha
theorem maxD_gd{a b:Int×Int}(ha:gd a)(hb:gd b):gd (maxD a b):=by unfold maxD;split;exact hb;exact ha
theorem minD_sv(a b:Int×Int):sv (minD a b)=min (sv a) (sv b):=by unfold minD;split <;> omega
theorem maxD_sv(a b:Int×Int):sv (maxD a b)=max (sv a) (sv b):=by unfold maxD;split <;> omega
end Go.Ev.G

namespace Go.Ev.G
open Go Go.Ev
set_option maxRecDepth 100000

abbrev Tm:=Int×Int×Int×Int
def tmGd(t:Tm):Prop:=(-1000≤t.1∧t.1≤1000)∧(0≤t.2.1∧t.2.1≤4)∧(0≤t.2.2.1∧t.2.2.1≤4)∧(0≤t.2.2.2∧t.2.2.2≤4)∧t.2.1+t.2.2.1+t.2.2.2≤4
instance:DecidablePred tmGd:=fun x=>by unfold tmGd;exact inferInstance

end Go.Ev.G

namespace Go.Ev.G
open Go Go.Ev
set_option maxRecDepth 100000

def tmW(t:Tm):Prop:=(-10000≤t.1∧t.1≤10000)∧(0≤t.2.1∧t.2.1≤4)∧(0≤t.2.2.1∧t.2.2.1≤4)∧(0≤t.2.2.2∧t.2.2.2≤4)
def sgl(a:Int×Int):Iv:=(a,a)
theorem sgl_iv{a:Int×Int}(h:gd a):ivGd (sgl a):=⟨h,h,Int.le_refl _⟩
end Go.Ev.G

namespace Go.Ev.G
open Go Go.Ev
set_option maxRecDepth 100000

structure Sd(s:List (List Tm))(sides:List Iv):Prop where
 sd:∀i∈sides,ivGd i
 ln:sides.length≤3
 tm:∀p∈s,∀t∈p,tmW t
 lp:∀p∈s,p.length<lenB
abbrev Ed:=Int×(Int×Int)×(Int×Int)×Int×Int
def sidesE(e:Ed):List Iv:=if e.1=0 then [sgl e.2.1,(minD e.2.2.1 e.2.2.2,maxD e.2.2.1 e.2.2.2)]else [(minD e.2.2.1 e.2.2.2,maxD e.2.2.1 e.2.2.2),sgl e.2.1]
structure EdOk(e:Ed):Prop where
 sd:e.1=0∨e.1=1
 a:gd e.2.1
 f:gd e.2.2.1
 t:gd e.2.2.2
theorem along_iv{a b:Int×Int}(ha:gd a)(hb:gd b):ivGd (minD a b,maxD a b):=⟨minD_gd ha hb,maxD_gd ha hb,by simp only [minD_sv,maxD_sv];omega⟩
theorem EdOk.sides{e:Ed}(h:EdOk e):∀i∈sidesE e,ivGd i:=by
 intro i hi
 have q:=along_iv h.f h.t
 have r:=sgl_iv h.a
 unfold sidesE at hi
 split at hi <;> (simp only [List.mem_cons,List.not_mem_nil,or_false]at hi;rcases hi with rfl | rfl <;> assumption)
theorem EdOk.len(e:Ed):(sidesE e).length=2:=by unfold sidesE;split <;> rfl
theorem Sd.edge{s:List (List Tm)}(h1:∀p∈s,∀t∈p,tmW t)(h2:∀p∈s,p.length<lenB){e:Ed}(h:EdOk e):Sd s (sidesE e):=⟨h.sides,by rw [EdOk.len];omega,h1,h2⟩
end Go.Ev.G

namespace Go.Ev.G
open Go Go.Ev
set_option maxRecDepth 100000

section
variable {V : Type}
end
structure Pl(s:List (List Tm)):Prop where
 ln:s.length=2
 tm:∀p∈s,∀t∈p,tmW t
 lp:∀p∈s,p.length<lenB
theorem Pl.sd{s:List (List Tm)}(h:Pl s){e:Ed}(he:EdOk e):Sd s (sidesE e):=Sd.edge h.tm h.lp he
end Go.Ev.G

namespace Go.Ev.G
open Go Go.Ev
set_option maxRecDepth 100000

def isLab(a:Int):Prop:=0≤a∧a≤5
section
variable {x0 : List Int} {x6 : Int} {x7 : List (Int × Bool × Int × Int)} {x9 x10 x11 : Int}
end

section
variable {x0 : List Int} {x1 x6 : Int} {x6' : List (Int × Bool × Int × Int)} {x7 x9 x10 x23 x24 x28 x29 x33 x34 : Int}
end
end Go.Ev.G

namespace Go.Ev.G
open Go Go.Ev
set_option maxRecDepth 100000

structure LabOk(A:List Int)(d:Nat):Prop where
 hd:d≤2
 len:A.length=6*2 ^ d*2 ^ d
 lab:∀l∈A,isLab l
theorem LabOk.small{A:List Int}{d:Nat}(h:LabOk A d):A.length≤96:=by
 have:=h.len
 have hd:=h.hd
 rcases(by omega:d=0∨d=1∨d=2)with rfl | rfl | rfl <;> simp at this <;> omega
theorem LabOk.n{A:List Int}{d:Nat}(h:LabOk A d):1≤2 ^ d∧2 ^ d≤4:=by
 have hd:=h.hd
 rcases(by omega:d=0∨d=1∨d=2)with rfl | rfl | rfl <;> decide
end Go.Ev.G

namespace Go.Ev.G
open Go Go.Ev
set_option maxRecDepth 100000

def labsB(a:List Int):Bool:=a.all fun x=>decide (0≤x∧x≤5)
theorem areLabels1_eq(x:Int):impl_areLabels_1 x=some (!decide (0≤x∧x≤5)):=by
 unfold impl_areLabels_1
 rw [inside_eq];rfl
theorem containsL_ev{xs:List Int}(hb:xs.length<lenB):Evt (fun k _=>slices_ContainsFunc_int_int_impl_areLabels_1 k xs ()) (xs.any fun x => !decide (0≤x∧x≤5)):=by
 refine Evt.eq (f:=fun k q=>_) ?_ (fun k q=>by rw [slices_ContainsFunc_int_int_impl_areLabels_1])
 have h:=index_all (d0:=0) (L:=fun k n i=>slices_IndexFunc_int_int_impl_areLabels_1_L26 k n xs () (xs.length:Int) i) (xs:=xs) (p:=fun _ x=>impl_areLabels_1 x) (P:=fun x => !decide (0≤x∧x≤5)) (fun x _ => .const (areLabels1_eq x)) (fun _ _ _=>rfl) hb
 have h2:Evt (fun k _=>slices_IndexFunc_int_int_impl_areLabels_1 k xs ()) (match xs.findIdx? (fun x => !decide (0≤x∧x≤5))with | some j=>(j:Int) | none => -1):=by
  refine Evt.eq (f:=fun k q=>_) ?_ (fun k q=>by rw [slices_IndexFunc_int_int_impl_areLabels_1])
  cases hi:xs.findIdx? (fun x => !decide (0≤x∧x≤5))with
  | none=>rw [hi]at h;exact Evt.inr (Evt.diag h) .pure
  | some j=>rw [hi]at h;exact Evt.inl (Evt.diag h) .pure
 refine Evt.bind h2 (.const ?_)
 cases hi:xs.findIdx? (fun x => !decide (0≤x∧x≤5))with
 | none =>
  have:xs.any (fun x => !decide (0≤x∧x≤5))=false:=by
   rw [List.any_eq_false]
   intro x hx
   have:=List.findIdx?_eq_none_iff.1 hi x hx
   simp only [this];simp
  rw [this];rfl
 | some j =>
  have:xs.any (fun x => !decide (0≤x∧x≤5))=true:=by
   rw [List.any_eq_true]
   obtain⟨hlt,hp,_⟩:=List.findIdx?_eq_some_iff_getElem.1 hi
   exact⟨xs[j],List.getElem_mem hlt,hp⟩
  rw [this]
  simp
theorem areLabels_ev{a:List Int}(hb:a.length<lenB):Evt (fun k _=>impl_areLabels k a) (labsB a):=by
 refine Evt.eq (f:=fun k q=>_) ?_ (fun k q=>by rw [impl_areLabels])
 refine Evt.bind (containsL_ev hb) (.const ?_)
 unfold labsB
 rw [List.any_eq_not_all_not]
 simp
end Go.Ev.G

namespace Go.Ev.G
open Go Go.Ev
set_option maxRecDepth 100000

def digV(a:Int):ByteArray:=strOfNums [IntKind.wrap .u8 (IntKind.wrap .i64 (48+a))]
theorem l1Num_ev{a:Int}(h:isLab a):Evt (fun k _=>spec_l1Num k a) (digV a):=by
 refine⟨1,fun k n hk _ => ?_⟩
 obtain⟨m,rfl⟩:∃m,k=m+1:=⟨k - 1,by omega⟩
 unfold isLab at h
 show(bif decide (a<10)then _ else _)=_
 rw [decide_eq_true (by omega)]
 rfl
theorem itoa_all:(List.range 6).map (fun a:Nat=>(strconv_Itoa a).map fun b=>b.toList)=(List.range 6).map fun a:Nat=>some (digV a).toList:=by kernel_rfl
theorem toList_inj{a b:ByteArray}(h:a.toList=b.toList):a=b:=by
 rw [ByteArray.toList_eq,ByteArray.toList_eq]at h
 obtain⟨⟨x⟩⟩:=a
 obtain⟨⟨y⟩⟩:=b
 simp only at h
 rw [h]
theorem itoa_eq{a:Int}(h:isLab a):strconv_Itoa a=some (digV a):=by
 obtain⟨a,rfl⟩:∃m:Nat,a=m:=⟨a.toNat,by unfold isLab at h;omega⟩
 unfold isLab at h
 have h1:=List.map_inj_left.1 itoa_all a (by rw [List.mem_range];omega)
 cases hs:strconv_Itoa a with
 | none=>rw [hs]at h1;cases h1
 | some b =>
  rw [hs]at h1
  simp only [Option.map_some,Option.some.injEq]at h1
  rw [toList_inj h1]
theorem digV_size(a:Int):(digV a).size=1:=by unfold digV;rw [strOfNums_size];rfl
def textV:ByteArray→List Int→ByteArray
 | s,[]=>s
 | s,a::l=>textV (s++digV a) l
theorem size_push(s:ByteArray)(a:Int):(s++digV a).size=s.size+1:=by rw [ByteArray.size_append,digV_size]
theorem specText_ev{x:List Int}(hx:∀a∈x,isLab a)(hl:x.length≤96):∀(r d:List Int) (s:ByteArray),d++r=x→s.size=d.length→Evt (fun k n=>spec_LabelsText_L122 k n s x (x.length:Int) d.length) (.inr (textV s r,()))
 | [],d,s,h,hs=>by
  rw [List.append_nil]at h
  subst h
  refine Evt.step (fun k n=>spec_LabelsText_L122.eq_2 k _ _ _ _ n) ?_
  rw [mid_end]
  exact Evt.cfalse rfl .pure
 | e::r,d,s,h,hs=>by
  subst h
  refine Evt.step (fun k n=>spec_LabelsText_L122.eq_2 k _ _ _ _ n) (Evt.ctrue mid_lt (Evt.ctrue mid_ge (Evt.ctrue mid_lt ?_)))
  rw [mid_get]
  have hl2:d.length+(r.length+1)≤96:=by simpa using hl
  refine Evt.bind (l1Num_ev (hx e (by simp))) (Evt.ctrue (decide_eq_true (by rw [digV_size];omega)) ?_)
  rw [w64_next (by simp only [lenB];omega)]
  have:=specText_ev hx hl r (d ++ [e]) (s++digV e) (by simp) (by rw [size_push];simp;omega)
  rw [show(d ++ [e]).length=d.length+1 by simp]at this
  exact this
theorem implText_ev{x:List Int}(hx:∀a∈x,isLab a)(hl:x.length≤96):∀(r d:List Int) (s:ByteArray),d++r=x→s.size=d.length→Evt (fun k n=>impl_digitsText_L58 k n s x (x.length:Int) d.length) (.inr (textV s r,()))
 | [],d,s,h,hs=>by
  rw [List.append_nil]at h
  subst h
  refine Evt.step (fun k n=>impl_digitsText_L58.eq_2 k _ _ _ _ n) ?_
  rw [mid_end]
  exact Evt.cfalse rfl .pure
 | e::r,d,s,h,hs=>by
  subst h
  refine Evt.step (fun k n=>impl_digitsText_L58.eq_2 k _ _ _ _ n) (Evt.ctrue mid_lt (Evt.ctrue mid_ge (Evt.ctrue mid_lt ?_)))
  rw [mid_get]
  have hl2:d.length+(r.length+1)≤96:=by simpa using hl
  refine Evt.bind (.const (itoa_eq (hx e (by simp)))) (Evt.ctrue (decide_eq_true (by rw [digV_size];omega)) ?_)
  rw [w64_next (by simp only [lenB];omega)]
  have:=implText_ev hx hl r (d ++ [e]) (s++digV e) (by simp) (by rw [size_push];simp;omega)
  rw [show(d ++ [e]).length=d.length+1 by simp]at this
  exact this
def ltV(x:List Int):ByteArray×Bool:=if x.length≤96 then(if labsB x then(textV ⟨#[]⟩ x,true)else(⟨#[]⟩,false))else(⟨#[]⟩,false)
theorem labsB_lab{x:List Int}(h:labsB x=true):∀a∈x,isLab a:=by
 intro a ha
 have:=of_decide_eq_true (List.all_eq_true.1 h a ha)
 unfold isLab
 exact this
theorem spec_labelsText_ev{x:List Int}(hb:x.length<lenB):Evt (fun k _=>spec_LabelsText k x) (ltV x):=by
 refine Evt.eq (f:=fun k q=>_) ?_ (fun k q=>by rw [spec_LabelsText])
 unfold ltV
 by_cases h1:x.length≤96
 ·rw [if_pos h1]
  refine Evt.cfalse (decide_eq_false (by omega)) (Evt.bind (l1All_ev hb) ?_)
  show Evt (fun k _=>bif !(labsB x)then _ else _) _
  cases h3:labsB x with
  | false=>exact Evt.ctrue rfl .pure
  | true =>
   have:=specText_ev (labsB_lab h3) h1 x [] ⟨#[]⟩ rfl rfl
   exact Evt.cfalse rfl (Evt.inr (Evt.diag this) .pure)
 ·rw [if_neg h1]
  exact Evt.ctrue (decide_eq_true (by omega)) .pure
theorem impl_labelsText_ev{x:List Int}(hb:x.length<lenB):Evt (fun k _=>impl_LabelsText k x) (ltV x):=by
 refine Evt.eq (f:=fun k q=>_) ?_ (fun k q=>by rw [impl_LabelsText])
 unfold ltV
 by_cases h1:x.length≤96
 ·rw [if_pos h1]
  refine Evt.cfalse (decide_eq_false (by omega)) (Evt.bind (areLabels_ev hb) ?_)
  cases h3:labsB x with
  | false=>exact Evt.ctrue rfl .pure
  | true =>
   have:=implText_ev (labsB_lab h3) h1 x [] ⟨#[]⟩ rfl rfl
   refine Evt.cfalse rfl (Evt.bind (a:=textV ⟨#[]⟩ x) ?_ .pure)
   refine Evt.eq (f:=fun k q=>_) ?_ (fun k q=>by rw [impl_digitsText])
   exact Evt.inr (Evt.diag this) .pure
 ·rw [if_neg h1]
  exact Evt.ctrue (decide_eq_true (by omega)) .pure
theorem labelsText_row(x:List Int)(h:WfT (.sl (.int .i64)) x):∃k,laws_FnExactLabelsText k x=some true:=by
 have hx:=h.1
 refine Evt.get (Evt.eq (f:=fun k q=>_) ?_ (fun k q=>by rw [laws_FnExactLabelsText]))
 by_cases hz:(x.length:Int)>1000000
 ·exact Evt.ctrue (decide_eq_true hz) .pure
 ·refine Evt.cfalse (decide_eq_false hz) ?_
  have h1:x.length≤1000000:=by omega
  have hb:x.length<lenB:=by simp only [lenB];omega
  refine Evt.bind (toIntS_ev h1) ?_
  simp only [toV_fst]
  refine Evt.bind (spec_labelsText_ev hb) (Evt.bind (toIntS_ev h1) ?_)
  simp only [toV_fst]
  refine Evt.bind (impl_labelsText_ev hb) (Evt.cfalse (by simp) (Evt.cfalse (by simp) (Evt.bind (toIntS_ev h1) (Evt.bind (intactIntS_ev (room_toV h1)) (Evt.cfalse rfl (Evt.bind (toIntS_ev h1) ?_))))))
  simp only [toV_fst]
  exact Evt.bind (impl_labelsText_ev hb) (Evt.cfalse (by simp) (Evt.cfalse (by simp) .pure))
end Go.Ev.G

