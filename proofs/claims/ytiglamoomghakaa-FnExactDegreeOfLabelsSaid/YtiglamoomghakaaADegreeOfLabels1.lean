/- What the plain functions of the law compute, for all inputs within the sizes that the theorems name. -/
import Derived.Test.YtiglamoomghakaaPDegreeOfLabels1
import Derived.IntWalk
import Derived.Laws.Bits64
import Derived.KernelRfl
set_option linter.unusedVariables false
namespace Go.Ev
open Go

def Evt{α:Type}(f:Nat→Nat→Option α)(r:α):Prop:=∃k0,∀k n,k0≤k→k0≤n→f k n=some r

section
variable {α β γ δ : Type}

theorem Evt.const{o:Option α}{r:α}(h:o=some r):Evt (fun _ _=>o) r:=⟨0,fun _ _ _ _=>h⟩
theorem Evt.pure{r:α}:Evt (fun _ _=>some r) r:=⟨0,fun _ _ _ _=>rfl⟩
theorem Evt.bind{f:Nat→Nat→Option α}{g:Nat→Nat→α→Option β}{a:α}{r:β}(h:Evt f a)(h':Evt (fun k n=>g k n a) r):Evt (fun k n=>Option.bind (f k n) fun x=>g k n x) r:=by
 obtain⟨k1,h1⟩:=h
 obtain⟨k2,h2⟩:=h'
 refine⟨max k1 k2,fun k n hk hn => ?_⟩
 exact(congrArg (fun o=>Option.bind o fun x=>g k n x) (h1 k n (by omega) (by omega))).trans (h2 k n (by omega) (by omega))
theorem Evt.inr{R P A:Type}{f:Nat→Nat→Option (R ⊕ P)}{G:Nat→Nat→R→Option A}{K:Nat→Nat→P→Option A}{y:P}{r:A}(h:Evt f (.inr y))(h':Evt (fun k n=>K k n y) r):Evt (fun k n=>both (f k n) (G k n) (K k n)) r:=by
 obtain⟨k1,h1⟩:=h
 obtain⟨k2,h2⟩:=h'
 refine⟨max k1 k2,fun k n hk hn => ?_⟩
 exact(congrArg (fun o=>both o (G k n) (K k n)) (h1 k n (by omega) (by omega))).trans (h2 k n (by omega) (by omega))
theorem Evt.inl{R P A:Type}{f:Nat→Nat→Option (R ⊕ P)}{G:Nat→Nat→R→Option A}{K:Nat→Nat→P→Option A}{q:R}{r:A}(h:Evt f (.inl q))(h':Evt (fun k n=>G k n q) r):Evt (fun k n=>both (f k n) (G k n) (K k n)) r:=by
 obtain⟨k1,h1⟩:=h
 obtain⟨k2,h2⟩:=h'
 refine⟨max k1 k2,fun k n hk hn => ?_⟩
 exact(congrArg (fun o=>both o (G k n) (K k n)) (h1 k n (by omega) (by omega))).trans (h2 k n (by omega) (by omega))
theorem Evt.ctrue{c:Bool}{f g:Nat→Nat→Option α}{r:α}(hc:c=true)(h:Evt f r):Evt (fun k n=>bif c then f k n else g k n) r:=by subst hc;exact h
theorem Evt.cfalse{c:Bool}{f g:Nat→Nat→Option α}{r:α}(hc:c=false)(h:Evt g r):Evt (fun k n=>bif c then f k n else g k n) r:=by subst hc;exact h
theorem Evt.diag{f:Nat→Nat→Option α}{r:α}(h:Evt f r):Evt (fun k _=>f k k) r:=by
 obtain⟨k1,h1⟩:=h
 exact⟨k1,fun k n hk _=>h1 k k hk hk⟩
theorem Evt.step{L F:Nat→Nat→Option α}{r:α}(hL:∀k n,L k (n+1)=F k n)(h:Evt F r):Evt L r:=by
 obtain⟨k1,h1⟩:=h
 refine⟨k1+1,fun k n hk hn => ?_⟩
 obtain⟨m,rfl⟩:∃m,n=m+1:=⟨n - 1,by omega⟩
 rw [hL]
 exact h1 k m (by omega) (by omega)
theorem Evt.eq{f g:Nat→Nat→Option α}{r:α}(h:Evt f r)(e:∀k n,g k n=f k n):Evt g r:=by
 obtain⟨k1,h1⟩:=h
 exact⟨k1,fun k n hk hn=>by rw [e];exact h1 k n hk hn⟩
theorem Evt.get{f:Nat→Option α}{r:α}(h:Evt (fun k _=>f k) r):∃k,f k=some r:=by
 obtain⟨k1,h1⟩:=h
 exact⟨k1,h1 k1 k1 (Nat.le_refl _) (Nat.le_refl _)⟩
end

def lenB:Nat:=4611686018427387904
theorem w64{n:Int}(h0 : -9223372036854775808≤n)(h1:n≤9223372036854775807):IntKind.wrap .i64 n=n:=by rw [IntKind.wrap_i64];omega
theorem w64_next{m:Nat}(h:m<lenB):IntKind.wrap .i64 ((m:Int)+1)=((m+1:Nat):Int):=by
 simp only [lenB]at h
 rw [w64] <;> omega
theorem wu64{n:Int}(h0:0≤n)(h1:n≤18446744073709551615):IntKind.wrap .u64 n=n:=by
 rw [IntKind.wrap_u64];omega

section
variable {α : Type}
theorem mid_lt{d r:List α}{e:α}:decide ((d.length:Int)<((d++e::r).length:Int))=true:=by simp;omega
theorem mid_ge{m:Nat}:decide ((0:Int)≤(m:Int))=true:=by simp
theorem mid_get{d r:List α}{e z:α}:(d++e::r).getD (Int.toNat (d.length:Int)) z=e:=by simp
theorem mid_set{d r:List α}{e v:α}:(d++e::r).set (Int.toNat (d.length:Int)) v=d++v::r:=by simp
theorem mid_end{d:List α}:decide ((d.length:Int)<(d.length:Int))=false:=by simp
end
end Go.Ev

namespace Go.Ev
open Go

def roomN(n:Nat):Nat:=if n % 6=5 then 0 else if n % 3=0 then 1 else n

def toV{β γ:Type}(f:β→γ)(v:γ)(a:List β)(b:Bool):List γ×List γ:=if b=true∧a = []then([],[])else(a.map f,List.replicate (roomN a.length) v)

section
variable {β γ R : Type}

theorem to_loop{dβ:β}{L:Nat→Nat→List β→List γ→Int→Option (R ⊕ (List β×List γ×Unit))}{F:Nat→β→Option γ}{f:β→γ}
  (hL:∀k n x0 x5 x6,L k (n+1) x0 x5 x6=(bif (decide (x6<(x0.length:Int)))then(bif (decide (0≤x6))then(bif (decide (x6<(x0.length:Int)))then(Option.bind (F k (x0.getD (Int.toNat x6) dβ)) fun r3=>(bif (decide (0≤x6))then(bif (decide (x6<(x5.length:Int)))then(L k n x0 (x5.set (Int.toNat x6) r3) (IntKind.wrap .i64 (x6+1)))else none)else none))else none)else none)else some (Sum.inr (x0,x5,())))) :
  ∀(r d:List β) (d' r':List γ),d'.length=d.length→r.length≤r'.length→(d++r).length<lenB→(∀x∈r,Evt (fun k _=>F k x) (f x)) →
   Evt (fun k n=>L k n (d++r) (d'++r') d.length) (.inr (d++r,d'++r.map f++r'.drop r.length,()))
 | [],d,d',r',h1,h2,h3,h4=>by
  refine Evt.step (fun k n=>hL k n _ _ _) ?_
  simp only [List.append_nil,mid_end,List.map_nil,List.length_nil,List.drop_zero]
  exact Evt.cfalse rfl .pure
 | x::r,d,d',[],h1,h2,h3,h4=>by simp at h2
 | x::r,d,d',y::r',h1,h2,h3,h4=>by
  refine Evt.step (fun k n=>hL k n _ _ _) ?_
  refine Evt.ctrue mid_lt (Evt.ctrue mid_ge (Evt.ctrue mid_lt ?_))
  rw [mid_get]
  refine Evt.bind (h4 x (by simp)) (Evt.ctrue mid_ge (Evt.ctrue (by rw [←h1];exact mid_lt) ?_))
  rw [←h1,mid_set,w64_next (by simp at h3;omega),h1]
  have:=to_loop hL r (d ++ [x]) (d' ++ [f x]) r' (by simp [h1]) (by simpa using h2) (by simpa using h3) (fun z hz=>h4 z (by simp [hz]))
  simpa using this

theorem fill_loop{x0:β}{v:γ}{L:Nat→Nat→List γ→Int→Option (R ⊕ (β×List γ×Unit))}
  (hL:∀k n x5 x7,L k (n+1) x5 x7=(bif (decide (x7<(x5.length:Int)))then(bif (decide (0≤x7))then(bif (decide (x7<(x5.length:Int)))then(L k n (x5.set (Int.toNat x7) v) (IntKind.wrap .i64 (x7+1)))else none)else none)else some (Sum.inr (x0,x5,())))) :
  ∀(r d:List γ),(d++r).length<lenB→Evt (fun k n=>L k n (d++r) d.length) (.inr (x0,d++List.replicate r.length v,()))
 | [],d,h=>by
  refine Evt.step (fun k n=>hL k n _ _) ?_
  simp only [List.append_nil,mid_end,List.length_nil,List.replicate_zero]
  exact Evt.cfalse rfl .pure
 | x::r,d,h=>by
  refine Evt.step (fun k n=>hL k n _ _) ?_
  refine Evt.ctrue mid_lt (Evt.ctrue mid_ge (Evt.ctrue mid_lt ?_))
  rw [mid_set,w64_next (by simp at h;omega)]
  have:=fill_loop hL r (d ++ [v]) (by simpa using h)
  simpa [List.replicate_succ] using this

theorem to_all{dβ:β}{dγ v:γ}{T:Nat→Option (List γ×List γ)}{room:Int→Option Int}{F:Nat→β→Option γ}{f:β→γ}{a:List β}{b:Bool}
  {L1:Nat→Nat→List β→List γ→Int→Option ((List γ×List γ) ⊕ (List β×List γ×Unit))} {L2:Nat→Nat→List β→List γ→Int→Option ((List γ×List γ) ⊕ (List β×List γ×Unit))}
  (hroom:∀n:Nat,room n=some (roomN n:Int))
  (hL1:∀k n x0 x5 x6,L1 k (n+1) x0 x5 x6=(bif (decide (x6<(x0.length:Int)))then(bif (decide (0≤x6))then(bif (decide (x6<(x0.length:Int)))then(Option.bind (F k (x0.getD (Int.toNat x6) dβ)) fun r3=>(bif (decide (0≤x6))then(bif (decide (x6<(x5.length:Int)))then(L1 k n x0 (x5.set (Int.toNat x6) r3) (IntKind.wrap .i64 (x6+1)))else none)else none))else none)else none)else some (Sum.inr (x0,x5,()))))
  (hL2:∀k n x0 x5 x7,L2 k (n+1) x0 x5 x7=(bif (decide (x7<(x5.length:Int)))then(bif (decide (0≤x7))then(bif (decide (x7<(x5.length:Int)))then(L2 k n x0 (x5.set (Int.toNat x7) v) (IntKind.wrap .i64 (x7+1)))else none)else none)else some (Sum.inr (x0,x5,()))))
  (hT:∀k,T k=(bif b&&((a.length:Int)==0)then some ([],[])else(Option.bind (room (a.length:Int)) fun r2=>(bif (decide (0≤(IntKind.wrap .i64 ((a.length:Int)+r2))))then(bif (decide ((Int.toNat (IntKind.wrap .i64 ((a.length:Int)+r2)))<274877906944))then(both (R:=List γ×List γ) (P:=List β×List γ×Unit) (L1 k k a (List.replicate (Int.toNat (IntKind.wrap .i64 ((a.length:Int)+r2))) dγ) 0) (fun q5=>some q5) (fun y4=>(both (R:=List γ×List γ) (P:=List β×List γ×Unit) (L2 k k y4.1 y4.2.1 (y4.1.length:Int)) (fun q8=>some q8) (fun y7=>(bif (decide (0≤(y7.1.length:Int)))then(bif (decide ((y7.1.length:Int)≤(y7.2.1.length:Int)))then some ((y7.2.1.take (Int.toNat (y7.1.length:Int))),(y7.2.1.drop (Int.toNat (y7.1.length:Int))))else none)else none)))))else none)else none))))
  (ha:a.length≤1000000) (hF:∀x∈a,Evt (fun k _=>F k x) (f x)):Evt (fun k _=>T k) (toV f v a b):=by
 have hr:roomN a.length≤a.length+1:=by unfold roomN;split <;> (try split) <;> omega
 refine Evt.eq ?_ (fun k n=>hT k)
 by_cases hb:b=true∧a = []
 ·refine Evt.ctrue (by simp [hb.1,hb.2]) ?_
  rw [toV,if_pos hb]
  exact .pure
 ·refine Evt.cfalse ?_ ?_
  ·cases b with
   | false=>rfl
   | true =>
    have:a ≠ []:=fun h=>hb ⟨rfl,h⟩
    simp [this]
  rw [toV,if_neg hb]
  refine Evt.bind (.const (hroom _)) ?_
  have hw:IntKind.wrap .i64 ((a.length:Int)+(roomN a.length:Int))=((a.length+roomN a.length:Nat):Int):=by rw [w64] <;> omega
  rw [hw]
  refine Evt.ctrue mid_ge (Evt.ctrue (by simp <;> omega) ?_)
  have h1:=to_loop hL1 a [] [] (List.replicate (Int.toNat ((a.length+roomN a.length:Nat):Int)) dγ) rfl (by simp <;> omega) (by simp [lenB];omega) hF
  simp only [List.nil_append,List.length_nil]at h1
  refine Evt.inr (Evt.diag h1) ?_
  have h2:=fill_loop (x0:=a) (L:=fun k n=>L2 k n a) (fun k n x5 x7=>hL2 k n a x5 x7) (List.drop a.length (List.replicate (Int.toNat ((a.length+roomN a.length:Nat):Int)) dγ)) (a.map f) (by simp [lenB];omega)
  simp only [List.length_map]at h2
  refine Evt.inr (Evt.diag h2) ?_
  have e:(((a.length+roomN a.length:Nat):Int)).toNat=a.length+roomN a.length:=by omega
  rw [e]
  refine Evt.ctrue mid_ge (Evt.ctrue (by simp <;> omega) ?_)
  refine Evt.const ?_
  simp

theorem eq_loop{d0:γ}{Q:Nat→γ→γ→Option Bool}{L:Nat→Nat→List γ→List γ→Int→Option (Bool ⊕ Unit)}
  (hL:∀k n x0 x1 x5,L k (n+1) x0 x1 x5=(bif (decide (x5<(x0.length:Int)))then(bif (decide (0≤x5))then(bif (decide (x5<(x0.length:Int)))then(bif (decide (0≤x5))then(bif (decide (x5<(x1.length:Int)))then(Option.bind (Q k (x0.getD (Int.toNat x5) d0) (x1.getD (Int.toNat x5) d0)) fun r1=>(bif (!r1)then some (Sum.inl false)else(L k n x0 x1 (IntKind.wrap .i64 (x5+1)))))else none)else none)else none)else none)else some (Sum.inr ()))) :
  ∀(r d:List γ),(d++r).length<lenB→(∀x∈r,Evt (fun k _=>Q k x x) true)→Evt (fun k n=>L k n (d++r) (d++r) d.length) (.inr ())
 | [],d,h,_=>by
  refine Evt.step (fun k n=>hL k n _ _ _) ?_
  simp only [List.append_nil,mid_end]
  exact Evt.cfalse rfl .pure
 | x::r,d,h,hQ=>by
  refine Evt.step (fun k n=>hL k n _ _ _) ?_
  refine Evt.ctrue mid_lt (Evt.ctrue mid_ge (Evt.ctrue mid_lt (Evt.ctrue mid_ge (Evt.ctrue mid_lt ?_))))
  rw [mid_get]
  refine Evt.bind (hQ x (by simp)) (Evt.cfalse rfl ?_)
  rw [w64_next (by simp at h;omega)]
  have:=eq_loop hL r (d ++ [x]) (by simpa using h) (fun z hz=>hQ z (by simp [hz]))
  simpa using this

theorem eq_all{d0:γ}{Q:Nat→γ→γ→Option Bool}{L:Nat→Nat→List γ→List γ→Int→Option (Bool ⊕ Unit)}{E:Nat→List γ→List γ→Option Bool}
  (hL:∀k n x0 x1 x5,L k (n+1) x0 x1 x5=(bif (decide (x5<(x0.length:Int)))then(bif (decide (0≤x5))then(bif (decide (x5<(x0.length:Int)))then(bif (decide (0≤x5))then(bif (decide (x5<(x1.length:Int)))then(Option.bind (Q k (x0.getD (Int.toNat x5) d0) (x1.getD (Int.toNat x5) d0)) fun r1=>(bif (!r1)then some (Sum.inl false)else(L k n x0 x1 (IntKind.wrap .i64 (x5+1)))))else none)else none)else none)else none)else some (Sum.inr ())))
  (hE:∀k x0 x1,E k x0 x1=(bif ((x0.length:Int) != (x1.length:Int))then some false else(both (R:=Bool) (P:=Unit) (L k k x0 x1 0) (fun q3=>some q3) (fun _=>some true))))
  {x:List γ} (h:x.length<lenB) (hQ:∀z∈x,Evt (fun k _=>Q k z z) true):Evt (fun k _=>E k x x) true:=by
 refine Evt.eq ?_ (fun k n=>hE k x x)
 refine Evt.cfalse (by simp) ?_
 have:=eq_loop hL x [] (by simpa using h) hQ
 simp only [List.nil_append,List.length_nil]at this
 exact Evt.inr (Evt.diag this) .pure

end
end Go.Ev

namespace Go.Ev
open Go

section
variable {α β : Type}

theorem Evt.rng{d r:List α}{e z:α}{F:Nat→Nat→α→Option β}{G:Nat→Nat→Option β}{res:β}(h:Evt (fun k n=>F k n e) res) :
  Evt (fun k n=>bif (decide ((d.length:Int)<((d++e::r).length:Int)))then(bif (decide (0≤(d.length:Int)))then(bif (decide ((d.length:Int)<((d++e::r).length:Int)))then F k n ((d++e::r).getD (Int.toNat (d.length:Int)) z)else none)else none)else G k n) res:=by
 refine Evt.ctrue mid_lt (Evt.ctrue mid_ge (Evt.ctrue mid_lt ?_))
 rw [mid_get]
 exact h
theorem Evt.rng0{d:List α}{F G:Nat→Nat→Option β}{res:β}(h:Evt G res):Evt (fun k n=>bif (decide ((d.length:Int)<(d.length:Int)))then F k n else G k n) res:=Evt.cfalse mid_end h

theorem len_next{d r:List α}{e:α}(h:(d++e::r).length<lenB):IntKind.wrap .i64 ((d.length:Int)+1)=((d ++ [e]).length:Int):=by
 rw [w64_next (by simp at h;omega)];simp

theorem index_all{d0:α}{L:Nat→Nat→Int→Option (Int ⊕ Unit)}{xs:List α}{p:Nat→α→Option Bool}{P:α→Bool}(hp:∀x∈xs,Evt (fun k _=>p k x) (P x))
  (hL:∀k n i,L k (n+1) i=(bif (decide (i<(xs.length:Int)))then(bif (decide (0≤i))then(bif (decide (i<(xs.length:Int)))then(Option.bind (p k (xs.getD (Int.toNat i) d0)) fun r1=>(bif r1 then some (Sum.inl i)else L k n (IntKind.wrap .i64 (i+1))))else none)else none)else some (.inr ())))
  (hb:xs.length<lenB):Evt (fun k n=>L k n 0) (match xs.findIdx? P with | some j => .inl (j:Int) | none => .inr ()):=by
 have key:∀(r d:List α),d++r=xs→Evt (fun k n=>L k n d.length) (match r.findIdx? P with | some j => .inl ((d.length+j:Nat):Int) | none => .inr ()):=by
  intro r
  induction r with
  | nil =>
   intro d h
   rw [List.append_nil]at h
   refine Evt.step (fun k n=>hL k n _) ?_
   rw [←h]
   exact Evt.rng0 .pure
  | cons e r ih =>
   intro d h
   refine Evt.step (fun k n=>hL k n _) ?_
   rw [←h]
   refine Evt.rng (F:=fun k n x=>(Option.bind (p k x) fun r1=>(bif r1 then some (Sum.inl (d.length:Int))else L k n (IntKind.wrap .i64 ((d.length:Int)+1))))) ?_
   refine Evt.bind (hp e (by rw [←h];simp)) ?_
   rw [List.findIdx?_cons]
   cases hP:P e with
   | true=>exact Evt.ctrue rfl .pure
   | false =>
    refine Evt.cfalse rfl ?_
    rw [len_next (e:=e) (r:=r) (by rw [h];exact hb)]
    have:=ih (d ++ [e]) (by simpa using h)
    cases hr:r.findIdx? P with
    | none=>rw [hr]at this;simpa using this
    | some j =>
     rw [hr]at this
     have e2:(d ++ [e]).length+j=d.length+(j+1):=by simp;omega
     simp only [e2]at this
     exact this
 have:=key xs [] rfl
 simpa using this

end
end Go.Ev

namespace Go.Ev.G
open Go Go.Ev
set_option maxRecDepth 100000

theorem room_eq(n:Nat):laws_roomBehind n=some (roomN n:Int):=by
 unfold laws_roomBehind roomN
 have h6:Int.tmod (n:Int) 6=((n % 6:Nat):Int):=rfl
 have h3:Int.tmod (n:Int) 3=((n % 3:Nat):Int):=rfl
 rw [h6,h3]
 by_cases h:n % 6=5
 ·have e:((((n % 6:Nat):Int))==5)=true:=by rw [h];rfl
  rw [e,if_pos h];rfl
 ·have e:((((n % 6:Nat):Int))==5)=false:=by
   rw [beq_eq_false_iff_ne];omega
  rw [e,if_neg h]
  by_cases h':n % 3=0
  ·have e:((((n % 3:Nat):Int))==0)=true:=by rw [h'];rfl
   rw [e,if_pos h'];rfl
  ·have e:((((n % 3:Nat):Int))==0)=false:=by
    rw [beq_eq_false_iff_ne];omega
   rw [e,if_neg h'];rfl

theorem room_le(n:Nat):roomN n≤n+1:=by unfold roomN;split <;> (try split) <;> omega

def fI:Int := -7000000000000000101
theorem toIntS_ev{a:List Int}{b:Bool}(ha:a.length≤1000000):Evt (fun k _=>laws_toIntS k a b) (toV id fI a b) :=
 to_all (dβ:=0) (dγ:=0) (F:=fun _ x=>some x) (L1:=laws_toIntS_L122) (L2:=laws_toIntS_L250) room_eq (fun _ _ _ _ _=>rfl) (fun _ _ _ _ _=>rfl)
  (fun k=>by unfold laws_toIntS;cases b <;> cases a <;> rfl) ha (fun _ _ => .pure)

theorem eqIntS_ev{x:List Int}(h:x.length<lenB):Evt (fun k _=>laws_eqIntS k x x) true :=
 eq_all (d0:=0) (Q:=fun _ a b=>some (!(a != b))) (L:=laws_eqIntS_L58) (E:=laws_eqIntS) (fun k n x0 x1 x5=>by simp only [Option.bind_some,Bool.not_not];rfl) (fun _ _ _=>rfl) h (fun z _ => .const (by simp))
def Room{γ:Type}(x:List γ×List γ):Prop:=x.2.length=roomN x.1.length∧x.1.length≤1000000

theorem intact_all{γ:Type}{E:Nat→List γ→List γ→Option Bool}{I:Nat→(List γ×List γ)→(List γ×List γ)→Option Bool}{x:List γ×List γ}(hx:Room x)
  (hI:∀k a0 a1,I k a0 a1=(Option.bind (laws_roomBehind (a1.1.length:Int)) fun r1=>(bif ((a0.1.length:Int)==(a1.1.length:Int))then(bif (decide (0≤(IntKind.wrap .i64 ((a1.1.length:Int)+r1))))then(bif (decide ((IntKind.wrap .i64 ((a1.1.length:Int)+r1))≤((a0.1++a0.2).length:Int)))then(bif (decide (0≤(IntKind.wrap .i64 ((a1.1.length:Int)+r1))))then(bif (decide ((IntKind.wrap .i64 ((a1.1.length:Int)+r1))≤((a1.1++a1.2).length:Int)))then(Option.bind (E k (((a0.1++a0.2).take (Int.toNat (IntKind.wrap .i64 ((a1.1.length:Int)+r1)))).drop 0) (((a1.1++a1.2).take (Int.toNat (IntKind.wrap .i64 ((a1.1.length:Int)+r1)))).drop 0)) fun r2=>some r2)else none)else none)else none)else none)else some false)))
  (hE:Evt (fun k _=>E k (x.1++x.2) (x.1++x.2)) true):Evt (fun k _=>I k x x) true:=by
 have hr:=room_le x.1.length
 have h1:=hx.1
 have h2:=hx.2
 refine Evt.eq ?_ (fun k _=>hI k x x)
 refine Evt.bind (.const (room_eq _)) ?_
 have hw:IntKind.wrap .i64 ((x.1.length:Int)+(roomN x.1.length:Int))=(((x.1++x.2).length:Nat):Int):=by
  rw [List.length_append,h1,w64] <;> omega
 rw [hw]
 refine Evt.ctrue (by simp) (Evt.ctrue mid_ge (Evt.ctrue (by simp) (Evt.ctrue mid_ge (Evt.ctrue (by simp) ?_))))
 have e:(((x.1++x.2).length:Nat):Int).toNat=(x.1++x.2).length:=Int.toNat_natCast _
 rw [e,List.take_length,List.drop_zero]
 exact Evt.bind hE .pure

theorem small{γ:Type}{x:List γ×List γ}(hx:Room x):(x.1++x.2).length<lenB:=by
 have hr:=room_le x.1.length
 have h1:=hx.1
 have h2:=hx.2
 rw [List.length_append,h1]
 simp only [lenB]
 omega

theorem intactIntS_ev{x:List Int×List Int}(hx:Room x):Evt (fun k _=>laws_intactIntS k x x) true:=intact_all (E:=laws_eqIntS) hx (fun _ _ _=>rfl) (eqIntS_ev (small hx))
theorem room_toV{β γ:Type}{f:β→γ}{v:γ}{a:List β}(h:a.length≤1000000):Room (toV f v a false):=by
 refine⟨?_,?_⟩
 ·simp [toV]
 ·simp [toV];exact h

end Go.Ev.G

namespace Go.Ev.G
open Go Go.Ev
set_option maxRecDepth 100000

def gd(a:Int×Int):Prop:=0≤a.2∧a.2≤24 ∧ -1099511627776≤a.1∧a.1≤1099511627776∧(a.2=0∨a.1 % 2≠0)
instance (a:Int×Int):Decidable (gd a):=by unfold gd;infer_instance

theorem l1In_eq(n lo hi:Int):spec_l1In n lo hi=some (decide (lo≤n∧n≤hi)):=by
 unfold spec_l1In
 by_cases h:lo≤n
 ·have:decide (n≥lo)=true:=by simpa using h
  rw [this];simp [h]
 ·have:decide (n≥lo)=false:=by simpa using h
  rw [this];simp [h]
theorem inside_eq(n lo hi:Int):impl_inside n lo hi=some (decide (lo≤n∧n≤hi)):=l1In_eq n lo hi
theorem dyPower_eq{m:Nat}(h:m≤62):spec_dyPower m=some (((2 ^ m:Nat):Int)):=by
 unfold spec_dyPower
 have h1:IntKind.wrap .u64 (m:Int)=m:=wu64 (by omega) (by omega)
 have h2:min (Int.toNat (m:Int)) (IntKind.bits .i64)=m:=by simp [IntKind.bits];omega
 rw [h1,h2]
 have h3:(2:Nat) ^ m≤4611686018427387904:=Nat.pow_le_pow_right (n:=2) (by omega) h
 have h4:(1:Int)*2 ^ m=((2 ^ m:Nat):Int):=by simp
 have h5:decide ((m:Int)<0)=false:=by simp
 rw [h4]
 generalize 2 ^ m=p at *
 rw [w64 (by omega) (by omega),h5]
 rfl

end Go.Ev.G

namespace Go.Ev.G
open Go Go.Ev
set_option maxRecDepth 100000

def sv(a:Int×Int):Int:=a.1*2 ^ (24 - a.2.toNat)

end Go.Ev.G

namespace Go.Ev.G
open Go Go.Ev
set_option maxRecDepth 100000

theorem l1All_ev{xs:List Int}{lo hi:Int}(hb:xs.length<lenB):Evt (fun k _=>spec_l1All k xs lo hi) (xs.all fun x=>decide (lo≤x∧x≤hi)):=by
 refine Evt.eq (f:=fun k q=>_) ?_ (fun k q=>by rw [spec_l1All])
 have key:∀(r d:List Int),d++r=xs→Evt (fun k n=>spec_l1All_L26 k n lo hi xs (xs.length:Int) d.length) (if (r.all fun x=>decide (lo≤x∧x≤hi))then .inr ()else .inl false):=by
  intro r
  induction r with
  | nil =>
   intro d h
   refine Evt.step (fun k n=>spec_l1All_L26.eq_2 k _ _ _ _ _ n) ?_
   rw [List.append_nil]at h
   subst h
   exact Evt.rng0 .pure
  | cons e r ih =>
   intro d h
   refine Evt.step (fun k n=>spec_l1All_L26.eq_2 k _ _ _ _ _ n) ?_
   have ih:=ih (d ++ [e]) (by simpa using h)
   rw [←len_next (r:=r) (by rw [h];exact hb)]at ih
   subst h
   refine Evt.rng (F:=fun k n x=>(Option.bind (spec_l1In x lo hi) fun r1=>(bif (!r1)then some (Sum.inl false)else(spec_l1All_L26 k n lo hi (d++e::r) ((d++e::r).length:Int) (IntKind.wrap .i64 ((d.length:Int)+1)))))) ?_
   refine Evt.bind (.const (l1In_eq _ _ _)) ?_
   by_cases h1:lo≤e∧e≤hi
   ·refine Evt.cfalse (by simp [h1]) ?_
    simp only [List.all_cons,h1,and_self,decide_true,Bool.true_and]
    exact ih
   ·refine Evt.ctrue (by rw [decide_eq_false h1];rfl) ?_
    simp only [List.all_cons,decide_eq_false h1,Bool.false_and]
    exact .pure
 have h0:=key xs [] rfl
 simp only [List.length_nil]at h0
 cases hall:(xs.all fun x=>decide (lo≤x∧x≤hi))with
 | true=>rw [hall]at h0;exact Evt.inr (Evt.diag h0) .pure
 | false=>rw [hall]at h0;exact Evt.inl (Evt.diag h0) .pure

end Go.Ev.G

namespace Go.Ev.G
open Go Go.Ev
set_option maxRecDepth 100000

theorem toV_fst{γ:Type}{v:γ}{a:List γ}{b:Bool}:(toV id v a b).1=a:=by
 unfold toV
 split
 ·rename_i h;exact h.2.symm
 ·simp
def Sized{γ:Type}(a:List (List γ)):Prop:=a.length+(a.map List.length).sum≤1000000

theorem Sized.len{γ:Type}{a:List (List γ)}(h:Sized a):a.length≤1000000:=by unfold Sized at h;omega
end Go.Ev.G

namespace Go.Ev.G
open Go Go.Ev
set_option maxRecDepth 100000

def ivGd(x:(Int×Int)×Int×Int):Prop:=gd x.1∧gd x.2∧sv x.1≤sv x.2
instance:DecidablePred ivGd:=fun x=>by unfold ivGd;exact inferInstance
end Go.Ev.G

namespace Go.Ev.G
open Go Go.Ev
set_option maxRecDepth 100000

section
variable {α β : Type}
def Flag(g:α→Option β)(z:β)(b0:Bool)(d:List α)(b:Bool)(o:List β):Prop :=
 o.length=d.length∧b=(b0&&d.all fun x=>(g x).isSome)∧(b=true→o=d.map fun x=>(g x).getD z)
theorem Flag.nil{g:α→Option β}{z:β}{b0:Bool}:Flag g z b0 [] b0 []:=⟨rfl,by simp,fun _=>rfl⟩
theorem Flag.step{g:α→Option β}{z:β}{b0 b:Bool}{d:List α}{o:List β}{e:α}{v:β}(h:Flag g z b0 d b o)(hv:b=true→(g e).isSome=true→g e=some v):Flag g z b0 (d ++ [e]) (b&&(g e).isSome) (o ++ [v]):=by
 obtain⟨h1,h2,h3⟩:=h
 refine⟨by simp [h1],?_,?_⟩
 ·rw [h2,List.all_append]
  simp only [List.all_cons,List.all_nil,Bool.and_true,Bool.and_assoc]
 ·intro hh
  rw [Bool.and_eq_true]at hh
  rw [List.map_append,h3 hh.1]
  simp only [List.map_cons,List.map_nil,hv hh.1 hh.2,Option.getD_some]
end

end Go.Ev.G

namespace Go.Ev
open Go

section
variable {α β : Type}
def Ev3{α:Type}(f:Nat→Nat→Nat→Option α)(r:α):Prop:=∃k0,∀k m n,k0≤k→k0≤m→k0≤n→f k m n=some r

theorem Ev3.of{f:Nat→Option α}{r:α}(h:Evt (fun k _=>f k) r):Ev3 (fun k _ _=>f k) r:=by
 obtain⟨k0,h⟩:=h
 exact⟨k0,fun k m n hk _ _=>h k k hk hk⟩
theorem Ev3.diag{f:Nat→Nat→Nat→Option α}{r:α}(h:Ev3 f r):Evt (fun k m=>f k m k) r:=by
 obtain⟨k0,h⟩:=h
 exact⟨k0,fun k m hk hm=>h k m k hk hm hk⟩
theorem Ev3.const{o:Option α}{r:α}(h:o=some r):Ev3 (fun _ _ _=>o) r:=⟨0,fun _ _ _ _ _ _=>h⟩
theorem Ev3.pure{r:α}:Ev3 (fun _ _ _=>some r) r:=⟨0,fun _ _ _ _ _ _=>rfl⟩
theorem Ev3.bind{f:Nat→Nat→Nat→Option α}{g:Nat→Nat→Nat→α→Option β}{a:α}{r:β}(h:Ev3 f a)(h':Ev3 (fun k m n=>g k m n a) r):Ev3 (fun k m n=>Option.bind (f k m n) fun x=>g k m n x) r:=by
 obtain⟨k0,h⟩:=h
 obtain⟨k1,h'⟩:=h'
 refine⟨max k0 k1,fun k m n hk hm hn => ?_⟩
 exact(congrArg (fun o=>Option.bind o fun x=>g k m n x) (h k m n (by omega) (by omega) (by omega))).trans (h' k m n (by omega) (by omega) (by omega))
theorem Ev3.inr{R P A:Type}{f:Nat→Nat→Nat→Option (R ⊕ P)}{G:Nat→Nat→Nat→R→Option A}{K:Nat→Nat→Nat→P→Option A}{y:P}{r:A}(h:Ev3 f (.inr y))(h':Ev3 (fun k m n=>K k m n y) r):Ev3 (fun k m n=>both (f k m n) (G k m n) (K k m n)) r:=by
 obtain⟨k0,h⟩:=h
 obtain⟨k1,h'⟩:=h'
 refine⟨max k0 k1,fun k m n hk hm hn => ?_⟩
 exact(congrArg (fun o=>both o (G k m n) (K k m n)) (h k m n (by omega) (by omega) (by omega))).trans (h' k m n (by omega) (by omega) (by omega))
theorem Ev3.inl{R P A:Type}{f:Nat→Nat→Nat→Option (R ⊕ P)}{G:Nat→Nat→Nat→R→Option A}{K:Nat→Nat→Nat→P→Option A}{q:R}{r:A}(h:Ev3 f (.inl q))(h':Ev3 (fun k m n=>G k m n q) r):Ev3 (fun k m n=>both (f k m n) (G k m n) (K k m n)) r:=by
 obtain⟨k0,h⟩:=h
 obtain⟨k1,h'⟩:=h'
 refine⟨max k0 k1,fun k m n hk hm hn => ?_⟩
 exact(congrArg (fun o=>both o (G k m n) (K k m n)) (h k m n (by omega) (by omega) (by omega))).trans (h' k m n (by omega) (by omega) (by omega))
theorem Ev3.ctrue{c:Bool}{f g:Nat→Nat→Nat→Option α}{r:α}(hc:c=true)(h:Ev3 f r):Ev3 (fun k m n=>bif c then f k m n else g k m n) r:=by subst hc;exact h
theorem Ev3.cfalse{c:Bool}{f g:Nat→Nat→Nat→Option α}{r:α}(hc:c=false)(h:Ev3 g r):Ev3 (fun k m n=>bif c then f k m n else g k m n) r:=by subst hc;exact h
theorem Ev3.step{L F:Nat→Nat→Nat→Option α}{r:α}(hL:∀k m n,L k m (n+1)=F k m n)(h:Ev3 F r):Ev3 L r:=by
 obtain⟨k0,h⟩:=h
 refine⟨k0+1,fun k m n hk hm hn => ?_⟩
 obtain⟨n,rfl⟩:∃n',n=n'+1:=⟨n - 1,by omega⟩
 rw [hL]
 exact h k m n (by omega) (by omega) (by omega)
end
end Go.Ev

namespace Go.Ev.G
open Go Go.Ev
set_option maxRecDepth 100000

abbrev Iv:=(Int×Int)×Int×Int
def minD(a b:Int×Int):Int×Int:=if sv b<sv a then b else a
def maxD(a b:Int×Int):Int×Int:=if sv a<sv b then b else a
theorem minD_gd{a b:Int×Int}(ha:gd a)(hb:gd b):gd (minD a b):=by unfold minD;split;exact hb;exact ha
theorem maxD_gd{a b:Int×Int}(ha:gd a)(hb:gd b):gd (maxD a b):=by unfold maxD;split;exact hb;exact ha
theorem minD_sv(a b:Int×Int):sv (minD a b)=min (sv a) (sv b):=by unfold minD;split <;> omega
theorem maxD_sv(a b:Int×Int):sv (maxD a b)=max (sv a) (sv b):=by unfold maxD;split <;> omega
end Go.Ev.G

namespace Go.Ev.G
open Go Go.Ev
set_option maxRecDepth 100000

abbrev Tm:=Int×Int×Int×Int
def tmGd(t:Tm):Prop:=(-1000≤t.1∧t.1≤1000)∧(0≤t.2.1∧t.2.1≤4)∧(0≤t.2.2.1∧t.2.2.1≤4)∧(0≤t.2.2.2∧t.2.2.2≤4)∧t.2.1+t.2.2.1+t.2.2.2≤4
instance:DecidablePred tmGd:=fun x=>by unfold tmGd;exact inferInstance

end Go.Ev.G

namespace Go.Ev.G
open Go Go.Ev
set_option maxRecDepth 100000

def tmW(t:Tm):Prop:=(-10000≤t.1∧t.1≤10000)∧(0≤t.2.1∧t.2.1≤4)∧(0≤t.2.2.1∧t.2.2.1≤4)∧(0≤t.2.2.2∧t.2.2.2≤4)
def sgl(a:Int×Int):Iv:=(a,a)
theorem sgl_iv{a:Int×Int}(h:gd a):ivGd (sgl a):=⟨h,h,Int.le_refl _⟩
end Go.Ev.G

namespace Go.Ev.G
open Go Go.Ev
set_option maxRecDepth 100000

structure Sd(s:List (List Tm))(sides:List Iv):Prop where
 sd:∀i∈sides,ivGd i
 ln:sides.length≤3
 tm:∀p∈s,∀t∈p,tmW t
 lp:∀p∈s,p.length<lenB
abbrev Ed:=Int×(Int×Int)×(Int×Int)×Int×Int
def sidesE(e:Ed):List Iv:=if e.1=0 then [sgl e.2.1,(minD e.2.2.1 e.2.2.2,maxD e.2.2.1 e.2.2.2)]else [(minD e.2.2.1 e.2.2.2,maxD e.2.2.1 e.2.2.2),sgl e.2.1]
structure EdOk(e:Ed):Prop where
 sd:e.1=0∨e.1=1
 a:gd e.2.1
 f:gd e.2.2.1
 t:gd e.2.2.2
theorem along_iv{a b:Int×Int}(ha:gd a)(hb:gd b):ivGd (minD a b,maxD a b):=⟨minD_gd ha hb,maxD_gd ha hb,by simp only [minD_sv,maxD_sv];omega⟩
theorem EdOk.sides{e:Ed}(h:EdOk e):∀i∈sidesE e,ivGd i:=by
 intro i hi
 have q:=along_iv h.f h.t
 have r:=sgl_iv h.a
 unfold sidesE at hi
 split at hi <;> (simp only [List.mem_cons,List.not_mem_nil,or_false]at hi;rcases hi with rfl | rfl <;> assumption)
theorem EdOk.len(e:Ed):(sidesE e).length=2:=by unfold sidesE;split <;> rfl
theorem Sd.edge{s:List (List Tm)}(h1:∀p∈s,∀t∈p,tmW t)(h2:∀p∈s,p.length<lenB){e:Ed}(h:EdOk e):Sd s (sidesE e):=⟨h.sides,by rw [EdOk.len];omega,h1,h2⟩
end Go.Ev.G

namespace Go.Ev.G
open Go Go.Ev
set_option maxRecDepth 100000

section
variable {V : Type}
end
structure Pl(s:List (List Tm)):Prop where
 ln:s.length=2
 tm:∀p∈s,∀t∈p,tmW t
 lp:∀p∈s,p.length<lenB
theorem Pl.sd{s:List (List Tm)}(h:Pl s){e:Ed}(he:EdOk e):Sd s (sidesE e):=Sd.edge h.tm h.lp he
end Go.Ev.G

namespace Go.Ev.G
open Go Go.Ev
set_option maxRecDepth 100000

abbrev Cl:=Int×Bool×Int×Int
def cellsV(n:Nat):List Cl := [(0:Int),1,2].flatMap fun s => [false,true].flatMap fun u=>(List.range n).flatMap fun i:Nat=>(List.range n).map fun j:Nat=>(s,u,(i:Int),(j:Int))
theorem cbCells0(k:Nat):spec_cbCells (k+100) 0=some (cellsV 1):=by kernel_rfl
theorem cbCells1(k:Nat):spec_cbCells (k+100) 1=some (cellsV 2):=by kernel_rfl
theorem cbCells2(k:Nat):spec_cbCells (k+100) 2=some (cellsV 4):=by kernel_rfl
theorem surfaceCells0(k:Nat):impl_surfaceCells (k+100) 0=some (cellsV 1):=by kernel_rfl
theorem surfaceCells1(k:Nat):impl_surfaceCells (k+100) 1=some (cellsV 2):=by kernel_rfl
theorem surfaceCells2(k:Nat):impl_surfaceCells (k+100) 2=some (cellsV 4):=by kernel_rfl

theorem evt_100{α:Type}{f:Nat→Option α}{r:α}(h:∀k,f (k+100)=some r):Evt (fun k _=>f k) r:=⟨100,fun k n hk _=>by
 obtain⟨m,rfl⟩:∃m,k=m+100:=⟨k - 100,by omega⟩
 exact h m⟩
theorem cbCells_ev{n:Nat}(hn:n≤2):Evt (fun k _=>spec_cbCells k n) (cellsV (2 ^ n)):=by
 rcases(by omega:n=0∨n=1∨n=2)with rfl | rfl | rfl
 ·exact evt_100 cbCells0
 ·exact evt_100 cbCells1
 ·exact evt_100 cbCells2
theorem surfaceCells_ev{n:Nat}(hn:n≤2):Evt (fun k _=>impl_surfaceCells k n) (cellsV (2 ^ n)):=by
 rcases(by omega:n=0∨n=1∨n=2)with rfl | rfl | rfl
 ·exact evt_100 surfaceCells0
 ·exact evt_100 surfaceCells1
 ·exact evt_100 surfaceCells2
theorem cellsV_len{n:Nat}(hn:n≤2):(cellsV (2 ^ n)).length=6*2 ^ (2*n)∧2 ^ (2*n)≤16:=by
 rcases(by omega:n=0∨n=1∨n=2)with rfl | rfl | rfl <;> exact⟨rfl,by decide⟩
theorem cbCount_eq{n:Nat}(hn:n≤2):spec_cbCount n=some (((cellsV (2 ^ n)).length:Nat):Int):=by
 have hc:=cellsV_len hn
 unfold spec_cbCount
 have e:IntKind.wrap .i64 (2*(n:Int))=((2*n:Nat):Int):=by rw [w64 (by omega) (by omega)];omega
 rw [e,dyPower_eq (by omega),Option.bind_some,w64 (by omega) (by omega),hc.1]
 congr 1
end Go.Ev.G

namespace Go.Ev.G
open Go Go.Ev
set_option maxRecDepth 100000

def cornX(n x:Nat):List (Int×Int×Int):=(List.range (n+1)).flatMap fun y:Nat=>(List.range (n+1)).map fun z:Nat=>((x:Int),(y:Int),(z:Int))
def ordV(d:Int)(n:Nat)(p:Int×Int×Int):List Int:=(impl_around 100 (cellsV n) d p).getD []
def idxV(n:Nat):List Int:=(List.range (6*n*n)).map fun i:Nat=>(i:Int)
def inner(n:Nat)(p:Int×Int×Int):Bool:=(Int.tmod p.1 n != 0)&&(Int.tmod p.2.1 n != 0)&&(Int.tmod p.2.2 n != 0)

theorem o0_0(k:Nat):(cornX 1 0).map (fun p=>impl_around (k+100) (cellsV 1) 0 p)=(cornX 1 0).map (fun p=>some (ordV 0 1 p)):=by kernel_rfl
theorem s0_0(k:Nat):(cornX 1 0).map (fun p=>bif inner 1 p then some []else spec_cbAround (k+100) (idxV 1) [p.1,p.2.1,p.2.2] 1 (cellsV 1))=(cornX 1 0).map (fun p=>some (ordV 0 1 p)):=by kernel_rfl
theorem b0_0:((cornX 1 0).all fun p=>(ordV 0 1 p).all fun i=>decide (0≤i)&&decide (i<6))=true:=by kernel_rfl
theorem l0_0:((cornX 1 0).all fun p=>Nat.ble (ordV 0 1 p).length 1000)=true:=by kernel_rfl
theorem o0_1(k:Nat):(cornX 1 1).map (fun p=>impl_around (k+100) (cellsV 1) 0 p)=(cornX 1 1).map (fun p=>some (ordV 0 1 p)):=by kernel_rfl
theorem s0_1(k:Nat):(cornX 1 1).map (fun p=>bif inner 1 p then some []else spec_cbAround (k+100) (idxV 1) [p.1,p.2.1,p.2.2] 1 (cellsV 1))=(cornX 1 1).map (fun p=>some (ordV 0 1 p)):=by kernel_rfl
theorem b0_1:((cornX 1 1).all fun p=>(ordV 0 1 p).all fun i=>decide (0≤i)&&decide (i<6))=true:=by kernel_rfl
theorem l0_1:((cornX 1 1).all fun p=>Nat.ble (ordV 0 1 p).length 1000)=true:=by kernel_rfl
theorem o1_0(k:Nat):(cornX 2 0).map (fun p=>impl_around (k+100) (cellsV 2) 1 p)=(cornX 2 0).map (fun p=>some (ordV 1 2 p)):=by kernel_rfl
theorem s1_0(k:Nat):(cornX 2 0).map (fun p=>bif inner 2 p then some []else spec_cbAround (k+100) (idxV 2) [p.1,p.2.1,p.2.2] 2 (cellsV 2))=(cornX 2 0).map (fun p=>some (ordV 1 2 p)):=by kernel_rfl
theorem b1_0:((cornX 2 0).all fun p=>(ordV 1 2 p).all fun i=>decide (0≤i)&&decide (i<24))=true:=by kernel_rfl
theorem l1_0:((cornX 2 0).all fun p=>Nat.ble (ordV 1 2 p).length 1000)=true:=by kernel_rfl
theorem o1_1(k:Nat):(cornX 2 1).map (fun p=>impl_around (k+100) (cellsV 2) 1 p)=(cornX 2 1).map (fun p=>some (ordV 1 2 p)):=by kernel_rfl
theorem s1_1(k:Nat):(cornX 2 1).map (fun p=>bif inner 2 p then some []else spec_cbAround (k+100) (idxV 2) [p.1,p.2.1,p.2.2] 2 (cellsV 2))=(cornX 2 1).map (fun p=>some (ordV 1 2 p)):=by kernel_rfl
theorem b1_1:((cornX 2 1).all fun p=>(ordV 1 2 p).all fun i=>decide (0≤i)&&decide (i<24))=true:=by kernel_rfl
theorem l1_1:((cornX 2 1).all fun p=>Nat.ble (ordV 1 2 p).length 1000)=true:=by kernel_rfl
theorem o1_2(k:Nat):(cornX 2 2).map (fun p=>impl_around (k+100) (cellsV 2) 1 p)=(cornX 2 2).map (fun p=>some (ordV 1 2 p)):=by kernel_rfl
theorem s1_2(k:Nat):(cornX 2 2).map (fun p=>bif inner 2 p then some []else spec_cbAround (k+100) (idxV 2) [p.1,p.2.1,p.2.2] 2 (cellsV 2))=(cornX 2 2).map (fun p=>some (ordV 1 2 p)):=by kernel_rfl
theorem b1_2:((cornX 2 2).all fun p=>(ordV 1 2 p).all fun i=>decide (0≤i)&&decide (i<24))=true:=by kernel_rfl
theorem l1_2:((cornX 2 2).all fun p=>Nat.ble (ordV 1 2 p).length 1000)=true:=by kernel_rfl
theorem o2_0(k:Nat):(cornX 4 0).map (fun p=>impl_around (k+100) (cellsV 4) 2 p)=(cornX 4 0).map (fun p=>some (ordV 2 4 p)):=by kernel_rfl
theorem s2_0(k:Nat):(cornX 4 0).map (fun p=>bif inner 4 p then some []else spec_cbAround (k+100) (idxV 4) [p.1,p.2.1,p.2.2] 4 (cellsV 4))=(cornX 4 0).map (fun p=>some (ordV 2 4 p)):=by kernel_rfl
theorem b2_0:((cornX 4 0).all fun p=>(ordV 2 4 p).all fun i=>decide (0≤i)&&decide (i<96))=true:=by kernel_rfl
theorem l2_0:((cornX 4 0).all fun p=>Nat.ble (ordV 2 4 p).length 1000)=true:=by kernel_rfl
theorem o2_1(k:Nat):(cornX 4 1).map (fun p=>impl_around (k+100) (cellsV 4) 2 p)=(cornX 4 1).map (fun p=>some (ordV 2 4 p)):=by kernel_rfl
theorem s2_1(k:Nat):(cornX 4 1).map (fun p=>bif inner 4 p then some []else spec_cbAround (k+100) (idxV 4) [p.1,p.2.1,p.2.2] 4 (cellsV 4))=(cornX 4 1).map (fun p=>some (ordV 2 4 p)):=by kernel_rfl
theorem b2_1:((cornX 4 1).all fun p=>(ordV 2 4 p).all fun i=>decide (0≤i)&&decide (i<96))=true:=by kernel_rfl
theorem l2_1:((cornX 4 1).all fun p=>Nat.ble (ordV 2 4 p).length 1000)=true:=by kernel_rfl
theorem o2_2(k:Nat):(cornX 4 2).map (fun p=>impl_around (k+100) (cellsV 4) 2 p)=(cornX 4 2).map (fun p=>some (ordV 2 4 p)):=by kernel_rfl
theorem s2_2(k:Nat):(cornX 4 2).map (fun p=>bif inner 4 p then some []else spec_cbAround (k+100) (idxV 4) [p.1,p.2.1,p.2.2] 4 (cellsV 4))=(cornX 4 2).map (fun p=>some (ordV 2 4 p)):=by kernel_rfl
theorem b2_2:((cornX 4 2).all fun p=>(ordV 2 4 p).all fun i=>decide (0≤i)&&decide (i<96))=true:=by kernel_rfl
theorem l2_2:((cornX 4 2).all fun p=>Nat.ble (ordV 2 4 p).length 1000)=true:=by kernel_rfl
theorem o2_3(k:Nat):(cornX 4 3).map (fun p=>impl_around (k+100) (cellsV 4) 2 p)=(cornX 4 3).map (fun p=>some (ordV 2 4 p)):=by kernel_rfl
theorem s2_3(k:Nat):(cornX 4 3).map (fun p=>bif inner 4 p then some []else spec_cbAround (k+100) (idxV 4) [p.1,p.2.1,p.2.2] 4 (cellsV 4))=(cornX 4 3).map (fun p=>some (ordV 2 4 p)):=by kernel_rfl
theorem b2_3:((cornX 4 3).all fun p=>(ordV 2 4 p).all fun i=>decide (0≤i)&&decide (i<96))=true:=by kernel_rfl
theorem l2_3:((cornX 4 3).all fun p=>Nat.ble (ordV 2 4 p).length 1000)=true:=by kernel_rfl
theorem o2_4(k:Nat):(cornX 4 4).map (fun p=>impl_around (k+100) (cellsV 4) 2 p)=(cornX 4 4).map (fun p=>some (ordV 2 4 p)):=by kernel_rfl
theorem s2_4(k:Nat):(cornX 4 4).map (fun p=>bif inner 4 p then some []else spec_cbAround (k+100) (idxV 4) [p.1,p.2.1,p.2.2] 4 (cellsV 4))=(cornX 4 4).map (fun p=>some (ordV 2 4 p)):=by kernel_rfl
theorem b2_4:((cornX 4 4).all fun p=>(ordV 2 4 p).all fun i=>decide (0≤i)&&decide (i<96))=true:=by kernel_rfl
theorem l2_4:((cornX 4 4).all fun p=>Nat.ble (ordV 2 4 p).length 1000)=true:=by kernel_rfl

theorem cornX_mem{n x:Nat}{y z:Int}(hy:0≤y)(hy2:y≤n)(hz:0≤z)(hz2:z≤n):((x:Int),y,z)∈cornX n x:=by
 unfold cornX
 rw [List.mem_flatMap]
 refine⟨y.toNat,by rw [List.mem_range];omega,?_⟩
 rw [List.mem_map]
 refine⟨z.toNat,by rw [List.mem_range];omega,?_⟩
 simp only [Prod.mk.injEq,true_and]
 omega

theorem map_at{α β:Type}{f g:α→β}{l:List α}(h:l.map f=l.map g){p:α}(hp:p∈l):f p=g p:=List.map_inj_left.1 h p hp

structure InB(d:Nat)(x y z:Int):Prop where
 hd:d≤2
 x0:0≤x
 x1:x≤(2 ^ d:Nat)
 y0:0≤y
 y1:y≤(2 ^ d:Nat)
 z0:0≤z
 z1:z≤(2 ^ d:Nat)

theorem around_ord{d:Nat}{x y z:Int}(h:InB d x y z)(k:Nat):impl_around (k+100) (cellsV (2 ^ d)) d (x,y,z)=some (ordV d (2 ^ d) (x,y,z)):=by
 obtain⟨hd,x0,x1,y0,y1,z0,z1⟩:=h
 have hd3:d=0∨d=1∨d=2:=by omega
 rcases hd3 with rfl | rfl | rfl
 ·have hx:x=0∨x=1:=by simp at x1;omega
  rcases hx with rfl | rfl
  ·exact map_at (o0_0 k) (cornX_mem (x:=0) y0 y1 z0 z1)
  ·exact map_at (o0_1 k) (cornX_mem (x:=1) y0 y1 z0 z1)
 ·have hx:x=0∨x=1∨x=2:=by simp at x1;omega
  rcases hx with rfl | rfl | rfl
  ·exact map_at (o1_0 k) (cornX_mem (x:=0) y0 y1 z0 z1)
  ·exact map_at (o1_1 k) (cornX_mem (x:=1) y0 y1 z0 z1)
  ·exact map_at (o1_2 k) (cornX_mem (x:=2) y0 y1 z0 z1)
 ·have hx:x=0∨x=1∨x=2∨x=3∨x=4:=by simp at x1;omega
  rcases hx with rfl | rfl | rfl | rfl | rfl
  ·exact map_at (o2_0 k) (cornX_mem (x:=0) y0 y1 z0 z1)
  ·exact map_at (o2_1 k) (cornX_mem (x:=1) y0 y1 z0 z1)
  ·exact map_at (o2_2 k) (cornX_mem (x:=2) y0 y1 z0 z1)
  ·exact map_at (o2_3 k) (cornX_mem (x:=3) y0 y1 z0 z1)
  ·exact map_at (o2_4 k) (cornX_mem (x:=4) y0 y1 z0 z1)
theorem saround_ord{d:Nat}{x y z:Int}(h:InB d x y z)(k:Nat):(bif inner (2 ^ d) (x,y,z)then some []else spec_cbAround (k+100) (idxV (2 ^ d)) [x,y,z] ((2 ^ d:Nat):Int) (cellsV (2 ^ d)))=some (ordV d (2 ^ d) (x,y,z)):=by
 obtain⟨hd,x0,x1,y0,y1,z0,z1⟩:=h
 have hd3:d=0∨d=1∨d=2:=by omega
 rcases hd3 with rfl | rfl | rfl
 ·have hx:x=0∨x=1:=by simp at x1;omega
  rcases hx with rfl | rfl
  ·exact map_at (s0_0 k) (cornX_mem (x:=0) y0 y1 z0 z1)
  ·exact map_at (s0_1 k) (cornX_mem (x:=1) y0 y1 z0 z1)
 ·have hx:x=0∨x=1∨x=2:=by simp at x1;omega
  rcases hx with rfl | rfl | rfl
  ·exact map_at (s1_0 k) (cornX_mem (x:=0) y0 y1 z0 z1)
  ·exact map_at (s1_1 k) (cornX_mem (x:=1) y0 y1 z0 z1)
  ·exact map_at (s1_2 k) (cornX_mem (x:=2) y0 y1 z0 z1)
 ·have hx:x=0∨x=1∨x=2∨x=3∨x=4:=by simp at x1;omega
  rcases hx with rfl | rfl | rfl | rfl | rfl
  ·exact map_at (s2_0 k) (cornX_mem (x:=0) y0 y1 z0 z1)
  ·exact map_at (s2_1 k) (cornX_mem (x:=1) y0 y1 z0 z1)
  ·exact map_at (s2_2 k) (cornX_mem (x:=2) y0 y1 z0 z1)
  ·exact map_at (s2_3 k) (cornX_mem (x:=3) y0 y1 z0 z1)
  ·exact map_at (s2_4 k) (cornX_mem (x:=4) y0 y1 z0 z1)
theorem all_at{l:List (Int×Int×Int)}{q:Int×Int×Int→List Int}{m:Int}(h:(l.all fun p=>(q p).all fun i=>decide (0≤i)&&decide (i<m))=true){p:Int×Int×Int}(hp:p∈l):∀i∈q p,0≤i∧i<m:=by
 intro i hi
 have h1:=List.all_eq_true.1 (List.all_eq_true.1 h p hp) i hi
 rw [Bool.and_eq_true]at h1
 exact⟨of_decide_eq_true h1.1,of_decide_eq_true h1.2⟩
theorem ord_bnd{d:Nat}{x y z:Int}(h:InB d x y z):∀i∈ordV d (2 ^ d) (x,y,z),0≤i∧i<((6*2 ^ d*2 ^ d:Nat):Int):=by
 obtain⟨hd,x0,x1,y0,y1,z0,z1⟩:=h
 have hd3:d=0∨d=1∨d=2:=by omega
 rcases hd3 with rfl | rfl | rfl
 ·have hx:x=0∨x=1:=by simp at x1;omega
  rcases hx with rfl | rfl
  ·exact all_at b0_0 (cornX_mem (x:=0) y0 y1 z0 z1)
  ·exact all_at b0_1 (cornX_mem (x:=1) y0 y1 z0 z1)
 ·have hx:x=0∨x=1∨x=2:=by simp at x1;omega
  rcases hx with rfl | rfl | rfl
  ·exact all_at b1_0 (cornX_mem (x:=0) y0 y1 z0 z1)
  ·exact all_at b1_1 (cornX_mem (x:=1) y0 y1 z0 z1)
  ·exact all_at b1_2 (cornX_mem (x:=2) y0 y1 z0 z1)
 ·have hx:x=0∨x=1∨x=2∨x=3∨x=4:=by simp at x1;omega
  rcases hx with rfl | rfl | rfl | rfl | rfl
  ·exact all_at b2_0 (cornX_mem (x:=0) y0 y1 z0 z1)
  ·exact all_at b2_1 (cornX_mem (x:=1) y0 y1 z0 z1)
  ·exact all_at b2_2 (cornX_mem (x:=2) y0 y1 z0 z1)
  ·exact all_at b2_3 (cornX_mem (x:=3) y0 y1 z0 z1)
  ·exact all_at b2_4 (cornX_mem (x:=4) y0 y1 z0 z1)
theorem len_at{l:List (Int×Int×Int)}{q:Int×Int×Int→List Int}(h:(l.all fun p=>Nat.ble (q p).length 1000)=true){p:Int×Int×Int}(hp:p∈l):(q p).length≤1000:=Nat.le_of_ble_eq_true (List.all_eq_true.1 h p hp)
theorem ordV_len{d:Nat}{x y z:Int}(h:InB d x y z):(ordV d (2 ^ d) (x,y,z)).length≤1000:=by
 obtain⟨hd,x0,x1,y0,y1,z0,z1⟩:=h
 have hd3:d=0∨d=1∨d=2:=by omega
 rcases hd3 with rfl | rfl | rfl
 ·have hx:x=0∨x=1:=by simp at x1;omega
  rcases hx with rfl | rfl
  ·exact len_at l0_0 (cornX_mem (x:=0) y0 y1 z0 z1)
  ·exact len_at l0_1 (cornX_mem (x:=1) y0 y1 z0 z1)
 ·have hx:x=0∨x=1∨x=2:=by simp at x1;omega
  rcases hx with rfl | rfl | rfl
  ·exact len_at l1_0 (cornX_mem (x:=0) y0 y1 z0 z1)
  ·exact len_at l1_1 (cornX_mem (x:=1) y0 y1 z0 z1)
  ·exact len_at l1_2 (cornX_mem (x:=2) y0 y1 z0 z1)
 ·have hx:x=0∨x=1∨x=2∨x=3∨x=4:=by simp at x1;omega
  rcases hx with rfl | rfl | rfl | rfl | rfl
  ·exact len_at l2_0 (cornX_mem (x:=0) y0 y1 z0 z1)
  ·exact len_at l2_1 (cornX_mem (x:=1) y0 y1 z0 z1)
  ·exact len_at l2_2 (cornX_mem (x:=2) y0 y1 z0 z1)
  ·exact len_at l2_3 (cornX_mem (x:=3) y0 y1 z0 z1)
  ·exact len_at l2_4 (cornX_mem (x:=4) y0 y1 z0 z1)
end Go.Ev.G

namespace Go.Ev.G
open Go Go.Ev
set_option maxRecDepth 100000

theorem cbAround_L58_nat(k:Nat)(A B x1:List Int)(x2:Int)(x3:List (Int×Bool×Int×Int))(x21:List Int)(x22:Int):∀(n:Nat) (x9:List Int) (x23:Int),
  spec_cbAround_L58 k n A x1 x2 x3 x9 x21 x22 x23=(spec_cbAround_L58 k n B x1 x2 x3 x9 x21 x22 x23).map (Sum.map id fun t=>(A,t.2))
 | 0,_,_=>rfl
 | n+1,x9,x23=>by
  rw [spec_cbAround_L58.eq_2,spec_cbAround_L58.eq_2]
  simp only [cbAround_L58_nat k A B x1 x2 x3 x21 x22 n]
  cases decide (x23<x22)
  ·rfl
  cases decide (0≤x23)
  ·rfl
  cases decide (x23<(x21.length:Int))
  ·rfl
  simp only [cond_true]
  cases (x21.getD (Int.toNat x23) 0==0)
  ·simp only [cond_false]
   cases (x21.getD (Int.toNat x23) 0==x2)
   ·rfl
   ·simp only [cond_true]
    cases decide (x23<(x9.length:Int)) <;> rfl
  ·simp only [cond_true]
   cases decide (x23<(x9.length:Int)) <;> rfl

def labF(A:List Int)(i:Int):Int:=A.getD i.toNat 0

theorem cbAround_L506_nat(k:Nat){A B:List Int}(hl:A.length=B.length)(hf:∀i:Nat,i<B.length→A.getD i 0=labF A (B.getD i 0))(x1:List Int)(x2:Int)(x9:List Int)(x41:List (Int×Bool×Int×Int))(x42:Int):∀(n:Nat) (x12:List (List Int)) (x13:List Int) (x43:Int),
  spec_cbAround_L506 k n A x1 x2 x9 x12 (x13.map (labF A)) x41 x42 x43=(spec_cbAround_L506 k n B x1 x2 x9 x12 x13 x41 x42 x43).map (Sum.map id fun t=>(t.1,t.2.1,t.2.2.1.map (labF A),()))
 | 0,_,_,_=>rfl
 | n+1,x12,x13,x43=>by
  rw [spec_cbAround_L506.eq_2,spec_cbAround_L506.eq_2]
  have ih:=cbAround_L506_nat k hl hf x1 x2 x9 x41 x42 n
  cases decide (x43<x42)
  ·rfl
  cases h0:decide (0≤x43)
  ·rfl
  cases decide (x43<(x41.length:Int))
  ·rfl
  simp only [cond_true]
  cases spec_cbOffset k (x41.getD (Int.toNat x43) (0,false,0,0)) x1 x2 with
  | none=>rfl
  | some r4 =>
   simp only [Option.bind_some]
   cases decide ((r4.length:Int)>0)
   ·simp only [cond_false]
    exact ih _ _ _
   ·simp only [cond_true]
    cases decide (x12.length+([r4]:List (List Int)).length<274877906944)
    ·rfl
    simp only [cond_true,hl,List.length_map]
    cases hb:decide (x43<(B.length:Int))
    ·rfl
    simp only [cond_true,List.length_cons,List.length_nil]
    cases decide (x13.length+(0+1)<274877906944)
    ·rfl
    simp only [cond_true]
    have h0:=of_decide_eq_true h0
    have hb:=of_decide_eq_true hb
    have e:x13.map (labF A) ++ [A.getD (Int.toNat x43) 0]=(x13 ++ [B.getD (Int.toNat x43) 0]).map (labF A):=by
     rw [List.map_append,hf _ (by omega)];rfl
    rw [e]
    exact ih _ _ _

theorem cbAround_L1047142_nat(k:Nat)(f:Int→Int)(x9:List Int)(x12:List (List Int))(x13 x17:List Int)(x18 x68 x69 x79:Int):∀(n:Nat) (x80:Int),
  spec_cbAround_L1047142 k n x9 x12 (x13.map f) (x17.map f) x18 x68 x69 x79 x80=(spec_cbAround_L1047142 k n x9 x12 x13 x17 x18 x68 x69 x79 x80).map (Sum.map id fun t=>(t.1,t.2.1,t.2.2.1.map f,t.2.2.2.1.map f,t.2.2.2.2))
 | 0,_=>rfl
 | n+1,x80=>by
  rw [spec_cbAround_L1047142.eq_2,spec_cbAround_L1047142.eq_2]
  simp only [cbAround_L1047142_nat k f x9 x12 x13 x17 x18 x68 x69 x79 n]
  cases decide (x80<x79)
  ·rfl
  cases decide (0≤x18)
  ·rfl
  cases decide (x18<(x12.length:Int))
  ·rfl
  cases decide (0≤x80)
  ·rfl
  cases decide (x80<(x12.length:Int))
  ·rfl
  simp only [cond_true]
  cases spec_cbTurn x9 (x12.getD (Int.toNat x18) []) (x12.getD (Int.toNat x80) [])with
  | none=>rfl
  | some r8 =>
   simp only [Option.bind_some]
   cases decide (r8>0) <;> rfl

theorem both_map{R P P' A:Type}(o:Option (R ⊕ P))(g:P→P')(f:R→Option A)(h:P'→Option A):both (o.map (Sum.map id g)) f h=both o f (fun y=>h (g y)):=by
 cases o with
 | none=>rfl
 | some s=>cases s <;> rfl

theorem map_both{R P A B:Type}(o:Option (R ⊕ P))(f:R→Option A)(h:P→Option A)(u:A→B):(both o f h).map u=both o (fun r=>(f r).map u) (fun y=>(h y).map u):=by
 cases o with
 | none=>rfl
 | some s=>cases s <;> rfl

theorem L1047142_inr(k:Nat)(x9:List Int)(x12:List (List Int))(x13 x17:List Int)(x18 x68 x69 x79:Int):∀(n:Nat) (x80:Int) (r:List Int),spec_cbAround_L1047142 k n x9 x12 x13 x17 x18 x68 x69 x79 x80≠some (.inl r)
 | 0,_,_=>by simp [spec_cbAround_L1047142]
 | n+1,x80,r=>by
  rw [spec_cbAround_L1047142.eq_2]
  have ih:=L1047142_inr k x9 x12 x13 x17 x18 x68 x69 x79 n
  cases decide (x80<x79)
  ·simp
  cases decide (0≤x18)
  ·simp
  cases decide (x18<(x12.length:Int))
  ·simp
  cases decide (0≤x80)
  ·simp
  cases decide (x80<(x12.length:Int))
  ·simp
  simp only [cond_true]
  cases spec_cbTurn x9 (x12.getD (Int.toNat x18) []) (x12.getD (Int.toNat x80) [])with
  | none=>simp
  | some r8 =>
   simp only [Option.bind_some]
   cases decide (r8>0)
   ·exact ih _ _
   ·simp

theorem cbAround_L4090_nat(k:Nat)(f:Int→Int)(hf0:f 0=f 0):∀(n:Nat) (x9:List Int) (x12:List (List Int)) (x13 x17:List Int) (x18 x68 x69:Int),
  spec_cbAround_L4090 k n x9 x12 (x13.map f) (x17.map f) x18 x68 x69=(spec_cbAround_L4090 k n x9 x12 x13 x17 x18 x68 x69).map (Sum.map (List.map f) fun t=>(t.1.map f,()))
 | 0,_,_,_,_,_,_,_=>rfl
 | n+1,x9,x12,x13,x17,x18,x68,x69=>by
  rw [spec_cbAround_L4090.eq_2,spec_cbAround_L4090.eq_2]
  have ih:=cbAround_L4090_nat k f hf0 n
  cases decide (x69<x68)
  ·rfl
  cases h0:decide (0≤x18)
  ·rfl
  simp only [cond_true,List.length_map]
  cases hb:decide (x18<(x13.length:Int))
  ·rfl
  simp only [cond_true,List.length_cons,List.length_nil]
  cases decide (x17.length+(0+1)<274877906944)
  ·rfl
  simp only [cond_true]
  have h0:=of_decide_eq_true h0
  have hb:=of_decide_eq_true hb
  have e:x17.map f ++ [(x13.map f).getD (Int.toNat x18) 0]=(x17 ++ [x13.getD (Int.toNat x18) 0]).map f:=by
   have hlt:Int.toNat x18<x13.length:=by omega
   rw [List.map_append,List.getD_eq_getElem?_getD,List.getD_eq_getElem?_getD,List.getElem?_map,List.getElem?_eq_getElem hlt]
   rfl
  rw [e,cbAround_L1047142_nat,both_map,map_both]
  cases hi:spec_cbAround_L1047142 k k x9 x12 x13 (x17 ++ [x13.getD (Int.toNat x18) 0]) x18 x68 x69 x12.length 0 with
  | none=>rfl
  | some s =>
   cases s with
   | inl r=>exact absurd hi (L1047142_inr k _ _ _ _ _ _ _ _ _ _ _)
   | inr y=>exact ih _ _ _ _ _ _ _

theorem L58_inr(k:Nat)(A x1:List Int)(x2:Int)(x3:List (Int×Bool×Int×Int))(x21:List Int)(x22:Int):∀(n:Nat) (x9:List Int) (x23:Int) (r:List Int),spec_cbAround_L58 k n A x1 x2 x3 x9 x21 x22 x23≠some (.inl r)
 | 0,_,_,_=>by simp [spec_cbAround_L58]
 | n+1,x9,x23,r=>by
  rw [spec_cbAround_L58.eq_2]
  have ih:=L58_inr k A x1 x2 x3 x21 x22 n
  cases decide (x23<x22)
  ·simp
  cases decide (0≤x23)
  ·simp
  cases decide (x23<(x21.length:Int))
  ·simp
  simp only [cond_true]
  cases (x21.getD (Int.toNat x23) 0==0)
  ·simp only [cond_false]
   cases (x21.getD (Int.toNat x23) 0==x2)
   ·exact ih _ _ _
   ·simp only [cond_true]
    cases decide (x23<(x9.length:Int))
    ·simp
    ·exact ih _ _ _
  ·simp only [cond_true]
   cases decide (x23<(x9.length:Int))
   ·simp
   ·exact ih _ _ _

theorem L506_inr(k:Nat)(A x1:List Int)(x2:Int)(x9:List Int)(x41:List (Int×Bool×Int×Int))(x42:Int):∀(n:Nat) (x12:List (List Int)) (x13:List Int) (x43:Int) (r:List Int),spec_cbAround_L506 k n A x1 x2 x9 x12 x13 x41 x42 x43≠some (.inl r)
 | 0,_,_,_,_=>by simp [spec_cbAround_L506]
 | n+1,x12,x13,x43,r=>by
  rw [spec_cbAround_L506.eq_2]
  have ih:=L506_inr k A x1 x2 x9 x41 x42 n
  cases decide (x43<x42)
  ·simp
  cases decide (0≤x43)
  ·simp
  cases decide (x43<(x41.length:Int))
  ·simp
  simp only [cond_true]
  cases spec_cbOffset k (x41.getD (Int.toNat x43) (0,false,0,0)) x1 x2 with
  | none=>simp
  | some r4 =>
   simp only [Option.bind_some]
   cases decide ((r4.length:Int)>0)
   ·exact ih _ _ _ _
   ·simp only [cond_true]
    cases decide (x12.length+([r4]:List (List Int)).length<274877906944)
    ·simp
    simp only [cond_true]
    cases decide (x43<(A.length:Int))
    ·simp
    simp only [cond_true]
    cases decide (x13.length+([(A.getD (Int.toNat x43) 0)]:List Int).length<274877906944)
    ·simp
    ·exact ih _ _ _ _

theorem cbAround_nat(k:Nat){A B:List Int}(hl:A.length=B.length)(hf:∀i:Nat,i<B.length→A.getD i 0=labF A (B.getD i 0))(p:List Int)(n:Int)(c:List (Int×Bool×Int×Int)){r:List Int}
  (h:spec_cbAround k B p n c=some r):spec_cbAround k A p n c=some (r.map (labF A)):=by
 unfold spec_cbAround at h ⊢
 rw [cbAround_L58_nat k A B,both_map]
 cases h1:spec_cbAround_L58 k k B p n c [0,0,0] p p.length 0 with
 | none=>rw [h1]at h;cases h
 | some s1 =>
  rw [h1]at h
  cases s1 with
  | inl r1=>exact absurd h1 (L58_inr k _ _ _ _ _ _ _ _ _ _)
  | inr y2 =>
   have hB:=cbAround_L58_nat k B B p n c p p.length k [0,0,0] 0
   rw [h1]at hB
   have hB:y2.1=B:=by
    simp only [Option.map_some,Sum.map_inr,Option.some.injEq,Sum.inr.injEq]at hB
    rw [hB]
   unfold both at h ⊢
   simp only [Option.bind_some,hB]at h ⊢
   have e0:([]:List Int)=([]:List Int).map (labF A):=rfl
   rw [show spec_cbAround_L506 k k A y2.2.1 y2.2.2.1 y2.2.2.2.2.1 [] [] y2.2.2.2.1 y2.2.2.2.1.length 0=spec_cbAround_L506 k k A y2.2.1 y2.2.2.1 y2.2.2.2.2.1 [] (([]:List Int).map (labF A)) y2.2.2.2.1 y2.2.2.2.1.length 0 from rfl,cbAround_L506_nat k hl hf]
   cases h2:spec_cbAround_L506 k k B y2.2.1 y2.2.2.1 y2.2.2.2.2.1 [] [] y2.2.2.2.1 y2.2.2.2.1.length 0 with
   | none=>rw [h2]at h;cases h
   | some s2 =>
    rw [h2]at h
    cases s2 with
    | inl r2=>exact absurd h2 (L506_inr k _ _ _ _ _ _ _ _ _ _ _)
    | inr y6 =>
     simp only [Option.map_some,Sum.map_inr,Option.bind_some]at h ⊢
     rw [show spec_cbAround_L4090 k k y6.1 y6.2.1 (y6.2.2.1.map (labF A)) [] 0 y6.2.1.length 0=spec_cbAround_L4090 k k y6.1 y6.2.1 (y6.2.2.1.map (labF A)) (([]:List Int).map (labF A)) 0 y6.2.1.length 0 from rfl,cbAround_L4090_nat k (labF A) rfl]
     cases h3:spec_cbAround_L4090 k k y6.1 y6.2.1 y6.2.2.1 [] 0 y6.2.1.length 0 with
     | none=>rw [h3]at h;cases h
     | some s3 =>
      rw [h3]at h
      cases s3 with
      | inl r3=>simp only [Option.bind_some,Option.some.injEq]at h;rw [←h];rfl
      | inr y13=>simp only [Option.bind_some,Option.some.injEq]at h;rw [←h];rfl
end Go.Ev.G

namespace Go.Ev.G
open Go Go.Ev
set_option maxRecDepth 100000

def isLab(a:Int):Prop:=0≤a∧a≤5
def opL(a:Int):Int:=Int.tmod (IntKind.wrap .i64 (a+3)) 6
def triV(a b c:Int):Int:=(impl_countOf a b c).getD 0
theorem isLab_cases{a:Int}(h:isLab a):a=0∨a=1∨a=2∨a=3∨a=4∨a=5:=by unfold isLab at h;omega
theorem opL_op{a:Int}(h:isLab a):opL (opL a)=a:=by
 rcases isLab_cases h with rfl | rfl | rfl | rfl | rfl | rfl <;> rfl
theorem opL_ne{a:Int}(h:isLab a):opL a≠a:=by
 rcases isLab_cases h with rfl | rfl | rfl | rfl | rfl | rfl <;> decide
theorem impl_tri(a b c:Int):impl_countOf a b c=some (triV a b c):=by
 have:∃v,impl_countOf a b c=some v:=by
  unfold impl_countOf both
  cases ((a==0)&&((b==1)&&((c==2)&&true)))
  ·cases ((a==1)&&((b==2)&&((c==0)&&true)))
   ·simp only [cond_false,Option.bind_some]
    cases ((a==2)&&((b==0)&&((c==1)&&true)))
    ·simp only [cond_false]
     cases ((a==0)&&((b==2)&&((c==1)&&true)))
     ·simp only [cond_false]
      cases ((a==2)&&((b==1)&&((c==0)&&true)))
      ·simp only [cond_false]
       cases ((a==1)&&((b==0)&&((c==2)&&true))) <;> exact⟨_,rfl⟩
      ·exact⟨_,rfl⟩
     ·exact⟨_,rfl⟩
    ·exact⟨_,rfl⟩
   ·exact⟨_,rfl⟩
  ·exact⟨_,rfl⟩
 obtain⟨v,hv⟩:=this
 unfold triV
 rw [hv];rfl
theorem tri_all:(List.range 6).map (fun a:Nat=>(List.range 6).map fun b:Nat=>(List.range 6).map fun c:Nat=>spec_cbTriple a b c)=(List.range 6).map (fun a:Nat=>(List.range 6).map fun b:Nat=>(List.range 6).map fun c:Nat=>some (triV a b c)):=by kernel_rfl
theorem spec_tri{a b c:Int}(ha:isLab a)(hb:isLab b)(hc:isLab c):spec_cbTriple a b c=some (triV a b c):=by
 obtain⟨a,rfl⟩:∃m:Nat,a=m:=⟨a.toNat,by unfold isLab at ha;omega⟩
 obtain⟨b,rfl⟩:∃m:Nat,b=m:=⟨b.toNat,by unfold isLab at hb;omega⟩
 obtain⟨c,rfl⟩:∃m:Nat,c=m:=⟨c.toNat,by unfold isLab at hc;omega⟩
 unfold isLab at ha hb hc
 have h1:=List.map_inj_left.1 tri_all a (by rw [List.mem_range];omega)
 have h2:=List.map_inj_left.1 h1 b (by rw [List.mem_range];omega)
 exact List.map_inj_left.1 h2 c (by rw [List.mem_range];omega)

theorem l1Has_ev{L:List Int}(v:Int)(hb:L.length<lenB):Evt (fun k _=>spec_l1Has k L v) (L.contains v):=by
 refine Evt.eq (f:=fun k q=>_) ?_ (fun k q=>by rw [spec_l1Has])
 have key:∀(r d:List Int),d++r=L→Evt (fun k n=>spec_l1Has_L26 k n v L (L.length:Int) d.length) (if r.contains v then .inl true else .inr ()):=by
  intro r
  induction r with
  | nil =>
   intro d h
   rw [List.append_nil]at h
   subst h
   refine Evt.step (fun k n=>spec_l1Has_L26.eq_2 k _ _ _ _ n) ?_
   rw [mid_end]
   exact Evt.cfalse rfl .pure
  | cons e r ih =>
   intro d h
   subst h
   refine Evt.step (fun k n=>spec_l1Has_L26.eq_2 k _ _ _ _ n) (Evt.ctrue mid_lt (Evt.ctrue mid_ge (Evt.ctrue mid_lt ?_)))
   rw [mid_get,List.contains_cons]
   cases he:(e==v)with
   | true =>
    have:(v==e)=true:=by rw [beq_iff_eq]at he ⊢; exact he.symm
    rw [this]
    exact Evt.ctrue rfl .pure
   | false =>
    have:(v==e)=false:=by rw [beq_eq_false_iff_ne]at he ⊢; exact fun h=>he h.symm
    rw [this,Bool.false_or]
    refine Evt.cfalse rfl ?_
    rw [w64_next (by simp at hb;omega)]
    have:=ih (d ++ [e]) (by simp)
    simpa using this
 have:=key L [] rfl
 cases hc:L.contains v with
 | true=>rw [hc]at this;exact Evt.inl (Evt.diag this) .pure
 | false=>rw [hc]at this;exact Evt.inr (Evt.diag this) .pure

theorem contains_find{v:Int}:∀(L:List Int),(match L.findIdx? (fun e=>v==e)with | some _=>true | none=>false)=L.contains v
 | []=>rfl
 | e::L=>by
  rw [List.findIdx?_cons,List.contains_cons]
  cases v==e with
  | true=>rfl
  | false =>
   have:=contains_find (v:=v) L
   simp only [Bool.false_or,←this,if_neg,Bool.false_eq_true]
   cases L.findIdx? (fun e=>v==e) <;> rfl
theorem contains_ev{L:List Int}(v:Int)(hb:L.length<lenB):Evt (fun k _=>slices_Contains_int_int k L v) (L.contains v):=by
 refine Evt.eq (f:=fun k q=>_) ?_ (fun k q=>by rw [slices_Contains_int_int])
 have h0:=index_all (d0:=(0:Int)) (L:=fun k m i=>slices_Index_int_int_L26 k m L v (L.length:Int) i) (xs:=L) (p:=fun _ e=>some (v==e)) (P:=fun e=>v==e) (fun _ _ => .pure) (fun _ _ _=>rfl) hb
 have h1:Evt (fun k _=>slices_Index_int_int k L v) (match L.findIdx? (fun e=>v==e)with | some j=>(j:Int) | none => -1):=by
  refine Evt.eq (f:=fun k q=>_) ?_ (fun k q=>by rw [slices_Index_int_int])
  cases hi:L.findIdx? (fun e=>v==e)with
  | none=>rw [hi]at h0;exact Evt.inr (Evt.diag h0) .pure
  | some j=>rw [hi]at h0;exact Evt.inl (Evt.diag h0) .pure
 refine Evt.bind h1 (.const ?_)
 rw [←contains_find]
 cases L.findIdx? (fun e=>v==e)with
 | none=>rfl
 | some j=>simp

def oppS(L:List Int):Bool:=L.any fun l=>L.contains (opL l)
def oppI:List Int→Bool
 | []=>false
 | l::r=>r.contains (opL l)||oppI r
theorem oppI_iff:∀ {L:List Int},(∀l∈L,isLab l)→(oppI L=true↔∃a∈L,opL a∈L)
 | [],_=>by simp [oppI]
 | l::r,h=>by
  have ih:=oppI_iff (L:=r) fun x hx=>h x (by simp [hx])
  have hl:=h l (by simp)
  simp only [oppI,Bool.or_eq_true,List.contains_iff_mem,ih]
  constructor
  ·rintro(h1 | ⟨a,ha,hb⟩)
   ·exact⟨l,by simp,by simp [h1]⟩
   ·exact⟨a,by simp [ha],by simp [hb]⟩
  ·rintro⟨a,ha,hb⟩
   rcases List.mem_cons.1 ha with rfl | ha
   ·rcases List.mem_cons.1 hb with hb | hb
    ·exact absurd hb (opL_ne hl)
    ·exact .inl hb
   ·rcases List.mem_cons.1 hb with hb | hb
    ·refine .inl ?_
     rw [←hb,opL_op (h a (by simp [ha]))]
     exact ha
    ·exact .inr ⟨a,ha,hb⟩
theorem opp_eq{L:List Int}(h:∀l∈L,isLab l):oppS L=oppI L:=by
 rw [Bool.eq_iff_iff,oppI_iff h]
 simp [oppS]

def sumL(a:Int):Int→List Int→Int→Int
 | _,[],s=>s
 | p,c::cs,s=>sumL a c cs (IntKind.wrap .i64 (s+triV a p c))
def sumC:List Int→Int→Int
 | a::b::cs,s=>sumL a b cs s
 | _,s=>s
theorem sumC_cases:∀(L:List Int),(L.length≤1∧∀s,sumC L s=s)∨∃a b cs,L=a::b::cs∧∀s,sumC L s=sumL a b cs s
 | [] => .inl ⟨by simp,fun _=>rfl⟩
 | [_] => .inl ⟨by simp,fun _=>rfl⟩
 | a::b::cs => .inr ⟨a,b,cs,rfl,fun _=>rfl⟩

section
variable {x0 : List Int} {x6 : Int} {x7 : List (Int × Bool × Int × Int)} {x9 x10 x11 : Int}
theorem specSum_ev{L:List Int}(hL:∀l∈L,isLab l)(hb:L.length<lenB)(x8:Int) :
  Evt (fun k n=>spec_cbDegree_L524887198 k n x0 x6 x7 x8 x9 x10 x11 L 2) (.inr (x0,x6,x7,sumC L x8,x9,x10,x11,())):=by
 have stop:∀(i x8:Int),(L.length:Int)≤i→Evt (fun k n=>spec_cbDegree_L524887198 k n x0 x6 x7 x8 x9 x10 x11 L i) (.inr (x0,x6,x7,x8,x9,x10,x11,())):=fun i x8 h =>
  Evt.step (fun k n=>spec_cbDegree_L524887198.eq_2 k _ _ _ _ _ _ _ _ _ n) (Evt.cfalse (decide_eq_false (by omega)) .pure)
 rcases sumC_cases L with ⟨h1,h2⟩ | ⟨a,b,cs,hL2,h2⟩
 ·rw [h2]
  exact stop 2 x8 (by omega)
 ·rw [h2]
  have key:∀(cs d:List Int) (p x8:Int),L=a::(d++p::cs)→Evt (fun k n=>spec_cbDegree_L524887198 k n x0 x6 x7 x8 x9 x10 x11 L ((d.length+2:Nat):Int)) (.inr (x0,x6,x7,sumL a p cs x8,x9,x10,x11,())):=by
   intro cs
   induction cs with
   | nil=>intro d p x8 h;exact stop _ _ (by rw [h];simp;omega)
   | cons c cs ih =>
    intro d p x8 h
    have hlen:L.length=d.length+3+cs.length:=by rw [h];simp;omega
    refine Evt.step (fun k n=>spec_cbDegree_L524887198.eq_2 k _ _ _ _ _ _ _ _ _ n) ?_
    have w:IntKind.wrap .i64 (((d.length+2:Nat):Int) - 1)=((d.length+1:Nat):Int):=by rw [w64] <;> simp only [lenB]at hb <;> omega
    rw [w]
    refine Evt.ctrue (decide_eq_true (by omega)) (Evt.ctrue (decide_eq_true (by omega)) (Evt.ctrue (decide_eq_true (by omega)) (Evt.ctrue (decide_eq_true (by omega)) (Evt.ctrue (decide_eq_true (by omega)) (Evt.ctrue (decide_eq_true (by omega)) ?_)))))
    have g0:L.getD 0 0=a:=by rw [h];rfl
    have g1:L.getD (Int.toNat ((d.length+1:Nat):Int)) 0=p:=by rw [h];simp
    have g2:L.getD (Int.toNat ((d.length+2:Nat):Int)) 0=c:=by rw [h,Int.toNat_natCast];simp
    rw [g0,g1,g2]
    refine Evt.bind (.const (spec_tri (hL a (by rw [h];simp)) (hL p (by rw [h];simp)) (hL c (by rw [h];simp)))) ?_
    rw [w64_next (by simp only [lenB]at hb ⊢; omega)]
    have:=ih (d ++ [p]) c (IntKind.wrap .i64 (x8+triV a p c)) (by rw [h];simp)
    simp only [List.length_append,List.length_cons,List.length_nil,Nat.zero_add]at this
    rw [show d.length+1+2=d.length+2+1 by omega]at this
    exact this
  exact key cs [] b x8 hL2
theorem specOpp_ev{L:List Int}(hb:L.length<lenB)(x8:Int) :
  Evt (fun k n=>spec_cbDegree_L524887194 k n x0 x6 x7 x8 x9 x10 x11 L L (L.length:Int) 0) (if oppS L then .inl (0,false)else .inr (x0,x6,x7,x8,x9,x10,x11,L,())):=by
 have key:∀(r d:List Int),d++r=L→Evt (fun k n=>spec_cbDegree_L524887194 k n x0 x6 x7 x8 x9 x10 x11 L L (L.length:Int) d.length) (if (r.any fun l=>L.contains (opL l))then .inl (0,false)else .inr (x0,x6,x7,x8,x9,x10,x11,L,())):=by
  intro r
  induction r with
  | nil =>
   intro d h
   rw [List.append_nil]at h
   subst h
   refine Evt.step (fun k n=>spec_cbDegree_L524887194.eq_2 k _ _ _ _ _ _ _ _ _ _ _ n) ?_
   rw [mid_end]
   exact Evt.cfalse rfl .pure
  | cons e r ih =>
   intro d h
   refine Evt.step (fun k n=>spec_cbDegree_L524887194.eq_2 k _ _ _ _ _ _ _ _ _ _ _ n) ?_
   have h1:decide ((d.length:Int)<(L.length:Int))=true:=by rw [←h];exact mid_lt
   have h2:L.getD (Int.toNat (d.length:Int)) 0=e:=by rw [←h];exact mid_get
   refine Evt.ctrue h1 (Evt.ctrue mid_ge (Evt.ctrue h1 ?_))
   rw [h2]
   refine Evt.bind (l1Has_ev _ hb) ?_
   rw [List.any_cons]
   show Evt (fun k n=>bif L.contains (opL e)then _ else _) _
   cases L.contains (opL e)with
   | true=>exact Evt.ctrue rfl .pure
   | false =>
    refine Evt.cfalse rfl ?_
    rw [w64_next (by rw [←h]at hb;simp at hb;omega),Bool.false_or]
    have:=ih (d ++ [e]) (by simpa using h)
    simpa using this
 exact key L [] rfl
end

section
variable {x0 : List Int} {x1 x6 : Int} {x6' : List (Int × Bool × Int × Int)} {x7 x9 x10 x23 x24 x28 x29 x33 x34 : Int}
theorem implSum_ev{L:List Int}(hb:L.length<lenB)(x8:Int) :
  Evt (fun k n=>impl_degreeOfLabels_L7838315326 k n x0 x1 x6' x7 x8 x9 x10 L 2 x23 x24 x28 x29 x33 x34) (.inr (x0,x1,x6',x7,sumC L x8,x9,x10,x23,x24,x28,x29,x33,x34,())):=by
 have stop:∀(i x8:Int),(L.length:Int)≤i→Evt (fun k n=>impl_degreeOfLabels_L7838315326 k n x0 x1 x6' x7 x8 x9 x10 L i x23 x24 x28 x29 x33 x34) (.inr (x0,x1,x6',x7,x8,x9,x10,x23,x24,x28,x29,x33,x34,())):=fun i x8 h =>
  Evt.step (fun k n=>impl_degreeOfLabels_L7838315326.eq_2 k _ _ _ _ _ _ _ _ _ _ _ _ _ _ _ n) (Evt.cfalse (decide_eq_false (by omega)) .pure)
 rcases sumC_cases L with ⟨h1,h2⟩ | ⟨a,b,cs,hL2,h2⟩
 ·rw [h2]
  exact stop 2 x8 (by omega)
 ·rw [h2]
  have key:∀(cs d:List Int) (p x8:Int),L=a::(d++p::cs)→Evt (fun k n=>impl_degreeOfLabels_L7838315326 k n x0 x1 x6' x7 x8 x9 x10 L ((d.length+2:Nat):Int) x23 x24 x28 x29 x33 x34) (.inr (x0,x1,x6',x7,sumL a p cs x8,x9,x10,x23,x24,x28,x29,x33,x34,())):=by
   intro cs
   induction cs with
   | nil=>intro d p x8 h;exact stop _ _ (by rw [h];simp;omega)
   | cons c cs ih =>
    intro d p x8 h
    have hlen:L.length=d.length+3+cs.length:=by rw [h];simp;omega
    refine Evt.step (fun k n=>impl_degreeOfLabels_L7838315326.eq_2 k _ _ _ _ _ _ _ _ _ _ _ _ _ _ _ n) ?_
    have w:IntKind.wrap .i64 (((d.length+2:Nat):Int) - 1)=((d.length+1:Nat):Int):=by rw [w64] <;> simp only [lenB]at hb <;> omega
    rw [w]
    refine Evt.ctrue (decide_eq_true (by omega)) (Evt.ctrue (decide_eq_true (by omega)) (Evt.ctrue (decide_eq_true (by omega)) (Evt.ctrue (decide_eq_true (by omega)) (Evt.ctrue (decide_eq_true (by omega)) (Evt.ctrue (decide_eq_true (by omega)) ?_)))))
    have g0:L.getD 0 0=a:=by rw [h];rfl
    have g1:L.getD (Int.toNat ((d.length+1:Nat):Int)) 0=p:=by rw [h];simp
    have g2:L.getD (Int.toNat ((d.length+2:Nat):Int)) 0=c:=by rw [h,Int.toNat_natCast];simp
    rw [g0,g1,g2]
    refine Evt.bind (.const (impl_tri a p c)) ?_
    rw [w64_next (by simp only [lenB]at hb ⊢; omega)]
    have:=ih (d ++ [p]) c (IntKind.wrap .i64 (x8+triV a p c)) (by rw [h];simp)
    simp only [List.length_append,List.length_cons,List.length_nil,Nat.zero_add]at this
    rw [show d.length+1+2=d.length+2+1 by omega]at this
    exact this
  exact key cs [] b x8 hL2
theorem implOpp_ev{L:List Int}(hb:L.length<lenB)(x8:Int) :
  Evt (fun k n=>impl_degreeOfLabels_L7838315322 k n x0 x1 x6' x7 x8 x9 x10 L x23 x24 x28 x29 x33 x34 L (L.length:Int) 0) (if oppI L then .inl (0,false)else .inr (x0,x1,x6',x7,x8,x9,x10,L,x23,x24,x28,x29,x33,x34,())):=by
 have key:∀(r d:List Int),d++r=L→Evt (fun k n=>impl_degreeOfLabels_L7838315322 k n x0 x1 x6' x7 x8 x9 x10 L x23 x24 x28 x29 x33 x34 L (L.length:Int) d.length) (if oppI r then .inl (0,false)else .inr (x0,x1,x6',x7,x8,x9,x10,L,x23,x24,x28,x29,x33,x34,())):=by
  intro r
  induction r with
  | nil =>
   intro d h
   rw [List.append_nil]at h
   subst h
   refine Evt.step (fun k n=>impl_degreeOfLabels_L7838315322.eq_2 k _ _ _ _ _ _ _ _ _ _ _ _ _ _ _ _ _ n) ?_
   rw [mid_end]
   exact Evt.cfalse rfl .pure
  | cons e r ih =>
   intro d h
   refine Evt.step (fun k n=>impl_degreeOfLabels_L7838315322.eq_2 k _ _ _ _ _ _ _ _ _ _ _ _ _ _ _ _ _ n) ?_
   have h1:decide ((d.length:Int)<(L.length:Int))=true:=by rw [←h];exact mid_lt
   have h2:L.getD (Int.toNat (d.length:Int)) 0=e:=by rw [←h];exact mid_get
   have hlen:L.length=d.length+1+r.length:=by rw [←h];simp;omega
   have w:IntKind.wrap .i64 ((d.length:Int)+1)=((d.length+1:Nat):Int):=w64_next (by omega)
   rw [w]
   refine Evt.ctrue h1 (Evt.ctrue mid_ge (Evt.ctrue h1 (Evt.ctrue mid_ge (Evt.ctrue (decide_eq_true (by omega)) ?_))))
   rw [h2]
   have hd:(L.take (Int.toNat (L.length:Int))).drop (Int.toNat ((d.length+1:Nat):Int))=r:=by
    rw [Int.toNat_natCast,Int.toNat_natCast,List.take_length,←h,show d.length+1=(d ++ [e]).length by simp,show d++e::r=(d ++ [e])++r by simp,List.drop_left]
   rw [hd]
   refine Evt.bind (contains_ev _ (by omega)) ?_
   show Evt (fun k n=>bif r.contains (opL e)then _ else _) (if (r.contains (opL e)||oppI r)=true then _ else _)
   cases r.contains (opL e)with
   | true=>exact Evt.ctrue rfl .pure
   | false =>
    refine Evt.cfalse rfl ?_
    rw [Bool.false_or]
    have:=ih (d ++ [e]) (by simpa using h)
    simpa using this
 exact key L [] rfl
theorem implMet_ev(f:Int→Int)(hf:∀i,f i=labF x0 i){o:List Int}(ho:∀i∈o,0≤i∧i<x0.length)(hb:o.length<274877906944)(x8:Int) :
  Evt (fun k n=>impl_degreeOfLabels_L3919157658 k n x0 x1 x6' x7 x8 x9 x10 [] x23 x24 x28 x29 x33 x34 o (o.length:Int) 0) (.inr (x0,x1,x6',x7,x8,x9,x10,o.map f,x23,x24,x28,x29,x33,x34,())):=by
 have key:∀(r d:List Int),d++r=o→Evt (fun k n=>impl_degreeOfLabels_L3919157658 k n x0 x1 x6' x7 x8 x9 x10 (d.map f) x23 x24 x28 x29 x33 x34 o (o.length:Int) d.length) (.inr (x0,x1,x6',x7,x8,x9,x10,o.map f,x23,x24,x28,x29,x33,x34,())):=by
  intro r
  induction r with
  | nil =>
   intro d h
   rw [List.append_nil]at h
   subst h
   refine Evt.step (fun k n=>impl_degreeOfLabels_L3919157658.eq_2 k _ _ _ _ _ _ _ _ _ _ _ _ _ _ _ _ _ n) ?_
   rw [mid_end]
   exact Evt.cfalse rfl .pure
  | cons e r ih =>
   intro d h
   refine Evt.step (fun k n=>impl_degreeOfLabels_L3919157658.eq_2 k _ _ _ _ _ _ _ _ _ _ _ _ _ _ _ _ _ n) ?_
   have h1:decide ((d.length:Int)<(o.length:Int))=true:=by rw [←h];exact mid_lt
   have h2:o.getD (Int.toNat (d.length:Int)) 0=e:=by rw [←h];exact mid_get
   have hlen:o.length=d.length+1+r.length:=by rw [←h];simp;omega
   have he:=ho e (by rw [←h];simp)
   rw [h2]
   refine Evt.ctrue h1 (Evt.ctrue mid_ge (Evt.ctrue h1 (Evt.ctrue (decide_eq_true he.1) (Evt.ctrue (decide_eq_true he.2) (Evt.ctrue (decide_eq_true (by simp;omega)) ?_)))))
   rw [w64_next (by simp only [lenB];omega)]
   have:=ih (d ++ [e]) (by simpa using h)
   rw [List.map_append,List.map_singleton,hf]at this
   simpa [labF] using this
 exact key o [] rfl
end
end Go.Ev.G

namespace Go.Ev.G
open Go Go.Ev
set_option maxRecDepth 100000

def cornV(L:List Int)(s:Int):Option Int:=if oppI L then none else some (sumC L s)
def runN(g:Nat→Int→Option Int):Nat→Nat→Int→Option Int
 | 0,_,s=>some s
 | m+1,i,s=>(g i s).bind fun s=>runN g m (i+1) s
def Lof(A:List Int)(d x y z:Nat):List Int:=(ordV d (2 ^ d) ((x:Int),(y:Int),(z:Int))).map (labF A)
def gz(A:List Int)(d x y z:Nat)(s:Int):Option Int:=cornV (Lof A d x y z) s
def gy(A:List Int)(d x y:Nat)(s:Int):Option Int:=runN (gz A d x y) (2 ^ d+1) 0 s
def gx(A:List Int)(d x:Nat)(s:Int):Option Int:=runN (gy A d x) (2 ^ d+1) 0 s
def dgLV(A:List Int)(d:Nat):Int×Bool:=match runN (gx A d) (2 ^ d+1) 0 0 with
 | some s=>(s,true)
 | none=>(0,false)

structure LabOk(A:List Int)(d:Nat):Prop where
 hd:d≤2
 len:A.length=6*2 ^ d*2 ^ d
 lab:∀l∈A,isLab l
theorem LabOk.small{A:List Int}{d:Nat}(h:LabOk A d):A.length≤96:=by
 have:=h.len
 have hd:=h.hd
 rcases(by omega:d=0∨d=1∨d=2)with rfl | rfl | rfl <;> simp at this <;> omega
theorem LabOk.n{A:List Int}{d:Nat}(h:LabOk A d):1≤2 ^ d∧2 ^ d≤4:=by
 have hd:=h.hd
 rcases(by omega:d=0∨d=1∨d=2)with rfl | rfl | rfl <;> decide
theorem LabOk.inb{A:List Int}{d x y z:Nat}(h:LabOk A d)(hx:x≤2 ^ d)(hy:y≤2 ^ d)(hz:z≤2 ^ d):InB d x y z:=⟨h.hd,by omega,by omega,by omega,by omega,by omega,by omega⟩
theorem LabOk.lof{A:List Int}{d x y z:Nat}(h:LabOk A d)(hx:x≤2 ^ d)(hy:y≤2 ^ d)(hz:z≤2 ^ d):∀l∈Lof A d x y z,isLab l:=by
 intro l hl
 unfold Lof at hl
 obtain⟨i,hi,rfl⟩:=List.mem_map.1 hl
 have hb:=ord_bnd (h.inb hx hy hz) i hi
 unfold labF
 have hlt:i.toNat<A.length:=by rw [h.len];omega
 rw [List.getD_eq_getElem?_getD,List.getElem?_eq_getElem hlt]
 exact h.lab _ (List.getElem_mem hlt)
theorem idx_getD{n i:Nat}(h:i<(idxV n).length):(idxV n).getD i 0=i:=by
 unfold idxV at *
 simp only [List.length_map,List.length_range]at h
 simp [List.getD_eq_getElem?_getD,h]
theorem spec_around_ev{A:List Int}{d x y z:Nat}(h:LabOk A d)(hx:x≤2 ^ d)(hy:y≤2 ^ d)(hz:z≤2 ^ d)(hin:inner (2 ^ d) ((x:Int),(y:Int),(z:Int))=false) :
  Evt (fun k _=>spec_cbAround k A [(x:Int),(y:Int),(z:Int)] ((2 ^ d:Nat):Int) (cellsV (2 ^ d))) (Lof A d x y z):=by
 refine evt_100 fun k => ?_
 have hs:=saround_ord (h.inb hx hy hz) k
 rw [hin,cond_false]at hs
 have hl:A.length=(idxV (2 ^ d)).length:=by rw [h.len];simp [idxV]
 exact cbAround_nat (k+100) hl (fun i hi=>by unfold labF;rw [idx_getD hi,Int.toNat_natCast]) _ _ _ hs
theorem impl_around_ev{A:List Int}{d x y z:Nat}(h:LabOk A d)(hx:x≤2 ^ d)(hy:y≤2 ^ d)(hz:z≤2 ^ d) :
  Evt (fun k _=>impl_around k (cellsV (2 ^ d)) d ((x:Int),(y:Int),(z:Int))) (ordV d (2 ^ d) ((x:Int),(y:Int),(z:Int))):=evt_100 fun k=>around_ord (h.inb hx hy hz) k
theorem inner_nil{A:List Int}{d x y z:Nat}(h:LabOk A d)(hx:x≤2 ^ d)(hy:y≤2 ^ d)(hz:z≤2 ^ d)(hin:inner (2 ^ d) ((x:Int),(y:Int),(z:Int))=true):Lof A d x y z = []:=by
 have hs:=saround_ord (h.inb hx hy hz) 0
 rw [hin,cond_true]at hs
 unfold Lof
 rw [←Option.some.inj hs];rfl

theorem specZ_ev{A:List Int}{d x y:Nat}(h:LabOk A d)(hx:x≤2 ^ d)(hy:y≤2 ^ d):∀(m i:Nat),i+m=2 ^ d+1→∀s:Int,
  Evt (fun k n=>spec_cbDegree_L1025170 k n A ((2 ^ d:Nat):Int) (cellsV (2 ^ d)) s x y i) (match runN (gz A d x y) m i s with | some s' => .inr (A,((2 ^ d:Nat):Int),cellsV (2 ^ d),s',(x:Int),(y:Int),()) | none => .inl (0,false))
 | 0,i,hi,s=>by
  have hn:=h.n
  exact Evt.step (fun k n=>spec_cbDegree_L1025170.eq_2 k _ _ _ _ _ _ _ n) (Evt.cfalse (decide_eq_false (by omega)) .pure)
 | m+1,i,hi,s=>by
  have hn:=h.n
  have hz:i≤2 ^ d:=by omega
  have w:IntKind.wrap .i64 ((i:Int)+1)=((i+1:Nat):Int):=w64_next (by simp only [lenB];omega)
  have hlen:(Lof A d x y i).length<274877906944:=by
   have:=ordV_len (h.inb hx hy hz)
   unfold Lof
   rw [List.length_map];omega
  refine Evt.step (fun k n=>spec_cbDegree_L1025170.eq_2 k _ _ _ _ _ _ _ n) (Evt.ctrue (decide_eq_true (by omega)) ?_)
  have h0:(((2 ^ d:Nat):Int)==0)=false:=by rw [beq_eq_false_iff_ne];omega
  rw [w]
  have ih:=specZ_ev h hx hy m (i+1) (by omega)
  have body:inner (2 ^ d) ((x:Int),(y:Int),(i:Int))=false→Evt (fun k n=>(Option.bind (spec_cbAround k A ([(x:Int),(y:Int),(i:Int)]:List Int) ((2 ^ d:Nat):Int) (cellsV (2 ^ d))) fun r3=>(both (R:=Int×Bool) (P:=(List Int)×Int×(List (Int×Bool×Int×Int))×Int×Int×Int×Int×(List Int)×Unit) (spec_cbDegree_L524887194 k k A ((2 ^ d:Nat):Int) (cellsV (2 ^ d)) s x y i r3 r3 (r3.length:Int) 0) (fun q7=>some (Sum.inl q7)) (fun y6=>(both (R:=Int×Bool) (P:=(List Int)×Int×(List (Int×Bool×Int×Int))×Int×Int×Int×Int×Unit) (spec_cbDegree_L524887198 k k y6.1 y6.2.1 y6.2.2.1 y6.2.2.2.1 y6.2.2.2.2.1 y6.2.2.2.2.2.1 y6.2.2.2.2.2.2.1 y6.2.2.2.2.2.2.2.1 2) (fun q11=>some (Sum.inl q11)) (fun y10=>(spec_cbDegree_L1025170 k n y10.1 y10.2.1 y10.2.2.1 y10.2.2.2.1 y10.2.2.2.2.1 y10.2.2.2.2.2.1 (IntKind.wrap .i64 (y10.2.2.2.2.2.2.1+1)))))))))
    (match runN (gz A d x y) (m+1) i s with | some s' => .inr (A,((2 ^ d:Nat):Int),cellsV (2 ^ d),s',(x:Int),(y:Int),()) | none => .inl (0,false)):=by
   intro hin
   refine Evt.bind (spec_around_ev h hx hy hz hin) ?_
   have ho:=specOpp_ev (x0:=A) (x6:=((2 ^ d:Nat):Int)) (x7:=cellsV (2 ^ d)) (x9:=x) (x10:=y) (x11:=i) (L:=Lof A d x y i) (by simp only [lenB];omega) s
   rw [opp_eq (h.lof hx hy hz)]at ho
   show Evt _ (match ((gz A d x y i s).bind fun s=>runN (gz A d x y) m (i+1) s)with | some s'=>_ | none=>_)
   unfold gz cornV
   cases hO:oppI (Lof A d x y i)with
   | true =>
    rw [hO,if_pos rfl]at ho
    rw [if_pos rfl]
    exact Evt.inl (Evt.diag ho) .pure
   | false =>
    rw [hO,if_neg (by simp)]at ho
    rw [if_neg (by simp)]
    refine Evt.inr (Evt.diag ho) (Evt.inr (Evt.diag (specSum_ev (h.lof hx hy hz) (by simp only [lenB];omega) s)) ?_)
    simp only [w]
    exact ih _
  cases h1:(Int.tmod (x:Int) ((2 ^ d:Nat):Int) != 0)with
  | false=>exact Evt.cfalse h0 (Evt.cfalse rfl (body (by unfold inner;simp only;rw [h1];rfl)))
  | true =>
   refine Evt.cfalse h0 (Evt.ctrue rfl ?_)
   cases h2:(Int.tmod (y:Int) ((2 ^ d:Nat):Int) != 0)with
   | false=>exact Evt.cfalse h0 (Evt.cfalse rfl (body (by unfold inner;simp only;rw [h1,h2];rfl)))
   | true =>
    refine Evt.cfalse h0 (Evt.ctrue rfl ?_)
    cases h3:(Int.tmod (i:Int) ((2 ^ d:Nat):Int) != 0)with
    | false=>exact Evt.cfalse h0 (Evt.cfalse rfl (body (by unfold inner;simp only;rw [h1,h2,h3];rfl)))
    | true =>
     refine Evt.cfalse h0 (Evt.ctrue rfl ?_)
     have hnil:=inner_nil h hx hy hz (by unfold inner;simp only;rw [h1,h2,h3];rfl)
     show Evt _ (match ((gz A d x y i s).bind fun s=>runN (gz A d x y) m (i+1) s)with | some s'=>_ | none=>_)
     unfold gz cornV
     rw [hnil]
     exact ih s
theorem specY_ev{A:List Int}{d x:Nat}(h:LabOk A d)(hx:x≤2 ^ d):∀(m i:Nat),i+m=2 ^ d+1→∀s:Int,
  Evt (fun k n=>spec_cbDegree_L16018 k n A ((2 ^ d:Nat):Int) (cellsV (2 ^ d)) s x i) (match runN (gy A d x) m i s with | some s' => .inr (A,((2 ^ d:Nat):Int),cellsV (2 ^ d),s',(x:Int),()) | none => .inl (0,false))
 | 0,i,hi,s=>by
  have hn:=h.n
  exact Evt.step (fun k n=>spec_cbDegree_L16018.eq_2 k _ _ _ _ _ _ n) (Evt.cfalse (decide_eq_false (by omega)) .pure)
 | m+1,i,hi,s=>by
  have hn:=h.n
  have hz:i≤2 ^ d:=by omega
  have w:IntKind.wrap .i64 ((i:Int)+1)=((i+1:Nat):Int):=w64_next (by simp only [lenB];omega)
  refine Evt.step (fun k n=>spec_cbDegree_L16018.eq_2 k _ _ _ _ _ _ n) (Evt.ctrue (decide_eq_true (by omega)) ?_)
  have ih:=specY_ev h hx m (i+1) (by omega)
  have hZ:=specZ_ev h hx hz (2 ^ d+1) 0 (by omega) s
  show Evt _ (match ((gy A d x i s).bind fun s=>runN (gy A d x) m (i+1) s)with | some s'=>_ | none=>_)
  unfold gy at *
  cases hr:runN (gz A d x i) (2 ^ d+1) 0 s with
  | none =>
   rw [hr]at hZ
   exact Evt.inl (Evt.diag hZ) .pure
  | some s' =>
   rw [hr]at hZ
   refine Evt.inr (Evt.diag hZ) ?_
   simp only [w]
   exact ih s'
theorem specX_ev{A:List Int}{d:Nat}(h:LabOk A d):∀(m i:Nat),i+m=2 ^ d+1→∀s:Int,
  Evt (fun k n=>spec_cbDegree_L250 k n A ((2 ^ d:Nat):Int) (cellsV (2 ^ d)) s i) (match runN (gx A d) m i s with | some s' => .inr (s',()) | none => .inl (0,false))
 | 0,i,hi,s=>by
  have hn:=h.n
  exact Evt.step (fun k n=>spec_cbDegree_L250.eq_2 k _ _ _ _ _ n) (Evt.cfalse (decide_eq_false (by omega)) .pure)
 | m+1,i,hi,s=>by
  have hn:=h.n
  have hz:i≤2 ^ d:=by omega
  have w:IntKind.wrap .i64 ((i:Int)+1)=((i+1:Nat):Int):=w64_next (by simp only [lenB];omega)
  refine Evt.step (fun k n=>spec_cbDegree_L250.eq_2 k _ _ _ _ _ n) (Evt.ctrue (decide_eq_true (by omega)) ?_)
  have ih:=specX_ev h m (i+1) (by omega)
  have hZ:=specY_ev h hz (2 ^ d+1) 0 (by omega) s
  show Evt _ (match ((gx A d i s).bind fun s=>runN (gx A d) m (i+1) s)with | some s'=>_ | none=>_)
  unfold gx at *
  cases hr:runN (gy A d i) (2 ^ d+1) 0 s with
  | none =>
   rw [hr]at hZ
   exact Evt.inl (Evt.diag hZ) .pure
  | some s' =>
   rw [hr]at hZ
   refine Evt.inr (Evt.diag hZ) ?_
   simp only [w]
   exact ih s'
theorem cbDegree_ev{A:List Int}{d:Nat}(h:LabOk A d):Evt (fun k _=>spec_cbDegree k A d) (dgLV A d):=by
 refine Evt.eq (f:=fun k q=>_) ?_ (fun k q=>by rw [spec_cbDegree])
 have hd:=h.hd
 refine Evt.bind (.const (dyPower_eq (by omega))) (Evt.bind (cbCells_ev hd) ?_)
 have hX:=specX_ev h (2 ^ d+1) 0 (by omega) 0
 unfold dgLV
 cases hr:runN (gx A d) (2 ^ d+1) 0 0 with
 | none=>rw [hr]at hX;exact Evt.inl (Evt.diag hX) .pure
 | some s=>rw [hr]at hX;exact Evt.inr (Evt.diag hX) .pure

theorem implZ_ev{A:List Int}{d x y:Nat}(h:LabOk A d)(hx:x≤2 ^ d)(hy:y≤2 ^ d){x23 x28:Int}:∀(m i:Nat),i+m=2 ^ d+1→∀s:Int,
  Evt (fun k n=>impl_degreeOfLabels_L3827302 k n A d (cellsV (2 ^ d)) ((2 ^ d:Nat):Int) s x y x23 x x28 y ((2 ^ d+1:Nat):Int) i) (match runN (gz A d x y) m i s with | some s' => .inr (A,(d:Int),cellsV (2 ^ d),((2 ^ d:Nat):Int),s',(x:Int),x23,(x:Int),x28,(y:Int),()) | none => .inl (0,false))
 | 0,i,hi,s=>by
  have hn:=h.n
  exact Evt.step (fun k n=>impl_degreeOfLabels_L3827302.eq_2 k _ _ _ _ _ _ _ _ _ _ _ _ _ n) (Evt.cfalse (decide_eq_false (by omega)) .pure)
 | m+1,i,hi,s=>by
  have hn:=h.n
  have hz:i≤2 ^ d:=by omega
  have w:IntKind.wrap .i64 ((i:Int)+1)=((i+1:Nat):Int):=w64_next (by simp only [lenB];omega)
  have hol:=ordV_len (h.inb hx hy hz)
  have hlen:(Lof A d x y i).length<274877906944:=by unfold Lof;rw [List.length_map];omega
  refine Evt.step (fun k n=>impl_degreeOfLabels_L3827302.eq_2 k _ _ _ _ _ _ _ _ _ _ _ _ _ n) (Evt.ctrue (decide_eq_true (by omega)) ?_)
  have ih:=implZ_ev h hx hy (x23:=x23) (x28:=x28) m (i+1) (by omega)
  refine Evt.bind (impl_around_ev h hx hy hz) ?_
  have hm:=implMet_ev (x0:=A) (x1:=d) (x6':=cellsV (2 ^ d)) (x7:=((2 ^ d:Nat):Int)) (x9:=x) (x10:=y) (x23:=x23) (x24:=x) (x28:=x28) (x29:=y) (x33:=((2 ^ d+1:Nat):Int)) (x34:=i) (labF A) (fun _=>rfl) (o:=ordV d (2 ^ d) ((x:Int),(y:Int),(i:Int)))
   (fun j hj=>by have:=ord_bnd (h.inb hx hy hz) j hj;rw [h.len];exact this) (by omega) s
  refine Evt.inr (Evt.diag hm) ?_
  have ho:=implOpp_ev (x0:=A) (x1:=d) (x6':=cellsV (2 ^ d)) (x7:=((2 ^ d:Nat):Int)) (x9:=x) (x10:=y) (x23:=x23) (x24:=x) (x28:=x28) (x29:=y) (x33:=((2 ^ d+1:Nat):Int)) (x34:=i) (L:=Lof A d x y i) (by simp only [lenB];omega) s
  have hsm:=implSum_ev (x0:=A) (x1:=d) (x6':=cellsV (2 ^ d)) (x7:=((2 ^ d:Nat):Int)) (x9:=x) (x10:=y) (x23:=x23) (x24:=x) (x28:=x28) (x29:=y) (x33:=((2 ^ d+1:Nat):Int)) (x34:=i) (L:=Lof A d x y i) (by simp only [lenB];omega) s
  show Evt _ (match ((gz A d x y i s).bind fun s=>runN (gz A d x y) m (i+1) s)with | some s'=>_ | none=>_)
  unfold gz cornV
  cases hO:oppI (Lof A d x y i)with
  | true =>
   rw [hO,if_pos rfl]at ho
   rw [if_pos rfl]
   exact Evt.inl (Evt.diag ho) .pure
  | false =>
   rw [hO,if_neg (by simp)]at ho
   rw [if_neg (by simp)]
   refine Evt.inr (Evt.diag ho) (Evt.inr (Evt.diag hsm) ?_)
   simp only [w]
   exact ih _
theorem implY_ev{A:List Int}{d x:Nat}(h:LabOk A d)(hx:x≤2 ^ d){x23:Int}:∀(m i:Nat),i+m=2 ^ d+1→∀s:Int,
  Evt (fun k n=>impl_degreeOfLabels_L14950 k n A d (cellsV (2 ^ d)) ((2 ^ d:Nat):Int) s x x23 x ((2 ^ d+1:Nat):Int) i) (match runN (gy A d x) m i s with | some s' => .inr (A,(d:Int),cellsV (2 ^ d),((2 ^ d:Nat):Int),s',x23,(x:Int),()) | none => .inl (0,false))
 | 0,i,hi,s=>by
  have hn:=h.n
  exact Evt.step (fun k n=>impl_degreeOfLabels_L14950.eq_2 k _ _ _ _ _ _ _ _ _ _ n) (Evt.cfalse (decide_eq_false (by omega)) .pure)
 | m+1,i,hi,s=>by
  have hn:=h.n
  have hz:i≤2 ^ d:=by omega
  have w:IntKind.wrap .i64 ((i:Int)+1)=((i+1:Nat):Int):=w64_next (by simp only [lenB];omega)
  have w2:IntKind.wrap .i64 (((2 ^ d:Nat):Int)+1)=((2 ^ d+1:Nat):Int):=w64_next (by simp only [lenB];omega)
  refine Evt.step (fun k n=>impl_degreeOfLabels_L14950.eq_2 k _ _ _ _ _ _ _ _ _ _ n) (Evt.ctrue (decide_eq_true (by omega)) ?_)
  have ih:=implY_ev h hx (x23:=x23) m (i+1) (by omega)
  have hZ:=implZ_ev h hx hz (x23:=x23) (x28:=((2 ^ d+1:Nat):Int)) (2 ^ d+1) 0 (by omega) s
  rw [w2]
  show Evt _ (match ((gy A d x i s).bind fun s=>runN (gy A d x) m (i+1) s)with | some s'=>_ | none=>_)
  unfold gy at *
  cases hr:runN (gz A d x i) (2 ^ d+1) 0 s with
  | none =>
   rw [hr]at hZ
   exact Evt.inl (Evt.diag hZ) .pure
  | some s' =>
   rw [hr]at hZ
   refine Evt.inr (Evt.diag hZ) ?_
   simp only [w]
   exact ih s'
theorem implX_ev{A:List Int}{d:Nat}(h:LabOk A d):∀(m i:Nat),i+m=2 ^ d+1→∀s:Int,
  Evt (fun k n=>impl_degreeOfLabels_L58 k n A d (cellsV (2 ^ d)) ((2 ^ d:Nat):Int) s ((2 ^ d+1:Nat):Int) i) (match runN (gx A d) m i s with | some s' => .inr (s',()) | none => .inl (0,false))
 | 0,i,hi,s=>by
  have hn:=h.n
  exact Evt.step (fun k n=>impl_degreeOfLabels_L58.eq_2 k _ _ _ _ _ _ _ n) (Evt.cfalse (decide_eq_false (by omega)) .pure)
 | m+1,i,hi,s=>by
  have hn:=h.n
  have hz:i≤2 ^ d:=by omega
  have w:IntKind.wrap .i64 ((i:Int)+1)=((i+1:Nat):Int):=w64_next (by simp only [lenB];omega)
  have w2:IntKind.wrap .i64 (((2 ^ d:Nat):Int)+1)=((2 ^ d+1:Nat):Int):=w64_next (by simp only [lenB];omega)
  refine Evt.step (fun k n=>impl_degreeOfLabels_L58.eq_2 k _ _ _ _ _ _ _ n) (Evt.ctrue (decide_eq_true (by omega)) ?_)
  have ih:=implX_ev h m (i+1) (by omega)
  have hZ:=implY_ev h hz (x23:=((2 ^ d+1:Nat):Int)) (2 ^ d+1) 0 (by omega) s
  rw [w2]
  show Evt _ (match ((gx A d i s).bind fun s=>runN (gx A d) m (i+1) s)with | some s'=>_ | none=>_)
  unfold gx at *
  cases hr:runN (gy A d i) (2 ^ d+1) 0 s with
  | none =>
   rw [hr]at hZ
   exact Evt.inl (Evt.diag hZ) .pure
  | some s' =>
   rw [hr]at hZ
   refine Evt.inr (Evt.diag hZ) ?_
   simp only [w]
   exact ih s'
theorem degreeOfLabels_ev{A:List Int}{d:Nat}(h:LabOk A d):Evt (fun k _=>impl_degreeOfLabels k A d) (dgLV A d):=by
 refine Evt.eq (f:=fun k q=>_) ?_ (fun k q=>by rw [impl_degreeOfLabels])
 have hd:=h.hd
 have hn:=h.n
 have w1:IntKind.wrap .i64 (1*2 ^ min (Int.toNat (d:Int)) (IntKind.bits .i64))=((2 ^ d:Nat):Int):=by
  rcases(by omega:d=0∨d=1∨d=2)with rfl | rfl | rfl <;> rfl
 have w2:IntKind.wrap .i64 (((2 ^ d:Nat):Int)+1)=((2 ^ d+1:Nat):Int):=w64_next (by simp only [lenB];omega)
 rw [w1,w2]
 refine Evt.bind (surfaceCells_ev hd) (Evt.cfalse (decide_eq_false (by omega)) ?_)
 have hX:=implX_ev h (2 ^ d+1) 0 (by omega) 0
 unfold dgLV
 cases hr:runN (gx A d) (2 ^ d+1) 0 0 with
 | none=>rw [hr]at hX;exact Evt.inl (Evt.diag hX) .pure
 | some s=>rw [hr]at hX;exact Evt.inr (Evt.diag hX) .pure
end Go.Ev.G

namespace Go.Ev.G
open Go Go.Ev
set_option maxRecDepth 100000

def labsB(a:List Int):Bool:=a.all fun x=>decide (0≤x∧x≤5)
theorem areLabels1_eq(x:Int):impl_areLabels_1 x=some (!decide (0≤x∧x≤5)):=by
 unfold impl_areLabels_1
 rw [inside_eq];rfl
theorem containsL_ev{xs:List Int}(hb:xs.length<lenB):Evt (fun k _=>slices_ContainsFunc_int_int_impl_areLabels_1 k xs ()) (xs.any fun x => !decide (0≤x∧x≤5)):=by
 refine Evt.eq (f:=fun k q=>_) ?_ (fun k q=>by rw [slices_ContainsFunc_int_int_impl_areLabels_1])
 have h:=index_all (d0:=0) (L:=fun k n i=>slices_IndexFunc_int_int_impl_areLabels_1_L26 k n xs () (xs.length:Int) i) (xs:=xs) (p:=fun _ x=>impl_areLabels_1 x) (P:=fun x => !decide (0≤x∧x≤5)) (fun x _ => .const (areLabels1_eq x)) (fun _ _ _=>rfl) hb
 have h2:Evt (fun k _=>slices_IndexFunc_int_int_impl_areLabels_1 k xs ()) (match xs.findIdx? (fun x => !decide (0≤x∧x≤5))with | some j=>(j:Int) | none => -1):=by
  refine Evt.eq (f:=fun k q=>_) ?_ (fun k q=>by rw [slices_IndexFunc_int_int_impl_areLabels_1])
  cases hi:xs.findIdx? (fun x => !decide (0≤x∧x≤5))with
  | none=>rw [hi]at h;exact Evt.inr (Evt.diag h) .pure
  | some j=>rw [hi]at h;exact Evt.inl (Evt.diag h) .pure
 refine Evt.bind h2 (.const ?_)
 cases hi:xs.findIdx? (fun x => !decide (0≤x∧x≤5))with
 | none =>
  have:xs.any (fun x => !decide (0≤x∧x≤5))=false:=by
   rw [List.any_eq_false]
   intro x hx
   have:=List.findIdx?_eq_none_iff.1 hi x hx
   simp only [this];simp
  rw [this];rfl
 | some j =>
  have:xs.any (fun x => !decide (0≤x∧x≤5))=true:=by
   rw [List.any_eq_true]
   obtain⟨hlt,hp,_⟩:=List.findIdx?_eq_some_iff_getElem.1 hi
   exact⟨xs[j],List.getElem_mem hlt,hp⟩
  rw [this]
  simp
theorem areLabels_ev{a:List Int}(hb:a.length<lenB):Evt (fun k _=>impl_areLabels k a) (labsB a):=by
 refine Evt.eq (f:=fun k q=>_) ?_ (fun k q=>by rw [impl_areLabels])
 refine Evt.bind (containsL_ev hb) (.const ?_)
 unfold labsB
 rw [List.any_eq_not_all_not]
 simp
def dlAsk(a:List Int)(d:Int):Bool:=decide (0≤d∧d≤2)&&((a.length:Int)==((6*2 ^ d.toNat*2 ^ d.toNat:Nat):Int))&&labsB a
def dlV(a:List Int)(d:Int):Int×Bool:=if dlAsk a d then dgLV a d.toNat else(0,false)
theorem dlAsk_ok{a:List Int}{d:Nat}(h:dlAsk a d=true):LabOk a d:=by
 unfold dlAsk at h
 rw [Bool.and_eq_true,Bool.and_eq_true]at h
 have h1:=of_decide_eq_true h.1.1
 have h2:=beq_iff_eq.1 h.1.2
 simp only [Int.toNat_natCast]at h2
 refine⟨by omega,by omega,fun l hl => ?_⟩
 have:=of_decide_eq_true (List.all_eq_true.1 h.2 l hl)
 unfold isLab
 exact this
theorem two_pow_two{n:Nat}(hn:n≤2):(6*2 ^ n*2 ^ n:Nat)=(cellsV (2 ^ n)).length:=by
 rcases(by omega:n=0∨n=1∨n=2)with rfl | rfl | rfl <;> rfl
theorem spec_degreeOfLabels_ev{a:List Int}{d:Int}(hb:a.length<lenB):Evt (fun k _=>spec_DegreeOfLabels k a d) (dlV a d):=by
 refine Evt.eq (f:=fun k q=>_) ?_ (fun k q=>by rw [spec_DegreeOfLabels])
 have hdp:spec_cbDepth d=some (decide (0≤d∧d≤2)):=by
  unfold spec_cbDepth
  rw [l1In_eq];rfl
 refine Evt.bind (.const hdp) ?_
 cases h1:decide (0≤d∧d≤2)with
 | false =>
  have:dlV a d=(0,false):=by unfold dlV dlAsk;rw [h1];rfl
  rw [this]
  exact Evt.ctrue rfl .pure
 | true =>
  have hd:=of_decide_eq_true h1
  obtain⟨n,rfl⟩:∃n:Nat,d=n:=⟨d.toNat,by omega⟩
  have hn:n≤2:=by omega
  refine Evt.cfalse rfl (Evt.bind (.const (cbCount_eq hn)) ?_)
  rw [←two_pow_two hn]
  cases h2:((a.length:Int)==((6*2 ^ n*2 ^ n:Nat):Int))with
  | false =>
   have:dlV a n=(0,false):=by unfold dlV dlAsk;simp only [Int.toNat_natCast];rw [h1,h2];rfl
   rw [this]
   exact Evt.ctrue (by rw [bne,h2];rfl) .pure
  | true =>
   refine Evt.cfalse (by rw [bne,h2];rfl) (Evt.bind (l1All_ev hb) ?_)
   show Evt (fun k _=>bif !(labsB a)then _ else _) _
   cases h3:labsB a with
   | false =>
    have:dlV a n=(0,false):=by unfold dlV dlAsk;simp only [Int.toNat_natCast];rw [h1,h2,h3];rfl
    rw [this]
    exact Evt.ctrue rfl .pure
   | true =>
    have hq:dlAsk a n=true:=by unfold dlAsk;simp only [Int.toNat_natCast];rw [h1,h2,h3];rfl
    refine Evt.cfalse rfl (Evt.bind (cbDegree_ev (dlAsk_ok hq)) ?_)
    unfold dlV
    rw [hq,if_pos rfl,Int.toNat_natCast]
    exact .pure
theorem impl_degreeOfLabels_ev{a:List Int}{d:Int}(hb:a.length<lenB):Evt (fun k _=>impl_DegreeOfLabels k a d) (dlV a d):=by
 refine Evt.eq (f:=fun k q=>_) ?_ (fun k q=>by rw [impl_DegreeOfLabels])
 refine Evt.bind (.const (inside_eq d 0 2)) ?_
 cases h1:decide (0≤d∧d≤2)with
 | false =>
  have:dlV a d=(0,false):=by unfold dlV dlAsk;rw [h1];rfl
  rw [this]
  exact Evt.ctrue rfl .pure
 | true =>
  have hd:=of_decide_eq_true h1
  obtain⟨n,rfl⟩:∃n:Nat,d=n:=⟨d.toNat,by omega⟩
  have hn:n≤2:=by omega
  have hw:IntKind.wrap .i64 (2*(n:Int))=((2*n:Nat):Int):=by rw [w64 (by omega) (by omega)];omega
  have hw2:IntKind.wrap .i64 (6*2 ^ min (Int.toNat ((2*n:Nat):Int)) (IntKind.bits .i64))=((6*2 ^ n*2 ^ n:Nat):Int):=by
   rcases(by omega:n=0∨n=1∨n=2)with rfl | rfl | rfl <;> rfl
  rw [hw,hw2]
  refine Evt.cfalse rfl (Evt.cfalse (decide_eq_false (by omega)) ?_)
  cases h2:((a.length:Int)==((6*2 ^ n*2 ^ n:Nat):Int))with
  | false =>
   have:dlV a n=(0,false):=by unfold dlV dlAsk;simp only [Int.toNat_natCast];rw [h1,h2];rfl
   rw [this]
   exact Evt.ctrue (by rw [bne,h2];rfl) .pure
  | true =>
   refine Evt.cfalse (by rw [bne,h2];rfl) (Evt.bind (areLabels_ev hb) ?_)
   cases h3:labsB a with
   | false =>
    have:dlV a n=(0,false):=by unfold dlV dlAsk;simp only [Int.toNat_natCast];rw [h1,h2,h3];rfl
    rw [this]
    exact Evt.ctrue rfl .pure
   | true =>
    have hq:dlAsk a n=true:=by unfold dlAsk;simp only [Int.toNat_natCast];rw [h1,h2,h3];rfl
    refine Evt.cfalse rfl (Evt.bind (degreeOfLabels_ev (dlAsk_ok hq)) ?_)
    unfold dlV
    rw [hq,if_pos rfl,Int.toNat_natCast]
    exact .pure
theorem degreeOfLabels_row(x:List Int)(d:Int)(h:WfT (.sl (.int .i64)) x)(_:WfT (.int .i64) d):∃k,laws_FnExactDegreeOfLabels k x d=some true:=by
 have hx:=h.1
 refine Evt.get (Evt.eq (f:=fun k q=>_) ?_ (fun k q=>by rw [laws_FnExactDegreeOfLabels]))
 by_cases hz:(x.length:Int)>1000000
 ·exact Evt.ctrue (decide_eq_true hz) .pure
 ·refine Evt.cfalse (decide_eq_false hz) ?_
  have h1:x.length≤1000000:=by omega
  have hb:x.length<lenB:=by simp only [lenB];omega
  refine Evt.bind (toIntS_ev h1) ?_
  simp only [toV_fst]
  refine Evt.bind (spec_degreeOfLabels_ev hb) (Evt.bind (toIntS_ev h1) ?_)
  simp only [toV_fst]
  refine Evt.bind (impl_degreeOfLabels_ev hb) (Evt.cfalse (by simp) (Evt.cfalse (by simp) (Evt.bind (toIntS_ev h1) (Evt.bind (intactIntS_ev (room_toV h1)) (Evt.cfalse rfl (Evt.bind (toIntS_ev h1) ?_))))))
  simp only [toV_fst]
  exact Evt.bind (impl_degreeOfLabels_ev hb) (Evt.cfalse (by simp) (Evt.cfalse (by simp) .pure))

end Go.Ev.G

