/- A part of a verified evaluator of the model's code: what it evaluates is what a call returns; no condition beyond the theorems' own hypotheses. -/
import Derived.Test.YtmlkiaicppkigaaGreatE2
import Derived.LoopN
import Derived.Laws.Sem
import Derived.Below
import Derived.Deep.Slices
import Derived.Carry
import Derived.WideShapes
import Derived.Laws.Externs
set_option linter.unusedVariables false
set_option linter.unusedSectionVars false
namespace Go.Ev
open Go
variable [KSl]

section
variable (w : World) (π : Nat → Home) (tm : Nat → Value)

def EntR:(e:PE)→e.b.T→Value→List Nat→List Nat→Prop
 | ⟨_,_,.val t g,_⟩,x,v,U,O=>O = []∧ValR w false t g x v U
 | ⟨_,id,.ptr t true,_⟩,x,v,U,O=>∃b,O = [b]∧π id = .blk b 0∧PtrW w t x v b U
 | ⟨_,_,.ptr t false,_⟩,x,v,U,O=>O = []∧∃b fr U',U=b::U'∧PtrR w t x v b fr U'
 | ⟨_,id,.own t,_⟩,x,v,U,O=>U = []∧∃A n c,v = .slice A n c∧π id = .row A n c O∧RR true w t x A n c O
 | ⟨_,_,.eat t,_⟩,x,v,U,O=>U = []∧∃A n c,v = .slice A n c∧RR true w t x A n c O
 | ⟨_,_,.fn f caps,_⟩,x,v,U,O=>O = []∧∃vs,v = .func (.func f) #[] vs∧CapsR w caps x vs.toList U
 | ⟨_,_,.lit l,_⟩,_,v,U,O=>v=l∧l.oneCell'=true∧U = []∧O = []
 | ⟨_,_,.box t true,_⟩,x,v,U,O=>U = []∧∃b arr e F,O=b::F∧v = .pointer (some ⟨b,0,none⟩)∧w.heap[b]? = some (.cells arr e (0,0))∧RE true w t x arr.toList F
 | ⟨_,_,.box t false,_⟩,x,v,U,O=>∃b,O = [b]∧PtrW w t x v b U
 | ⟨_,_,.gob t g,_⟩,x,v,U,O=>U = []∧ValR w true t g x v O
 | ⟨_,_,.pp t,_⟩,x,v,U,O=>O = []∧PPR w t x v U
 | ⟨_,_,.same t,_⟩,_,v,U,O=>U = []∧O = []∧v=tm t∧∃A n c,v = .slice A n c
 | ⟨_,_,.hof t,_⟩,x,v,U,O=>U = []∧∃A n c,v = .slice A n c∧Hof w t x.1 x.2 A n c O
 | ⟨_,_,.al t offs,_⟩,_,v,U,O=>O = []∧∃b arr e fr p parr pe,U = [b]∧v = .slice (some ⟨b,0,none⟩) offs.length offs.length∧w.heap[b]? = some (.cells arr e fr)∧offs.length≤arr.size ∧
  tm t = .pointer (some ⟨p,0,none⟩)∧w.heap[p]? = some (.cells parr pe (0,0))∧arr.toList.take offs.length=offs.map fun o=>parr.toList.getD o undef
 | ⟨_,_,.fsel t offs,_⟩,x,v,U,O=>U = []∧O = []∧∃p parr pe o,tm t = .pointer (some ⟨p,0,none⟩)∧w.heap[p]? = some (.cells parr pe (0,0))∧offs[x]? = some o∧parr.toList[o]? = some v
 | ⟨_,_,.vw p,_⟩,x,v,U,O=>U = []∧O = []∧∃b o n c arr e,tm p = .slice (some ⟨b,o,none⟩) n c∧w.heap[b]? = some (.cells arr e (0,0))∧x<n∧(arr.toList.drop (o+x*1)).take 1 = [v]

def PatR:(l:List PE)→PTe l→List Nat→List Nat→Prop
 | [],_,U,O=>U = []∧O = []
 | e::l,x,U,O=>∃U1 U2 O1 O2,U=U1++U2∧O=O1++O2∧EntR w π tm e x.1 (tm e.tmp) U1 O1∧PatR l x.2 U2 O2
end

structure PatOk(X:Ctx)(l:List PE)(x:PTe l)(a:Act)(w:World)(π:Nat→Home)(U O:List Nat):Prop where
 pat:PatR w π (fun i=>a.tmps.getD i undef) l x U O
 ap:∀b∈U,b ∉ O
 ltU:∀b∈U,b<w.heap.size
 ltO:∀b∈O,b<w.heap.size
 mu:∀b∈O,X.w0.heap.size≤b∨b∈X.O
 nd:O.Nodup
 pn:∀q∈X.pins,π q.1=q.2∧q.2 ≠ .none
 pk:∀q∈X.pins,∃e∈l,e.pin=true∧e.id=q.1
 pt:pinTy l=true
 sz:a.tmps.size=X.C.ntmps
 df:a.defers = []
 fr:∀b,b<X.w0.heap.size→b ∉ X.O→w.heap[b]? = X.w0.heap[b]?
 le:WLe X.w0 w

section
variable {X : Ctx} {σ σ' : St} {ι : Nat → Home} {a : Act} {w : World} {α A : Type} {nid : Nat}

theorem Free.giveO{F:List Nat}(hR:Rel X σ ι a w)(hF:Free X σ ι w F){id:Nat}(he:(σ.H id).excl=true){G:List Nat}(e:(ι id).foot=G):Free X (σ.setH id .dead) ι w (F++G):=e ▸ hF.give hR he

structure LessR(σ σ1:St):Prop extends Less σ σ1 where
 cells:∀ {j l ro},σ.H j = .cells l ro→σ1.H j = .dead→False

theorem LessR.refl(σ:St):LessR σ σ:=⟨.refl σ,fun h h'=>by rw [h]at h'; cases h'⟩
theorem LessR.trans{σ σ1 σ2:St}(h:LessR σ σ1)(h':LessR σ1 σ2):LessR σ σ2:=⟨h.toLess.trans h'.toLess,fun {j l ro} hc hd=>by
 rcases h.H j with e | e
 ·exact h'.cells (e.trans hc) hd
 ·exact h.cells hc e⟩

theorem rdO_run2:∀ {t:Ty} {σ:St} {F0:List Nat} {l:List Sc} {vs:List Value} {k:t.T→List Sc→Pg α} {r:α×St},Rel X σ ι a w→Free X σ ι w F0→(rdO t l k).run σ=some r→F2 (RSc ι) l vs →
  ∃x rest σ1 vs1 vs2 F,vs=vs1++vs2∧F2 (RSc ι) rest vs2∧RE true w t x vs1 F∧Rel X σ1 ι a w∧Free X σ1 ι w (F0++F)∧LessR σ σ1∧(k x rest).run σ1=some r
 | .unit,σ,F0,l,vs,k,r,hR,hF,h,hl=>⟨(),l,σ,[],vs,[],rfl,hl,⟨rfl,rfl⟩,hR,by simpa using hF,.refl σ,h⟩
 | .int q,σ,F0,l,vs,k,r,hR,hF,h,hl=>by
  unfold rdO at h
  split at h
  ·rename_i q' n l
   split at h
   ·rename_i e
    subst e
    cases vs with
    | nil=>exact hl.elim
    | cons v vs =>
     obtain⟨⟨rfl,_⟩,hl⟩:=hl
     exact⟨n,l,σ,[_],vs,[],rfl,hl,⟨rfl,rfl⟩,hR,by simpa using hF,.refl σ,h⟩
   ·cases h
  ·cases h
 | .bool,σ,F0,l,vs,k,r,hR,hF,h,hl=>by
  unfold rdO at h
  split at h
  ·rename_i n l
   cases vs with
   | nil=>exact hl.elim
   | cons v vs =>
    obtain⟨⟨rfl,_⟩,hl⟩:=hl
    exact⟨n,l,σ,[_],vs,[],rfl,hl,⟨rfl,rfl⟩,hR,by simpa using hF,.refl σ,h⟩
  ·cases h
 | .str,σ,F0,l,vs,k,r,hR,hF,h,hl=>by
  unfold rdO at h
  split at h
  ·rename_i n l
   cases vs with
   | nil=>exact hl.elim
   | cons v vs =>
    obtain⟨⟨rfl,_⟩,hl⟩:=hl
    exact⟨n,l,σ,[_],vs,[],rfl,hl,⟨rfl,rfl⟩,hR,by simpa using hF,.refl σ,h⟩
  ·cases h
 | .ks,σ,F0,l,vs,k,r,hR,hF,h,hl=>by
  unfold rdO at h
  split at h
  ·rename_i l
   cases vs with
   | nil=>exact hl.elim
   | cons v vs =>
    obtain⟨rfl,hl⟩:=hl
    exact⟨(),l,σ,[_],vs,[],rfl,hl,⟨rfl,rfl⟩,hR,by simpa using hF,.refl σ,h⟩
  ·cases h
 | .pair ta tb,σ,F0,l,vs,k,r,hR,hF,h,hl=>by
  unfold rdO at h
  obtain⟨x,rest,σ1,vs1,vs2,F,rfl,hl2,h1,hR1,hF1,hL1,h⟩:=rdO_run2 hR hF h hl
  obtain⟨y,rest',σ2,vs3,vs4,F',rfl,hl3,h3,hR2,hF2,hL2,h⟩:=rdO_run2 hR1 hF1 h hl2
  exact⟨(x,y),rest',σ2,vs1++vs3,vs4,F++F',by simp,hl3,⟨vs1,vs3,F,F',rfl,rfl,h1,h3⟩,hR2,by simpa using hF2,hL1.trans hL2,h⟩
 | .sl t,σ,F0,l,vs,k,r,hR,hF,h,hl=>by
  unfold rdO at h
  split at h
  ·rename_i l
   cases vs with
   | nil=>exact hl.elim
   | cons v vs =>
    obtain⟨⟨rfl,_⟩,hl⟩:=hl
    exact⟨[],l,σ,[_],vs,[],rfl,hl,⟨none,0,0,rfl,rfl,Nat.le_refl _,.inl ⟨rfl,rfl,fun _=>rfl⟩⟩,hR,by simpa using hF,.refl σ,h⟩
  ·rename_i id l
   replace h:=getB_run h
   cases vs with
   | nil=>exact hl.elim
   | cons v vs =>
    obtain⟨⟨A,n,c,F,hι,rfl⟩,hl⟩:=hl
    split at h
    ·rename_i t' x ver hb
     split at h
     ·rename_i y hy
      obtain⟨rfl,rfl⟩:=castRow_some hy
      have hbl:=hR.bl id
      rw [hb,hι]at hbl
      obtain⟨A',n',c',F',e,hrow⟩:=hbl
      cases e
      have hg:=hF.give hR (id:=id) (by rw [hb];rfl)
      rw [hι]at hg
      have hrow:=hrow (by intro q hq;simp at hq)
      refine⟨_,l,_,[_],vs,F,rfl,hl,⟨A,n,c,rfl,hrow⟩,hR.kill (by rw [hb];simp),hg,⟨Less.kill (by rw [hb];simp),?_⟩,h⟩
      intro j l ro hc hd
      by_cases e:j=id
      ·rw [e,hb]at hc;cases hc
      ·rw [setH_ne σ _ e,hc]at hd;cases hd
     ·cases h
    ·rename_i t' x x2 ver hb
     split at h
     ·rename_i y hy
      obtain⟨rfl,rfl⟩:=castRow_some hy
      obtain⟨hn,hrow⟩:=win_of hR hb (by intro q hq;simp at hq) hι
      have hg:=hF.give hR (id:=id) (by rw [hb];rfl)
      rw [hι]at hg
      refine⟨_,l,_,[_],vs,F,rfl,hl,⟨A,n,c,rfl,RR_pre hn hrow⟩,hR.kill (by rw [hb];simp),hg,⟨Less.kill (by rw [hb];simp),?_⟩,h⟩
      intro j l ro hc hd
      by_cases e:j=id
      ·rw [e,hb]at hc;cases hc
      ·rw [setH_ne σ _ e,hc]at hd;cases hd
     ·cases h
    ·cases h
  ·cases h
 | .rm t,σ,F0,l,vs,k,r,hR,hF,h,hl=>by
  unfold rdO at h
  split at h
  ·rename_i l
   cases vs with
   | nil=>exact hl.elim
   | cons v vs =>
    obtain⟨⟨rfl,_⟩,hl⟩:=hl
    exact⟨([],[]),l,σ,[_],vs,[],rfl,hl,⟨none,0,0,rfl,rfl,rfl,Nat.le_refl _,.inl ⟨rfl,rfl,fun _=>rfl⟩⟩,hR,by simpa using hF,.refl σ,h⟩
  ·rename_i id l
   replace h:=getB_run h
   cases vs with
   | nil=>exact hl.elim
   | cons v vs =>
    obtain⟨⟨A,n,c,F,hι,rfl⟩,hl⟩:=hl
    split at h
    ·rename_i t' x ver hb
     split at h
     ·rename_i y hy
      obtain⟨rfl,rfl⟩:=castRow_some hy
      have hbl:=hR.bl id
      rw [hb,hι]at hbl
      obtain⟨A',n',c',F',e,hrow⟩:=hbl
      cases e
      have hg:=hF.give hR (id:=id) (by rw [hb];rfl)
      rw [hι]at hg
      have hrow:=hrow (by intro q hq;simp at hq)
      refine⟨_,l,_,[_],vs,F,rfl,hl,⟨A,n,c,rfl,hrow.1,by simp only [List.append_nil];rw [←hrow.1];exact hrow⟩,hR.kill (by rw [hb];simp),hg,⟨Less.kill (by rw [hb];simp),?_⟩,h⟩
      intro j l ro hc hd
      by_cases e:j=id
      ·rw [e,hb]at hc;cases hc
      ·rw [setH_ne σ _ e,hc]at hd;cases hd
     ·cases h
    ·rename_i t' x x2 ver hb
     split at h
     ·rename_i y y2 hy hy2
      obtain⟨rfl,rfl⟩:=castRow_some hy
      obtain⟨_,rfl⟩:=castRow_some hy2
      obtain⟨hn,hrow⟩:=win_of hR hb (by intro q hq;simp at hq) hι
      have hg:=hF.give hR (id:=id) (by rw [hb];rfl)
      rw [hι]at hg
      refine⟨(y,y2),l,_,[_],vs,F,rfl,hl,⟨A,n,c,rfl,hn,hrow⟩,hR.kill (by rw [hb];simp),hg,⟨Less.kill (by rw [hb];simp),?_⟩,h⟩
      intro j l ro hc hd
      by_cases e:j=id
      ·rw [e,hb]at hc;cases hc
      ·rw [setH_ne σ _ e,hc]at hd;cases hd
     ·cases h
    ·cases h
  ·cases h

theorem getD_sl{l:List Sc}{o i:Nat}(h:l.getD o .top = .sl i):l[o]? = some (.sl i):=by
 rw [List.getD_eq_getElem?_getD]at h
 cases hl:l[o]? with
 | none=>rw [hl]at h;cases h
 | some c=>rw [hl]at h;exact congrArg some h

theorem sameSl_run{ι:Nat→Home}{l:List Sc}{ps:List Value}(hl:F2 (RSc ι) l ps):∀ {offs:List Nat} {l':List Sc} {vs:List Value},sameSl l' (offs.map fun o=>l.getD o .top)=true→F2 (RSc ι) l' vs→vs=(offs.map fun o=>ps.getD o undef)∧l'.length=offs.length
 | [],l',vs,h,h'=>by
  cases l' with
  | nil =>
   cases vs with
   | nil=>exact⟨rfl,rfl⟩
   | cons _ _=>exact h'.elim
  | cons c l'=>simp only [List.map_nil]at h;unfold sameSl at h;split at h <;> simp_all
 | o::offs,l',vs,h,h'=>by
  simp only [List.map_cons]at h
  unfold sameSl at h
  split at h
  ·simp_all
  ·rename_i a l1 b l2 e
   obtain⟨e1,e2⟩:=List.cons.inj e
   rw [Bool.and_eq_true]at h
   have hab:=Nat.eq_of_beq_eq_true h.1
   subst hab
   cases vs with
   | nil=>exact h'.elim
   | cons v vs =>
    have h2:=h.2
    rw [←e2]at h2
    obtain⟨q1,q2⟩:=sameSl_run hl h2 h'.2
    obtain⟨u,hu,hr⟩:=F2_get hl (getD_sl e1)
    obtain⟨A,n,c,F,f1,rfl⟩:=hr
    obtain⟨A',n',c',F',f2,rfl⟩:=h'.1
    rw [f1]at f2
    cases f2
    refine⟨?_,by simp [q2]⟩
    rw [List.map_cons,←q1,List.getD_eq_getElem?_getD,hu]
    rfl
  ·cases h

theorem findO_run{l:List Sc}{i:Nat}:∀ {offs:List Nat} {j q:Nat},findO l i offs j=some q→∃o,offs[q - j]? = some o∧l[o]? = some (.sl i)∧j≤q
 | [],j,q,h=>by simp only [findO]at h;cases h
 | o::offs,j,q,h=>by
  have key:findO l i offs (j+1)=some q→∃o',(o::offs)[q - j]? = some o'∧l[o']? = some (.sl i)∧j≤q:=by
   intro h
   obtain⟨o',h1,h2,h3⟩:=findO_run h
   refine⟨o',?_,h2,by omega⟩
   rw [show q - j=(q - (j+1))+1 by omega,List.getElem?_cons_succ]
   exact h1
  simp only [findO]at h
  split at h
  ·rename_i j' hj
   cases hb:Nat.beq i j' with
   | true =>
    rw [hb]at h
    cases h
    have:=Nat.eq_of_beq_eq_true hb
    subst this
    exact⟨o,by simp,getD_sl hj,Nat.le_refl _⟩
   | false =>
    rw [hb]at h
    exact key h
  ·exact key h

theorem rdE_run{e:PE}{σ:St}{v:Value}{av:AV}{G:List Nat}{k:e.b.T→List Nat→Pg α}{r:α×St}(hR:Rel X σ ι a w)(hF:Free X σ ι w G)(hv:RAV ι av v)(h:(rdE e av k).run σ=some r) :
  ∃x u U O σ1,EntR w ι (fun i=>a.tmps.getD i undef) e x v U O∧UOk σ ι u U∧Less σ σ1∧Rel X σ1 ι a w∧Free X σ1 ι w (G++O)∧(k x u).run σ1=some r:=by
 obtain⟨tmp,id,b,pin⟩:=e
 cases b with
 | val t g =>
  cases pin with
  | true=>simp only [rdE]at h;cases h
  | false =>
   simp only [rdE]at h
   obtain⟨x,u,F,h1,h2,h⟩:=rdV_run hR h hv
   exact⟨x,u,F,[],σ,⟨rfl,h1⟩,h2,.refl _,hR,by simpa using hF,h⟩
 | ptr t mu =>
  cases mu with
  | true =>
   cases pin with
   | false=>simp only [rdE]at h;cases h
   | true =>
    simp only [rdE]at h
    obtain⟨x,id',u,b,o,fr,F,l,ro,_,h2,h3,h4,h5,h⟩:=rdP_run hR h hv
    obtain⟨rfl,rfl,h1⟩:=h5 rfl
    cases hi:Nat.beq id' id with
    | false=>rw [hi]at h;cases h
    | true =>
     rw [hi]at h
     have hi:=Nat.eq_of_beq_eq_true hi
     subst hi
     simp only [cond_true,Pg.run]at h
     have hex:(σ.H id').excl=true:=by rw [h4];rfl
     exact⟨x,u,F,[b],_,⟨b,rfl,h3,h1⟩,h2,Less.kill (excl_ne hex),hR.kill (excl_ne hex),hF.giveO hR hex (by rw [h3];rfl),h⟩
  | false =>
   cases pin with
   | true=>simp only [rdE]at h;cases h
   | false =>
    simp only [rdE]at h
    obtain⟨x,id',u,b,o,fr,F,l,ro,h1,h2,h3,h4,h5,h⟩:=rdP_run hR h hv
    exact⟨x,id'::u,b::F,[],σ,⟨rfl,b,fr,F,rfl,h1⟩,h2.cells h3 h4,.refl _,hR,by simpa using hF,h⟩
 | own t =>
  cases pin with
  | false=>simp only [rdE]at h;cases h
  | true =>
   simp only [rdE]at h
   split at h
   ·rename_i id' hid
    cases hi:Nat.beq id' id with
    | false=>rw [hi]at h;cases h
    | true =>
     rw [hi]at h
     have hi:=Nat.eq_of_beq_eq_true hi
     subst hi
     simp only [cond_true]at h
     obtain⟨A,n,c,F,e,rfl⟩:=asSl_run hid hv
     obtain⟨x,hex,h2,h⟩:=rdRow_run hR h e
     simp only [Pg.run]at h
     exact⟨x,[],[],F,_,⟨rfl,A,n,c,rfl,e,h2⟩,UOk.nil,Less.kill (excl_ne hex),hR.kill (excl_ne hex),hF.giveO hR hex (by rw [e];rfl),h⟩
   ·cases h
 | eat t =>
  cases pin with
  | true=>simp only [rdE]at h;cases h
  | false =>
   simp only [rdE]at h
   cases hn:asNil av with
   | true =>
    rw [hn]at h
    have:=asNil_run hn hv
    subst this
    exact⟨[],[],[],[],σ,⟨rfl,none,0,0,rfl,rfl,Nat.le_refl _,.inl ⟨rfl,rfl,fun _=>rfl⟩⟩,UOk.nil,.refl _,hR,by simpa using hF,h⟩
   | false =>
    rw [hn]at h
    simp only [cond_false]at h
    split at h
    ·rename_i id' hid
     obtain⟨A,n,c,F,e,rfl⟩:=asSl_run hid hv
     obtain⟨x,hex,h2,h⟩:=rdRow_run hR h e
     simp only [Pg.run]at h
     exact⟨x,[],[],F,_,⟨rfl,A,n,c,rfl,h2⟩,UOk.nil,Less.kill (excl_ne hex),hR.kill (excl_ne hex),hF.giveO hR hex (by rw [e];rfl),h⟩
    ·cases h
 | fn f caps =>
  cases pin with
  | true=>simp only [rdE]at h;cases h
  | false =>
   simp only [rdE]at h
   obtain⟨x,u,e,i,U,E,O,σ1,h1,h2,h3,h4,h5,h6,h7,h8,h9,h⟩:=rdArg_run hR hF h hv
   obtain⟨rfl,rfl,hx⟩:=h1
   exact⟨x,u,U,[],σ1,⟨rfl,hx⟩,h2,h5,h6,h7,h⟩
 | lit l =>
  cases pin with
  | true=>simp only [rdE]at h;cases h
  | false =>
   simp only [rdE,rdArg]at h
   split at h
   ·cases hn:asNil av with
    | false=>rw [hn]at h;cases h
    | true =>
     rw [hn]at h
     have:=asNil_run hn hv
     subst this
     exact⟨(),[],[],[],σ,⟨rfl,rfl,rfl,rfl⟩,UOk.nil,.refl _,hR,by simpa using hF,h⟩
   ·cases h
 | same t =>
  cases pin with
  | true=>simp only [rdE]at h;cases h
  | false =>
   simp only [rdE,Pg.run]at h
   split at h
   ·rename_i i j hi hj
    obtain⟨A,n,c,F,e1,rfl⟩:=asSl_run hi hv
    obtain⟨A',n',c',F',e2,hv'⟩:=asSl_run hj (hR.tm t)
    cases hb:Nat.beq i j with
    | false=>rw [hb]at h;cases h
    | true =>
     rw [hb]at h
     have hij:=Nat.eq_of_beq_eq_true hb
     subst hij
     rw [e1]at e2
     cases e2
     exact⟨(),[],[],[],σ,⟨rfl,rfl,hv'.symm,A,n,c,rfl⟩,UOk.nil,.refl _,hR,by simpa using hF,h⟩
   ·cases h
 | vw p =>
  cases pin with
  | true=>simp only [rdE]at h;cases h
  | false =>
   simp only [rdE,Pg.run]at h
   split at h
   ·rename_i sid pid hs hp
    obtain⟨A,n,c,F,e1,rfl⟩:=asSl_run hs hv
    obtain⟨A',n',c',F',e2,hv'⟩:=asSl_run hp (hR.tm p)
    replace h:=getB_run h
    split at h
    ·rename_i t xs sid' i pid' ver hbi
     cases hb:(Nat.beq sid sid'&&Nat.beq pid pid')with
     | false=>rw [hb]at h;cases h
     | true =>
      rw [hb]at h
      rw [Bool.and_eq_true]at hb
      have h1:=Nat.eq_of_beq_eq_true hb.1
      have h2:=Nat.eq_of_beq_eq_true hb.2
      subst h1 h2
      simp only [cond_true]at h
      replace h:=getB_run h
      split at h
      ·rename_i t2 xs2 ver' hbp
       cases hv2:Nat.beq ver ver' with
       | false=>rw [hv2]at h;cases h
       | true =>
        rw [hv2]at h
        have hve:=Nat.eq_of_beq_eq_true hv2
        subst hve
        have hbl:=hR.bl (sid+4)
        rw [hbi]at hbl
        obtain⟨A2,n2,c2,F2,q1,q2,q3⟩:=hbl
        obtain⟨b,o,arr,el,Fs,G2,A3,n3,c3,F3,r1,r2,r3,r4,r5,r6,r7,r8,r9,r10,r11⟩:=q3 (by intro q hq;simp at hq;subst hq;exact⟨t2,xs2,[],hbp⟩)
        rw [q1,e2]at q2
        cases q2
        rw [e1]at r11
        cases r11
        have hi:i<xs.length:=by rw [←r7];exact(List.getElem?_eq_some_iff.1 r10).1
        exact⟨i,[],[],[],σ,⟨rfl,rfl,b,o,n',c',arr,el,by show a.tmps.getD p undef=_;rw [hv',r1],r4,show i<n' by omega,r9⟩,UOk.nil,.refl _,hR,by simpa using hF,h⟩
      ·cases h
    ·cases h
   ·cases h
 | hof t =>
  cases pin with
  | true=>simp only [rdE]at h;cases h
  | false =>
   simp only [rdE]at h
   cases hn:asNil av with
   | true =>
    rw [hn]at h
    have:=asNil_run hn hv
    subst this
    exact⟨([],0),[],[],[],σ,⟨rfl,none,0,0,rfl,rfl,Nat.le_refl _,Nat.le_refl _,.inl ⟨rfl,rfl,rfl⟩⟩,UOk.nil,.refl _,hR,by simpa using hF,h⟩
   | false =>
    rw [hn]at h
    simp only [cond_false]at h
    split at h
    ·rename_i id' hid
     obtain⟨A,n,c,F,e,rfl⟩:=asSl_run hid hv
     replace h:=getB_run h
     split at h
     ·rename_i t' xs ver hb
      split at h
      ·rename_i xs' hx
       obtain⟨rfl,rfl⟩:=castRow_some hx
       have hex:(σ.H id').excl=true:=by rw [hb];rfl
       simp only [Pg.run]at h
       exact⟨(xs',0),[],[],F,_,⟨rfl,A,n,c,rfl,RR_hof (row_of hR hb (chk_none rfl) e)⟩,UOk.nil,Less.kill (excl_ne hex),hR.kill (excl_ne hex),hF.giveO hR hex (by rw [e];rfl),h⟩
      ·cases h
     ·rename_i t' xs kk hb
      split at h
      ·rename_i xs' hx
       obtain⟨rfl,rfl⟩:=castRow_some hx
       have hex:(σ.H id').excl=true:=by rw [hb];rfl
       simp only [Pg.run]at h
       have hbl:=hR.bl id'
       rw [hb]at hbl
       obtain⟨A',n',c',L,e',hh⟩:=hbl
       rw [e]at e'
       cases e'
       exact⟨(xs',kk),[],[],F,_,⟨rfl,A,n,c,rfl,hh⟩,UOk.nil,Less.kill (excl_ne hex),hR.kill (excl_ne hex),hF.giveO hR hex (by rw [e];rfl),h⟩
      ·cases h
     ·cases h
    ·cases h
 | al t offs =>
  cases pin with
  | true=>simp only [rdE]at h;cases h
  | false =>
   simp only [rdE,Pg.run]at h
   split at h
   ·rename_i pid sid m hp
    obtain⟨p,o0,e1,hpv⟩:=asPtr_run hp (hR.tm t)
    obtain⟨b,e2,rfl⟩:=RAV_sc.1 hv
    replace h:=getB_run h
    split at h
    ·rename_i l hb
     replace h:=getB_run h
     split at h
     ·rename_i l' ro hb'
      cases hc:(Nat.beq m offs.length&&sameSl l' (offs.map fun o=>l.getD o .top))with
      | false=>rw [hc]at h;cases h
      | true =>
       rw [hc]at h
       rw [Bool.and_eq_true]at hc
       have hm:=Nat.eq_of_beq_eq_true hc.1
       subst hm
       have hbl:=hR.bl pid
       rw [hb]at hbl
       obtain⟨p',o',parr,pe,fr,h1,h2,h3,_,h4⟩:=hbl
       rw [e1]at h1
       cases h1
       obtain⟨h3,h30,h31⟩:=h3 rfl
       subst h3;subst h30
       rw [List.drop_zero,h31,List.take_of_length_le (by simp)]at h4
       have hbl':=hR.bl sid
       rw [hb']at hbl'
       obtain⟨b',o2,arr,el,fr',g1,g2,_,g4,g5⟩:=hbl'
       rw [e2]at g1
       cases g1
       obtain⟨q1,q2⟩:=sameSl_run h4 hc.2 g5
       rw [q2]at q1 g4
       rw [List.drop_zero]at q1
       exact⟨(),[sid],[b],[],σ,⟨rfl,b,arr,el,fr',p,parr,pe,rfl,rfl,g2,by omega,hpv,h2,q1⟩,UOk.nil.cells e2 hb',.refl _,hR,by simpa using hF,h⟩
     ·cases h
    ·cases h
   ·cases h
 | fsel t offs =>
  cases pin with
  | true=>simp only [rdE]at h;cases h
  | false =>
   simp only [rdE,Pg.run]at h
   split at h
   ·rename_i pid i hp hs
    obtain⟨p,o0,e1,hpv⟩:=asPtr_run hp (hR.tm t)
    obtain⟨A,n,c,F,e2,rfl⟩:=asSl_run hs hv
    replace h:=getB_run h
    split at h
    ·rename_i l hb
     split at h
     ·rename_i q hq
      have hbl:=hR.bl pid
      rw [hb]at hbl
      obtain⟨p',o',parr,pe,fr,h1,h2,h3,_,h4⟩:=hbl
      rw [e1]at h1
      cases h1
      obtain⟨h3,h30,h31⟩:=h3 rfl
      subst h3;subst h30
      rw [List.drop_zero,h31,List.take_of_length_le (by simp)]at h4
      obtain⟨o,g1,g2,_⟩:=findO_run hq
      rw [Nat.sub_zero]at g1
      obtain⟨u,hu,hr⟩:=F2_get h4 g2
      obtain⟨A',n',c',F',e3,rfl⟩:=hr
      rw [e2]at e3
      cases e3
      exact⟨q,[],[],[],σ,⟨rfl,rfl,p,parr,pe,o,hpv,h2,g1,hu⟩,UOk.nil,.refl _,hR,by simpa using hF,h⟩
     ·cases h
    ·cases h
   ·cases h
 | pp t =>
  cases pin with
  | true=>simp only [rdE]at h;cases h
  | false =>
   simp only [rdE]at h
   obtain⟨x,i,j,u,b,o,c,o2,fr,F,l,ro,l',ro',q,arr,e,fr',rfl,hh,hq,hp,hu,ei,hi,ej,hj,h⟩:=rdPP_run hR h hv
   exact⟨x,i::j::u,b::c::F,[],σ,⟨rfl,b,o,c,fr,q,arr,e,fr',F,rfl,rfl,hh,hq,hp⟩,(hu.cells ej hj).cells ei hi,.refl _,hR,by simpa using hF,h⟩
 | gob t g =>
  cases pin with
  | true=>simp only [rdE]at h;cases h
  | false =>
   simp only [rdE]at h
   obtain⟨x,u,e,i,U,E,O,σ1,h1,h2,h3,h4,h5,h6,h7,h8,h9,h⟩:=rdArg_run hR hF h hv
   obtain⟨rfl,rfl,hx⟩:=h1
   exact⟨x,[],[],E,σ1,⟨rfl,hx⟩,UOk.nil,h5,h6,h7,h⟩
 | box t ow =>
  cases ow with
  | false =>
   cases pin with
   | true=>simp only [rdE]at h;cases h
   | false =>
    simp only [rdE]at h
    obtain⟨x,id',u,b,o,fr,F,l,ro,_,h2,h3,h4,h5,h⟩:=rdP_run hR h hv
    obtain⟨rfl,rfl,h1⟩:=h5 rfl
    simp only [Pg.run]at h
    have hex:(σ.H id').excl=true:=by rw [h4];rfl
    exact⟨x,u,F,[b],_,⟨b,rfl,h1⟩,h2,Less.kill (excl_ne hex),hR.kill (excl_ne hex),hF.giveO hR hex (by rw [h3];rfl),h⟩
  | true =>
   cases pin with
   | true=>simp only [rdE]at h;cases h
   | false =>
    simp only [rdE]at h
    split at h
    ·rename_i id' hid
     obtain⟨b,o0,e,rfl⟩:=asPtr_run hid hv
     replace h:=getB_run h
     split at h
     ·rename_i l hb
      have hbl:=hR.bl id'
      rw [hb]at hbl
      obtain⟨b',o',arr,el,fr,h1,h2,h3,_,h4⟩:=hbl
      rw [e]at h1
      cases h1
      obtain⟨h3,h30,h31⟩:=h3 rfl
      subst h3;subst h30
      rw [List.drop_zero,h31,List.take_of_length_le (by simp)]at h4
            -- the block itself first: it is not among the rows
      have hex:(σ.H id').excl=true:=by rw [hb];rfl
      obtain⟨x,rest,σ1,vs1,vs2,F,hvs,hrest,hre,hR1,hF1,hl1,h⟩:=rdO_run2 hR hF h h4
      split at h
      ·cases vs2 with
       | cons _ _=>exact hrest.elim
       | nil =>
        rw [List.append_nil]at hvs
        simp only [Pg.run]at h
        have hne:id' ∉ []:=by simp
        have hH:σ1.H id'=σ.H id':=by
         rcases hl1.H id' with hh | hh
         ·exact hh
         ·exfalso
          exact hl1.cells hb hh
        have hex1:(σ1.H id').excl=true:=by rw [hH];exact hex
        refine⟨x,[],[],b::F,_,⟨rfl,b,arr,el,F,rfl,rfl,h2,by rw [hvs];exact hre⟩,UOk.nil,hl1.toLess.trans (Less.kill (excl_ne hex1)),hR1.kill (excl_ne hex1),?_,h⟩
        have:=hF1.giveO hR1 hex1 (G := [b]) (by rw [e];rfl)
        refine this.sub (fun k hk => ?_) ?_
        ·simp only [List.mem_append,List.mem_cons]at hk ⊢
         rcases hk with hk | hk | hk
         ·exact .inl (.inl hk)
         ·exact .inr (.inl hk)
         ·exact .inl (.inr hk)
        ·have hnd:=this.nd
         rw [List.append_assoc,List.nodup_append,List.nodup_append]at hnd
         obtain⟨n1,⟨n2,n3,n4⟩,n5⟩:=hnd
         rw [List.nodup_append,List.nodup_cons]
         refine⟨n1,⟨fun hm=>n4 b hm b (by simp) rfl,n2⟩,fun x hx y hy => ?_⟩
         rcases List.mem_cons.1 hy with rfl | hy
         ·exact n5 x hx y (by simp)
         ·exact n5 x hx y (by simp [hy])
      ·cases h
     ·cases h
    ·cases h
end
end Go.Ev
namespace Go.Ev
open Go
variable [KSl]

section
variable {X : Ctx} {σ σ' : St} {ι : Nat → Home} {a : Act} {w : World} {α A : Type} {nid : Nat}

theorem chkLive_run:∀ {u:List Nat} {k:Pg α} {r:α×St},(chkLive u k).run σ=some r→(∀i∈u,(σ.H i).live=true∧ParOk σ.H (σ.H i).par)∧k.run σ=some r
 | [],k,r,h=>⟨by simp,h⟩
 | i::u,k,r,h=>by
  simp only [chkLive,Pg.run]at h
  split at h
  ·rename_i t x own ver par hb
   obtain⟨hp,h⟩:=chkPar_run h
   obtain⟨h1,h⟩:=chkLive_run h
   refine⟨fun j hj => ?_,h⟩
   rcases List.mem_cons.1 hj with rfl | hj
   ·rw [hb];exact⟨rfl,hp⟩
   ·exact h1 j hj
  ·rename_i t x y own ver par hb
   obtain⟨hp,h⟩:=chkPar_run h
   obtain⟨h1,h⟩:=chkLive_run h
   refine⟨fun j hj => ?_,h⟩
   rcases List.mem_cons.1 hj with rfl | hj
   ·rw [hb];exact⟨rfl,hp⟩
   ·exact h1 j hj
  ·rename_i l ro hb
   obtain⟨h1,h⟩:=chkLive_run h
   refine⟨fun j hj => ?_,h⟩
   rcases List.mem_cons.1 hj with rfl | hj
   ·rw [hb];exact⟨rfl,by intro q hq;simp [Blk.par]at hq⟩
   ·exact h1 j hj
  ·cases h

theorem UOk.apart{u U G:List Nat}{σ1:St}(hu:UOk σ ι u U)(hl:Less σ σ1)(hc:∀i∈u,(σ1.H i).live=true∧ParOk σ1.H (σ1.H i).par)(hF:Free X σ1 ι w G):∀b∈U,b ∉ G:=by
 intro b hb hG
 obtain⟨id,h1,h2,h3,h4,h5⟩:=hu b hb
 exact hF.away id (hc id h1).1 (hc id h1).2 b hG h2

theorem rdPat0_run:∀ {l:List PE} {σ:St} {G:List Nat} {k:PTe l→List Nat→Pg α} {r:α×St},Rel X σ ι a w→Free X σ ι w G→(rdPat0 l k).run σ=some r →
  ∃x u U O σ1,PatR w ι (fun i=>a.tmps.getD i undef) l x U O∧UOk σ ι u U∧Less σ σ1∧Rel X σ1 ι a w∧Free X σ1 ι w (G++O)∧(k x u).run σ1=some r
 | [],σ,G,k,r,hR,hF,h=>⟨(),[],[],[],σ,⟨rfl,rfl⟩,UOk.nil,.refl σ,hR,by simpa using hF,h⟩
 | e::l,σ,G,k,r,hR,hF,h=>by
  simp only [rdPat0,Pg.run]at h
  obtain⟨x,u,U,O,σ1,h1,h2,h3,h4,h5,h⟩:=rdE_run hR hF (hR.tm e.tmp) h
  obtain⟨y,u',U',O',σ2,g1,g2,g3,g4,g5,h⟩:=rdPat0_run h4 h5 h
  exact⟨(x,y),u++u',U++U',O++O',σ2,⟨U,U',O,O',rfl,rfl,h1,g1⟩,h2.append (h3.uok g2),h3.trans g3,g4,by simpa using g5,h⟩

theorem rdPat_run{l:List PE}{k:PTe l→Pg α}{r:α×St}(hR:Rel X σ ι a w)(hk:∀q∈X.pins,∃e∈l,e.pin=true∧e.id=q.1)(hpt:pinTy l=true)(h:(rdPat l k).run σ=some r) :
  ∃x π U O σ1,PatOk X l x a w π U O∧(k x).run σ1=some r:=by
 unfold rdPat at h
 obtain⟨x,u,U,O,σ1,h1,h2,h3,h4,h5,h⟩:=rdPat0_run hR Free.nil h
 obtain⟨h6,h⟩:=chkLive_run h
 simp only [List.nil_append]at h5
 refine⟨x,ι,U,O,σ1,⟨h1,h2.apart h3 h6 h5,?_,h5.lt,h5.mu,h5.nd,hR.pn,hk,hpt,hR.sz,hR.df,hR.fr,hR.le⟩,h⟩
 intro b hb
 obtain⟨id,g1,g2,g3,_⟩:=h2 b hb
 exact hR.lt id g3 b g2

theorem pinsOk_run{pins:List Nat}{l:List PE}(h:pinsOk pins l=true):∀p∈pins,∃e∈l,e.pin=true∧e.id=p:=by
 intro p hp
 simp only [pinsOk,Bool.and_eq_true]at h
 have:=List.all_eq_true.1 h.1 p hp
 obtain⟨e,he,h2⟩:=List.any_eq_true.1 this
 rw [Bool.and_eq_true]at h2
 exact⟨e,he,h2.1,Nat.eq_of_beq_eq_true h2.2⟩

theorem rdK_run{R:Type}{F:Fn R}{l:List PE}{K:PTe l→Option A}{z:A}(hR:Rel X σ ι a w)(hp:F.pins=X.pins.map (·.1))(h:rdK F l σ K=some z) :
  ∃x π U O,PatOk X l x a w π U O∧K x=some z:=by
 unfold rdK at h
 cases hc:pinsOk F.pins l with
 | false=>rw [hc]at h;cases h
 | true =>
  rw [hc]at h
  simp only [cond_true]at h
  rw [Pg.runK_eq]at h
  cases hr:(rdPat l fun x => .ret x).run σ with
  | none=>rw [hr]at h;cases h
  | some q =>
   rw [hr]at h
   simp only [Option.bind_some]at h
   obtain⟨x,π,U,O,σ1,h1,h2⟩:=rdPat_run hR (fun q hq=>pinsOk_run hc q.1 (by rw [hp];exact List.mem_map.2 ⟨q,hq,rfl⟩)) (by simp only [pinsOk,Bool.and_eq_true]at hc;exact hc.2) hr
   simp only [Pg.run,Option.some.injEq]at h2
   subst h2
   exact⟨x,π,U,O,h1,h⟩

structure Bld(X:Ctx)(σ:St)(ι:Nat→Home)(a:Act)(w:World)(U G:List Nat):Prop where
 rel:Rel X σ ι a w
 free:Free X σ ι w G
 ap:∀i,(σ.H i).excl=true→∀b∈(ι i).foot,b ∉ U

theorem newB_bld{U G:List Nat}(hB:Bld X σ ι a w U G)(hUG:∀b∈U,b ∉ G)(hlt:∀b∈U,b<w.heap.size){id:Nat}{blk:Blk}{k:Pg α}{r:α×St}(h:(newB id blk k).run σ=some r)(home:Home)(hb:RBlk σ.H w ι blk home)(he:blk.excl=false)(hp:blk.par = [])
  (hf:∀b∈home.foot,b∈U) (hnb:blk ≠ .unborn) :
  Bld X (σ.setH id blk) (upd ι id home) a w U G∧Lift ι (upd ι id home)∧k.run (σ.setH id blk)=some r:=by
 obtain⟨hu,h⟩:=newB_run h
 have hn:=hB.rel.unborn hu
 have hR:=hB.rel.newId hu (blk:=blk) (home:=home) (w':=w) (WLe.refl _) (fun _ _=>rfl) (fun _=>hb) (fun h=>absurd hp h) (fun _ b hb=>hlt b (hf b hb)) (fun h=>by rw [he]at h;cases h)
  (fun i hi _ _ _ b hb hb2=>hB.ap i hi b hb (hf b hb2)) (by rw [hp];simp) (by rw [hp];simp) hnb
 refine⟨⟨hR,⟨?_,hB.free.lt,hB.free.mu,hB.free.nd⟩,?_⟩,fun j hj=>upd_ne ι home (fun e=>hj (e ▸ hn)),h⟩
 ·intro j hl hp' b hb hb2
  by_cases e:j=id
  ·subst e
   rw [upd_same]at hb2
   exact hUG b (hf b hb2) hb
  ·rw [setH_ne σ _ e]at hl hp'
   rw [upd_ne ι home e]at hb2
   refine hB.free.away j hl ?_ b hb hb2
   intro q hq
   have:=hp' q hq
   rwa [setH_ne σ _ (show q.1≠id from fun e=>hB.rel.pb j q hq (by rw [e];exact hu))]at this
 ·intro i hi b hb
  by_cases e:i=id
  ·subst e;rw [setH_same,he]at hi;cases hi
  ·rw [setH_ne σ _ e]at hi
   rw [upd_ne ι home e]at hb
   exact hB.ap i hi b hb

theorem take_bld{U F G:List Nat}(hB:Bld X σ ι a w U (F++G))(hUG:∀b∈U,b ∉ F++G){id:Nat}{blk:Blk}{k:Pg α}{r:α×St}(h:(newB id blk k).run σ=some r)(home:Home)(hf:home.foot=F)(hb:RBlk σ.H w ι blk home)(hp:blk.par = [])
  (hnb:blk ≠ .unborn) :
  Bld X (σ.setH id blk) (upd ι id home) a w U G∧Lift ι (upd ι id home)∧k.run (σ.setH id blk)=some r:=by
 obtain⟨hu,h⟩:=newB_run h
 obtain⟨h1,h2,h3⟩:=hB.rel.take hB.free hu hf hb hp hnb
 refine⟨⟨h1,h2,fun i hi b hb => ?_⟩,h3,h⟩
 by_cases e:i=id
 ·subst e
  rw [upd_same,hf]at hb
  exact fun hU=>hUG b hU (List.mem_append.2 (.inl hb))
 ·rw [setH_ne σ _ e]at hi
  rw [upd_ne ι home e]at hb
  exact hB.ap i hi b hb

theorem Lift.trans{ι ι' ι'':Nat→Home}(h:Lift ι ι')(h':Lift ι' ι''):Lift ι ι'':=fun j hj=>by rw [h' j (by rw [h j hj];exact hj),h j hj]

theorem rows_bld{own:Bool}{U G:List Nat}{r:α×St}:∀ {t:Ty} {x:t.T} {cs:List Value} {F:List Nat} {nid:Nat} {k:Pg α} {σ:St} {ι:Nat→Home},Bld X σ ι a w U G→(∀b∈U,b ∉ G)→(∀b∈U,b<w.heap.size)→RE own w t x cs F →
  (∀b∈F,b∈U)→(newBs nid (unT false [] t x nid).2 k).run σ=some r →
  ∃σ' ι',Bld X σ' ι' a w U G∧Lift ι ι'∧F2 (RSc ι') (unT false [] t x nid).1 cs∧k.run σ'=some r
 | .unit,x,cs,F,nid,k,σ,ι,hB,hUG,hlt,hx,hF,h=>⟨σ,ι,hB,fun _ _=>rfl,by rw [hx.1];trivial,h⟩
 | .int q,x,cs,F,nid,k,σ,ι,hB,hUG,hlt,hx,hF,h=>⟨σ,ι,hB,fun _ _=>rfl,by rw [hx.1];exact⟨⟨rfl,rfl⟩,trivial⟩,h⟩
 | .bool,x,cs,F,nid,k,σ,ι,hB,hUG,hlt,hx,hF,h=>⟨σ,ι,hB,fun _ _=>rfl,by rw [hx.1];exact⟨⟨rfl,rfl⟩,trivial⟩,h⟩
 | .str,x,cs,F,nid,k,σ,ι,hB,hUG,hlt,hx,hF,h=>⟨σ,ι,hB,fun _ _=>rfl,by rw [hx.1];exact⟨⟨rfl,rfl⟩,trivial⟩,h⟩
 | .ks,x,cs,F,nid,k,σ,ι,hB,hUG,hlt,hx,hF,h=>⟨σ,ι,hB,fun _ _=>rfl,by rw [hx.1];exact⟨rfl,trivial⟩,h⟩
 | .pair ta tb,x,cs,F,nid,k,σ,ι,hB,hUG,hlt,hx,hF,h=>by
  obtain⟨c1,c2,F1,F2,rfl,rfl,h1,h2⟩:=hx
  simp only [unT]at h ⊢
  rw [newBs_append]at h
  obtain⟨σ1,ι1,hB1,hL1,hF1,h⟩:=rows_bld hB hUG hlt h1 (fun b hb=>hF b (List.mem_append.2 (.inl hb))) h
  obtain⟨σ2,ι2,hB2,hL2,hF2,h⟩:=rows_bld hB1 hUG hlt h2 (fun b hb=>hF b (List.mem_append.2 (.inr hb))) h
  exact⟨σ2,ι2,hB2,hL1.trans hL2,F2_append (F2_mono (fun _ _=>RSc_lift hL2) hF1) hF2,h⟩
 | .sl t,x,cs,F,nid,k,σ,ι,hB,hUG,hlt,hx,hF,h=>by
  obtain⟨A,n,c,rfl,hrow⟩:=hx
  simp only [unT,newBs]at h
  obtain⟨h1,h2,h3⟩:=newB_bld hB hUG hlt h (.row A n c F) ⟨A,n,c,F,rfl,fun _=>RR_ro hrow⟩ rfl rfl hF (by simp)
  exact⟨_,_,h1,h2,⟨⟨A,n,c,F,upd_same _ _ _,rfl⟩,trivial⟩,h3⟩
 | .rm t,x,cs,F,nid,k,σ,ι,hB,hUG,hlt,hx,hF,h=>by
  obtain⟨A,n,c,rfl,hnx,hrow⟩:=hx
  simp only [unT,newBs]at h
  obtain⟨h1,h2,h3⟩:=newB_bld hB hUG hlt h (.row A n c F) ⟨A,n,c,F,rfl,hnx,fun _=>RR_ro hrow⟩ rfl rfl hF (by simp)
  exact⟨_,_,h1,h2,⟨⟨A,n,c,F,upd_same _ _ _,rfl⟩,trivial⟩,h3⟩

theorem owns_bld{U:List Nat}{r:α×St}:∀ {t:Ty} {x:t.T} {cs:List Value} {F G:List Nat} {nid:Nat} {k:Pg α} {σ:St} {ι:Nat→Home},Bld X σ ι a w U (F++G)→(∀b∈U,b ∉ F++G)→RE true w t x cs F →
  (newBs nid (unT true [] t x nid).2 k).run σ=some r →
  ∃σ' ι',Bld X σ' ι' a w U G∧Lift ι ι'∧F2 (RSc ι') (unT true [] t x nid).1 cs∧k.run σ'=some r
 | .unit,x,cs,F,G,nid,k,σ,ι,hB,hUG,hx,h=>⟨σ,ι,by simpa [hx.2] using hB,fun _ _=>rfl,by rw [hx.1];trivial,h⟩
 | .int q,x,cs,F,G,nid,k,σ,ι,hB,hUG,hx,h=>⟨σ,ι,by simpa [hx.2] using hB,fun _ _=>rfl,by rw [hx.1];exact⟨⟨rfl,rfl⟩,trivial⟩,h⟩
 | .bool,x,cs,F,G,nid,k,σ,ι,hB,hUG,hx,h=>⟨σ,ι,by simpa [hx.2] using hB,fun _ _=>rfl,by rw [hx.1];exact⟨⟨rfl,rfl⟩,trivial⟩,h⟩
 | .str,x,cs,F,G,nid,k,σ,ι,hB,hUG,hx,h=>⟨σ,ι,by simpa [hx.2] using hB,fun _ _=>rfl,by rw [hx.1];exact⟨⟨rfl,rfl⟩,trivial⟩,h⟩
 | .ks,x,cs,F,G,nid,k,σ,ι,hB,hUG,hx,h=>⟨σ,ι,by simpa [hx.2] using hB,fun _ _=>rfl,by rw [hx.1];exact⟨rfl,trivial⟩,h⟩
 | .pair ta tb,x,cs,F,G,nid,k,σ,ι,hB,hUG,hx,h=>by
  obtain⟨c1,c2,F1,F2,rfl,rfl,h1,h2⟩:=hx
  simp only [unT]at h ⊢
  rw [newBs_append]at h
  obtain⟨σ1,ι1,hB1,hL1,hF1,h⟩:=owns_bld (G:=F2++G) (by simpa using hB) (by simpa using hUG) h1 h
  obtain⟨σ2,ι2,hB2,hL2,hF2,h⟩:=owns_bld (G:=G) hB1 (fun b hb hm=>hUG b hb (by rcases List.mem_append.1 hm with hm | hm <;> simp [hm])) h2 h
  exact⟨σ2,ι2,hB2,hL1.trans hL2,F2_append (F2_mono (fun _ _=>RSc_lift hL2) hF1) hF2,h⟩
 | .sl t,x,cs,F,G,nid,k,σ,ι,hB,hUG,hx,h=>by
  obtain⟨A,n,c,rfl,hrow⟩:=hx
  simp only [unT,newBs]at h
  obtain⟨h1,h2,h3⟩:=take_bld hB hUG h (.row A n c F) rfl ⟨A,n,c,F,rfl,fun _=>hrow⟩ rfl (by simp)
  exact⟨_,_,h1,h2,⟨⟨A,n,c,F,upd_same _ _ _,rfl⟩,trivial⟩,h3⟩
 | .rm t,x,cs,F,G,nid,k,σ,ι,hB,hUG,hx,h=>by
  obtain⟨A,n,c,rfl,hnx,hrow⟩:=hx
  simp only [unT,newBs]at h
  obtain⟨h1,h2,h3⟩:=take_bld hB hUG h (.row A n c F) rfl ⟨A,n,c,F,rfl,hnx,fun _=>hrow⟩ rfl (by simp)
  exact⟨_,_,h1,h2,⟨⟨A,n,c,F,upd_same _ _ _,rfl⟩,trivial⟩,h3⟩

theorem Rel.tmp(h:Rel X σ ι a w){d:Nat}{v:AV}(hv:RAV ι v (a.tmps.getD d undef)):Rel X (σ.setT d v) ι a w where
 tm i:=by
  simp only [St.setT]
  by_cases e:i=d
  ·subst e
   rw [Nat.beq_refl];exact hv
  ·rw [beq_false e];exact h.tm i
 sz:=h.sz
 df:=h.df
 bl:=h.bl
 lt:=h.lt
 nd:=h.nd
 sep:=h.sep
 fr:=h.fr
 le:=h.le
 mu:=h.mu
 pb:=h.pb
 pv:=h.pv
 pn:=h.pn
 po:=h.po

theorem tmp_bld{U G:List Nat}(hB:Bld X σ ι a w U G){d:Nat}{v:AV}{k:Pg α}{r:α×St}(hv:RAV ι v (a.tmps.getD d undef))(h:(putD X.C (some d) v k).run σ=some r) :
  Bld X (σ.setT d v) ι a w U G∧k.run (σ.setT d v)=some r:=by
 unfold putD at h
 simp only at h
 cases hd:Nat.ble X.C.ntmps d with
 | true=>rw [hd]at h;cases h
 | false =>
  rw [hd]at h
  exact⟨⟨hB.rel.tmp hv,⟨hB.free.away,hB.free.lt,hB.free.mu,hB.free.nd⟩,hB.ap⟩,h⟩

theorem ValR_mk2{own:Bool}{t:Ty}{g:Bool}{x:t.T}{v:Value}{F:List Nat}{l:List Sc}(hv:ValR w own t g x v F)(hl:F2 (RSc ι) l (cellsOf g v)):RVs ι (l,g) v:=by
 cases g with
 | true =>
  obtain⟨vs,rfl⟩:=hv.2 rfl
  exact⟨vs,rfl,hl⟩
 | false =>
  simp only [cellsOf]at hl
  cases l with
  | nil=>exact hl.elim
  | cons c l =>
   cases l with
   | nil=>exact⟨c,rfl,hl.1⟩
   | cons _ _=>exact hl.2.elim

theorem caps_bld{U G:List Nat}{r:α×St}:∀ {caps:List (Ty×CK)} {x:CapT caps} {vs:List Value} {U':List Nat} {nid:Nat} {k:Pg α} {σ:St} {ι:Nat→Home},Bld X σ ι a w U G→(∀b∈U,b ∉ G)→(∀b∈U,b<w.heap.size) →
  CapsR w caps x vs U'→(∀b∈U',b∈U)→(newBs nid (mkCaps caps x nid).2 k).run σ=some r →
  ∃σ' ι',Bld X σ' ι' a w U G∧Lift ι ι'∧F2 (RVs ι') (mkCaps caps x nid).1 vs∧k.run σ'=some r
 | [],x,vs,U',nid,k,σ,ι,hB,hUG,hlt,hx,hU,h=>⟨σ,ι,hB,fun _ _=>rfl,by rw [hx.1];trivial,h⟩
 | (t,.sc)::cs,x,vs,U',nid,k,σ,ι,hB,hUG,hlt,hx,hU,h=>by
  obtain⟨v,us,U1,U2,rfl,rfl,hv,hx⟩:=hx
  simp only [mkCaps]at h ⊢
  rw [newBs_append]at h
  obtain⟨σ1,ι1,hB1,hL1,hF1,h⟩:=rows_bld hB hUG hlt hv.1 (fun b hb=>hU b (List.mem_append.2 (.inl hb))) h
  obtain⟨σ2,ι2,hB2,hL2,hF2,h⟩:=caps_bld hB1 hUG hlt hx (fun b hb=>hU b (List.mem_append.2 (.inr hb))) h
  exact⟨σ2,ι2,hB2,hL1.trans hL2,⟨RVs_lift hL2 (ValR_mk2 hv hF1),hF2⟩,h⟩
 | (t,.ag)::cs,x,vs,U',nid,k,σ,ι,hB,hUG,hlt,hx,hU,h=>by
  obtain⟨v,us,U1,U2,rfl,rfl,hv,hx⟩:=hx
  simp only [mkCaps]at h ⊢
  rw [newBs_append]at h
  obtain⟨σ1,ι1,hB1,hL1,hF1,h⟩:=rows_bld hB hUG hlt hv.1 (fun b hb=>hU b (List.mem_append.2 (.inl hb))) h
  obtain⟨σ2,ι2,hB2,hL2,hF2,h⟩:=caps_bld hB1 hUG hlt hx (fun b hb=>hU b (List.mem_append.2 (.inr hb))) h
  exact⟨σ2,ι2,hB2,hL1.trans hL2,⟨RVs_lift hL2 (ValR_mk2 hv hF1),hF2⟩,h⟩
 | (t,.pr)::cs,x,vs,U',nid,k,σ,ι,hB,hUG,hlt,hx,hU,h=>by
  obtain⟨v,us,b,fr,U1,U2,rfl,rfl,⟨o,arr,e,rfl,hb,hsz,hre⟩,hx⟩:=hx
  simp only [mkCaps]at h ⊢
  rw [newBs_append]at h
  obtain⟨σ1,ι1,hB1,hL1,hF1,h⟩:=rows_bld hB hUG hlt hre (fun b hb=>hU b (by simp [hb])) h
  simp only [newBs]at h
  obtain⟨hB2,hL2,h⟩:=newB_bld hB1 hUG hlt h (.blk b o) (cells_seg hb hsz hF1) rfl rfl (by simp [Home.foot];exact hU b (by simp)) (by simp)
  obtain⟨σ2,ι2,hB3,hL3,hF2,h⟩:=caps_bld hB2 hUG hlt hx (fun b hb=>hU b (by simp [hb])) h
  refine⟨σ2,ι2,hB3,(hL1.trans hL2).trans hL3,⟨⟨_,rfl,b,o,?_,rfl⟩,hF2⟩,h⟩
  rw [hL3 _ (by rw [upd_same];simp),upd_same]
 | (t,.pp)::cs,x,vs,U',nid,k,σ,ι,hB,hUG,hlt,hx,hU,h=>by
  obtain⟨us,b,o,c,fr,p,arr,e,fr',U1,U2,rfl,rfl,hb,hp,⟨o2,arr',e',rfl,hc,hsz,hre⟩,hx⟩:=hx
  simp only [mkCaps]at h ⊢
  rw [newBs_append]at h
  obtain⟨σ1,ι1,hB1,hL1,hF1,h⟩:=rows_bld hB hUG hlt hre (fun b hb=>hU b (by simp [hb])) h
  simp only [newBs]at h
  obtain⟨hB2,hL2,h⟩:=newB_bld hB1 hUG hlt h (.blk c o2) (cells_seg hc hsz hF1) rfl rfl (by simp [Home.foot];exact hU c (by simp)) (by simp)
  obtain⟨hB3,hL3,h⟩:=newB_bld hB2 hUG hlt h (.blk b o) (cells_seg (n:=1) hb (take_one_le hp) (by rw [hp];exact⟨⟨c,o2,upd_same _ _ _,rfl⟩,trivial⟩)) rfl rfl (by simp [Home.foot];exact hU b (by simp)) (by simp)
  obtain⟨σ2,ι2,hB4,hL4,hF2,h⟩:=caps_bld hB3 hUG hlt hx (fun b hb=>hU b (by simp [hb])) h
  refine⟨σ2,ι2,hB4,((hL1.trans hL2).trans hL3).trans hL4,⟨⟨_,rfl,b,o,?_,rfl⟩,hF2⟩,h⟩
  rw [hL4 _ (by rw [upd_same];simp),upd_same]

theorem Bld.perm{U G G':List Nat}(hB:Bld X σ ι a w U G)(hp:G.Perm G'):Bld X σ ι a w U G' :=
 ⟨hB.rel,⟨fun i hl hp' b hb=>hB.free.away i hl hp' b (hp.mem_iff.2 hb),fun b hb=>hB.free.lt b (hp.mem_iff.2 hb),fun b hb=>hB.free.mu b (hp.mem_iff.2 hb),hp.nodup_iff.1 hB.free.nd⟩,hB.ap⟩

theorem sub_bld{U G:List Nat}(hB:Bld X σ ι a w U G){id:Nat}{blk:Blk}{home:Home}(hu:σ.H id = .unborn)(hR:Rel X (σ.setH id blk) (upd ι id home) a w)(he:blk.excl=false)(hf:∀b∈home.foot,b ∉ G):Bld X (σ.setH id blk) (upd ι id home) a w U G:=by
 refine⟨hR,⟨?_,hB.free.lt,hB.free.mu,hB.free.nd⟩,?_⟩
 ·intro j hl hp' b hb hb2
  by_cases e:j=id
  ·subst e
   rw [upd_same]at hb2
   exact hf b hb2 hb
  ·rw [setH_ne σ _ e]at hl hp'
   rw [upd_ne ι home e]at hb2
   refine hB.free.away j hl ?_ b hb hb2
   intro q hq
   have:=hp' q hq
   rwa [setH_ne σ _ (show q.1≠id from fun e=>hB.rel.pb j q hq (by rw [e];exact hu))]at this
 ·intro i hi b hb
  by_cases e:i=id
  ·subst e;rw [setH_same,he]at hi;cases hi
  ·rw [setH_ne σ _ e]at hi
   rw [upd_ne ι home e]at hb
   exact hB.ap i hi b hb

theorem idx_bld{U G2:List Nat}{t:Ty}{xs:List (List t.T)}{id i ver:Nat}{A:Option Addr}{n c:Nat}{F:List Nat}{k:Pg α}{r:α×St}(hB:Bld X σ ι a w U G2)(hb:σ.H id = .row (.sl t) xs true ver [])(e:ι id = .row A n c F)(hi:i<n)
  (h:(newBs nid (unT false [(id,ver)] (.sl t) (xs.getD i []) nid).2 (newB (nid+4) (.idx t xs nid i id ver) k)).run σ=some r) :
  ∃σ1 ι1 b o arr el A2 n2 c2 F2,A=some ⟨b,o,none⟩∧Bld X σ1 ι1 a w U G2∧Lift ι ι1∧ι1 nid = .row A2 n2 c2 F2∧w.heap[b]? = some (.cells arr el (0,0))∧(arr.toList.drop (o+i*1)).take 1 = [.slice A2 n2 c2]∧σ1.T=σ.T∧k.run σ1=some r:=by
 have hR:=hB.rel
 have hbl:=hR.bl id
 rw [hb]at hbl
 obtain⟨A',n',c',F',h1,h2⟩:=hbl
 rw [e]at h1
 cases h1
 have h2:=h2 (chk_none rfl)
 have hlt:=hR.lt id (by rw [hb];rfl)
 rw [e]at hlt
 simp only [Home.foot]at hlt
 have haw:∀k∈F,k ∉ G2:=fun k hk hg=>hB.free.away id (by rw [hb];rfl) (by rw [hb];exact chk_none rfl) k hg (by rw [e];exact hk)
 obtain⟨hn,hc,h3 | ⟨b,o,arr,el,fr,Fs,G,hA,hw,hf,hs,hF,hG,hl,hel⟩⟩:=h2
 ·rw [h3.1]at hn;simp at hn;omega
 ·have hx:i<xs.length:=by omega
  have hFi:i<Fs.length:=by omega
  have hf:=hf rfl
  subst hf
  have hr:=hel i xs[i] Fs[i] (List.getElem?_eq_getElem hx) (List.getElem?_eq_getElem hFi)
  have hgx:xs.getD i []=xs[i]:=by rw [List.getD_eq_getElem?_getD,List.getElem?_eq_getElem hx];rfl
  have hFsub:∀k∈Fs[i],k∈F:=fun k hk=>by rw [hF];exact List.mem_cons_of_mem _ (List.mem_append.2 (.inl (List.mem_flatten.2 ⟨Fs[i],List.getElem_mem hFi,hk⟩)))
  obtain⟨A2,n2,c2,hcs,hrow⟩:=hr
  simp only [Ty.size]at hcs hs
  simp only [unT,newBs]at h ⊢
  obtain⟨hu,h⟩:=newB_run h
  have hpar:ParOk σ.H [(id,ver)]:=by intro q hq;simp at hq;subst hq;exact⟨_,_,_,hb⟩
  have hne:id≠nid:=by rintro rfl;rw [hb]at hu;cases hu
  have hR1:=hR.newId hu (blk := .row t (xs.getD i []) false 0 [(id,ver)]) (home := .row A2 n2 c2 Fs[i]) (w':=w) (WLe.refl _) (fun _ _=>rfl) (fun _=>⟨A2,n2,c2,Fs[i],rfl,fun _=>by rw [hgx];exact RR_ro hrow⟩)
   (fun _ H w ι' _ hf=>⟨_,_,_,_,rfl,fun h=>(hf h).elim⟩) (fun _ k hk=>hlt k (hFsub k hk)) (fun h=>by cases h)
   (fun j he _ _ hr k hk hk2=>by
    have hj:j≠id:=by intro e2;apply hr;simp [Blk.par,e2]
    have:=hR.sep j id hj he (by rw [hb];rfl) (by rw [hb];exact chk_none rfl) (by rw [hb];simp [Blk.par]) k hk
    rw [e]at this
    exact this (hFsub k hk2))
   (fun q hq=>by simp [Blk.par]at hq;subst hq;rw [hb];simp) (fun q hq ver e'=>by simp [Blk.par]at hq;subst hq;rw [hb]at e'; cases e'; exact Nat.le_refl _) (by simp)
  have hB1:=sub_bld hB hu hR1 rfl (fun k hk=>haw k (hFsub k hk))
  have hb1:(σ.setH nid (.row t (xs.getD i []) false 0 [(id,ver)])).H id = .row (.sl t) xs true ver []:=by rw [setH_ne _ _ hne,hb]
  have e1:upd ι nid (.row A2 n2 c2 Fs[i]) id = .row A n c F:=by rw [upd_ne _ _ hne,e]
  have hn0:=hR.unborn hu
  obtain⟨hu1,h⟩:=newB_run h
  have hR2:=hR1.newId hu1 (blk := .idx t xs nid i id ver) (home := .row A n c F) (w':=w) (WLe.refl _) (fun _ _=>rfl)
   (fun _=>⟨A,n,c,F,rfl,e1,fun _=>⟨b,o,arr,el,Fs,G,A2,n2,c2,Fs[i],hA,hn,hc,hw,by simpa using hs,⟨hF,hG⟩,hl,hel,hcs,List.getElem?_eq_getElem hFi,upd_same _ _ _⟩⟩)
   (fun _ H w ι' hL hf=>⟨A,n,c,F,rfl,hL.eq e1 (by simp),fun h=>(hf h).elim⟩) (fun _ k hk=>hlt k hk) (fun h=>by cases h)
   (fun j he _ _ hr k hk hk2=>by
    have hj:j≠id:=by intro e2;apply hr;simp [Blk.par,e2]
    have:=hR1.sep j id hj he (by rw [hb1];rfl) (by rw [hb1];exact chk_none rfl) (by rw [hb1];simp [Blk.par]) k hk
    rw [e1]at this
    exact this hk2)
   (fun q hq=>by simp [Blk.par]at hq;subst hq;rw [hb1];simp) (fun q hq ver e'=>by simp [Blk.par]at hq;subst hq;rw [hb1]at e'; cases e'; exact Nat.le_refl _) (by simp)
  have hB2:=sub_bld hB1 hu1 hR2 rfl haw
  have hn1:=hR1.unborn hu1
  refine⟨_,_,b,o,arr,el,A2,n2,c2,Fs[i],hA,hB2,?_,?_,hw,hcs,rfl,h⟩
  ·intro j hj
   rw [upd_ne _ _ (fun e2=>by subst e2;exact hj (by rw [upd_ne _ _ (by omega)]at hn1;exact hn1)),upd_ne _ _ (fun e2=>hj (by rw [e2];exact hn0))]
  ·rw [upd_ne _ _ (by omega),upd_same]

theorem box_cells(hR:Rel X σ ι a w){pid p o:Nat}{l:List Sc}{parr:Array Value}{pe:TypeId}(hb:σ.H pid = .cells l false)(e:ι pid = .blk p o)(hp:w.heap[p]? = some (.cells parr pe (0,0))):o=0∧F2 (RSc ι) l parr.toList:=by
 have hbl:=hR.bl pid
 rw [hb]at hbl
 obtain⟨p',o',parr',pe',fr,h1,h2,h3,_,h4⟩:=hbl
 rw [e]at h1
 cases h1
 obtain⟨h3,h30,h31⟩:=h3 rfl
 rw [hp]at h2
 cases h2
 subst h30
 rw [List.drop_zero,h31,List.take_of_length_le (by simp)]at h4
 exact⟨rfl,h4⟩

theorem F2_pick{ι:Nat→Home}{l:List Sc}{ps:List Value}(hl:F2 (RSc ι) l ps):∀ {offs:List Nat},(∀o∈offs,o<l.length)→F2 (RSc ι) (offs.map fun o=>l.getD o .top) (offs.map fun o=>ps.getD o undef)
 | [],_=>trivial
 | o::offs,h=>by
  have ho:=h o (by simp)
  obtain⟨u,hu,hr⟩:=F2_get hl (List.getElem?_eq_getElem ho)
  refine⟨?_,F2_pick hl (fun o ho=>h o (by simp [ho]))⟩
  show RSc ι (l.getD o .top) (ps.getD o undef)
  rw [List.getD_eq_getElem?_getD,List.getD_eq_getElem?_getD,hu,List.getElem?_eq_getElem ho]
  exact hr

theorem fselPg_run{l:List Sc}{x:Nat}{k:Nat→Pg α}{r:α×St}:∀ {offs:List Nat} {j:Nat},j≤x→(fselPg l x k offs j).run σ=some r→∃o i,offs[x - j]? = some o∧l[o]? = some (.sl i)∧(k i).run σ=some r
 | [],j,hj,h=>by simp only [fselPg]at h;cases h
 | o::offs,j,hj,h=>by
  simp only [fselPg,Pg.run]at h
  cases hb:Nat.beq x j with
  | true =>
   rw [hb]at h
   simp only [cond_true]at h
   have:=Nat.eq_of_beq_eq_true hb
   subst this
   split at h
   ·rename_i i hi
    exact⟨o,i,by simp,getD_sl hi,h⟩
   ·cases h
  | false =>
   rw [hb]at h
   simp only [cond_false]at h
   have hne:x≠j:=fun e=>by rw [e,Nat.beq_refl]at hb;cases hb
   obtain⟨o',i,h1,h2,h3⟩:=fselPg_run (by omega) h
   refine⟨o',i,?_,h2,h3⟩
   rw [show x - j=(x - (j+1))+1 by omega,List.getElem?_cons_succ]
   exact h1

theorem mkE_run{e:PE}{U G U' O:List Nat}{π:Nat→Home}{x:e.b.T}{k:Pg α}{r:α×St}(hB:Bld X σ ι a w U (O++G))(hUG:∀b∈U,b ∉ O++G)(hlt:∀b∈U,b<w.heap.size)(hE:EntR w π (fun i=>a.tmps.getD i undef) e x (a.tmps.getD e.tmp undef) U' O)(hU:∀b∈U',b∈U)
  (h:(mkE X.C e x k).run σ=some r):∃σ' ι',Bld X σ' ι' a w U G∧Lift ι ι'∧(e.pin=true→(∃t,e.b = .own t)∨(∃t,e.b = .ptr t true)→ι' e.id=π e.id)∧k.run σ'=some r:=by
 obtain⟨tmp,id,b,pin⟩:=e
 have hnp:∀ {ι':Nat→Home} {b:BTy},(∀t,b ≠ .own t)→(∀t,b ≠ .ptr t true)→(pin=true→(∃t,b = .own t)∨(∃t,b = .ptr t true)→ι' id=π id):=by
  intro ι' b h1 h2 _ h3
  rcases h3 with ⟨t,rfl⟩ | ⟨t,rfl⟩
  ·exact absurd rfl (h1 t)
  ·exact absurd rfl (h2 t)
 cases b with
 | val t g =>
  obtain⟨rfl,hv⟩:=hE
  simp only [mkE]at h
  obtain⟨σ1,ι1,hB1,hL1,hF1,h⟩:=rows_bld (by simpa using hB) (by simpa using hUG) hlt hv.1 hU h
  obtain⟨hB2,h⟩:=tmp_bld hB1 (v := .one _ g) (ValR_mk2 hv hF1) h
  exact⟨_,ι1,hB2,hL1,hnp (by simp) (by simp),h⟩
 | ptr t mu =>
  cases mu with
  | true =>
   obtain⟨b,rfl,hπ,arr,el,hv,hb,hre⟩:=hE
   simp only [mkE]at h
   obtain⟨σ1,ι1,hB1,hL1,hF1,h⟩:=rows_bld hB hUG hlt hre hU h
   obtain⟨hB2,hL2,h⟩:=take_bld hB1 hUG h (.blk b 0) rfl (cells_whole hb (fun _=>rfl) hF1) rfl (by simp)
   obtain⟨hB3,h⟩:=tmp_bld hB2 (v := .sc (.ptr id 0)) (RAV_sc.2 ⟨b,0,upd_same _ _ _,hv⟩) h
   exact⟨_,_,hB3,hL1.trans hL2,fun _ _=>by rw [upd_same,hπ],h⟩
  | false =>
   obtain⟨rfl,b,fr,U1,rfl,o,arr,el,hv,hb,hsz,hre⟩:=hE
   simp only [mkE]at h
   obtain⟨σ1,ι1,hB1,hL1,hF1,h⟩:=rows_bld (by simpa using hB) (by simpa using hUG) hlt hre (fun b hb=>hU b (by simp [hb])) h
   obtain⟨hB2,hL2,h⟩:=newB_bld hB1 (by simpa using hUG) hlt h (.blk b o) (cells_seg hb hsz hF1) rfl rfl (by simp [Home.foot];exact hU b (by simp)) (by simp)
   obtain⟨hB3,h⟩:=tmp_bld hB2 (v := .sc (.ptr id 0)) (RAV_sc.2 ⟨b,o,upd_same _ _ _,hv⟩) h
   exact⟨_,_,hB3,hL1.trans hL2,hnp (by simp) (by simp),h⟩
 | own t =>
  obtain⟨rfl,A,n,c,hv,hπ,hrr⟩:=hE
  simp only [mkE]at h
  obtain⟨hB2,hL2,h⟩:=take_bld hB hUG h (.row A n c O) rfl ⟨A,n,c,O,rfl,fun _=>hrr⟩ rfl (by simp)
  obtain⟨hB3,h⟩:=tmp_bld hB2 (v := .sc (.sl id)) (RAV_sc.2 ⟨A,n,c,O,upd_same _ _ _,hv⟩) h
  exact⟨_,_,hB3,hL2,fun _ _=>by rw [upd_same,hπ],h⟩
 | eat t =>
  obtain⟨rfl,A,n,c,hv,hrr⟩:=hE
  simp only [mkE]at h
  obtain⟨hB2,hL2,h⟩:=take_bld hB hUG h (.row A n c O) rfl ⟨A,n,c,O,rfl,fun _=>hrr⟩ rfl (by simp)
  unfold lenIf at h
  cases hc:X.C.share.any fun i=>Nat.beq i (tmp+300000)with
  | false =>
   rw [hc]at h
   obtain⟨hB3,h⟩:=tmp_bld hB2 (v := .sc (.sl id)) (RAV_sc.2 ⟨A,n,c,O,upd_same _ _ _,hv⟩) h
   exact⟨_,_,hB3,hL2,hnp (by simp) (by simp),h⟩
  | true =>
   rw [hc]at h
   obtain⟨hB4,hL4,h⟩:=newB_bld hB2 (fun b hb hg=>hUG b hb (List.mem_append.2 (.inr hg))) hlt h (.clo #[]) ⟨⟨_,rfl⟩,A,c,O,by rw [upd_same,hrr.1],by rw [←hrr.1];exact hrr.2.1⟩ rfl rfl (by simp [Home.foot]) (by simp)
   obtain⟨hB3,h⟩:=tmp_bld hB4 (v := .sc (.sl id)) (RAV_sc.2 ⟨A,n,c,O,by rw [upd_ne _ _ (by omega),upd_same],hv⟩) h
   exact⟨_,_,hB3,hL2.trans hL4,hnp (by simp) (by simp),h⟩
 | fn f caps =>
  obtain⟨rfl,vs,hv,hc⟩:=hE
  simp only [mkE]at h
  obtain⟨σ1,ι1,hB1,hL1,hF1,h⟩:=caps_bld (by simpa using hB) (by simpa using hUG) hlt hc hU h
  obtain⟨hB2,hL2,h⟩:=newB_bld hB1 (by simpa using hUG) hlt h (.clo vs) ⟨vs,rfl,hF1⟩ rfl rfl (by simp [Home.foot]) (by simp)
  obtain⟨hB3,h⟩:=tmp_bld hB2 (v := .sc (.fn f id)) (RAV_sc.2 ⟨vs,upd_same _ _ _,hv⟩) h
  exact⟨_,_,hB3,hL1.trans hL2,hnp (by simp) (by simp),h⟩
 | same t =>
  obtain⟨rfl,rfl,hv,A,n,c,hs⟩:=hE
  simp only [mkE,Pg.run]at h
  split at h
  ·rename_i i hi
   obtain⟨A',n',c',F',e1,hv'⟩:=asSl_run hi (hB.rel.tm t)
   obtain⟨hB3,h⟩:=tmp_bld hB (v := .sc (.sl i)) (RAV_sc.2 ⟨A',n',c',F',e1,by rw [hv];exact hv'⟩) h
   exact⟨_,_,by simpa using hB3,fun _ _=>rfl,hnp (by simp) (by simp),h⟩
  ·cases h
 | vw p =>
  obtain⟨rfl,rfl,b,o,n,c,arr,el,hv,hb,hx,hd⟩:=hE
  simp only [mkE,Pg.run]at h
  split at h
  ·rename_i pid hi
   obtain⟨A',n',c',F',e1,hv'⟩:=asSl_run hi (hB.rel.tm p)
   replace h:=getB_run h
   split at h
   ·rename_i t xs ver hbp
    have hve:A'=some ⟨b,o,none⟩∧n'=n∧c'=c:=by
     have hv:a.tmps.getD p undef=_:=hv
     rw [hv]at hv'
     cases hv'
     exact⟨rfl,rfl,rfl⟩
    obtain⟨rfl,rfl,rfl⟩:=hve
    obtain⟨σ1,ι1,b2,o2,arr2,el2,A2,n2,c2,F2,q1,hB1,hL1,q2,q3,q4,_,h⟩:=idx_bld hB hbp e1 hx h
    cases q1
    rw [hb]at q3
    cases q3
    rw [hd]at q4
    obtain⟨hB3,h⟩:=tmp_bld hB1 (v := .sc (.sl id)) (RAV_sc.2 ⟨A2,n2,c2,F2,q2,(List.cons.inj q4).1⟩) h
    exact⟨_,_,by simpa using hB3,hL1,hnp (by simp) (by simp),h⟩
   ·cases h
  ·cases h
 | hof t =>
  obtain⟨rfl,A,n,c,hv,hh⟩:=hE
  simp only [mkE]at h
  obtain⟨hB2,hL2,h⟩:=take_bld hB hUG h (.row A n c O) rfl ⟨A,n,c,O,rfl,hh⟩ rfl (by simp)
  obtain⟨hB3,h⟩:=tmp_bld hB2 (v := .sc (.sl id)) (RAV_sc.2 ⟨A,n,c,O,upd_same _ _ _,hv⟩) h
  exact⟨_,_,hB3,hL2,hnp (by simp) (by simp),h⟩
 | al t offs =>
  obtain⟨rfl,b,arr,el,fr,p,parr,pe,rfl,hv,hb,hsz,hp,hpp,htk⟩:=hE
  simp only [mkE,Pg.run]at h
  split at h
  ·rename_i pid hi
   obtain⟨p',o',e1,hv'⟩:=asPtr_run hi (hB.rel.tm t)
   replace h:=getB_run h
   split at h
   ·rename_i l hbp
    have hp:a.tmps.getD t undef=_:=hp
    rw [hp]at hv'
    cases hv'
    obtain⟨_,h4⟩:=box_cells hB.rel hbp e1 hpp
    cases hc:offs.all (fun o=>Nat.blt o l.length)with
    | false=>rw [hc]at h;cases h
    | true =>
     rw [hc]at h
     simp only [cond_true]at h
     have hseg:F2 (RSc ι) (offs.map fun o=>l.getD o .top) ((arr.toList.drop 0).take offs.length):=by
      rw [List.drop_zero,htk]
      exact F2_pick h4 (fun o ho=>Nat.lt_of_succ_le (Nat.le_of_ble_eq_true (List.all_eq_true.1 hc o ho)))
     obtain⟨hB2,hL2,h⟩:=newB_bld (by simpa using hB) (by simpa using hUG) hlt h (.blk b 0) (cells_seg hb (by omega) hseg) rfl rfl (by simp [Home.foot];exact hU b (by simp)) (by simp)
     obtain⟨hB3,h⟩:=tmp_bld hB2 (v := .sc (.slc id offs.length)) (RAV_sc.2 ⟨b,upd_same _ _ _,hv⟩) h
     exact⟨_,_,hB3,hL2,hnp (by simp) (by simp),h⟩
   ·cases h
  ·cases h
 | fsel t offs =>
  obtain⟨rfl,rfl,p,parr,pe,o,hp,hpp,ho,hv⟩:=hE
  simp only [mkE,Pg.run]at h
  split at h
  ·rename_i pid hi
   obtain⟨p',o',e1,hv'⟩:=asPtr_run hi (hB.rel.tm t)
   replace h:=getB_run h
   split at h
   ·rename_i l hbp
    have hp:a.tmps.getD t undef=_:=hp
    rw [hp]at hv'
    cases hv'
    obtain⟨_,h4⟩:=box_cells hB.rel hbp e1 hpp
    obtain⟨o2,i,g1,g2,h⟩:=fselPg_run (Nat.zero_le _) h
    rw [Nat.sub_zero,ho]at g1
    cases g1
    obtain⟨u,hu,hr⟩:=F2_get h4 g2
    rw [hv]at hu
    cases hu
    obtain⟨hB3,h⟩:=tmp_bld hB (v := .sc (.sl i)) (RAV_sc.2 hr) h
    exact⟨_,_,by simpa using hB3,fun _ _=>rfl,hnp (by simp) (by simp),h⟩
   ·cases h
  ·cases h
 | pp t =>
  obtain⟨rfl,b,o,c,fr,p,arr,e,fr',U1,hv,rfl,hb,hp,o2,arr',e',rfl,hc,hsz,hre⟩:=hE
  simp only [mkE]at h
  obtain⟨σ1,ι1,hB1,hL1,hF1,h⟩:=rows_bld (by simpa using hB) (by simpa using hUG) hlt hre (fun b hb=>hU b (by simp [hb])) h
  obtain⟨hB2,hL2,h⟩:=newB_bld hB1 (by simpa using hUG) hlt h (.blk c o2) (cells_seg hc hsz hF1) rfl rfl (by simp [Home.foot];exact hU c (by simp)) (by simp)
  obtain⟨hB3,hL3,h⟩:=newB_bld hB2 (by simpa using hUG) hlt h (.blk b o) (cells_seg (n:=1) hb (take_one_le hp) (by rw [hp];exact⟨⟨c,o2,upd_same _ _ _,rfl⟩,trivial⟩)) rfl rfl (by simp [Home.foot];exact hU b (by simp)) (by simp)
  obtain⟨hB4,h⟩:=tmp_bld hB3 (v := .sc (.ptr id 0)) (RAV_sc.2 ⟨b,o,upd_same _ _ _,hv⟩) h
  exact⟨_,_,hB4,(hL1.trans hL2).trans hL3,hnp (by simp) (by simp),h⟩
 | lit l =>
  obtain⟨hv,hl,rfl,rfl⟩:=hE
  simp only [mkE]at h
  obtain⟨hB3,h⟩:=tmp_bld hB (v := .sc (.v l)) (RAV_v.2 ⟨hv,hl⟩) h
  exact⟨_,_,by simpa using hB3,fun _ _=>rfl,hnp (by simp) (by simp),h⟩
 | gob t g =>
  obtain⟨rfl,hv⟩:=hE
  simp only [mkE]at h
  obtain⟨σ1,ι1,hB1,hL1,hF1,h⟩:=owns_bld hB hUG hv.1 h
  obtain⟨hB2,h⟩:=tmp_bld hB1 (v := .one _ g) (ValR_mk2 hv hF1) h
  exact⟨_,ι1,hB2,hL1,hnp (by simp) (by simp),h⟩
 | box t own =>
  cases own with
  | true =>
   obtain⟨rfl,b,arr,el,F,rfl,hv,hb,hre⟩:=hE
   simp only [mkE]at h
   have hperm:Bld X σ ι a w U (F++(b::G)):=⟨hB.rel,hB.free.sub (fun z hz=>by simp at hz ⊢; rcases hz with hz | hz | hz <;> simp [hz]) (by
    have:=hB.free.nd
    simp only [List.cons_append,List.nodup_cons,List.mem_append,not_or]at this
    rw [List.nodup_append]at this ⊢
    obtain⟨⟨n1,n2⟩,n3,n4,n5⟩:=this
    refine⟨n3,List.nodup_cons.2 ⟨n2,n4⟩,fun x hx y hy e => ?_⟩
    rcases List.mem_cons.1 hy with rfl | hy
    ·exact n1 (e ▸ hx)
    ·exact n5 x hx y hy e),hB.ap⟩
   obtain⟨σ1,ι1,hB1,hL1,hF1,h⟩:=owns_bld hperm (fun b hb hm=>hUG b hb (by simp at hm ⊢; rcases hm with hm | hm | hm <;> simp [hm])) hre h
   obtain⟨hB2,hL2,h⟩:=take_bld (F := [b]) (G:=G) hB1 (fun b hb hm=>hUG b hb (by simp at hm ⊢; rcases hm with hm | hm <;> simp [hm])) h (.blk b 0) rfl (cells_whole hb (fun _=>rfl) hF1) rfl (by simp)
   obtain⟨hB3,h⟩:=tmp_bld hB2 (v := .sc (.ptr id 0)) (RAV_sc.2 ⟨b,0,upd_same _ _ _,hv⟩) h
   exact⟨_,_,hB3,hL1.trans hL2,hnp (by simp) (by simp),h⟩
  | false =>
   obtain⟨b,rfl,arr,el,hv,hb,hre⟩:=hE
   simp only [mkE]at h
   obtain⟨σ1,ι1,hB1,hL1,hF1,h⟩:=rows_bld hB hUG hlt hre hU h
   obtain⟨hB2,hL2,h⟩:=take_bld hB1 hUG h (.blk b 0) rfl (cells_whole hb (fun _=>rfl) hF1) rfl (by simp)
   obtain⟨hB3,h⟩:=tmp_bld hB2 (v := .sc (.ptr id 0)) (RAV_sc.2 ⟨b,0,upd_same _ _ _,hv⟩) h
   exact⟨_,_,hB3,hL1.trans hL2,hnp (by simp) (by simp),h⟩
end
end Go.Ev
namespace Go.Ev
open Go
variable [KSl]

section
variable {X : Ctx} {σ σ' : St} {ι : Nat → Home} {a : Act} {w : World} {α A : Type} {nid : Nat}

theorem mkPat_run{U:List Nat}{π:Nat→Home}{r:α×St}:∀ {l:List PE} {x:PTe l} {U' O G:List Nat} {k:Pg α} {σ:St} {ι:Nat→Home},Bld X σ ι a w U (O++G)→(∀b∈U,b ∉ O++G)→(∀b∈U,b<w.heap.size) →
  PatR w π (fun i=>a.tmps.getD i undef) l x U' O→(∀b∈U',b∈U)→(mkPat X.C l x k).run σ=some r →
  ∃σ' ι',Bld X σ' ι' a w U G∧Lift ι ι'∧(∀e∈l,e.pin=true→(∃t,e.b = .own t)∨(∃t,e.b = .ptr t true)→π e.id ≠ .none→ι' e.id=π e.id)∧k.run σ'=some r
 | [],x,U',O,G,k,σ,ι,hB,hUG,hlt,hP,hU,h=>by
  obtain⟨rfl,rfl⟩:=hP
  exact⟨σ,ι,by simpa using hB,fun _ _=>rfl,by simp,h⟩
 | e::l,x,U',O,G,k,σ,ι,hB,hUG,hlt,hP,hU,h=>by
  obtain⟨U1,U2,O1,O2,rfl,rfl,hE,hP⟩:=hP
  simp only [mkPat]at h
  have hB0:Bld X σ ι a w U (O2++(O1++G)):=hB.perm (by
   rw [←List.append_assoc]
   exact List.Perm.append_right G List.perm_append_comm)
  obtain⟨σ1,ι1,hB1,hL1,hp1,h⟩:=mkPat_run hB0 (fun b hb hm=>hUG b hb (by simp only [List.mem_append]at hm ⊢; rcases hm with hm | hm | hm <;> simp [hm])) hlt hP (fun b hb=>hU b (List.mem_append.2 (.inr hb))) h
  obtain⟨σ2,ι2,hB2,hL2,hp2,h⟩:=mkE_run (G:=G) hB1 (fun b hb hm=>hUG b hb (by simp only [List.mem_append]at hm ⊢; rcases hm with hm | hm <;> simp [hm])) hlt hE (fun b hb=>hU b (List.mem_append.2 (.inl hb))) h
  refine⟨σ2,ι2,hB2,hL1.trans hL2,fun e' he' hp hb hn => ?_,h⟩
  rcases List.mem_cons.1 he' with rfl | he'
  ·exact hp2 hp hb
  ·have:=hp1 e' he' hp hb hn
   rw [hL2 _ (by rw [this];exact hn),this]

theorem pinTy_run:∀ {l:List PE},pinTy l=true→∀e∈l,e.pin=true→(∃t,e.b = .own t)∨(∃t,e.b = .ptr t true)
 | [],_,e,he,_=>by simp at he
 | ⟨i,j,b,p⟩::l,h,e,he,hp=>by
  have key:(∃t,b = .own t)∨(∃t,b = .ptr t true)∨p=false:=by
   cases b with
   | own t=>exact .inl ⟨t,rfl⟩
   | ptr t mu =>
    cases mu with
    | true=>exact .inr (.inl ⟨t,rfl⟩)
    | false=>simp only [pinTy,Bool.and_eq_true,Bool.not_eq_true']at h;exact .inr (.inr h.1)
   | _=>simp only [pinTy,Bool.and_eq_true,Bool.not_eq_true']at h;exact .inr (.inr h.1)
  have rest:pinTy l=true:=by
   cases b with
   | own t=>exact h
   | ptr t mu =>
    cases mu with
    | true=>exact h
    | false=>simp only [pinTy,Bool.and_eq_true]at h;exact h.2
   | _=>simp only [pinTy,Bool.and_eq_true]at h;exact h.2
  rcases List.mem_cons.1 he with rfl | he
  ·rcases key with h | h | h
   ·exact .inl h
   ·exact .inr h
   ·simp only at hp;rw [h]at hp;cases hp
  ·exact pinTy_run rest e he hp

theorem empty_rel(hs:a.tmps.size=X.C.ntmps)(hd:a.defers = [])(hfr:∀b,b<X.w0.heap.size→b ∉ X.O→w.heap[b]? = X.w0.heap[b]?)(hle:WLe X.w0 w) :
  Rel { X with pins := [] } St.empty (fun _ => .none) a w where
 tm i:=RAV_top
 sz:=hs
 df:=hd
 bl id:=rfl
 lt id h:=by cases h
 nd id h:=by cases h
 sep i j _ h:=by cases h
 fr:=hfr
 le:=hle
 mu id h:=by cases h
 pb j q h:=by simp [St.empty,Blk.par]at h
 pv j q h:=by simp [St.empty,Blk.par]at h
 pn q h:=by simp at h
 po id h:=by cases h

theorem mkK_run{R:Type}{F:Fn R}{l:List PE}{x:PTe l}{K:St→Option A}{z:A}{π:Nat→Home}{U O:List Nat}(hF:F.C=X.C)(hP:PatOk X l x a w π U O)(h:mkK F l x K=some z) :
  ∃σ ι,Rel X σ ι a w∧K σ=some z:=by
 unfold mkK at h
 rw [Pg.runK_eq,hF]at h
 cases hr:(mkPat X.C l x (.ret ())).run St.empty with
 | none=>rw [hr]at h;cases h
 | some q =>
  rw [hr]at h
  simp only [Option.bind_some]at h
  have hR0:=empty_rel (X:=X) hP.sz hP.df hP.fr hP.le
  have hB:Bld { X with pins := [] } St.empty (fun _ => .none) a w U (O ++ []):=⟨hR0,⟨(fun id hl=>nomatch hl),by simpa using hP.ltO,by simpa using hP.mu,by simpa using hP.nd⟩,(fun i hi=>nomatch hi)⟩
  obtain⟨σ1,ι1,hB1,hL1,hp1,h2⟩:=mkPat_run (X:={ X with pins := [] }) hB (by simpa using hP.ap) hP.ltU hP.pat (fun b hb=>hb) hr
  simp only [Pg.run,Option.some.injEq]at h2
  have hR:=hB1.rel
  refine⟨σ1,ι1,⟨hR.tm,hR.sz,hR.df,hR.bl,hR.lt,hR.nd,hR.sep,hR.fr,hR.le,hR.mu,hR.pb,hR.pv,?_,hR.po⟩,?_⟩
  ·intro q hq
   obtain⟨e,he,hpin,hid⟩:=hP.pk q hq
   obtain⟨h3,h4⟩:=hP.pn q hq
   have hty:=pinTy_run hP.pt e he hpin
   have:=hp1 e he hpin hty (by rw [hid,h3];exact h4)
   rw [hid,h3]at this
   exact⟨this,h4⟩
  ·rw [←h2]at h;exact h

def Ex.to:Ex→Exit
 | .normal => .normal
 | .exit i => .exit i
 | .ret => .ret

abbrev EvT(R:Type):Type 1:=(A:Type)→St→Nat→(R→Option A)→(Ex→St→Nat→Option A)→Option A

def Snd{R:Type}(X:Ctx)(Pr:R→Act→World→Prop)(c:Code)(f:EvT R):Prop :=
 ∀ ⦃A:Type⦄ ⦃σ:St⦄ ⦃nx:Nat⦄ ⦃Kr:R→Option A⦄ ⦃K:Ex→St→Nat→Option A⦄ ⦃z:A⦄ ⦃Q:Exit→Act→World→Prop⦄ ⦃ι:Nat→Home⦄ ⦃a:Act⦄ ⦃w:World⦄,Rel X σ ι a w→f A σ nx Kr K=some z →
  (∀r a w,Pr r a w→Kr r=some z→Q .ret a w)→(∀e σ' nx' ι' a' w',Rel X σ' ι' a' w'→K e σ' nx'=some z→Q e.to a' w')→c.wp X.C.P Q a w

structure FnOk{R:Type}(X:Ctx)(F:Fn R)(Pr:R→Act→World→Prop):Prop where
 C:F.C=X.C
 cfg:CfgOk X.C
 pins:F.pins=X.pins.map (·.1)
 fin:∀ {σ ι a w A} {K:R→Option A} {z:A},Rel X σ ι a w→(F.fin.runK σ fun r _=>K r)=some z→∃r,Pr r a w∧K r=some z
 mix:X.C.P.follows .mixedOrders=true

variable {R : Type} {F : Fn R} {Pr : R → Act → World → Prop}

theorem loopN_snd{c:Code}{f:EvT R}(hf:Snd X Pr c f)(n:Nat):Snd X Pr (.loop c) fun A s nx Kr K=>loopN (fun s nx K=>f A s nx Kr K) n s nx K:=by
 intro A σ nx Kr K z Q ι a w hR h hKr hK
 apply wp_loop_rounds n
 induction n generalizing σ nx ι a w with
 | zero=>cases h
 | succ n ih =>
  rw [rounds_succ]
  simp only [loopN]at h
  refine hf hR h (fun r a w hr he=>hKr r a w hr he) (fun e σ' nx' ι' a' w' hR' he => ?_)
  cases e with
  | normal=>exact ih hR' he
  | exit i=>exact hK _ _ _ _ _ _ hR' he
  | ret=>exact hK _ _ _ _ _ _ hR' he

theorem cutW_snd(hF:FnOk X F Pr){c:Code}{p:Nat}{f:EvT R}(hf:Snd X Pr c f):Snd X Pr c (cutW F p f):=by
 intro A σ nx Kr K z Q ι a w hR h hKr hK
 unfold cutW at h
 split at h
 ·rename_i pout nx' han
  obtain⟨o,ho,h⟩:=Option.bind_eq_some_iff.1 h
  ·refine hf hR ho (fun r a w hr he => ?_) (fun e σ' nx1 ι' a' w' hR' he => ?_)
   ·cases he
    exact hKr r a w hr h
   ·cases e with
    | normal =>
     simp only at he
     obtain⟨y,π,U,O,hP,he⟩:=rdK_run hR' hF.pins he
     cases he
     simp only at h
     obtain⟨σ2,ι2,hR2,h⟩:=mkK_run hF.C hP h
     exact hK _ _ _ _ _ _ hR2 h
    | exit i=>cases he
    | ret=>cases he
 ·exact hf hR h hKr hK

def LoopOk(F:Fn R)(c:Code)(p:Nat):Prop :=
 ∀pin pout ex nx L,(F.an p=some (.loop pin pout ex nx L)∨F.an p=some (.peel pin pout ex nx L))→∃(Lf:Nat→PTe pin→Option (R ⊕ PTe pout)) (k:Nat),L=Lf k∧(∀x,Lf 0 x=none)∧∀n x,roundOf F c p pin pout ex nx (Lf n) x=Lf (n+1) x

def AnnOk(F:Fn R):Code→Nat→Prop
 | .seq a b,p=>AnnOk F a (2*p)∧AnnOk F b (2*p+1)
 | .cond _ x y,p=>AnnOk F x (2*p)∧AnnOk F y (2*p+1)
 | .block _ c,p=>AnnOk F c (2*p)
 | .loop c,p=>LoopOk F c p∧AnnOk F c (2*p)
 | _,_=>True

theorem loop_snd(hF:FnOk X F Pr){c:Code}{p:Nat}(hf:Snd X Pr c fun A s nx Kr K=>ev F c A (2*p) s nx Kr K){pin pout ex nx'}{Lf:Nat→PTe pin→Option (R ⊕ PTe pout)}{k:Nat}(h0:∀x,Lf 0 x=none)
  (hs:∀n x,roundOf F c p pin pout ex nx' (Lf n) x=Lf (n+1) x) {z:A} {Kr:R→Option A} {K:Ex→St→Nat→Option A} {Q:Exit→Act→World→Prop} (hR:Rel X σ ι a w)
  (h:(rdK F pin σ fun x=>(Lf k x).bind fun o=>match o with
   | .inl r=>Kr r
   | .inr y=>mkK F pout y fun s=>K (.exit ex) s nx')=some z)
  (hKr:∀r a w,Pr r a w→Kr r=some z→Q .ret a w) (hK:∀e σ' nx' ι' a' w',Rel X σ' ι' a' w'→K e σ' nx'=some z→Q e.to a' w'):Code.rounds X.C.P c Q k a w:=by
 obtain⟨x,π,U,O,hP,h⟩:=rdK_run hR hF.pins h
 cases ho:Lf k x with
 | none=>rw [ho]at h;cases h
 | some o =>
  rw [ho]at h
  simp only [Option.bind_some]at h
  have key:∀n x a w π U O,PatOk X pin x a w π U O→Lf n x=some o→Code.rounds X.C.P c Q n a w:=by
   intro n
   induction n with
   | zero=>intro x a w π U O _ he;rw [h0]at he;cases he
   | succ n ih =>
    intro x a w π U O hP he
    rw [rounds_succ]
    rw [←hs]at he
    unfold roundOf at he
    obtain⟨σ1,ι1,hR1,he⟩:=mkK_run hF.C hP he
    refine hf hR1 he (fun r a w hr he2 => ?_) (fun e σ' nx1 ι' a' w' hR' he2 => ?_)
    ·cases he2
     exact hKr r a w hr h
    ·cases e with
     | normal =>
      obtain⟨x',π',U',O',hP',he3⟩:=rdK_run hR' hF.pins he2
      exact ih x' a' w' π' U' O' hP' he3
     | exit j =>
      simp only at he2
      cases hj:Nat.beq j ex with
      | false=>rw [hj]at he2;cases he2
      | true =>
       rw [hj]at he2
       simp only [cond_true]at he2
       have hj:=Nat.eq_of_beq_eq_true hj
       subst hj
       obtain⟨y,π',U',O',hP',he3⟩:=rdK_run hR' hF.pins he2
       cases he3
       simp only at h
       obtain⟨σ2,ι2,hR2,h⟩:=mkK_run hF.C hP' h
       exact hK (.exit j) _ _ _ _ _ hR2 h
     | ret=>cases he2
  exact key k x a w π U O hP ho

theorem ev_sound(hF:FnOk X F Pr):∀(c:Code) (p:Nat),AnnOk F c p→Snd X Pr c fun A s nx Kr K=>ev F c A p s nx Kr K
 | .skip,p,_=>by intro A σ nx Kr K z Q ι a w hR h hKr hK;exact wp_skip (hK .normal _ _ _ _ _ hR h)
 | .exit id,p,_=>by intro A σ nx Kr K z Q ι a w hR h hKr hK;exact wp_exit (hK (.exit id) _ _ _ _ _ hR h)
 | .ret,p,_=>by
  intro A σ nx Kr K z Q ι a w hR h hKr hK
  simp only [ev]at h
  obtain⟨r,hr,h⟩:=hF.fin hR h
  exact wp_ret (hKr r a w hr h)
 | .seq x y,p,ho=>by
  intro A σ nx Kr K z Q ι a w hR h hKr hK
  simp only [ev]at h
  apply wp_seq
  refine cutW_snd hF (ev_sound hF x (2*p) ho.1) hR h (fun r a w hr he=>hKr r a w hr he) (fun e σ' nx' ι' a' w' hR' he => ?_)
  cases e with
  | normal=>exact ev_sound hF y (2*p+1) ho.2 hR' he hKr hK
  | exit i=>exact hK (.exit i) _ _ _ _ _ hR' he
  | ret=>exact hK .ret _ _ _ _ _ hR' he
 | .cond o x y,p,ho=>by
  intro A σ nx Kr K z Q ι a w hR h hKr hK
  cases o with
  | tmp t =>
   simp only [ev]at h
   split at h
   ·rename_i b hb
    have ht:=tmp_bool hR hb
    have hR':∀b',b'=b→Rel X (σ.setT t (.sc (.v (.bool b')))) ι a w:=by
     rintro b' rfl
     exact hR.tmp (by rw [ht];exact RAV_v.2 ⟨rfl,rfl⟩)
    refine wp_cond (t:=b) ht ?_
    cases b with
    | true=>exact ev_sound hF x (2*p) ho.1 (hR' _ rfl) h hKr hK
    | false=>exact ev_sound hF y (2*p+1) ho.2 (hR' _ rfl) h hKr hK
   ·cases h
  | _=>simp only [ev]at h;cases h
 | .block id c,p,ho=>by
  intro A σ nx Kr K z Q ι a w hR h hKr hK
  simp only [ev]at h
  apply wp_block
  refine ev_sound hF c (2*p) ho hR h (fun r a w hr he=>hKr r a w hr he) (fun e σ' nx' ι' a' w' hR' he => ?_)
  cases e with
  | normal=>exact hK .normal _ _ _ _ _ hR' he
  | exit j =>
   simp only at he
   simp only [Ex.to,Exit.inBlock]
   cases hj:Nat.beq j id with
   | true =>
    rw [hj]at he
    rw [if_pos (Nat.eq_of_beq_eq_true hj)]
    exact hK .normal _ _ _ _ _ hR' he
   | false =>
    rw [hj]at he
    rw [if_neg (by intro e;rw [e,Nat.beq_refl]at hj;cases hj)]
    exact hK (.exit j) _ _ _ _ _ hR' he
  | ret=>exact hK .ret _ _ _ _ _ hR' he
 | .loop c,p,ho=>by
  intro A σ nx Kr K z Q ι a w hR h hKr hK
  simp only [ev]at h
  split at h
  ·rename_i pin pout ex nx' L han
   obtain⟨Lf,k,rfl,h0,hs⟩:=ho.1 _ _ _ _ _ (.inl han)
   exact wp_loop_rounds k (loop_snd hF (ev_sound hF c (2*p) ho.2) h0 hs hR h hKr hK)
  ·rename_i pin pout ex nx' L han
   obtain⟨Lf,k,rfl,h0,hs⟩:=ho.1 _ _ _ _ _ (.inr han)
   apply wp_loop_rounds (k+1)
   rw [rounds_succ]
   refine ev_sound hF c (2*p) ho.2 hR h (fun r a w _ he=>by cases he) (fun e σ1 nx1 ι1 a1 w1 hR1 he => ?_)
   cases e with
   | normal=>exact loop_snd hF (ev_sound hF c (2*p) ho.2) h0 hs hR1 he hKr hK
   | exit j=>cases he
   | ret=>cases he
  ·exact loopN_snd (ev_sound hF c (2*p) ho.2) F.k hR h hKr hK
 | .region id ops draw,p,_=>by
  intro A σ nx Kr K z Q ι a w hR h hKr hK
  simp only [ev]at h
  cases draw with
  | false =>
   simp only [cond_false,hF.C]at h
   apply wp_region
   have:=evOps_sound (Q:=Q) hF.cfg (fun σ' ι' a' w' hR' he=>hK .normal _ _ _ _ _ hR' he) (k:=0) (l:=ops.toList) (ops:=ops) rfl hR h
   simpa [List.range_eq_range'] using this
  | true =>
   simp only [cond_true,hF.C]at h
   apply wp_region_any hF.mix
   obtain⟨σs,gs,h1,h2,h3,h4⟩:=evOpsF_trace h
   simp only [List.nil_append]at h4
   cases hi:indep ops gs with
   | false=>rw [hi]at h4;cases h4
   | true =>
    rw [hi]at h4
    simp only [cond_true]at h4
    have hfalse:∀j,(Array.replicate ops.size false).getD j false=false:=by
     intro j
     rw [Array.getD_eq_getD_getElem?]
     by_cases hj:j<ops.size
     ·simp [hj]
     ·simp [hj]
    refine draw_sound hF.cfg (σs:=σs) (fs:=gs) (nid:=nx) (by simpa using h1) (fun i o f ho hf=>h3 i o f (by simpa using ho) hf) hi (fun ι' a' w' hR'=>hK .normal _ _ _ _ _ hR' h4) ops.size _ σ ι a _ (hR.heap rfl rfl rfl rfl) (by simp) ?_ ?_ ?_
    ·simp only [left]
     exact Nat.le_trans (List.length_filter_le _ _) (by simp)
    ·intro j o _ hj
     rw [hfalse]at hj;cases hj
    ·intro l
     right
     refine⟨fun m f hm => ?_,?_⟩
     ·rw [hfalse]at hm;cases hm
     ·rw [h2];exact agree_refl _ _
 | .label l,p,_=>by intro A σ nx Kr K z Q ι a w hR h hKr hK;simp only [ev]at h;cases h
 | .rangeFunc f ps x y,p,_=>by intro A σ nx Kr K z Q ι a w hR h hKr hK;simp only [ev]at h;cases h
 | .scope c,p,_=>by intro A σ nx Kr K z Q ι a w hR h hKr hK;simp only [ev]at h;cases h
 | .goto l,p,_=>by intro A σ nx Kr K z Q ι a w hR h hKr hK;simp only [ev]at h;cases h
 | .refuse y,p,_=>by intro A σ nx Kr K z Q ι a w hR h hKr hK;simp only [ev]at h;cases h
end
end Go.Ev
namespace Go.Ev
open Go
variable [KSl]

section
variable {X : Ctx} {σ σ' : St} {ι : Nat → Home} {a : Act} {w : World} {α A : Type} {nid : Nat}

def rvSem(tmps:Array Value):ResultVar→Sem Value
 | .tmp t=>pure (tmps.getD t undef)
 | .cell a t=>do loadVar t (←asAddr (tmps.getD a undef))

theorem mapM_run{β γ:Type}{f:β→Sem γ}{P:Program}:∀ {l:List β} {us:List γ},F2 (fun x u=>(f x).run P w = .ok u w) l us→(l.mapM f).run P w = .ok us w
 | [],[],_=>by simp
 | x::l,u::us,h=>by
  rw [List.mapM_cons]
  simp [h.1,mapM_run h.2]

theorem results_run{fn:Func}{tmps:Array Value}{P:Program}{us:List Value}(h:F2 (fun rv u=>(rvSem tmps rv).run P w = .ok u w) fn.results.toList us) :
  (results fn tmps).run P w = .ok (retV us) w:=by
 have e:results fn tmps=(do
  let vs ←fn.results.mapM (rvSem tmps)
  pure (if h:vs.size=1 then vs[0]else .tuple vs)):=by
  unfold results
  congr 2
 rw [e,Array.mapM_eq_mapM_toList]
 have:=mapM_run (f:=rvSem tmps) h
 simp [this]
 cases us with
 | nil=>rfl
 | cons u us =>
  cases us with
  | nil=>rfl
  | cons v us=>simp [retV]

def PinAt(ι:Nat→Home):List PE→List Value→List (List Nat)→Prop
 | [],_,O=>O = []
 | ⟨_,id,.ptr _ true,_⟩::l,vs,O=>∃v us b O2,vs=v::us∧O = [b]::O2∧v = .pointer (some ⟨b,0,none⟩)∧ι id = .blk b 0∧PinAt ι l us O2
 | ⟨_,id,.own _,_⟩::l,vs,O=>∃v us A n c F O2,vs=v::us∧O=F::O2∧v = .slice A n c∧ι id = .row A n c F∧PinAt ι l us O2
 | ⟨_,_,.ptr _ false,_⟩::l,vs,O=>∃v us,vs=v::us∧PinAt ι l us O
 | ⟨_,_,.val _ _,_⟩::l,vs,O=>∃v us,vs=v::us∧PinAt ι l us O
 | ⟨_,_,.eat _,_⟩::l,vs,O=>∃v us,vs=v::us∧PinAt ι l us O
 | ⟨_,_,.fn _ _,_⟩::l,vs,O=>∃v us,vs=v::us∧PinAt ι l us O
 | ⟨_,_,.lit _,_⟩::l,vs,O=>∃v us,vs=v::us∧PinAt ι l us O
 | ⟨_,_,.box _ _,_⟩::l,vs,O=>False
 | ⟨_,_,.gob _ _,_⟩::l,vs,O=>∃v us,vs=v::us∧PinAt ι l us O
 | ⟨_,_,.pp _,_⟩::l,vs,O=>∃v us,vs=v::us∧PinAt ι l us O
 | ⟨_,_,.same _,_⟩::l,vs,O=>∃v us,vs=v::us∧PinAt ι l us O
 | ⟨_,_,.vw _,_⟩::l,vs,O=>∃v us,vs=v::us∧PinAt ι l us O
 | ⟨_,_,.hof _,_⟩::l,vs,O=>∃v us,vs=v::us∧PinAt ι l us O
 | ⟨_,_,.al _ _,_⟩::l,vs,O=>∃v us,vs=v::us∧PinAt ι l us O
 | ⟨_,_,.fsel _ _,_⟩::l,vs,O=>∃v us,vs=v::us∧PinAt ι l us O

theorem chead_ccons{t:Ty}{l:List Ty}{x:t.T}{y:CT l}:chead t l (ccons t l x y)=(x,y):=by
 cases l with
 | nil=>rfl
 | cons _ _=>rfl

theorem rdOuts_run(hR:Rel X σ ι a w){F:List Nat}(hF:Free X σ ι w F):∀ {l:List PE} {vs:List Value} {O:List (List Nat)} {k:CT (outs (l.map (·.b)))→Pg α} {r:α×St},PinAt ι l vs O→(rdOuts l k).run σ=some r →
  ∃y,OutsR w (l.map (·.b)) y vs O∧(∀b∈F,b ∉ O.flatten)∧(k y).run σ=some r
 | [],vs,O,k,r,hp,h=>by
  simp only [PinAt]at hp
  subst hp
  exact⟨(),rfl,by simp,h⟩
 | ⟨i,id,.ptr t true,p⟩::l,vs,O,k,r,hp,h=>by
  obtain⟨v,us,b,O2,rfl,rfl,rfl,hι,hp⟩:=hp
  simp only [rdOuts]at h
  replace h:=getB_run h
  split at h
  ·rename_i cs hb
   cases hfl:t.flat with
   | false=>rw [hfl]at h;cases h
   | true =>
    rw [hfl]at h
    simp only [cond_true]at h
    have hbl:=hR.bl id
    rw [hb,hι]at hbl
    obtain⟨b',o',arr,el,fr,h1,h2,h3,_,h4⟩:=hbl
    cases h1
    obtain⟨h3,_,h31⟩:=h3 rfl
    subst h3
    rw [List.drop_zero,h31,List.take_of_length_le (by simp)]at h4
    obtain⟨x,rest,u,vs1,vs2,G,hvs,hrest,hre,hu,h⟩:=rdT_run hR h h4
    split at h
    ·cases vs2 with
     | cons _ _=>exact hrest.elim
     | nil =>
      rw [List.append_nil]at hvs
      obtain⟨y,h5,h6,h⟩:=rdOuts_run hR hF hp h
      refine⟨ccons t _ x y,⟨_,us,b,O2,arr,el,rfl,rfl,rfl,h2,?_,?_⟩,?_,h⟩
      ·rw [chead_ccons,hvs]
       have:=RE_flat hfl hre
       subst this
       exact RE_flat_own hfl hre
      ·rw [chead_ccons];exact h5
      ·intro k hk hm
       simp only [List.flatten_cons,List.mem_append,List.mem_singleton]at hm
       rcases hm with rfl | hm
       ·exact hF.away id (by rw [hb];rfl) (by rw [hb];intro q hq;simp [Blk.par]at hq) k hk (by rw [hι];simp [Home.foot])
       ·exact h6 k hk hm
    ·cases h
  ·cases h
 | ⟨i,id,.own t,p⟩::l,vs,O,k,r,hp,h=>by
  obtain⟨v,us,A,n,c,G,O2,rfl,rfl,rfl,hι,hp⟩:=hp
  simp only [rdOuts]at h
  replace h:=getB_run h
  split at h
  ·rename_i t' x ver hb
   split at h
   ·rename_i y' hy
    obtain⟨rfl,rfl⟩:=castRow_some hy
    have hrow:=row_of hR hb (chk_none rfl) hι
    obtain⟨y,h5,h6,h⟩:=rdOuts_run hR hF hp h
    refine⟨ccons (.sl t') _ _ y,⟨_,us,G,O2,A,n,c,rfl,rfl,rfl,?_,?_⟩,?_,h⟩
    ·rw [chead_ccons];exact hrow
    ·rw [chead_ccons];exact h5
    ·intro k hk hm
     simp only [List.flatten_cons,List.mem_append]at hm
     rcases hm with hm | hm
     ·exact hF.away id (by rw [hb];rfl) (by rw [hb];intro q hq;simp [Blk.par]at hq) k hk (by rw [hι];exact hm)
     ·exact h6 k hk hm
   ·cases h
  ·cases h
 | ⟨i,id,.ptr t false,p⟩::l,vs,O,k,r,hp,h=>by
  obtain⟨v,us,rfl,hp⟩:=hp
  obtain⟨y,h5,h6,h⟩:=rdOuts_run hR hF hp h
  exact⟨y,⟨v,us,rfl,h5⟩,h6,h⟩
 | ⟨i,id,.val t g,p⟩::l,vs,O,k,r,hp,h=>by
  obtain⟨v,us,rfl,hp⟩:=hp
  obtain⟨y,h5,h6,h⟩:=rdOuts_run hR hF hp h
  exact⟨y,⟨v,us,rfl,h5⟩,h6,h⟩
 | ⟨i,id,.eat t,p⟩::l,vs,O,k,r,hp,h=>by
  obtain⟨v,us,rfl,hp⟩:=hp
  obtain⟨y,h5,h6,h⟩:=rdOuts_run hR hF hp h
  exact⟨y,⟨v,us,rfl,h5⟩,h6,h⟩
 | ⟨i,id,.fn f c,p⟩::l,vs,O,k,r,hp,h=>by
  obtain⟨v,us,rfl,hp⟩:=hp
  obtain⟨y,h5,h6,h⟩:=rdOuts_run hR hF hp h
  exact⟨y,⟨v,us,rfl,h5⟩,h6,h⟩
 | ⟨i,id,.lit c,p⟩::l,vs,O,k,r,hp,h=>by
  obtain⟨v,us,rfl,hp⟩:=hp
  obtain⟨y,h5,h6,h⟩:=rdOuts_run hR hF hp h
  exact⟨y,⟨v,us,rfl,h5⟩,h6,h⟩
 | ⟨i,id,.box c o,p⟩::l,vs,O,k,r,hp,h=>hp.elim
 | ⟨i,id,.pp c,p⟩::l,vs,O,k,r,hp,h=>by
  obtain⟨v,us,rfl,hp⟩:=hp
  obtain⟨y,h5,h6,h⟩:=rdOuts_run hR hF hp h
  exact⟨y,⟨v,us,rfl,h5⟩,h6,h⟩
 | ⟨i,id,.same c,p⟩::l,vs,O,k,r,hp,h=>by
  obtain⟨v,us,rfl,hp⟩:=hp
  obtain⟨y,h5,h6,h⟩:=rdOuts_run hR hF hp h
  exact⟨y,⟨v,us,rfl,h5⟩,h6,h⟩
 | ⟨i,id,.vw c,p⟩::l,vs,O,k,r,hp,h=>by
  obtain⟨v,us,rfl,hp⟩:=hp
  obtain⟨y,h5,h6,h⟩:=rdOuts_run hR hF hp h
  exact⟨y,⟨v,us,rfl,h5⟩,h6,h⟩
 | ⟨i,id,.hof c,p⟩::l,vs,O,k,r,hp,h=>by
  obtain⟨v,us,rfl,hp⟩:=hp
  obtain⟨y,h5,h6,h⟩:=rdOuts_run hR hF hp h
  exact⟨y,⟨v,us,rfl,h5⟩,h6,h⟩
 | ⟨i,id,.al c o,p⟩::l,vs,O,k,r,hp,h=>by
  obtain⟨v,us,rfl,hp⟩:=hp
  obtain⟨y,h5,h6,h⟩:=rdOuts_run hR hF hp h
  exact⟨y,⟨v,us,rfl,h5⟩,h6,h⟩
 | ⟨i,id,.fsel c o,p⟩::l,vs,O,k,r,hp,h=>by
  obtain⟨v,us,rfl,hp⟩:=hp
  obtain⟨y,h5,h6,h⟩:=rdOuts_run hR hF hp h
  exact⟨y,⟨v,us,rfl,h5⟩,h6,h⟩
 | ⟨i,id,.gob t g,p⟩::l,vs,O,k,r,hp,h=>by
  obtain⟨v,us,rfl,hp⟩:=hp
  obtain⟨y,h5,h6,h⟩:=rdOuts_run hR hF hp h
  exact⟨y,⟨v,us,rfl,h5⟩,h6,h⟩

theorem csplit_ccons{t:Ty}:∀ {l1 l2:List Ty} {x:t.T} {y:CT (l1++l2)},(chead t l1 (csplit (t::l1) l2 (ccons t (l1++l2) x y)).1)=(x,(csplit l1 l2 y).1)∧(csplit (t::l1) l2 (ccons t (l1++l2) x y)).2=(csplit l1 l2 y).2
 | [],[],x,y=>⟨rfl,rfl⟩
 | [],_::_,x,y=>⟨rfl,rfl⟩
 | _::_,l2,x,y=>⟨rfl,rfl⟩

theorem rdRes_run{ps:List PE}{vs:List Value}{O:List (List Nat)}(hp:PinAt ι ps vs O):∀ {rs:List (Ty×Bool)} {rvs:List ResultVar} {σ:St} {F:List Nat} {k:CT (rs.map (·.1)++outs (ps.map (·.b)))→Pg α} {r:α×St},Rel X σ ι a w→Free X σ ι w F→(rdRes X.C.P ps rs rvs k).run σ=some r →
  ∃y us G σ1,F2 (fun rv u=>(rvSem a.tmps rv).run X.C.P w = .ok u w) rvs us∧CompsR w rs (csplit _ _ y).1 us G∧OutsR w (ps.map (·.b)) (csplit _ _ y).2 vs O∧Free X σ1 ι w (F++G)∧(∀b∈F++G,b ∉ O.flatten)∧(k y).run σ1=some r
 | [],[],σ,F,k,r,hR,hF,h=>by
  simp only [rdRes]at h
  obtain⟨y,h5,h6,h⟩:=rdOuts_run hR hF hp h
  exact⟨y,[],[],σ,trivial,⟨rfl,rfl⟩,h5,by simpa using hF,by simpa using h6,h⟩
 | (t,g)::rs,.tmp i::rvs,σ,F,k,r,hR,hF,h=>by
  simp only [rdRes,Pg.run]at h
  split at h
  ·rename_i l g' hT
   cases hg:(g==g')with
   | false=>rw [hg]at h;cases h
   | true =>
    rw [hg]at h
    simp only [cond_true]at h
    have hg:g=g':=by simpa using hg
    subst hg
    have htm:=hR.tm i
    rw [hT]at htm
    obtain⟨x,rest,σ1,vs1,vs2,G,hvs,hrest,hre,hR1,hF1,h⟩:=rdO_run hR hF h (RVs_list htm)
    split at h
    ·cases vs2 with
     | cons _ _=>exact hrest.elim
     | nil =>
      rw [List.append_nil]at hvs
      obtain⟨y,us,G',σ2,h1,h2,h3,h4,h5,h⟩:=rdRes_run hp hR1 hF1 h
      have hc:=csplit_ccons (t:=t) (l1:=rs.map (·.1)) (l2:=outs (ps.map (·.b))) (x:=x) (y:=y)
      refine⟨ccons t _ x y,a.tmps.getD i undef::us,G++G',σ2,⟨by simp [rvSem],h1⟩,⟨_,us,G,G',rfl,rfl,⟨?_,fun hg => ?_⟩,?_⟩,?_,by simpa using h4,by simpa using h5,h⟩
      ·exact(congrArg (fun z=>RE true w t z (cellsOf g (a.tmps.getD i undef)) G) (congrArg Prod.fst hc.1)).mpr (by rw [hvs];exact hre)
      ·subst hg
       obtain⟨ws,hws,_⟩:=htm
       exact⟨ws,hws⟩
      ·exact(congrArg (fun z=>CompsR w rs z us G') (congrArg Prod.snd hc.1)).mpr h2
      ·exact(congrArg (fun z=>OutsR w (ps.map (·.b)) z vs O) hc.2).mpr h3
    ·cases h
  ·cases h
 | (t,g)::rs,.cell i ty::rvs,σ,F,k,r,hR,hF,h=>by
  simp only [rdRes,Pg.run]at h
  split at h
  ·rename_i id hT
   replace h:=getB_run h
   split at h
   ·rename_i cs ro hb
    split at h
    ·rename_i l g' hpt
     cases hg:(g==g')with
     | false=>rw [hg]at h;cases h
     | true =>
      rw [hg]at h
      simp only [cond_true]at h
      have hg:g=g':=by simpa using hg
      subst hg
      have htm:=hR.tm i
      rw [hT]at htm
      obtain⟨b,o0,hι,hv⟩:=RAV_sc.1 htm
      have hbl:=hR.bl id
      rw [hb,hι]at hbl
      obtain⟨b',o',arr,el,fr,h1,h2,h3,_,h4⟩:=hbl
      cases h1
      obtain⟨u,hu,hvu⟩:=loadVar_part (w:=w) hpt (b:=b) (base:=o0) (fun k u hk=>by
       have:=take_drop_get hk
       rw [cell_at h2];simpa using this) h4
      obtain⟨x,rest,σ1,vs1,vs2,G,hvs,hrest,hre,hR1,hF1,h⟩:=rdO_run hR hF h (RVs_list hvu)
      split at h
      ·cases vs2 with
       | cons _ _=>exact hrest.elim
       | nil =>
        rw [List.append_nil]at hvs
        obtain⟨y,us,G',σ2,h1,h2,h3,h4,h5,h⟩:=rdRes_run hp hR1 hF1 h
        have hc:=csplit_ccons (t:=t) (l1:=rs.map (·.1)) (l2:=outs (ps.map (·.b))) (x:=x) (y:=y)
        refine⟨ccons t _ x y,u::us,G++G',σ2,⟨by simp [rvSem,hv,asAddr];exact hu,h1⟩,⟨_,us,G,G',rfl,rfl,⟨?_,fun hg => ?_⟩,?_⟩,?_,by simpa using h4,by simpa using h5,h⟩
        ·exact(congrArg (fun z=>RE true w t z (cellsOf g u) G) (congrArg Prod.fst hc.1)).mpr (by rw [hvs];exact hre)
        ·subst hg
         obtain⟨ws,hws,_⟩:=hvu
         exact⟨ws,hws⟩
        ·exact(congrArg (fun z=>CompsR w rs z us G') (congrArg Prod.snd hc.1)).mpr h2
        ·exact(congrArg (fun z=>OutsR w (ps.map (·.b)) z vs O) hc.2).mpr h3
      ·cases h
    ·cases h
   ·cases h
  ·cases h
 | [],_::_,σ,F,k,r,hR,hF,h=>by simp only [rdRes]at h;cases h
 | (t,g)::rs,[],σ,F,k,r,hR,hF,h=>by simp only [rdRes]at h;cases h
end
end Go.Ev
namespace Go.Ev
open Go
variable [KSl]

def parOk:Nat→List PE→Bool
 | _,[]=>true
 | n,⟨t,_,.own _,p⟩::l=>Nat.beq t n&&p&&parOk (n+1) l
 | n,⟨t,_,.ptr _ true,p⟩::l=>Nat.beq t n&&p&&parOk (n+1) l
 | _,⟨_,_,.box _ _,_⟩::_=>false
 | n,⟨t,_,.lit v,p⟩::l=>Nat.beq t n && !p&&v.oneCell'&&parOk (n+1) l
 | n,e::l=>Nat.beq e.tmp n && !e.pin&&parOk (n+1) l

def pinIds:List PE→List Nat
 | [] => []
 | ⟨_,id,.own _,_⟩::l=>id::pinIds l
 | ⟨_,id,.ptr _ true,_⟩::l=>id::pinIds l
 | _::l=>pinIds l

def pinF:List (Nat×Home)→Nat→Home
 | [],_ => .none
 | q::l,i=>if i=q.1 then q.2 else pinF l i

theorem pinF_mem:∀ {l:List (Nat×Home)},(l.map (·.1)).Nodup→∀q∈l,pinF l q.1=q.2
 | [],_,q,hq=>by simp at hq
 | x::l,hn,q,hq=>by
  simp only [List.map_cons,List.nodup_cons]at hn
  simp only [pinF]
  rcases List.mem_cons.1 hq with rfl | hq
  ·rw [if_pos rfl]
  ·rw [if_neg (by intro e;exact hn.1 (e ▸ List.mem_map.2 ⟨q,hq,rfl⟩))]
   exact pinF_mem hn.2 q hq

theorem perm4{β:Type}(a b c d:List β):((a++b)++(c++d)).Perm ((a++c)++(b++d)):=by
 simp only [List.append_assoc]
 exact List.Perm.append_left a (by
  rw [←List.append_assoc,←List.append_assoc]
  exact List.Perm.append_right d List.perm_append_comm)

structure ArgsOk(w:World)(ps:List PE)(x:PTe ps)(vs:List Value)(U E:List Nat)(O:List (List Nat))(n:Nat)(pins:List (Nat×Home))(O':List Nat):Prop where
 pat:∀(π:Nat→Home),(∀q∈pins,π q.1=q.2)→∀tm:Nat→Value,(∀i v,vs[i]? = some v→tm (n+i)=v)→PatR w π tm ps x U O'
 perm:O'.Perm (O.flatten++E)
 ids:pins.map (·.1)=pinIds ps
 nn:∀q∈pins,q.2 ≠ .none
 at':∀(ι:Nat→Home),(∀q∈pins,ι q.1=q.2)→PinAt ι ps vs O
 len:vs.length=ps.length
 pk:∀q∈pins,∃e∈ps,e.pin=true∧e.id=q.1
 pt:pinTy ps=true

theorem args_ok{w:World}:∀ {ps:List PE} {x:PTe ps} {vs:List Value} {U E:List Nat} {O:List (List Nat)} {n:Nat},ArgsR w (ps.map (·.b)) x vs U E O→parOk n ps=true→∃pins O',ArgsOk w ps x vs U E O n pins O'
 | [],x,vs,U,E,O,n,h,hp=>by
  obtain⟨rfl,rfl,rfl,rfl⟩:=h
  exact⟨[],[],⟨fun π _ tm _=>⟨rfl,rfl⟩,.refl _,rfl,by simp,fun ι _=>rfl,rfl,by simp,rfl⟩⟩
 | ⟨t,id,b,p⟩::ps,x,vs,U,E,O,n,h,hp=>by
  obtain⟨v,us,U1,U2,E1,E2,O1,O2,rfl,rfl,rfl,rfl,ha,h⟩:=h
  have hshift:∀tm:Nat→Value,(∀i v',(v::us)[i]? = some v'→tm (n+i)=v')→∀i v',us[i]? = some v'→tm (n+1+i)=v':=by
   intro tm h i v' hi
   have:=h (i+1) v' (by simpa using hi)
   rwa [show n+1+i=n+(i+1)by omega]
    -- an entry that pins nothing
  have key:∀(o:List Nat),(parOk (n+1) ps=true)→t=n→p=false∨((∃t,b = .own t)∨∃t,b = .ptr t true)→(∀t,b ≠ .own t)→(∀t,b ≠ .ptr t true)→(∀t o,b ≠ .box t o)→O1 = []→o.Perm E1 →
    (∀π tm,EntR w π tm ⟨t,id,b,p⟩ x.1 v U1 o)→∃pins O',ArgsOk w (⟨t,id,b,p⟩::ps) x (v::us) (U1++U2) (E1++E2) (O1++O2) n pins O':=by
   intro o hp2 ht hpf h1 h2 h3 hO hperm hE
   subst ht hO
   have hpf:p=false:=by
    rcases hpf with h | ⟨t,h⟩ | ⟨t,h⟩
    ·exact h
    ·exact absurd h (h1 t)
    ·exact absurd h (h2 t)
   subst hpf
   obtain⟨pins,O',hA⟩:=args_ok h hp2
   refine⟨pins,o++O',⟨fun π hπ tm htm=>⟨U1,U2,o,O',rfl,rfl,?_,hA.pat π hπ tm (hshift tm htm)⟩,?_,?_,hA.nn,fun ι hι => ?_,by simp [hA.len],fun q hq => ?_,?_⟩⟩
   ·have:=htm 0 v (by simp)
    rw [Nat.add_zero]at this
    simp only
    rw [this]
    exact hE π tm
   ·simp only [List.nil_append]
    refine(hperm.append hA.perm).trans ?_
    rw [←List.append_assoc,←List.append_assoc]
    exact List.Perm.append_right E2 List.perm_append_comm
   ·rw [hA.ids]
    cases b with
    | own t=>exact absurd rfl (h1 t)
    | ptr t mu=>cases mu with
     | true=>exact absurd rfl (h2 t)
     | false=>rfl
    | _=>rfl
   ·have:=hA.at' ι hι
    cases b with
    | own t=>exact absurd rfl (h1 t)
    | ptr t mu=>cases mu with
     | true=>exact absurd rfl (h2 t)
     | false=>exact⟨v,us,rfl,this⟩
    | box t o=>exact absurd rfl (h3 t o)
    | _=>exact⟨v,us,rfl,this⟩
   ·obtain⟨e,he,h1⟩:=hA.pk q hq
    exact⟨e,List.mem_cons_of_mem _ he,h1⟩
   ·have:=hA.pt
    cases b with
    | own t=>exact this
    | ptr t mu=>cases mu <;> simp [pinTy,this]
    | _=>simp [pinTy,this]
    -- one that pins
  have keyp:∀(o:List Nat) (hm:Home),(parOk (n+1) ps=true)→t=n→p=true→(∃t,b = .own t)∨(∃t,b = .ptr t true)→hm ≠ .none→O1 = [o]→E1 = [] →
    (∀(π:Nat→Home) tm,π id=hm→EntR w π tm ⟨t,id,b,p⟩ x.1 v U1 o)→(∀ι:Nat→Home,ι id=hm→∀O2,PinAt ι ps us O2→PinAt ι (⟨t,id,b,p⟩::ps) (v::us) (o::O2))→∃pins O',ArgsOk w (⟨t,id,b,p⟩::ps) x (v::us) (U1++U2) (E1++E2) (O1++O2) n pins O':=by
   intro o hm hp2 ht hpt hb hn hO hE1 hE hAt
   subst ht hO hE1 hpt
   obtain⟨pins,O',hA⟩:=args_ok h hp2
   refine⟨(id,hm)::pins,o++O',⟨fun π hπ tm htm=>⟨U1,U2,o,O',rfl,rfl,?_,hA.pat π (fun q hq=>hπ q (List.mem_cons_of_mem _ hq)) tm (hshift tm htm)⟩,?_,?_,?_,fun ι hι => ?_,by simp [hA.len],fun q hq => ?_,?_⟩⟩
   ·have:=htm 0 v (by simp)
    rw [Nat.add_zero]at this
    simp only
    rw [this]
    exact hE π tm (hπ (id,hm) (by simp))
   ·simp only [List.nil_append,List.singleton_append,List.flatten_cons,List.append_assoc]
    exact List.Perm.append_left o hA.perm
   ·simp only [List.map_cons,hA.ids]
    rcases hb with ⟨t,rfl⟩ | ⟨t,rfl⟩ <;> rfl
   ·intro q hq
    rcases List.mem_cons.1 hq with rfl | hq
    ·exact hn
    ·exact hA.nn q hq
   ·exact hAt ι (hι (id,hm) (by simp)) _ (hA.at' ι (fun q hq=>hι q (List.mem_cons_of_mem _ hq)))
   ·rcases List.mem_cons.1 hq with rfl | hq
    ·exact⟨_,List.mem_cons_self,rfl,rfl⟩
    ·obtain⟨e,he,h1⟩:=hA.pk q hq
     exact⟨e,List.mem_cons_of_mem _ he,h1⟩
   ·have:=hA.pt
    rcases hb with ⟨t,rfl⟩ | ⟨t,rfl⟩ <;> exact this
  cases b with
  | val t' g =>
   obtain⟨rfl,rfl,hv⟩:=ha
   simp only [parOk,Bool.and_eq_true,Bool.not_eq_true']at hp
   exact key [] hp.2 (Nat.eq_of_beq_eq_true hp.1.1) (.inl hp.1.2) (by simp) (by simp) (by simp) rfl (.refl _) (fun π _=>⟨rfl,hv⟩)
  | ptr t' mu =>
   cases mu with
   | true =>
    obtain⟨rfl,b,rfl,hv⟩:=ha
    simp only [parOk,Bool.and_eq_true]at hp
    exact keyp [b] (.blk b 0) hp.2 (Nat.eq_of_beq_eq_true hp.1.1) hp.1.2 (.inr ⟨_,rfl⟩) (by simp) rfl rfl (fun π _ hπ=>⟨b,rfl,hπ,hv⟩) (fun ι hι O2 h=>⟨v,us,b,O2,rfl,rfl,by obtain⟨arr,e,hv,_⟩:=hv;exact hv,hι,h⟩)
   | false =>
    obtain⟨rfl,rfl,hv⟩:=ha
    simp only [parOk,Bool.and_eq_true,Bool.not_eq_true']at hp
    exact key [] hp.2 (Nat.eq_of_beq_eq_true hp.1.1) (.inl hp.1.2) (by simp) (by simp) (by simp) rfl (.refl _) (fun π _=>⟨rfl,hv⟩)
  | own t' =>
   obtain⟨rfl,rfl,A,m,c,F,rfl,rfl,hr⟩:=ha
   simp only [parOk,Bool.and_eq_true]at hp
   exact keyp F (.row A m c F) hp.2 (Nat.eq_of_beq_eq_true hp.1.1) hp.1.2 (.inl ⟨_,rfl⟩) (by simp) rfl rfl (fun π _ hπ=>⟨rfl,A,m,c,rfl,hπ,hr⟩) (fun ι hι O2 h=>⟨_,us,A,m,c,F,O2,rfl,rfl,rfl,hι,h⟩)
  | eat t' =>
   obtain⟨rfl,rfl,hv⟩:=ha
   simp only [parOk,Bool.and_eq_true,Bool.not_eq_true']at hp
   exact key E1 hp.2 (Nat.eq_of_beq_eq_true hp.1.1) (.inl hp.1.2) (by simp) (by simp) (by simp) rfl (.refl _) (fun π _=>⟨rfl,hv⟩)
  | fn f caps =>
   obtain⟨rfl,rfl,hv⟩:=ha
   simp only [parOk,Bool.and_eq_true,Bool.not_eq_true']at hp
   exact key [] hp.2 (Nat.eq_of_beq_eq_true hp.1.1) (.inl hp.1.2) (by simp) (by simp) (by simp) rfl (.refl _) (fun π _=>⟨rfl,hv⟩)
  | lit l =>
   obtain⟨rfl,rfl,rfl,rfl⟩:=ha
   simp only [parOk,Bool.and_eq_true,Bool.not_eq_true']at hp
   exact key [] hp.2 (Nat.eq_of_beq_eq_true hp.1.1.1) (.inl hp.1.1.2) (by simp) (by simp) (by simp) rfl (.refl _) (fun π _=>⟨rfl,hp.1.2,rfl,rfl⟩)
  | box t' o=>exact ha.elim
  | same t'=>exact ha.elim
  | vw t'=>exact ha.elim
  | hof t'=>exact ha.elim
  | al t' o=>exact ha.elim
  | fsel t' o=>exact ha.elim
  | pp t' =>
   obtain⟨rfl,rfl,hv⟩:=ha
   simp only [parOk,Bool.and_eq_true,Bool.not_eq_true']at hp
   exact key [] hp.2 (Nat.eq_of_beq_eq_true hp.1.1) (.inl hp.1.2) (by simp) (by simp) (by simp) rfl (.refl _) (fun π _=>⟨rfl,hv⟩)
  | gob t' g =>
   obtain⟨rfl,rfl,hv⟩:=ha
   simp only [parOk,Bool.and_eq_true,Bool.not_eq_true']at hp
   exact key E1 hp.2 (Nat.eq_of_beq_eq_true hp.1.1) (.inl hp.1.2) (by simp) (by simp) (by simp) rfl (.refl _) (fun π _=>⟨rfl,hv⟩)

def RetP(P:Program)(fn:Func)(ps:List PE)(rs:List (Ty×Bool))(vs:List Value)(O:List (List Nat))(w0:World)(W:List Nat)(y:CT (rs.map (·.1)++outs (ps.map (·.b))))(a:Act)(w:World):Prop :=
 a.defers = []∧∃us G,(results fn a.tmps).run P w = .ok (retV us) w∧CompsR w rs (csplit _ _ y).1 us G∧OutsR w (ps.map (·.b)) (csplit _ _ y).2 vs O∧G.Nodup∧(∀b∈G,b<w.heap.size) ∧
  (∀b∈G,w0.heap.size≤b∨b∈W)∧(∀b∈G,b ∉ O.flatten)∧(∀b,b<w0.heap.size→b ∉ W→w.heap[b]? = w0.heap[b]?)∧WLe w0 w

theorem contract{g:FuncId}{fn:Func}{c:Code}{C:Cfg}{ps:List PE}{rs:List (Ty×Bool)}{F:Fn (CT (rs.map (·.1)++outs (ps.map (·.b))))}{nx:Nat}{f:PT (ps.map (·.b))→Option (CT (rs.map (·.1)++outs (ps.map (·.b))))}
  (hC:CfgOk C) (hF:F.C=C) (hfn:C.P.funcs[g]? = some fn) (hb:fn.body=some c) (hn:(fn.name == "runtime.NumGoroutine")=false) (hnt:C.ntmps=fn.ntmps) (hle:Nat.ble ps.length fn.ntmps=true) (hpar:parOk 0 ps=true)
  (hfin:F.fin=rdRes C.P ps rs fn.results.toList .ret) (hpins:F.pins=pinIds ps) (hnd:nodupB F.pins=true) (hann:AnnOk F c 1) (hmix:C.P.follows .mixedOrders=true)
  (hf:∀x,evFn F c ps nx x=f x):Contract C.P g ⟨ps.map (·.b),rs,f⟩:=by
 intro w x vs U E O r hA hO hU hlt hki hkr hr
 have hle:=Nat.le_of_ble_eq_true hle
 simp only at hA hr r
 obtain⟨pins,O',hok⟩:=args_ok hA hpar
 left
 refine⟨?_,?_⟩
 ·simp [callFunc,hfn,hb]
  simpa using hn
 ·have hpn:(pins.map (·.1)).Nodup:=by rw [hok.ids,←hpins];exact nodupB_run hnd
  refine calls_of_wp hfn hb ?_
  let X:Ctx:=⟨C,w,O.flatten++E,pins,hki,hkr⟩
  have hsz:vs.toArray.size=ps.length:=by simp [hok.len]
  let a0:Act:={ tmps:=vs.toArray++Array.replicate (fn.ntmps - vs.toArray.size) undef,defers := [] }
  have hmem:∀b,b∈O'↔b∈O.flatten++E:=fun b=>hok.perm.mem_iff
  have hpo:PatOk X ps x a0 w (pinF pins) U O':=by
   refine⟨hok.pat _ (pinF_mem hpn) _ ?_,fun b hb hm=>hU b hb ((hmem b).1 hm),fun b hb=>hlt b (List.mem_append.2 (.inl hb)),fun b hb=>hlt b (List.mem_append.2 (.inr ((hmem b).1 hb))),fun b hb => .inr ((hmem b).1 hb),
    hok.perm.nodup_iff.2 hO,fun q hq=>⟨pinF_mem hpn q hq,hok.nn q hq⟩,hok.pk,hok.pt,?_,rfl,fun _ _ _=>rfl,WLe.refl _⟩
   ·intro i v hv
    have hi:i<vs.length:=(List.getElem?_eq_some_iff.1 hv).1
    rw [Array.getD_eq_getD_getElem?,Array.getElem?_append_left (by simpa using by omega)]
    simp only [Nat.zero_add]
    simp [hv]
   ·simp only [a0,Array.size_append,Array.size_replicate]
    rw [hsz]
    show ps.length+(fn.ntmps - ps.length)=C.ntmps
    omega
  have hFO:FnOk X F (RetP C.P fn ps rs vs O w (O.flatten++E)):=by
   refine⟨hF,hC,by rw [hpins];exact hok.ids.symm,?_,hmix⟩
   intro σ ι a w' A K z hR h
   rw [Pg.runK_eq,hfin]at h
   obtain⟨q,hq,h⟩:=Option.bind_eq_some_iff.1 h
   obtain⟨y,us,G,σ1,h1,h2,h3,h4,h5,h6⟩:=rdRes_run (X:=X) (hok.at' ι (fun q hq=>(hR.pn q hq).1)) hR Free.nil hq
   simp only [Pg.run,Option.some.injEq]at h6
   subst h6
   simp only [List.nil_append]at h4 h5
   exact⟨y,⟨hR.df,us,G,results_run h1,h2,h3,h4.nd,h4.lt,h4.mu,h5,hR.fr,hR.le⟩,h⟩
  have hend:∀(r':CT (rs.map (·.1)++outs (ps.map (·.b)))) a w',RetP C.P fn ps rs vs O w (O.flatten++E) r' a w'→some r'=some r→bodyPost C.P fn (fun e w'=>∃us F,e = .returned (retV us)∧CompsR w' rs (csplit _ _ r).1 us F∧OutsR w' (ps.map (·.b)) (csplit _ _ r).2 vs O∧F.Nodup ∧
   (∀b∈F,(w.heap.size≤b∧b<w'.heap.size)∨b∈E)∧(∀b,b<w.heap.size→b ∉ O.flatten++E→w'.heap[b]? = w.heap[b]?)∧WLe w w') .ret a w':=by
   rintro r' a w' ⟨hd,us,G,h1,h2,h3,h4,h5,h6,h7,h8,h9⟩ he
   cases he
   refine⟨hd,_,h1,us,G,rfl,h2,h3,h4,fun b hb => ?_,h8,h9⟩
   rcases h6 b hb with h | h
   ·exact .inl ⟨h,h5 b hb⟩
   ·rcases List.mem_append.1 h with h | h
    ·exact absurd h (h7 b hb)
    ·exact .inr h
  rw [←hf]at hr
  unfold evFn at hr
  obtain⟨σ,ι,hR,h⟩:=mkK_run (X:=X) hF hpo hr
  refine ev_sound hFO c 1 hann hR h hend (fun e σ' nx' ι' a' w' hR' he => ?_)
  cases e with
  | normal =>
   obtain⟨r',h1,h2⟩:=hFO.fin hR' he
   exact hend r' a' w' h1 h2
  | exit i=>cases he
  | ret=>cases he
end Go.Ev
namespace Go.Ev
open Go
variable [KSl]

def codeOf(f:Func):Code:=f.body.getD .skip

def natsBeq:List Nat→List Nat→Bool
 | [],[]=>true
 | a::l,b::m=>Nat.beq a b&&natsBeq l m
 | _,_=>false

theorem natsBeq_eq:∀ {l m:List Nat},natsBeq l m=true→l=m
 | [],[],_=>rfl
 | a::l,b::m,h=>by
  simp only [natsBeq,Bool.and_eq_true]at h
  rw [Nat.eq_of_beq_eq_true h.1,natsBeq_eq h.2]
 | [],_::_,h=>by cases h
 | _::_,[],h=>by cases h

noncomputable def gOf:List (FuncId×List FuncId×Variant)→FuncId→List FuncId→Option Variant
 | [],_,_=>none
 | q::l,g,ids=>bif Nat.beq g q.1&&natsBeq ids q.2.1 then some q.2.2 else gOf l g ids

def AllC(P:Program):List (FuncId×List FuncId×Variant)→Prop
 | []=>True
 | q::l=>Contract P q.1 q.2.2∧AllC P l

theorem gOf_ok{P:Program}:∀ {l:List (FuncId×List FuncId×Variant)},AllC P l→∀g ids v,gOf l g ids=some v→Contract P g v
 | [],_,g,ids,v,h=>by cases h
 | q::l,ha,g,ids,v,h=>by
  simp only [gOf]at h
  cases hc:(Nat.beq g q.1&&natsBeq ids q.2.1)with
  | true =>
   rw [hc]at h
   simp only [cond_true,Option.some.injEq]at h
   rw [Bool.and_eq_true]at hc
   rw [Nat.eq_of_beq_eq_true hc.1,←h]
   exact ha.1
  | false =>
   rw [hc]at h
   exact gOf_ok ha.2 g ids v h

def tyOf:List (TypeId×Ty)→TypeId→Option Ty
 | [],_=>none
 | q::l,e=>bif Nat.beq e q.1 then some q.2 else tyOf l e

def AllT(P:Program):List (TypeId×Ty)→Prop
 | []=>True
 | q::l=>TyOk P q.1 q.2∧AllT P l

theorem tyOf_ok{P:Program}:∀ {l:List (TypeId×Ty)},AllT P l→∀e t,tyOf l e=some t→TyOk P e t
 | [],_,e,t,h=>by cases h
 | q::l,ha,e,t,h=>by
  simp only [tyOf]at h
  cases hc:Nat.beq e q.1 with
  | true =>
   rw [hc]at h
   simp only [cond_true,Option.some.injEq]at h
   rw [Nat.eq_of_beq_eq_true hc,←h]
   exact ha.1
  | false =>
   rw [hc]at h
   exact tyOf_ok ha.2 e t h

def loopsOf:Code→Nat→List (Nat×Code)
 | .seq a b,p=>loopsOf a (2*p)++loopsOf b (2*p+1)
 | .cond _ x y,p=>loopsOf x (2*p)++loopsOf y (2*p+1)
 | .block _ c,p=>loopsOf c (2*p)
 | .loop c,p=>(p,c)::loopsOf c (2*p)
 | _,_ => []

theorem AnnOk_of{R:Type}{F:Fn R}:∀ {c:Code} {p:Nat},(∀q∈loopsOf c p,LoopOk F q.2 q.1)→AnnOk F c p
 | .seq a b,p,h=>⟨AnnOk_of fun q hq=>h q (List.mem_append.2 (.inl hq)),AnnOk_of fun q hq=>h q (List.mem_append.2 (.inr hq))⟩
 | .cond _ x y,p,h=>⟨AnnOk_of fun q hq=>h q (List.mem_append.2 (.inl hq)),AnnOk_of fun q hq=>h q (List.mem_append.2 (.inr hq))⟩
 | .block _ c,p,h=>AnnOk_of (c:=c) h
 | .loop c,p,h=>⟨h (p,c) (by simp [loopsOf]),AnnOk_of fun q hq=>h q (by simp [loopsOf,hq])⟩
 | .skip,_,_=>trivial
 | .exit _,_,_=>trivial
 | .ret,_,_=>trivial
 | .region _ _ _,_,_=>trivial
 | .rangeFunc _ _ _ _,_,_=>trivial
 | .scope _,_,_=>trivial
 | .label _,_,_=>trivial
 | .goto _,_,_=>trivial
 | .refuse _,_,_=>trivial

def AllL{R:Type}(F:Fn R):List (Nat×Code)→Prop
 | []=>True
 | q::l=>LoopOk F q.2 q.1∧AllL F l

theorem AllL_mem{R:Type}{F:Fn R}:∀ {l:List (Nat×Code)},AllL F l→∀q∈l,LoopOk F q.2 q.1
 | q::l,h,q',hq=>by
  rcases List.mem_cons.1 hq with rfl | hq
  ·exact h.1
  ·exact AllL_mem h.2 q' hq

def findB:List (Nat×Code)→Nat→Code
 | [],_ => .skip
 | q::l,p=>bif Nat.beq q.1 p then q.2 else findB l p

def loopB(c:Code)(p:Nat):Code:=findB (loopsOf c 1) p

theorem AnnOk_list{R:Type}{F:Fn R}{c:Code}(l:List (Nat×Code))(h:loopsOf c 1=l)(hl:AllL F l):AnnOk F c 1 :=
 AnnOk_of fun q hq=>AllL_mem hl q (h ▸ hq)

theorem LoopOk.mk{R:Type}{F:Fn R}{c:Code}{p:Nat}{pin pout:List PE}{ex nx:Nat}{Lf:Nat→PTe pin→Option (R ⊕ PTe pout)}{k:Nat}(h:F.an p=some (.loop pin pout ex nx (Lf k)))(h0:∀x,Lf 0 x=none)
  (hs:∀n x,roundOf F c p pin pout ex nx (Lf n) x=Lf (n+1) x):LoopOk F c p:=by
 intro pin' pout' ex' nx' L' h'
 rw [h]at h'
 rcases h' with h' | h' <;> cases h'
 exact⟨Lf,k,rfl,h0,hs⟩

theorem LoopOk.mkp{R:Type}{F:Fn R}{c:Code}{p:Nat}{pin pout:List PE}{ex nx:Nat}{Lf:Nat→PTe pin→Option (R ⊕ PTe pout)}{k:Nat}(h:F.an p=some (.peel pin pout ex nx (Lf k)))(h0:∀x,Lf 0 x=none)
  (hs:∀n x,roundOf F c p pin pout ex nx (Lf n) x=Lf (n+1) x):LoopOk F c p:=by
 intro pin' pout' ex' nx' L' h'
 rw [h]at h'
 rcases h' with h' | h' <;> cases h'
 exact⟨Lf,k,rfl,h0,hs⟩

def both{R P A:Type}(o:Option (R ⊕ P))(f:R→Option A)(g:P→Option A):Option A:=o.bind fun
 | .inl r=>f r
 | .inr y=>g y

theorem hnOf (s:String) (h:(s == "runtime.NumGoroutine")=false):(s == "runtime.NumGoroutine")=false:=h
theorem contract_none{P:Program}{g:FuncId}{v:Variant}(h:∀x,v.fn x=none):Contract P g v:=by
 intro w x vs U E O r _ _ _ _ _ _ hr
 rw [h]at hr
 cases hr
end Go.Ev
namespace Go.Ev
open Go Go.RowKit

theorem law_calls{P:Program}{g:FuncId}{v:Variant}{fn:Func}{c:Code}{w:World}{x:PT v.ps}{vs:List Value}{U:List Nat}{r:CT (v.rs.map (·.1)++outs v.ps)}
  (hK:Contract P g v) (hfn:P.funcs[g]? = some fn) (hb:fn.body=some c) (hn:(fn.name == "runtime.NumGoroutine")=false) (hA:ArgsR w v.ps x vs U [] []) (hlt:∀b∈U,b<w.heap.size) (hr:v.fn x=some r)
  (hc:∀w' us F,CompsR w' v.rs (csplit _ _ r).1 us F→us = [.bool true]):Calls P g vs.toArray w fun e W'=>e = .returned (.bool true)∧Below w.heap.size w W':=by
 have h:=hK w x vs U [] [] r hA (by simp) (by simp) (by simpa using hlt) ⟨rfl,Nat.le_refl _,.inl ⟨rfl,rfl,fun h=>by cases h⟩⟩ (fun b hb=>by cases hb) hr
 have he:(callFunc g vs.toArray).run P w = .ok (.enter g vs.toArray) w:=by
  simp [callFunc,hfn,hb]
  simpa using hn
 rcases h with ⟨_,h⟩ | ⟨u,w',h,_⟩
 ·refine h.mono fun e W' hh => ?_
  obtain⟨us,F,rfl,h1,_,_,_,h2,h3⟩:=hh
  have:=hc W' us F h1
  subst this
  exact⟨rfl,⟨h3.os,h3.tape,h3.out,h3.le,fun k hk=>h2 k hk (by simp)⟩⟩
 ·rw [he]at h
  cases h

theorem comps_true{w':World}{us:List Value}{F:List Nat}(h:CompsR w' [(.bool,false)] (true:Bool) us F):us = [.bool true]:=by
 obtain⟨v,us',F1,F2,rfl,rfl,⟨h1,_⟩,h2,_⟩:=h
 simp only [cellsOf]at h1
 have:=h1.1
 simp at this
 rw [this,h2]
 rfl

theorem argsR_int{w:World}{k:IntKind}{n:Int}{ps:List BTy}{x:PT ps}{vs:List Value}{U E:List Nat}{O:List (List Nat)}(h:ArgsR w ps x vs U E O):ArgsR w (.val (.int k) false::ps) (n,x) (.int k n::vs) U E O :=
 ⟨_,_,[],U,[],E,[],O,rfl,rfl,rfl,rfl,⟨rfl,rfl,⟨rfl,rfl⟩,fun h=>by cases h⟩,h⟩

theorem argsR_nil{w:World}:ArgsR w [] () [] [] [] []:=⟨rfl,rfl,rfl,rfl⟩
end Go.Ev
namespace Go.Ev
open Go
variable [KSl]

def fsIsB(P:Program)(g:TypeId→Ty→Bool):List Field→Nat→Ty→Bool
 | [],_,_=>false
 | [f],off,ty=>Nat.beq f.offset off&&Nat.beq (P.cellsOf f.type) ty.size&&g f.type ty
 | f::fs,off,.pair a b=>Nat.beq f.offset off&&Nat.beq (P.cellsOf f.type) a.size&&g f.type a&&fsIsB P g fs (off+a.size) b
 | _,_,_=>false

def tyIsB(P:Program):Nat→TypeId→Ty→Bool
 | 0,_,_=>false
 | n+1,t,ty=>match P.underlying t with
  | some (.int k)=>match ty with
   | .int k'=>decide (k=k')
   | _=>false
  | some .bool=>match ty with
   | .bool=>true
   | _=>false
  | some .string=>match ty with
   | .str=>true
   | _=>false
  | some (.slice e)=>match ty with
   | .sl ty=>Nat.beq (P.cellsOf e) ty.size&&Nat.ble 1 ty.size&&tyIsB P n e ty
   | _=>false
  | some (.struct fs)=>Nat.beq (P.cellsOf t) ty.size&&fsIsB P (tyIsB P n) fs.toList 0 ty
  | _=>false

def WfT:(t:Ty)→t.T→Prop
 | .int k,n=>(Lit.int k n).wf=true
 | .pair a b,x=>WfT a x.1∧WfT b x.2
 | .sl t,xs=>xs.length≤maxLen∧∀x∈xs,WfT t x
 | _,_=>True

section
variable {H : Type} {enc : TypeId × Value → H} {P : Program} {w : World} {held : Bool} {spare : Nat → Bool}

theorem trod_lift{n:Nat}(ih:∀ {t:TypeId} {ty:Ty} {fuel:Nat} {cs:List Value} {x:DataW H×List MemPlace},tyIsB P n t ty=true→DataW.trod enc P w 0 spare held fuel t cs=some x→∃v F,RE false w ty v cs F∧WfT ty v) :
  ∀ {fs:List Field} {off:Nat} {ty:Ty} {fuel:Nat} {cs:List Value} {xs:List (DataW H×List MemPlace)},fsIsB P (tyIsB P n) fs off ty=true→(cs.length=off+ty.size) →
   (fs.mapM fun f=>DataW.trod enc P w 0 spare held fuel f.type ((cs.drop f.offset).take (P.cellsOf f.type)))=some xs→∃v F,RE false w ty v (cs.drop off) F∧WfT ty v
 | [],off,ty,fuel,cs,xs,h,_,_=>by cases h
 | [f],off,ty,fuel,cs,xs,h,hl,hm=>by
  simp only [fsIsB,Bool.and_eq_true]at h
  have h1:=Nat.eq_of_beq_eq_true h.1.1
  have h2:=Nat.eq_of_beq_eq_true h.1.2
  rw [List.mapM_cons]at hm
  obtain⟨y,hy,_⟩:=Option.bind_eq_some_iff.1 hm
  obtain⟨v,F,hv,hw⟩:=ih h.2 hy
  refine⟨v,F,?_,hw⟩
  rw [h1,h2,List.take_of_length_le (by rw [List.length_drop];omega)]at hv
  exact hv
 | f::f2::fs,off,.pair a b,fuel,cs,xs,h,hl,hm=>by
  simp only [fsIsB,Bool.and_eq_true]at h
  have h1:=Nat.eq_of_beq_eq_true h.1.1.1
  have h2:=Nat.eq_of_beq_eq_true h.1.1.2
  rw [List.mapM_cons]at hm
  obtain⟨y,hy,hm⟩:=Option.bind_eq_some_iff.1 hm
  obtain⟨ys,hys,_⟩:=Option.bind_eq_some_iff.1 hm
  obtain⟨v,F,hv,hw⟩:=ih h.1.2 hy
  simp only [Ty.size]at hl
  obtain⟨v2,F2,hv2,hw2⟩:=trod_lift ih h.2 (by omega) hys
  refine⟨(v,v2),F++F2,⟨_,_,F,F2,?_,rfl,hv,hv2⟩,hw,hw2⟩
  rw [h1,h2,←List.drop_drop,List.take_append_drop]
 | f::f2::fs,off,.unit,fuel,cs,xs,h,hl,hm=>by cases h
 | f::f2::fs,off,.int _,fuel,cs,xs,h,hl,hm=>by cases h
 | f::f2::fs,off,.bool,fuel,cs,xs,h,hl,hm=>by cases h
 | f::f2::fs,off,.str,fuel,cs,xs,h,hl,hm=>by cases h
 | f::f2::fs,off,.sl _,fuel,cs,xs,h,hl,hm=>by cases h
 | f::f2::fs,off,.rm _,fuel,cs,xs,h,hl,hm=>by cases h

theorem trod_RE:∀ {n:Nat} {t:TypeId} {ty:Ty} {fuel:Nat} {cs:List Value} {x:DataW H×List MemPlace},tyIsB P n t ty=true→DataW.trod enc P w 0 spare held fuel t cs=some x→∃v F,RE false w ty v cs F∧WfT ty v:=by
 intro n
 induction n with
 | zero=>intro t ty fuel cs x h;cases h
 | succ n ih =>
  intro t ty fuel cs x h hx
  unfold tyIsB at h
  cases hu:P.underlying t with
  | none=>rw [hu]at h;cases h
  | some u =>
   rw [hu]at h
   cases fuel with
   | zero=>cases hx
   | succ fuel =>
    cases u with
    | int k =>
     cases ty with
     | int k' =>
      simp only [decide_eq_true_eq]at h
      subst h
      have hq:∃m,cs = [.int k m]∧(Lit.int k m).wf=true:=by
       unfold DataW.trod at hx
       simp only [hu]at hx
       split at hx <;> simp_all
      obtain⟨m,rfl,hw⟩:=hq
      exact⟨m,[],⟨rfl,rfl⟩,hw⟩
     | _=>cases h
    | bool =>
     cases ty with
     | bool =>
      have hq:∃m,cs = [.bool m]:=by
       unfold DataW.trod at hx
       simp only [hu]at hx
       split at hx <;> simp_all
      obtain⟨m,rfl⟩:=hq
      exact⟨m,[],⟨rfl,rfl⟩,trivial⟩
     | _=>cases h
    | string =>
     cases ty with
     | str =>
      have hq:∃m,cs = [.string m]:=by
       unfold DataW.trod at hx
       simp only [hu]at hx
       split at hx <;> simp_all
      obtain⟨m,rfl⟩:=hq
      exact⟨m,[],⟨rfl,rfl⟩,trivial⟩
     | _=>cases h
    | struct fs =>
     simp only [Bool.and_eq_true]at h
     have h1:=Nat.eq_of_beq_eq_true h.1
     have hq:cs.length=P.cellsOf t∧∃xs,(fs.toList.mapM fun f=>DataW.trod enc P w 0 spare held fuel f.type ((cs.drop f.offset).take (P.cellsOf f.type)))=some xs:=by
      unfold DataW.trod at hx
      simp only [hu]at hx
      by_cases hl:cs.length=P.cellsOf t
      ·rw [if_pos hl]at hx
       obtain⟨xs,hm,_⟩:=Option.map_eq_some_iff.1 hx
       exact⟨hl,xs,hm⟩
      ·rw [if_neg hl]at hx
       cases hx
     obtain⟨hl,xs,hm⟩:=hq
     obtain⟨v,F,hv,hw⟩:=trod_lift (fun {t ty fuel cs x} h1 h2=>ih h1 h2) h.2 (by omega) hm
     exact⟨v,F,hv,hw⟩
    | slice e =>
     cases ty with
     | sl ty =>
      simp only [Bool.and_eq_true]at h
      have h1:=Nat.eq_of_beq_eq_true h.1.1
      have h2:=Nat.le_of_ble_eq_true h.1.2
      rcases Go.Deep.open_slice hu hx with ⟨rfl,_⟩ | ⟨a,len,cap,m,n',D,Pl,rfl,_,hlc,hcm,hm,_,hel⟩
      ·exact⟨[],[],⟨none,0,0,rfl,rfl,Nat.le_refl _,.inl ⟨rfl,rfl,fun h=>by cases h⟩⟩,Nat.zero_le _,by intro x hx;simp at hx⟩
      ·by_cases h0:len=0
       ·subst h0
        exact⟨[],[],⟨some a,0,cap,rfl,rfl,Nat.zero_le _,.inl ⟨rfl,rfl,fun h=>by cases h⟩⟩,Nat.zero_le _,by intro x hx;simp at hx⟩
       ·have hlm:len≤m:=by rw [hm];split <;> omega
        have hall:∀i,i<len→∃(q:ty.T×List Nat×List Value),w.cells? 0 (a.add (i*P.cellsOf e)) (P.cellsOf e)=some q.2.2∧RE false w ty q.1 q.2.2 q.2.1∧WfT ty q.1:=by
         intro i hi
         obtain⟨cs',c1,c2⟩:=hel i (by omega)
         obtain⟨v,F,hv,hw⟩:=ih h.2 c2
         exact⟨(v,F,cs'),c1,hv,hw⟩
        have:Inhabited (ty.T×List Nat×List Value):=⟨(ty.dflt,[],[])⟩
        obtain⟨f,hf⟩:=Go.Deep.choose_lt hall
                -- the block
        have hcell:∀i j,i<len→j<ty.size→w.cell? ((a.add (i*ty.size)).add j)=(f i).2.2[j]? := by
         intro i j hi hj
         have:=(World.cells?_some (hf i hi).1).2.2 j (by rw [h1];exact hj)
         rwa [h1]at this
        have hfl:∀i,i<len→(f i).2.2.length=ty.size:=fun i hi=>by rw [(World.cells?_some (hf i hi).1).2.1,h1]
        obtain⟨b,o,sp⟩:=a
        have hsp:sp=none:=by
         have:=hcell 0 0 (by omega) (by omega)
         have hl0:=hfl 0 (by omega)
         rw [List.getElem?_eq_getElem (by omega)]at this
         simp only [Nat.zero_mul,Addr.add,if_true]at this
         unfold World.cell? at this
         cases sp with
         | none=>rfl
         | some k =>
          simp only at this
          split at this <;> simp at this
        subst hsp
        have hcell':∀i j,i<len→j<ty.size→w.cell? ⟨b,o+i*ty.size+j,none⟩=(f i).2.2[j]? := by
         intro i j hi hj
         rw [←hcell i j hi hj,Addr_add,Addr_add]
        obtain⟨arr,el,fr,hb⟩:∃arr el fr,w.heap[b]? = some (.cells arr el fr):=by
         have:=hcell' 0 0 (by omega) (by omega)
         have hl0:=hfl 0 (by omega)
         rw [List.getElem?_eq_getElem (by omega)]at this
         unfold World.cell? at this
         simp only at this
         split at this
         ·rename_i c e' fr' hh
          exact⟨c,e',fr',hh⟩
         ·cases this
        have harr:∀i j,i<len→j<ty.size→arr[o+i*ty.size+j]? = (f i).2.2[j]? := by
         intro i j hi hj
         rw [←hcell' i j hi hj,cell_at hb]
        refine⟨(List.range len).map fun i=>(f i).1,b::(((List.range len).map fun i=>(f i).2.1).flatten ++ []),⟨_,len,cap,rfl,by simp,hlc,.inr ⟨b,o,arr,el,fr,(List.range len).map fun i=>(f i).2.1,[],rfl,hb,(fun h=>by cases h),?_,rfl,(by simp),(by simp),?_⟩⟩,?_⟩
        ·simp only [Bool.false_eq_true,if_false]
         have:=harr (len - 1) (ty.size - 1) (by omega) (by omega)
         have hl0:=hfl (len - 1) (by omega)
         rw [List.getElem?_eq_getElem (by omega)]at this
         have hlt:=(Array.getElem?_eq_some_iff.1 this).1
         have hmul:len*ty.size=(len - 1)*ty.size+ty.size:=by
          rw [←Nat.succ_mul]
          congr 1
          omega
         omega
        ·intro i x Fi hxi hFi
         rw [List.getElem?_map]at hxi hFi
         obtain⟨k,hk,rfl⟩:=Option.map_eq_some_iff.1 hxi
         obtain⟨k2,hk2,rfl⟩:=Option.map_eq_some_iff.1 hFi
         rw [hk]at hk2
         cases hk2
         obtain⟨hi,hk⟩:=List.getElem?_eq_some_iff.1 hk
         simp at hk hi
         subst hk
         have e:(arr.toList.drop (o+i*ty.size)).take ty.size=(f i).2.2:=by
          apply List.ext_getElem?
          intro j
          rw [List.getElem?_take]
          split
          ·rename_i hj
           rw [List.getElem?_drop,←harr i j hi hj]
           simp
          ·rw [List.getElem?_eq_none]
           rw [hfl i hi];omega
         rw [e]
         exact(hf i hi).2.1
        ·refine⟨by simp;omega,?_⟩
         intro x hx
         obtain⟨i,hi,rfl⟩:=List.mem_map.1 hx
         exact(hf i (by simpa using hi)).2.2
     | _=>cases h
    | _=>cases h
end

theorem cells_okWide{P:Program}{W:World}{r:Reach}{base:Nat}{t:TypeId}{v:Value}{n:Nat}{ty:Ty}(hB:tyIsB P n t ty=true)(h:Value.okWide P W r base t v):cellsOf (isAggB P t) v=v.cells.toList∧(isAggB P t=true→∃vs,v = .agg vs):=by
 cases n with
 | zero=>cases hB
 | succ n =>
  unfold tyIsB at hB
  cases hu:P.underlying t with
  | none=>rw [hu]at hB;cases hB
  | some u =>
   rw [hu]at hB
   cases u with
   | struct fs =>
    obtain⟨cs,rfl,_⟩:=WideShapes.okWide_struct hu h
    refine⟨?_,fun _=>⟨_,rfl⟩⟩
    simp [isAggB,hu,cellsOf,Value.cells]
   | slice e =>
    obtain⟨a,l,c,rfl⟩:=WideShapes.okWide_slice hu h
    simp [isAggB,hu,cellsOf,Value.cells]
   | int k =>
    simp only [Value.okWide,hu,Cell.okWide]at h
    cases v <;> simp_all [isAggB,cellsOf,Value.cells,Cell.ok]
   | bool =>
    simp only [Value.okWide,hu,Cell.okWide]at h
    cases v <;> simp_all [isAggB,cellsOf,Value.cells,Cell.ok]
   | string =>
    simp only [Value.okWide,hu,Cell.okWide]at h
    cases v <;> simp_all [isAggB,cellsOf,Value.cells,Cell.ok]
   | _=>cases hB

theorem open_arg{H:Type}{enc:TypeId×Value→H}{P:Program}{W:World}{r:Reach}{base:Nat}{t:TypeId}{v:Value}{d:DataW H}{ps:List MemPlace}(n:Nat)(ty:Ty)(g:Bool)(hB:tyIsB P n t ty=true)(hg:isAggB P t=g)
  (hval:Value.okWide P W r base t v) (hT:DataW.Trod enc P W 0 (fun _=>true) true t v d ps):∃x U,ValR W false ty g x v U∧(∀b∈U,b<W.heap.size)∧WfT ty x:=by
 obtain⟨fuel,hf⟩:=hT
 obtain⟨x,F,hx,hw⟩:=trod_RE hB hf
 obtain⟨h1,h2⟩:=cells_okWide hB hval
 subst hg
 exact⟨x,F,⟨by rw [h1];exact hx,h2⟩,RE_lt hx,hw⟩

theorem argsR_val{w:World}{t:Ty}{g:Bool}{x0:t.T}{v:Value}{U1:List Nat}{ps:List BTy}{x:PT ps}{vs:List Value}{U E:List Nat}{O:List (List Nat)}(hv:ValR w false t g x0 v U1)(h:ArgsR w ps x vs U E O) :
  ArgsR w (.val t g::ps) (x0,x) (v::vs) (U1++U) E O :=
 ⟨_,_,U1,U,[],E,[],O,rfl,rfl,rfl,rfl,⟨rfl,rfl,hv⟩,h⟩

theorem trod_lt'{H:Type}{enc:TypeId×Value→H}{P:Program}{W:World}{t:TypeId}{v:Value}{d:DataW H}{ps:List MemPlace}(h:DataW.Trod enc P W 0 (fun _=>true) true t v d ps):∀x∈ps,x.block<W.heap.size:=by
 obtain⟨m,hm⟩:=h
 exact DataW.trod_lt m _ _ _ hm
end Go.Ev
namespace Go.Ev
open Go
variable [KSl]

def math_bits_Add64(x y c:Int):Option (Int×Int) :=
 bif c==0||c==1 then some ((((x.toNat+y.toNat+c.toNat) % 18446744073709551616:Nat):Int),(((x.toNat+y.toNat+c.toNat) / 18446744073709551616:Nat):Int))else none
def math_bits_Sub64(x y b:Int):Option (Int×Int) :=
 bif b==0||b==1 then some ((((x.toNat+18446744073709551616 - y.toNat - b.toNat) % 18446744073709551616:Nat):Int),((if x.toNat<y.toNat+b.toNat then 1 else 0:Nat):Int))else none

def sub64E:Array Value→Sem Value:=fun args=>do
 let (x,y,b) ←Extern.MathBitsCarry.three "Sub64" args
 pure (Extern.MathBitsCarry.pair ((x+Extern.MathBitsCarry.m64 - y - b) % Extern.MathBitsCarry.m64) (if x<y+b then 1 else 0))

theorem add64_run{P:Program}(x y c:Int)(h:c=0∨c=1)(w:World):(add64Entry #[.int .u64 x,.int .u64 y,.int .u64 c]).run P w =
  .ok (.tuple #[.int .u64 (((x.toNat+y.toNat+c.toNat) % 18446744073709551616:Nat):Int),.int .u64 (((x.toNat+y.toNat+c.toNat) / 18446744073709551616:Nat):Int)]) w:=by
 rcases h with rfl | rfl <;> rfl

theorem sub64_run{P:Program}(x y c:Int)(h:c=0∨c=1)(w:World):(sub64E #[.int .u64 x,.int .u64 y,.int .u64 c]).run P w =
  .ok (.tuple #[.int .u64 (((x.toNat+18446744073709551616 - y.toNat - c.toNat) % 18446744073709551616:Nat):Int),.int .u64 ((if x.toNat<y.toNat+c.toNat then 1 else 0:Nat):Int)]) w:=by
 rcases h with rfl | rfl <;> rfl

def V64(f:Int→Int→Int→Option (Int×Int)):Variant:=⟨[.val (.int .u64) false,.val (.int .u64) false,.val (.int .u64) false],[(.int .u64,false),(.int .u64,false)],fun x=>f x.1 x.2.1 x.2.2.1⟩

theorem contract64 {P:Program} {g:FuncId} {fn:Func} {e:Array Value→Sem Value} {f:Int→Int→Int→Option (Int×Int)} (hf:P.funcs[g]? = some fn) (hname:(fn.name == "runtime.NumGoroutine")=false)
  (hb:fn.body.isNone=true) (hn:Extern.findNext fn=none) (he:Extern.find fn=some e)
  (hr:∀x y c r,f x y c=some r→∀w,(e #[.int .u64 x,.int .u64 y,.int .u64 c]).run P w = .ok (.tuple #[.int .u64 r.1,.int .u64 r.2]) w):Contract P g (V64 f):=by
 intro w x vs U E O r hA _ _ _ _ _ hx
 obtain⟨x,y,c,u⟩:=x
 obtain⟨v1,us,U1,U2,E1,E2,O1,O2,rfl,rfl,rfl,rfl,⟨rfl,rfl,h1,_⟩,hA⟩:=hA
 obtain⟨v2,us,U3,U4,E3,E4,O3,O4,rfl,rfl,rfl,rfl,⟨rfl,rfl,h2,_⟩,hA⟩:=hA
 obtain⟨v3,us,U5,U6,E5,E6,O5,O6,rfl,rfl,rfl,rfl,⟨rfl,rfl,h3,_⟩,hA⟩:=hA
 obtain⟨rfl,rfl,rfl,rfl⟩:=hA
 simp only [cellsOf]at h1 h2 h3
 have e1:v1 = .int .u64 x:=by have:=h1.1;simpa using this
 have e2:v2 = .int .u64 y:=by have:=h2.1;simpa using this
 have e3:v3 = .int .u64 c:=by have:=h3.1;simpa using this
 subst e1 e2 e3
 right
 refine⟨.tuple #[.int .u64 r.1,.int .u64 r.2],w,?_,[.int .u64 r.1,.int .u64 r.2],[],rfl,?_,?_,.nil,by simp,fun _ _ _=>rfl,WLe.refl w⟩
 ·rw [run_callFunc_extern hf hname hb hn he,hr x y c r hx w]
  rfl
 ·exact⟨_,_,[],[],rfl,rfl,⟨⟨rfl,rfl⟩,fun h=>by cases h⟩,⟨_,_,[],[],rfl,rfl,⟨⟨rfl,rfl⟩,fun h=>by cases h⟩,rfl,rfl⟩⟩
 ·exact⟨_,_,rfl,_,_,rfl,_,_,rfl,rfl⟩

theorem contractAdd64 {P:Program} {g:FuncId} {fn:Func} (hf:P.funcs[g]? = some fn) (hname:(fn.name == "runtime.NumGoroutine")=false)
  (hb:fn.body.isNone=true) (hn:Extern.findNext fn=none) (he:Extern.find fn=some add64Entry):Contract P g (V64 math_bits_Add64) :=
 contract64 hf hname hb hn he (by
  intro x y c r h w
  unfold math_bits_Add64 at h
  cases hc:(c==0||c==1)with
  | false=>rw [hc]at h;cases h
  | true =>
   rw [hc]at h
   cases h
   exact add64_run x y c (by simpa using hc) w)

theorem contractSub64 {P:Program} {g:FuncId} {fn:Func} (hf:P.funcs[g]? = some fn) (hname:(fn.name == "runtime.NumGoroutine")=false)
  (hb:fn.body.isNone=true) (hn:Extern.findNext fn=none) (he:Extern.find fn=some sub64E):Contract P g (V64 math_bits_Sub64) :=
 contract64 hf hname hb hn he (by
  intro x y c r h w
  unfold math_bits_Sub64 at h
  cases hc:(c==0||c==1)with
  | false=>rw [hc]at h;cases h
  | true =>
   rw [hc]at h
   cases h
   exact sub64_run x y c (by simpa using hc) w)
end Go.Ev
namespace Go.Ev
open Go
variable [KSl]

section
variable {R : Type}
noncomputable def evFnN(b:Bool)(F:Fn R)(c:Code)(params:List PE)(nx:Nat)(x:PTe params):Option R :=
 mkK F params x fun s=>match s.T 0 with
  | .one [.sl id] false=>ev F c R 1 (s.setT 0 (.sc (.sn b id))) nx some fun e s' _=>match e with
   | .normal=>F.fin.runK s' fun r _=>some r
   | _=>none
  | _=>none
end

def fstNil(t:Ty)(ps':List PE):(ps:List PE)→ps=⟨0,0,.val (.sl t) false,false⟩::ps'→PTe ps→Prop
 | _,rfl,x=>x.1=([]:List t.T)

theorem hdr_of{w:World}{t:Ty}{ps' ps:List PE}(hps:ps=⟨0,0,.val (.sl t) false,false⟩::ps'){x:PTe ps}{vs:List Value}{U E:List Nat}{O:List (List Nat)}(h:ArgsR w (ps.map (·.b)) x vs U E O) :
  ∃A n c us,vs = .slice A n c::us∧(A=none→fstNil t ps' ps hps x):=by
 subst hps
 obtain⟨v,us,U1,U2,E1,E2,O1,O2,rfl,_,_,_,ha,_⟩:=h
 obtain⟨_,_,hv,_⟩:=ha
 obtain⟨A,n,c,hc,h1,h2,h3⟩:=hv
 simp only [cellsOf,List.cons.injEq,and_true]at hc
 refine⟨A,n,c,us,by rw [hc],fun hA => ?_⟩
 rcases h3 with h3 | ⟨b,o,_,_,_,_,_,h3,_⟩
 ·exact h3.1
 ·rw [hA]at h3;cases h3

theorem contractN{t:Ty}{ps':List PE}{g:FuncId}{fn:Func}{c:Code}{C:Cfg}{ps:List PE}{rs:List (Ty×Bool)}{F:Fn (CT (rs.map (·.1)++outs (ps.map (·.b))))}{nx:Nat}{f:PT (ps.map (·.b))→Option (CT (rs.map (·.1)++outs (ps.map (·.b))))}
  (hps:ps=⟨0,0,.val (.sl t) false,false⟩::ps') (hC:CfgOk C) (hF:F.C=C) (hfn:C.P.funcs[g]? = some fn) (hb:fn.body=some c) (hn:(fn.name == "runtime.NumGoroutine")=false) (hnt:C.ntmps=fn.ntmps) (hle:Nat.ble ps.length fn.ntmps=true) (hpar:parOk 0 ps=true)
  (hfin:F.fin=rdRes C.P ps rs fn.results.toList .ret) (hpins:F.pins=pinIds ps) (hnd:nodupB F.pins=true) (hann:AnnOk F c 1) (hmix:C.P.follows .mixedOrders=true)
  (hf1:∀x,evFnN false F c ps nx x=f x) (hf0:∀x:PTe ps,fstNil t ps' ps hps x→evFnN true F c ps nx x=f x):Contract C.P g ⟨ps.map (·.b),rs,f⟩:=by
 intro w x vs U E O r hA hO hU hlt hki hkr hr
 have hle:=Nat.le_of_ble_eq_true hle
 simp only at hA hr r
 obtain⟨pins,O',hok⟩:=args_ok hA hpar
 left
 refine⟨?_,?_⟩
 ·simp [callFunc,hfn,hb]
  simpa using hn
 ·have hpn:(pins.map (·.1)).Nodup:=by rw [hok.ids,←hpins];exact nodupB_run hnd
  refine calls_of_wp hfn hb ?_
  let X:Ctx:=⟨C,w,O.flatten++E,pins,hki,hkr⟩
  have hsz:vs.toArray.size=ps.length:=by simp [hok.len]
  let a0:Act:={ tmps:=vs.toArray++Array.replicate (fn.ntmps - vs.toArray.size) undef,defers := [] }
  have hmem:∀b,b∈O'↔b∈O.flatten++E:=fun b=>hok.perm.mem_iff
  have hpo:PatOk X ps x a0 w (pinF pins) U O':=by
   refine⟨hok.pat _ (pinF_mem hpn) _ ?_,fun b hb hm=>hU b hb ((hmem b).1 hm),fun b hb=>hlt b (List.mem_append.2 (.inl hb)),fun b hb=>hlt b (List.mem_append.2 (.inr ((hmem b).1 hb))),fun b hb => .inr ((hmem b).1 hb),
    hok.perm.nodup_iff.2 hO,fun q hq=>⟨pinF_mem hpn q hq,hok.nn q hq⟩,hok.pk,hok.pt,?_,rfl,fun _ _ _=>rfl,WLe.refl _⟩
   ·intro i v hv
    have hi:i<vs.length:=(List.getElem?_eq_some_iff.1 hv).1
    rw [Array.getD_eq_getD_getElem?,Array.getElem?_append_left (by simpa using by omega)]
    simp only [Nat.zero_add]
    simp [hv]
   ·simp only [a0,Array.size_append,Array.size_replicate]
    rw [hsz]
    show ps.length+(fn.ntmps - ps.length)=C.ntmps
    omega
  have hFO:FnOk X F (RetP C.P fn ps rs vs O w (O.flatten++E)):=by
   refine⟨hF,hC,by rw [hpins];exact hok.ids.symm,?_,hmix⟩
   intro σ ι a w' A K z hR h
   rw [Pg.runK_eq,hfin]at h
   obtain⟨q,hq,h⟩:=Option.bind_eq_some_iff.1 h
   obtain⟨y,us,G,σ1,h1,h2,h3,h4,h5,h6⟩:=rdRes_run (X:=X) (hok.at' ι (fun q hq=>(hR.pn q hq).1)) hR Free.nil hq
   simp only [Pg.run,Option.some.injEq]at h6
   subst h6
   simp only [List.nil_append]at h4 h5
   exact⟨y,⟨hR.df,us,G,results_run h1,h2,h3,h4.nd,h4.lt,h4.mu,h5,hR.fr,hR.le⟩,h⟩
  have hend:∀(r':CT (rs.map (·.1)++outs (ps.map (·.b)))) a w',RetP C.P fn ps rs vs O w (O.flatten++E) r' a w'→some r'=some r→bodyPost C.P fn (fun e w'=>∃us F,e = .returned (retV us)∧CompsR w' rs (csplit _ _ r).1 us F∧OutsR w' (ps.map (·.b)) (csplit _ _ r).2 vs O∧F.Nodup ∧
   (∀b∈F,(w.heap.size≤b∧b<w'.heap.size)∨b∈E)∧(∀b,b<w.heap.size→b ∉ O.flatten++E→w'.heap[b]? = w.heap[b]?)∧WLe w w') .ret a w':=by
   rintro r' a w' ⟨hd,us,G,h1,h2,h3,h4,h5,h6,h7,h8,h9⟩ he
   cases he
   refine⟨hd,_,h1,us,G,rfl,h2,h3,h4,fun b hb => ?_,h8,h9⟩
   rcases h6 b hb with h | h
   ·exact .inl ⟨h,h5 b hb⟩
   ·rcases List.mem_append.1 h with h | h
    ·exact absurd h (h7 b hb)
    ·exact .inr h
  obtain⟨A,n,c0,us0,hvs0,hAn⟩:=hdr_of hps hA
  have hfb:evFnN A.isNone F c ps nx x=f x:=by
   cases A with
   | none=>exact hf0 x (hAn rfl)
   | some _=>exact hf1 x
  rw [←hfb]at hr
  unfold evFnN at hr
  obtain⟨σ,ι,hR,h⟩:=mkK_run (X:=X) hF hpo hr
  split at h
  case h_2=>cases h
  rename_i id hT0
  have htm0:=hR.tm 0
  have hv0:a0.tmps.getD 0 undef = .slice A n c0:=by
   rw [Array.getD_eq_getD_getElem?,Array.getElem?_append_left (by simp [hvs0])]
   simp [hvs0]
  rw [hT0,hv0]at htm0
  obtain⟨A',n',c',F',hι,hv'⟩:=RAV_sc.1 htm0
  have hR:=hR.setT (d:=0) (v := .sc (.sn A.isNone id)) (by
   rw [hv0]
   cases hv'
   exact RAV_sc.2 ⟨_,_,_,_,hι,rfl,rfl⟩)
  refine ev_sound hFO c 1 hann hR h hend (fun e σ' nx' ι' a' w' hR' he => ?_)
  cases e with
  | normal =>
   obtain⟨r',h1,h2⟩:=hFO.fin hR' he
   exact hend r' a' w' h1 h2
  | exit i=>cases he
  | ret=>cases he
end Go.Ev
