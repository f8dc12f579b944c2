/- A part of a verified evaluator of the model's code: what it evaluates is what a call returns; no condition beyond the theorems' own hypotheses. -/
import Derived.Test.YtmlkiaicppkigaaGreatE1
import Derived.Laws.StructEq
import Derived.ChangeKeysEq
import Derived.Great.BuildSlice
import Derived.Laws.AppendOwn
set_option linter.unusedVariables false
set_option linter.unusedSectionVars false
namespace Go.Ev
open Go
variable [KSl]

section
variable {X : Ctx} {σ σ' : St} {ι : Nat → Home} {a : Act} {w : World} {α : Type} {o : Oper} {nid : Nat}

theorem allOnes_run:∀ {vs:List AV} {l:List (List Sc×Bool)} {us:List Value},allOnes vs=some l→F2 (RAV ι) vs us→F2 (RVs ι) l us
 | [],l,[],h,_=>by simp [allOnes]at h;subst h;trivial
 | .one c g::vs,l,u::us,h,hv=>by
  unfold allOnes at h
  split at h
  ·rename_i r hr
   cases h
   exact⟨hv.1,allOnes_run hr hv.2⟩
  ·cases h
 | .tup c::vs,l,u::us,h,hv=>by cases h

theorem op_makeFunc{f:FuncId}{first caps:Array Operand}(ho:o.op = .makeFunc (.func f) first caps)(hR:Rel X σ ι a w)(h:(opPg X.C nid o).run σ=some ((),σ')):Done X o σ' a w:=by
 simp only [opPg,ho]at h
 cases hz:Nat.beq first.size 0 with
 | false=>rw [hz]at h;cases h
 | true =>
  rw [hz]at h
  simp only [cond_true]at h
  have hf:first = #[]:=by have:=Nat.eq_of_beq_eq_true hz;exact Array.eq_empty_of_size_eq_zero this
  obtain⟨avs,hv,h⟩:=opnds_run hR h
  split at h
  ·rename_i l hl
   obtain⟨hu,h⟩:=newB_run h
   have hF:=allOnes_run hl hv
   have hR':=hR.newOwn hu (blk := .clo l) (home := .clo (caps.map a.eval)) (w':=w) (WLe.refl _) (fun _ _=>rfl) ⟨_,rfl,by simpa using hF⟩ rfl (by simp [Home.foot]) (by simp [Home.foot]) (by simp [Home.foot]) (by simp)
   refine Done.put hR' (v := .sc (.fn f nid)) (u := .func (.func f) #[] (caps.map a.eval)) (RAV_sc.2 ⟨_,upd_same _ _ _,rfl⟩) ?_ h
   simp [execOp,ho,Instr.makeFunc,hf]
  ·cases h

theorem intOp_run{op:BinOp}{q q':IntKind}{m n:Int}{put:AV→Pg α}{r:α×St}(h:(intOp op q m q' n put).run σ=some r)(P:Program)(t:TypeId)(x y:Operand)(w:World) :
  ∃v,(do eqGuard op t x y (.int q m) (.int q' n);binOp op t (.int q m) (.int q' n):Sem Value).run P w = .ok v w∧v.oneCell'=true∧(put (.sc (.v v))).run σ=some r:=by
 have hg:∀op,(eqGuard op t x y (.int q m) (.int q' n)).run P w = .ok () w:=by intro op;cases op <;> simp [eqGuard]
 have he:∀op,(do eqGuard op t x y (.int q m) (.int q' n);binOp op t (.int q m) (.int q' n):Sem Value).run P w=(binOp op t (.int q m) (.int q' n)).run P w:=by
  intro op;rw [Sem.run_bind,hg];rfl
 rw [he]
 unfold intOp at h
 cases op
 case shl =>
  simp only [Pg.run]at h
  cases hn:decide (n<0)with
  | true=>rw [hn]at h;cases h
  | false =>
   rw [hn]at h
   have hn:=of_decide_eq_false hn
   exact⟨_,by simp [binOp,Op.shift,hn],rfl,h⟩
 case shr =>
  simp only [Pg.run]at h
  cases hn:decide (n<0)with
  | true=>rw [hn]at h;cases h
  | false =>
   rw [hn]at h
   have hn:=of_decide_eq_false hn
   exact⟨_,by simp [binOp,Op.shift,hn],rfl,h⟩
 case quo =>
  simp only at h
  split at h
  ·rename_i e
   subst e
   simp only [Pg.run]at h
   cases hn:n==0 with
   | true=>rw [hn]at h;cases h
   | false =>
    rw [hn]at h
    have hn:n≠0:=by simpa using hn
    exact⟨_,by simp [binOp,Op.intDiv,hn],rfl,h⟩
  ·cases h
 case rem =>
  simp only at h
  split at h
  ·rename_i e
   subst e
   simp only [Pg.run]at h
   cases hn:n==0 with
   | true=>rw [hn]at h;cases h
   | false =>
    rw [hn]at h
    have hn:n≠0:=by simpa using hn
    exact⟨_,by simp [binOp,Op.intDiv,hn],rfl,h⟩
  ·cases h
 all_goals
  simp only at h
  split at h
  ·rename_i e
   subst e
   exact⟨_,by simp [binOp,Op.intArith,Op.intBits,Op.intCmp],rfl,h⟩
  ·cases h

theorem op_plain(hR:Rel X σ ι a w)(hs:∀cs b,o.op ≠ .select cs b)(h:(plainPg X.C o fun v=>putD X.C o.dst v (.ret ())).run σ=some ((),σ')):Done X o σ' a w:=by
 obtain⟨av',u,he,hv',h⟩:=plain_run hR hs h
 exact Done.put hR hv' he h

theorem eqFs_run{P:Program}{l l':List Sc}{xs ys:Array Value}(hl:F2 (RSc ι) l xs.toList)(hl':F2 (RSc ι) l' ys.toList){d:Nat}:∀ {fs:List Field} {b:Bool},eqFs P l l' fs=some b→(Op.eqFields (d+1) xs ys fs).run P w = .ok b w
 | [],b,h=>by cases h;simp [Op.eqFields]
 | f::fs,b,h=>by
  unfold eqFs at h
  cases hn:(f.name == "_")with
  | true=>rw [hn]at h;cases h
  | false =>
   rw [hn]at h
   simp only [cond_false]at h
   have hne:f.name ≠ "_" := by simpa using hn
   split at h
   ·rename_i q0 hu
    split at h
    ·rename_i q m q' n h1 h2
     split at h
     ·rename_i e
      subst e
      split at h
      ·rename_i r hr
       cases h
       obtain⟨u,hp1,hv1⟩:=part_part (w:=w) h1 hl
       obtain⟨u',hp2,hv2⟩:=part_part (w:=w) h2 hl'
       obtain⟨rfl,_⟩:=RAV_v.1 hv1
       obtain⟨rfl,_⟩:=RAV_v.1 hv2
       have ih:=eqFs_run hl hl' (d:=d) hr
       simp only [Op.eqFields]
       rw [if_pos hne,Sem.run_bind,hp1,Result.andThen_ok,Sem.run_bind,hp2,Result.andThen_ok,Sem.run_bind,run_equalIn_int w d f.type q q0 m n hu,Result.andThen_ok,Sem.run_ite]
       cases hb:(m==n)with
       | true=>simpa using ih
       | false=>simp
      ·cases h
     ·cases h
    ·cases h
   ·rename_i hu
    split at h
    ·rename_i m n h1 h2
     split at h
     ·rename_i r hr
      cases h
      obtain⟨u,hp1,hv1⟩:=part_part (w:=w) h1 hl
      obtain⟨u',hp2,hv2⟩:=part_part (w:=w) h2 hl'
      obtain⟨rfl,_⟩:=RAV_v.1 hv1
      obtain⟨rfl,_⟩:=RAV_v.1 hv2
      have ih:=eqFs_run hl hl' (d:=d) hr
      simp only [Op.eqFields]
      rw [if_pos hne,Sem.run_bind,hp1,Result.andThen_ok,Sem.run_bind,hp2,Result.andThen_ok,Sem.run_bind,run_equalIn_bool' w d f.type m n hu,Result.andThen_ok,Sem.run_ite]
      cases hb:(m==n)with
      | true=>simpa using ih
      | false=>simp
     ·cases h
    ·cases h
   ·cases h

theorem eqGs_run{P:Program}{l l':List Sc}{xs ys:Array Value}(hl:F2 (RSc ι) l xs.toList)(hl':F2 (RSc ι) l' ys.toList){d:Nat}:∀ {fs:List Field} {b:Bool},eqGs P l l' fs=some b→(Op.eqFields (d+2) xs ys fs).run P w = .ok b w
 | [],b,h=>by cases h;simp [Op.eqFields]
 | f::fs,b,h=>by
  unfold eqGs at h
  split at h
  ·rename_i gs hu
   cases hn:(f.name == "_" || P.stoodInHeld f.type)with
   | true=>rw [hn]at h;cases h
   | false =>
    rw [hn]at h
    simp only [cond_false]at h
    rw [Bool.or_eq_false_iff]at hn
    have hne:f.name ≠ "_" := by simpa using hn.1
    split at h
    ·rename_i m m' h1 h2
     split at h
     ·rename_i q r hq hr
      cases h
      obtain⟨u,hp1,hv1⟩:=part_part (w:=w) h1 hl
      obtain⟨u',hp2,hv2⟩:=part_part (w:=w) h2 hl'
      obtain⟨us,rfl,hu1⟩:=hv1
      obtain⟨us',rfl,hu2⟩:=hv2
      have ih:=eqGs_run hl hl' (d:=d) hr
      have hq2:=eqFs_run (w:=w) hu1 hu2 (d:=d) hq
      have hf:P.fieldsOf f.type=gs:=by simp [Program.fieldsOf,hu]
      have he:(Op.equalIn (d+2) f.type (.agg us) (.agg us')).run P w = .ok q w:=by
       rw [run_equalIn_struct w (d+1) f.type us us' (by rw [hf];exact hu) hn.2,hf]
       exact hq2
      simp only [Op.eqFields]
      rw [if_pos hne,Sem.run_bind,hp1,Result.andThen_ok,Sem.run_bind,hp2,Result.andThen_ok,Sem.run_bind,he,Result.andThen_ok,Sem.run_ite]
      cases q with
      | true=>simpa using ih
      | false=>simp
     ·cases h
    ·cases h
  ·rename_i q0 hu
   cases hn:(f.name == "_")with
   | true=>rw [hn]at h;cases h
   | false =>
    rw [hn]at h
    simp only [cond_false]at h
    have hne:f.name ≠ "_" := by simpa using hn
    split at h
    ·rename_i q m q' n h1 h2
     split at h
     ·rename_i e
      subst e
      split at h
      ·rename_i r hr
       cases h
       obtain⟨u,hp1,hv1⟩:=part_part (w:=w) h1 hl
       obtain⟨u',hp2,hv2⟩:=part_part (w:=w) h2 hl'
       obtain⟨rfl,_⟩:=RAV_v.1 hv1
       obtain⟨rfl,_⟩:=RAV_v.1 hv2
       have ih:=eqGs_run hl hl' (d:=d) hr
       simp only [Op.eqFields]
       rw [if_pos hne,Sem.run_bind,hp1,Result.andThen_ok,Sem.run_bind,hp2,Result.andThen_ok,Sem.run_bind,run_equalIn_int w (d+1) f.type q q0 m n hu,Result.andThen_ok,Sem.run_ite]
       cases hb:(m==n)with
       | true=>simpa using ih
       | false=>simp
      ·cases h
     ·cases h
    ·cases h
  ·rename_i hu
   cases hn:(f.name == "_")with
   | true=>rw [hn]at h;cases h
   | false =>
    rw [hn]at h
    simp only [cond_false]at h
    have hne:f.name ≠ "_" := by simpa using hn
    split at h
    ·rename_i m n h1 h2
     split at h
     ·rename_i r hr
      cases h
      obtain⟨u,hp1,hv1⟩:=part_part (w:=w) h1 hl
      obtain⟨u',hp2,hv2⟩:=part_part (w:=w) h2 hl'
      obtain⟨rfl,_⟩:=RAV_v.1 hv1
      obtain⟨rfl,_⟩:=RAV_v.1 hv2
      have ih:=eqGs_run hl hl' (d:=d) hr
      simp only [Op.eqFields]
      rw [if_pos hne,Sem.run_bind,hp1,Result.andThen_ok,Sem.run_bind,hp2,Result.andThen_ok,Sem.run_bind,run_equalIn_bool' w (d+1) f.type m n hu,Result.andThen_ok,Sem.run_ite]
      cases hb:(m==n)with
      | true=>simpa using ih
      | false=>simp
     ·cases h
    ·cases h
  ·cases h

theorem eqAs_run{P:Program}{e:TypeId}{l l':List Sc}{xs ys:Array Value}(hl:F2 (RSc ι) l xs.toList)(hl':F2 (RSc ι) l' ys.toList){d:Nat}{q0:IntKind}(hu:P.underlying e=some (.int q0)):∀ {is:List Nat} {b:Bool},eqAs P e l l' is=some b→(Op.eqItems (d+1) e (P.cellsOf e) xs ys is).run P w = .ok b w
 | [],b,h=>by cases h;simp [Op.eqItems]
 | i::is,b,h=>by
  unfold eqAs at h
  split at h
  ·rename_i q m q' n h1 h2
   split at h
   ·rename_i e
    subst e
    split at h
    ·rename_i r hr
     cases h
     obtain⟨u,hp1,hv1⟩:=part_part (w:=w) h1 hl
     obtain⟨u',hp2,hv2⟩:=part_part (w:=w) h2 hl'
     obtain⟨rfl,_⟩:=RAV_v.1 hv1
     obtain⟨rfl,_⟩:=RAV_v.1 hv2
     have ih:=eqAs_run hl hl' (d:=d) hu hr
     simp only [Op.eqItems]
     rw [Sem.run_bind,hp1,Result.andThen_ok,Sem.run_bind,hp2,Result.andThen_ok,Sem.run_bind,run_equalIn_int w d _ q q0 m n hu,Result.andThen_ok,Sem.run_ite]
     cases hb:(m==n)with
     | true=>simpa using ih
     | false=>simp
    ·cases h
   ·cases h
  ·cases h

theorem eqStruct_run{P:Program}{t:TypeId}{l l':List Sc}{xs ys:Array Value}(hl:F2 (RSc ι) l xs.toList)(hl':F2 (RSc ι) l' ys.toList){b:Bool}(h:eqStruct P t l l'=some b):P.eqGuardType P.depth t=false∧(Op.equalIn 10000 t (.agg xs) (.agg ys)).run P w = .ok b w:=by
 unfold eqStruct at h
 split at h
 ·rename_i fs hu
  cases hg:(P.stoodInHeld t||P.eqGuardType P.depth t)with
  | true=>rw [hg]at h;cases h
  | false =>
   rw [hg]at h
   simp only [cond_false]at h
   rw [Bool.or_eq_false_iff]at hg
   have hf:P.fieldsOf t=fs:=by simp [Program.fieldsOf,hu]
   refine⟨hg.2,?_⟩
   rw [show(10000:Nat)=9998+1+1 from rfl,run_equalIn_struct w (9998+1) t xs ys (by rw [hf];exact hu) hg.1,hf]
   split at h
   ·rename_i r hr
    cases h
    exact eqFs_run hl hl' hr
   ·exact eqGs_run (d:=9997) hl hl' h
 ·rename_i n e hu
  cases hg:(P.eqGuardType P.depth t||Nat.ble 17 n)with
  | true=>rw [hg]at h;cases h
  | false =>
   rw [hg]at h
   simp only [cond_false]at h
   rw [Bool.or_eq_false_iff]at hg
   refine⟨hg.1,?_⟩
   split at h
   ·rename_i q0 i hq hi
    rw [show(10000:Nat)=9998+1+1 from rfl,run_equalIn_array w (9998+1) xs ys hu hi]
    exact eqAs_run hl hl' hq h
   ·cases h
 ·cases h

theorem op_binOp{op:BinOp}{t ty:TypeId}{x y:Operand}(ho:o.op = .binOp op t x y ty)(hR:Rel X σ ι a w)(h:(opPg X.C nid o).run σ=some ((),σ')):Done X o σ' a w:=by
 simp only [opPg,ho]at h
 obtain⟨av,hv,h⟩:=opndR_run hR h
 obtain⟨av2,hv2,h⟩:=opnd_run hR h
 split at h
 ·obtain⟨hx,_⟩:=RAV_v.1 hv
  obtain⟨hy,_⟩:=RAV_v.1 hv2
  obtain⟨v,hv,h1,h⟩:=intOp_run h X.C.P t x y w
  refine Done.put hR (RAV_v.2 ⟨rfl,h1⟩) ?_ h
  simp only [execOp,ho,hx,hy]
  rw [Sem.run_bind,hv]
  rfl
 ·cases hs:sliceOf X.C.P t with
  | none=>cases op <;> simp only [hs]at h <;> cases h
  | some e =>
   by_cases hop:op = .eql
   ·subst hop
    simp only [hs]at h
    obtain⟨A,n,c,F,hι,hx,hA⟩:=RAV_sc.1 hv
    obtain⟨hy,_⟩:=RAV_v.1 hv2
    have hu:=sliceOf_run hs
    refine Done.put hR (RAV_v.2 ⟨rfl,rfl⟩) ?_ h
    subst hA
    have heq:(Op.equal t (.slice A n c) (.slice none 0 0)).run X.C.P w = .ok A.isNone w:=by
     unfold Op.equal Op.maxDepth Op.equalIn
     cases A <;> simp [underlying,hu]
    simp [execOp,ho,hx,hy,binOp,eqGuard,heq]
   ·exfalso
    cases op <;> first | exact hop rfl | (simp only at h;cases h)
 ·rename_i l l' _
  cases he:eqStruct X.C.P t l l' with
  | none =>
   rw [he]at h
   cases op <;> exact op_plain hR (by rw [ho];simp) h
  | some b =>
   rw [he]at h
   obtain⟨xs,hx,hl⟩:=hv
   obtain⟨ys,hy,hl'⟩:=hv2
   obtain⟨hg,hr⟩:=eqStruct_run (w:=w) hl hl' he
   cases op <;> first
    | exact op_plain hR (by rw [ho];simp) h
    | (
     refine Done.put hR (RAV_v.2 ⟨rfl,rfl⟩) ?_ h
     simp only [execOp,ho,hx,hy]
     rw [Sem.run_bind,Sem.run_bind,run_eqGuard_agg w _ t x y xs ys hg,Result.andThen_ok]
     first
      | rw [run_eql_struct,hr];rfl
      | rw [run_neq_struct,hr];rfl)
 ·rename_i sa sb _
  obtain⟨hx,_⟩:=RAV_v.1 hv
  obtain⟨hy,_⟩:=RAV_v.1 hv2
  cases op
  case add =>
   simp only [Pg.run]at h
   cases hl:decide (sa.size+sb.size<lim)with
   | false=>rw [hl]at h;cases h
   | true =>
    rw [hl]at h
    have hl:=of_decide_eq_true hl
    simp only [lim]at hl
    refine Done.put hR (RAV_v.2 ⟨rfl,rfl⟩) ?_ h
    have hn : ¬ ((sa.size+sb.size:Nat):Int)>IntKind.i64.max:=by
     have:IntKind.i64.max=9223372036854775807:=rfl
     rw [this];omega
    have hb:(binOp .add t (.string sa) (.string sb)).run X.C.P w = .ok (.string (sa++sb)) w:=by
     simp only [binOp,Op.stringOp]
     rw [if_neg hn];rfl
    simp [execOp,ho,hx,hy,eqGuard,hb]
  all_goals exact op_plain hR (by rw [ho];simp) h
 ·exact op_plain hR (by rw [ho];simp) h

theorem op_len{c:Call}(ho:o.op = .call c)(hc:c.callee = .builtin .len)(hR:Rel X σ ι a w)(h:(opPg X.C nid o).run σ=some ((),σ')):Done X o σ' a w:=by
 simp only [opPg,ho,hc]at h
 obtain⟨avs,hv,h⟩:=opnds_run hR h
 split at h
 ·split at h
  ·rename_i t ht
   split at h
   ·rename_i el hel
    have hargs:∃x,c.args.toList = [x]:=by
     cases hl:c.args.toList with
     | nil=>rw [hl]at hv;exact hv.elim
     | cons y l=>cases l with
      | nil=>exact⟨y,rfl⟩
      | cons z l=>rw [hl]at hv;exact hv.2.elim
    obtain⟨x,hx⟩:=hargs
    rw [hx]at hv
    have hxv:a.eval x=KSl.s:=(RAV_sc.1 hv.1:RSc ι .k (a.eval x))
    unfold KSl.s at hxv
    have hn:=hR.kin.1
    have hx0:c.args = #[x]:=by rw [←Array.toArray_toList (xs:=c.args),hx]
    have hu:=sliceOf_run hel
    refine Done.put hR (u := .int .i64 KSl.xs.length) (RAV_v.2 ⟨rfl,rfl⟩) ?_ h
    simp [execOp,ho,resolve,hc,hx0,invoke,builtin,Builtin.len_,ht,run_underlying hu,hxv,goInt,hn]
   ·cases h
  ·cases h
 ·rename_i id
  split at h
  ·rename_i t ht
   split at h
   ·rename_i el hel
    replace h:=getB_run h
    split at h
    ·rename_i ty xs own ver par hb
     obtain⟨hp,h⟩:=chkPar_run h
     have hargs:∃x,c.args.toList = [x]:=by
      cases hl:c.args.toList with
      | nil=>rw [hl]at hv;exact hv.elim
      | cons y l=>cases l with
       | nil=>exact⟨y,rfl⟩
       | cons z l=>rw [hl]at hv;exact hv.2.elim
     obtain⟨x,hx⟩:=hargs
     rw [hx]at hv
     obtain⟨⟨A,n,c',F,e,hxv⟩,_⟩:=(⟨RAV_sc.1 hv.1,trivial⟩:RSc ι (.sl id) (a.eval x)∧True)
     have hr:=row_of hR hb hp e
     have hn:=hr.1
     have hx0:c.args = #[x]:=by rw [←Array.toArray_toList (xs:=c.args),hx]
     have hu:=sliceOf_run hel
     refine Done.put hR (u := .int .i64 xs.length) (RAV_v.2 ⟨rfl,rfl⟩) ?_ h
     simp [execOp,ho,resolve,hc,hx0,invoke,builtin,Builtin.len_,ht,run_underlying hu,hxv,goInt,hn]
    ·rename_i ty xs ys own ver par hb
     obtain⟨hp,h⟩:=chkPar_run h
     have hargs:∃x,c.args.toList = [x]:=by
      cases hl:c.args.toList with
      | nil=>rw [hl]at hv;exact hv.elim
      | cons y l=>cases l with
       | nil=>exact⟨y,rfl⟩
       | cons z l=>rw [hl]at hv;exact hv.2.elim
     obtain⟨x,hx⟩:=hargs
     rw [hx]at hv
     obtain⟨⟨A,n,c',F,e,hxv⟩,_⟩:=(⟨RAV_sc.1 hv.1,trivial⟩:RSc ι (.sl id) (a.eval x)∧True)
     have hn:=(win_of hR hb hp e).1
     have hx0:c.args = #[x]:=by rw [←Array.toArray_toList (xs:=c.args),hx]
     have hu:=sliceOf_run hel
     refine Done.put hR (u := .int .i64 xs.length) (RAV_v.2 ⟨rfl,rfl⟩) ?_ h
     simp [execOp,ho,resolve,hc,hx0,invoke,builtin,Builtin.len_,ht,run_underlying hu,hxv,goInt,hn]
    ·rename_i ty xs kk hb
     have hargs:∃x,c.args.toList = [x]:=by
      cases hl:c.args.toList with
      | nil=>rw [hl]at hv;exact hv.elim
      | cons y l=>cases l with
       | nil=>exact⟨y,rfl⟩
       | cons z l=>rw [hl]at hv;exact hv.2.elim
     obtain⟨x,hx⟩:=hargs
     rw [hx]at hv
     obtain⟨⟨A,n,c',F,e,hxv⟩,_⟩:=(⟨RAV_sc.1 hv.1,trivial⟩:RSc ι (.sl id) (a.eval x)∧True)
     have hbl:=hR.bl id
     rw [hb]at hbl
     obtain⟨A',n',c2,L',h1,hh⟩:=hbl
     rw [e]at h1
     cases h1
     have hn:=hh.1
     have hx0:c.args = #[x]:=by rw [←Array.toArray_toList (xs:=c.args),hx]
     have hu:=sliceOf_run hel
     refine Done.put hR (u := .int .i64 xs.length) (RAV_v.2 ⟨rfl,rfl⟩) ?_ h
     simp [execOp,ho,resolve,hc,hx0,invoke,builtin,Builtin.len_,ht,run_underlying hu,hxv,goInt,hn]
    ·cases h
   ·cases h
  ·cases h
 ·rename_i id m
  split at h
  ·rename_i t ht
   split at h
   ·rename_i el hel
    have hargs:∃x,c.args.toList = [x]:=by
     cases hl:c.args.toList with
     | nil=>rw [hl]at hv;exact hv.elim
     | cons y l=>cases l with
      | nil=>exact⟨y,rfl⟩
      | cons z l=>rw [hl]at hv;exact hv.2.elim
    obtain⟨x,hx⟩:=hargs
    rw [hx]at hv
    obtain⟨b,_,hxv⟩:=RAV_sc.1 hv.1
    have hx0:c.args = #[x]:=by rw [←Array.toArray_toList (xs:=c.args),hx]
    have hu:=sliceOf_run hel
    refine Done.put hR (u := .int .i64 m) (RAV_v.2 ⟨rfl,rfl⟩) ?_ h
    simp [execOp,ho,resolve,hc,hx0,invoke,builtin,Builtin.len_,ht,run_underlying hu,hxv,goInt]
   ·cases h
  ·cases h
 ·exact op_plain hR (by rw [ho];simp) h

theorem Rel.write(hR:Rel X σ ι a w){id b:Nat}(he:(σ.H id).excl=true)(hbf:b∈(ι id).foot){blk:Blk}{w':World}
  (hsz:w'.heap.size=w.heap.size) (hio:w'.os=w.os∧w'.output=w.output∧w'.tape=w.tape) (hw:∀k,k≠b→w'.heap[k]? = w.heap[k]?)
  (hb:RBlk (σ.setH id blk).H w' ι blk (ι id)) (hp:blk.par = []) (hnb:blk ≠ .unborn)
  (hst:∀j,ParOk (σ.setH id blk).H (σ.H j).par→id ∉ (σ.H j).par.map (·.1))
  (hpv:∀j,∀q∈(σ.H j).par,q.1=id→∀v,blk.ver? = some v→q.2≤v):Rel X (σ.setH id blk) ι a w':=by
 have hl:=live_of_excl he
 have hP:∀j,ParOk (σ.setH id blk).H (σ.H j).par→ParOk σ.H (σ.H j).par:=by
  intro j h q hq
  have:=h q hq
  rwa [setH_ne σ blk (fun e=>hst j h (List.mem_map.2 ⟨q,hq,e⟩))]at this
 refine hR.change (D:=fun k=>k=b) (N:=fun j=>j=id) rfl (fun _ _=>rfl) ⟨Nat.le_of_eq hsz.symm,hio.1,hio.2.1,hio.2.2⟩ (fun k _ hk=>hw k hk)
  (fun k hk hk0=>by subst hk;rcases hR.mu id he k hbf with h | h;omega;exact h) (fun j hj=>⟨setH_ne σ blk hj,rfl⟩)
  (fun j hj hl hp k hk hkb=>by subst hkb;exact hR.sep id j (fun e=>hj e.symm) he hl (hP j hp) (hst j hp) k hbf hk) (fun j hj h=>hP j h) ?_ ?_ ?_ ?_ ?_ ?_
 ·rintro j rfl
  rw [setH_same]
  exact⟨hb,fun _ k hk=>by rw [hsz];exact hR.lt _ hl k hk,fun _=>⟨hR.nd _ he,hR.mu _ he,hp⟩⟩
 ·rintro i j rfl hj hi hl' hp' hr k hk
  exact hR.sep _ j (fun e=>hj e.symm) he hl' (hP j hp') hr k hk
 ·rintro i j hi rfl hi' hl' hp' hr k hk
  exact hR.sep i _ hi hi' hl (by rw [hR.po _ he];intro q hq;simp at hq) (by rw [hR.po _ he];simp) k hk
 ·rintro i j hij rfl rfl
  exact absurd rfl hij
 ·intro j q hq
  by_cases hj:j=id
  ·subst hj;rw [setH_same,hp]at hq;simp at hq
  ·rw [setH_ne σ blk hj]at hq
   by_cases e:q.1=id
   ·rw [e,setH_same];exact hnb
   ·rw [setH_ne σ blk e];exact hR.pb j q hq
 ·intro j q hq ver hh
  by_cases hj:j=id
  ·subst hj;rw [setH_same,hp]at hq;simp at hq
  ·rw [setH_ne σ blk hj]at hq
   by_cases e:q.1=id
   ·rw [e,setH_same]at hh
    exact hpv j q hq e ver hh
   ·rw [setH_ne σ blk e]at hh;exact hR.pv j q hq ver hh

theorem setS_eq:∀(v l:List Sc) (off:Nat),off+v.length≤l.length→setS l off v=l.take off++v++l.drop (off+v.length)
 | [],l,off,h=>by simp [setS]
 | c::v,l,off,h=>by
  simp only [setS]
  simp at h
  rw [setS_eq v (l.set off c) (off+1) (by simp;omega)]
  have e1:(l.set off c).take (off+1)=l.take off ++ [c]:=by
   rw [List.take_succ_eq_append_getElem (by simp;omega)]
   congr 1
   ·rw [List.take_set];apply List.set_eq_of_length_le;simp;exact Nat.min_le_left _ _
   ·simp
  have e2:(l.set off c).drop (off+1+v.length)=l.drop (off+1+v.length):=by
   rw [List.drop_set];simp;omega
  rw [e1,e2]
  simp [Nat.add_assoc,Nat.add_comm 1]

theorem szIs_run{P:Program}{t:TypeId}{n:Nat}(h:szIs P t n=true):sizeB P t=some n:=by
 unfold szIs at h
 split at h
 ·rename_i sz hs;rw [hs,Nat.eq_of_beq_eq_true h]
 ·cases h

theorem F2_one{l:List Sc}{vs:List Value}(h:F2 (RSc ι) l vs)(ht:noTops l=true):∀v∈vs,v.oneCell'=true:=by
 induction l generalizing vs with
 | nil=>cases vs with
  | nil=>simp
  | cons _ _=>exact h.elim
 | cons c l ih=>cases vs with
  | nil=>exact h.elim
  | cons v vs =>
   have h1:c ≠ .top∧c ≠ .und∧noTops l=true:=by cases c <;> simp_all [noTops]
   intro u hu
   rcases List.mem_cons.1 hu with rfl | hu
   ·exact RSc_one h.1 (by have:=h1.1;have:=h1.2.1;cases c <;> simp_all [notTop])
   ·exact ih h.2 h1.2.2 u hu

theorem RVs_store{l:List Sc}{g:Bool}{v:Value}(h:RVs ι (l,g) v)(ht:noTops l=true):F2 (RSc ι) l v.cells.toList∧v.cells.size=l.length∧∀u∈v.cells.toList,u.oneCell'=true:=by
 have h1:(g||notTop l)=true:=by
  cases g with
  | true=>rfl
  | false =>
   obtain⟨c,rfl,h⟩:=h
   cases c <;> simp_all [noTops,notTop]
 obtain⟨h2,h3⟩:=RVs_cells h h1
 exact⟨h2,h3,F2_one h2 ht⟩

theorem setRow_arr{w:World}{b:Nat}{arr cs:Array Value}{e:TypeId}{fr:Nat×Nat}(h:w.heap[b]? = some (.cells arr e fr)):(w.setRow b cs).heap[b]? = some (.cells cs e fr):=setRow_heap w b arr cs e fr h

theorem run_storeVar{P:Program}{t:TypeId}{v:Value}{b off:Nat}{arr:Array Value}{e:TypeId}(hs:sizeB P t=some v.cells.size)(h:w.heap[b]? = some (.cells arr e (0,0)))
  (hl:off+v.cells.size≤arr.size) (h1:∀u∈v.cells.toList,u.oneCell'=true) :
  (storeVar t ⟨b,off,none⟩ v).run P w = .ok () (w.setRow b (arr.toList.take off++v.cells.toList++arr.toList.drop (off+v.cells.size)).toArray):=by
 have:=run_storeCells_at P b off e v.cells.toList 0 arr w h (by simpa using hl) h1
 simp [storeVar,run_sizeB hs]
 simpa using this

theorem seg_get{β:Type}{L vc:List β}{p:Nat}(h:p+vc.length≤L.length)(q:Nat) :
  (L.take p++vc++L.drop (p+vc.length))[q]? = if p≤q∧q<p+vc.length then vc[q - p]? else L[q]? := by
 rw [List.append_assoc,List.getElem?_append]
 have hp:(L.take p).length=p:=by rw [List.length_take];omega
 rw [hp]
 by_cases h1:q<p
 ·have h2 : ¬ (p≤q∧q<p+vc.length):=by omega
  rw [if_pos h1,if_neg h2,List.getElem?_take,if_pos h1]
 ·rw [if_neg h1,List.getElem?_append]
  by_cases h2:q<p+vc.length
  ·rw [if_pos (by omega),if_pos (by omega)]
  ·rw [if_neg (by omega),if_neg (by omega),List.getElem?_drop]
   congr 1
   omega

theorem seg_slice_other{β:Type}{L vc:List β}{p s n:Nat}(h:p+vc.length≤L.length)(hd:s+n≤p∨p+vc.length≤s) :
  ((L.take p++vc++L.drop (p+vc.length)).drop s).take n=(L.drop s).take n:=by
 apply List.ext_getElem?
 intro i
 rw [List.getElem?_take,List.getElem?_take]
 split
 ·rw [List.getElem?_drop,List.getElem?_drop,seg_get h,if_neg (by omega)]
 ·rfl

theorem seg_slice_same{β:Type}{L vc:List β}{p s n j:Nat}(h:s+n≤L.length)(hp:p=s+j)(hj:j+vc.length≤n) :
  ((L.take p++vc++L.drop (p+vc.length)).drop s).take n=((L.drop s).take n).take j++vc++((L.drop s).take n).drop (j+vc.length):=by
 have hlen:((L.drop s).take n).length=n:=by rw [List.length_take,List.length_drop];omega
 apply List.ext_getElem?
 intro i
 rw [seg_get (by omega)]
 rw [List.getElem?_take]
 split
 ·rename_i hi
  rw [List.getElem?_drop,seg_get (by omega)]
  by_cases h1:j≤i∧i<j+vc.length
  ·rw [if_pos h1,if_pos (by omega)]
   congr 1
   omega
  ·rw [if_neg h1,if_neg (by omega),List.getElem?_take,if_pos hi,List.getElem?_drop]
 ·rw [if_neg (by omega),List.getElem?_eq_none (by omega)]

theorem unT_flat{own own':Bool}{par:List (Nat×Nat)}:∀ {t:Ty} {x:t.T} {cs:List Value} {F:List Nat} {nid:Nat},t.flat=true→RE own w t x cs F→F2 (RSc ι) (unT own' par t x nid).1 cs
 | .unit,x,cs,F,nid,_,h=>by rw [h.1];trivial
 | .int q,x,cs,F,nid,_,h=>by rw [h.1];exact⟨⟨rfl,rfl⟩,trivial⟩
 | .bool,x,cs,F,nid,_,h=>by rw [h.1];exact⟨⟨rfl,rfl⟩,trivial⟩
 | .str,x,cs,F,nid,_,h=>by rw [h.1];exact⟨⟨rfl,rfl⟩,trivial⟩
 | .ks,x,cs,F,nid,_,h=>by rw [h.1];exact⟨rfl,trivial⟩
 | .pair ta tb,x,cs,F,nid,hf,h=>by
  obtain⟨c1,c2,F1,F2,rfl,rfl,h1,h2⟩:=h
  simp [Ty.flat]at hf
  exact F2_append (unT_flat hf.1 h1) (unT_flat hf.2 h2)
 | .sl t,x,cs,F,nid,hf,h=>by simp [Ty.flat]at hf
 | .rm t,x,cs,F,nid,hf,h=>by simp [Ty.flat]at hf

theorem RR_set{ty:Ty}{xs:List ty.T}{b o' n c:Nat}{F:List Nat}{i:Nat}(hr:RR true w ty xs (some ⟨b,o',none⟩) n c F)(hi:i<n)(hfl:ty.flat=true) :
  ∃arr e,w.heap[b]? = some (.cells arr e (0,0))∧(o'+i*ty.size+ty.size≤arr.size∧b∈F)∧RE true w ty (xs.getD i ty.dflt) ((arr.toList.drop (o'+i*ty.size)).take ty.size) [] ∧
   ∀(x':ty.T) (vc:List Value) (j:Nat),j+vc.length≤ty.size →
    ∀F1,RE false w ty x' (((arr.toList.drop (o'+i*ty.size)).take ty.size).take j++vc++((arr.toList.drop (o'+i*ty.size)).take ty.size).drop (j+vc.length)) F1 →
    RR true (w.setRow b (arr.toList.take (o'+i*ty.size+j)++vc++arr.toList.drop (o'+i*ty.size+j+vc.length)).toArray) ty (xs.set i x') (some ⟨b,o',none⟩) n c F:=by
 obtain⟨hn,hc,h | ⟨b1,o1,arr,e,fr,Fs,G,hA,hb,hf,hs,hF,hG,hl,hel⟩⟩:=hr
 ·rw [h.1]at hn;simp at hn;omega
 ·cases hA
  have hx:i<xs.length:=by omega
  have hFi:i<Fs.length:=by omega
  have hmul:(i+1)*ty.size≤c*ty.size:=Nat.mul_le_mul_right _ (by omega)
  have hfr:=hf rfl
  subst hfr
  simp only [if_true]at hs
  rw [Nat.add_mul,Nat.one_mul]at hmul
  have h0:=hel i xs[i] Fs[i] (List.getElem?_eq_getElem hx) (List.getElem?_eq_getElem hFi)
  have hFs0:=RE_flat hfl h0
  rw [hFs0]at h0
  refine⟨arr,e,hb,⟨by omega,by rw [hF];simp⟩,by rw [List.getD_eq_getElem?_getD,List.getElem?_eq_getElem hx];exact h0,fun x' vc j hj F1 hre => ?_⟩
  refine⟨by simpa using hn,hc,.inr ⟨b,o',_,e,(0,0),Fs,G,rfl,setRow_arr hb,fun _=>rfl,?_,hF,by rw [setRow_size];exact hG,by simpa using hl,?_⟩⟩
  ·simp
   omega
  ·intro k x Fk hxk hFk
   have hk:k<Fs.length:=(List.getElem?_eq_some_iff.1 hFk).1
   simp only
   by_cases hki:k=i
   ·subst hki
    rw [List.getElem?_set_self (by omega)]at hxk
    cases hxk
    rw [List.getElem?_eq_getElem hFi,hFs0]at hFk
    cases hFk
    rw [seg_slice_same (by simp;omega) rfl hj]
    have:=RE_flat hfl hre
    rw [this]at hre
    exact RE_flat_own hfl hre
   ·rw [List.getElem?_set_ne (fun e=>hki e.symm)]at hxk
    rw [seg_slice_other (by simp;omega) (by
     rcases Nat.lt_or_gt_of_ne hki with hlt | hgt
     ·left
      have:(k+1)*ty.size≤i*ty.size:=Nat.mul_le_mul_right _ hlt
      rw [Nat.add_mul,Nat.one_mul]at this
      omega
     ·right
      have:(i+1)*ty.size≤k*ty.size:=Nat.mul_le_mul_right _ hgt
      rw [Nat.add_mul,Nat.one_mul]at this
      omega)]
    exact RE_flat_own hfl (hel k x Fk hxk hFk)

theorem Rel.freeWrite(hR:Rel X σ ι a w){F:List Nat}(hF:Free X σ ι w F){b:Nat}(hb:b∈F){w':World}(hsz:w'.heap.size=w.heap.size)(hio:w'.os=w.os∧w'.output=w.output∧w'.tape=w.tape)(hw:∀k,k≠b→w'.heap[k]? = w.heap[k]?) :
  Rel X σ ι a w'∧Free X σ ι w' F:=by
 refine⟨hR.change (D:=fun k=>k=b) (N:=fun _=>False) rfl (fun _ _=>rfl) ⟨Nat.le_of_eq hsz.symm,hio.1,hio.2.1,hio.2.2⟩ (fun k _ hk=>hw k hk)
  (fun k hk hk0=>by subst hk;rcases hF.mu k hb with h | h;omega;exact h) (fun j hj=>⟨rfl,rfl⟩)
  (fun j _ hl hp k hk hkb=>by subst hkb;exact hF.away j hl hp k hb hk) (fun _ _ h=>h) (fun _ h=>h.elim) (fun _ _ h=>h.elim) (fun _ _ _ h=>h.elim) (fun _ _ _ h=>h.elim) hR.pb hR.pv,
  ⟨hF.away,fun k hk=>by rw [hsz];exact hF.lt k hk,hF.mu,hF.nd⟩⟩

theorem RR_setG{ty:Ty}{xs:List ty.T}{b o' n c:Nat}{F:List Nat}{i:Nat}(hr:RR true w ty xs (some ⟨b,o',none⟩) n c F)(hi:i<n) :
  ∃(arr:Array Value) (e:TypeId) (Fs:List (List Nat)) (G:List Nat) (hFi:i<Fs.length) (hx:i<xs.length),w.heap[b]? = some (.cells arr e (0,0))∧o'+i*ty.size+0+ty.size≤arr.size∧F=b::(Fs.flatten++G)∧RE true w ty xs[i] ((arr.toList.drop (o'+i*ty.size)).take ty.size) Fs[i] ∧
   ∀(F':List Nat) (x':ty.T) (vc:List Value),(b::((Fs.set i F').flatten++G)).Nodup→vc.length=ty.size→RE true w ty x' vc F' →
    RR true (w.setRow b (arr.toList.take (o'+i*ty.size+0)++vc++arr.toList.drop (o'+i*ty.size+0+vc.length)).toArray) ty (xs.set i x') (some ⟨b,o',none⟩) n c (b::((Fs.set i F').flatten++G)):=by
 obtain⟨hn,hc,h | ⟨b1,o1,arr,e,fr,Fs,G,hA,hb,hf,hs,hF,hG,hl,hel⟩⟩:=hr
 ·rw [h.1]at hn;simp at hn;omega
 ·cases hA
  have hx:i<xs.length:=by omega
  have hFi:i<Fs.length:=by omega
  have hmul:(i+1)*ty.size≤c*ty.size:=Nat.mul_le_mul_right _ (by omega)
  have hfr:=hf rfl
  subst hfr
  simp only [if_true]at hs
  rw [Nat.add_mul,Nat.one_mul]at hmul
  refine⟨arr,e,Fs,G,hFi,hx,hb,by omega,hF,hel i _ _ (List.getElem?_eq_getElem hx) (List.getElem?_eq_getElem hFi),fun F' x' vc hnd1 hvc hre => ?_⟩
  have hbn:=(List.nodup_cons.1 hnd1).1
  refine⟨by simpa using hn,hc,.inr ⟨b,o',_,e,(0,0),Fs.set i F',G,rfl,setRow_arr hb,fun _=>rfl,?_,rfl,by rw [setRow_size];exact hG,by simpa using hl,?_⟩⟩
  ·simp
   omega
  ·intro k x Fk hxk hFk
   have hk:k<(Fs.set i F').length:=(List.getElem?_eq_some_iff.1 hFk).1
   have hbk:∀z∈Fk,(w.setRow b (arr.toList.take (o'+i*ty.size+0)++vc++arr.toList.drop (o'+i*ty.size+0+vc.length)).toArray).heap[z]? = w.heap[z]? := fun z hz=>setRow_other _ _ _ _ (by
    rintro rfl
    exact hbn (List.mem_append.2 (.inl (List.mem_flatten.2 ⟨Fk,List.mem_of_getElem? hFk,hz⟩))))
   simp only
   by_cases hki:k=i
   ·subst hki
    rw [List.getElem?_set_self (by omega)]at hxk hFk
    cases hxk
    cases hFk
    have:=seg_slice_same (L:=arr.toList) (vc:=vc) (p:=o'+k*ty.size+0) (s:=o'+k*ty.size) (n:=ty.size) (j:=0) (by simp;omega) rfl (by omega)
    rw [this]
    have hd:List.drop (0+vc.length) (List.take ty.size (List.drop (o'+k*ty.size) arr.toList)) = []:=by
     apply List.drop_eq_nil_of_le
     rw [List.length_take];omega
    rw [hd]
    simp only [List.take_zero,List.nil_append,List.append_nil]
    exact RE_frame hbk hre
   ·rw [List.getElem?_set_ne (fun e=>hki e.symm)]at hxk hFk
    rw [seg_slice_other (by simp;omega) (by
     rcases Nat.lt_or_gt_of_ne hki with hlt | hgt
     ·left
      have:(k+1)*ty.size≤i*ty.size:=Nat.mul_le_mul_right _ hlt
      rw [Nat.add_mul,Nat.one_mul]at this
      omega
     ·right
      have:(i+1)*ty.size≤k*ty.size:=Nat.mul_le_mul_right _ hgt
      rw [Nat.add_mul,Nat.one_mul]at this
      omega)]
    exact RE_frame hbk (hel k x Fk hxk hFk)

theorem RR_setO{ty:Ty}{xs:List ty.T}{b o' n c:Nat}{F F':List Nat}{i:Nat}(hr:RR true w ty xs (some ⟨b,o',none⟩) n c F)(hi:i<n)(hnd:(F++F').Nodup) :
  ∃arr e Fn,w.heap[b]? = some (.cells arr e (0,0))∧o'+i*ty.size+0+ty.size≤arr.size∧b∈F∧(∀k∈Fn,k∈F++F')∧Fn.Nodup ∧
   ∀(x':ty.T) (vc:List Value),vc.length=ty.size→RE true w ty x' vc F' →
    RR true (w.setRow b (arr.toList.take (o'+i*ty.size+0)++vc++arr.toList.drop (o'+i*ty.size+0+vc.length)).toArray) ty (xs.set i x') (some ⟨b,o',none⟩) n c Fn:=by
 obtain⟨arr,e,Fs,G,hFi,hx,hb,hsz,hF,_,hset⟩:=RR_setG hr hi
 have eFs:Fs=Fs.take i++Fs[i]::Fs.drop (i+1):=by rw [List.getElem_cons_drop,List.take_append_drop]
 have eset:Fs.set i F'=Fs.take i++F'::Fs.drop (i+1):=by rw [List.set_eq_take_append_cons_drop,if_pos hFi]
 have hperm:(F++F').Perm ((b::((Fs.set i F').flatten++G))++Fs[i]):=by
  rw [hF,eset]
  conv=>lhs;rw [eFs]
  simp only [List.flatten_append,List.flatten_cons,List.cons_append,List.append_assoc]
  refine List.Perm.cons b (List.Perm.append_left _ ?_)
  have key:∀(a m d:List Nat),(a++(m++d)).Perm (d++(m++a)):=fun a m d=>List.perm_append_comm.trans (by rw [←List.append_assoc d];exact List.Perm.append_right a List.perm_append_comm)
  have h1:=key Fs[i] ((Fs.drop (i+1)).flatten++G) F'
  simpa only [List.append_assoc] using h1
 have hnd':=hperm.nodup_iff.1 hnd
 have hnd1:=(List.nodup_append.1 hnd').1
 exact⟨arr,e,b::((Fs.set i F').flatten++G),hb,hsz,by rw [hF];simp,fun k hk=>hperm.mem_iff.2 (List.mem_append.2 (.inl hk)),hnd1,fun x' vc hvc hre=>hset F' x' vc hnd1 hvc hre⟩

theorem flatStore_run{ty:Ty}{xs:List ty.T}{ver id i j b o' n c nid:Nat}{F:List Nat}{v:List Sc}{k:Pg α}{r:α×St}{t:TypeId}{u:Value}(hR:Rel X σ ι a w)(hb:σ.H id = .row ty xs true ver [])(e:ι id = .row (some ⟨b,o',none⟩) n c F)(hi:i<n)
  (hfl:ty.flat=true) (hcells:F2 (RSc ι) v u.cells.toList) (hlen:u.cells.size=v.length) (hsz:sizeB X.C.P t=some u.cells.size) (h1:∀z∈u.cells.toList,z.oneCell'=true) (h:(flatStore nid id ty xs ver i j v k).run σ=some r) :
  ∃σ2 w2,Rel X σ2 ι a w2∧k.run σ2=some r∧(storeVar t ⟨b,o'+i*ty.size+j,none⟩ u).run X.C.P w=Result.ok () w2∧(∀q,q≠b→w2.heap[q]? = w.heap[q]?)∧b∈F∧w2.heap.size=w.heap.size∧(∃x',σ2=σ.setH id (.row ty x' true (ver+1) [])):=by
 unfold flatStore at h
 cases hle:Nat.ble (j+v.length) ty.size with
 | false=>rw [hle]at h;cases h
 | true =>
  rw [hle]at h
  simp only [cond_true]at h
  have hle:=Nat.le_of_ble_eq_true hle
  have hr:=row_of hR hb (chk_none rfl) e
  obtain⟨arr,e',hh,hbnd,helem,hset⟩:=RR_set hr hi hfl
  have hF0:F2 (RSc ι) (unT false [] ty (xs.getD i ty.dflt) nid).1 ((arr.toList.drop (o'+i*ty.size)).take ty.size):=unT_flat hfl helem
  have hul:=F2_len hF0
  have hcl:((arr.toList.drop (o'+i*ty.size)).take ty.size).length=ty.size:=RE_len helem
  have hF1:F2 (RSc ι) (setS (unT false [] ty (xs.getD i ty.dflt) nid).1 j v) (((arr.toList.drop (o'+i*ty.size)).take ty.size).take j++u.cells.toList++((arr.toList.drop (o'+i*ty.size)).take ty.size).drop (j+v.length)):=by
   rw [setS_eq _ _ _ (by omega)]
   exact F2_append (F2_append (F2_take j hF0) hcells) (F2_drop _ hF0)
  obtain⟨x',rest,us,vs1,vs2,F1,hvs,hrest,hre,_,h⟩:=rdT_run hR h hF1
  split at h
  ·cases vs2 with
   | cons _ _=>exact hrest.elim
   | nil =>
    rw [List.append_nil]at hvs
    simp only [Pg.run]at h
    have hrun:=run_storeVar (P:=X.C.P) (off:=o'+i*ty.size+j) hsz hh (by omega) h1
    have hnew:=hset x' (u.cells.toList) j (by simp;omega) _ (by
     rw [Array.length_toList,hlen,hvs]
     exact hre)
    rw [Array.length_toList]at hnew
    have hR':=hR.write (id:=id) (b:=b) (by rw [hb];rfl) (by rw [e];exact hbnd.2) (blk := .row ty (xs.set i x') true (ver+1) [])
     (w':=w.setRow b (arr.toList.take (o'+i*ty.size+j)++u.cells.toList++arr.toList.drop (o'+i*ty.size+j+u.cells.size)).toArray) (setRow_size _ _ _) ⟨rfl,rfl,rfl⟩ (fun k hk=>setRow_other _ _ _ _ hk)
     (by
      rw [e]
      exact⟨_,_,_,_,rfl,fun _=>hnew⟩) rfl (by simp)
     (fun j' hp hm=>by
      obtain⟨q,hq,rfl⟩:=List.mem_map.1 hm
      obtain⟨t,x,p,hh⟩:=hp q hq
      rw [setH_same]at hh
      injection hh with _ _ _ hv2 _
      have:=hR.pv j' q hq ver (by rw [hb];rfl)
      omega) (fun j' q hq hqi ver' hh=>by
      simp only [Blk.ver?,Option.some.injEq]at hh
      have:=hR.pv j' q hq ver (by rw [hqi,hb];rfl)
      omega)
    exact⟨_,_,hR',h,hrun,fun q hq=>setRow_other _ _ _ _ hq,hbnd.2,setRow_size _ _ _,_,rfl⟩
  ·cases h

end
end Go.Ev
namespace Go.Ev
open Go
variable [KSl]

section
variable {X : Ctx} {σ σ' : St} {ι : Nat → Home} {a : Act} {w : World} {α : Type} {o : Oper} {nid : Nat}

def RowL(own:Bool)(w:World)(t:Ty)(xs:List t.T)(cs:List Value)(Fs:List (List Nat)):Prop :=
 cs.length=xs.length*t.size∧Fs.length=xs.length∧∀i x Fi,xs[i]? = some x→Fs[i]? = some Fi→RE own w t x ((cs.drop (i*t.size)).take t.size) Fi

theorem RowL.nil{own:Bool}{t:Ty}:RowL own w t [] [] []:=⟨by simp,rfl,fun i x Fi h=>by simp at h⟩

theorem RowL.append{own:Bool}{t:Ty}{xs ys:List t.T}{cs ds:List Value}{Fs Gs:List (List Nat)}(h:RowL own w t xs cs Fs)(h':RowL own w t ys ds Gs):RowL own w t (xs++ys) (cs++ds) (Fs++Gs):=by
 refine⟨by simp [h.1,h'.1,Nat.add_mul],by simp [h.2.1,h'.2.1],fun i x Fi hx hF => ?_⟩
 by_cases hi:i<xs.length
 ·rw [List.getElem?_append_left hi]at hx
  rw [List.getElem?_append_left (by rw [h.2.1];exact hi)]at hF
  have:=h.2.2 i x Fi hx hF
  have hm:(i+1)*t.size≤xs.length*t.size:=Nat.mul_le_mul_right _ hi
  rw [Nat.add_mul,Nat.one_mul]at hm
  rw [List.drop_append_of_le_length (by rw [h.1];omega),List.take_append_of_le_length (by rw [List.length_drop,h.1];omega)]
  exact this
 ·rw [List.getElem?_append_right (by omega)]at hx
  rw [List.getElem?_append_right (by rw [h.2.1];omega),h.2.1]at hF
  have:=h'.2.2 _ x Fi hx hF
  have e:i*t.size=cs.length+(i - xs.length)*t.size:=by rw [h.1,←Nat.add_mul];congr 1;omega
  rw [e,List.drop_length_add_append]
  exact this

theorem RowL.frame{own own':Bool}{w':World}{t:Ty}{xs:List t.T}{cs:List Value}{Fs:List (List Nat)}(ho:own'=true→own=true)(hw:∀b∈Fs.flatten,w'.heap[b]? = w.heap[b]?)(h:RowL own w t xs cs Fs):RowL own' w' t xs cs Fs :=
 ⟨h.1,h.2.1,fun i x Fi hx hF=>RE_mono ho (fun b hb=>hw b (List.mem_flatten.2 ⟨Fi,List.mem_of_getElem? hF,hb⟩)) (h.2.2 i x Fi hx hF)⟩

theorem RowL.one{own:Bool}{t:Ty}{xs:List t.T}{cs:List Value}{Fs:List (List Nat)}(h:RowL own w t xs cs Fs)(hz:0<t.size):∀v∈cs,v.oneCell'=true:=by
 intro v hv
 obtain⟨k,hk,rfl⟩:=List.getElem_of_mem hv
 have hk':=hk
 rw [h.1]at hk'
 have hi:k / t.size<xs.length:=Nat.div_lt_of_lt_mul (by rw [Nat.mul_comm];exact hk')
 have:=h.2.2 (k / t.size) _ _ (List.getElem?_eq_getElem hi) (List.getElem?_eq_getElem (by rw [h.2.1];exact hi))
 refine RE_one this _ ?_
 apply List.mem_of_getElem? (i:=k % t.size)
 rw [List.getElem?_take,if_pos (Nat.mod_lt _ hz),List.getElem?_drop,show k / t.size*t.size+k % t.size=k by rw [Nat.mul_comm];exact Nat.div_add_mod _ _]
 exact List.getElem?_eq_getElem hk

theorem RowL.flat{own:Bool}{t:Ty}{xs:List t.T}{cs:List Value}{Fs:List (List Nat)}(hf:t.flat=true)(h:RowL own w t xs cs Fs)(own':Bool)(w':World):RowL own' w' t xs cs (List.replicate xs.length []):=by
 refine⟨h.1,by simp,fun i x Fi hx hF => ?_⟩
 have hi:i<xs.length:=(List.getElem?_eq_some_iff.1 hx).1
 rw [List.getElem?_replicate,if_pos hi]at hF
 cases hF
 have:=h.2.2 i x _ hx (List.getElem?_eq_getElem (by rw [h.2.1];exact hi))
 have e:=RE_flat hf this
 rw [e]at this
 exact RE_flat_own hf this

theorem RowL.flat'{own:Bool}{t:Ty}{xs:List t.T}{cs:List Value}{Fs:List (List Nat)}(hf:t.flat=true)(h:RowL own w t xs cs Fs):Fs.flatten = []:=by
 rw [List.flatten_eq_nil_iff]
 intro F hF
 obtain⟨i,hi,rfl⟩:=List.getElem_of_mem hF
 have hx:i<xs.length:=by rw [←h.2.1];exact hi
 exact RE_flat hf (h.2.2 i _ _ (List.getElem?_eq_getElem hx) (List.getElem?_eq_getElem hi))

theorem RR_list{own:Bool}{t:Ty}{xs:List t.T}{A:Option Addr}{n c:Nat}{F:List Nat}(h:RR own w t xs A n c F) :
  ∃cs Fs,RowL own w t xs cs Fs∧(∀j u,cs[j]? = some u→∃a,A=some a∧w.cell? (a.add j)=some u) ∧
   ((F = []∧Fs.flatten = []∧(own=true→c=0))∨∃b o arr e fr G,A=some ⟨b,o,none⟩∧w.heap[b]? = some (.cells arr e fr)∧(own=true→fr=(0,0))∧F=b::(Fs.flatten++G) ∧
    (arr.toList.drop o).take cs.length=cs∧o+(if own then c else n)*t.size≤arr.size):=by
 obtain⟨hn,hc,h | ⟨b,o,arr,e,fr,Fs,G,hA,hb,hf,hs,hF,hG,hl,hel⟩⟩:=h
 ·refine⟨[],[],?_,by simp,.inl ⟨h.2.1,rfl,h.2.2⟩⟩
  rw [h.1];exact RowL.nil
 ·have hle:n*t.size≤(if own then c else n)*t.size:=Nat.mul_le_mul_right _ (by cases own <;> simp <;> omega)
  have hcs:((arr.toList.drop o).take (n*t.size)).length=n*t.size:=by rw [List.length_take,List.length_drop];simp;omega
  refine⟨(arr.toList.drop o).take (n*t.size),Fs,⟨by rw [hcs,hn],hl,fun i x Fi hx hFi => ?_⟩,fun j u hj=>⟨_,hA,?_⟩,.inr ⟨b,o,arr,e,fr,G,hA,hb,hf,hF,by rw [hcs],hs⟩⟩
  ·have hi:i<xs.length:=(List.getElem?_eq_some_iff.1 hx).1
   have:=hel i x Fi hx hFi
   have hm:(i+1)*t.size≤n*t.size:=Nat.mul_le_mul_right _ (by omega)
   rw [Nat.add_mul,Nat.one_mul]at hm
   rw [List.drop_take,List.take_take,List.drop_drop,Nat.min_eq_left (by omega)]
   exact this
  ·rw [Addr_add,cell_at hb]
   have:=take_drop_get hj
   simpa using this

theorem RR_of{own:Bool}{t:Ty}{xs:List t.T}{cs:List Value}{Fs:List (List Nat)}{b o c:Nat}{arr:Array Value}{e:TypeId}(h:RowL own w t xs cs Fs)(hb:w.heap[b]? = some (.cells arr e (0,0)))
  (hcs:(arr.toList.drop o).take cs.length=cs) (hc:xs.length≤c) (hs:o+c*t.size≤arr.size):RR own w t xs (some ⟨b,o,none⟩) xs.length c (b::Fs.flatten):=by
 refine⟨rfl,hc,.inr ⟨b,o,arr,e,(0,0),Fs,[],rfl,hb,fun _=>rfl,?_,by simp,by simp,h.2.1,fun i x Fi hx hFi => ?_⟩⟩
 ·refine Nat.le_trans (Nat.add_le_add_left (Nat.mul_le_mul_right _ ?_) _) hs
  cases own <;> simp;exact hc
 ·have hi:i<xs.length:=(List.getElem?_eq_some_iff.1 hx).1
  have:=h.2.2 i x Fi hx hFi
  have hm:(i+1)*t.size≤xs.length*t.size:=Nat.mul_le_mul_right _ (by omega)
  rw [Nat.add_mul,Nat.one_mul]at hm
  rw [←hcs,List.drop_take,List.take_take,List.drop_drop,Nat.min_eq_left (by rw [h.1];omega)]at this
  exact this

theorem fill_cells:∀ {v:List Sc} {vs:List Value} {l:List Sc} {cells:Array Value} {off k:Nat},F2 (RSc ι) v vs→F2 (RSc ι) l cells.toList →
  F2 (RSc ι) (setS l (off+k) v) ((vs.zipIdx k).foldl (fun(cs:Array Value) (p:Value×Nat)=>cs.setIfInBounds (off+p.2) p.1) cells).toList
 | [],[],l,cells,off,k,_,hl=>by simpa [setS] using hl
 | c::v,u::vs,l,cells,off,k,hv,hl=>by
  simp only [setS,List.zipIdx_cons,List.foldl_cons]
  exact fill_cells (k:=k+1) hv.2 (by rw [Array.toList_setIfInBounds];exact F2_set _ hl hv.1)

theorem fill_size{off:Nat}:∀(vs:List Value) (k:Nat) (cells:Array Value),((vs.zipIdx k).foldl (fun(cs:Array Value) (p:Value×Nat)=>cs.setIfInBounds (off+p.2) p.1) cells).size=cells.size
 | [],k,cells=>rfl
 | u::vs,k,cells=>by simp only [List.zipIdx_cons,List.foldl_cons];rw [fill_size vs (k+1)];simp

theorem zip_fold(off:Nat)(v cells:Array Value):v.zipIdx.foldl (fun(cs:Array Value) (p:Value×Nat)=>cs.setIfInBounds (off+p.2) p.1) cells=(v.toList.zipIdx).foldl (fun(cs:Array Value) (p:Value×Nat)=>cs.setIfInBounds (off+p.2) p.1) cells:=by
 rw [←Array.foldl_toList]
 congr 1
 simp

def PartR(ι:Nat→Home)(p:Nat×AV)(q:Nat×Value):Prop:=p.1=q.1∧RAV ι p.2 q.2

theorem fill_run{place:Nat→Option (Nat×Nat)}:∀ {ps:List (Nat×AV)} {qs:List (Nat×Value)} {l l':List Sc} {cells:Array Value},fillS place l ps=some l'→F2 (PartR ι) ps qs→F2 (RSc ι) l cells.toList →
  ∃cells',Instr.fill place cells qs=some cells'∧F2 (RSc ι) l' cells'.toList
 | [],[],l,l',cells,h,_,hl=>by simp [fillS]at h;subst h;exact⟨cells,rfl,hl⟩
 | (i,.one v g)::ps,(i',u)::qs,l,l',cells,h,hp,hl=>by
  obtain⟨⟨e,hu⟩,hp⟩:=hp
  simp only at e
  subst e
  simp only [fillS]at h
  cases hpl:place i with
  | none=>rw [hpl]at h;cases h
  | some q =>
   obtain⟨off,size⟩:=q
   rw [hpl]at h
   simp only at h
   cases hc:(!Nat.beq v.length size || !Nat.ble (off+v.length) l.length||(!g && !notTop v))with
   | true=>rw [hc]at h;cases h
   | false =>
    rw [hc]at h
    simp only [cond_false]at h
    simp only [Bool.or_eq_false_iff,Bool.not_eq_false']at hc
    obtain⟨⟨h1,h2⟩,h3⟩:=hc
    have h1:=Nat.eq_of_beq_eq_true h1
    have h2:=Nat.le_of_ble_eq_true h2
    have h3:(g||notTop v)=true:=by
     cases g with
     | true=>rfl
     | false =>
      simpa using h3
    obtain⟨hcu,hsz⟩:=RVs_cells hu h3
    have hll:=F2_len hl
    have hF:=fill_cells (off:=off) (k:=0) hcu hl
    rw [Nat.add_zero]at hF
    obtain⟨cells',hf,hl'⟩:=fill_run h hp hF
    refine⟨cells',?_,hl'⟩
    simp only [Instr.fill,hpl]
    rw [if_neg (by
     simp only [Array.length_toList]at hll
     simp [hsz,h1]
     omega),zip_fold]
    exact hf
 | (i,.tup v)::ps,(i',u)::qs,l,l',cells,h,hp,hl=>by simp [fillS]at h

theorem parts_run:∀ {ps:List (Nat×Operand)} {vs:List AV},F2 (RAV ι) vs (ps.map fun p=>a.eval p.2)→F2 (PartR ι) (zipParts ps vs) (ps.map fun p=>(p.1,a.eval p.2))
 | [],[],_=>trivial
 | (i,x)::ps,v::vs,h=>⟨⟨rfl,h.1⟩,parts_run h.2⟩

theorem built_of{P:Program}{t:TypeId}{pl:Nat→Option (Nat×Nat)}{qs:List (Nat×Value)}{cells':Array Value}{zv:Value}(hz:∃i,P.info? t=some i∧i.zero=some zv)(hp:placesOf P t=some pl)
  (hf:Instr.fill pl zv.cells qs=some cells'):P.built t qs=some cells':=by
 obtain⟨i,hi,hz⟩:=hz
 unfold placesOf at hp
 unfold Program.built
 cases hu:P.underlying t with
 | none=>rw [hu]at hp;cases hp
 | some d =>
  rw [hu]at hp
  cases d with
  | struct fs =>
   simp only at hp
   split at hp
   ·rename_i pl' hm
    cases hp
    simp only [hi,hz,hm]
    exact hf
   ·cases hp
  | array n e =>
   simp only at hp
   split at hp
   ·rename_i inf hm
    cases hp
    simp only [hi,hz,hm]
    exact hf
   ·cases hp
  | _=>cases hp

theorem zeroS_info{P:Program}{t:TypeId}{l:List Sc}(h:zeroS P t=some l):∃z:Value,l=z.cells.toList.map .v∧z.cells.toList.all (·.oneCell')=true∧∃i,P.info? t=some i∧i.zero=some z:=by
 unfold zeroS at h
 cases hi:P.info? t with
 | none=>rw [hi]at h;cases h
 | some i =>
  rw [hi]at h
  simp only at h
  cases hz:i.zero with
  | none=>rw [hz]at h;cases h
  | some z =>
   rw [hz]at h
   simp only at h
   cases ha:z.cells.toList.all (·.oneCell')with
   | false=>rw [ha]at h;cases h
   | true =>
    rw [ha]at h
    simp only [cond_true,Option.some.injEq]at h
    exact⟨z,h.symm,ha,i,rfl,hz⟩

theorem op_build{t:TypeId}{ps:Array (Nat×Operand)}(ho:o.op = .build t ps)(hR:Rel X σ ι a w)(h:(opPg X.C nid o).run σ=some ((),σ')):Done X o σ' a w:=by
 simp only [opPg,ho]at h
 obtain⟨avs,hv,h⟩:=opnds_run hR h
 split at h
 ·rename_i z hz
  obtain⟨zv,rfl,ha,hi⟩:=zeroS_info hz
  split at h
  ·rename_i pl hpl
   split at h
   ·rename_i l hl
    obtain⟨cells',hf,hl'⟩:=fill_run hl (parts_run (a:=a) (by simpa [Function.comp_def] using hv)) (F2_plain ha)
    have hb:=built_of hi hpl hf
    refine Done.put hR (v := .one l true) (u := .agg cells') ⟨cells',rfl,hl'⟩ ?_ h
    have:=run_build (P:=X.C.P) w t (ps.map fun(i,x)=>(i,a.eval x)) cells' (by simpa using hb)
    simp [execOp,ho,this]
   ·cases h
  ·cases h
 ·cases h
end
end Go.Ev
namespace Go.Ev
open Go
variable [KSl]

def zeroV:Ty→List Value
 | .unit => []
 | .int k => [.int k 0]
 | .bool => [.bool false]
 | .str => [.string .empty]
 | .pair a b=>zeroV a++zeroV b
 | .sl _ => [.slice none 0 0]
 | .rm _ => [.slice none 0 0]
 | .ks => [KSl.s]

def TyOk(P:Program)(e:TypeId)(t:Ty):Prop:=∃i z,P.info? e=some i∧i.size=t.size∧i.zero=some z∧z.cells.toList=zeroV t

theorem RE_zero{own:Bool}{w:World}:∀(t:Ty),RE own w t t.dflt (zeroV t) []
 | .unit=>⟨rfl,rfl⟩
 | .int k=>⟨rfl,rfl⟩
 | .bool=>⟨rfl,rfl⟩
 | .str=>⟨rfl,rfl⟩
 | .ks=>⟨rfl,rfl⟩
 | .pair a b=>⟨zeroV a,zeroV b,[],[],rfl,rfl,RE_zero a,RE_zero b⟩
 | .sl t=>⟨none,0,0,rfl,rfl,Nat.le_refl _,.inl ⟨rfl,rfl,fun _=>rfl⟩⟩
 | .rm t=>⟨none,0,0,rfl,rfl,rfl,Nat.le_refl _,.inl ⟨rfl,rfl,fun _=>rfl⟩⟩

theorem elemT_run{C:Cfg}{t e:TypeId}{ty:Ty}(h:elemT C t=some (e,ty)):C.P.underlying t=some (.slice e)∧C.ty e=some ty:=by
 unfold elemT at h
 split at h
 ·rename_i e' he
  split at h
  ·rename_i ty' ht
   cases h
   exact⟨sliceOf_run he,ht⟩
  ·cases h
 ·cases h

theorem bytesOk_run{P:Program}{e:TypeId}(h:bytesOk P e=true):∃i,P.info? e=some i∧i.bytes≤128∧1≤i.bytes:=by
 unfold bytesOk at h
 split at h
 ·rename_i i hi
  rw [Bool.and_eq_true]at h
  exact⟨i,hi,Nat.le_of_ble_eq_true h.1,Nat.le_of_ble_eq_true h.2⟩
 ·cases h

section
variable {X : Ctx} {σ σ' : St} {ι : Nat → Home} {a : Act} {w : World} {α : Type} {o : Oper} {nid : Nat}

theorem Rel.newRow(hR:Rel X σ ι a w){G:List Nat}(hF:Free X σ ι w G){id:Nat}(hu:σ.H id = .unborn){t:Ty}{xs:List t.T}{cs:List Value}{Fs:List (List Nat)}{arr:Array Value}{e:TypeId}{c:Nat}{w':World}
  (hw':w'.heap=w.heap.push (.cells arr e)) (hio:w'.os=w.os∧w'.output=w.output∧w'.tape=w.tape) (hl:RowL true w t xs cs Fs) (hcs:arr.toList.take cs.length=cs) (hc:xs.length≤c) (hs:c*t.size≤arr.size) (hG:∀b∈Fs.flatten,b∈G) (hn:Fs.flatten.Nodup) :
  Rel X (σ.setH id (.row t xs true 0 [])) (upd ι id (.row (some ⟨w.heap.size,0,none⟩) xs.length c (w.heap.size::Fs.flatten))) a w':=by
 have hsz:w.heap.size≤w'.heap.size:=by rw [hw'];simp
 have hold:∀b,b<w.heap.size→w'.heap[b]? = w.heap[b]? := fun b hb=>by rw [hw'];simp [Array.getElem?_push,Nat.ne_of_lt hb]
 have hR1:=hR.grow ⟨hsz,hio.1,hio.2.1,hio.2.2⟩ hold
 have hF1:=hF.grow (G := [w.heap.size]) hR hsz (by simp) (by simp [hw'])
 have hlt:w.heap.size ∉ Fs.flatten:=fun hm=>Nat.lt_irrefl _ (hF.lt _ (hG _ hm))
 have hF2:Free X σ ι w' ((w.heap.size::Fs.flatten) ++ []):=by
  rw [List.append_nil]
  refine hF1.sub (fun b hb => ?_) (List.nodup_cons.2 ⟨hlt,hn⟩)
  rcases List.mem_cons.1 hb with rfl | hb
  ·simp
  ·exact List.mem_append.2 (.inl (hG b hb))
 have hl':RowL true w' t xs cs Fs:=hl.frame (fun x=>x) (fun b hb=>hold b (hF.lt b (hG b hb)))
 have hrr:RR true w' t xs (some ⟨w.heap.size,0,none⟩) xs.length c (w.heap.size::Fs.flatten) :=
  RR_of (arr:=arr) (e:=e) hl' (by rw [hw'];simp) (by simpa using hcs) hc (by simpa using hs)
 exact(hR1.take hF2 hu (blk := .row t xs true 0 []) (home := .row (some ⟨w.heap.size,0,none⟩) xs.length c (w.heap.size::Fs.flatten)) rfl ⟨_,_,_,_,rfl,fun _=>hrr⟩ rfl (by simp)).1

theorem periodic{z:Array Value}{n i sz:Nat}(hz:z.size=sz)(h0:0<sz)(h:(i+1)*sz≤n) :
  ((((Array.range n).map (fun j=>z[j % z.size]!)).toList.drop (i*sz)).take sz)=z.toList:=by
 rw [Nat.add_mul,Nat.one_mul]at h
 apply List.ext_getElem?
 intro j
 rw [List.getElem?_take]
 split
 ·rename_i hj
  rw [List.getElem?_drop]
  simp only [Array.toList_map,Array.toList_range,List.getElem?_map]
  rw [List.getElem?_range (by omega)]
  simp only [Option.map_some]
  rw [hz,show(i*sz+j) % sz=j by rw [Nat.add_comm,Nat.add_mul_mod_self_right];exact Nat.mod_eq_of_lt hj]
  have hj':j<z.size:=by omega
  rw [getElem!_pos z j hj']
  simp [hj']
 ·rw [List.getElem?_eq_none]
  simp
  omega

theorem wrap_small{m:Int}(h0:0≤m)(h1:m<9223372036854775808):IntKind.i64.wrap m=m:=by
 simp [IntKind.wrap,IntKind.signed,IntKind.bits]
 omega

theorem op_makeSlice(hty:∀e t,X.C.ty e=some t→TyOk X.C.P e t){t:TypeId}{x y:Operand}(ho:o.op = .makeSlice t x y)(hR:Rel X σ ι a w)(h:(opPg X.C nid o).run σ=some ((),σ')):Done X o σ' a w:=by
 simp only [opPg,ho]at h
 split at h
 ·rename_i e ty he
  obtain⟨hu,hte⟩:=elemT_run he
  obtain⟨inf,z,hi,hsz,hz,hzc⟩:=hty e ty hte
  cases hc:(sameOp x y&&bytesOk X.C.P e&&Nat.ble 1 ty.size)with
  | false=>rw [hc]at h;cases h
  | true =>
   rw [hc]at h
   simp only [cond_true]at h
   rw [Bool.and_eq_true,Bool.and_eq_true]at hc
   obtain⟨i',hi',hby,hby1⟩:=bytesOk_run hc.1.2
   rw [hi]at hi'
   cases hi'
   have h1:1≤ty.size:=Nat.le_of_ble_eq_true hc.2
   obtain⟨av,hv,h⟩:=opnd_run hR h
   split at h
   ·rename_i q m
    obtain⟨hx,_⟩:=RAV_v.1 hv
    obtain⟨q',hy⟩:=sameOp_run hc.1.1 q m hx
    simp only [Pg.run]at h
    cases h0:decide (0≤m)with
    | false=>rw [h0]at h;cases h
    | true =>
     rw [h0]at h
     simp only [cond_true]at h
     cases hl:decide (m.toNat<lim)with
     | false=>rw [hl]at h;cases h
     | true =>
      rw [hl]at h
      simp only [cond_true]at h
      have h0:=of_decide_eq_true h0
      have hl:=of_decide_eq_true hl
      simp only [lim]at hl
      obtain⟨hun,h⟩:=newB_run h
      have hzs:z.cells.size=ty.size:=by
       have:=RE_len (RE_zero (own:=true) (w:=w) ty)
       rw [←hzc]at this
       simpa using this
      let n:=m.toNat*ty.size
      let arr:Array Value:=(Array.range n).map (fun j=>z.cells[j % z.cells.size]!)
      have harr:arr.size=n:=by simp [arr]
      have hrl:RowL true w ty (List.replicate m.toNat ty.dflt) arr.toList (List.replicate m.toNat []):=by
       refine⟨by simp [arr,n],by simp,fun i x Fi hx hF => ?_⟩
       have hi:i<m.toNat:=by have:=(List.getElem?_eq_some_iff.1 hx).1;simpa using this
       rw [List.getElem?_replicate,if_pos hi]at hx hF
       cases hx
       cases hF
       have:=periodic (z:=z.cells) (n:=n) (i:=i) hzs h1 (Nat.mul_le_mul_right _ hi)
       rw [this,hzc]
       exact RE_zero ty
      have hfl:(List.replicate m.toNat ([]:List Nat)).flatten = []:=by simp
      have hR':=hR.newRow (G := []) Free.nil hun (w':={ w with heap:=w.heap.push (.cells arr e) }) rfl ⟨rfl,rfl,rfl⟩ hrl (List.take_length) (by simp) (show m.toNat*ty.size≤arr.size by rw [harr];exact Nat.le_refl _) (by rw [hfl];simp) (by rw [hfl];simp)
      refine Done.put hR' (RAV_sl (upd_same _ _ _)) ?_ h
      have hw1:IntKind.i64.wrap m=m:=wrap_small h0 (by omega)
      have hb1 : ¬ ((inf.bytes:Int)*m>2 ^ 48):=by
       have:(inf.bytes:Int)*m≤128*m:=Int.mul_le_mul_of_nonneg_right (by omega) h0
       omega
      have hb2 : ¬ m<0:=by omega
      simp only [execOp,ho,hx,hy,Sem.run_bind]
      have hms:(Instr.makeSlice t (.int q m) (.int q' m)).run X.C.P w = .ok (.slice (some ⟨w.heap.size,0,none⟩) m.toNat m.toNat) { w with heap:=w.heap.push (.cells arr e) }:=by
       unfold Instr.makeSlice
       simp only [Sem.run_bind,run_underlying hu,Result.andThen_ok,asInt,asIntOf,Sem.run_pure,typeInfo,run_program,hi,hw1]
       rw [if_neg (by simp [hb2];omega)]
       simp only [Sem.run_bind,run_askRoom,Result.andThen_ok,sizeOf,typeInfo,run_program,hi,Sem.run_pure,hsz]
       by_cases hn:m.toNat*ty.size=0
       ·rw [if_pos hn]
        have:arr = #[]:=by simp [arr,n,hn]
        simp [newRow,this,hn]
        congr 2
        apply Array.ext'
        simp
       ·rw [if_neg hn]
        simp [newRow,zeroValue,typeInfo,hi,hz,arr,n]
      rw [hms]
      simp
   ·cases h
 ·cases h

def cellsOf(g:Bool)(u:Value):List Value:=match g,u with
 | true,.agg vs=>vs.toList
 | true,_ => []
 | false,u => [u]

theorem RVs_list{l:List Sc}{g:Bool}{u:Value}(h:RVs ι (l,g) u):F2 (RSc ι) l (cellsOf g u):=by
 cases g with
 | true=>obtain⟨vs,rfl,hl⟩:=h;exact hl
 | false=>obtain⟨c,hl,hcu⟩:=h;simp only at hl;subst hl;exact⟨hcu,trivial⟩

theorem cells_of{l:List Sc}{g:Bool}{u:Value}(h:RVs ι (l,g) u)(h1:∀v∈cellsOf g u,v.oneCell'=true):u.cells.toList=cellsOf g u:=by
 cases g with
 | true=>obtain⟨vs,rfl,hl⟩:=h;rfl
 | false =>
  have:u.oneCell'=true:=h1 u (by simp [cellsOf])
  cases u <;> simp_all [cellsOf,Value.cells,Value.oneCell']

theorem rdParts_run{t:Ty}{agg:Bool}{r:α×St}:∀ {ps:List (Nat×AV)} {qs:List (Nat×Value)} {n:Nat} {σ:St} {G:List Nat} {k:List t.T→Pg α},Rel X σ ι a w→Free X σ ι w G→(rdParts t agg n ps k).run σ=some r→F2 (PartR ι) ps qs →
  ∃xs cs Fs σ1,RowL true w t xs cs Fs∧Rel X σ1 ι a w∧Free X σ1 ι w (G++Fs.flatten)∧(k xs).run σ1=some r∧xs.length=ps.length∧qs.map (·.1)=List.range' n ps.length ∧
   cs=(qs.map fun q=>q.2.cells.toList).flatten∧∀q∈qs,q.2.cells.size=t.size
 | [],[],n,σ,G,k,hR,hF,h,_=>⟨[],[],[],σ,RowL.nil,hR,by simpa using hF,h,rfl,rfl,rfl,by simp⟩
 | (i,.one l g)::ps,(i',u)::qs,n,σ,G,k,hR,hF,h,hp=>by
  obtain⟨⟨e,hu⟩,hp⟩:=hp
  simp only at e
  subst e
  simp only [rdParts]at h
  cases hc:(Nat.beq n i&&(agg==g))with
  | false=>rw [hc]at h;cases h
  | true =>
   rw [hc]at h
   simp only [cond_true]at h
   rw [Bool.and_eq_true]at hc
   have hni:=Nat.eq_of_beq_eq_true hc.1
   obtain⟨x,rest,σ1,vs1,vs2,F,hvs,hrest,hre,hR1,hF1,h⟩:=rdO_run hR hF h (RVs_list hu)
   split at h
   ·cases vs2 with
    | cons _ _=>exact hrest.elim
    | nil =>
     rw [List.append_nil]at hvs
     have hcu:=cells_of hu (by rw [hvs];exact RE_one hre)
     rw [hvs]at hcu
     obtain⟨xs,cs,Fs,σ2,hl,hR2,hF2,h,h1,h2,h3,h4⟩:=rdParts_run hR1 hF1 h hp
     have hlen:=RE_len hre
     refine⟨x::xs,vs1++cs,F::Fs,σ2,?_,hR2,by simpa using hF2,h,by simp [h1],?_,by simp [hcu,h3],?_⟩
     ·have h0:RowL true w t [x] vs1 [F]:=by
       refine⟨by simp [hlen],rfl,fun j y Fj hy hFj => ?_⟩
       cases j with
       | zero=>simp at hy hFj;subst hy;subst hFj;simpa [←hlen] using hre
       | succ j=>simp at hy
      simpa using h0.append hl
     ·simp only [List.map_cons,h2,List.length_cons,List.range'_succ,hni]
     ·intro q hq
      rcases List.mem_cons.1 hq with rfl | hq
      ·have:=congrArg List.length hcu
       simpa [hlen] using this
      ·exact h4 q hq
   ·cases h
 | (i,.tup l)::ps,(i',u)::qs,n,σ,G,k,hR,hF,h,hp=>by simp [rdParts]at h;cases h

theorem dense_fold{off:Nat}:∀(vs:List Value) (k:Nat) (cells:Array Value),off+k+vs.length≤cells.size →
  ((vs.zipIdx k).foldl (fun(cs:Array Value) (p:Value×Nat)=>cs.setIfInBounds (off+p.2) p.1) cells).toList=cells.toList.take (off+k)++vs++cells.toList.drop (off+k+vs.length)
 | [],k,cells,_=>by simp
 | v::vs,k,cells,h=>by
  simp only [List.length_cons]at h
  simp only [List.zipIdx_cons,List.foldl_cons]
  rw [dense_fold vs (k+1) _ (by simp;omega),Array.toList_setIfInBounds]
  have:=list_seg_step cells.toList (off+k) v vs (by simp;omega)
  rw [Nat.add_assoc off k 1]at this
  rw [this]
  simp [Nat.add_assoc]

theorem fill_dense{sz:Nat}:∀(qs:List (Nat×Value)) (n:Nat) (cells:Array Value),qs.map (·.1)=List.range' n qs.length→(∀q∈qs,q.2.cells.size=sz)→cells.size=(n+qs.length)*sz →
  ∃cells',Instr.fill (fun i=>some (i*sz,sz)) cells qs=some cells'∧cells'.toList=cells.toList.take (n*sz)++(qs.map fun q=>q.2.cells.toList).flatten
 | [],n,cells,_,_,hc=>⟨cells,rfl,by simp at hc;simp;rw [List.take_of_length_le];simp [hc]⟩
 | (i,u)::qs,n,cells,hi,hq,hc=>by
  simp only [List.map_cons,List.length_cons,List.range'_succ,List.cons.injEq]at hi
  obtain⟨rfl,hi⟩:=hi
  have hu:=hq (i,u) (by simp)
  simp only at hu
  simp only [List.length_cons]at hc
  have hm:(i+1)*sz≤cells.size:=by rw [hc];exact Nat.mul_le_mul_right _ (by omega)
  rw [Nat.add_mul,Nat.one_mul]at hm
  obtain⟨cells',hf,hl⟩:=fill_dense qs (i+1) (u.cells.zipIdx.foldl (fun(cs:Array Value) (p:Value×Nat)=>cs.setIfInBounds (i*sz+p.2) p.1) cells) hi (fun q h=>hq q (by simp [h])) (by
   rw [zip_fold,fill_size,hc];congr 1;omega)
  refine⟨cells',?_,?_⟩
  ·simp only [Instr.fill]
   rw [if_neg (by simp [hu];omega)]
   exact hf
  ·rw [hl,zip_fold]
   have:=dense_fold (off:=i*sz) u.cells.toList 0 cells (by simp [hu];omega)
   rw [Nat.add_zero]at this
   rw [this,List.map_cons,List.flatten_cons,Nat.add_mul,Nat.one_mul]
   rw [List.take_left' (by simp [hu];omega),List.append_assoc]

theorem rdPartsS_run{t:Ty}{agg:Bool}(hR:Rel X σ ι a w){r:α×St}:∀ {ps:List (Nat×AV)} {qs:List (Nat×Value)} {n:Nat} {k:List t.T→List (Nat×Nat)→Pg α},(rdPartsS t agg n ps k).run σ=some r→F2 (PartR ι) ps qs →
  ∃xs p cs Fs,RowL false w t xs cs Fs∧SOk σ ι p Fs.flatten∧(k xs p).run σ=some r∧xs.length=ps.length∧qs.map (·.1)=List.range' n ps.length ∧
   cs=(qs.map fun q=>q.2.cells.toList).flatten∧∀q∈qs,q.2.cells.size=t.size
 | [],[],n,k,h,_=>⟨[],[],[],[],RowL.nil,SOk.nil,h,rfl,rfl,rfl,by simp⟩
 | (i,.one l g)::ps,(i',u)::qs,n,k,h,hp=>by
  obtain⟨⟨e,hu⟩,hp⟩:=hp
  simp only at e
  subst e
  simp only [rdPartsS]at h
  cases hc:(Nat.beq n i&&(agg==g))with
  | false=>rw [hc]at h;cases h
  | true =>
   rw [hc]at h
   simp only [cond_true]at h
   rw [Bool.and_eq_true]at hc
   have hni:=Nat.eq_of_beq_eq_true hc.1
   obtain⟨x,rest,p,vs1,vs2,F,hvs,hrest,hre,hs,h⟩:=rdS_run hR h (RVs_list hu)
   split at h
   ·cases vs2 with
    | cons _ _=>exact hrest.elim
    | nil =>
     rw [List.append_nil]at hvs
     have hcu:=cells_of hu (by rw [hvs];exact RE_one hre)
     rw [hvs]at hcu
     obtain⟨xs,p',cs,Fs,hl,hs',h,h1,h2,h3,h4⟩:=rdPartsS_run hR h hp
     have hlen:=RE_len hre
     refine⟨x::xs,p++p',vs1++cs,F::Fs,?_,by simpa using hs.append hs',h,by simp [h1],?_,by simp [hcu,h3],?_⟩
     ·have h0:RowL false w t [x] vs1 [F]:=by
       refine⟨by simp [hlen],rfl,fun j y Fj hy hFj => ?_⟩
       cases j with
       | zero=>simp at hy hFj;subst hy;subst hFj;simpa [←hlen] using hre
       | succ j=>simp at hy
      simpa using h0.append hl
     ·simp only [List.map_cons,h2,List.length_cons,List.range'_succ,hni]
     ·intro q hq
      rcases List.mem_cons.1 hq with rfl | hq
      ·have:=congrArg List.length hcu
       simpa [hlen] using this
      ·exact h4 q hq
   ·cases h
 | (i,.tup l)::ps,(i',u)::qs,n,k,h,hp=>by simp [rdPartsS]at h;cases h

theorem names_run{ι:Nat→Home}:∀ {ps:List (Nat×AV)} {qs:List (Nat×Value)} {n:Nat} {l:List Sc},namesOf n ps=some l→F2 (PartR ι) ps qs →
  l.length=ps.length∧qs.map (·.1)=List.range' n ps.length∧(∀q∈qs,q.2.cells.size=1)∧F2 (RSc ι) l ((qs.map fun q=>q.2.cells.toList).flatten)∧(∀q∈qs,∀u∈q.2.cells.toList,u.oneCell'=true)
 | [],[],n,l,h,_=>by
  simp only [namesOf,Option.some.injEq]at h
  subst h
  exact⟨rfl,rfl,by simp,trivial,by simp⟩
 | [],_::_,_,_,_,h=>h.elim
 | _::_,[],_,_,_,h=>h.elim
 | (i,v)::ps,(i',u)::qs,n,l,h,hp=>by
  have key:∀id,v = .one [.sl id] false→l.length=ps.length+1∧i'::qs.map (·.1)=List.range' n (ps.length+1)∧(∀q∈(i',u)::qs,q.2.cells.size=1)∧F2 (RSc ι) l ((((i',u)::qs).map fun q=>q.2.cells.toList).flatten)∧(∀q∈(i',u)::qs,∀u∈q.2.cells.toList,u.oneCell'=true):=by
   rintro id rfl
   simp only [namesOf]at h
   cases hb:Nat.beq i n with
   | false=>rw [hb]at h;cases h
   | true =>
    rw [hb]at h
    simp only [cond_true,Option.map_eq_some_iff]at h
    obtain⟨l',hl',rfl⟩:=h
    have hij:=Nat.eq_of_beq_eq_true hb
    obtain⟨⟨e,hu⟩,hp⟩:=hp
    simp only at e
    subst e
    obtain⟨h1,h2,h3,h4,h5⟩:=names_run hl' hp
    obtain⟨A,n',c,F,e1,e2⟩:=RAV_sc.1 hu
    simp only at e2
    subst e2
    refine⟨by simp [h1],by simp [List.range'_succ,h2,hij],fun q hq => ?_,?_,fun q hq => ?_⟩
    ·rcases List.mem_cons.1 hq with rfl | hq
     ·rfl
     ·exact h3 q hq
    ·exact⟨⟨A,n',c,F,e1,rfl⟩,h4⟩
    ·rcases List.mem_cons.1 hq with rfl | hq
     ·intro u hu
      simp [Value.cells]at hu
      subst hu
      rfl
     ·exact h5 q hq
  match v,key,h with
  | .one [.sl id] false,key,_=>exact key id rfl
  | .one [.sl id] true,_,h=>simp only [namesOf]at h;cases h
  | .one [] _,_,h=>simp only [namesOf]at h;cases h
  | .one (_::_::_) _,_,h=>simp only [namesOf]at h;cases h
  | .tup _,_,h=>simp only [namesOf]at h;cases h
  | .one [.top] _,_,h=>simp only [namesOf]at h;cases h
  | .one [.und] _,_,h=>simp only [namesOf]at h;cases h
  | .one [.v _] _,_,h=>simp only [namesOf]at h;cases h
  | .one [.ptr _ _] _,_,h=>simp only [namesOf]at h;cases h
  | .one [.elt _ _ _ _] _,_,h=>simp only [namesOf]at h;cases h
  | .one [.fn _ _] _,_,h=>simp only [namesOf]at h;cases h
  | .one [.sn _ _] _,_,h=>simp only [namesOf]at h;cases h
  | .one [.suf _ _ _] _,_,h=>simp only [namesOf]at h;cases h
  | .one [.sf _] _,_,h=>simp only [namesOf]at h;cases h
  | .one [.k] _,_,h=>simp only [namesOf]at h;cases h
  | .one [.ke _] _,_,h=>simp only [namesOf]at h;cases h
  | .one [.slc _ _] _,_,h=>simp only [namesOf]at h;cases h

theorem op_buildSlice{t:TypeId}{n:Nat}{ps:Array (Nat×Operand)}(hty:∀e t,X.C.ty e=some t→TyOk X.C.P e t)(ho:o.op = .buildSlice t n ps)(hR:Rel X σ ι a w)(h:(opPg X.C nid o).run σ=some ((),σ')):Done X o σ' a w:=by
 simp only [opPg,ho]at h
 split at h
 ·rename_i e ty he
  obtain⟨hu,hte⟩:=elemT_run he
  obtain⟨inf,z,hi,hsz,hz,hzc⟩:=hty e ty hte
  cases hc:(Nat.beq ps.size n&&Nat.ble (n*ty.size) 16777216&&Nat.ble 1 ty.size)with
  | false=>rw [hc]at h;cases h
  | true =>
   rw [hc]at h
   simp only [cond_true]at h
   rw [Bool.and_eq_true,Bool.and_eq_true]at hc
   have hpn:=Nat.eq_of_beq_eq_true hc.1.1
   have hle:=Nat.le_of_ble_eq_true hc.1.2
   have h1:1≤ty.size:=Nat.le_of_ble_eq_true hc.2
   obtain⟨avs,hv,h⟩:=opnds_run hR h
   have hparts:=parts_run (ι:=ι) (a:=a) (ps:=ps.toList) (vs:=avs) (by simpa [Function.comp_def] using hv)
   cases hal:alB X.C.share o.dst with
   | true =>
    rw [hal]at h
    simp only [cond_true]at h
    cases hn1:(Nat.ble 1 n&&Nat.beq ty.size 1)with
    | false=>rw [hn1]at h;cases h
    | true =>
     rw [hn1]at h
     simp only [cond_true]at h
     rw [Bool.and_eq_true]at hn1
     have hn0:=Nat.le_of_ble_eq_true hn1.1
     have hs1:=Nat.eq_of_beq_eq_true hn1.2
     split at h
     ·rename_i l hnm
      obtain⟨g1,g2,g3,g4,g5⟩:=names_run hnm hparts
      obtain⟨hun,h⟩:=newB_run h
      have hplen:(zipParts ps.toList avs).length=n:=by
       have:=F2_len hparts
       simp at this
       omega
      have hzs:z.cells.size=ty.size:=by
       have:=RE_len (RE_zero (own:=true) (w:=w) ty)
       rw [←hzc]at this
       simpa using this
      let qs:=ps.toList.map fun p=>(p.1,a.eval p.2)
      have hqlen:qs.length=n:=by simp [qs];omega
      obtain⟨cells',hf,hcl⟩:=fill_dense (sz:=ty.size) qs 0 ((Array.range (n*ty.size)).map (z.cells[· % z.cells.size]!)) (by rw [hqlen,←hplen];exact g2) (by rw [hs1];exact g3) (by simp [hqlen])
      have hcs:F2 (RSc ι) l cells'.toList:=by
       rw [hcl]
       simpa [qs] using g4
      have hll:l.length=n:=by rw [g1,hplen]
      have hR':=hR.newOwn hun (blk := .cells l true) (home := .blk w.heap.size 0) (w':={ w with heap:=w.heap.push (.cells cells' e) }) ⟨by simp,rfl,rfl,rfl⟩ (fun b hb=>push_lt hb)
       (cells_whole (e:=e) (fr:=(0,0)) (arr:=cells') (by simp) (fun h=>by cases h) hcs) rfl (by simp [Home.foot]) (by simp [Home.foot]) (by simp [Home.foot]) (by simp)
      refine Done.put hR' (v := .sc (.slc nid l.length)) (RAV_sc.2 ⟨w.heap.size,upd_same _ _ _,rfl⟩) ?_ h
      rw [hll]
      have hpos : ¬ n*inf.size=0:=by
       rw [hsz,hs1]
       omega
      have hb:=run_buildSlice (P:=X.C.P) w t e n (ps.map fun(i,x)=>(i,a.eval x)) cells' inf z hu hi hz (by rw [hsz];omega) hpos (by rw [hsz];simpa [qs] using hf)
      simp [execOp,ho,hb]
     ·cases h
   | false =>
   rw [hal]at h
   simp only [cond_false]at h
   cases hsh:(shareB X.C.share o.dst && !ty.flat)with
   | true =>
    rw [hsh]at h
    simp only [cond_true]at h
    obtain⟨xs,p,cs,Fs,hl,hs,h,hx1,hx2,hx3,hx4⟩:=rdPartsS_run hR h hparts
    obtain⟨hun,h⟩:=newB_run h
    have hplen:(zipParts ps.toList avs).length=n:=by
     have:=F2_len hparts
     simp at this
     omega
    have hzs:z.cells.size=ty.size:=by
     have:=RE_len (RE_zero (own:=true) (w:=w) ty)
     rw [←hzc]at this
     simpa using this
    let qs:=ps.toList.map fun p=>(p.1,a.eval p.2)
    have hqlen:qs.length=n:=by simp [qs];omega
    obtain⟨cells',hf,hcl⟩:=fill_dense (sz:=ty.size) qs 0 ((Array.range (n*ty.size)).map (z.cells[· % z.cells.size]!)) (by rw [hqlen,←hplen];exact hx2) hx4 (by simp [hqlen])
    have hcs:cells'.toList=cs:=by rw [hcl,hx3];simp [qs]
    have hxn:xs.length=n:=by rw [hx1,hplen]
    have hltF:∀b∈Fs.flatten,b<w.heap.size:=by
     intro b hb
     obtain⟨Fi,hFi,hm⟩:=List.mem_flatten.1 hb
     obtain⟨i,hi,rfl⟩:=List.getElem_of_mem hFi
     have hx:i<xs.length:=by rw [←hl.2.1];exact hi
     exact RE_lt (hl.2.2 i _ _ (List.getElem?_eq_getElem hx) (List.getElem?_eq_getElem hi)) b hm
    have hl':RowL false { w with heap:=w.heap.push (.cells cells' e) } ty xs cs Fs:=hl.frame (fun x=>x) (fun b hb=>push_lt (hltF b hb))
    have hrr:RR false { w with heap:=w.heap.push (.cells cells' e) } ty xs (some ⟨w.heap.size,0,none⟩) xs.length n (w.heap.size::(Fs.flatten ++ [])):=by
     rw [List.append_nil]
     exact RR_of (arr:=cells') (e:=e) hl' (by simp) (by rw [hcs];simp) (by omega) (by have:=congrArg List.length hcs;simp at this;rw [this,hl.1,hxn];omega)
    have hR':=hR.newId hun (blk := .row ty xs false 0 p) (home := .row (some ⟨w.heap.size,0,none⟩) xs.length n (w.heap.size::(Fs.flatten ++ []))) (w':={ w with heap:=w.heap.push (.cells cells' e) }) ⟨by simp,rfl,rfl,rfl⟩ (fun b hb=>push_lt hb)
     (fun _=>⟨_,_,_,_,rfl,fun _=>hrr⟩) (fun _ H w ι' _ hf=>⟨_,_,_,_,rfl,fun h=>(hf h).elim⟩)
     (fun _ b hb=>by
      simp only [Home.foot,List.append_nil]at hb
      rcases List.mem_cons.1 hb with rfl | hb
      ·simp
      ·have:=hltF b hb
       simp;omega) (fun h=>by cases h)
     (fun i he _ _ hr b hb hb2=>by
      simp only [Home.foot,List.append_nil]at hb2
      rcases List.mem_cons.1 hb2 with rfl | hb2
      ·have:=hR.lt i (live_of_excl he) _ hb
       omega
      ·exact hs.ap i he hr b hb hb2)
     (fun q hq=>by obtain⟨t,x,p,e⟩:=hs.ok q hq;rw [e];simp) (fun q hq ver e'=>by obtain⟨t,x,p,e⟩:=hs.ok q hq;rw [e]at e'; cases e'; exact Nat.le_refl _) (by simp)
    refine Done.put hR' (RAV_sl (upd_same _ _ _)) ?_ h
    rw [hxn]
    by_cases hn:n=0
    ·have hps:ps = #[]:=Array.eq_empty_of_size_eq_zero (by omega)
     have hce:cells' = #[]:=by
      apply Array.ext'
      rw [hcs]
      apply List.eq_nil_of_length_eq_zero
      rw [hl.1,hxn,hn];simp
     simp [execOp,ho,hn,hps,hce,Instr.buildSlice,run_underlying hu,sizeOf,typeInfo,hi,Instr.fill,newRow]
     congr 2
     apply Array.ext'
     simp
    ·have hpos : ¬ n*inf.size=0:=by
      rw [hsz]
      intro h0
      rcases Nat.mul_eq_zero.1 h0 with h0 | h0 <;> omega
     have hb:=run_buildSlice (P:=X.C.P) w t e n (ps.map fun(i,x)=>(i,a.eval x)) cells' inf z hu hi hz (by rw [hsz];omega) hpos (by rw [hsz];simpa [qs] using hf)
     simp [execOp,ho,hb]
   | false =>
   rw [hsh]at h
   simp only [cond_false]at h
   obtain⟨xs,cs,Fs,σ1,hl,hR1,hF1,h,hx1,hx2,hx3,hx4⟩:=rdParts_run (G := []) hR Free.nil h hparts
   obtain⟨hun,h⟩:=newB_run h
   have hplen:(zipParts ps.toList avs).length=n:=by
    have:=F2_len hparts
    simp at this
    omega
   have hzs:z.cells.size=ty.size:=by
    have:=RE_len (RE_zero (own:=true) (w:=w) ty)
    rw [←hzc]at this
    simpa using this
   let qs:=ps.toList.map fun p=>(p.1,a.eval p.2)
   have hqlen:qs.length=n:=by simp [qs];omega
   obtain⟨cells',hf,hcl⟩:=fill_dense (sz:=ty.size) qs 0 ((Array.range (n*ty.size)).map (z.cells[· % z.cells.size]!)) (by rw [hqlen,←hplen];exact hx2) hx4 (by simp [hqlen])
   have hcs:cells'.toList=cs:=by rw [hcl,hx3];simp [qs]
   have hR':=hR1.newRow (G:=Fs.flatten) (by simpa using hF1) hun (w':={ w with heap:=w.heap.push (.cells cells' e) }) (c:=n) rfl ⟨rfl,rfl,rfl⟩ hl (by rw [hcs,List.take_length]) (by rw [hx1,hplen];exact Nat.le_refl _)
    (by have:=congrArg List.length hcs;simp at this;rw [this,hl.1,hx1,hplen];exact Nat.le_refl _) (fun b hb=>hb) (by simpa using hF1.nd)
   refine Done.put hR' (RAV_sl (upd_same _ _ _)) ?_ h
   have hxn:xs.length=n:=by rw [hx1,hplen]
   rw [hxn]
   by_cases hn:n=0
   ·have hps:ps = #[]:=Array.eq_empty_of_size_eq_zero (by omega)
    have hce:cells' = #[]:=by
     apply Array.ext'
     rw [hcs]
     apply List.eq_nil_of_length_eq_zero
     rw [hl.1,hxn,hn];simp
    simp [execOp,ho,hn,hps,hce,Instr.buildSlice,run_underlying hu,sizeOf,typeInfo,hi,Instr.fill,newRow]
    congr 2
    apply Array.ext'
    simp
   ·have hpos : ¬ n*inf.size=0:=by
     rw [hsz]
     intro h0
     rcases Nat.mul_eq_zero.1 h0 with h0 | h0 <;> omega
    have hb:=run_buildSlice (P:=X.C.P) w t e n (ps.map fun(i,x)=>(i,a.eval x)) cells' inf z hu hi hz (by rw [hsz];omega) hpos (by rw [hsz];simpa [qs] using hf)
    simp [execOp,ho,hb]
 ·cases h
end
end Go.Ev
namespace Go.Ev
open Go
variable [KSl]

section
variable {X : Ctx} {σ σ' : St} {ι : Nat → Home} {a : Act} {w : World} {α : Type} {o : Oper} {nid : Nat}

def At(w:World)(A:Option Addr)(cs:List Value):Prop:=∀j u,cs[j]? = some u→∃a,A=some a∧w.cell? (a.add j)=some u

theorem run_firstCells{P:Program}{A:Option Addr}{cs:List Value}(h:At w A cs){size k n c:Nat}(hl:cs.length=k*size):(Builtin.firstCells size k (.slice A n c)).run P w = .ok cs.toArray w:=by
 cases A with
 | none =>
  have:cs = []:=by
   cases cs with
   | nil=>rfl
   | cons u cs=>obtain⟨a,h,_⟩:=h 0 u rfl;cases h
  subst this
  simp [Builtin.firstCells]
 | some b =>
  simp only [Builtin.firstCells]
  rw [←hl]
  exact run_loadCells_list w b cs (fun j u hj=>by obtain⟨a,e,h⟩:=h j u hj;cases e;exact h)

theorem At.grow{A:Option Addr}{cs:List Value}(h:At w A cs){w':World}(hw:w'.heap=w.heap):At w' A cs:=by
 intro j u hj
 obtain⟨a,e,h⟩:=h j u hj
 exact⟨a,e,by simpa [World.cell?,hw] using h⟩

theorem lenOf_slice{P:Program}{A:Option Addr}{n c:Nat}:(Builtin.lenOf (.slice A n c)).run P w = .ok n w:=rfl

theorem run_append_fit{P:Program}{ts tx e:TypeId}{ex:TypeId}{inf:TypeInfo}(hs:P.underlying ts=some (.slice e))(hx:P.underlying tx=some (.slice ex))(hi:P.info? e=some inf)
  {A B:Option Addr} {n c m c':Nat} {news:List Value} (hB:At w B news) (hl:news.length=m*inf.size) (hfit:n+m≤c) (ty:TypeId)
  {b o':Nat} {arr:Array Value} {el:TypeId} (hA:A=some ⟨b,o',none⟩) (hb:w.heap[b]? = some (.cells arr el (0,0))) (hsz:o'+n*inf.size+news.length≤arr.size) (h1:∀u∈news,u.oneCell'=true) :
  (Builtin.append_ #[ts,tx] ty #[.slice A n c,.slice B m c']).run P w = .ok (.slice A (n+m) c) (w.setRow b (arr.toList.take (o'+n*inf.size)++news++arr.toList.drop (o'+n*inf.size+news.length)).toArray):=by
 subst hA
 have hst:=run_storeCells_at P b (o'+n*inf.size) el news 0 arr w hb (by simpa using hsz) h1
 simp only [Nat.add_zero]at hst
 simp [Builtin.append_,run_underlying hs,run_underlying hx,sizeOf,typeInfo,hi,Builtin.lenOf,hfit,run_firstCells hB hl,Addr_add,hst]

theorem run_append_none{P:Program}{ts tx e:TypeId}{ex:TypeId}{inf:TypeInfo}(hs:P.underlying ts=some (.slice e))(hx:P.underlying tx=some (.slice ex))(hi:P.info? e=some inf)
  {A B:Option Addr} {c c':Nat} (hB:At w B []) (ty:TypeId) (hA:A=none∨∃b o' arr el,A=some ⟨b,o',none⟩∧w.heap[b]? = some (.cells arr el (0,0))∧o'≤arr.size) :
  (Builtin.append_ #[ts,tx] ty #[.slice A 0 c,.slice B 0 c']).run P w = .ok (.slice A 0 c) w:=by
 have h0:=run_firstCells (P:=P) (n:=0) (c:=c') (size:=inf.size) (k:=0) hB (by simp)
 cases A with
 | none=>simp [Builtin.append_,run_underlying hs,run_underlying hx,sizeOf,typeInfo,hi,Builtin.lenOf,h0]
 | some a0=>simp [Builtin.append_,run_underlying hs,run_underlying hx,sizeOf,typeInfo,hi,Builtin.lenOf,h0,storeCells]

theorem run_append_grown{P:Program}{ts tx e:TypeId}{ex:TypeId}{inf:TypeInfo}{z:Value}(hs:P.underlying ts=some (.slice e))(hx:P.underlying tx=some (.slice ex))(hi:P.info? e=some inf)(hz:inf.zero=some z)
  {A B:Option Addr} {n c m c':Nat} {olds news:List Value} (hA:At w A olds) (hB:At w B news) (hlo:olds.length=n*inf.size) (hl:news.length=m*inf.size) (hg:c<n+m) (ty:TypeId)
  (h63:n+m≤274877906944) (hby:inf.bytes≤128) (hby1:1≤inf.bytes) :
  ∃w',(Builtin.append_ #[ts,tx] ty #[.slice A n c,.slice B m c']).run P w = .ok (.slice (some ⟨w.heap.size,0,none⟩) (n+m) (grownCap w (n+m) c e)) w' ∧
   w'.heap=w.heap.push (.cells (olds.toArray++news.toArray++Builtin.zeroCells z.cells (grownCap w (n+m) c e - (n+m))) e)∧w'.os=w.os∧w'.output=w.output∧w'.tape=w.tape:=by
 have hn : ¬ (n+m≤c):=by omega
 have h63' : ¬ (9223372036854775807<((n:Int)+(m:Int))):=by omega
 have hb0 : ¬ inf.bytes=0:=by omega
 have h48' : ¬ (281474976710656<Builtin.nextslicecap (n+m) c*inf.bytes):=by
  have:=growslice_fits (need:=n+m) (old:=c) (bytes:=inf.bytes) hg (by
   have:(n+m)*inf.bytes≤274877906944*128:=Nat.mul_le_mul h63 hby
   omega)
  omega
 have hf:=run_firstCells (P:=P) (w:=w.drew) (n:=m) (c:=c') (hB.grow rfl) hl
 have hfo:=run_firstCells (P:=P) (w:=w.drew) (n:=n) (c:=c) (hA.grow rfl) hlo
 refine⟨w.drew.alloc (.cells (olds.toArray++news.toArray++Builtin.zeroCells z.cells (grownCap w (n+m) c e - (n+m))) e),?_,rfl,rfl,rfl,rfl⟩
 simp [Builtin.append_,run_underlying hs,run_underlying hx,sizeOf,typeInfo,zeroValue,hi,hz,Builtin.lenOf,hn,h63',h48',Question.forced,hf,hfo,newRow,grownCap,hb0]
 congr 2
 apply Array.ext'
 simp

theorem isIntT_run{P:Program}{t:TypeId}(h:isIntT P t=true):∃k,P.underlying t=some (.int k):=by
 unfold isIntT at h
 split at h
 ·rename_i k hk;exact⟨k,hk⟩
 ·cases h

theorem run_append_zeros{P:Program}{ts tx e:TypeId}{kx q:IntKind}{inf:TypeInfo}{z:Value}(hs:P.underlying ts=some (.slice e))(hx:P.underlying tx=some (.int kx))(hi:P.info? e=some inf)(hz:inf.zero=some z)
  {m:Nat} (h0:0<m) (hm:m<274877906944) (ty:TypeId) (hby:inf.bytes≤128) (hby1:1≤inf.bytes) (hsz:1≤inf.size) :
  ∃w',(Builtin.append_ #[ts,tx] ty #[.slice none 0 0,.int q m]).run P w = .ok (.slice (some ⟨w.heap.size,0,none⟩) m (grownCap w m 0 e)) w' ∧
   w'.heap=w.heap.push (.cells (Builtin.zeroCells z.cells m++Builtin.zeroCells z.cells (grownCap w m 0 e - m)) e)∧w'.os=w.os∧w'.output=w.output∧w'.tape=w.tape:=by
 have hw:IntKind.i64.wrap (m:Int)=m:=wrap_small (by omega) (by omega)
 have hmn:m≠0:=by omega
 have hb1 : ¬ ((281474976710656:Int)<(m:Int)*(inf.bytes:Int)):=by
  have:m*inf.bytes≤274877906944*128:=Nat.mul_le_mul (by omega) hby
  have h2:((m*inf.bytes:Nat):Int)=(m:Int)*(inf.bytes:Int):=by simp
  omega
 have h63' : ¬ (9223372036854775807<(m:Int)):=by omega
 have hb0 : ¬ inf.bytes=0:=by omega
 have hs0 : ¬ inf.size=0:=by omega
 have h48' : ¬ (281474976710656<Builtin.nextslicecap m 0*inf.bytes):=by
  have:=growslice_fits (need:=m) (old:=0) (bytes:=inf.bytes) h0 (by
   have:m*inf.bytes≤274877906944*128:=Nat.mul_le_mul (by omega) hby
   omega)
  omega
 refine⟨w.drew.alloc (.cells (Builtin.zeroCells z.cells m++Builtin.zeroCells z.cells (grownCap w m 0 e - m)) e),?_,rfl,rfl,rfl,rfl⟩
 simp [Builtin.append_,run_underlying hs,run_underlying hx,sizeOf,typeInfo,zeroValue,hi,hz,asInt,asIntOf,hw,hmn,hb1,h63',h48',Question.forced,newRow,grownCap,hb0,Builtin.firstCells]
 rw [if_neg (by omega),if_neg (by intro h9;rcases Nat.mul_eq_zero.1 h9 with h9 | h9 <;> omega)]

theorem RowL.take{own:Bool}{t:Ty}{xs:List t.T}{cs:List Value}{Fs:List (List Nat)}(h:RowL own w t xs cs Fs){k:Nat}(hk:k≤xs.length):RowL own w t (xs.take k) (cs.take (k*t.size)) (Fs.take k):=by
 have hm:=Nat.mul_le_mul_right t.size hk
 refine⟨by rw [List.length_take,List.length_take,h.1,Nat.min_eq_left hm,Nat.min_eq_left hk],by rw [List.length_take,List.length_take,h.2.1],fun i x Fi hx hF => ?_⟩
 rw [List.getElem?_take]at hx hF
 split at hx
 ·rename_i hi
  rw [if_pos hi]at hF
  have h1:=h.2.2 i x Fi hx hF
  have h2:(i+1)*t.size≤k*t.size:=Nat.mul_le_mul_right _ hi
  rw [Nat.add_mul]at h2
  rw [List.drop_take,List.take_take,Nat.min_eq_left (by omega)]
  exact h1
 ·cases hx

theorem src_pfx{ty:Ty}{oid kk n c:Nat}{A:Option Addr}{F G:List Nat}{xs:List ty.T}{k:List ty.T→List Nat→Pg α}{r:α×St}(hR:Rel X σ ι a w)(hF:Free X σ ι w G)(hex:(σ.H oid).excl=true)
  (eo:ι oid = .row A n c F) (hr:RR true w ty xs A n c F) (hk:kk≤n) (h:(Pg.putB oid .dead (newB (oid+6) (.hof ty xs kk) (newB (oid+7) (.lnk oid (oid+6)) (k (xs.take kk) [])))).run σ=some r) :
  ∃cs Gs σ1 ι1,Lift ι ι1∧RowL true w ty (xs.take kk) cs Gs∧At w A cs∧Rel X σ1 ι1 a w∧Free X σ1 ι1 w (G++Gs.flatten)∧(k (xs.take kk) []).run σ1=some r:=by
 simp only [Pg.run]at h
 have hR1:=hR.kill (id:=oid) (by intro e9;rw [e9]at hex;cases hex)
 have hF1:=hF.give hR (id:=oid) hex
 rw [eo]at hF1
 simp only [Home.foot]at hF1
 obtain⟨hun,h⟩:=newB_run h
 have hn:=hr.1
 have hnc:=hr.2.1
 obtain⟨cs,Fs,hl,hat,hFF⟩:=RR_list hr
 have hlt:=hl.take (k:=kk) (by omega)
 have hat2:At w A (cs.take (kk*ty.size)):=by
  intro j u hj
  rw [List.getElem?_take]at hj
  split at hj
  ·exact hat j u hj
  ·cases hj
 have hsplit:Fs.flatten=(Fs.take kk).flatten++(Fs.drop kk).flatten:=by rw [←List.flatten_append,List.take_append_drop]
 have key:∃L,Hof w ty xs kk A n c L∧Free X (σ.setH oid .dead) ι w (L++(G++(Fs.take kk).flatten)):=by
  rcases hFF with ⟨h1,h2,h3⟩ | ⟨b,o,arr,e,fr,G9,hA,hb,hf,hFe,htk,hroom⟩
  ·have h3:=h3 rfl
   have hx:xs = []:=List.eq_nil_of_length_eq_zero (by omega)
   refine⟨[],⟨hn,hk,hnc,.inl ⟨hx,rfl,h3⟩⟩,?_⟩
   have hFs:Fs = []:=List.eq_nil_of_length_eq_zero (by rw [hl.2.1,hx];rfl)
   subst hFs
   rw [h1]at hF1
   simpa using hF1
  ·have hf:=hf rfl
   subst hf
   simp only [if_true]at hroom
   refine⟨b::((Fs.drop kk).flatten++G9),⟨hn,hk,hnc,.inr ⟨b,o,arr,e,Fs.drop kk,G9,hA,hb,hroom,rfl,fun q hq=>hF1.lt q (by rw [hFe];simp [hq]),by rw [List.length_drop,hl.2.1],fun j x Fj hx hFj => ?_⟩⟩,?_⟩
   ·rw [List.getElem?_drop]at hFj
    have h1:=hl.2.2 (kk+j) x Fj hx hFj
    have hi:kk+j<xs.length:=(List.getElem?_eq_some_iff.1 hx).1
    have h2:(kk+j+1)*ty.size≤xs.length*ty.size:=Nat.mul_le_mul_right _ hi
    rw [Nat.add_mul (kk+j) 1]at h2
    rw [←htk,hl.1,List.drop_take,List.take_take,Nat.min_eq_left (by omega),List.drop_drop]at h1
    exact h1
   ·have hp:(b::((Fs.drop kk).flatten++G9)++(G++(Fs.take kk).flatten)).Perm (G++F):=by
     rw [hFe,hsplit]
     refine List.perm_iff_count.2 fun q => ?_
     simp only [List.count_append,List.count_cons,List.cons_append]
     omega
    exact hF1.sub (fun q hq=>hp.mem_iff.1 hq) (hp.nodup_iff.2 hF1.nd)
 obtain⟨L,hof,hF2⟩:=key
 obtain⟨hR2,hF3,hL2⟩:=hR1.take hF2 hun (blk := .hof ty xs kk) (home := .row A n c L) rfl ⟨A,n,c,_,rfl,hof⟩ rfl (by simp)
 obtain⟨hun2,h⟩:=newB_run h
 have hR4:=hR2.newId hun2 (blk := .lnk oid (oid+6)) (home := .clo #[]) (w':=w) (WLe.refl _) (fun _ _=>rfl)
  (fun _=>⟨⟨_,rfl⟩,A,n,c,F,L,by rw [upd_ne _ _ (by omega),eo],upd_same _ _ _⟩) (fun h=>absurd rfl h) (fun h=>by cases h) (fun h=>by cases h) (fun _ _ h=>by cases h)
  (fun q hq=>by simp [Blk.par]at hq) (fun q hq=>by simp [Blk.par]at hq) (by simp)
 have hn4:=hR2.unborn hun2
 refine⟨_,_,_,_,fun j hj=>(upd_ne _ _ (fun e=>by subst e;exact hj ((hL2 _ hj).symm.trans hn4))).trans (hL2 j hj),hlt,hat2,hR4,⟨fun j hl hp b hb hb2 => ?_,hF3.lt,hF3.mu,hF3.nd⟩,h⟩
 by_cases ej:j=oid+7
 ·subst ej
  rw [setH_same]at hl
  cases hl
 ·rw [setH_ne _ _ ej]at hl hp
  rw [upd_ne _ _ ej]at hb2
  refine hF3.away j hl (fun q hq => ?_) b hb hb2
  have:=hp q hq
  rwa [setH_ne _ _ (show q.1≠oid+7 from fun e=>hR2.pb j q hq (by rw [e];exact hun2))]at this

theorem src_pfs{ty:Ty}{j kk n c:Nat}{A:Option Addr}{F G:List Nat}{xs:List ty.T}{k:List ty.T→List Nat→Pg α}{r:α×St}(hR:Rel X σ ι a w)(hF:Free X σ ι w G)(hex:(σ.H j).excl=true)
  (ej:ι j = .row A n c F) (hh:Hof w ty xs kk A n c F) (h:(Pg.putB j .dead (k (xs.drop kk) [])).run σ=some r) :
  ∃cs Gs σ1,RowL true w ty (xs.drop kk) cs Gs∧At w (if c=kk then A else A.map (·.add (kk*ty.size))) cs∧Rel X σ1 ι a w∧Free X σ1 ι w (G++Gs.flatten)∧(k (xs.drop kk) []).run σ1=some r:=by
 simp only [Pg.run]at h
 have hR1:=hR.kill (id:=j) (by intro e9;rw [e9]at hex;cases hex)
 have hF1:=hF.give hR (id:=j) hex
 rw [ej]at hF1
 simp only [Home.foot]at hF1
 obtain⟨L,hsub,hnd,hr⟩:=Hof_suf hh
 have hnF:=List.nodup_append.1 hF1.nd
 have hF2:Free X (σ.setH j .dead) ι w (G++L):=hF1.sub (fun b hb=>by
   rcases List.mem_append.1 hb with hb | hb
   ·exact List.mem_append.2 (.inl hb)
   ·exact List.mem_append.2 (.inr (hsub b hb))) (by
   rw [List.nodup_append]
   exact⟨hnF.1,hnd hnF.2.1,fun x hx y hy=>hnF.2.2 x hx y (hsub y hy)⟩)
 obtain⟨cs,Fs,hl,hat,hFF⟩:=RR_list hr
 refine⟨cs,Fs,_,hl,hat,hR1,?_,h⟩
 rcases hFF with ⟨h1,h2,_⟩ | ⟨b,o,arr,e,fr,G9,_,_,_,h1,_,_⟩
 ·rw [h2];rw [h1]at hF2;exact hF2
 ·rw [h1]at hF2
  have hnd:=hF2.nd
  rw [List.nodup_append]at hnd
  refine hF2.sub (fun b' hb' => ?_) ?_
  ·rcases List.mem_append.1 hb' with h | h
   ·exact List.mem_append.2 (.inl h)
   ·exact List.mem_append.2 (.inr (List.mem_cons_of_mem _ (List.mem_append.2 (.inl h))))
  ·rw [List.nodup_append]
   exact⟨hnd.1,(List.nodup_append.1 (List.nodup_cons.1 hnd.2.1).2).1,fun x hx y hy=>hnd.2.2 x hx y (List.mem_cons_of_mem _ (List.mem_append.2 (.inl hy)))⟩

theorem src0_run{ty:Ty}{l:List Sc}{u:Value}{G:List Nat}{k:List ty.T→List Nat→Pg α}{r:α×St}(hR:Rel X σ ι a w)(hF:Free X σ ι w G)(hv:RAV ι (.one l false) u)(hsz:1≤ty.size)
  (h:(appendSrc0 ty l k).run σ=some r) :
  ∃ys us cs Gs σ1 ι1 B m c',Lift ι ι1∧u = .slice B m c'∧m=ys.length∧RowL true w ty ys cs Gs∧At w B cs∧Rel X σ1 ι1 a w∧Free X σ1 ι1 w (G++Gs.flatten)∧(k ys us).run σ1=some r:=by
 unfold appendSrc0 at h
 obtain⟨ys,rest,σ1,vs1,vs2,F,hvs,hrest,hre,hR1,hF1,h⟩:=rdO_run hR hF h (RVs_list hv)
 split at h
 ·cases vs2 with
  | cons _ _=>exact hrest.elim
  | nil =>
   obtain⟨B,m,c',rfl,hrow⟩:=hre
   rw [List.append_nil]at hvs
   obtain⟨cs,Fs,hl,hat,hFF⟩:=RR_list hrow
   have hu:u = .slice B m c':=by simpa [cellsOf] using hvs
   refine⟨ys,[],cs,Fs,σ1,ι,B,m,c',fun _ _=>rfl,hu,hrow.1,hl,hat,hR1,?_,h⟩
   rcases hFF with ⟨h1,h2,_⟩ | ⟨b,o,arr,e,fr,G9,_,_,_,h1,_,_⟩
   ·rw [h2];rw [h1]at hF1;exact hF1
   ·rw [h1]at hF1
    have hnd:=hF1.nd
    rw [List.nodup_append]at hnd
    refine hF1.sub (fun b' hb' => ?_) ?_
    ·rcases List.mem_append.1 hb' with h | h
     ·exact List.mem_append.2 (.inl h)
     ·exact List.mem_append.2 (.inr (List.mem_cons_of_mem _ (List.mem_append.2 (.inl h))))
    ·rw [List.nodup_append]
     exact⟨hnd.1,(List.nodup_append.1 (List.nodup_cons.1 hnd.2.1).2).1,fun x hx y hy=>hnd.2.2 x hx y (List.mem_cons_of_mem _ (List.mem_append.2 (.inl hy)))⟩
 ·cases h

theorem src_run{ty:Ty}{vx:AV}{u:Value}{G:List Nat}{k:List ty.T→List Nat→Pg α}{r:α×St}(hR:Rel X σ ι a w)(hF:Free X σ ι w G)(hv:RAV ι vx u)(hsz:1≤ty.size)
  (h:(appendSrc ty vx k).run σ=some r) :
  ∃ys us cs Gs σ1 ι1 B m c',Lift ι ι1∧u = .slice B m c'∧m=ys.length∧RowL true w ty ys cs Gs∧At w B cs∧Rel X σ1 ι1 a w∧Free X σ1 ι1 w (G++Gs.flatten)∧(k ys us).run σ1=some r:=by
 unfold appendSrc at h
 split at h
 ·rename_i l
  cases hfl:ty.flat with
  | true =>
   rw [hfl]at h
   simp only [cond_true]at h
   obtain⟨ys,rest,us,vs1,vs2,F,hvs,hrest,hre,_,h⟩:=rdT_run hR h (RVs_list hv)
   split at h
   ·cases vs2 with
    | cons _ _=>exact hrest.elim
    | nil =>
     obtain⟨B,m,c',rfl,hrow⟩:=hre
     rw [List.append_nil]at hvs
     obtain⟨cs,Fs,hl,hat,_⟩:=RR_list hrow
     have hu:u = .slice B m c':=by simpa [cellsOf] using hvs
     exact⟨ys,us,cs,List.replicate ys.length [],σ,ι,B,m,c',fun _ _=>rfl,hu,hrow.1,hl.flat hfl true w,hat,hR,by simpa using hF,h⟩
   ·cases h
  | false =>
   rw [hfl]at h
   simp only [cond_false]at h
   split at h
   ·rename_i id
    replace h:=getB_run h
    split at h
    ·rename_i oid kk hb
     have hbl:=hR.bl id
     rw [hb]at hbl
     obtain⟨A,n,c,F,eo,hk,eid⟩:=hbl
     obtain⟨B,m,c',F',e1,hu⟩:=RAV_sc.1 hv
     rw [eid]at e1
     cases e1
     replace h:=getB_run h
     split at h
     ·rename_i t' xs ver hbo
      split at h
      ·rename_i xs' hx'
       obtain⟨rfl,rfl⟩:=castRow_some hx'
       have hr:=row_of hR hbo (chk_none rfl) eo
       obtain⟨cs,Gs,σ1,ι1,hL,h1,h2,h3,h4,h5⟩:=src_pfx hR hF (by rw [hbo];rfl) eo hr hk h
       exact⟨_,[],cs,Gs,σ1,ι1,A,kk,c,hL,hu,by rw [List.length_take,Nat.min_eq_left (by have:=hr.1;omega)],h1,h2,h3,h4,h5⟩
      ·cases h
     ·cases h
    ·rename_i oid kk sz hb
     have hbl:=hR.bl id
     rw [hb]at hbl
     obtain⟨A,n,c,F,eo,hk,hnc,eid⟩:=hbl
     obtain⟨B,m,c',F',e1,hu⟩:=RAV_sc.1 hv
     rw [eid]at e1
     cases e1
     cases hsz2:Nat.beq sz ty.size with
     | false=>rw [hsz2]at h;cases h
     | true =>
      rw [hsz2]at h
      simp only [cond_true]at h
      have hsz3:=Nat.eq_of_beq_eq_true hsz2
      subst hsz3
      replace h:=getB_run h
      split at h
      ·rename_i oid' j hbl2
       cases hoo:Nat.beq oid oid' with
       | false=>rw [hoo]at h;cases h
       | true =>
        rw [hoo]at h
        simp only [cond_true]at h
        have hoo:=Nat.eq_of_beq_eq_true hoo
        subst hoo
        have hl2:=hR.bl (oid+7)
        rw [hbl2]at hl2
        obtain⟨_,A2,n2,c2,F3,F4,e3,e4⟩:=hl2
        rw [eo]at e3
        cases e3
        replace h:=getB_run h
        split at h
        ·rename_i t' xs k' hbj
         split at h
         ·rename_i xs' hx'
          obtain⟨rfl,rfl⟩:=castRow_some hx'
          have hbl3:=hR.bl j
          rw [hbj]at hbl3
          obtain⟨A5,n5,c5,L5,e5,hof⟩:=hbl3
          rw [e4]at e5
          cases e5
          cases hkk:Nat.beq kk k' with
          | false=>simp only [Pg.run]at h;rw [hkk]at h;cases h
          | true =>
           rw [Pg.run,hkk]at h
           have hkk:=Nat.eq_of_beq_eq_true hkk
           subst hkk
           obtain⟨cs,Gs,σ1,h1,h2,h3,h4,h5⟩:=src_pfs hR hF (by rw [hbj];rfl) e4 hof h
           exact⟨_,[],cs,Gs,σ1,ι,_,n - kk,c - kk,fun _ _=>rfl,hu,by rw [List.length_drop,hof.1],h1,h2,h3,h4,h5⟩
         ·cases h
        ·cases h
      ·cases h
    ·exact src0_run hR hF hv hsz h
   ·exact src0_run hR hF hv hsz h
 ·cases h

theorem asNil_run0{ι:Nat→Home}{av:AV}{v:Value}(h:asNil av=true)(hv:RAV ι av v):v = .slice none 0 0:=by
 unfold asNil at h
 split at h
 ·exact(RAV_v.1 hv).1
 ·cases h

theorem append_args{P:Program}{c:Call}{s x:Operand}{ts tx:TypeId}(hc:c.callee = .builtin .append)(ha:c.args.toList = [s,x])(ht:c.argTypes.toList = [ts,tx])(ho:o.op = .call c){v:Value}{w':World}
  (h:(Builtin.append_ #[ts,tx] o.type #[a.eval s,a.eval x]).run P w = .ok v w'):(execOp a.eval o).run P w = .ok (.value v) w':=by
 have h1:c.args = #[s,x]:=by rw [←Array.toArray_toList (xs:=c.args),ha]
 have h2:c.argTypes = #[ts,tx]:=by rw [←Array.toArray_toList (xs:=c.argTypes),ht]
 simp [execOp,ho,resolve,hc,h1,h2,invoke,builtin,h]

theorem op_append{c:Call}(hty:∀e t,X.C.ty e=some t→TyOk X.C.P e t)(ho:o.op = .call c)(hc:c.callee = .builtin .append)(hR:Rel X σ ι a w)(h:(opPg X.C nid o).run σ=some ((),σ')):Done X o σ' a w:=by
 simp only [opPg,ho,hc]at h
 split at h
 ·rename_i s x ts tx ha ht
  unfold appendPg at h
  split at h
  ·rename_i e ty ex he hxe
   obtain⟨hu,hte⟩:=elemT_run he
   have hux:=sliceOf_run hxe
   obtain⟨inf,z,hi,hsz,hz,hzc⟩:=hty e ty hte
   cases hcc:(bytesOk X.C.P e&&Nat.ble 1 ty.size)with
   | false=>rw [hcc]at h;cases h
   | true =>
    rw [hcc]at h
    simp only [cond_true]at h
    rw [Bool.and_eq_true]at hcc
    obtain⟨i',hi',hby,hby1⟩:=bytesOk_run hcc.1
    rw [hi]at hi'
    cases hi'
    have h1:1≤ty.size:=Nat.le_of_ble_eq_true hcc.2
    have hzs:z.cells.size=ty.size:=by
     have:=RE_len (RE_zero (own:=true) (w:=w) ty)
     rw [←hzc]at this
     simpa using this
    obtain⟨vs,hvs,h2⟩:=opnd1_run hR h
    clear h
    obtain⟨vx,hvx,h3⟩:=opnd_run hR h2
    clear h2
    obtain⟨ys,us,ds,Gs,σ1,ι1,B,m,c',hLι,hux',hm,hlG,hatG,hR1,hF1,h⟩:=src_run (G := []) hR Free.nil hvx h1 h3
    clear h3
    replace hvs:=RAV_lift hLι hvs
    simp only [List.nil_append]at hF1
    have hds:=hlG.1
    split at h
    ·-- no room behind
     rename_i id
     obtain⟨A,n,F,eι,hs0⟩:=RAV_sc.1 hvs
     cases hfl:ty.flat with
     | false=>rw [hfl]at h;cases h
     | true =>
     rw [hfl]at h
     simp only [cond_true]at h
     replace h:=getB_run h
     split at h
     ·rename_i t' xs own ver par hb
      split at h
      ·rename_i xs' hx'
       obtain⟨rfl,rfl⟩:=castRow_some hx'
       obtain⟨hp,h⟩:=chkPar_run h
       simp only [Pg.run]at h
       have hr:=row_of hR1 hb hp eι
       cases hpos:decide (0<ys.length)with
       | false=>rw [hpos]at h;cases h
       | true =>
        rw [hpos]at h
        simp only [cond_true]at h
        cases hlt:decide (xs'.length+ys.length<lim)with
        | false=>rw [hlt]at h;cases h
        | true =>
         rw [hlt]at h
         have hlt:=of_decide_eq_true hlt
         have hpos:=of_decide_eq_true hpos
         simp only [lim]at hlt
         simp only [cond_true]at h
         have hn:=hr.1
         obtain⟨cs,Fs,hl,hat,hFF⟩:=RR_list hr
         obtain⟨hun,h⟩:=newB_run h
         have hlcs:=hl.1
         have hl2:=hl.flat hfl true w
         have hG2:=hlG.flat hfl true w
         obtain⟨w',hrun,hw',hio⟩:=run_append_grown (P:=X.C.P) (w:=w) hu hux hi hz (A:=A) (B:=B) (n:=n) (c:=n) (m:=m) (c':=c') (olds:=cs) (news:=ds)
          hat hatG (by rw [hlcs,hsz,hn]) (by rw [hds,hsz,hm]) (by omega) o.type (by omega) hby hby1
         have hge:=grownCap_ge w (n+m) n e
         have hlen:(xs'++ys).length=n+m:=by simp;omega
         have hnil:(List.replicate xs'.length ([]:List Nat)++List.replicate ys.length []).flatten = []:=by simp
         have hR3:=hR1.newRow (G := []) Free.nil hun hw' hio (hl2.append hG2) (c:=grownCap w (n+m) n e) (by
           rw [show(cs.toArray++ds.toArray++Builtin.zeroCells z.cells (grownCap w (n+m) n e - (n+m))).toList=(cs++ds)++(Builtin.zeroCells z.cells (grownCap w (n+m) n e - (n+m))).toList by simp]
           exact List.take_left) (by omega) (by
           simp only [Array.size_append,List.size_toArray,size_zeroCells,hzs,hds,hlcs]
           rw [←hm,←hn,←Nat.add_mul,←Nat.add_mul]
           exact Nat.mul_le_mul_right _ (by omega)) (fun b hb=>by rw [hnil]at hb;cases hb) (by simp)
         rw [hlen]at hR3
         refine Done.put hR3 (RAV_sl (upd_same _ _ _)) (append_args hc ha ht ho ?_) h
         rw [hs0,hux']
         exact hrun
      ·cases h
     ·cases h
    ·-- nothing yet
     obtain⟨hs0,_⟩:=RAV_v.1 hvs
     simp only [Pg.run]at h
     cases hlt:decide (ys.length<lim)with
     | false=>rw [hlt]at h;cases h
     | true =>
      rw [hlt]at h
      have hlt:=of_decide_eq_true hlt
      simp only [lim]at hlt
      obtain⟨hun,h⟩:=newB_run h
      by_cases hm0:m=0
      ·have hys:ys = []:=List.eq_nil_of_length_eq_zero (by omega)
       subst hys
       have hds0:ds = []:=List.eq_nil_of_length_eq_zero (by rw [hds];simp)
       subst hds0
       have hrun:=run_append_none (P:=X.C.P) (w:=w) hu hux hi (c:=0) (c':=c') (A:=none) (B:=B) hatG o.type (.inl rfl)
       have hGs:Gs = []:=List.eq_nil_of_length_eq_zero (by simpa using hlG.2.1)
       have hrr:RR true w ty [] none 0 0 []:=⟨rfl,Nat.le_refl _,.inl ⟨rfl,rfl,fun _=>rfl⟩⟩
       have hR2:=(hR1.take (F := []) (G := []) Free.nil hun (blk := .row ty [] true 0 []) (home := .row none 0 0 []) rfl ⟨_,_,_,_,rfl,fun _=>hrr⟩ rfl (by simp)).1
       refine Done.put hR2 (RAV_sl (upd_same _ _ _)) (append_args hc ha ht ho ?_) h
       rw [hs0,hux',hm0]
       exact hrun
      ·obtain⟨w',hrun,hw',hio⟩:=run_append_grown (P:=X.C.P) (w:=w) hu hux hi hz (A:=none) (B:=B) (n:=0) (c:=0) (m:=m) (c':=c') (olds := []) (news:=ds)
        (fun j u hj=>by simp at hj) hatG (by simp) (by rw [hds,hsz,hm]) (by omega) o.type (by omega) hby hby1
       simp only [Nat.zero_add]at hw' hrun
       have hge:=grownCap_ge w m 0 e
       have hR2:=hR1.newRow hF1 hun hw' hio hlG (c:=grownCap w m 0 e) (by simp) (by omega) (by
        simp only [Array.size_append,List.size_toArray,size_zeroCells,hzs,hds]
        rw [←hm,List.length_nil,Nat.zero_add,←Nat.add_mul]
        exact Nat.mul_le_mul_right _ (by omega)) (fun b hb=>hb) hF1.nd
       rw [←hm]at hR2
       refine Done.put hR2 (RAV_sl (upd_same _ _ _)) (append_args hc ha ht ho ?_) h
       rw [hs0,hux']
       exact hrun
    ·rename_i id
     obtain⟨A,n,cp,F,eι,hs0⟩:=RAV_sc.1 hvs
     have key:∀(xs':List ty.T),(σ1.H id).excl=true→RR true w ty xs' A n cp F →
       (Pg.br (decide (xs'.length+ys.length<lim)) (Pg.putB id .dead (newB nid (.row ty (xs'++ys) true 0 []) (putD X.C o.dst (.sc (.sl nid)) (.ret ())))) .fail:Pg Unit).run σ1=some ((),σ')→Done X o σ' a w:=by
       intro xs' hex hr h
       cases hdj:true with
       | false=>cases hdj
       | true =>
        simp only [Pg.run]at h
        cases hlt:decide (xs'.length+ys.length<lim)with
        | false=>rw [hlt]at h;cases h
        | true =>
         rw [hlt]at h
         have hlt:=of_decide_eq_true hlt
         simp only [lim]at hlt
         simp only [cond_true]at h
         have hn:=hr.1
         obtain⟨cs,Fs,hl,hat,hFF⟩:=RR_list hr
         have hR2:=hR1.kill (id:=id) (by intro e9;rw [e9]at hex;cases hex)
         have hF2:=hF1.give hR1 (id:=id) hex
         rw [eι]at hF2
         simp only [Home.foot]at hF2
         obtain⟨hun,h⟩:=newB_run h
         have hlcs:=hl.1
         by_cases hfit:n+m≤cp
         ·-- it fits
          rcases hFF with ⟨hF0,hFs0,hcp⟩ | ⟨b,o',arr,el,fr,G9,hA,hbb,hfr,hFe,htk,hroom⟩
          ·have hcp:=hcp rfl
           have hn0:n=0:=by omega
           have hm0:m=0:=by omega
           have hxs:xs' = []:=List.eq_nil_of_length_eq_zero (by omega)
           have hys:ys = []:=List.eq_nil_of_length_eq_zero (by omega)
           subst hxs;subst hys
           have hds0:ds = []:=List.eq_nil_of_length_eq_zero (by rw [hds];simp)
           subst hds0
           have hrun:(Builtin.append_ #[ts,tx] o.type #[.slice A 0 cp,.slice B 0 c']).run X.C.P w = .ok (.slice A 0 cp) w:=by
            have h0:=run_firstCells (P:=X.C.P) (w:=w) (n:=0) (c:=c') (size:=inf.size) (k:=0) hatG (by simp)
            cases A with
            | none=>simp [Builtin.append_,run_underlying hu,run_underlying hux,sizeOf,typeInfo,hi,Builtin.lenOf,h0]
            | some a0=>simp [Builtin.append_,run_underlying hu,run_underlying hux,sizeOf,typeInfo,hi,Builtin.lenOf,h0,storeCells]
           have hrr:RR true w ty ([] ++ []) A 0 cp []:=⟨rfl,Nat.zero_le _,.inl ⟨rfl,rfl,fun _=>hcp⟩⟩
           have hR3:=(hR2.take (F := []) (G := []) Free.nil hun (blk := .row ty ([] ++ []) true 0 []) (home := .row A 0 cp []) rfl ⟨_,_,_,_,rfl,fun _=>hrr⟩ rfl (by simp)).1
           refine Done.put hR3 (RAV_sl (upd_same _ _ _)) (append_args hc ha ht ho ?_) h
           rw [hs0,hux',hn0,hm0]
           exact hrun
          ·have hfr:=hfr rfl
           subst hfr
           simp only [if_true]at hroom
           have hmul:(n+m)*ty.size≤cp*ty.size:=Nat.mul_le_mul_right _ hfit
           rw [Nat.add_mul]at hmul
           have hrun:=run_append_fit (P:=X.C.P) (w:=w) hu hux hi (A:=A) (B:=B) (n:=n) (c:=cp) (m:=m) (c':=c') (news:=ds) hatG (by rw [hds,hsz,hm]) hfit o.type hA hbb (by rw [hsz,hds,←hm];omega) (hlG.one h1)
           rw [hsz]at hrun
           let arr':=(arr.toList.take (o'+n*ty.size)++ds++arr.toList.drop (o'+n*ty.size+ds.length)).toArray
           have hnd:=hF2.nd
           rw [hFe,List.nodup_append,List.nodup_cons]at hnd
           obtain⟨hndG,⟨hbF,hndF⟩,hdjF⟩:=hnd
           have hbF:b ∉ Fs.flatten:=fun h=>hbF (List.mem_append.2 (.inl h))
           have hndF:=(List.nodup_append.1 hndF).1
           have hbG:b ∉ Gs.flatten:=fun hm=>hdjF b hm b (by simp) rfl
           obtain⟨hR3,hF3⟩:=hR2.freeWrite hF2 (b:=b) (by rw [hFe];simp) (w':=w.setRow b arr') (setRow_size _ _ _) ⟨rfl,rfl,rfl⟩ (fun k hk=>setRow_other _ _ _ _ hk)
           have hl3:RowL true (w.setRow b arr') ty (xs'++ys) (cs++ds) (Fs++Gs) :=
            (hl.frame (fun x=>x) (fun k hk=>setRow_other _ _ _ _ (by intro e;rw [e]at hk;exact hbF hk))).append (hlG.frame (fun x=>x) (fun k hk=>setRow_other _ _ _ _ (by intro e;rw [e]at hk;exact hbG hk)))
           have hp0:o'+n*ty.size+ds.length≤arr.size:=by rw [hds,←hm];omega
           have harr':arr'.size=arr.size:=by simp [arr'];omega
           have hlen:(xs'++ys).length=n+m:=by simp;omega
           have hrr:RR true (w.setRow b arr') ty (xs'++ys) (some ⟨b,o',none⟩) (xs'++ys).length cp (b::(Fs++Gs).flatten):=by
            refine RR_of (arr:=arr') (e:=el) hl3 (setRow_arr hbb) ?_ (by omega) (by rw [harr'];exact hroom)
            have hp:o'+n*ty.size+ds.length≤arr.toList.length:=by simp;rw [hds,←hm];omega
            simp only [arr',List.length_append]
            apply List.ext_getElem?
            intro k
            rw [List.getElem?_take,List.getElem?_append,hlcs]
            split
            ·rename_i hk
             rw [List.getElem?_drop,seg_get hp]
             by_cases hk2:k<xs'.length*ty.size
             ·rw [if_neg (by rw [hn];omega),if_pos hk2]
              have:=congrArg (fun l=>l[k]?) htk
              simp only [List.getElem?_take]at this
              rw [if_pos (by rw [hlcs];exact hk2),List.getElem?_drop]at this
              exact this
             ·rw [if_pos (by rw [hn];omega),if_neg hk2]
              congr 1
              rw [hn];omega
            ·rename_i hk
             rw [if_neg (by omega),List.getElem?_eq_none (by omega)]
           rw [hlen]at hrr
           have hR4:=(hR3.take (F:=b::(Fs++Gs).flatten) (G := []) (by
            rw [List.append_nil]
            refine hF3.sub (fun k hk => ?_) ?_
            ·rw [hFe]
             rcases List.mem_cons.1 hk with rfl | hk
             ·simp
             ·rw [List.flatten_append]at hk
              rcases List.mem_append.1 hk with hk | hk
              ·simp only [List.mem_append,List.mem_cons];exact .inr (.inr (.inl hk))
              ·simp only [List.mem_append];exact .inl hk
            ·rw [List.nodup_cons,List.flatten_append,List.nodup_append]
             exact⟨fun hm=>by rcases List.mem_append.1 hm with hm | hm;exact hbF hm;exact hbG hm,hndF,hndG,fun p hp q hq e=>hdjF q hq p (List.mem_cons_of_mem _ (List.mem_append.2 (.inl hp))) e.symm⟩) hun
            (blk := .row ty (xs'++ys) true 0 []) (home := .row (some ⟨b,o',none⟩) (n+m) cp (b::(Fs++Gs).flatten)) rfl ⟨_,_,_,_,rfl,fun _=>hrr⟩ rfl (by simp)).1
           refine Done.put hR4 (RAV_sl (upd_same _ _ _)) (append_args hc ha ht ho ?_) h
           rw [hs0,hux',hrun,hA]
         ·obtain⟨w',hrun,hw',hio⟩:=run_append_grown (P:=X.C.P) (w:=w) hu hux hi hz (A:=A) (B:=B) (n:=n) (c:=cp) (m:=m) (c':=c') (olds:=cs) (news:=ds)
           hat hatG (by rw [hlcs,hsz,hn]) (by rw [hds,hsz,hm]) (by omega) o.type (by omega) hby hby1
          have hge:=grownCap_ge w (n+m) cp e
          have hlen:(xs'++ys).length=n+m:=by simp;omega
          have hsub:∀k∈Fs.flatten,k∈F:=by
           rcases hFF with ⟨_,h0,_⟩ | ⟨b,_,_,_,_,_,_,_,_,h0,_,_⟩
           ·rw [h0];simp
           ·rw [h0];exact fun k hk=>List.mem_cons_of_mem _ (List.mem_append.2 (.inl hk))
          have hndFs:Fs.flatten.Nodup:=by
           have:=hF2.nd
           rw [List.nodup_append]at this
           rcases hFF with ⟨_,h0,_⟩ | ⟨b,_,_,_,_,_,_,_,_,h0,_,_⟩
           ·rw [h0];simp
           ·rw [h0]at this;exact(List.nodup_append.1 (List.nodup_cons.1 this.2.1).2).1
          have hnd:=hF2.nd
          rw [List.nodup_append]at hnd
          have hR3:=hR2.newRow hF2 hun hw' hio (hl.append hlG) (c:=grownCap w (n+m) cp e) (by
            rw [show(cs.toArray++ds.toArray++Builtin.zeroCells z.cells (grownCap w (n+m) cp e - (n+m))).toList=(cs++ds)++(Builtin.zeroCells z.cells (grownCap w (n+m) cp e - (n+m))).toList by simp]
            exact List.take_left) (by omega) (by
            simp only [Array.size_append,List.size_toArray,size_zeroCells,hzs,hds,hlcs]
            rw [←hm,←hn,←Nat.add_mul,←Nat.add_mul]
            exact Nat.mul_le_mul_right _ (by omega)) (fun b hb=>by
             rw [List.flatten_append]at hb
             rcases List.mem_append.1 hb with hb | hb
             ·exact List.mem_append.2 (.inr (hsub b hb))
             ·exact List.mem_append.2 (.inl hb)) (by
             rw [List.flatten_append,List.nodup_append]
             exact⟨hndFs,hnd.1,fun p hp q hq e=>hnd.2.2 q hq p (hsub p hp) e.symm⟩)
          rw [hlen]at hR3
          refine Done.put hR3 (RAV_sl (upd_same _ _ _)) (append_args hc ha ht ho ?_) h
          rw [hs0,hux']
          exact hrun
     replace h:=getB_run h
     split at h
     ·rename_i t' xs ver hb
      split at h
      ·rename_i xs' hx'
       obtain⟨rfl,rfl⟩:=castRow_some hx'
       exact key _ (by rw [hb];rfl) (row_of hR1 hb (chk_none rfl) eι) h
      ·cases h
     ·rename_i t' xs xs2 ver hb
      split at h
      ·rename_i xs' hx'
       obtain⟨rfl,rfl⟩:=castRow_some hx'
       obtain⟨hnw,hrw⟩:=win_of hR1 hb (chk_none rfl) eι
       exact key _ (by rw [hb];rfl) (RR_pre hnw hrw) h
      ·cases h
     ·cases h
    ·cases h
  ·rename_i e ty he hxe
   obtain⟨hu,hte⟩:=elemT_run he
   obtain⟨inf,z,hi,hsz,hz,hzc⟩:=hty e ty hte
   cases hcc:(isIntT X.C.P tx&&bytesOk X.C.P e&&Nat.ble 1 ty.size)with
   | false=>rw [hcc]at h;cases h
   | true =>
    rw [hcc]at h
    simp only [cond_true]at h
    rw [Bool.and_eq_true,Bool.and_eq_true]at hcc
    obtain⟨kx,hux⟩:=isIntT_run hcc.1.1
    obtain⟨i',hi',hby,hby1⟩:=bytesOk_run hcc.1.2
    rw [hi]at hi'
    cases hi'
    have h1:1≤ty.size:=Nat.le_of_ble_eq_true hcc.2
    have hzs:z.cells.size=ty.size:=by
     have:=RE_len (RE_zero (own:=true) (w:=w) ty)
     rw [←hzc]at this
     simpa using this
    obtain⟨vs,hvs,h2⟩:=opnd_run hR h
    clear h
    cases hn:asNil vs with
    | false=>rw [hn]at h2;cases h2
    | true =>
     rw [hn]at h2
     simp only [cond_true]at h2
     have hs0:=asNil_run0 hn hvs
     obtain⟨vx,hvx,h⟩:=opnd_run hR h2
     clear h2
     split at h
     ·rename_i q m
      obtain⟨hx,_⟩:=RAV_v.1 hvx
      simp only [Pg.run]at h
      cases h0:decide (0≤m)with
      | false=>rw [h0]at h;cases h
      | true =>
       rw [h0]at h
       simp only [cond_true]at h
       cases hl:decide (m.toNat<lim)with
       | false=>rw [hl]at h;cases h
       | true =>
        rw [hl]at h
        simp only [cond_true]at h
        have h0:=of_decide_eq_true h0
        have hl:=of_decide_eq_true hl
        simp only [lim]at hl
        obtain⟨hun,h⟩:=newB_run h
        obtain⟨m,rfl⟩:=Int.eq_ofNat_of_zero_le h0
        simp only [Int.toNat_natCast]at h hun
        by_cases hm0:m=0
        ·subst hm0
         have hrun:(Builtin.append_ #[ts,tx] o.type #[.slice none 0 0,.int q 0]).run X.C.P w = .ok (.slice none 0 0) w:=by
          have hw:IntKind.i64.wrap (0:Int)=0:=wrap_small (by omega) (by omega)
          simp [Builtin.append_,run_underlying hu,run_underlying hux,sizeOf,typeInfo,hi,asInt,asIntOf,hw]
         have hrr:RR true w ty [] none 0 0 []:=⟨rfl,Nat.le_refl _,.inl ⟨rfl,rfl,fun _=>rfl⟩⟩
         have hR2:=(hR.take (F := []) (G := []) Free.nil hun (blk := .row ty [] true 0 []) (home := .row none 0 0 []) rfl ⟨_,_,_,_,rfl,fun _=>hrr⟩ rfl (by simp)).1
         refine Done.put hR2 (RAV_sl (upd_same _ _ _)) (append_args hc ha ht ho ?_) h
         rw [hs0,hx]
         exact hrun
        ·obtain⟨w',hrun,hw',hio⟩:=run_append_zeros (P:=X.C.P) (w:=w) (q:=q) hu hux hi hz (m:=m) (by omega) (by omega) o.type hby hby1 (by omega)
         have hge:=grownCap_ge w m 0 e
         have hzl:(Builtin.zeroCells z.cells m).size=m*ty.size:=by rw [size_zeroCells,hzs]
         have hrl:RowL true w ty (List.replicate m ty.dflt) (Builtin.zeroCells z.cells m).toList (List.replicate m []):=by
          refine⟨by simp [hzl],by simp,fun i x Fi hx hF => ?_⟩
          have hi:i<m:=by have:=(List.getElem?_eq_some_iff.1 hx).1;simpa using this
          rw [List.getElem?_replicate,if_pos hi]at hx hF
          cases hx
          cases hF
          have:=periodic (z:=z.cells) (n:=m*ty.size) (i:=i) hzs h1 (Nat.mul_le_mul_right _ hi)
          have e2:Builtin.zeroCells z.cells m=(Array.range (m*ty.size)).map (fun j=>z.cells[j % z.cells.size]!):=by simp [Builtin.zeroCells,hzs]
          rw [e2,this,hzc]
          exact RE_zero ty
         have hfl:(List.replicate m ([]:List Nat)).flatten = []:=by simp
         have hR2:=hR.newRow (G := []) Free.nil hun hw' hio hrl (c:=grownCap w m 0 e) (by
           rw [show(Builtin.zeroCells z.cells m++Builtin.zeroCells z.cells (grownCap w m 0 e - m)).toList=(Builtin.zeroCells z.cells m).toList++(Builtin.zeroCells z.cells (grownCap w m 0 e - m)).toList by simp]
           exact List.take_left) (by simpa using hge) (by
           simp only [Array.size_append,size_zeroCells,hzs]
           rw [←Nat.add_mul]
           exact Nat.mul_le_mul_right _ (by omega)) (by rw [hfl];simp) (by rw [hfl];simp)
         simp only [List.length_replicate]at hR2
         refine Done.put hR2 (RAV_sl (upd_same _ _ _)) (append_args hc ha ht ho ?_) h
         rw [hs0,hx]
         exact hrun
     ·cases h
  ·cases h
 ·cases h
theorem RowL.bytes{own:Bool}{xs:List Int}:∀ {cs:List Value} {Fs:List (List Nat)},RowL own w (.int .u8) xs cs Fs→cs=xs.map (Value.int .u8):=by
 intro cs Fs h
 apply List.ext_getElem?
 intro i
 by_cases hi:i<xs.length
 ·have hF:i<Fs.length:=by rw [h.2.1];exact hi
  have he:=h.2.2 i xs[i] Fs[i] (List.getElem?_eq_getElem hi) (List.getElem?_eq_getElem hF)
  have h1:(cs.drop (i*1)).take 1 = [Value.int .u8 xs[i]]:=he.1
  have h2:=congrArg (fun l=>l[0]?) h1
  simp only [List.getElem?_take,List.getElem?_drop]at h2
  rw [List.getElem?_map,List.getElem?_eq_getElem hi]
  simpa using h2
 ·have hl:=h.1
  simp only [Ty.size,Nat.mul_one]at hl
  rw [List.getElem?_eq_none (by omega),List.getElem?_eq_none (by simp;omega)]

theorem byteStr_run{P:Program}{s d:TypeId}(h:byteStr P s d=true):∃e,P.underlying s=some (.slice e)∧P.underlying e=some (.int .u8)∧P.underlying d=some .string:=by
 unfold byteStr at h
 split at h
 ·rename_i e he
  rw [Bool.and_eq_true]at h
  refine⟨e,sliceOf_run he,?_,?_⟩
  ·have h1:=h.1
   split at h1
   ·rename_i hu;exact hu
   ·cases h1
  ·have h2:=h.2
   unfold isStr at h2
   split at h2
   ·rename_i hu;exact hu
   ·cases h2
 ·cases h

theorem op_convert{s d:TypeId}{x:Operand}(ho:o.op = .convert s d x)(hR:Rel X σ ι a w)(h:(opPg X.C nid o).run σ=some ((),σ')):Done X o σ' a w:=by
 simp only [opPg,ho]at h
 obtain⟨av,hv,h⟩:=opnd_run hR h
 split at h
 ·rename_i id
  obtain⟨A,n,c,F,e,hx⟩:=RAV_sc.1 hv
  cases hc:byteStr X.C.P s d with
  | false=>rw [hc]at h;cases h
  | true =>
   rw [hc]at h
   simp only [cond_true]at h
   obtain⟨el,hs,he,hd⟩:=byteStr_run hc
   replace h:=getB_run h
   split at h
   ·rename_i xs own ver par hb
    obtain⟨hp,h⟩:=chkPar_run h
    have hr:=row_of hR hb hp e
    have hn:=hr.1
    obtain⟨cs,Fs,hl,hat,_⟩:=RR_list hr
    have hcs:=hl.bytes
    refine Done.put hR (RAV_v.2 ⟨rfl,rfl⟩) ?_ h
    have hconv:(convert s d (.slice A n c)).run X.C.P w = .ok (.string (strOfNums xs)) w:=by
     rw [run_convert_bytes_string w s d el A n c hs he hd]
     cases A with
     | none =>
      have:xs = []:=by
       cases xs with
       | nil=>rfl
       | cons y l=>rw [hcs]at hat;obtain⟨q,h0,_⟩:=hat 0 _ rfl;cases h0
      subst this
      simp [Conv.bytesToString]
      rfl
     | some b =>
      have hload:(loadCells b n).run X.C.P w = .ok (xs.map (Value.int .u8)).toArray w:=by
       have:=run_loadCells_list (P:=X.C.P) w b cs (fun j u hj=>by obtain⟨q,h0,h1⟩:=hat j u hj;cases h0;exact h1)
       have hlen:cs.length=n:=by rw [hcs,List.length_map,hn]
       rw [hlen,hcs]at this
       exact this
      rw [run_bytesToString w b n c xs hload,foldl_push_bytes]
      simp [strOfNums,ByteArray.empty,ByteArray.emptyWithCapacity]
      rfl
    simp [execOp,ho,hx,hconv]
   ·cases h
 ·exact op_plain hR (by rw [ho];simp) h

end
end Go.Ev
namespace Go.Ev
open Go
variable [KSl]

section
variable (w : World)

def ValR(own:Bool)(t:Ty)(g:Bool)(x:t.T)(v:Value)(F:List Nat):Prop:=RE own w t x (cellsOf g v) F∧(g=true→∃vs,v = .agg vs)

def PtrR(t:Ty)(x:t.T)(v:Value)(b:Nat)(fr:Nat×Nat)(F:List Nat):Prop:=∃o arr e,v = .pointer (some ⟨b,o,none⟩)∧w.heap[b]? = some (.cells arr e fr)∧o+t.size≤arr.size∧RE false w t x ((arr.toList.drop o).take t.size) F
def PtrW(t:Ty)(x:t.T)(v:Value)(b:Nat)(F:List Nat):Prop:=∃arr e,v = .pointer (some ⟨b,0,none⟩)∧w.heap[b]? = some (.cells arr e (0,0))∧RE false w t x arr.toList F

def PPR(t:Ty)(x:t.T)(v:Value)(U:List Nat):Prop:=∃b o c fr p arr e fr' U1,v = .pointer (some ⟨b,o,none⟩)∧U=b::c::U1∧w.heap[b]? = some (.cells arr e fr')∧(arr.toList.drop o).take 1 = [p]∧PtrR w t x p c fr U1

def CapsR:(caps:List (Ty×CK))→CapT caps→List Value→List Nat→Prop
 | [],_,vs,U=>vs = []∧U = []
 | (t,.sc)::cs,x,vs,U=>∃v us U1 U2,vs=v::us∧U=U1++U2∧ValR w false t false x.1 v U1∧CapsR cs x.2 us U2
 | (t,.ag)::cs,x,vs,U=>∃v us U1 U2,vs=v::us∧U=U1++U2∧ValR w false t true x.1 v U1∧CapsR cs x.2 us U2
 | (t,.pr)::cs,x,vs,U=>∃v us b fr U1 U2,vs=v::us∧U=b::(U1++U2)∧PtrR w t x.1 v b fr U1∧CapsR cs x.2 us U2
 | (t,.pp)::cs,x,vs,U=>∃us b o c fr p arr e fr' U1 U2,vs = .pointer (some ⟨b,o,none⟩)::us∧U=b::c::(U1++U2)∧w.heap[b]? = some (.cells arr e fr')∧(arr.toList.drop o).take 1 = [p]∧PtrR w t x.1 p c fr U1∧CapsR cs x.2 us U2

def ArgR:(b:BTy)→b.T→Value→List Nat→List Nat→List (List Nat)→Prop
 | .val t g,x,v,U,E,O=>E = []∧O = []∧ValR w false t g x v U
 | .ptr t true,x,v,U,E,O=>E = []∧∃b,O = [[b]]∧PtrW w t x v b U
 | .ptr t false,x,v,U,E,O=>E = []∧O = []∧∃b fr U',U=b::U'∧PtrR w t x v b fr U'
 | .own t,x,v,U,E,O=>U = []∧E = []∧∃A n c F,v = .slice A n c∧O = [F]∧RR true w t x A n c F
 | .eat t,x,v,U,E,O=>U = []∧O = []∧∃A n c,v = .slice A n c∧RR true w t x A n c E
 | .fn f caps,x,v,U,E,O=>E = []∧O = []∧∃vs,v = .func (.func f) #[] vs∧CapsR w caps x vs.toList U
 | .lit l,_,v,U,E,O=>v=l∧U = []∧E = []∧O = []
 | .box _ _,_,_,_,_,_=>False
 | .gob t g,x,v,U,E,O=>U = []∧O = []∧ValR w true t g x v E
 | .pp t,x,v,U,E,O=>E = []∧O = []∧PPR w t x v U
 | .same _,_,_,_,_,_=>False
 | .vw _,_,_,_,_,_=>False
 | .hof _,_,_,_,_,_=>False
 | .al _ _,_,_,_,_,_=>False
 | .fsel _ _,_,_,_,_,_=>False

def ArgsR:(ps:List BTy)→PT ps→List Value→List Nat→List Nat→List (List Nat)→Prop
 | [],_,vs,U,E,O=>vs = []∧U = []∧E = []∧O = []
 | b::ps,x,vs,U,E,O=>∃v us U1 U2 E1 E2 O1 O2,vs=v::us∧U=U1++U2∧E=E1++E2∧O=O1++O2∧ArgR w b x.1 v U1 E1 O1∧ArgsR ps x.2 us U2 E2 O2

def OutsR(w':World):(ps:List BTy)→CT (outs ps)→List Value→List (List Nat)→Prop
 | [],_,_,O=>O = []
 | .ptr t true::ps,y,vs,O=>∃v us b O2 arr e,vs=v::us∧O = [b]::O2∧v = .pointer (some ⟨b,0,none⟩)∧w'.heap[b]? = some (.cells arr e (0,0))∧RE true w' t (chead t _ y).1 arr.toList []∧OutsR w' ps (chead t _ y).2 us O2
 | .own t::ps,y,vs,O=>∃v us O1 O2 A n c,vs=v::us∧O=O1::O2∧v = .slice A n c∧RR true w' t (chead (.sl t) _ y).1 A n c O1∧OutsR w' ps (chead (.sl t) _ y).2 us O2
 | .ptr _ false::ps,y,vs,O=>∃v us,vs=v::us∧OutsR w' ps y us O
 | .val _ _::ps,y,vs,O=>∃v us,vs=v::us∧OutsR w' ps y us O
 | .eat _::ps,y,vs,O=>∃v us,vs=v::us∧OutsR w' ps y us O
 | .fn _ _::ps,y,vs,O=>∃v us,vs=v::us∧OutsR w' ps y us O
 | .lit _::ps,y,vs,O=>∃v us,vs=v::us∧OutsR w' ps y us O
 | .box _ _::ps,y,vs,O=>False
 | .gob _ _::ps,y,vs,O=>∃v us,vs=v::us∧OutsR w' ps y us O
 | .pp _::ps,y,vs,O=>∃v us,vs=v::us∧OutsR w' ps y us O
 | .same _::ps,y,vs,O=>∃v us,vs=v::us∧OutsR w' ps y us O
 | .vw _::ps,y,vs,O=>∃v us,vs=v::us∧OutsR w' ps y us O
 | .hof _::ps,y,vs,O=>∃v us,vs=v::us∧OutsR w' ps y us O
 | .al _ _::ps,y,vs,O=>∃v us,vs=v::us∧OutsR w' ps y us O
 | .fsel _ _::ps,y,vs,O=>∃v us,vs=v::us∧OutsR w' ps y us O

def CompsR(w':World):(rs:List (Ty×Bool))→CT (rs.map (·.1))→List Value→List Nat→Prop
 | [],_,vs,F=>vs = []∧F = []
 | r::rs,x,vs,F=>∃v us F1 F2,vs=v::us∧F=F1++F2∧ValR w' true r.1 r.2 (chead r.1 _ x).1 v F1∧CompsR w' rs (chead r.1 _ x).2 us F2

def retV:List Value→Value
 | [v]=>v
 | vs => .tuple vs.toArray
end

def Runs(P:Program)(g:FuncId)(args:Array Value)(w:World)(R:Ending→World→Prop):Prop :=
 ((callFunc g args).run P w = .ok (.enter g args) w∧Calls P g args w R)∨∃v w',(callFunc g args).run P w = .ok (.value v) w'∧R (.returned v) w'

def Contract(P:Program)(g:FuncId)(v:Variant):Prop :=
 ∀(w:World) (x:PT v.ps) (vs:List Value) (U E:List Nat) (O:List (List Nat)) (r:CT (v.rs.map (·.1)++outs v.ps)),
  ArgsR w v.ps x vs U E O→(O.flatten++E).Nodup→(∀b∈U,b ∉ O.flatten++E)→(∀b∈U++(O.flatten++E),b<w.heap.size)→KIn w→(∀b∈KSl.R,b<w.heap.size∧b ∉ O.flatten++E)→v.fn x=some r →
  Runs P g vs.toArray w fun e w'=>∃us F,e = .returned (retV us)∧CompsR w' v.rs (csplit _ _ r).1 us F∧OutsR w' v.ps (csplit _ _ r).2 vs O∧F.Nodup ∧
   (∀b∈F,(w.heap.size≤b∧b<w'.heap.size)∨b∈E)∧(∀b,b<w.heap.size→b ∉ O.flatten++E→w'.heap[b]? = w.heap[b]?)∧WLe w w'

section
variable {X : Ctx} {σ σ' : St} {ι : Nat → Home} {a : Act} {w : World} {α : Type} {o : Oper} {nid : Nat}

theorem UOk.back{σ σ1:St}{u F:List Nat}(hb:∀j,(σ1.H j).live=true→σ1.H j=σ.H j)(hp:∀par,ParOk σ1.H par→ParOk σ.H par)(h:UOk σ1 ι u F):UOk σ ι u F:=by
 intro b hb'
 obtain⟨id,h1,h2,h3,h4,h5⟩:=h b hb'
 have e:=hb id h3
 exact⟨id,h1,h2,e ▸ h3,by rw [←e];exact hp _ h4,by rw [←e];exact h5⟩

theorem Less.uok{σ σ1:St}(h:Less σ σ1){u F:List Nat}(hu:UOk σ1 ι u F):UOk σ ι u F:=hu.back (fun _=>h.live) (fun _=>h.par)
theorem Less.excl{σ σ1:St}(h:Less σ σ1){j:Nat}(hl:(σ1.H j).excl=true):(σ.H j).excl=true:=by
 rw [←h.live (live_of_excl hl)];exact hl

theorem rdV_run(hR:Rel X σ ι a w){t:Ty}{g:Bool}{av:AV}{v:Value}{k:t.T→List Nat→Pg α}{r:α×St}(h:(rdV t g av k).run σ=some r)(hv:RAV ι av v) :
  ∃x u F,ValR w false t g x v F∧UOk σ ι u F∧(k x u).run σ=some r:=by
 unfold rdV at h
 split at h
 ·rename_i l g'
  cases hg:(g==g')with
  | false=>rw [hg]at h;cases h
  | true =>
   rw [hg]at h
   simp only [cond_true]at h
   have hg:g=g':=by simpa using hg
   subst hg
   obtain⟨x,rest,u,vs1,vs2,F,hvs,hrest,hre,hu,h⟩:=rdT_run hR h (RVs_list hv)
   split at h
   ·cases vs2 with
    | cons _ _=>exact hrest.elim
    | nil =>
     rw [List.append_nil]at hvs
     refine⟨x,u,F,⟨by rw [hvs];exact hre,fun hg => ?_⟩,hu,h⟩
     subst hg
     obtain⟨ws,hws,_⟩:=hv
     exact⟨ws,hws⟩
   ·cases h
 ·cases h

theorem asPtr_run{av:AV}{id:Nat}{v:Value}(h:asPtr av=some id)(hv:RAV ι av v):∃b o,ι id = .blk b o∧v = .pointer (some ⟨b,o,none⟩):=by
 unfold asPtr at h
 split at h
 ·cases h;exact RAV_sc.1 hv
 ·cases h
theorem asSl_run{av:AV}{id:Nat}{v:Value}(h:asSl av=some id)(hv:RAV ι av v):∃A n c F,ι id = .row A n c F∧v = .slice A n c:=by
 unfold asSl at h
 split at h
 ·cases h;exact RAV_sc.1 hv
 ·cases h
theorem asNil_run{av:AV}{v:Value}(h:asNil av=true)(hv:RAV ι av v):v = .slice none 0 0:=by
 unfold asNil at h
 split at h
 ·exact(RAV_v.1 hv).1
 ·cases h
theorem asFn_run{av:AV}{f:FuncId}{id:Nat}{v:Value}(h:asFn av=some (f,id))(hv:RAV ι av v):∃vs,ι id = .clo vs∧v = .func (.func f) #[] vs:=by
 unfold asFn at h
 split at h
 ·cases h;exact RAV_sc.1 hv
 ·cases h
theorem asFn0_run{av:AV}{f:FuncId}{v:Value}(h:asFn0 av=some f)(hv:RAV ι av v):v = .func (.func f) #[] #[]:=by
 unfold asFn0 at h
 split at h
 ·rename_i f' x y
  cases hc:(Nat.beq x.size 0&&Nat.beq y.size 0)with
  | false=>rw [hc]at h;cases h
  | true =>
   rw [hc]at h
   simp only [cond_true,Option.some.injEq]at h
   subst h
   rw [Bool.and_eq_true]at hc
   have h1:=Array.eq_empty_of_size_eq_zero (Nat.eq_of_beq_eq_true hc.1)
   have h2:=Array.eq_empty_of_size_eq_zero (Nat.eq_of_beq_eq_true hc.2)
   rw [(RAV_v.1 hv).1,h1,h2]
 ·cases h

theorem rdP_run(hR:Rel X σ ι a w){t:Ty}{mu:Bool}{av:AV}{v:Value}{k:t.T→Nat→List Nat→Pg α}{r:α×St}(h:(rdP t mu av k).run σ=some r)(hv:RAV ι av v) :
  ∃x id u b o fr F l ro,PtrR w t x v b fr F∧UOk σ ι u F∧ι id = .blk b o∧σ.H id = .cells l ro∧(mu=true→ro=false∧o=0∧PtrW w t x v b F)∧(k x id u).run σ=some r:=by
 unfold rdP at h
 split at h
 ·rename_i id hid
  obtain⟨b,o0,e,rfl⟩:=asPtr_run hid hv
  replace h:=getB_run h
  split at h
  ·rename_i l ro hb
   cases hm:(mu&&ro)with
   | true=>rw [hm]at h;cases h
   | false =>
    rw [hm]at h
    simp only [cond_false]at h
    have hbl:=hR.bl id
    rw [hb]at hbl
    obtain⟨b',o',arr,el,fr,h1,h2,h3,h4,h5⟩:=hbl
    rw [e]at h1
    cases h1
    obtain⟨x,rest,u,vs1,vs2,F,hvs,hrest,hre,hu,h⟩:=rdT_run hR h h5
    split at h
    ·cases vs2 with
     | cons _ _=>exact hrest.elim
     | nil =>
      rw [List.append_nil]at hvs
      have hll:l.length=t.size:=by
       have h6:=RE_len hre
       rw [←hvs]at h6
       have h7:=F2_len h5
       omega
      refine⟨x,id,u,b,o0,fr,F,l,ro,⟨o0,arr,el,rfl,h2,by omega,by rw [←hll,hvs];exact hre⟩,hu,e,hb,fun hmu => ?_,h⟩
      subst hmu
      have:ro=false:=by simpa using hm
      obtain⟨q1,q2,q3⟩:=h3 this
      subst q1;subst q2
      refine⟨this,rfl,arr,el,rfl,h2,?_⟩
      rw [List.drop_zero,q3,List.take_of_length_le (by simp)]at hvs
      rw [hvs]
      exact hre
    ·cases h
  ·cases h
 ·cases h

theorem UOk.cells{id b o:Nat}{l:List Sc}{ro:Bool}{u F:List Nat}(e:ι id = .blk b o)(hb:σ.H id = .cells l ro)(h:UOk σ ι u F):UOk σ ι (id::u) (b::F):=by
 intro k hk
 rcases List.mem_cons.1 hk with rfl | hk
 ·exact⟨id,by simp,by rw [e];simp [Home.foot],by rw [hb];rfl,by rw [hb];intro q hq;simp [Blk.par]at hq,by rw [hb];simp [Blk.par]⟩
 ·exact h.mono (fun i hi=>List.mem_cons_of_mem _ hi) k hk

theorem rdI_run(hR:Rel X σ ι a w){t:Ty}{av:AV}{v:Value}{k:t.T→List Nat→Pg α}{r:α×St}(h:(rdI t av k).run σ=some r)(hv:RAV ι av v) :
  ∃x u b fr F,PtrR w t x v b fr F∧UOk σ ι u (b::F)∧(k x u).run σ=some r:=by
 unfold rdI at h
 split at h
 ·rename_i id i sz
  obtain⟨b,o,n,c,F,e,hi,rfl⟩:=RAV_sc.1 hv
  replace h:=getB_run h
  split at h
  ·rename_i t' xs own ver par hb
   cases hz:Nat.beq t.size sz with
   | false=>rw [hz]at h;cases h
   | true =>
    rw [hz]at h
    simp only [cond_true]at h
    have hz:=Nat.eq_of_beq_eq_true hz
    split at h
    ·rename_i xs' hx'
     obtain⟨rfl,rfl⟩:=castRow_some hx'
     obtain⟨hp,h⟩:=chkPar_run h
     have hr:=row_of hR hb hp e
     obtain⟨hn,hc,h3 | ⟨b',o',arr,el,fr,Fs,G,hA,hw,hf,hs,hF,hG,hl,hel⟩⟩:=hr
     ·rw [h3.1]at hn;simp at hn;omega
     ·cases hA
      have hx:i<xs'.length:=by omega
      have hFi:i<Fs.length:=by omega
      have hre:=hel i xs'[i] Fs[i] (List.getElem?_eq_getElem hx) (List.getElem?_eq_getElem hFi)
      have hgx:xs'.getD i t'.dflt=xs'[i]:=by rw [List.getD_eq_getElem?_getD,List.getElem?_eq_getElem hx];rfl
      have hmul:(i+1)*t'.size≤(if own then c else n)*t'.size:=Nat.mul_le_mul_right _ (by split <;> omega)
      rw [Nat.add_mul,Nat.one_mul]at hmul
      subst hz
      refine⟨_,_,b,fr,Fs[i],⟨o+i*t'.size,arr,el,by simp,hw,by omega,by rw [hgx];exact RE_ro hre⟩,?_,h⟩
      intro z hz
      refine⟨id,by simp,?_,by rw [hb];rfl,by rw [hb];exact hp,by rw [hb];exact fun p hp=>List.mem_cons_of_mem _ hp⟩
      rw [e]
      show z∈F
      rw [hF]
      rcases List.mem_cons.1 hz with rfl | hz
      ·simp
      ·exact List.mem_cons_of_mem _ (List.mem_append.2 (.inl (List.mem_flatten.2 ⟨Fs[i],List.getElem_mem hFi,hz⟩)))
    ·cases h
  ·cases h
 ·obtain⟨x,id,u,b,o,fr,F,l,ro,hp,hu,e,hb,_,h⟩:=rdP_run hR h hv
  exact⟨x,id::u,b,fr,F,hp,UOk.cells e hb hu,h⟩

theorem rdPP_run(hR:Rel X σ ι a w){t:Ty}{av:AV}{v:Value}{k:t.T→Nat→Nat→List Nat→Pg α}{r:α×St}(h:(rdPP t av k).run σ=some r)(hv:RAV ι av v) :
  ∃x i j u b o c o2 fr F l ro l' ro' p arr e fr',v = .pointer (some ⟨b,o,none⟩)∧w.heap[b]? = some (.cells arr e fr')∧(arr.toList.drop o).take 1 = [p]∧PtrR w t x p c fr F∧UOk σ ι u F∧ι i = .blk b o∧σ.H i = .cells l ro∧ι j = .blk c o2∧σ.H j = .cells l' ro'∧(k x i j u).run σ=some r:=by
 unfold rdPP at h
 split at h
 ·rename_i i hid
  obtain⟨b,o0,e,rfl⟩:=asPtr_run hid hv
  replace h:=getB_run h
  split at h
  ·rename_i l ro hb
   have hbl:=hR.bl i
   rw [hb]at hbl
   obtain⟨b',o',arr,el,fr',h1,h2,h3,_,h4⟩:=hbl
   rw [e]at h1
   cases h1
   split at h
   ·rename_i j
    simp only [List.length_cons,List.length_nil,Nat.zero_add]at h4
    generalize hl:(arr.toList.drop o0).take 1=al at h4
    cases al with
    | nil=>exact h4.elim
    | cons p al =>
     cases al with
     | cons _ _=>exact h4.2.elim
     | nil =>
      obtain⟨x,id,u,c,o2,fr,F,l',ro',hp,hu,ec,hc,_,h⟩:=rdP_run hR h (v:=p) (RAV_sc.2 h4.1)
      exact⟨x,i,id,u,b,o0,c,o2,fr,F,_,ro,l',ro',p,arr,el,fr',rfl,h2,hl,hp,hu,e,hb,ec,hc,h⟩
   ·cases h
  ·cases h
 ·cases h

theorem rdCaps_run(hR:Rel X σ ι a w):∀ {caps:List (Ty×CK)} {ls:List (List Sc×Bool)} {vs:List Value} {k:CapT caps→List Nat→Pg α} {r:α×St},(rdCaps caps ls k).run σ=some r→F2 (RVs ι) ls vs →
  ∃x u U,CapsR w caps x vs U∧UOk σ ι u U∧(k x u).run σ=some r
 | [],[],[],k,r,h,_=>⟨(),[],[],⟨rfl,rfl⟩,UOk.nil,h⟩
 | [],_::_,_,k,r,h,_=>by simp only [rdCaps]at h;cases h
 | (t,c)::cs,[],_,k,r,h,_=>by cases c <;> (simp only [rdCaps]at h;cases h)
 | (t,.sc)::cs,p::ls,v::vs,k,r,h,hv=>by
  simp only [rdCaps]at h
  obtain⟨x,u,F,hx,hu,h⟩:=rdV_run hR h (v:=v) hv.1
  obtain⟨y,u',U',hc,hu',h⟩:=rdCaps_run hR h hv.2
  exact⟨(x,y),u++u',F++U',⟨v,vs,F,U',rfl,rfl,hx,hc⟩,hu.append hu',h⟩
 | (t,.ag)::cs,p::ls,v::vs,k,r,h,hv=>by
  simp only [rdCaps]at h
  obtain⟨x,u,F,hx,hu,h⟩:=rdV_run hR h (v:=v) hv.1
  obtain⟨y,u',U',hc,hu',h⟩:=rdCaps_run hR h hv.2
  exact⟨(x,y),u++u',F++U',⟨v,vs,F,U',rfl,rfl,hx,hc⟩,hu.append hu',h⟩
 | (t,.pr)::cs,p::ls,v::vs,k,r,h,hv=>by
  simp only [rdCaps]at h
  obtain⟨x,id,u,b,o,fr,F,l,ro,hp,hu,e,hb,_,h⟩:=rdP_run hR h (v:=v) hv.1
  obtain⟨y,u',U',hc,hu',h⟩:=rdCaps_run hR h hv.2
  exact⟨(x,y),id::(u++u'),b::(F++U'),⟨v,vs,b,fr,F,U',rfl,rfl,hp,hc⟩,(hu.append hu').cells e hb,h⟩
 | (t,.pp)::cs,p::ls,v::vs,k,r,h,hv=>by
  simp only [rdCaps]at h
  obtain⟨x,i,j,u,b,o,c,o2,fr,F,l,ro,l',ro',q,arr,e,fr',rfl,hh,hq,hp,hu,ei,hi,ej,hj,h⟩:=rdPP_run hR h (v:=v) hv.1
  obtain⟨y,u',U',hc,hu',h⟩:=rdCaps_run hR h hv.2
  exact⟨(x,y),i::j::(u++u'),b::c::(F++U'),⟨vs,b,o,c,fr,q,arr,e,fr',F,U',rfl,rfl,hh,hq,hp,hc⟩,((hu.append hu').cells ej hj).cells ei hi,h⟩
 | [],[],_::_,k,r,h,hv=>hv.elim
 | (t,c)::cs,_::_,[],k,r,h,hv=>hv.elim

structure Outs(σ:St)(ι:Nat→Home)(i O:List Nat):Prop where
 ex:∀id∈i,(σ.H id).excl=true
 ft:O=i.flatMap fun id=>(ι id).foot

theorem Outs.nil:Outs σ ι [] []:=⟨by simp,rfl⟩
theorem Outs.append{i i' O O':List Nat}(h:Outs σ ι i O)(h':Outs σ ι i' O'):Outs σ ι (i++i') (O++O') :=
 ⟨fun id hi=>by rcases List.mem_append.1 hi with hi | hi;exact h.ex id hi;exact h'.ex id hi,by rw [List.flatMap_append,←h.ft,←h'.ft]⟩
theorem Less.outs{σ σ1:St}(h:Less σ σ1){i O:List Nat}(ho:Outs σ1 ι i O):Outs σ ι i O:=⟨fun id hi=>h.excl (ho.ex id hi),ho.ft⟩

theorem rdRow_run(hR:Rel X σ ι a w){t:Ty}{id:Nat}{k:List t.T→Pg α}{r:α×St}(h:(rdRow t id k).run σ=some r){A:Option Addr}{n c:Nat}{F:List Nat}(e:ι id = .row A n c F) :
  ∃x,(σ.H id).excl=true∧RR true w t x A n c F∧(k x).run σ=some r:=by
 replace h:=getB_run h
 split at h
 ·rename_i t' y ver hb
  split at h
  ·rename_i y' hy
   exact⟨_,by rw [hb];rfl,castL_some hy (row_of hR hb (chk_none rfl) e),h⟩
  ·cases h
 ·rename_i t' y y2 ver hb
  split at h
  ·rename_i y' hy
   obtain⟨hn,hrr⟩:=win_of hR hb (chk_none rfl) e
   exact⟨_,by rw [hb];rfl,castL_some hy (RR_pre hn hrr),h⟩
  ·cases h
 ·cases h

theorem excl_ne{b:Blk}(h:b.excl=true):b ≠ .unborn:=by rintro rfl;cases h

structure OutsL(σ:St)(ι:Nat→Home)(i:List Nat)(O:List (List Nat)):Prop where
 ex:∀id∈i,(σ.H id).excl=true
 ft:O=i.map fun id=>(ι id).foot
theorem OutsL.nil:OutsL σ ι [] []:=⟨by simp,rfl⟩
theorem OutsL.append{i i':List Nat}{O O':List (List Nat)}(h:OutsL σ ι i O)(h':OutsL σ ι i' O'):OutsL σ ι (i++i') (O++O') :=
 ⟨fun id hi=>by rcases List.mem_append.1 hi with hi | hi;exact h.ex id hi;exact h'.ex id hi,by rw [List.map_append,←h.ft,←h'.ft]⟩
theorem Less.outsL{σ σ1:St}(h:Less σ σ1){i:List Nat}{O:List (List Nat)}(ho:OutsL σ1 ι i O):OutsL σ ι i O:=⟨fun id hi=>h.excl (ho.ex id hi),ho.ft⟩

def Align(ι:Nat→Home):List BTy→List Value→List Nat→Prop
 | [],_,i=>i = []
 | .ptr _ true::ps,vs,i=>∃v us id is b,vs=v::us∧i=id::is∧ι id = .blk b 0∧v = .pointer (some ⟨b,0,none⟩)∧Align ι ps us is
 | .own _::ps,vs,i=>∃v us id is A n c F,vs=v::us∧i=id::is∧ι id = .row A n c F∧v = .slice A n c∧Align ι ps us is
 | .ptr _ false::ps,vs,i=>∃v us,vs=v::us∧Align ι ps us i
 | .val _ _::ps,vs,i=>∃v us,vs=v::us∧Align ι ps us i
 | .eat _::ps,vs,i=>∃v us,vs=v::us∧Align ι ps us i
 | .fn _ _::ps,vs,i=>∃v us,vs=v::us∧Align ι ps us i
 | .lit _::ps,vs,i=>∃v us,vs=v::us∧Align ι ps us i
 | .box _ _::ps,vs,i=>∃v us,vs=v::us∧Align ι ps us i
 | .gob _ _::ps,vs,i=>∃v us,vs=v::us∧Align ι ps us i
 | .pp _::ps,vs,i=>∃v us,vs=v::us∧Align ι ps us i
 | .same _::ps,vs,i=>∃v us,vs=v::us∧Align ι ps us i
 | .vw _::ps,vs,i=>∃v us,vs=v::us∧Align ι ps us i
 | .hof _::ps,vs,i=>∃v us,vs=v::us∧Align ι ps us i
 | .al _ _::ps,vs,i=>∃v us,vs=v::us∧Align ι ps us i
 | .fsel _ _::ps,vs,i=>∃v us,vs=v::us∧Align ι ps us i

theorem rdArg_run{b:BTy}{σ:St}{av:AV}{v:Value}{G:List Nat}{k:b.T→List Nat→List Nat→List Nat→Pg α}{r:α×St}(hR:Rel X σ ι a w)(hF:Free X σ ι w G)(h:(rdArg b av k).run σ=some r)(hv:RAV ι av v) :
  ∃x u e i U E O σ1,ArgR w b x v U E O∧UOk σ ι u U∧Outs σ ι e E∧OutsL σ ι i O∧Less σ σ1∧Rel X σ1 ι a w∧Free X σ1 ι w (G++E)∧(∀id,id ∉ e→σ1.H id=σ.H id)∧(∀ps us is,Align ι ps us is→Align ι (b::ps) (v::us) (i++is))∧(k x u e i).run σ1=some r:=by
 cases b with
 | val t g =>
  obtain⟨x,u,F,hx,hu,h⟩:=rdV_run hR h hv
  exact⟨x,u,[],[],F,[],[],σ,⟨rfl,rfl,hx⟩,hu,.nil,.nil,.refl _,hR,by simpa using hF,(fun _ _=>rfl),fun ps us is ha=>⟨_,us,rfl,ha⟩,h⟩
 | ptr t mu =>
  cases mu with
  | true =>
   obtain⟨x,id,u,b,o,fr,F,l,ro,_,hu,e,hb,hm,h⟩:=rdP_run hR h hv
   obtain⟨rfl,rfl,hp⟩:=hm rfl
   exact⟨x,u,[],[id],F,[],[[b]],σ,⟨rfl,b,rfl,hp⟩,hu,.nil,⟨by simp [hb,Blk.excl],by simp [e,Home.foot]⟩,.refl _,hR,by simpa using hF,(fun _ _=>rfl),fun ps us is ha=>⟨_,us,id,is,b,rfl,rfl,e,(by obtain⟨_,_,hpv,_⟩:=hp;exact hpv),ha⟩,h⟩
  | false =>
   simp only [rdArg]at h
   obtain⟨x,u,b,fr,F,hp,hu,h⟩:=rdI_run hR h hv
   exact⟨x,u,[],[],b::F,[],[],σ,⟨rfl,rfl,b,fr,F,rfl,hp⟩,hu,.nil,.nil,.refl _,hR,by simpa using hF,(fun _ _=>rfl),fun ps us is ha=>⟨_,us,rfl,ha⟩,h⟩
 | own t =>
  simp only [rdArg]at h
  split at h
  ·rename_i id hid
   obtain⟨A,n,c,F,e,rfl⟩:=asSl_run hid hv
   obtain⟨x,hb,hrr,h⟩:=rdRow_run hR h e
   exact⟨x,[],[],[id],[],[],[F],σ,⟨rfl,rfl,A,n,c,F,rfl,rfl,hrr⟩,.nil,.nil,⟨by simp [hb],by simp [e,Home.foot]⟩,.refl _,hR,by simpa using hF,(fun _ _=>rfl),fun ps us is ha=>⟨_,us,id,is,A,n,c,F,rfl,rfl,e,rfl,ha⟩,h⟩
  ·cases h
 | eat t =>
  simp only [rdArg]at h
  cases hn:asNil av with
  | true =>
   rw [hn]at h
   have:=asNil_run hn hv
   subst this
   exact⟨[],[],[],[],[],[],[],σ,⟨rfl,rfl,none,0,0,rfl,rfl,Nat.le_refl _,.inl ⟨rfl,rfl,fun _=>rfl⟩⟩,.nil,.nil,.nil,.refl _,hR,by simpa using hF,(fun _ _=>rfl),fun ps us is ha=>⟨_,us,rfl,ha⟩,h⟩
  | false =>
   rw [hn]at h
   simp only [cond_false]at h
   split at h
   ·rename_i id hid
    obtain⟨A,n,c,F,e,rfl⟩:=asSl_run hid hv
    obtain⟨x,hb,hrr,h⟩:=rdRow_run hR h e
    have hg:=hF.give hR (id:=id) hb
    rw [e]at hg
    exact⟨x,[],[id],[],[],F,[],_,⟨rfl,rfl,A,n,c,rfl,hrr⟩,.nil,⟨by simp [hb],by simp [e,Home.foot]⟩,.nil,.kill (excl_ne hb),hR.kill (excl_ne hb),hg,(fun j hj=>setH_ne σ _ (by simpa using hj)),fun ps us is ha=>⟨_,us,rfl,ha⟩,h⟩
   ·cases h
 | fn f caps =>
  simp only [rdArg]at h
  split at h
  ·rename_i f' id hf
   obtain⟨vs,e,rfl⟩:=asFn_run hf hv
   cases hff:Nat.beq f f' with
   | false=>rw [hff]at h;cases h
   | true =>
    rw [hff]at h
    simp only [cond_true]at h
    have hff:=Nat.eq_of_beq_eq_true hff
    replace h:=getB_run h
    split at h
    ·rename_i l hb
     have hbl:=hR.bl id
     rw [hb,e]at hbl
     obtain⟨vs',h1,h2⟩:=hbl
     cases h1
     obtain⟨x,u,U,hc,hu,h⟩:=rdCaps_run hR h h2
     exact⟨x,u,[],[],U,[],[],σ,⟨rfl,rfl,vs,by rw [hff],hc⟩,hu,.nil,.nil,.refl _,hR,by simpa using hF,(fun _ _=>rfl),fun ps us is ha=>⟨_,us,rfl,ha⟩,h⟩
    ·cases h
  ·split at h
   ·rename_i f' hf
    have hv':=asFn0_run hf hv
    cases hff:Nat.beq f f' with
    | false=>rw [hff]at h;cases h
    | true =>
     rw [hff]at h
     simp only [cond_true]at h
     have hff:=Nat.eq_of_beq_eq_true hff
     obtain⟨x,u,U,hc,hu,h⟩:=rdCaps_run (vs := []) hR h trivial
     exact⟨x,u,[],[],U,[],[],σ,⟨rfl,rfl,#[],by rw [hff];exact hv',hc⟩,hu,.nil,.nil,.refl _,hR,by simpa using hF,(fun _ _=>rfl),fun ps us is ha=>⟨_,us,rfl,ha⟩,h⟩
   ·cases h
 | lit l =>
  simp only [rdArg]at h
  split at h
  ·cases hn:asNil av with
   | false=>rw [hn]at h;cases h
   | true =>
    rw [hn]at h
    have:=asNil_run hn hv
    exact⟨(),[],[],[],[],[],[],σ,⟨this,rfl,rfl,rfl⟩,.nil,.nil,.nil,.refl _,hR,by simpa using hF,(fun _ _=>rfl),fun ps us is ha=>⟨_,us,rfl,ha⟩,h⟩
  ·cases h
 | box t own=>simp only [rdArg]at h;cases h
 | same t=>simp only [rdArg]at h;cases h
 | vw t=>simp only [rdArg]at h;cases h
 | hof t=>simp only [rdArg]at h;cases h
 | al t o=>simp only [rdArg]at h;cases h
 | fsel t o=>simp only [rdArg]at h;cases h
 | pp t =>
  simp only [rdArg]at h
  obtain⟨x,i,j,u,b,o,c,o2,fr,F,l,ro,l',ro',q,arr,e,fr',rfl,hh,hq,hp,hu,ei,hi,ej,hj,h⟩:=rdPP_run hR h hv
  exact⟨x,i::j::u,[],[],b::c::F,[],[],σ,⟨rfl,rfl,b,o,c,fr,q,arr,e,fr',F,rfl,rfl,hh,hq,hp⟩,(hu.cells ej hj).cells ei hi,.nil,.nil,.refl _,hR,by simpa using hF,(fun _ _=>rfl),fun ps us is ha=>⟨_,us,rfl,ha⟩,h⟩
 | gob t g =>
  simp only [rdArg]at h
  split at h
  ·rename_i l g'
   cases hg:(g==g')with
   | false=>rw [hg]at h;cases h
   | true =>
    rw [hg]at h
    simp only [cond_true]at h
    have hg:g=g':=by simpa using hg
    subst hg
    obtain⟨x,rest,e,σ1,vs1,vs2,F,hvs,hrest,hre,hR1,hF1,hgone,hless,hsame,h⟩:=rdG_run hR hF h (RVs_list hv)
    split at h
    ·cases vs2 with
     | cons _ _=>exact hrest.elim
     | nil =>
      rw [List.append_nil]at hvs
      refine⟨x,[],e,[],[],F,[],σ1,⟨rfl,rfl,by rw [hvs];exact hre,fun hg => ?_⟩,.nil,⟨hgone.ex,hgone.ft⟩,.nil,hless,hR1,hF1,hsame,fun ps us is ha=>⟨_,us,rfl,ha⟩,h⟩
      subst hg
      obtain⟨ws,hws,_⟩:=hv
      exact⟨ws,hws⟩
    ·cases h
  ·cases h
end
end Go.Ev
namespace Go.Ev
open Go
variable [KSl]

section
variable {X : Ctx} {σ σ' : St} {ι : Nat → Home} {a : Act} {w : World} {α : Type} {o : Oper} {nid : Nat}

theorem rdArgs_run:∀ {ps:List BTy} {σ:St} {avs:List AV} {vs:List Value} {G:List Nat} {k:PT ps→List Nat→List Nat→List Nat→Pg α} {r:α×St},Rel X σ ι a w→Free X σ ι w G→(rdArgs ps avs k).run σ=some r→F2 (RAV ι) avs vs →
  ∃x u e i U E O σ1,ArgsR w ps x vs U E O∧UOk σ ι u U∧Outs σ ι e E∧OutsL σ ι i O∧Less σ σ1∧Rel X σ1 ι a w∧Free X σ1 ι w (G++E)∧(∀id,id ∉ e→σ1.H id=σ.H id)∧Align ι ps vs i∧(k x u e i).run σ1=some r
 | [],σ,[],[],G,k,r,hR,hF,h,_=>⟨(),[],[],[],[],[],[],σ,⟨rfl,rfl,rfl,rfl⟩,.nil,.nil,.nil,.refl _,hR,by simpa using hF,(fun _ _=>rfl),rfl,h⟩
 | [],σ,_::_,_,G,k,r,hR,hF,h,_=>by simp only [rdArgs]at h;cases h
 | [],σ,[],_::_,G,k,r,hR,hF,h,hv=>hv.elim
 | b::ps,σ,[],_,G,k,r,hR,hF,h,_=>by simp only [rdArgs]at h;cases h
 | b::ps,σ,_::_,[],G,k,r,hR,hF,h,hv=>hv.elim
 | b::ps,σ,av::avs,v::vs,G,k,r,hR,hF,h,hv=>by
  simp only [rdArgs]at h
  obtain⟨x,u,e,i,U,E,O,σ1,h1,h2,h3,h4,h5,h6,h7,h8,h9,h⟩:=rdArg_run hR hF h hv.1
  obtain⟨y,u',e',i',U',E',O',σ2,g1,g2,g3,g4,g5,g6,g7,g8,g9,h⟩:=rdArgs_run h6 h7 h hv.2
  refine⟨(x,y),u++u',e++e',i++i',U++U',E++E',O++O',σ2,⟨v,vs,U,U',E,E',O,O',rfl,rfl,rfl,rfl,h1,g1⟩,h2.append (h5.uok g2),h3.append (h5.outs g3),h4.append (h5.outsL g4),h5.trans g5,g6,by simpa using g7,?_,?_,h⟩
  ·intro id hid
   rw [g8 id (fun hm=>hid (List.mem_append.2 (.inr hm))),h8 id (fun hm=>hid (List.mem_append.2 (.inl hm)))]
  ·exact h9 ps vs i' g9
end
end Go.Ev
namespace Go.Ev
open Go
variable [KSl]

section
variable {X : Ctx} {σ σ' : St} {ι : Nat → Home} {a : Act} {w : World} {α : Type} {o : Oper} {nid : Nat}

def kills(σ:St):List Nat→St
 | []=>σ
 | z::Z=>(kills σ Z).setH z .dead

theorem kills_H{σ:St}:∀ {Z:List Nat} {j:Nat},j ∉ Z→(kills σ Z).H j=σ.H j
 | [],j,_=>rfl
 | z::Z,j,h=>by
  simp only [kills]
  rw [setH_ne _ _ (by intro e;exact h (by rw [e];simp)),kills_H (fun hm=>h (List.mem_cons_of_mem _ hm))]

theorem kills_dead{σ:St}:∀ {Z:List Nat} {j:Nat},j∈Z→(kills σ Z).H j = .dead
 | z::Z,j,h=>by
  simp only [kills]
  by_cases e:j=z
  ·rw [e,setH_same]
  ·rw [setH_ne _ _ e]
   exact kills_dead ((List.mem_cons.1 h).resolve_left e)

theorem kills_less{σ:St}:∀ {Z:List Nat},(∀z∈Z,σ.H z ≠ .unborn)→Less σ (kills σ Z)
 | [],_ => .refl σ
 | z::Z,h=>by
  have h1:=kills_less (σ:=σ) (Z:=Z) (fun z hz=>h z (List.mem_cons_of_mem _ hz))
  refine h1.trans (Less.kill ?_)
  intro e
  by_cases hm:z∈Z
  ·rw [kills_dead hm]at e;cases e
  ·rw [kills_H hm]at e;exact h z (by simp) e

theorem kills_run(hR:Rel X σ ι a w){G:List Nat}(hF:Free X σ ι w G):∀ {Z:List Nat},Z.Nodup→(∀z∈Z,(σ.H z).excl=true) →
  Rel X (kills σ Z) ι a w∧Free X (kills σ Z) ι w (G++(Z.flatMap fun z=>(ι z).foot))
 | [],_,_=>⟨hR,by simpa [kills] using hF⟩
 | z::Z,hn,he=>by
  obtain⟨hz,hn⟩:=List.nodup_cons.1 hn
  obtain⟨h1,h2⟩:=kills_run hR hF hn (fun z hz=>he z (List.mem_cons_of_mem _ hz))
  have hH:=kills_H (σ:=σ) hz
  have hze:=he z (by simp)
  refine⟨h1.kill (by rw [hH];intro e;rw [e]at hze;cases hze),?_⟩
  have:=h2.give h1 (id:=z) (by rw [hH];exact hze)
  refine this.sub (fun b hb => ?_) ?_
  ·simp only [List.flatMap_cons,List.mem_append]at hb ⊢
   rcases hb with hb | hb | hb
   ·exact .inl (.inl hb)
   ·exact .inr hb
   ·exact .inl (.inr hb)
  ·have hnd:=this.nd
   rw [List.append_assoc,List.nodup_append,List.nodup_append]at hnd
   obtain⟨n1,⟨n2,n3,n4⟩,n5⟩:=hnd
   simp only [List.flatMap_cons]
   rw [List.nodup_append,List.nodup_append]
   refine⟨n1,⟨n3,n2,fun x hx y hy e=>n4 y hy x hx e.symm⟩,fun x hx y hy => ?_⟩
   rcases List.mem_append.1 hy with hy | hy
   ·exact n5 x hx y (List.mem_append.2 (.inr hy))
   ·exact n5 x hx y (List.mem_append.2 (.inl hy))

theorem Rel.away(hR:Rel X σ ι a w){F G:List Nat}(hF:Free X σ ι w F){w':World}(hsz:WLe w w')(hw:∀b,b<w.heap.size→b ∉ F→w'.heap[b]? = w.heap[b]?)
  (hG:G.Nodup) (hG1:∀b∈G,w.heap.size≤b∧b<w'.heap.size):Rel X σ ι a w'∧Free X σ ι w' (F++G):=by
 refine⟨hR.change (D:=fun k=>k∈F) (N:=fun _=>False) rfl (fun _ _=>rfl) hsz (fun k hk hD=>hw k hk hD)
  (fun k hk hk0=>by rcases hF.mu k hk with h | h;omega;exact h) (fun j hj=>⟨rfl,rfl⟩)
  (fun j _ hl hp k hk hkb=>hF.away j hl hp k hkb hk) (fun _ _ h=>h) (fun _ h=>h.elim) (fun _ _ h=>h.elim) (fun _ _ _ h=>h.elim) (fun _ _ _ h=>h.elim) hR.pb hR.pv,?_⟩
 exact hF.grow hR hsz.le hG hG1

theorem Rel.revive(hR:Rel X σ ι a w){F G:List Nat}(hF:Free X σ ι w (F++G)){id:Nat}(hd:σ.H id = .dead){blk:Blk}(hf:(ι id).foot=F)
  (hb:RBlk σ.H w ι blk (ι id)) (hp:blk.par = []) (hnb:blk ≠ .unborn)
  (hst:∀j,ParOk (σ.setH id blk).H (σ.H j).par→id ∉ (σ.H j).par.map (·.1))
  (hpv:∀j,∀q∈(σ.H j).par,q.1=id→∀v,blk.ver? = some v→q.2≤v) :
  Rel X (σ.setH id blk) ι a w∧Free X (σ.setH id blk) ι w G:=by
 have hP:∀j,ParOk (σ.setH id blk).H (σ.H j).par→ParOk σ.H (σ.H j).par:=by
  intro j h q hq
  have:=h q hq
  rwa [setH_ne σ blk (fun e=>hst j h (List.mem_map.2 ⟨q,hq,e⟩))]at this
 have hnd:=List.nodup_append.1 hF.nd
 refine⟨hR.change (D:=fun _=>False) (N:=fun j=>j=id) rfl (fun _ _=>rfl) (WLe.refl _) (fun b hb _=>rfl) (fun b hb=>hb.elim) (fun j hj=>⟨setH_ne σ blk hj,rfl⟩)
  (fun _ _ _ _ _ _ h=>h) (fun j hj h=>hP j h) ?_ ?_ ?_ ?_ ?_ ?_,?_⟩
 ·rintro j rfl
  rw [setH_same,hf]
  exact⟨RBlk_lift (fun _ _=>rfl) (fun _=>by rw [hp];intro q hq;simp at hq) (fun _ _ _ _=>rfl) hb,fun _ b hb=>hF.lt b (List.mem_append.2 (.inl hb)),
   fun _=>⟨hnd.1,fun b hb=>hF.mu b (List.mem_append.2 (.inl hb)),hp⟩⟩
 ·rintro i j rfl hj hi hl hp' hr b hb hb2
  rw [hf]at hb
  exact hF.away j hl (hP j hp') b (List.mem_append.2 (.inl hb)) hb2
 ·rintro i j hi rfl he hl _ hr b hb hb2
  rw [hf]at hb2
  exact hF.away i (live_of_excl he) (by rw [hR.po i he];intro q hq;simp at hq) b (List.mem_append.2 (.inl hb2)) hb
 ·rintro i j hij rfl rfl
  exact absurd rfl hij
 ·intro j q hq
  by_cases hj:j=id
  ·subst hj;rw [setH_same,hp]at hq;simp at hq
  ·rw [setH_ne σ blk hj]at hq
   by_cases e:q.1=id
   ·rw [e,setH_same];exact hnb
   ·rw [setH_ne σ blk e];exact hR.pb j q hq
 ·intro j q hq ver hh
  by_cases hj:j=id
  ·subst hj;rw [setH_same,hp]at hq;simp at hq
  ·rw [setH_ne σ blk hj]at hq
   by_cases e:q.1=id
   ·rw [e,setH_same]at hh
    exact hpv j q hq e ver hh
   ·rw [setH_ne σ blk e]at hh;exact hR.pv j q hq ver hh
 ·exact {
   away:=fun j hl hp' b hbG hb2=>by
    by_cases hj:j=id
    ·subst hj
     rw [hf]at hb2
     exact hnd.2.2 b hb2 b hbG rfl
    ·rw [setH_ne σ blk hj]at hl hp'
     exact hF.away j hl (hP j hp') b (List.mem_append.2 (.inr hbG)) hb2
   lt:=fun b hb=>hF.lt b (List.mem_append.2 (.inr hb))
   mu:=fun b hb=>hF.mu b (List.mem_append.2 (.inr hb))
   nd:=hnd.2.1 }

theorem setH_setH(σ:St)(id:Nat)(b b':Blk):(σ.setH id b).setH id b'=σ.setH id b':=by
 simp only [St.setH]
 congr 1
 funext j
 cases Nat.beq j id <;> rfl

theorem setH_comm(σ:St){i j:Nat}(b b':Blk)(h:i≠j):(σ.setH i b).setH j b'=(σ.setH j b').setH i b:=by
 simp only [St.setH]
 congr 1
 funext k
 by_cases e:k=i
 ·subst e
  rw [beq_false h,Nat.beq_refl];rfl
 ·by_cases e':k=j
  ·subst e'
   rw [beq_false e,Nat.beq_refl];rfl
  ·rw [beq_false e,beq_false e'];rfl

theorem kills_set{σ:St}{id:Nat}{b:Blk}:∀ {Z:List Nat},id ∉ Z→(kills σ Z).setH id b=kills (σ.setH id b) Z
 | [],_=>rfl
 | z::Z,h=>by
  simp only [kills]
  rw [setH_comm _ _ _ (by intro e;exact h (by rw [e];simp)),kills_set (fun hm=>h (List.mem_cons_of_mem _ hm))]

def Bnd(σ:St)(id:Nat):Prop:=∀j,∀q∈(σ.H j).par,q.1=id→∀v,(σ.H id).ver? = some v→q.2≤v

theorem Bnd.set{σ:St}{id id':Nat}{b:Blk}(h:Bnd σ id)(hne:id≠id')(hp:b.par = []):Bnd (σ.setH id' b) id:=by
 intro j q hq e ver hh
 rw [setH_ne σ b hne]at hh
 by_cases hj:j=id'
 ·rw [hj,setH_same,hp]at hq;simp at hq
 ·rw [setH_ne σ b hj]at hq
  exact h j q hq e ver hh

theorem par_set{σ:St}{id:Nat}{blk:Blk}(hp:blk.par = []){j:Nat}{q:Nat×Nat}(h:q∈((σ.setH id blk).H j).par):q∈(σ.H j).par:=by
 by_cases e:j=id
 ·rw [e,setH_same,hp]at h;simp at h
 ·rwa [setH_ne σ blk e]at h

theorem ownVer_ver{b:Blk}{ver:Nat}(h:ownVer b=some ver):b.ver? = some ver:=by
 unfold ownVer at h
 split at h
 ·cases h;rfl
 ·cases h;rfl
 ·cases h

theorem putOuts_run{w':World}{r:α×St}:∀ {ps:List BTy} {i:List Nat} {σ:St} {y:CT (outs ps)} {k:Pg α} {vs:List Value} {G:List Nat},Rel X (kills σ i) ι a w' →
  Free X (kills σ i) ι w' ((i.flatMap fun z=>(ι z).foot)++G)→Align ι ps vs i→OutsR w' ps y vs (i.map fun z=>(ι z).foot)→i.Nodup→(∀z∈i,(σ.H z).excl=true)→(∀z∈i,Bnd σ z) →
  (putOuts ps i y k).run σ=some r→∃σ2,Rel X σ2 ι a w'∧Free X σ2 ι w' G∧(∀j,∀q∈(σ2.H j).par,q∈(σ.H j).par)∧k.run σ2=some r
 | [],i,σ,y,k,vs,G,hR,hF,ha,ho,hn,he,hB,h=>by
  simp only [Align]at ha
  subst ha
  exact⟨σ,hR,by simpa [kills] using hF,fun _ _ h=>h,h⟩
 | .ptr t true::ps,i,σ,y,k,vs,G,hR,hF,ha,ho,hn,he,hB,h=>by
  obtain⟨v,us,id,is,b,rfl,rfl,e,rfl,ha⟩:=ha
  simp only [putOuts]at h
  cases hfl:t.flat with
  | false=>rw [hfl]at h;cases h
  | true =>
   rw [hfl]at h
   simp only [cond_true,Pg.run]at h
   obtain⟨v',us',b',O2,arr,el,hvs,hO,hv',hb',hre,ho⟩:=ho
   cases hvs
   cases hv'
   simp only [List.map_cons,List.cons.injEq]at hO
   obtain⟨_,rfl⟩:=hO
   obtain⟨hid,hn⟩:=List.nodup_cons.1 hn
   simp only [kills]at hR hF
   simp only [List.flatMap_cons,List.append_assoc]at hF
   have hrev:=hR.revive (F:=(ι id).foot) hF (id:=id) (setH_same _ _ _) (blk := .cells (unT true [] t (chead t (outs ps) y).1 0).1 false) rfl
    (by rw [e];exact cells_whole hb' (fun _=>rfl) (unT_flat hfl hre)) rfl (by simp)
    (fun j hp hm=>by
     obtain⟨q,hq,hqe⟩:=List.mem_map.1 hm
     obtain⟨t,x,p,hh⟩:=hp q hq
     rw [hqe,setH_same]at hh
     cases hh) (fun j q hq _ ver hh=>by cases hh)
   rw [setH_setH,kills_set hid]at hrev
   obtain⟨σ2,q1,q2,q3,q4⟩:=putOuts_run hrev.1 hrev.2 ha ho hn (fun z hz=>by
    rw [setH_ne σ _ (by intro e2;rw [e2]at hz;exact hid hz)];exact he z (List.mem_cons_of_mem _ hz)) (fun z hz=>(hB z (List.mem_cons_of_mem _ hz)).set (by intro e2;rw [e2]at hz;exact hid hz) rfl) h
   exact⟨σ2,q1,q2,fun j q hq=>par_set rfl (q3 j q hq),q4⟩
 | .own t::ps,i,σ,y,k,vs,G,hR,hF,ha,ho,hn,he,hB,h=>by
  obtain⟨v,us,id,is,A,n,c,F,rfl,rfl,e,rfl,ha⟩:=ha
  simp only [putOuts,Pg.run]at h
  split at h
  ·rename_i ver hov
   have hb:=ownVer_ver hov
   simp only [Pg.run]at h
   obtain⟨v',us',O1,O2,A',n',c',hvs,hO,hv',hrr,ho⟩:=ho
   cases hvs
   cases hv'
   simp only [List.map_cons,List.cons.injEq]at hO
   obtain⟨hO1,rfl⟩:=hO
   rw [e]at hO1
   simp only [Home.foot]at hO1
   subst hO1
   obtain⟨hid,hn⟩:=List.nodup_cons.1 hn
   simp only [kills]at hR hF
   simp only [List.flatMap_cons,List.append_assoc]at hF
   have hBi:=hB id (by simp)
   have hsub:∀j,∀q∈(((kills σ is).setH id .dead).H j).par,q∈(σ.H j).par:=by
    intro j q hq
    by_cases hj:j=id
    ·rw [hj,setH_same]at hq;simp [Blk.par]at hq
    ·rw [setH_ne _ _ hj]at hq
     by_cases hm:j∈is
     ·rw [kills_dead hm]at hq;simp [Blk.par]at hq
     ·rwa [kills_H hm]at hq
   have hrev:=hR.revive (F:=(ι id).foot) hF (id:=id) (setH_same _ _ _) (blk := .row t (chead (.sl t) (outs ps) y).1 true (ver+1) []) rfl
    (by rw [e];exact⟨A,n,c,F,rfl,fun _=>hrr⟩) rfl (by simp)
    (fun j hp hm=>by
     obtain⟨q,hq,hqe⟩:=List.mem_map.1 hm
     obtain⟨t,x,p,hh⟩:=hp q hq
     rw [hqe,setH_same]at hh
     injection hh with _ _ _ hv2 _
     have:=hBi j q (hsub j q hq) hqe _ hb
     omega) (fun j q hq hqe ver' hh=>by
     simp only [Blk.ver?,Option.some.injEq]at hh
     have:=hBi j q (hsub j q hq) hqe _ hb
     omega)
   rw [setH_setH,kills_set hid]at hrev
   obtain⟨σ2,q1,q2,q3,q4⟩:=putOuts_run hrev.1 hrev.2 ha ho hn (fun z hz=>by
    rw [setH_ne σ _ (by intro e2;rw [e2]at hz;exact hid hz)];exact he z (List.mem_cons_of_mem _ hz)) (fun z hz=>(hB z (List.mem_cons_of_mem _ hz)).set (by intro e2;rw [e2]at hz;exact hid hz) rfl) h
   exact⟨σ2,q1,q2,fun j q hq=>par_set rfl (q3 j q hq),q4⟩
  ·cases h
 | .ptr t false::ps,i,σ,y,k,vs,G,hR,hF,ha,ho,hn,he,hB,h=>by
  obtain⟨v,us,rfl,ha⟩:=ha
  obtain⟨v',us',hvs,ho⟩:=ho
  cases hvs
  exact putOuts_run hR hF ha ho hn he hB h
 | .val t g::ps,i,σ,y,k,vs,G,hR,hF,ha,ho,hn,he,hB,h=>by
  obtain⟨v,us,rfl,ha⟩:=ha
  obtain⟨v',us',hvs,ho⟩:=ho
  cases hvs
  exact putOuts_run hR hF ha ho hn he hB h
 | .eat t::ps,i,σ,y,k,vs,G,hR,hF,ha,ho,hn,he,hB,h=>by
  obtain⟨v,us,rfl,ha⟩:=ha
  obtain⟨v',us',hvs,ho⟩:=ho
  cases hvs
  exact putOuts_run hR hF ha ho hn he hB h
 | .fn f c::ps,i,σ,y,k,vs,G,hR,hF,ha,ho,hn,he,hB,h=>by
  obtain⟨v,us,rfl,ha⟩:=ha
  obtain⟨v',us',hvs,ho⟩:=ho
  cases hvs
  exact putOuts_run hR hF ha ho hn he hB h
 | .lit l::ps,i,σ,y,k,vs,G,hR,hF,ha,ho,hn,he,hB,h=>by
  obtain⟨v,us,rfl,ha⟩:=ha
  obtain⟨v',us',hvs,ho⟩:=ho
  cases hvs
  exact putOuts_run hR hF ha ho hn he hB h
 | .box t ow::ps,i,σ,y,k,vs,G,hR,hF,ha,ho,hn,he,hB,h=>ho.elim
 | .pp t::ps,i,σ,y,k,vs,G,hR,hF,ha,ho,hn,he,hB,h=>by
  obtain⟨v,us,rfl,ha⟩:=ha
  obtain⟨v',us',hvs,ho⟩:=ho
  cases hvs
  exact putOuts_run hR hF ha ho hn he hB h
 | .same t::ps,i,σ,y,k,vs,G,hR,hF,ha,ho,hn,he,hB,h=>by
  obtain⟨v,us,rfl,ha⟩:=ha
  obtain⟨v',us',hvs,ho⟩:=ho
  cases hvs
  exact putOuts_run hR hF ha ho hn he hB h
 | .vw t::ps,i,σ,y,k,vs,G,hR,hF,ha,ho,hn,he,hB,h=>by
  obtain⟨v,us,rfl,ha⟩:=ha
  obtain⟨v',us',hvs,ho⟩:=ho
  cases hvs
  exact putOuts_run hR hF ha ho hn he hB h
 | .hof t::ps,i,σ,y,k,vs,G,hR,hF,ha,ho,hn,he,hB,h=>by
  obtain⟨v,us,rfl,ha⟩:=ha
  obtain⟨v',us',hvs,ho⟩:=ho
  cases hvs
  exact putOuts_run hR hF ha ho hn he hB h
 | .al t o::ps,i,σ,y,k,vs,G,hR,hF,ha,ho,hn,he,hB,h=>by
  obtain⟨v,us,rfl,ha⟩:=ha
  obtain⟨v',us',hvs,ho⟩:=ho
  cases hvs
  exact putOuts_run hR hF ha ho hn he hB h
 | .fsel t o::ps,i,σ,y,k,vs,G,hR,hF,ha,ho,hn,he,hB,h=>by
  obtain⟨v,us,rfl,ha⟩:=ha
  obtain⟨v',us',hvs,ho⟩:=ho
  cases hvs
  exact putOuts_run hR hF ha ho hn he hB h
 | .gob t g::ps,i,σ,y,k,vs,G,hR,hF,ha,ho,hn,he,hB,h=>by
  obtain⟨v,us,rfl,ha⟩:=ha
  obtain⟨v',us',hvs,ho⟩:=ho
  cases hvs
  exact putOuts_run hR hF ha ho hn he hB h
end
end Go.Ev
namespace Go.Ev
open Go
variable [KSl]

section
variable {X : Ctx} {σ σ' : St} {ι : Nat → Home} {a : Act} {w : World} {α : Type} {o : Oper} {nid : Nat}

theorem ValR_mk{t:Ty}{g:Bool}{x:t.T}{v:Value}{F:List Nat}{l:List Sc}(hv:ValR w true t g x v F)(hl:F2 (RSc ι) l (cellsOf g v)):RVs ι (l,g) v:=by
 cases g with
 | true =>
  obtain⟨vs,rfl⟩:=hv.2 rfl
  exact⟨vs,rfl,hl⟩
 | false =>
  simp only [cellsOf]at hl
  cases l with
  | nil=>exact hl.elim
  | cons c l =>
   cases l with
   | nil=>exact⟨c,rfl,hl.1⟩
   | cons _ _=>exact hl.2.elim

theorem comps_run{r:α×St}:∀ {rs:List (Ty×Bool)} {x:CT (rs.map (·.1))} {us:List Value} {F G:List Nat} {nid:Nat} {k:Pg α} {σ:St} {ι:Nat→Home},Rel X σ ι a w→CompsR w rs x us F→Free X σ ι w (F++G) →
  (newBs nid (comps rs x nid).2 k).run σ=some r→∃σ' ι',Rel X σ' ι' a w∧Lift ι ι'∧F2 (RVs ι') (comps rs x nid).1 us∧Free X σ' ι' w G∧(∀j,∀q∈(σ'.H j).par,q∈(σ.H j).par)∧k.run σ'=some r
 | [],x,us,F,G,nid,k,σ,ι,hR,hx,hF,h=>by
  obtain⟨rfl,rfl⟩:=hx
  exact⟨σ,ι,hR,fun _ _=>rfl,trivial,by simpa using hF,fun _ _ h=>h,h⟩
 | c::rs,x,us,F,G,nid,k,σ,ι,hR,hx,hF,h=>by
  obtain⟨v,us,F1,F2',rfl,rfl,hv,hx⟩:=hx
  simp only [comps]at h ⊢
  rw [newBs_append]at h
  obtain⟨σ1,ι1,hR1,hL1,hF1,hl1,hp1,h⟩:=unT_own (G:=F2'++G) hR hv.1 (by simpa using hF) h
  obtain⟨σ2,ι2,hR2,hL2,hl2,hF2,hp2,h⟩:=comps_run hR1 hx hF1 h
  exact⟨σ2,ι2,hR2,fun j hj=>by rw [hL2 j (by rw [hL1 j hj];exact hj),hL1 j hj],⟨RVs_lift hL2 (ValR_mk hv hl1),hl2⟩,hF2,fun j q hq=>hp1 j q (hp2 j q hq),h⟩

theorem putD_run2(hR:Rel X σ ι a w){dst:Option Tmp}{v:AV}{u:Value}{k:Pg α}{r:α×St}(hv:RAV ι v u)
  (h:(putD X.C dst v k).run σ=some r):∃σ1,σ1.H=σ.H∧Rel X σ1 ι (a.put dst u) w∧k.run σ1=some r:=by
 unfold putD at h
 cases dst with
 | none=>exact⟨σ,rfl,hR,h⟩
 | some d =>
  simp only at h
  cases hd:Nat.ble X.C.ntmps d with
  | true=>rw [hd]at h;cases h
  | false =>
   rw [hd]at h
   have hlt:d<X.C.ntmps:=by
    have h1 : ¬ X.C.ntmps≤d:=fun hle=>by rw [Nat.ble_eq_true_of_le hle]at hd;cases hd
    exact Nat.lt_of_not_le h1
   exact⟨σ.setT d v,rfl,hR.put hlt hv,h⟩

theorem Free.ofH{F:List Nat}{σ1:St}(hF:Free X σ ι w F)(e:σ1.H=σ.H):Free X σ1 ι w F:=⟨by rw [e];exact hF.away,hF.lt,hF.mu,hF.nd⟩

theorem tupAV_run:∀ {l:List (List Sc×Bool)} {us:List Value},F2 (RVs ι) l us→RAV ι (tupAV l) (retV us)
 | [c],[v],h=>h.1
 | [],[],h=>⟨#[],rfl,trivial⟩
 | _::_::_,_::_::_,h=>⟨_,rfl,h⟩
 | [_],_::_::_,h=>h.2.elim
 | _::_::_,[_],h=>h.2.elim
 | [],_::_,h=>h.elim
 | _::_,[],h=>h.elim

theorem disj_run{u v:List Nat}(h:disj u v=true):∀x∈u,x ∉ v:=by
 intro x hx hv
 simp only [disj,List.all_eq_true]at h
 have:=h x hx x hv
 rw [Nat.beq_refl]at this
 cases this

theorem nodupB_run:∀ {l:List Nat},nodupB l=true→l.Nodup
 | [],_ => .nil
 | x::l,h=>by
  simp only [nodupB,Bool.and_eq_true,List.all_eq_true]at h
  refine List.nodup_cons.2 ⟨fun hm => ?_,nodupB_run h.2⟩
  have:=h.1 x hm
  rw [Nat.beq_refl]at this
  cases this

theorem foots_nodup(hR:Rel X σ ι a w):∀ {i:List Nat},i.Nodup→(∀z∈i,(σ.H z).excl=true)→(i.flatMap fun z=>(ι z).foot).Nodup
 | [],_,_=>by simp
 | z::i,hn,he=>by
  obtain⟨hz,hn⟩:=List.nodup_cons.1 hn
  simp only [List.flatMap_cons]
  rw [List.nodup_append]
  refine⟨hR.nd z (he z (by simp)),foots_nodup hR hn (fun z hz=>he z (List.mem_cons_of_mem _ hz)),fun x hx y hy e => ?_⟩
  obtain⟨z',hz',hy⟩:=List.mem_flatMap.1 hy
  have he':=he z' (List.mem_cons_of_mem _ hz')
  exact hR.sep z z' (fun e=>hz (e ▸ hz')) (he z (by simp)) (live_of_excl he') (by rw [hR.po z' he'];intro q hq;simp at hq) (by rw [hR.po z' he'];simp) x hx (e ▸ hy)

theorem uok_apart(hR:Rel X σ ι a w){u U i:List Nat}(hu:UOk σ ι u U)(he:∀z∈i,(σ.H z).excl=true)(hd:disj u i=true):∀b∈U,b ∉ i.flatMap fun z=>(ι z).foot:=by
 intro b hb hm
 obtain⟨z,hz,hzb⟩:=List.mem_flatMap.1 hm
 obtain⟨id,h1,h2,h3,h4,h5⟩:=hu b hb
 have hd:=disj_run hd
 exact hR.sep z id (fun e=>hd id h1 (e ▸ hz)) (he z hz) h3 h4 (fun hr=>hd z (h5 z hr) hz) b hzb h2

theorem call_run{v:Variant}{g:FuncId}{avs:List AV}{vs:List Value}{dst:Option Tmp}{k:Pg α}{r:α×St}{L:List Nat}(hR:Rel X σ ι a w)(hL:Free X σ ι w L)(hv:F2 (RAV ι) avs vs)(hG:Contract X.C.P g v)
  (h:(callV X.C v avs dst nid k).run σ=some r) :
  Runs X.C.P g vs.toArray w fun e w'=>∃u σ2 ι2,e = .returned u∧Rel X σ2 ι2 (a.put dst u) w'∧Free X σ2 ι2 w' L∧Lift ι ι2∧(∀b∈L,w'.heap[b]? = w.heap[b]?)∧(∀j,∀q∈(σ2.H j).par,q∈(σ.H j).par)∧k.run σ2=some r:=by
 unfold callV at h
 obtain⟨x,u,e,i,U,E,O,σ1,hA,hu,hE,hO,hless,hR1,hF1,hdead,hal,h⟩:=rdArgs_run (G:=L) hR hL h hv
 cases hc:(disj u (i++e)&&nodupB (i++e))with
 | false=>rw [hc]at h;cases h
 | true =>
  rw [hc]at h
  simp only [cond_true,Pg.run]at h
  rw [Bool.and_eq_true]at hc
  obtain⟨hdj,hnd⟩:=hc
  have hnd:=nodupB_run hnd
  have hfl:O.flatten++E=(i++e).flatMap fun z=>(ι z).foot:=by
   rw [List.flatMap_append,←hE.ft,hO.ft,List.flatMap_def]
  have hex:∀z∈i++e,(σ.H z).excl=true:=by
   intro z hz
   rcases List.mem_append.1 hz with hz | hz
   ·exact hO.ex z hz
   ·exact hE.ex z hz
  cases hfn:v.fn x with
  | none=>rw [hfn]at h;cases h
  | some res =>
   rw [hfn]at h
   simp only [Option.bind_some]at h
   have hndO:(O.flatten++E).Nodup:=by rw [hfl];exact foots_nodup hR hnd hex
   have hap:∀b∈U,b ∉ O.flatten++E:=by rw [hfl];exact uok_apart hR hu hex hdj
   have hlt:∀b∈U++(O.flatten++E),b<w.heap.size:=by
    intro b hb
    rcases List.mem_append.1 hb with hb | hb
    ·obtain⟨id,h1,h2,h3,_⟩:=hu b hb
     exact hR.lt id h3 b h2
    ·rw [hfl]at hb
     obtain⟨z,hz,hb⟩:=List.mem_flatMap.1 hb
     exact hR.lt z (live_of_excl (hex z hz)) b hb
   have hkr:∀b∈KSl.R,b<w.heap.size∧b ∉ O.flatten++E:=by
    intro b hb
    obtain⟨k1,k2⟩:=X.ka b hb
    refine⟨Nat.lt_of_lt_of_le k1 hR.le.le,fun hm => ?_⟩
    rw [hfl]at hm
    obtain⟨z,hz,hm⟩:=List.mem_flatMap.1 hm
    rcases hR.mu z (hex z hz) b hm with h1 | h1
    ·omega
    ·exact k2 h1
   have hcall:=hG w x vs U E O res hA hndO hap hlt hR.kin hkr hfn
      -- what the call leaves
   have key:∀en w',(∃us F,en=Ending.returned (retV us)∧CompsR w' v.rs (csplit _ _ res).1 us F∧OutsR w' v.ps (csplit _ _ res).2 vs O∧F.Nodup ∧
     (∀b∈F,(w.heap.size≤b∧b<w'.heap.size)∨b∈E)∧(∀b,b<w.heap.size→b ∉ O.flatten++E→w'.heap[b]? = w.heap[b]?)∧WLe w w') →
     ∃u σ2 ι2,en = .returned u∧Rel X σ2 ι2 (a.put dst u) w'∧Free X σ2 ι2 w' L∧Lift ι ι2∧(∀b∈L,w'.heap[b]? = w.heap[b]?)∧(∀j,∀q∈(σ2.H j).par,q∈(σ.H j).par)∧k.run σ2=some r:=by
    rintro en w' ⟨us,F,rfl,hcomp,houts,hFn,hFb,hw,hsz⟩
        -- the ids that are told behind are still there
    have hi1:∀z∈i,(σ1.H z).excl=true:=by
     intro z hz
     have hze:=hO.ex z hz
     rw [hdead z (fun hm=>(List.nodup_append.1 hnd).2.2 z hz z hm rfl)]
     exact hze
    obtain⟨hR2,hF2⟩:=kills_run hR1 hF1 (List.nodup_append.1 hnd).1 hi1
    have hFr:(F.filter fun b=>decide (w.heap.size≤b)).Nodup:=hFn.filter _
    obtain⟨hR3,hF3⟩:=hR2.away hF2 (G:=F.filter fun b=>decide (w.heap.size≤b)) hsz (fun b hb hbF=>hw b hb (fun hm=>hbF (by
     rw [hfl,List.flatMap_append]at hm
     rcases List.mem_append.1 hm with hm | hm
     ·exact List.mem_append.2 (.inr hm)
     ·rw [←hE.ft]at hm;exact List.mem_append.2 (.inl (List.mem_append.2 (.inr hm)))))) hFr (fun b hb=>by
      obtain⟨hb1,hb2⟩:=List.mem_filter.1 hb
      have hb2:=of_decide_eq_true hb2
      rcases hFb b hb1 with h | h
      ·exact h
      ·exact absurd (hlt b (List.mem_append.2 (.inr (List.mem_append.2 (.inr h))))) (by omega))
    have hOi:O=i.map fun z=>(ι z).foot:=hO.ft
        -- what is on loan lies apart
    have hndA:=hF2.nd
    rw [List.append_assoc,List.nodup_append]at hndA
    have hLap:∀b∈L,b ∉ O.flatten++E:=by
     intro b hb hm
     rw [hfl,List.flatMap_append]at hm
     rcases List.mem_append.1 hm with hm | hm
     ·exact hndA.2.2 b hb b (List.mem_append.2 (.inr hm)) rfl
     ·rw [←hE.ft]at hm
      exact hndA.2.2 b hb b (List.mem_append.2 (.inl hm)) rfl
    have hF4:Free X (kills σ1 i) ι w' ((i.flatMap fun z=>(ι z).foot)++(F++L)):=by
     refine hF3.sub (fun b hb => ?_) ?_
     ·rcases List.mem_append.1 hb with hb | hb
      ·exact List.mem_append.2 (.inl (List.mem_append.2 (.inr hb)))
      ·rcases List.mem_append.1 hb with hb | hb
       ·rcases hFb b hb with h | h
        ·exact List.mem_append.2 (.inr (List.mem_filter.2 ⟨hb,decide_eq_true h.1⟩))
        ·exact List.mem_append.2 (.inl (List.mem_append.2 (.inl (List.mem_append.2 (.inr h)))))
       ·exact List.mem_append.2 (.inl (List.mem_append.2 (.inl (List.mem_append.2 (.inl hb)))))
     ·rw [List.nodup_append]
      have hn2:=hndO
      rw [hfl,List.flatMap_append,List.nodup_append]at hn2
      refine⟨hn2.1,?_,fun p hp q hq e2 => ?_⟩
      ·rw [List.nodup_append]
       refine⟨hFn,hL.nd,fun p hp q hq e2 => ?_⟩
       rcases hFb p hp with h | h
       ·have:=hL.lt q hq
        omega
       ·exact hLap q hq (List.mem_append.2 (.inr (e2 ▸ h)))
      ·rcases List.mem_append.1 hq with hq | hq
       ·rcases hFb q hq with h | h
        ·obtain⟨z,hz,hpz⟩:=List.mem_flatMap.1 hp
         have:=hR.lt z (live_of_excl (hO.ex z hz)) p hpz
         omega
        ·rw [hE.ft]at h
         exact hn2.2.2 p hp q h e2
       ·refine hLap q hq ?_
        rw [hfl,List.flatMap_append]
        exact List.mem_append.2 (.inl (e2 ▸ hp))
    obtain⟨σ3,hR4,hF5,hp3,h⟩:=putOuts_run hR3 hF4 hal (by rw [←hOi];exact houts) (List.nodup_append.1 hnd).1 hi1
     (fun z hz j q hq hqe ver hh=>hR1.pv j q hq ver (by rw [hqe];exact hh)) h
    obtain⟨σ4,ι4,hR5,hL4,hl,hF6,hp4,h⟩:=comps_run (G:=L) hR4 hcomp hF5 h
    obtain⟨σ5,hH5,hR6,h⟩:=putD_run2 hR5 (tupAV_run hl) h
    refine⟨_,σ5,ι4,rfl,hR6,hF6.ofH hH5,hL4,fun b hb=>hw b (hL.lt b hb) (hLap b hb),fun j q hq => ?_,h⟩
    rw [hH5]at hq
    have:=hp3 j q (hp4 j q hq)
    rcases hless.H j with hj | hj
    ·rwa [hj]at this
    ·rw [hj]at this;simp [Blk.par]at this
   rcases hcall with ⟨h1,h2⟩ | ⟨u,w',h1,h2⟩
   ·exact .inl ⟨h1,h2.mono key⟩
   ·exact .inr ⟨u,w',h1,key _ _ h2⟩

structure CfgOk(C:Cfg):Prop where
 ty:∀e t,C.ty e=some t→TyOk C.P e t
 G:∀g ids v,C.G g ids=some v→Contract C.P g v

theorem Done.runs{g:FuncId}{args:Array Value}{o:Oper}{σ':St}(he:∀f:Next→Sem Next,True)(hx:∃s:Sem Next,(execOp a.eval o).run X.C.P w=(callFunc g args).run X.C.P w)
  (h:Runs X.C.P g args w fun e w'=>∃u σ2 ι2,e = .returned u∧Rel X σ2 ι2 (a.put o.dst u) w'∧(Pg.ret ():Pg Unit).run σ2=some ((),σ')):Done X o σ' a w:=by
 obtain⟨_,hx⟩:=hx
 intro K Q hK
 rw [hx]
 rcases h with ⟨h1,h2⟩ | ⟨u,w',h1,h2⟩
 ·rw [h1]
  refine h2.mono fun e w' hh => ?_
  obtain⟨u,σ2,ι2,rfl,hR,hs⟩:=hh
  simp only [Pg.run,Option.some.injEq,Prod.mk.injEq,true_and]at hs
  subst hs
  exact hK _ _ _ hR
 ·rw [h1]
  obtain⟨u',σ2,ι2,hu,hR,hs⟩:=h2
  cases hu
  simp only [Pg.run,Option.some.injEq,Prod.mk.injEq,true_and]at hs
  subst hs
  exact hK _ _ _ hR

theorem F2_map{l:List (List Sc×Bool)}{us:List Value}(h:F2 (RVs ι) l us):F2 (RAV ι) (l.map fun p => .one p.1 p.2) us:=by
 induction l generalizing us with
 | nil=>cases us with
  | nil=>trivial
  | cons _ _=>exact h.elim
 | cons p l ih=>cases us with
  | nil=>exact h.elim
  | cons u us=>exact⟨h.1,ih h.2⟩

structure LoanOk(X:Ctx)(σ1:St)(ι:Nat→Home)(w:World)(l:Loan)(L:List Nat)(b o:Nat)(arr:Array Value)(e:TypeId)(Fs:List (List Nat))(c:Nat)(A':Option Addr)(n' c':Nat)(F' G:List Nat):Prop where
 hp:ι l.pid = .row (some ⟨b,o,none⟩) l.xs.length c (b::(Fs.flatten++G))
 hc:l.xs.length≤c
 hw:w.heap[b]? = some (.cells arr e (0,0))
 hs:o+c*1≤arr.size
 hl:Fs.length=l.xs.length
 hel:∀j x Fj,l.xs[j]? = some x→Fs[j]? = some Fj→RE true w (.sl l.t) x ((arr.toList.drop (o+j*1)).take 1) Fj
 hi:(arr.toList.drop (o+l.i*1)).take 1 = [.slice A' n' c']
 hF:Fs[l.i]? = some F'
 hsid:ι l.sid = .row A' n' c' F'
 perm:(L++F').Perm (b::(Fs.flatten++G))
 ver:∀j,∀q∈(σ1.H j).par,q.1=l.pid→q.2≤l.ver
 ne:l.sid≠l.pid
 hG:∀k∈G,k<w.heap.size

theorem flatten_get{Fs:List (List Nat)}{i:Nat}{F':List Nat}(h:Fs[i]? = some F'):((Fs.take i).flatten++(Fs.drop (i+1)).flatten++F').Perm Fs.flatten:=by
 have hi:=(List.getElem?_eq_some_iff.1 h).1
 have e:Fs=Fs.take i++F'::Fs.drop (i+1):=by
  have:=(List.getElem?_eq_some_iff.1 h).2
  rw [←this,List.getElem_cons_drop,List.take_append_drop]
 have e2:Fs.flatten=(Fs.take i).flatten++(F'++(Fs.drop (i+1)).flatten):=by
  conv=>lhs;rw [e]
  simp
 rw [e2,List.append_assoc]
 exact List.Perm.append_left _ List.perm_append_comm

theorem lend_run{sid:Nat}{k:Option Loan→Pg α}{r:α×St}(hR:Rel X σ ι a w)(h:(lend sid k).run σ=some r) :
  (k none).run σ=some r∨∃l σ1 L b o arr e Fs c A' n' c' F' G,l.sid=sid∧LoanOk X σ1 ι w l L b o arr e Fs c A' n' c' F' G∧Rel X σ1 ι a w∧Free X σ1 ι w L∧(k (some l)).run σ1=some r:=by
 unfold lend at h
 replace h:=getB_run h
 split at h
 ·rename_i t0 x0 sv par0 hb0
  replace h:=getB_run h
  split at h
  ·rename_i t xs sid' i pid ver hbi
   cases hc:(Nat.beq sid sid' && !Nat.beq sid pid)with
   | false=>rw [hc]at h;cases h
   | true =>
    rw [hc]at h
    simp only [cond_true]at h
    rw [Bool.and_eq_true]at hc
    have h1:=Nat.eq_of_beq_eq_true hc.1
    subst h1
    have hne:sid≠pid:=by
     rintro rfl
     rw [Nat.beq_refl]at hc;simp at hc
    replace h:=getB_run h
    split at h
    ·rename_i t1 x1 ver' hbp
     cases hv:Nat.beq ver ver' with
     | false=>rw [hv]at h;cases h
     | true =>
      rw [hv]at h
      have hv:=Nat.eq_of_beq_eq_true hv
      subst hv
      simp only [cond_true,Pg.run]at h
      have hbl:=hR.bl (sid+4)
      rw [hbi]at hbl
      obtain⟨A,n,c,F,hh,hpid,hlink⟩:=hbl
      obtain⟨b,o,arr,e,Fs,G,A',n',c',F',g1,g2,g3,g4,g5,⟨g6,g6'⟩,g7,g8,g9,g10,g11⟩:=hlink (by intro q hq;simp at hq;subst hq;exact⟨_,_,_,hbp⟩)
      subst g1 g2 g6
      have hexp:(σ.H pid).excl=true:=by rw [hbp];rfl
      have hR1:=hR.kill (id:=pid) (by rw [hbp];simp)
      have hF1:=Free.nil.give hR hexp (F := [])
      rw [hh]at hpid
      rw [hpid]at hF1
      simp only [Home.foot,List.nil_append]at hF1
      have hs1:(σ.setH pid .dead).H sid = .row t0 x0 false sv par0:=by rw [setH_ne _ _ hne,hb0]
      have hR2:=hR1.kill (id:=sid) (by rw [hs1];simp)
      have hF2:=hF1.kill sid
      have hperm:=flatten_get g10
      let L:=b::(G++((Fs.take i).flatten++(Fs.drop (i+1)).flatten))
      have hpermL:(L++F').Perm (b::(Fs.flatten++G)):=by
       simp only [L,List.cons_append,List.append_assoc]
       refine List.Perm.cons b ?_
       refine(List.Perm.append_left G (by rw [←List.append_assoc];exact hperm)).trans List.perm_append_comm
      have hF3:Free X ((σ.setH pid .dead).setH sid .dead) ι w (F'++L):=hF2.sub (fun k hk=>hpermL.mem_iff.1 (by simp only [List.mem_append]at hk ⊢; exact hk.symm)) ((List.perm_append_comm.trans hpermL).nodup_iff.2 hF2.nd)
      have hx:i<xs.length:=by rw [←g7];exact(List.getElem?_eq_some_iff.1 g10).1
      have hgx:xs.getD i []=xs[i]:=by rw [List.getD_eq_getElem?_getD,List.getElem?_eq_getElem hx];rfl
      have hre:=g8 i xs[i] F' (List.getElem?_eq_getElem hx) g10
      rw [g9]at hre
      obtain⟨A2,n2,c2,hcs,hrow⟩:=hre
      simp only [List.cons.injEq,and_true]at hcs
      cases hcs
      have hbnd:∀j,∀q∈(((σ.setH pid .dead).setH sid .dead).H j).par,q.1=sid→q.2≤sv:=by
       intro j q hq e2
       exact hR.pv j q (par_set rfl (par_set rfl hq)) _ (by rw [e2,hb0];rfl)
      obtain⟨hR3,hF4⟩:=hR2.revive (F:=F') hF3 (id:=sid) (setH_same _ _ _) (blk := .row t (xs.getD i []) true (sv+1) []) (by rw [g11];rfl)
       (by rw [g11];exact⟨A',n',c',F',rfl,fun _=>by rw [hgx];exact hrow⟩) rfl (by simp)
       (fun j hp hm=>by
        obtain⟨q,hq,hqe⟩:=List.mem_map.1 hm
        obtain⟨t2,x2,p2,hh2⟩:=hp q hq
        rw [hqe,setH_same]at hh2
        injection hh2 with _ _ _ hv2 _
        have:=hbnd j q hq hqe
        omega)
       (fun j q hq hqe ver2 hh2=>by
        simp only [Blk.ver?,Option.some.injEq]at hh2
        have:=hbnd j q hq hqe
        omega)
      refine .inr ⟨⟨t,xs,sid,i,pid,ver⟩,_,L,b,o,arr,e,Fs,c,A',n',c',F',G,rfl,⟨hpid,g3,g4,g5,g7,g8,g9,g10,g11,hpermL,?_,hne,g6'⟩,hR3,hF4,h⟩
      intro j q hq e2
      exact hR.pv j q (par_set rfl (par_set rfl (par_set rfl hq))) _ (by rw [e2,hbp];rfl)
    ·cases h
  ·exact .inl h
 ·exact .inl h

theorem borrow_run{ps:List BTy}{avs:List AV}{k:Option Loan→Pg α}{r:α×St}(hR:Rel X σ ι a w)(h:(borrow ps avs k).run σ=some r) :
  (k none).run σ=some r∨∃l σ1 L b o arr e Fs c A' n' c' F' G,LoanOk X σ1 ι w l L b o arr e Fs c A' n' c' F' G∧Rel X σ1 ι a w∧Free X σ1 ι w L∧(k (some l)).run σ1=some r:=by
 unfold borrow at h
 cases ho:ownFirst ps with
 | false=>rw [ho]at h;exact .inl h
 | true =>
  rw [ho]at h
  simp only [cond_true]at h
  split at h
  ·rcases lend_run hR h with h | ⟨l,σ1,L,b,o,arr,e,Fs,c,A',n',c',F',G,_,h1,h2,h3,h4⟩
   ·exact .inl h
   ·exact .inr ⟨l,σ1,L,b,o,arr,e,Fs,c,A',n',c',F',G,h1,h2,h3,h4⟩
  ·exact .inl h

theorem giveBack_run{l:Loan}{k:Pg α}{r:α×St}{σ1 σ2:St}{ι2:Nat→Home}{a':Act}{w':World}{L:List Nat}{b o:Nat}{arr:Array Value}{e:TypeId}{Fs:List (List Nat)}{c:Nat}{A':Option Addr}{n' c':Nat}{F':List Nat}
  {G:List Nat} (hl:LoanOk X σ1 ι w l L b o arr e Fs c A' n' c' F' G) (hR:Rel X σ2 ι2 a' w') (hF:Free X σ2 ι2 w' L) (hL:Lift ι ι2) (hw:∀b∈L,w'.heap[b]? = w.heap[b]?) (hp:∀j,∀q∈(σ2.H j).par,q∈(σ1.H j).par)
  (h:(giveBack (some l) k).run σ2=some r):∃σ3,Rel X σ3 ι2 a' w'∧k.run σ3=some r:=by
 unfold giveBack at h
 simp only at h
 replace h:=getB_run h
 split at h
 ·rename_i t' y0 sv hb
  split at h
  ·rename_i y hy
   obtain⟨rfl,rfl⟩:=castRow_some hy
   replace h:=getB_run h
   split at h
   ·rename_i hd
    simp only [Pg.run]at h
    have hs2:=hL.eq hl.hsid (by simp)
    have hp2:=hL.eq hl.hp (by simp)
    have hrow:=row_of hR hb (chk_none rfl) hs2
    have hR1:=hR.kill (id:=l.sid) (by rw [hb];simp)
    have hF1:=hF.give hR (id:=l.sid) (by rw [hb];rfl)
    rw [hs2]at hF1
    simp only [Home.foot]at hF1
    have hF2:Free X (σ2.setH l.sid .dead) ι2 w' ((b::(Fs.flatten++G)) ++ []):=by
     rw [List.append_nil]
     exact hF1.sub (fun k hk=>hl.perm.mem_iff.2 hk) (hl.perm.nodup_iff.1 hF1.nd)
    have hbL:b∈L:=by
     have:=hl.perm.mem_iff.2 (List.mem_cons_self (a:=b) (l:=Fs.flatten++G))
     rcases List.mem_append.1 this with h | h
     ·exact h
     ·exfalso
      have hnd:=hl.perm.nodup_iff.1 hF1.nd
      have:b∈Fs.flatten:=List.mem_flatten.2 ⟨F',List.mem_of_getElem? hl.hF,h⟩
      exact(List.nodup_cons.1 hnd).1 (List.mem_append.2 (.inl this))
    have hx:l.i<l.xs.length:=by rw [←hl.hl];exact(List.getElem?_eq_some_iff.1 hl.hF).1
    have hoth:∀j Fj,Fs[j]? = some Fj→j≠l.i→∀k∈Fj,k∈L:=by
     intro j Fj hj hne k hk
     have hkf:k∈b::(Fs.flatten++G):=List.mem_cons_of_mem _ (List.mem_append.2 (.inl (List.mem_flatten.2 ⟨Fj,List.mem_of_getElem? hj,hk⟩)))
     rcases List.mem_append.1 (hl.perm.mem_iff.2 hkf)with h | h
     ·exact h
     ·exfalso
      have hnd:=(List.nodup_append.1 (List.nodup_cons.1 (hl.perm.nodup_iff.1 hF1.nd)).2).1
      have hpw:=(List.pairwise_flatten.1 hnd).2
      have hdis:=List.pairwise_iff_getElem.1 hpw
      obtain⟨hj1,hj2⟩:=List.getElem?_eq_some_iff.1 hj
      obtain⟨hi1,hi2⟩:=List.getElem?_eq_some_iff.1 hl.hF
      rcases Nat.lt_or_gt_of_ne hne with hlt | hlt
      ·have:=hdis j l.i hj1 hi1 hlt
       rw [hj2,hi2]at this
       exact this k hk k h rfl
      ·have:=hdis l.i j hi1 hj1 hlt
       rw [hj2,hi2]at this
       exact this k h k hk rfl
    have hrr:RR true w' (.sl l.t) (l.xs.set l.i y) (some ⟨b,o,none⟩) l.xs.length c (b::(Fs.flatten++G)):=by
     refine⟨by simp,hl.hc,.inr ⟨b,o,arr,e,(0,0),Fs,G,rfl,by rw [hw b hbL];exact hl.hw,fun _=>rfl,by simpa [Ty.size] using hl.hs,rfl,fun k hk=>hF2.lt k (by simp [hk]),by simp [hl.hl],fun j x Fj hxj hFj => ?_⟩⟩
     by_cases hj:j=l.i
     ·subst hj
      rw [hl.hF]at hFj
      cases hFj
      rw [List.getElem?_set_self hx]at hxj
      cases hxj
      simp only [Ty.size]
      rw [hl.hi]
      exact⟨A',n',c',rfl,hrow⟩
     ·rw [List.getElem?_set_ne (fun e=>hj e.symm)]at hxj
      have:=hl.hel j x Fj hxj hFj
      exact RE_frame (fun k hk=>hw k (hoth j Fj hFj hj k hk)) this
    have hd2:(σ2.setH l.sid .dead).H l.pid = .dead:=by rw [setH_ne _ _ (fun e=>hl.ne e.symm),hd]
    have hbnd:∀j,∀q∈((σ2.setH l.sid .dead).H j).par,q.1=l.pid→q.2≤l.ver:=fun j q hq e2=>hl.ver j q (hp j q (par_set rfl hq)) e2
    obtain⟨hR3,_⟩:=hR1.revive hF2 (id:=l.pid) hd2 (blk := .row (.sl l.t) (l.xs.set l.i y) true (l.ver+1) []) (by rw [hp2];rfl)
     (by rw [hp2];exact⟨_,_,_,_,rfl,fun _=>hrr⟩) rfl (by simp)
     (fun j hp hm=>by
      obtain⟨q,hq,hqe⟩:=List.mem_map.1 hm
      obtain⟨t2,x2,p2,hh2⟩:=hp q hq
      rw [hqe,setH_same]at hh2
      injection hh2 with _ _ _ hv2 _
      have:=hbnd j q hq hqe
      omega)
     (fun j q hq hqe ver2 hh2=>by
      simp only [Blk.ver?,Option.some.injEq]at hh2
      have:=hbnd j q hq hqe
      omega)
    exact⟨_,hR3,h⟩
   ·cases h
  ·cases h
 ·cases h

theorem Runs.mono{P:Program}{g:FuncId}{args:Array Value}{R R':Ending→World→Prop}(h:Runs P g args w R)(hm:∀e w',R e w'→R' e w'):Runs P g args w R':=by
 rcases h with ⟨h1,h2⟩ | ⟨u,w',h1,h2⟩
 ·exact .inl ⟨h1,h2.mono hm⟩
 ·exact .inr ⟨u,w',h1,hm _ _ h2⟩

theorem op_call{c:Call}{f:Operand}(hC:CfgOk X.C)(ho:o.op = .call c)(hc:c.callee = .value f)(hR:Rel X σ ι a w)(h:(opPg X.C nid o).run σ=some ((),σ')):Done X o σ' a w:=by
 simp only [opPg,ho,hc]at h
 obtain⟨fv,hf,h⟩:=opnd_run hR h
 obtain⟨avs,hv,h⟩:=opnds_run hR h
 split at h
 ·rename_i g hg
  have hfe:=asFn0_run hg hf
  split at h
  ·rename_i v hv2
   have hr:Runs X.C.P g (c.args.toList.map a.eval).toArray w fun e w'=>∃u σ2 ι2,e = .returned u∧Rel X σ2 ι2 (a.put o.dst u) w'∧(Pg.ret ():Pg Unit).run σ2=some ((),σ'):=by
    rcases borrow_run hR h with h | ⟨l,σ1,L,b,o2,arr,el,Fs,c2,A',n',c',F',G9,hl,hR1,hF1,h⟩
    ·refine(call_run hR Free.nil hv (hC.G _ _ _ hv2) h).mono fun e w' hh => ?_
     obtain⟨u,σ2,ι2,he,h1,_,_,_,_,h2⟩:=hh
     exact⟨u,σ2,ι2,he,h1,h2⟩
    ·refine(call_run hR1 hF1 hv (hC.G _ _ _ hv2) h).mono fun e w' hh => ?_
     obtain⟨u,σ2,ι2,he,h1,h2,h3,h4,h5,h6⟩:=hh
     obtain⟨σ3,h7,h8⟩:=giveBack_run hl h1 h2 h3 h4 h5 h6
     exact⟨u,σ3,ι2,he,h7,h8⟩
   refine Done.runs (g:=g) (args:=(c.args.toList.map a.eval).toArray) (fun _=>trivial) ⟨.halt .blocked,?_⟩ hr
   simp [execOp,ho,resolve,hc,hfe,Deferred.ofValue,invoke]
   congr 2
   apply Array.ext'
   simp
  ·cases h
 ·split at h
  ·rename_i g id hg
   obtain⟨cs,e,hfe⟩:=asFn_run hg hf
   replace h:=getB_run h
   split at h
   ·rename_i l hb
    have hbl:=hR.bl id
    rw [hb,e]at hbl
    obtain⟨cs',h1,h2⟩:=hbl
    cases h1
    split at h
    ·rename_i v hv2
     have hr:Runs X.C.P g (c.args.toList.map a.eval++cs.toList).toArray w fun e w'=>∃u σ2 ι2,e = .returned u∧Rel X σ2 ι2 (a.put o.dst u) w'∧(Pg.ret ():Pg Unit).run σ2=some ((),σ'):=by
      refine(call_run (vs:=c.args.toList.map a.eval++cs.toList) hR Free.nil (F2_append hv (F2_map h2)) (hC.G _ _ _ hv2) h).mono fun e w' hh => ?_
      obtain⟨u,σ2,ι2,he,h1,_,_,_,_,h2⟩:=hh
      exact⟨u,σ2,ι2,he,h1,h2⟩
     refine Done.runs (g:=g) (args:=(c.args.toList.map a.eval++cs.toList).toArray) (fun _=>trivial) ⟨.halt .blocked,?_⟩ hr
     simp [execOp,ho,resolve,hc,hfe,Deferred.ofValue,invoke]
     congr 2
     apply Array.ext'
     simp
    ·cases h
   ·cases h
  ·cases h

theorem refresh_run{rt:List Nat}{l:Loan}{b o n c n' c':Nat}{A':Option Addr}{F F':List Nat}{arr:Array Value}{e:TypeId}{k:Pg α}{r:α×St}(hR:Rel X σ ι a w)(hp:ι l.pid = .row (some ⟨b,o,none⟩) n c F)(hsid:ι l.sid = .row A' n' c' F')
  (hw:w.heap[b]? = some (.cells arr e (0,0))) (hi:(arr.toList.drop (o+l.i*1)).take 1 = [.slice A' n' c']) (hlt:l.i<n) (h:(refresh nid rt l k).run σ=some r):∃σ2 ι2,Rel X σ2 ι2 a w∧k.run σ2=some r:=by
 unfold refresh at h
 replace h:=getB_run h
 split at h
 ·rename_i t xs ver hb
  obtain⟨σ1,ι1,b2,o2,cs2,arr2,el2,A2,n2,c2,F2',hA2,hR1,_,_,⟨hL1,hn1,hw2,hs2⟩,h⟩:=idx_run hR hb hp hlt h
  cases hA2
  rw [hw]at hw2
  cases hw2
  rw [hi]at hs2
  cases hs2
  obtain⟨σ2,hR2,h⟩:=retgt_run (hL1.eq hsid (by simp)) hn1 hR1 h
  exact⟨σ2,ι1,hR2,h⟩
 ·cases h

theorem sfxStore_cases{id ver i:Nat}{v:List Sc}{k old:Pg α}{r:α×St}(h:(sfxStore nid id ver i v k old).run σ=some r):old.run σ=some r ∨
  ∃s2 sid l t xs,v = [.sl s2]∧σ.H (s2+4) = .sfx sid s2 l t.size∧σ.H (sid+4) = .idx t xs sid i id ver∧(Pg.putB id .dead (newB nid (.row (.sl t) (xs.set i ((xs.getD i []).drop l)) true 0 []) k)).run σ=some r:=by
 unfold sfxStore at h
 split at h
 ·rename_i s2
  replace h:=getB_run h
  split at h
  ·rename_i sid s2' l sz hb
   replace h:=getB_run h
   split at h
   ·rename_i t xs sid' i' pid ver' hb2
    cases hc:(Nat.beq s2 s2'&&Nat.beq sid sid'&&Nat.beq id pid&&Nat.beq i i'&&Nat.beq ver ver'&&Nat.beq sz t.size)with
    | false=>rw [hc]at h;cases h
    | true =>
     rw [hc]at h
     simp only [cond_true]at h
     simp only [Bool.and_eq_true]at hc
     obtain⟨⟨⟨⟨⟨c1,c2⟩,c3⟩,c4⟩,c5⟩,c6⟩:=hc
     rw [←Nat.eq_of_beq_eq_true c1,Nat.eq_of_beq_eq_true c6]at hb
     rw [←Nat.eq_of_beq_eq_true c2,←Nat.eq_of_beq_eq_true c3,←Nat.eq_of_beq_eq_true c4,←Nat.eq_of_beq_eq_true c5]at hb2
     exact .inr ⟨s2,sid,l,t,xs,rfl,hb,hb2,h⟩
   ·cases h
  ·exact .inl h
 ·exact .inl h

theorem set_perm{F2:List Nat}:∀ {Fs:List (List Nat)} {i:Nat} (hi:i<Fs.length),F2.Perm Fs[i]→(Fs.set i F2).flatten.Perm Fs.flatten
 | [],i,hi,_=>by simp at hi
 | x::Fs,0,_,h=>by simpa using List.Perm.append_right _ h
 | x::Fs,i+1,hi,h=>by
  simp only [List.set_cons_succ,List.flatten_cons]
  exact List.Perm.append_left x (set_perm (by simpa using hi) (by simpa using h))

theorem sfx_store_run{t:TypeId}{x y:Operand}(ho:o.op = .store t x y)(hR:Rel X σ ι a w){id ver i s2 sid l b o' n c:Nat}{ty t':Ty}{xs:List ty.T}{xs':List (List t'.T)}{F:List Nat}{rt:List Nat}
  (hb:σ.H id = .row ty xs true ver []) (e:ι id = .row (some ⟨b,o',none⟩) n c F) (hi:i<n) (hx:a.eval x = .pointer (some ⟨b,o'+i*ty.size+0,none⟩)) (hty:ty.size=1)
  (hcells:F2 (RSc ι) [.sl s2] (a.eval y).cells.toList) (hsz:sizeB X.C.P t=some (a.eval y).cells.size) (h1:∀u∈(a.eval y).cells.toList,u.oneCell'=true)
  (hb2:σ.H (s2+4) = .sfx sid s2 l t'.size) (hb3:σ.H (sid+4) = .idx t' xs' sid i id ver)
  (h:(Pg.putB id .dead (newB nid (.row (.sl t') (xs'.set i ((xs'.getD i []).drop l)) true 0 []) (retgt id nid rt (putD X.C o.dst (.sc .top) (.ret ()))))).run σ=some ((),σ')):Done X o σ' a w:=by
 simp only [Pg.run]at h
 have hr0:=row_of hR hb (chk_none rfl) e
  -- what the row holds
 have hbl3:=hR.bl (sid+4)
 rw [hb3]at hbl3
 obtain⟨A0,n0,c0,F0,hhome,hιid,hlink⟩:=hbl3
 have hpo:ParOk σ.H [(id,ver)]:=by
  intro q hq
  simp only [List.mem_cons,List.not_mem_nil,or_false]at hq
  subst hq
  exact⟨ty,xs,[],hb⟩
 rw [hhome,e]at hιid
 cases hιid
 obtain⟨b1,o1,arr,el,Fs,G,A',n',c',F',hA,hn,hc,hw,hs,⟨hF,hG⟩,hl,hel,hhdr,hFi,hsid⟩:=hlink hpo
 cases hA
 have hrr:RR true w (.sl t') xs' (some ⟨b,o',none⟩) n c F:=⟨hn,hc,.inr ⟨b,o',arr,el,(0,0),Fs,G,rfl,hw,fun _=>rfl,by simpa [Ty.size] using hs,hF,hG,hl,hel⟩⟩
  -- what is stored
 have hbl2:=hR.bl (s2+4)
 rw [hb2]at hbl2
 obtain⟨_,A2,n2,c2,F2,F3,hι1,hl2,hc2,hι2⟩:=hbl2
 rw [hsid]at hι1
 cases hι1
 generalize hcl:(a.eval y).cells.toList=cl at hcells
 cases cl with
 | nil=>exact hcells.elim
 | cons val cl =>
 cases cl with
 | cons _ _=>exact hcells.2.elim
 | nil =>
 obtain⟨A3,n3,c3,F4,hι3,hval⟩:=hcells.1
 rw [hι2]at hι3
 cases hι3
 have hcsz:(a.eval y).cells.size=1:=by
  have:=congrArg List.length hcl
  simpa using this
 obtain⟨arr2,e2,Fs2,G2,hFi2,hx2,hw2,hsz2,hF2,hre,hset⟩:=RR_setG hrr hi
 have harr:arr2=arr∧e2=el:=by
  rw [hw]at hw2
  cases hw2
  exact⟨rfl,rfl⟩
 obtain⟨rfl,rfl⟩:=harr
 obtain⟨A4,n4,c4,hhd,hrow⟩:=hre
 have hhd2:(arr2.toList.drop (o'+i*1)).take 1 = [.slice A4 n4 c4]:=hhd
 rw [hhdr]at hhd2
 cases hhd2
 obtain⟨Fn2,hperm,hsuf⟩:=RR_suf (t:=t') hrow hl2
 have hpermF:(b::((Fs2.set i Fn2).flatten++G2)).Perm F:=by
  rw [hF2]
  exact List.Perm.cons b (List.Perm.append_right G2 (set_perm hFi2 hperm))
 have hndF:F.Nodup:=by
  have:=hR.nd id (by rw [hb];rfl)
  rw [e]at this
  exact this
 have hnew:=hset Fn2 ((xs'.getD i []).drop l) [val] (hpermF.nodup_iff.2 hndF) rfl (by
  have hg:xs'.getD i []=xs'[i]:=by rw [List.getD_eq_getElem?_getD,List.getElem?_eq_getElem hx2];rfl
  rw [hg,hval]
  exact⟨_,_,_,rfl,hsuf⟩)
 have hrun:=run_storeVar (P:=X.C.P) (off:=o'+i*ty.size+0) hsz hw (by rw [hcsz,hty];exact hsz2) h1
 rw [hcl,hcsz,hty]at hrun
 have hR1:=hR.kill (id:=id) (by rw [hb];simp)
 have hF1:=Free.nil.give hR (id:=id) (by rw [hb];rfl) (F := [])
 rw [e]at hF1
 simp only [Home.foot,List.nil_append]at hF1
 obtain⟨hun,h⟩:=newB_run h
 obtain⟨hR3,hF3⟩:=hR1.freeWrite hF1 (b:=b) (by rw [hF2];simp) (w':=w.setRow b (arr2.toList.take (o'+i*1+0) ++ [val]++arr2.toList.drop (o'+i*1+0+1)).toArray) (setRow_size _ _ _) ⟨rfl,rfl,rfl⟩ (fun k hk=>setRow_other _ _ _ _ hk)
 have hR4:=(hR3.take (F:=b::((Fs2.set i Fn2).flatten++G2)) (G := []) (by rw [List.append_nil];exact hF3.sub (fun k hk=>hpermF.mem_iff.1 hk) (hpermF.nodup_iff.2 hndF)) hun (blk := .row (.sl t') (xs'.set i ((xs'.getD i []).drop l)) true 0 [])
  (home := .row (some ⟨b,o',none⟩) n c (b::((Fs2.set i Fn2).flatten++G2))) rfl ⟨_,_,_,_,rfl,fun _=>hnew⟩ rfl (by simp)).1
 have hne:id≠nid:=by
  rintro rfl
  have:=hR1.unborn hun
  rw [e]at this
  cases this
 obtain⟨σ2,hR5,h⟩:=retgt_run (id:=id) (nid:=nid) (by rw [upd_ne _ _ hne,e]) (upd_same _ _ _) hR4 h
 obtain⟨σ3,hR6,h⟩:=putD_run hR5 (u:=undef) RAV_top h
 simp only [Pg.run,Option.some.injEq,Prod.mk.injEq,true_and]at h
 subst h
 rw [hty]at hx
 exact Done.skip (by simp only [execOp,ho,hx,Instr.storeAt,Instr.sureAddr,Sem.run_bind,Sem.run_pure,Result.andThen_ok,hrun]) hR6

theorem Hol_set{ty:Ty}{xs:List ty.T}{i b o' n c:Nat}{L:List Nat}(h:Hol w ty xs i (some ⟨b,o',none⟩) n c L)(hi:i<n) :
  ∃(arr:Array Value) (e:TypeId) (Fs:List (List Nat)) (G:List Nat) (hFi:i<Fs.length),w.heap[b]? = some (.cells arr e (0,0))∧o'+i*ty.size+0+ty.size≤arr.size∧L=b::(Fs.flatten++G)∧Fs[i] = [] ∧
   ∀(F':List Nat) (x':ty.T) (vc:List Value),(b::((Fs.set i F').flatten++G)).Nodup→vc.length=ty.size→RE true w ty x' vc F' →
    RR true (w.setRow b (arr.toList.take (o'+i*ty.size+0)++vc++arr.toList.drop (o'+i*ty.size+0+vc.length)).toArray) ty (xs.set i x') (some ⟨b,o',none⟩) n c (b::((Fs.set i F').flatten++G)):=by
 obtain⟨b1,o1,arr,e,Fs,G,hA,hn,hc,hb,hs,hF,hG,hl,h0,hel⟩:=h
 cases hA
 have hx:i<xs.length:=by omega
 have hFi:i<Fs.length:=by omega
 have hmul:(i+1)*ty.size≤c*ty.size:=Nat.mul_le_mul_right _ (by omega)
 rw [Nat.add_mul,Nat.one_mul]at hmul
 rw [List.getElem?_eq_getElem hFi]at h0
 refine⟨arr,e,Fs,G,hFi,hb,by omega,hF,Option.some.inj h0,fun F' x' vc hnd1 hvc hre => ?_⟩
 have hbn:=(List.nodup_cons.1 hnd1).1
 refine⟨by simpa using hn,hc,.inr ⟨b,o',_,e,(0,0),Fs.set i F',G,rfl,setRow_arr hb,fun _=>rfl,?_,rfl,by rw [setRow_size];exact hG,by simpa using hl,?_⟩⟩
 ·simp
  omega
 ·intro k x Fk hxk hFk
  simp only
  by_cases hk:k=i
  ·subst hk
   rw [List.getElem?_set_self hx]at hxk
   rw [List.getElem?_set_self hFi]at hFk
   cases hxk
   cases hFk
   have hsame:=seg_slice_same (L:=arr.toList) (vc:=vc) (p:=o'+k*ty.size+0) (s:=o'+k*ty.size) (n:=ty.size) (j:=0) (by rw [Array.length_toList];omega) (by omega) (by omega)
   rw [hsame]
   have:((arr.toList.drop (o'+k*ty.size)).take ty.size).take 0++vc++((arr.toList.drop (o'+k*ty.size)).take ty.size).drop (0+vc.length)=vc:=by
    rw [List.take_zero,List.nil_append,List.drop_eq_nil_of_le (by rw [List.length_take];omega),List.append_nil]
   rw [this]
   exact RE_frame (fun z hz=>setRow_other _ _ _ _ (by
    rintro rfl
    exact hbn (List.mem_append.2 (.inl (List.mem_flatten.2 ⟨F',List.mem_of_getElem? (List.getElem?_set_self hFi),hz⟩))))) hre
  ·rw [List.getElem?_set_ne (by omega)]at hxk
   rw [List.getElem?_set_ne (by omega)]at hFk
   rw [seg_slice_other (by simp;omega) (by
    rcases Nat.lt_or_gt_of_ne hk with hlt | hgt
    ·left
     have:(k+1)*ty.size≤i*ty.size:=Nat.mul_le_mul_right _ hlt
     rw [Nat.add_mul,Nat.one_mul]at this
     omega
    ·right
     have:(i+1)*ty.size≤k*ty.size:=Nat.mul_le_mul_right _ hgt
     rw [Nat.add_mul,Nat.one_mul]at this
     omega)]
   have hFk2:(Fs.set i F')[k]? = some Fk:=by rw [List.getElem?_set_ne (by omega)];exact hFk
   exact RE_frame (fun z hz=>setRow_other _ _ _ _ (by
    rintro rfl
    exact hbn (List.mem_append.2 (.inl (List.mem_flatten.2 ⟨Fk,List.mem_of_getElem? hFk2,hz⟩))))) (hel k x Fk hxk hFk hk)
theorem hol_store_run{t:TypeId}{x y:Operand}(ho:o.op = .store t x y)(hR:Rel X σ ι a w){id i b o' n c:Nat}{ty:Ty}{xs:List ty.T}{F:List Nat}{rt:List Nat}{v:List Sc}
  (hb:σ.H id = .hol ty xs i) (e:ι id = .row (some ⟨b,o',none⟩) n c F) (hi:i<n) (hx:a.eval x = .pointer (some ⟨b,o'+i*ty.size+0,none⟩)) (hvl:ty.size=v.length) (hlen:(a.eval y).cells.size=v.length)
  (hcells:F2 (RSc ι) v (a.eval y).cells.toList) (hsz:sizeB X.C.P t=some (a.eval y).cells.size) (h1:∀u∈(a.eval y).cells.toList,u.oneCell'=true)
  (h:(Pg.putB id .dead (rdO ty v fun x' r=>match r with
        | []=>newB nid (.row ty (xs.set i x') true 0 []) (retgt id nid rt (putD X.C o.dst (.sc .top) (.ret ())))
        | _ => .fail)).run σ=some ((),σ')):Done X o σ' a w:=by
 simp only [Pg.run]at h
 have hbl:=hR.bl id
 rw [hb]at hbl
 obtain⟨A',n',c',L',hh1,hhol⟩:=hbl
 rw [e]at hh1
 cases hh1
 have hR1:=hR.kill (id:=id) (by rw [hb];simp)
 have hF1:=Free.nil.give hR (id:=id) (by rw [hb];rfl) (F := [])
 rw [e]at hF1
 simp only [Home.foot,List.nil_append]at hF1
 obtain⟨x',rest,σ1,vs1,vs2,F',hvs,hrest,hre,hR2,hF2,h⟩:=rdO_run hR1 hF1 h hcells
 split at h
 ·cases vs2 with
  | cons _ _=>exact hrest.elim
  | nil =>
   rw [List.append_nil]at hvs
   obtain⟨hun,h⟩:=newB_run h
   obtain⟨arr,e',Fs,G,hFi,hh,hsz2,hL,h00,hnew⟩:=Hol_set hhol hi
   have hfl:∀(Fs:List (List Nat)) (i:Nat) (hi:i<Fs.length),Fs[i] = []→∀F',(Fs.set i F').flatten.Perm (Fs.flatten++F'):=by
    intro Fs
    induction Fs with
    | nil=>intro i hi;simp at hi
    | cons x r ih =>
     intro i hi h0 F'
     cases i with
     | zero =>
      simp only [List.getElem_cons_zero]at h0
      subst h0
      simp only [List.set_cons_zero,List.flatten_cons,List.nil_append]
      exact List.perm_append_comm
     | succ i =>
      simp only [List.set_cons_succ,List.flatten_cons,List.append_assoc]
      exact List.Perm.append_left x (ih i (by simpa using hi) (by simpa using h0) F')
   have hperm:(b::((Fs.set i F').flatten++G)).Perm (F++F'):=by
    rw [hL]
    show(b::((Fs.set i F').flatten++G)).Perm (b::((Fs.flatten++G)++F'))
    refine List.Perm.cons b ?_
    refine(List.Perm.append_right G (hfl Fs i hFi h00 F')).trans ?_
    rw [List.append_assoc,List.append_assoc]
    exact List.Perm.append_left _ List.perm_append_comm
   have hnd:=hperm.nodup_iff.2 hF2.nd
   have hrun:=run_storeVar (P:=X.C.P) (off:=o'+i*ty.size+0) hsz hh (by rw [hlen,←hvl];exact hsz2) h1
   obtain⟨hR3,hF3⟩:=hR2.freeWrite hF2 (b:=b) (List.mem_append.2 (.inl (by rw [hL];simp))) (w':=w.setRow b (arr.toList.take (o'+i*ty.size+0)++(a.eval y).cells.toList++arr.toList.drop (o'+i*ty.size+0+(a.eval y).cells.size)).toArray) (setRow_size _ _ _) ⟨rfl,rfl,rfl⟩ (fun k hk=>setRow_other _ _ _ _ hk)
   have hrr:=hnew F' x' vs1 hnd (by rw [←hvs,Array.length_toList,hlen,←hvl]) hre
   rw [←hvs,Array.length_toList]at hrr
   have hR4:=(hR3.take (F:=b::((Fs.set i F').flatten++G)) (G := []) (by rw [List.append_nil];exact hF3.sub (fun k hk=>hperm.mem_iff.1 hk) hnd) hun (blk := .row ty (xs.set i x') true 0 []) (home := .row (some ⟨b,o',none⟩) n c (b::((Fs.set i F').flatten++G))) rfl ⟨_,_,_,_,rfl,fun _=>hrr⟩ rfl (by simp)).1
   have hne:id≠nid:=by
    rintro rfl
    have:=hR2.unborn hun
    rw [e]at this
    cases this
   obtain⟨σ2,hR5,h⟩:=retgt_run (id:=id) (nid:=nid) (by rw [upd_ne _ _ hne,e]) (upd_same _ _ _) hR4 h
   obtain⟨σ3,hR6,h⟩:=putD_run hR5 (u:=undef) RAV_top h
   simp only [Pg.run,Option.some.injEq,Prod.mk.injEq,true_and]at h
   subst h
   exact Done.skip (by simp only [execOp,ho,hx,Instr.storeAt,Instr.sureAddr,Sem.run_bind,Sem.run_pure,Result.andThen_ok,hrun]) hR6
 ·cases h

theorem op_store{t:TypeId}{x y:Operand}(ho:o.op = .store t x y)(hR:Rel X σ ι a w)(h:(opPg X.C nid o).run σ=some ((),σ')):Done X o σ' a w:=by
 simp only [opPg,ho]at h
 obtain⟨av,hv,h⟩:=opnd_run hR h
 obtain⟨av2,hv2,h⟩:=opnd_run hR h
 split at h
 ·rename_i v g
  cases hc:(noTops v&&szIs X.C.P t v.length)with
  | false=>rw [hc]at h;cases h
  | true =>
   rw [hc]at h
   simp only [cond_true]at h
   rw [Bool.and_eq_true]at hc
   obtain⟨hcells,hlen,h1⟩:=RVs_store hv2 hc.1
   have hsz:=szIs_run hc.2
   rw [←hlen]at hsz
   split at h
   ·rename_i id off _
    obtain⟨b,o0,e,hx⟩:=RAV_sc.1 hv
    replace h:=getB_run h
    split at h
    ·rename_i l hb
     cases hle:Nat.ble (off+v.length) l.length with
     | false=>rw [hle]at h;cases h
     | true =>
      rw [hle]at h
      simp only [cond_true,Pg.run]at h
      have hle:=Nat.le_of_ble_eq_true hle
      have hbl:=hR.bl id
      rw [hb]at hbl
      obtain⟨b',o',arr,e',fr,h2,h3,h4,_,h5⟩:=hbl
      rw [e]at h2
      cases h2
      obtain⟨h4,h40,hal'⟩:=h4 rfl
      subst h4;subst h40
      rw [List.drop_zero,hal',List.take_of_length_le (by simp)]at h5
      rw [Nat.zero_add]at hx
      have hrun:=run_storeVar (P:=X.C.P) hsz h3 (off:=off) (by omega) h1
      have hR':=hR.write (id:=id) (b:=b) (by rw [hb];rfl) (by rw [e];simp [Home.foot]) (blk := .cells (setS l off v) false)
       (w':=w.setRow b (arr.toList.take off++(a.eval y).cells.toList++arr.toList.drop (off+(a.eval y).cells.size)).toArray) (setRow_size _ _ _) ⟨rfl,rfl,rfl⟩ (fun k hk=>setRow_other _ _ _ _ hk)
       (by
        rw [e]
        refine cells_whole (setRow_arr h3) (fun _=>rfl) ?_
        rw [setS_eq v l off hle,hlen]
        exact F2_append (F2_append (F2_take off h5) hcells) (F2_drop _ h5)) rfl (by simp)
       (fun j hp hm=>by
        obtain⟨q,hq,rfl⟩:=List.mem_map.1 hm
        obtain⟨t,x,p,hh⟩:=hp q hq
        rw [setH_same]at hh
        cases hh) (fun j q hq _ ver hh=>by cases hh)
      obtain⟨σ2,hR2,h⟩:=putD_run hR' (u:=undef) RAV_top h
      simp only [Pg.run,Option.some.injEq,Prod.mk.injEq,true_and]at h
      subst h
      exact Done.skip (by simp only [execOp,ho,hx,Instr.storeAt,Instr.sureAddr,Sem.run_bind,Sem.run_pure,Result.andThen_ok,hrun]) hR2
    ·cases h
   ·rename_i id i j sz _
    obtain⟨b,o',n,c,F,e,hi,hx⟩:=RAV_sc.1 hv
    replace h:=getB_run h
    split at h
    ·rename_i ty xs ver hb
     cases hz:Nat.beq ty.size sz with
     | false=>rw [hz]at h;cases h
     | true =>
      rw [hz]at h
      simp only [cond_true]at h
      have hz:=Nat.eq_of_beq_eq_true hz
      rw [←hz]at hx
      cases hfl:ty.flat with
      | false =>
       rw [hfl]at h
       simp only [cond_false]at h
       cases hjv:(Nat.beq j 0&&Nat.beq v.length ty.size)with
       | false=>rw [hjv]at h;cases h
       | true =>
        rw [hjv]at h
        simp only [cond_true]at h
        rw [Bool.and_eq_true]at hjv
        have hj:=Nat.eq_of_beq_eq_true hjv.1
        have hvl:=Nat.eq_of_beq_eq_true hjv.2
        rw [hj]at hx
        rcases sfxStore_cases h with h | ⟨s2,sid,l,t',xs',rfl,hb2,hb3,h⟩
        case inr=>exact sfx_store_run ho hR hb e hi hx hvl.symm hcells hsz h1 hb2 hb3 h
        simp only [Pg.run]at h
        have hr:=row_of hR hb (chk_none rfl) e
        have hR1:=hR.kill (id:=id) (by rw [hb];simp)
        have hF1:=Free.nil.give hR (id:=id) (by rw [hb];rfl) (F := [])
        rw [e]at hF1
        simp only [Home.foot,List.nil_append]at hF1
        obtain⟨x',rest,σ1,vs1,vs2,F',hvs,hrest,hre,hR2,hF2,h⟩:=rdO_run hR1 hF1 h hcells
        split at h
        ·cases vs2 with
         | cons _ _=>exact hrest.elim
         | nil =>
          rw [List.append_nil]at hvs
          obtain⟨hun,h⟩:=newB_run h
          obtain⟨arr,e',Fn,hh,hsz2,hbF,hsub,hnd,hnew⟩:=RR_setO hr hi hF2.nd
          have hrun:=run_storeVar (P:=X.C.P) (off:=o'+i*ty.size+0) hsz hh (by rw [hlen,hvl];exact hsz2) h1
          obtain⟨hR3,hF3⟩:=hR2.freeWrite hF2 (b:=b) (List.mem_append.2 (.inl hbF)) (w':=w.setRow b (arr.toList.take (o'+i*ty.size+0)++(a.eval y).cells.toList++arr.toList.drop (o'+i*ty.size+0+(a.eval y).cells.size)).toArray) (setRow_size _ _ _) ⟨rfl,rfl,rfl⟩ (fun k hk=>setRow_other _ _ _ _ hk)
          have hrr:=hnew x' vs1 (by rw [←hvs,Array.length_toList,hlen,hvl]) hre
          rw [←hvs,Array.length_toList]at hrr
          have hR4:=(hR3.take (F:=Fn) (G := []) (by rw [List.append_nil];exact hF3.sub hsub hnd) hun (blk := .row ty (xs.set i x') true 0 []) (home := .row (some ⟨b,o',none⟩) n c Fn) rfl ⟨_,_,_,_,rfl,fun _=>hrr⟩ rfl (by simp)).1
          have hne:id≠nid:=by
           rintro rfl
           have:=hR2.unborn hun
           rw [e]at this
           cases this
          obtain⟨σ2,hR5,h⟩:=retgt_run (id:=id) (nid:=nid) (by rw [upd_ne _ _ hne,e]) (upd_same _ _ _) hR4 h
          obtain⟨σ3,hR6,h⟩:=putD_run hR5 (u:=undef) RAV_top h
          simp only [Pg.run,Option.some.injEq,Prod.mk.injEq,true_and]at h
          subst h
          exact Done.skip (by simp only [execOp,ho,hx,Instr.storeAt,Instr.sureAddr,Sem.run_bind,Sem.run_pure,Result.andThen_ok,hrun]) hR6
        ·cases h
      | true =>
       rw [hfl]at h
       simp only [cond_true]at h
       obtain⟨σ2,w2,hR2,h,hrun,_,_,_,_⟩:=flatStore_run hR hb e hi hfl hcells hlen hsz h1 h
       obtain⟨σ3,hR3,h⟩:=putD_run hR2 (u:=undef) RAV_top h
       simp only [Pg.run,Option.some.injEq,Prod.mk.injEq,true_and]at h
       subst h
       exact Done.skip (by simp only [execOp,ho,hx,Instr.storeAt,Instr.sureAddr,Sem.run_bind,Sem.run_pure,Result.andThen_ok,hrun]) hR3
    ·rename_i ty xs i0 hb
     cases hz:(Nat.beq ty.size sz&&(Nat.beq j 0&&Nat.beq v.length ty.size))with
     | false=>rw [hz]at h;cases h
     | true =>
      rw [hz]at h
      simp only [cond_true]at h
      simp only [Bool.and_eq_true]at hz
      have hz1:=Nat.eq_of_beq_eq_true hz.1
      have hj:=Nat.eq_of_beq_eq_true hz.2.1
      have hvl:=Nat.eq_of_beq_eq_true hz.2.2
      rw [←hz1,hj]at hx
      cases hbi:Nat.beq i i0 with
      | false=>simp only [Pg.run,hbi]at h;cases h
      | true =>
       have hi0:=Nat.eq_of_beq_eq_true hbi
       rw [Pg.run,hbi]at h
       simp only [cond_true]at h
       subst hi0
       exact hol_store_run ho hR hb e hi hx hvl.symm hlen hcells hsz h1 h
    ·rename_i sv0 par0 hb0
     rcases lend_run hR h with h | ⟨l,σ1,L,b2,o2,arr2,el,Fs,c2,A2,n2,c3,F2',G2,hsid,hl,hR1,hF1,h⟩
     ·cases h
     ·simp only at h
      replace h:=getB_run h
      split at h
      ·rename_i ty xs ver hb
       cases hz:(Nat.beq ty.size sz&&ty.flat)with
       | false=>rw [hz]at h;cases h
       | true =>
        rw [hz]at h
        simp only [cond_true]at h
        rw [Bool.and_eq_true]at hz
        have hfl:=hz.2
        have hz:=Nat.eq_of_beq_eq_true hz.1
        rw [←hz]at hx
        obtain⟨σ2,w2,hR2,h,hrun,hoth,hbF,hhs,x',hσ2⟩:=flatStore_run hR1 hb e hi hfl hcells hlen hsz h1 h
        have haw:∀k∈L,k ∉ (ι id).foot:=fun k hk=>hF1.away id (by rw [hb];rfl) (by rw [hb];exact fun q hq=>by simp [Blk.par]at hq) k hk
        have hF2:Free X σ2 ι w2 L:=by
         refine⟨fun j' hlv hpo k hk => ?_,fun k hk=>by rw [hhs];exact hF1.lt k hk,hF1.mu,hF1.nd⟩
         by_cases hj:j'=id
         ·subst hj;exact haw k hk
         ·rw [hσ2,setH_ne _ _ hj]at hlv hpo
          refine hF1.away j' hlv (fun q hq => ?_) k hk
          obtain⟨t3,x3,p3,h3⟩:=hpo q hq
          by_cases hq1:q.1=id
          ·exfalso
           rw [hq1,setH_same]at h3
           injection h3 with _ _ _ hv2 _
           have:=hR1.pv j' q hq ver (by rw [hq1,hb];rfl)
           omega
          ·rw [setH_ne _ _ hq1]at h3
           exact⟨t3,x3,p3,h3⟩
        obtain⟨σ3,hR3,h⟩:=giveBack_run hl hR2 hF2 (fun _ _=>rfl) (fun k hk=>hoth k (fun hkb=>haw k hk (by rw [hkb,e];exact hbF))) (fun j' q hq=>by rw [hσ2]at hq;exact par_set rfl hq) h
        have heF:(ι id).foot=F2':=by rw [←hsid,hl.hsid];rfl
        have hbL:b2 ∉ (ι id).foot:=by
         rw [heF]
         intro hb3
         have hgv:=hF1.give hR1 (id:=id) (by rw [hb];rfl)
         rw [heF]at hgv
         have hnd:=hl.perm.nodup_iff.1 hgv.nd
         exact(List.nodup_cons.1 hnd).1 (List.mem_append.2 (.inl (List.mem_flatten.2 ⟨F2',List.mem_of_getElem? hl.hF,hb3⟩)))
        have hpl:w2.heap[b2]? = w.heap[b2]? := hoth b2 (fun hkb=>hbL (by rw [hkb,e];exact hbF))
        obtain⟨σ3',ι3',hR3',h⟩:=refresh_run hR3 hl.hp hl.hsid (by rw [hpl];exact hl.hw) hl.hi (by rw [←hl.hl];exact(List.getElem?_eq_some_iff.1 hl.hF).1) h
        obtain⟨σ4,hR4,h⟩:=putD_run hR3' (u:=undef) RAV_top h
        simp only [Pg.run,Option.some.injEq,Prod.mk.injEq,true_and]at h
        subst h
        exact Done.skip (by simp only [execOp,ho,hx,Instr.storeAt,Instr.sureAddr,Sem.run_bind,Sem.run_pure,Result.andThen_ok,hrun]) hR4
      ·cases h
    ·cases h
   ·cases h
 ·cases h

theorem seg_inner{β:Type}{L vc:List β}{p i n:Nat}(h:p+vc.length≤L.length)(hi:i+n≤vc.length) :
  ((L.take p++vc++L.drop (p+vc.length)).drop (p+i)).take n=(vc.drop i).take n:=by
 apply List.ext_getElem?
 intro q
 rw [List.getElem?_take,List.getElem?_take]
 split
 ·rw [List.getElem?_drop,List.getElem?_drop,seg_get h,if_pos (by omega)]
  congr 1
  omega
 ·rfl

theorem RR_clear{ty:Ty}{xs:List ty.T}{b o' n c l:Nat}{F:List Nat}(hr:RR true w ty xs (some ⟨b,o',none⟩) n c F)(hl:l<n)(hfl:ty.flat=true) :
  ∃arr e,w.heap[b]? = some (.cells arr e (0,0))∧b∈F∧o'+l*ty.size+(n - l)*ty.size≤arr.size ∧
   ∀vs:List Value,vs.length=(n - l)*ty.size→(∀i,i<n - l→RE true w ty ty.dflt ((vs.drop (i*ty.size)).take ty.size) []) →
    RR true (w.setRow b (arr.toList.take (o'+l*ty.size)++vs++arr.toList.drop (o'+l*ty.size+vs.length)).toArray) ty (xs.take l++List.replicate (xs.length - l) ty.dflt) (some ⟨b,o',none⟩) n c F:=by
 obtain⟨hn,hc,h | ⟨b1,o1,arr,e,fr,Fs,G,hA,hb,hf,hs,hF,hG,hlf,hel⟩⟩:=hr
 ·rw [h.1]at hn;simp at hn;omega
 ·cases hA
  have hfr:=hf rfl
  subst hfr
  simp only [if_true]at hs
  have hmul:n*ty.size≤c*ty.size:=Nat.mul_le_mul_right _ hc
  have hsplit:l*ty.size+(n - l)*ty.size=n*ty.size:=by rw [←Nat.add_mul];congr 1;omega
  refine⟨arr,e,hb,by rw [hF];simp,by omega,fun vs hvs hper => ?_⟩
  have hL:o'+l*ty.size+vs.length≤arr.toList.length:=by rw [hvs,Array.length_toList];omega
  refine⟨by simp;omega,hc,.inr ⟨b,o',_,e,(0,0),Fs,G,rfl,setRow_arr hb,fun _=>rfl,?_,hF,by rw [setRow_size];exact hG,by simp;omega,?_⟩⟩
  ·rw [Array.length_toList]at hL
   simp
   omega
  ·intro k x Fk hxk hFk
   have hk:k<Fs.length:=(List.getElem?_eq_some_iff.1 hFk).1
   have hkx:k<xs.length:=by omega
   have h0:=hel k xs[k] Fk (List.getElem?_eq_getElem hkx) hFk
   simp only
   by_cases hkl:k<l
   ·rw [List.getElem?_append_left (by simp;omega),List.getElem?_take,if_pos hkl,List.getElem?_eq_getElem hkx]at hxk
    cases hxk
    rw [seg_slice_other hL (.inl (by
     have:(k+1)*ty.size≤l*ty.size:=Nat.mul_le_mul_right _ hkl
     rw [Nat.add_mul,Nat.one_mul]at this
     omega))]
    have hFk0:=RE_flat hfl h0
    rw [hFk0]at h0 ⊢
    exact RE_flat_own hfl h0
   ·have hFk0:=RE_flat hfl h0
    rw [hFk0]
    rw [List.getElem?_append_right (by simp;omega),List.getElem?_replicate,if_pos (by simp;omega)]at hxk
    cases hxk
    have e1:o'+k*ty.size=(o'+l*ty.size)+(k - l)*ty.size:=by
     rw [Nat.add_assoc,←Nat.add_mul]
     congr 2
     omega
    have e2:(k - l+1)*ty.size≤(n - l)*ty.size:=Nat.mul_le_mul_right _ (by omega)
    rw [Nat.add_mul,Nat.one_mul]at e2
    rw [e1,seg_inner hL (by rw [hvs];exact e2)]
    exact RE_flat_own hfl (hper (k - l) (by omega))

theorem op_clear(hty:∀e t,X.C.ty e=some t→TyOk X.C.P e t){c:Call}(ho:o.op = .call c)(hc:c.callee = .builtin .clear)(hR:Rel X σ ι a w)(h:(opPg X.C nid o).run σ=some ((),σ')):Done X o σ' a w:=by
 simp only [opPg,ho,hc]at h
 split at h
 ·rename_i x ts hx hts
  split at h
  ·rename_i e ty he
   obtain⟨hu,hte⟩:=elemT_run he
   obtain⟨inf,z,hi,hsz,hz,hzc⟩:=hty e ty hte
   cases hc1:(ty.flat&&Nat.ble 1 ty.size)with
   | false=>rw [hc1]at h;cases h
   | true =>
    rw [hc1]at h
    simp only [cond_true]at h
    rw [Bool.and_eq_true]at hc1
    have h1:=Nat.le_of_ble_eq_true hc1.2
    have hzs:z.cells.size=ty.size:=by
     have:=RE_len (RE_zero (own:=true) (w:=w) ty)
     rw [←hzc]at this
     simpa using this
    obtain⟨av,hv,h⟩:=opnd_run hR h
    split at h
    ·rename_i id l sz
     obtain⟨b,o',n,c',F,e1,hl,hnc,hxv⟩:=RAV_sc.1 hv
     cases hb2:Nat.beq sz ty.size with
     | false=>rw [hb2]at h;cases h
     | true =>
      rw [hb2]at h
      simp only [cond_true]at h
      have hb2:=Nat.eq_of_beq_eq_true hb2
      replace h:=getB_run h
      split at h
      ·rename_i t' xs0 ver hb
       split at h
       ·rename_i xs hcast
        obtain⟨rfl,rfl⟩:=castRow_some hcast
        simp only [Pg.run]at h
        have hr:=row_of hR hb (chk_none rfl) e1
        obtain⟨arr,el,hh,hbF,hsz2,hset⟩:=RR_clear hr hl hc1.1
        obtain⟨m,hm⟩:=Nat.exists_eq_succ_of_ne_zero (show n - l≠0 by omega)
        rw [hb2,hm]at hxv
        have hvs:(Builtin.zeroCells z.cells (m+1)).toList.length=(n - l)*t'.size:=by
         simp [Builtin.zeroCells,hzs,hm]
        have hre:RE true w t' t'.dflt z.cells.toList []:=by rw [hzc];exact RE_zero t'
        have hper:∀i,i<n - l→((Builtin.zeroCells z.cells (m+1)).toList.drop (i*t'.size)).take t'.size=z.cells.toList:=fun i hi =>
         periodic (z:=z.cells) (n:=(m+1)*z.cells.size) (i:=i) hzs h1 (by rw [hzs];exact Nat.mul_le_mul_right _ (by omega))
        have hone:∀u∈(Builtin.zeroCells z.cells (m+1)).toList,u.oneCell'=true:=by
         intro u hu
         simp only [Builtin.zeroCells,Array.toList_map,List.mem_map]at hu
         obtain⟨i,_,rfl⟩:=hu
         have hlt:i % z.cells.size<z.cells.size:=Nat.mod_lt _ (by omega)
         rw [getElem!_pos z.cells _ hlt]
         exact RE_one hre _ (Array.getElem_mem_toList hlt)
        have hnew:=hset _ hvs (fun i hi=>by rw [hper i hi];exact hre)
        have hst:=run_storeCells_at X.C.P b (o'+l*t'.size) el (Builtin.zeroCells z.cells (m+1)).toList 0 arr w hh (by rw [hvs];omega) hone
        have hR':=hR.write (id:=id) (b:=b) (by rw [hb];rfl) (by rw [e1];exact hbF) (blk := .row t' (xs.take l++List.replicate (xs.length - l) t'.dflt) true (ver+1) [])
         (w':=w.setRow b (arr.toList.take (o'+l*t'.size)++(Builtin.zeroCells z.cells (m+1)).toList++arr.toList.drop (o'+l*t'.size+(Builtin.zeroCells z.cells (m+1)).toList.length)).toArray) (setRow_size _ _ _) ⟨rfl,rfl,rfl⟩ (fun k hk=>setRow_other _ _ _ _ hk)
         (by
          rw [e1]
          exact⟨_,_,_,_,rfl,fun _=>hnew⟩) rfl (by simp)
         (fun j' hp hm=>by
          obtain⟨q,hq,rfl⟩:=List.mem_map.1 hm
          obtain⟨t,x,p,hh⟩:=hp q hq
          rw [setH_same]at hh
          injection hh with _ _ _ hv2 _
          have:=hR.pv j' q hq ver (by rw [hb];rfl)
          omega) (fun j' q hq hqi ver' hh=>by
          simp only [Blk.ver?,Option.some.injEq]at hh
          have:=hR.pv j' q hq ver (by rw [hqi,hb];rfl)
          omega)
        refine Done.put hR' (v := .sc .top) (u := .tuple #[]) RAV_top ?_ h
        have hx0:c.args = #[x]:=by rw [←Array.toArray_toList (xs:=c.args),hx]
        have ht0:c.argTypes = #[ts]:=by rw [←Array.toArray_toList (xs:=c.argTypes),hts]
        simp only [Nat.add_zero]at hst
        simp [execOp,ho,resolve,hc,hx0,ht0,invoke,builtin,Builtin.clear_,run_underlying hu,hxv,zeroValue,typeInfo,hi,hz,hst]
       ·cases h
      ·cases h
    ·cases h
  ·cases h
 ·cases h

theorem op_sound(hC:CfgOk X.C)(hR:Rel X σ ι a w)(h:(opPg X.C nid o).run σ=some ((),σ')):Done X o σ' a w:=by
 cases ho:o.op with
 | move x=>exact op_move ho hR h
 | assign x=>exact op_assign ho hR h
 | pick c x y=>exact op_pick ho hR h
 | alloc e=>exact op_alloc ho hR h
 | box e x=>exact op_box ho hR h
 | build t ps=>exact op_build ho hR h
 | buildSlice t n ps=>exact op_buildSlice hC.ty ho hR h
 | load t x=>exact op_load ho hR h
 | store t x y=>exact op_store ho hR h
 | nilCheck x=>exact op_nilCheck ho hR h
 | fieldAddr s x f=>exact op_fieldAddr ho hR h
 | field s x f=>exact op_field ho hR h
 | indexAddr t x i=>exact op_indexAddr ho hR h
 | index t x i=>exact op_index ho hR h
 | slice t x lo hi mx=>exact op_slice ho hR h
 | makeSlice t x y=>exact op_makeSlice hC.ty ho hR h
 | extract x i=>exact op_extract ho hR h
 | binOp op t x y ty=>exact op_binOp ho hR h
 | unOp op t x =>
  simp only [opPg,ho]at h
  exact op_plain hR (by rw [ho];simp) h
 | convert s d x=>exact op_convert ho hR h
 | makeFunc fn first caps =>
  cases fn with
  | func f=>exact op_makeFunc ho hR h
  | _=>simp only [opPg,ho]at h;cases h
 | call c =>
  cases hc:c.callee with
  | value f=>exact op_call hC ho hc hR h
  | invoke r m=>simp only [opPg,ho,hc]at h;cases h
  | builtin b =>
   cases b with
   | len=>exact op_len ho hc hR h
   | append=>exact op_append hC.ty ho hc hR h
   | clear=>exact op_clear hC.ty ho hc hR h
   | _ =>
    simp only [opPg,ho,hc]at h
    exact op_plain hR (by rw [ho];simp) h
 | _=>simp only [opPg,ho]at h;cases h
end
end Go.Ev
namespace Go.Ev
open Go
variable [KSl]

section
variable {X : Ctx} {σ σ' : St} {ι : Nat → Home} {a : Act} {w : World} {α A : Type} {nid : Nat}

theorem getD_some{a:Array Value}{t:Nat}{b:Bool}(h:a.getD t undef = .bool b):a[t]? = some (.bool b):=by
 rw [Array.getD_eq_getD_getElem?]at h
 cases he:a[t]? with
 | none=>rw [he]at h;simp [undef]at h
 | some v=>rw [he]at h;simp at h;rw [h]

theorem gop_sound{ops:Array Oper}{i:Nat}{o:Oper}(hC:CfgOk X.C)(hi:ops[i]? = some o)(hR:Rel X σ ι a w)(h:(gopPg X.C ops nid o).run σ=some ((),σ')){K:Act→World→Prop}{Q:Exit→Act→World→Prop}
  (hK:∀ι' a' w',Rel X σ' ι' a' w'→K a' w'):wpOp X.C.P ops Q i K a w:=by
 unfold wpOp
 rw [hi]
 simp only
 unfold gopPg at h
 have hput:(putD X.C o.dst (.sc .und) (.ret ())).run σ=some ((),σ')→K (a.put o.dst undef) w:=by
  intro h
  obtain⟨σ1,hR1,h⟩:=putD_run hR (v := .sc .und) (u:=undef) (RAV_sc.2 rfl) h
  simp only [Pg.run,Option.some.injEq,Prod.mk.injEq,true_and]at h
  subst h
  exact hK _ _ _ hR1
 split at h
 ·rename_i hg
  have:Region.wanted o (yielded ops a.tmps)=true:=by simp [Region.wanted,hg]
  rw [if_pos this]
  exact .inl (op_sound hC hR h K Q hK)
 ·rename_i j want hg
  split at h
  ·rename_i t ht
   have hy:∀b,σ.T t = .sc (.v (.bool b))→yielded ops a.tmps j=some b:=by
    intro b hb
    have:=getD_some (tmp_bool hR hb)
    simp [yielded,ht,this]
   have hu:isUnd (σ.T t)=true→yielded ops a.tmps j=none:=by
    intro hv
    have htm:=hR.tm t
    unfold isUnd at hv
    split at hv
    ·rename_i he
     rw [he]at htm
     have:a.tmps.getD t undef=undef:=RAV_sc.1 htm
     rw [Array.getD_eq_getD_getElem?]at this
     simp only [yielded,ht,Option.bind_some]
     cases hx:a.tmps[t]? with
     | none=>rfl
     | some x =>
      rw [hx]at this
      simp only [Option.getD_some]at this
      subst this
      rfl
    ·cases hv
   have hnw:yielded ops a.tmps j=none→Region.wanted o (yielded ops a.tmps)=false:=by
    intro hy
    simp [Region.wanted,hg,hy]
   cases want with
   | true =>
    simp only [Pg.run]at h
    cases hv:isUnd (σ.T t)with
    | true =>
     rw [hv]at h
     rw [if_neg (by rw [hnw (hu hv)];simp)]
     exact hput h
    | false =>
    rw [hv]at h
    simp only [cond_false]at h
    obtain⟨b,hb,h⟩:=brT_run h
    have hyb:=hy b hb
    cases b with
    | true =>
     rw [if_pos (by simp [Region.wanted,hg,hyb])]
     exact .inl (op_sound hC hR h K Q hK)
    | false =>
     rw [if_neg (by simp [Region.wanted,hg,hyb])]
     exact hput h
   | false =>
    simp only [Pg.run]at h
    cases hv:isUnd (σ.T t)with
    | true =>
     rw [hv]at h
     rw [if_neg (by rw [hnw (hu hv)];simp)]
     exact hput h
    | false =>
    rw [hv]at h
    simp only [cond_false]at h
    obtain⟨b,hb,h⟩:=brT_run h
    have hyb:=hy b hb
    cases b with
    | true =>
     rw [if_neg (by simp [Region.wanted,hg,hyb])]
     exact hput h
    | false =>
     rw [if_pos (by simp [Region.wanted,hg,hyb])]
     exact .inl (op_sound hC hR h K Q hK)
  ·cases h

theorem evOps_sound{ops:Array Oper}{Q:Exit→Act→World→Prop}(hC:CfgOk X.C){K:St→Option A}{r:A}(hK:∀σ' ι' a' w',Rel X σ' ι' a' w'→K σ'=some r→Q .normal a' w') :
  ∀ {l:List Oper} {k nid:Nat} {σ:St} {ι:Nat→Home} {a:Act} {w:World},l=ops.toList.drop k→Rel X σ ι a w→evOps X.C ops l nid σ K=some r→wpOps X.C.P ops Q (List.range' k l.length) a w
 | [],k,nid,σ,ι,a,w,hl,hR,h=>hK σ ι a w hR h
 | o::l,k,nid,σ,ι,a,w,hl,hR,h=>by
  simp only [List.length_cons,List.range'_succ,wpOps_cons]
  simp only [evOps]at h
  rw [Pg.runK_eq]at h
  cases hp:(gopPg X.C ops nid o).run σ with
  | none=>rw [hp]at h;cases h
  | some q =>
   obtain⟨u,σ1⟩:=q
   rw [hp]at h
   simp only [Option.bind_some]at h
   have hk:ops[k]? = some o:=by
    have:=congrArg (fun l=>l[0]?) hl
    simp only [List.getElem?_cons_zero,List.getElem?_drop,Nat.add_zero]at this
    rw [←Array.getElem?_toList,←this]
   refine gop_sound hC hk hR hp (fun ι' a' w' hR' => ?_)
   exact evOps_sound hC hK (k:=k+1) (by
    have:=congrArg List.tail hl
    simp only [List.tail_cons,List.tail_drop]at this
    exact this) hR' h

def agree(s t:St)(l:Loc):Prop:=if l.1=true then s.H l.2=t.H l.2 else s.T l.2=t.T l.2

theorem agree_refl(s:St)(l:Loc):agree s s l:=by unfold agree;split <;> rfl
theorem agree_symm{s t:St}{l:Loc}(h:agree s t l):agree t s l:=by unfold agree at *; split <;> simp_all
theorem agree_trans{s t u:St}{l:Loc}(h:agree s t l)(h':agree t u l):agree s u l:=by unfold agree at *; split <;> simp_all
theorem agree_ext{s t:St}(h:∀l,agree s t l):s=t:=by
 cases s with
 | mk T H =>
  cases t with
  | mk T' H' =>
   congr 1
   ·funext i;have:=h (false,i);simpa [agree] using this
   ·funext i;have:=h (true,i);simpa [agree] using this

abbrev four(α:Type):Type:=α×St×List Loc×List Loc
def Pg.runP(p:Pg α)(s:St)(r w:List Loc):Option (four α):=p.runF s r w fun a s r w=>some (a,s,r,w)

theorem runF_eq:∀(p:Pg α) (s:St) (r w:List Loc) (K:α→St→List Loc→List Loc→Option A),p.runF s r w K=(p.runP s r w).bind fun q=>K q.1 q.2.1 q.2.2.1 q.2.2.2
 | .ret a,s,r,w,K=>rfl
 | .get i k,s,r,w,K=>runF_eq (k (s.T i)) s _ w K
 | .getB i k,s,r,w,K=>runF_eq (k (s.H i)) s _ w K
 | .put i v k,s,r,w,K=>runF_eq k _ r _ K
 | .putB i v k,s,r,w,K=>runF_eq k _ r _ K
 | .br b x y,s,r,w,K=>by
  cases b
  ·exact runF_eq y s r w K
  ·exact runF_eq x s r w K
 | .brT i x y,s,r,w,K=>by
  simp only [Pg.runF,Pg.runP]
  split
  ·rename_i b _
   cases b
   ·exact runF_eq y _ _ w K
   ·exact runF_eq x _ _ w K
  ·rfl
 | .bnd o k,s,r,w,K=>by
  cases o with
  | none=>rfl
  | some a=>exact runF_eq (k a) s r w K
 | .fail,s,r,w,K=>rfl

theorem runP_run:∀(p:Pg α) (s:St) (r w:List Loc) (q:four α),p.runP s r w=some q→p.run s=some (q.1,q.2.1)
 | .ret a,s,r,w,q,h=>by simp [Pg.runP,Pg.runF]at h;subst h;rfl
 | .get i k,s,r,w,q,h=>runP_run (k (s.T i)) s _ w q h
 | .getB i k,s,r,w,q,h=>runP_run (k (s.H i)) s _ w q h
 | .put i v k,s,r,w,q,h=>runP_run k _ r _ q h
 | .putB i v k,s,r,w,q,h=>runP_run k _ r _ q h
 | .br b x y,s,r,w,q,h=>by
  cases b
  ·exact runP_run y s r w q h
  ·exact runP_run x s r w q h
 | .brT i x y,s,r,w,q,h=>by
  simp only [Pg.runP,Pg.runF]at h
  simp only [Pg.run]
  split at h
  ·rename_i b hb
   cases b
   ·exact runP_run y _ _ w q h
   ·exact runP_run x _ _ w q h
  ·cases h
 | .bnd o k,s,r,w,q,h=>by
  cases o with
  | none=>cases h
  | some a=>exact runP_run (k a) s r w q h
 | .fail,s,r,w,q,h=>by cases h

theorem agree_setT{s t:St}{i:Nat}{v:AV}{l:Loc}(h:l≠(false,i)→agree s t l):agree (s.setT i v) (t.setT i v) l:=by
 obtain⟨b,j⟩:=l
 cases b with
 | true=>have:=h (by simp);simpa [agree,St.setT] using this
 | false =>
  by_cases e:j=i
  ·subst e;simp [agree,St.setT,Nat.beq_refl]
  ·have:=h (by simpa using e);simpa [agree,St.setT,beq_false e] using this
theorem agree_setH{s t:St}{i:Nat}{v:Blk}{l:Loc}(h:l≠(true,i)→agree s t l):agree (s.setH i v) (t.setH i v) l:=by
 obtain⟨b,j⟩:=l
 cases b with
 | false=>have:=h (by simp);simpa [agree,St.setH] using this
 | true =>
  by_cases e:j=i
  ·subst e;simp [agree,St.setH,Nat.beq_refl]
  ·have:=h (by simpa using e);simpa [agree,St.setH,beq_false e] using this
theorem setT_agree{s:St}{i:Nat}{v:AV}{l:Loc}(h:l≠(false,i)):agree (s.setT i v) s l:=by
 obtain⟨b,j⟩:=l
 cases b with
 | true=>simp [agree,St.setT]
 | false =>
  have:j≠i:=by simpa using h
  simp [agree,St.setT,beq_false this]
theorem setH_agree{s:St}{i:Nat}{v:Blk}{l:Loc}(h:l≠(true,i)):agree (s.setH i v) s l:=by
 obtain⟨b,j⟩:=l
 cases b with
 | false=>simp [agree,St.setH]
 | true =>
  have:j≠i:=by simpa using h
  simp [agree,St.setH,beq_false this]

theorem runP_local:∀(p:Pg α) (s t:St) (r w:List Loc) (q:four α),p.runP s r w=some q→(∀l,l∈q.2.2.1∨l∈w→agree s t l) →
  ∃t',p.runP t r w=some (q.1,t',q.2.2.1,q.2.2.2)∧(∀l∈q.2.2.2,agree q.2.1 t' l)∧(∀l,l ∉ q.2.2.2→agree t' t l∧agree q.2.1 s l)∧(∀l∈r,l∈q.2.2.1)∧(∀l∈w,l∈q.2.2.2)
 | .ret a,s,t,r,w,q,h,ha=>by
  simp [Pg.runP,Pg.runF]at h
  subst h
  exact⟨t,rfl,fun l hl=>ha l (.inr hl),fun l _=>⟨agree_refl _ _,agree_refl _ _⟩,fun _ h=>h,fun _ h=>h⟩
 | .get i k,s,t,r,w,q,h,ha=>by
  obtain⟨t',h1,h2,h3,h4,h5⟩:=runP_local (k (s.T i)) s t _ w q h ha
  have e:s.T i=t.T i:=by have:=ha (false,i) (.inl (h4 _ (by simp)));simpa [agree] using this
  exact⟨t',by show(k (t.T i)).runP t _ w=_;rw [←e];exact h1,h2,h3,fun l hl=>h4 l (by simp [hl]),h5⟩
 | .getB i k,s,t,r,w,q,h,ha=>by
  obtain⟨t',h1,h2,h3,h4,h5⟩:=runP_local (k (s.H i)) s t _ w q h ha
  have e:s.H i=t.H i:=by have:=ha (true,i) (.inl (h4 _ (by simp)));simpa [agree] using this
  exact⟨t',by show(k (t.H i)).runP t _ w=_;rw [←e];exact h1,h2,h3,fun l hl=>h4 l (by simp [hl]),h5⟩
 | .put i v k,s,t,r,w,q,h,ha=>by
  have h0:=h
  obtain⟨t',h1,h2,h3,h4,h5⟩:=runP_local k (s.setT i v) (t.setT i v) r _ q h (fun l hl=>agree_setT (fun hne=>ha l (by
   rcases hl with hl | hl
   ·exact .inl hl
   ·rcases List.mem_cons.1 hl with e | hl
    ·exact absurd e hne
    ·exact .inr hl)))
  refine⟨t',h1,h2,fun l hl => ?_,h4,fun l hl=>h5 l (List.mem_cons_of_mem _ hl)⟩
  have hne:l≠(false,i):=fun e=>hl (h5 l (by rw [e];simp))
  exact⟨agree_trans (h3 l hl).1 (setT_agree hne),agree_trans (h3 l hl).2 (setT_agree hne)⟩
 | .putB i v k,s,t,r,w,q,h,ha=>by
  obtain⟨t',h1,h2,h3,h4,h5⟩:=runP_local k (s.setH i v) (t.setH i v) r _ q h (fun l hl=>agree_setH (fun hne=>ha l (by
   rcases hl with hl | hl
   ·exact .inl hl
   ·rcases List.mem_cons.1 hl with e | hl
    ·exact absurd e hne
    ·exact .inr hl)))
  refine⟨t',h1,h2,fun l hl => ?_,h4,fun l hl=>h5 l (List.mem_cons_of_mem _ hl)⟩
  have hne:l≠(true,i):=fun e=>hl (h5 l (by rw [e];simp))
  exact⟨agree_trans (h3 l hl).1 (setH_agree hne),agree_trans (h3 l hl).2 (setH_agree hne)⟩
 | .br b x y,s,t,r,w,q,h,ha=>by
  cases b
  ·exact runP_local y s t r w q h ha
  ·exact runP_local x s t r w q h ha
 | .brT i x y,s,t,r,w,q,h,ha=>by
  simp only [Pg.runP,Pg.runF]at h
  split at h
  ·rename_i b hb
   have hs:s.setT i (.sc (.v (.bool b)))=s:=setT_same hb
   cases b
   ·simp only [cond_false]at h
    rw [hs]at h
    obtain⟨t',h1,h2,h3,h4,h5⟩:=runP_local y s t _ w q h ha
    have e:s.T i=t.T i:=by have:=ha (false,i) (.inl (h4 _ (by simp)));simpa [agree] using this
    refine⟨t',?_,h2,h3,fun l hl=>h4 l (by simp [hl]),h5⟩
    simp only [Pg.runP,Pg.runF]
    rw [←e,hb]
    simp only [cond_false]
    rw [setT_same (by rw [←e,hb])]
    exact h1
   ·simp only [cond_true]at h
    rw [hs]at h
    obtain⟨t',h1,h2,h3,h4,h5⟩:=runP_local x s t _ w q h ha
    have e:s.T i=t.T i:=by have:=ha (false,i) (.inl (h4 _ (by simp)));simpa [agree] using this
    refine⟨t',?_,h2,h3,fun l hl=>h4 l (by simp [hl]),h5⟩
    simp only [Pg.runP,Pg.runF]
    rw [←e,hb]
    simp only [cond_true]
    rw [setT_same (by rw [←e,hb])]
    exact h1
  ·cases h
 | .bnd o k,s,t,r,w,q,h,ha=>by
  cases o with
  | none=>cases h
  | some a=>exact runP_local (k a) s t r w q h ha
 | .fail,s,t,r,w,q,h,ha=>by cases h
end
end Go.Ev
namespace Go.Ev
open Go
variable [KSl]

section
variable {X : Ctx} {σ σ' : St} {ι : Nat → Home} {a : Act} {w : World} {α A : Type} {nid : Nat}

theorem evOpsF_trace{C:Cfg}{ops:Array Oper}{r:A}:∀ {l:List Oper} {nid:Nat} {s:St} {fs:List Fp} {K:St→List Fp→Option A},evOpsF C ops l nid s fs K=some r →
  ∃(σs:Nat→St) (gs:List Fp),gs.length=l.length∧σs 0=s ∧
   (∀i o f,l[i]? = some o→gs[i]? = some f→(gopPg C ops (nid+8*i) o).runP (σs i) [] []=some ((),σs (i+1),f.1,f.2))∧K (σs l.length) (fs++gs)=some r
 | [],nid,s,fs,K,h=>⟨fun _=>s,[],rfl,rfl,by simp,by simpa [evOpsF] using h⟩
 | o::l,nid,s,fs,K,h=>by
  simp only [evOpsF]at h
  rw [runF_eq]at h
  cases hp:(gopPg C ops nid o).runP s [] []with
  | none=>rw [hp]at h;cases h
  | some q =>
   obtain⟨u,s1,r1,w1⟩:=q
   rw [hp]at h
   simp only [Option.bind_some]at h
   obtain⟨σs,gs,h1,h2,h3,h4⟩:=evOpsF_trace h
   refine⟨fun i=>match i with | 0=>s | i+1=>σs i,(r1,w1)::gs,by simp [h1],rfl,fun i o' f ho hf => ?_,by simpa using h4⟩
   cases i with
   | zero =>
    simp at ho hf
    subst ho;subst hf
    simp only [Nat.mul_zero,Nat.add_zero,hp,h2]
   | succ i =>
    simp at ho hf
    have:=h3 i o' f ho hf
    rw [show nid+8*(i+1)=nid+8+8*i by omega]
    exact this

theorem locBeq_self(l:Loc):locBeq l l=true:=by simp [locBeq,Nat.beq_refl]
theorem meetL_of{a b:List Loc}{l:Loc}(h:l∈a)(h':l∈b):meetL a b=true:=by
 simp only [meetL,List.any_eq_true]
 exact⟨l,h,l,h',locBeq_self l⟩

theorem indepAt_run{an:List (List Nat)}{fj:Fp}{j:Nat}:∀ {l:List Fp} {i:Nat},indepAt an fj j l i=true→∀k f,l[k]? = some f→conflictF f fj=true→i+k∈an.getD j []
 | [],i,_,k,f,h,_=>by simp at h
 | fi::l,i,h,k,f,hk,hc=>by
  simp only [indepAt,Bool.and_eq_true,Bool.or_eq_true]at h
  cases k with
  | zero =>
   simp at hk
   subst hk
   rcases h.1 with h1 | h1
   ·rw [hc]at h1;cases h1
   ·obtain⟨x,hx,hxi⟩:=List.any_eq_true.1 h1
    rw [Nat.eq_of_beq_eq_true hxi]at hx
    exact hx
  | succ k =>
   simp at hk
   have:=indepAt_run h.2 k f hk hc
   rw [show i+(k+1)=i+1+k by omega]
   exact this

theorem indepF_run{an:List (List Nat)}:∀ {l done:List Fp} {j:Nat},indepF an done l j=true→done.length=j→∀p q f g,p<q→j≤q→(done++l)[p]? = some f→(done++l)[q]? = some g→conflictF f g=true→p∈an.getD q []
 | [],done,j,_,hd,p,q,f,g,hpq,hjq,hp,hq,hc=>by
  simp only [List.append_nil]at hq
  have:=(List.getElem?_eq_some_iff.1 hq).1
  omega
 | x::l,done,j,h,hd,p,q,f,g,hpq,hjq,hp,hq,hc=>by
  simp only [indepF,Bool.and_eq_true]at h
  by_cases e:q=j
  ·subst e
   rw [List.getElem?_append_right (by omega)]at hq
   rw [hd]at hq
   simp at hq
   subst hq
   rw [List.getElem?_append_left (by omega)]at hp
   have:=indepAt_run h.1 p f hp hc
   simpa using this
  ·exact indepF_run (l:=l) (done:=done ++ [x]) (j:=j+1) h.2 (by simp [hd]) p q f g hpq (by omega) (by simpa using hp) (by simpa using hq) hc

theorem forwardB_run:∀ {l:List Oper} {n:Nat},forwardB l n=true→∀k o,l[k]? = some o→∀i∈directs o,i<n+k
 | [],n,_,k,o,h=>by simp at h
 | x::l,n,h,k,o,hk=>by
  simp only [forwardB,Bool.and_eq_true]at h
  cases k with
  | zero =>
   simp at hk
   subst hk
   intro i hi
   have:=List.all_eq_true.1 h.1.1 i hi
   have h2:i<n:=by
    simp only [Nat.blt]at this
    exact Nat.le_of_ble_eq_true this
   omega
  | succ k =>
   simp at hk
   intro i hi
   have:=forwardB_run h.2 k o hk i hi
   omega

theorem ancs_closed{D:Nat→Prop}:∀ {l:List Oper} {acc:List (List Nat)},(∀k o,l[k]? = some o→D (acc.length+k)→∀i∈directs o,D i)→(∀j,D j→∀x∈acc.getD j [],D x) →
  ∀j,D j→∀x∈(ancs l acc).getD j [],D x
 | [],acc,_,h=>h
 | o::l,acc,hl,h=>by
  simp only [ancs]
  apply ancs_closed
  ·intro k o' hk hD i hi
   refine hl (k+1) o' (by simpa using hk) ?_ i hi
   simp only [List.length_append,List.length_singleton]at hD
   rw [show acc.length+(k+1)=acc.length+1+k by omega]
   exact hD
  ·intro j hj x hx
   rw [List.getD_eq_getElem?_getD]at hx
   by_cases e:j<acc.length
   ·rw [List.getElem?_append_left e,←List.getD_eq_getElem?_getD]at hx
    exact h j hj x hx
   ·by_cases e2:j=acc.length
    ·subst e2
     simp at hx
     rcases hx with hx | ⟨i,hi,hx⟩
     ·exact hl 0 o (by simp) (by simpa using hj) x hx
     ·have hDi:=hl 0 o (by simp) (by simpa using hj) i hi
      exact h i hDi x (by rw [List.getD_eq_getElem?_getD];exact hx)
    ·rw [List.getElem?_append_right (by omega)]at hx
     rw [List.getElem?_eq_none (by simp;omega)]at hx
     simp at hx

def left(n:Nat)(listed:Array Bool):Nat:=((List.range n).filter fun i => !listed.getD i true).length

theorem filter_less{l:List Nat}{p q:Nat→Bool}{i:Nat}(hi:i∈l)(hp:p i=true)(hq:q i=false)(h:∀j,q j=true→p j=true):(l.filter q).length<(l.filter p).length:=by
 induction l with
 | nil=>simp at hi
 | cons x l ih =>
  have hle:∀m:List Nat,(m.filter q).length≤(m.filter p).length:=by
   intro m
   induction m with
   | nil=>simp
   | cons y m ihm =>
    simp only [List.filter_cons]
    by_cases hy:q y=true
    ·rw [if_pos hy,if_pos (h y hy)];simpa using ihm
    ·rw [if_neg hy];split
     ·simp;omega
     ·exact ihm
  simp only [List.filter_cons]
  rcases List.mem_cons.1 hi with rfl | hi
  ·rw [if_pos hp,if_neg (by simp [hq])]
   have:=hle l
   simp
   omega
  ·by_cases hx:q x=true
   ·rw [if_pos hx,if_pos (h x hx)]
    have:=ih hi
    simpa using this
   ·rw [if_neg hx];split
    ·have:=ih hi;simp;omega
    ·exact ih hi

theorem draw_sound{ops:Array Oper}{Q:Exit→Act→World→Prop}(hC:CfgOk X.C){σs:Nat→St}{fs:List Fp}{nid:Nat}(hlen:fs.length=ops.size)
  (htr:∀i o f,ops[i]? = some o→fs[i]? = some f→(gopPg X.C ops (nid+8*i) o).runP (σs i) [] []=some ((),σs (i+1),f.1,f.2)) (hind:indep ops fs=true)
  (hQ:∀ι a w,Rel X (σs ops.size) ι a w→Q .normal a w) :
  ∀(fuel:Nat) (listed:Array Bool) (τ:St) (ι:Nat→Home) (a:Act) (w:World),Rel X τ ι a w→listed.size=ops.size→left ops.size listed≤fuel →
   (∀j o,ops[j]? = some o→listed.getD j false=true→∀i∈directs o,listed.getD i false=true) →
   (∀l,(∃m f,listed.getD m false=true∧fs[m]? = some f∧l∈f.2∧(∀m' f',listed.getD m' false=true→fs[m']? = some f'→m<m'→l ∉ f'.2)∧agree τ (σs (m+1)) l) ∨
    ((∀m f,listed.getD m false=true→fs[m]? = some f→l ∉ f.2)∧agree τ (σs 0) l)) →
   wpAny X.C.P .any ops Q fuel listed a w:=by
  -- what the check says
 simp only [indep,Bool.and_eq_true]at hind
 have hfw:∀k o,ops[k]? = some o→∀i∈directs o,i<k:=by
  intro k o hk i hi
  have:=forwardB_run hind.1 k o (by simpa using hk) i hi
  omega
 have hcf:∀p q f g,p<q→fs[p]? = some f→fs[q]? = some g→conflictF f g=true→p∈(ancs ops.toList []).getD q []:=by
  intro p q f g hpq hp hq hc
  exact indepF_run (done := []) hind.2 rfl p q f g hpq (Nat.zero_le _) (by simpa using hp) (by simpa using hq) hc
  -- a place that nobody writes on the way stays
 have hstay:∀l i k,i+k≤ops.size→(∀m f,i≤m→m<i+k→fs[m]? = some f→l ∉ f.2)→agree (σs i) (σs (i+k)) l:=by
  intro l i k
  induction k with
  | zero=>intro _ _;exact agree_refl _ _
  | succ k ih =>
   intro hle hm
   have h1:=ih (by omega) (fun m f h1 h2 h3=>hm m f h1 (by omega) h3)
   have hlt:i+k<ops.size:=by omega
   have ho:ops[i+k]? = some ops[i+k]:=Array.getElem?_eq_getElem hlt
   have hf:fs[i+k]? = some fs[i+k]:=List.getElem?_eq_getElem (by omega)
   have ht:=htr _ _ _ ho hf
   obtain⟨t',_,_,h3,_⟩:=runP_local _ _ (σs (i+k)) _ _ _ ht (fun l _=>agree_refl _ _)
   have:=(h3 l (hm (i+k) _ (by omega) (by omega) hf)).2
   exact agree_trans h1 (agree_symm this)
 intro fuel
 induction fuel with
 | zero =>
  intro listed τ ι a w hR hsz hlf hcl hinv
  have hall:∀i,i<ops.size→listed.getD i true=true:=by
   intro i hi
   cases hb:listed.getD i true with
   | true=>rfl
   | false =>
    have:i∈(List.range ops.size).filter fun i => !listed.getD i true:=List.mem_filter.2 ⟨List.mem_range.2 hi,by simp [hb]⟩
    have:=List.length_pos_of_mem this
    simp only [left]at hlf
    omega
  have hall':∀i,i<ops.size→listed.getD i false=true:=by
   intro i hi
   have:=hall i hi
   simpa [Array.getD,hsz,hi] using this
  refine⟨?_,?_⟩
  ·simp only [Region.ready]
   apply List.filter_eq_nil_iff.2
   intro i hi
   have:=hall i (List.mem_range.1 hi)
   simp [this]
  ·have e:τ=σs ops.size:=by
    apply agree_ext
    intro l
    rcases hinv l with ⟨m,f,h1,h2,h3,h4,h5⟩ | ⟨h1,h2⟩
    ·have hm:m<fs.length:=(List.getElem?_eq_some_iff.1 h2).1
     have:=hstay l (m+1) (ops.size - (m+1)) (by omega) (fun m' f' hm1 hm2 hf'=>h4 m' f' (hall' m' (by omega)) hf' (by omega))
     rw [show m+1+(ops.size - (m+1))=ops.size by omega]at this
     exact agree_trans h5 this
    ·have:=hstay l 0 ops.size (by omega) (fun m' f' _ hm2 hf'=>h1 m' f' (hall' m' (by omega)) hf')
     rw [Nat.zero_add]at this
     exact agree_trans h2 this
   subst e
   exact hQ ι a w hR
 | succ fuel ih =>
  intro listed τ ι a w hR hsz hlf hcl hinv
  have hanc:∀j,listed.getD j false=true→∀x∈(ancs ops.toList []).getD j [],listed.getD x false=true:=by
   apply ancs_closed (D:=fun j=>listed.getD j false=true)
   ·intro k o hk hD i hi
    exact hcl k o (by simpa using hk) (by simpa using hD) i hi
   ·intro j _ x hx;simp at hx
  refine⟨fun hnil => ?_,fun i hi => ?_⟩
  ·-- nothing is ready: all are listed
   have hall':∀i,i<ops.size→listed.getD i false=true:=by
    intro i
    induction i using Nat.strongRecOn with
    | _ i ihi =>
     intro hi
     cases hb:listed.getD i false with
     | true=>rfl
     | false =>
      exfalso
      have hb':listed.getD i true=false:=by simpa [Array.getD,hsz,hi] using hb
      have:i∈Region.ready .any ops listed:=by
       refine List.mem_filter.2 ⟨List.mem_range.2 hi,?_⟩
       rw [Array.getElem?_eq_getElem hi]
       simp only [hb',Bool.not_false,Bool.true_and,Option.map_some,Option.getD_some,Array.all_eq_true_iff_forall_mem]
       intro e he
       cases hbn:Region.binds .any e with
       | false=>simp
       | true =>
        have hd:e.on∈directs ops[i]:=List.mem_map.2 ⟨e,List.mem_filter.2 ⟨by simpa using he,hbn⟩,rfl⟩
        have hlt:=hfw i _ (Array.getElem?_eq_getElem hi) _ hd
        simp [ihi _ hlt (by omega)]
      rw [hnil]at this
      simp at this
   have e:τ=σs ops.size:=by
    apply agree_ext
    intro l
    rcases hinv l with ⟨m,f,h1,h2,h3,h4,h5⟩ | ⟨h1,h2⟩
    ·have hm:m<fs.length:=(List.getElem?_eq_some_iff.1 h2).1
     have:=hstay l (m+1) (ops.size - (m+1)) (by omega) (fun m' f' hm1 hm2 hf'=>h4 m' f' (hall' m' (by omega)) hf' (by omega))
     rw [show m+1+(ops.size - (m+1))=ops.size by omega]at this
     exact agree_trans h5 this
    ·have:=hstay l 0 ops.size (by omega) (fun m' f' _ hm2 hf'=>h1 m' f' (hall' m' (by omega)) hf')
     rw [Nat.zero_add]at this
     exact agree_trans h2 this
   subst e
   exact hQ ι a w hR
  ·-- one that is ready
   obtain⟨hir,hrd⟩:=List.mem_filter.1 hi
   have hi':i<ops.size:=List.mem_range.1 hir
   have hio:ops[i]? = some ops[i]:=Array.getElem?_eq_getElem hi'
   have hif:fs[i]? = some fs[i]:=List.getElem?_eq_getElem (by omega)
   rw [hio]at hrd
   simp only [Option.map_some,Option.getD_some,Bool.and_eq_true,Bool.not_eq_true',Array.all_eq_true_iff_forall_mem]at hrd
   obtain⟨hnl,hdeps⟩:=hrd
   have hnl':listed.getD i false=false:=by simpa [Array.getD,hsz,hi'] using hnl
   have hdir:∀k∈directs ops[i],listed.getD k false=true:=by
    intro k hk
    obtain⟨e,he,rfl⟩:=List.mem_map.1 hk
    obtain⟨he,hb⟩:=List.mem_filter.1 he
    have:=hdeps e (by simpa using he)
    simpa [hb] using this
      -- what it waits for is there
   have hanci:∀x∈(ancs ops.toList []).getD i [],listed.getD x false=true:=by
    intro x hx
        -- listing it too, all stays closed
    have hcl2:∀j,(listed.getD j false=true∨j=i)→∀x∈(ancs ops.toList []).getD j [],(listed.getD x false=true∨x=i):=by
     apply ancs_closed (D:=fun j=>listed.getD j false=true∨j=i)
     ·intro k o hk hD m hm
      simp at hk hD
      rcases hD with hD | rfl
      ·exact .inl (hcl k o hk (by simpa using hD) m hm)
      ·have:o=ops[k]:=by rw [hio]at hk;exact(Option.some.inj hk).symm
       subst this
       exact .inl (hdir m hm)
     ·intro j _ x hx;simp at hx
    rcases hcl2 i (.inr rfl) x hx with h | rfl
    ·exact h
    ·-- nothing waits for itself: its ancestors come before
     exfalso
     have hlt:∀j,(j≤x)→∀y∈(ancs ops.toList []).getD j [],y≤x:=by
      apply ancs_closed (D:=fun j=>j≤x)
      ·intro k o hk hD m hm
       simp at hk hD
       have:=hfw k o hk m hm
       omega
      ·intro j _ x hx;simp at hx
     have hlt2:∀(l:List Oper) (acc:List (List Nat)),(∀k o,l[k]? = some o→∀m∈directs o,m<acc.length+k)→(∀j y,y∈acc.getD j []→y<j)→∀j y,y∈(ancs l acc).getD j []→y<j:=by
      intro l
      induction l with
      | nil=>intro acc _ h;exact h
      | cons o l ihl =>
       intro acc hl h
       simp only [ancs]
       apply ihl
       ·intro k o' hk m hm
        have:=hl (k+1) o' (by simpa using hk) m hm
        simp
        omega
       ·intro j y hy
        rw [List.getD_eq_getElem?_getD]at hy
        by_cases e:j<acc.length
        ·rw [List.getElem?_append_left e,←List.getD_eq_getElem?_getD]at hy
         exact h j y hy
        ·by_cases e2:j=acc.length
         ·subst e2
          simp at hy
          rcases hy with hy | ⟨m,hm,hy⟩
          ·have:=hl 0 o (by simp) y hy;omega
          ·have h1:=hl 0 o (by simp) m hm
           have h2:=h m y (by rw [List.getD_eq_getElem?_getD];exact hy)
           omega
         ·rw [List.getElem?_append_right (by omega),List.getElem?_eq_none (by simp;omega)]at hy
          simp at hy
     have:=hlt2 ops.toList [] (by intro k o hk m hm;have:=hfw k o (by simpa using hk) m hm;simpa using this) (by intro j y hy;simp at hy) x x hx
     omega
      -- it finds what it found in the text's own order
   have hrd:∀l,l∈(fs[i]).1∨l∈(fs[i]).2→agree (σs i) τ l:=by
    intro l hl
    have hconf1:∀m f,fs[m]? = some f→l∈f.2→m<i→listed.getD m false=true:=by
     intro m f hf hlf hmi
     refine hanci m (hcf m i f _ hmi hf hif ?_)
     simp only [conflictF,Bool.or_eq_true]
     rcases hl with hl | hl
     ·exact .inl (.inl (meetL_of hlf hl))
     ·exact .inl (.inr (meetL_of hlf hl))
    have hconf2:∀m f,fs[m]? = some f→l∈f.2→listed.getD m false=true→m<i:=by
     intro m f hf hlf hlm
     rcases Nat.lt_trichotomy m i with h | h | h
     ·exact h
     ·subst h;rw [hnl']at hlm;cases hlm
     ·exfalso
      have:i∈(ancs ops.toList []).getD m []:=by
       refine hcf i m _ f h hif hf ?_
       simp only [conflictF,Bool.or_eq_true]
       rcases hl with hl | hl
       ·exact .inr (meetL_of hlf hl)
       ·exact .inl (.inr (meetL_of hl hlf))
      have:=hanc m hlm i this
      rw [hnl']at this;cases this
    rcases hinv l with ⟨m,f,h1,h2,h3,h4,h5⟩ | ⟨h1,h2⟩
    ·have hmi:=hconf2 m f h2 h3 h1
     have:=hstay l (m+1) (i - (m+1)) (by omega) (fun m' f' hm1 hm2 hf' hlf'=>h4 m' f' (hconf1 m' f' hf' hlf' (by omega)) hf' (by omega) hlf')
     rw [show m+1+(i - (m+1))=i by omega]at this
     exact agree_symm (agree_trans h5 this)
    ·have:=hstay l 0 i (by omega) (fun m' f' _ hm2 hf' hlf'=>h1 m' f' (hconf1 m' f' hf' hlf' (by omega)) hf' hlf')
     rw [Nat.zero_add]at this
     exact agree_symm (agree_trans h2 this)
   obtain⟨τ',hτ,hw1,hw2,_⟩:=runP_local _ _ τ _ _ _ (htr i _ _ hio hif) (fun l hl=>hrd l (by
    rcases hl with hl | hl
    ·exact .inl hl
    ·simp at hl))
   have hrun:=runP_run _ _ _ _ _ hτ
   refine gop_sound hC hio hR hrun (fun ι' a' w' hR' => ?_)
   have hget:∀j,(listed.setIfInBounds i true).getD j false=true↔listed.getD j false=true∨j=i:=by
    intro j
    rw [Array.getD_eq_getD_getElem?,Array.getD_eq_getD_getElem?,Array.getElem?_setIfInBounds]
    by_cases e:i=j
    ·subst e
     have:i<listed.size:=by omega
     simp [this]
    ·simp [e]
     intro e2;exact absurd e2.symm e
   refine ih (listed.setIfInBounds i true) τ' ι' a' w' hR' (by simp [hsz]) ?_ ?_ ?_
   ·have:left ops.size (listed.setIfInBounds i true)<left ops.size listed:=by
     refine filter_less (i:=i) hir (by simp [hnl]) ?_ ?_
     ·rw [Array.getD_eq_getD_getElem?,Array.getElem?_setIfInBounds]
      have:i<listed.size:=by omega
      simp [this]
     ·intro j hj
      rw [Array.getD_eq_getD_getElem?,Array.getElem?_setIfInBounds]at hj
      rw [Array.getD_eq_getD_getElem?]
      by_cases e:i=j
      ·subst e
       have:i<listed.size:=by omega
       simp [this]at hj
      ·simpa [e] using hj
    omega
   ·intro j o ho hj k hk
    rw [hget]at hj ⊢
    rcases hj with hj | rfl
    ·exact .inl (hcl j o ho hj k hk)
    ·have:o=ops[j]:=by rw [hio]at ho;exact(Option.some.inj ho).symm
     subst this
     exact .inl (hdir k hk)
   ·intro l
    by_cases hl:l∈(fs[i]).2
    ·left
     refine⟨i,fs[i],(hget i).2 (.inr rfl),hif,hl,?_,agree_symm (hw1 l hl)⟩
     intro m' f' hm' hf' hlt hlf'
     rcases(hget m').1 hm' with hm' | rfl
     ·have:i∈(ancs ops.toList []).getD m' []:=by
       refine hcf i m' _ f' hlt hif hf' ?_
       simp only [conflictF,Bool.or_eq_true]
       exact .inl (.inr (meetL_of hl hlf'))
      have:=hanc m' hm' i this
      rw [hnl']at this;cases this
     ·omega
    ·have hag:=(hw2 l hl).1
     rcases hinv l with ⟨m,f,h1,h2,h3,h4,h5⟩ | ⟨h1,h2⟩
     ·left
      refine⟨m,f,(hget m).2 (.inl h1),h2,h3,?_,agree_trans hag h5⟩
      intro m' f' hm' hf' hlt
      rcases(hget m').1 hm' with hm' | rfl
      ·exact h4 m' f' hm' hf' hlt
      ·rw [hif]at hf'
       cases hf'
       exact hl
     ·right
      refine⟨fun m f hm hf => ?_,agree_trans hag h2⟩
      rcases(hget m).1 hm with hm | rfl
      ·exact h1 m f hm hf
      ·rw [hif]at hf
       cases hf
       exact hl
end
end Go.Ev
