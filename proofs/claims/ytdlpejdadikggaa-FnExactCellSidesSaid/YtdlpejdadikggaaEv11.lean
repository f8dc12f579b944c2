/- A part of a verified evaluator of the model's code: what it evaluates is what a call returns; no condition beyond the theorems' own hypotheses. -/
import Derived.Test.YtdlpejdadikggaaEv10
set_option linter.unusedVariables false
namespace Go.Ev
open Go

section
variable {X : Ctx} {σ σ' : St} {ι : Nat → Home} {a : Act} {w : World} {α : Type} {o : Oper} {nid : Nat}

theorem allOnes_run : ∀ {vs : List AV} {l : List (List Sc × Bool)} {us : List Value}, allOnes vs = some l → F2 (RAV ι) vs us → F2 (RVs ι) l us
  | [], l, [], h, _ => by simp [allOnes] at h; subst h; trivial
  | .one c g :: vs, l, u :: us, h, hv => by
    unfold allOnes at h
    split at h
    · rename_i r hr
      cases h
      exact ⟨hv.1, allOnes_run hr hv.2⟩
    · cases h
  | .tup c :: vs, l, u :: us, h, hv => by cases h

theorem op_makeFunc {f : FuncId} {first caps : Array Operand} (ho : o.op = .makeFunc (.func f) first caps) (hR : Rel X σ ι a w) (h : (opPg X.C nid o).run σ = some ((), σ')) : Done X o σ' a w := by
  simp only [opPg, ho] at h
  cases hz : Nat.beq first.size 0 with
  | false => rw [hz] at h; cases h
  | true =>
    rw [hz] at h
    simp only [cond_true] at h
    have hf : first = #[] := by have := Nat.eq_of_beq_eq_true hz; exact Array.eq_empty_of_size_eq_zero this
    obtain ⟨avs, hv, h⟩ := opnds_run hR h
    split at h
    · rename_i l hl
      obtain ⟨hu, h⟩ := newB_run h
      have hF := allOnes_run hl hv
      have hR' := hR.newOwn hu (blk := .clo l) (home := .clo (caps.map a.eval)) (w' := w) (WLe.refl _) (fun _ _ => rfl) ⟨_, rfl, by simpa using hF⟩ rfl (by simp [Home.foot]) (by simp [Home.foot]) (by simp [Home.foot]) (by simp)
      refine Done.put hR' (v := .sc (.fn f nid)) (u := .func (.func f) #[] (caps.map a.eval)) (RAV_sc.2 ⟨_, upd_same _ _ _, rfl⟩) ?_ h
      simp [execOp, ho, Instr.makeFunc, hf]
    · cases h

theorem intOp_run {op : BinOp} {q q' : IntKind} {m n : Int} {put : AV → Pg α} {r : α × St} (h : (intOp op q m q' n put).run σ = some r) (P : Program) (t : TypeId) (x y : Operand) (w : World) :
    ∃ v, (do eqGuard op t x y (.int q m) (.int q' n); binOp op t (.int q m) (.int q' n) : Sem Value).run P w = .ok v w ∧ v.oneCell' = true ∧ (put (.sc (.v v))).run σ = some r := by
  have hg : ∀ op, (eqGuard op t x y (.int q m) (.int q' n)).run P w = .ok () w := by intro op; cases op <;> simp [eqGuard]
  have he : ∀ op, (do eqGuard op t x y (.int q m) (.int q' n); binOp op t (.int q m) (.int q' n) : Sem Value).run P w = (binOp op t (.int q m) (.int q' n)).run P w := by
    intro op; rw [Sem.run_bind, hg]; rfl
  rw [he]
  unfold intOp at h
  cases op
  case shl =>
    simp only [Pg.run] at h
    cases hn : decide (n < 0) with
    | true => rw [hn] at h; cases h
    | false =>
      rw [hn] at h
      have hn := of_decide_eq_false hn
      exact ⟨_, by simp [binOp, Op.shift, hn], rfl, h⟩
  case shr =>
    simp only [Pg.run] at h
    cases hn : decide (n < 0) with
    | true => rw [hn] at h; cases h
    | false =>
      rw [hn] at h
      have hn := of_decide_eq_false hn
      exact ⟨_, by simp [binOp, Op.shift, hn], rfl, h⟩
  case quo =>
    simp only at h
    split at h
    · rename_i e
      subst e
      simp only [Pg.run] at h
      cases hn : n == 0 with
      | true => rw [hn] at h; cases h
      | false =>
        rw [hn] at h
        have hn : n ≠ 0 := by simpa using hn
        exact ⟨_, by simp [binOp, Op.intDiv, hn], rfl, h⟩
    · cases h
  case rem =>
    simp only at h
    split at h
    · rename_i e
      subst e
      simp only [Pg.run] at h
      cases hn : n == 0 with
      | true => rw [hn] at h; cases h
      | false =>
        rw [hn] at h
        have hn : n ≠ 0 := by simpa using hn
        exact ⟨_, by simp [binOp, Op.intDiv, hn], rfl, h⟩
    · cases h
  all_goals
    simp only at h
    split at h
    · rename_i e
      subst e
      exact ⟨_, by simp [binOp, Op.intArith, Op.intBits, Op.intCmp], rfl, h⟩
    · cases h

theorem op_plain (hR : Rel X σ ι a w) (hs : ∀ cs b, o.op ≠ .select cs b) (h : (plainPg X.C o fun v => putD X.C o.dst v (.ret ())).run σ = some ((), σ')) : Done X o σ' a w := by
  obtain ⟨av', u, he, hv', h⟩ := plain_run hR hs h
  exact Done.put hR hv' he h

theorem op_binOp {op : BinOp} {t ty : TypeId} {x y : Operand} (ho : o.op = .binOp op t x y ty) (hR : Rel X σ ι a w) (h : (opPg X.C nid o).run σ = some ((), σ')) : Done X o σ' a w := by
  simp only [opPg, ho] at h
  obtain ⟨av, hv, h⟩ := opnd_run hR h
  obtain ⟨av2, hv2, h⟩ := opnd_run hR h
  split at h
  · obtain ⟨hx, _⟩ := RAV_v.1 hv
    obtain ⟨hy, _⟩ := RAV_v.1 hv2
    obtain ⟨v, hv, h1, h⟩ := intOp_run h X.C.P t x y w
    refine Done.put hR (RAV_v.2 ⟨rfl, h1⟩) ?_ h
    simp only [execOp, ho, hx, hy]
    rw [Sem.run_bind, hv]
    rfl
  · exact op_plain hR (by rw [ho]; simp) h

theorem op_len {c : Call} (ho : o.op = .call c) (hc : c.callee = .builtin .len) (hR : Rel X σ ι a w) (h : (opPg X.C nid o).run σ = some ((), σ')) : Done X o σ' a w := by
  simp only [opPg, ho, hc] at h
  obtain ⟨avs, hv, h⟩ := opnds_run hR h
  split at h
  · rename_i id
    split at h
    · rename_i t ht
      split at h
      · rename_i el hel
        replace h := getB_run h
        split at h
        · rename_i ty xs own ver par hb
          obtain ⟨hp, h⟩ := chkPar_run h
          have hargs : ∃ x, c.args.toList = [x] := by
            cases hl : c.args.toList with
            | nil => rw [hl] at hv; exact hv.elim
            | cons y l => cases l with
              | nil => exact ⟨y, rfl⟩
              | cons z l => rw [hl] at hv; exact hv.2.elim
          obtain ⟨x, hx⟩ := hargs
          rw [hx] at hv
          obtain ⟨⟨A, n, c', F, e, hxv⟩, _⟩ := (⟨RAV_sc.1 hv.1, trivial⟩ : RSc ι (.sl id) (a.eval x) ∧ True)
          have hr := row_of hR hb hp e
          have hn := hr.1
          have hx0 : c.args = #[x] := by rw [← Array.toArray_toList (xs := c.args), hx]
          have hu := sliceOf_run hel
          refine Done.put hR (u := .int .i64 xs.length) (RAV_v.2 ⟨rfl, rfl⟩) ?_ h
          simp [execOp, ho, resolve, hc, hx0, invoke, builtin, Builtin.len_, ht, run_underlying hu, hxv, goInt, hn]
        · rename_i ty xs ys own ver par hb
          obtain ⟨hp, h⟩ := chkPar_run h
          have hargs : ∃ x, c.args.toList = [x] := by
            cases hl : c.args.toList with
            | nil => rw [hl] at hv; exact hv.elim
            | cons y l => cases l with
              | nil => exact ⟨y, rfl⟩
              | cons z l => rw [hl] at hv; exact hv.2.elim
          obtain ⟨x, hx⟩ := hargs
          rw [hx] at hv
          obtain ⟨⟨A, n, c', F, e, hxv⟩, _⟩ := (⟨RAV_sc.1 hv.1, trivial⟩ : RSc ι (.sl id) (a.eval x) ∧ True)
          have hn := (win_of hR hb hp e).1
          have hx0 : c.args = #[x] := by rw [← Array.toArray_toList (xs := c.args), hx]
          have hu := sliceOf_run hel
          refine Done.put hR (u := .int .i64 xs.length) (RAV_v.2 ⟨rfl, rfl⟩) ?_ h
          simp [execOp, ho, resolve, hc, hx0, invoke, builtin, Builtin.len_, ht, run_underlying hu, hxv, goInt, hn]
        · cases h
      · cases h
    · cases h
  · exact op_plain hR (by rw [ho]; simp) h

/-- writing into what is one's own -/
theorem Rel.write (hR : Rel X σ ι a w) {id b : Nat} (he : (σ.H id).excl = true) (hbf : b ∈ (ι id).foot) {blk : Blk} {w' : World}
    (hsz : w'.heap.size = w.heap.size) (hio : w'.os = w.os ∧ w'.output = w.output ∧ w'.tape = w.tape) (hw : ∀ k, k ≠ b → w'.heap[k]? = w.heap[k]?)
    (hb : RBlk (σ.setH id blk).H w' ι blk (ι id)) (hp : blk.par = []) (hnb : blk ≠ .unborn)
    (hst : ∀ j, ParOk (σ.setH id blk).H (σ.H j).par → id ∉ (σ.H j).par.map (·.1))
    (hpv : ∀ j, ∀ q ∈ (σ.H j).par, q.1 = id → ∀ v, blk.ver? = some v → q.2 ≤ v) : Rel X (σ.setH id blk) ι a w' := by
  have hl := live_of_excl he
  have hP : ∀ j, ParOk (σ.setH id blk).H (σ.H j).par → ParOk σ.H (σ.H j).par := by
    intro j h q hq
    have := h q hq
    rwa [setH_ne σ blk (fun e => hst j h (List.mem_map.2 ⟨q, hq, e⟩))] at this
  refine hR.change (D := fun k => k = b) (N := fun j => j = id) rfl (fun _ _ => rfl) ⟨Nat.le_of_eq hsz.symm, hio.1, hio.2.1, hio.2.2⟩ (fun k _ hk => hw k hk)
    (fun k hk hk0 => by subst hk; rcases hR.mu id he k hbf with h | h; omega; exact h) (fun j hj => ⟨setH_ne σ blk hj, rfl⟩)
    (fun j hj hl hp k hk hkb => by subst hkb; exact hR.sep id j (fun e => hj e.symm) he hl (hP j hp) (hst j hp) k hbf hk) (fun j hj h => hP j h) ?_ ?_ ?_ ?_ ?_ ?_
  · rintro j rfl
    rw [setH_same]
    exact ⟨hb, fun _ k hk => by rw [hsz]; exact hR.lt _ hl k hk, fun _ => ⟨hR.nd _ he, hR.mu _ he, hp⟩⟩
  · rintro i j rfl hj hi hl' hp' hr k hk
    exact hR.sep _ j (fun e => hj e.symm) he hl' (hP j hp') hr k hk
  · rintro i j hi rfl hi' hl' hp' hr k hk
    exact hR.sep i _ hi hi' hl (by rw [hR.po _ he]; intro q hq; simp at hq) (by rw [hR.po _ he]; simp) k hk
  · rintro i j hij rfl rfl
    exact absurd rfl hij
  · intro j q hq
    by_cases hj : j = id
    · subst hj; rw [setH_same, hp] at hq; simp at hq
    · rw [setH_ne σ blk hj] at hq
      by_cases e : q.1 = id
      · rw [e, setH_same]; exact hnb
      · rw [setH_ne σ blk e]; exact hR.pb j q hq
  · intro j q hq ver hh
    by_cases hj : j = id
    · subst hj; rw [setH_same, hp] at hq; simp at hq
    · rw [setH_ne σ blk hj] at hq
      by_cases e : q.1 = id
      · rw [e, setH_same] at hh
        exact hpv j q hq e ver hh
      · rw [setH_ne σ blk e] at hh; exact hR.pv j q hq ver hh

theorem setS_eq : ∀ (v l : List Sc) (off : Nat), off + v.length ≤ l.length → setS l off v = l.take off ++ v ++ l.drop (off + v.length)
  | [], l, off, h => by simp [setS]
  | c :: v, l, off, h => by
    simp only [setS]
    simp at h
    rw [setS_eq v (l.set off c) (off + 1) (by simp; omega)]
    have e1 : (l.set off c).take (off + 1) = l.take off ++ [c] := by
      rw [List.take_succ_eq_append_getElem (by simp; omega)]
      congr 1
      · rw [List.take_set]; apply List.set_eq_of_length_le; simp; exact Nat.min_le_left _ _
      · simp
    have e2 : (l.set off c).drop (off + 1 + v.length) = l.drop (off + 1 + v.length) := by
      rw [List.drop_set]; simp; omega
    rw [e1, e2]
    simp [Nat.add_assoc, Nat.add_comm 1]

theorem szIs_run {P : Program} {t : TypeId} {n : Nat} (h : szIs P t n = true) : sizeB P t = some n := by
  unfold szIs at h
  split at h
  · rename_i sz hs; rw [hs, Nat.eq_of_beq_eq_true h]
  · cases h

theorem F2_one {l : List Sc} {vs : List Value} (h : F2 (RSc ι) l vs) (ht : noTops l = true) : ∀ v ∈ vs, v.oneCell' = true := by
  induction l generalizing vs with
  | nil => cases vs with
    | nil => simp
    | cons _ _ => exact h.elim
  | cons c l ih => cases vs with
    | nil => exact h.elim
    | cons v vs =>
      have h1 : c ≠ .top ∧ c ≠ .und ∧ noTops l = true := by cases c <;> simp_all [noTops]
      intro u hu
      rcases List.mem_cons.1 hu with rfl | hu
      · exact RSc_one h.1 (by have := h1.1; have := h1.2.1; cases c <;> simp_all [notTop])
      · exact ih h.2 h1.2.2 u hu

theorem RVs_store {l : List Sc} {g : Bool} {v : Value} (h : RVs ι (l, g) v) (ht : noTops l = true) : F2 (RSc ι) l v.cells.toList ∧ v.cells.size = l.length ∧ ∀ u ∈ v.cells.toList, u.oneCell' = true := by
  have h1 : (g || notTop l) = true := by
    cases g with
    | true => rfl
    | false =>
      obtain ⟨c, rfl, h⟩ := h
      cases c <;> simp_all [noTops, notTop]
  obtain ⟨h2, h3⟩ := RVs_cells h h1
  exact ⟨h2, h3, F2_one h2 ht⟩

theorem setRow_arr {w : World} {b : Nat} {arr cs : Array Value} {e : TypeId} {fr : Nat × Nat} (h : w.heap[b]? = some (.cells arr e fr)) : (w.setRow b cs).heap[b]? = some (.cells cs e fr) := setRow_heap w b arr cs e fr h

theorem run_storeVar {P : Program} {t : TypeId} {v : Value} {b off : Nat} {arr : Array Value} {e : TypeId} (hs : sizeB P t = some v.cells.size) (h : w.heap[b]? = some (.cells arr e (0, 0)))
    (hl : off + v.cells.size ≤ arr.size) (h1 : ∀ u ∈ v.cells.toList, u.oneCell' = true) :
    (storeVar t ⟨b, off, none⟩ v).run P w = .ok () (w.setRow b (arr.toList.take off ++ v.cells.toList ++ arr.toList.drop (off + v.cells.size)).toArray) := by
  have := run_storeCells_at P b off e v.cells.toList 0 arr w h (by simpa using hl) h1
  simp [storeVar, run_sizeB hs]
  simpa using this

theorem seg_get {β : Type} {L vc : List β} {p : Nat} (h : p + vc.length ≤ L.length) (q : Nat) :
    (L.take p ++ vc ++ L.drop (p + vc.length))[q]? = if p ≤ q ∧ q < p + vc.length then vc[q - p]? else L[q]? := by
  rw [List.append_assoc, List.getElem?_append]
  have hp : (L.take p).length = p := by rw [List.length_take]; omega
  rw [hp]
  by_cases h1 : q < p
  · have h2 : ¬ (p ≤ q ∧ q < p + vc.length) := by omega
    rw [if_pos h1, if_neg h2, List.getElem?_take, if_pos h1]
  · rw [if_neg h1, List.getElem?_append]
    by_cases h2 : q < p + vc.length
    · rw [if_pos (by omega), if_pos (by omega)]
    · rw [if_neg (by omega), if_neg (by omega), List.getElem?_drop]
      congr 1
      omega

theorem seg_slice_other {β : Type} {L vc : List β} {p s n : Nat} (h : p + vc.length ≤ L.length) (hd : s + n ≤ p ∨ p + vc.length ≤ s) :
    ((L.take p ++ vc ++ L.drop (p + vc.length)).drop s).take n = (L.drop s).take n := by
  apply List.ext_getElem?
  intro i
  rw [List.getElem?_take, List.getElem?_take]
  split
  · rw [List.getElem?_drop, List.getElem?_drop, seg_get h, if_neg (by omega)]
  · rfl

theorem seg_slice_same {β : Type} {L vc : List β} {p s n j : Nat} (h : s + n ≤ L.length) (hp : p = s + j) (hj : j + vc.length ≤ n) :
    ((L.take p ++ vc ++ L.drop (p + vc.length)).drop s).take n = ((L.drop s).take n).take j ++ vc ++ ((L.drop s).take n).drop (j + vc.length) := by
  have hlen : ((L.drop s).take n).length = n := by rw [List.length_take, List.length_drop]; omega
  apply List.ext_getElem?
  intro i
  rw [seg_get (by omega)]
  rw [List.getElem?_take]
  split
  · rename_i hi
    rw [List.getElem?_drop, seg_get (by omega)]
    by_cases h1 : j ≤ i ∧ i < j + vc.length
    · rw [if_pos h1, if_pos (by omega)]
      congr 1
      omega
    · rw [if_neg h1, if_neg (by omega), List.getElem?_take, if_pos hi, List.getElem?_drop]
  · rw [if_neg (by omega), List.getElem?_eq_none (by omega)]

theorem unT_flat {own own' : Bool} {par : List (Nat × Nat)} : ∀ {t : Ty} {x : t.T} {cs : List Value} {F : List Nat} {nid : Nat}, t.flat = true → RE own w t x cs F → F2 (RSc ι) (unT own' par t x nid).1 cs
  | .unit, x, cs, F, nid, _, h => by rw [h.1]; trivial
  | .int q, x, cs, F, nid, _, h => by rw [h.1]; exact ⟨⟨rfl, rfl⟩, trivial⟩
  | .bool, x, cs, F, nid, _, h => by rw [h.1]; exact ⟨⟨rfl, rfl⟩, trivial⟩
  | .str, x, cs, F, nid, _, h => by rw [h.1]; exact ⟨⟨rfl, rfl⟩, trivial⟩
  | .pair ta tb, x, cs, F, nid, hf, h => by
    obtain ⟨c1, c2, F1, F2, rfl, rfl, h1, h2⟩ := h
    simp [Ty.flat] at hf
    exact F2_append (unT_flat hf.1 h1) (unT_flat hf.2 h2)
  | .sl t, x, cs, F, nid, hf, h => by simp [Ty.flat] at hf
  | .rm t, x, cs, F, nid, hf, h => by simp [Ty.flat] at hf

/-- an element of a row of one's own is written -/
theorem RR_set {ty : Ty} {xs : List ty.T} {b o' n c : Nat} {F : List Nat} {i : Nat} (hr : RR true w ty xs (some ⟨b, o', none⟩) n c F) (hi : i < n) (hfl : ty.flat = true) :
    ∃ arr e, w.heap[b]? = some (.cells arr e (0, 0)) ∧ (o' + i * ty.size + ty.size ≤ arr.size ∧ b ∈ F) ∧ RE true w ty (xs.getD i ty.dflt) ((arr.toList.drop (o' + i * ty.size)).take ty.size) [] ∧
      ∀ (x' : ty.T) (vc : List Value) (j : Nat), j + vc.length ≤ ty.size →
        ∀ F1, RE false w ty x' (((arr.toList.drop (o' + i * ty.size)).take ty.size).take j ++ vc ++ ((arr.toList.drop (o' + i * ty.size)).take ty.size).drop (j + vc.length)) F1 →
        RR true (w.setRow b (arr.toList.take (o' + i * ty.size + j) ++ vc ++ arr.toList.drop (o' + i * ty.size + j + vc.length)).toArray) ty (xs.set i x') (some ⟨b, o', none⟩) n c F := by
  obtain ⟨hn, hc, h | ⟨b1, o1, arr, e, fr, Fs, G, hA, hb, hf, hs, hF, hG, hl, hel⟩⟩ := hr
  · rw [h.1] at hn; simp at hn; omega
  · cases hA
    have hx : i < xs.length := by omega
    have hFi : i < Fs.length := by omega
    have hmul : (i + 1) * ty.size ≤ c * ty.size := Nat.mul_le_mul_right _ (by omega)
    have hfr := hf rfl
    subst hfr
    simp only [if_true] at hs
    rw [Nat.add_mul, Nat.one_mul] at hmul
    have h0 := hel i xs[i] Fs[i] (List.getElem?_eq_getElem hx) (List.getElem?_eq_getElem hFi)
    have hFs0 := RE_flat hfl h0
    rw [hFs0] at h0
    refine ⟨arr, e, hb, ⟨by omega, by rw [hF]; simp⟩, by rw [List.getD_eq_getElem?_getD, List.getElem?_eq_getElem hx]; exact h0, fun x' vc j hj F1 hre => ?_⟩
    refine ⟨by simpa using hn, hc, .inr ⟨b, o', _, e, (0, 0), Fs, G, rfl, setRow_arr hb, fun _ => rfl, ?_, hF, by rw [setRow_size]; exact hG, by simpa using hl, ?_⟩⟩
    · simp
      omega
    · intro k x Fk hxk hFk
      have hk : k < Fs.length := (List.getElem?_eq_some_iff.1 hFk).1
      simp only [List.toList_toArray]
      by_cases hki : k = i
      · subst hki
        rw [List.getElem?_set_self (by omega)] at hxk
        cases hxk
        rw [List.getElem?_eq_getElem hFi, hFs0] at hFk
        cases hFk
        rw [seg_slice_same (by simp; omega) rfl hj]
        have := RE_flat hfl hre
        rw [this] at hre
        exact RE_flat_own hfl hre
      · rw [List.getElem?_set_ne (fun e => hki e.symm)] at hxk
        rw [seg_slice_other (by simp; omega) (by
          rcases Nat.lt_or_gt_of_ne hki with hlt | hgt
          · left
            have : (k + 1) * ty.size ≤ i * ty.size := Nat.mul_le_mul_right _ hlt
            rw [Nat.add_mul, Nat.one_mul] at this
            omega
          · right
            have : (i + 1) * ty.size ≤ k * ty.size := Nat.mul_le_mul_right _ hgt
            rw [Nat.add_mul, Nat.one_mul] at this
            omega)]
        exact RE_flat_own hfl (hel k x Fk hxk hFk)

theorem Free.sub {F F' : List Nat} (h : Free X σ ι w F) (hs : ∀ b ∈ F', b ∈ F) (hn : F'.Nodup) : Free X σ ι w F' where
  away id hl hp b hb := h.away id hl hp b (hs b hb)
  lt b hb := h.lt b (hs b hb)
  mu b hb := h.mu b (hs b hb)
  nd := hn

/-- a free block is written -/
theorem Rel.freeWrite (hR : Rel X σ ι a w) {F : List Nat} (hF : Free X σ ι w F) {b : Nat} (hb : b ∈ F) {w' : World} (hsz : w'.heap.size = w.heap.size) (hio : w'.os = w.os ∧ w'.output = w.output ∧ w'.tape = w.tape) (hw : ∀ k, k ≠ b → w'.heap[k]? = w.heap[k]?) :
    Rel X σ ι a w' ∧ Free X σ ι w' F := by
  refine ⟨hR.change (D := fun k => k = b) (N := fun _ => False) rfl (fun _ _ => rfl) ⟨Nat.le_of_eq hsz.symm, hio.1, hio.2.1, hio.2.2⟩ (fun k _ hk => hw k hk)
    (fun k hk hk0 => by subst hk; rcases hF.mu k hb with h | h; omega; exact h) (fun j hj => ⟨rfl, rfl⟩)
    (fun j _ hl hp k hk hkb => by subst hkb; exact hF.away j hl hp k hb hk) (fun _ _ h => h) (fun _ h => h.elim) (fun _ _ h => h.elim) (fun _ _ _ h => h.elim) (fun _ _ _ h => h.elim) hR.pb hR.pv,
    ⟨hF.away, fun k hk => by rw [hsz]; exact hF.lt k hk, hF.mu, hF.nd⟩⟩

/-- an element of a row of one's own, with blocks of its own, is replaced -/
theorem RR_setO {ty : Ty} {xs : List ty.T} {b o' n c : Nat} {F F' : List Nat} {i : Nat} (hr : RR true w ty xs (some ⟨b, o', none⟩) n c F) (hi : i < n) (hnd : (F ++ F').Nodup) :
    ∃ arr e Fn, w.heap[b]? = some (.cells arr e (0, 0)) ∧ o' + i * ty.size + 0 + ty.size ≤ arr.size ∧ b ∈ F ∧ (∀ k ∈ Fn, k ∈ F ++ F') ∧ Fn.Nodup ∧
      ∀ (x' : ty.T) (vc : List Value), vc.length = ty.size → RE true w ty x' vc F' →
        RR true (w.setRow b (arr.toList.take (o' + i * ty.size + 0) ++ vc ++ arr.toList.drop (o' + i * ty.size + 0 + vc.length)).toArray) ty (xs.set i x') (some ⟨b, o', none⟩) n c Fn := by
  obtain ⟨hn, hc, h | ⟨b1, o1, arr, e, fr, Fs, G, hA, hb, hf, hs, hF, hG, hl, hel⟩⟩ := hr
  · rw [h.1] at hn; simp at hn; omega
  · cases hA
    have hx : i < xs.length := by omega
    have hFi : i < Fs.length := by omega
    have hmul : (i + 1) * ty.size ≤ c * ty.size := Nat.mul_le_mul_right _ (by omega)
    have hfr := hf rfl
    subst hfr
    simp only [if_true] at hs
    rw [Nat.add_mul, Nat.one_mul] at hmul
    have eFs : Fs = Fs.take i ++ Fs[i] :: Fs.drop (i + 1) := by rw [List.getElem_cons_drop, List.take_append_drop]
    have eset : Fs.set i F' = Fs.take i ++ F' :: Fs.drop (i + 1) := by rw [List.set_eq_take_append_cons_drop, if_pos hFi]
    have hperm : (F ++ F').Perm ((b :: ((Fs.set i F').flatten ++ G)) ++ Fs[i]) := by
      rw [hF, eset]
      conv => lhs; rw [eFs]
      simp only [List.flatten_append, List.flatten_cons, List.cons_append, List.append_assoc]
      refine List.Perm.cons b (List.Perm.append_left _ ?_)
      have key : ∀ (a m d : List Nat), (a ++ (m ++ d)).Perm (d ++ (m ++ a)) := fun a m d => List.perm_append_comm.trans (by rw [← List.append_assoc d]; exact List.Perm.append_right a List.perm_append_comm)
      have h1 := key Fs[i] ((Fs.drop (i + 1)).flatten ++ G) F'
      simpa only [List.append_assoc] using h1
    have hnd' := hperm.nodup_iff.1 hnd
    have hnd1 := (List.nodup_append.1 hnd').1
    refine ⟨arr, e, b :: ((Fs.set i F').flatten ++ G), hb, by omega, by rw [hF]; simp, fun k hk => hperm.mem_iff.2 (List.mem_append.2 (.inl hk)), hnd1, fun x' vc hvc hre => ?_⟩
    have hbn := (List.nodup_cons.1 hnd1).1
    refine ⟨by simpa using hn, hc, .inr ⟨b, o', _, e, (0, 0), Fs.set i F', G, rfl, setRow_arr hb, fun _ => rfl, ?_, rfl, by rw [setRow_size]; exact hG, by simpa using hl, ?_⟩⟩
    · simp
      omega
    · intro k x Fk hxk hFk
      have hk : k < (Fs.set i F').length := (List.getElem?_eq_some_iff.1 hFk).1
      have hbk : ∀ z ∈ Fk, (w.setRow b (arr.toList.take (o' + i * ty.size + 0) ++ vc ++ arr.toList.drop (o' + i * ty.size + 0 + vc.length)).toArray).heap[z]? = w.heap[z]? := fun z hz => setRow_other _ _ _ _ (by
        rintro rfl
        exact hbn (List.mem_append.2 (.inl (List.mem_flatten.2 ⟨Fk, List.mem_of_getElem? hFk, hz⟩))))
      simp only [List.toList_toArray]
      by_cases hki : k = i
      · subst hki
        rw [List.getElem?_set_self (by omega)] at hxk hFk
        cases hxk
        cases hFk
        have := seg_slice_same (L := arr.toList) (vc := vc) (p := o' + k * ty.size + 0) (s := o' + k * ty.size) (n := ty.size) (j := 0) (by simp; omega) rfl (by omega)
        rw [this]
        have hd : List.drop (0 + vc.length) (List.take ty.size (List.drop (o' + k * ty.size) arr.toList)) = [] := by
          apply List.drop_eq_nil_of_le
          rw [List.length_take]; omega
        rw [hd]
        simp only [List.take_zero, List.nil_append, List.append_nil]
        exact RE_frame hbk hre
      · rw [List.getElem?_set_ne (fun e => hki e.symm)] at hxk hFk
        rw [seg_slice_other (by simp; omega) (by
          rcases Nat.lt_or_gt_of_ne hki with hlt | hgt
          · left
            have : (k + 1) * ty.size ≤ i * ty.size := Nat.mul_le_mul_right _ hlt
            rw [Nat.add_mul, Nat.one_mul] at this
            omega
          · right
            have : (i + 1) * ty.size ≤ k * ty.size := Nat.mul_le_mul_right _ hgt
            rw [Nat.add_mul, Nat.one_mul] at this
            omega)]
        exact RE_frame hbk (hel k x Fk hxk hFk)

theorem Rel.setT (hR : Rel X σ ι a w) {d : Nat} {v : AV} (hv : RAV ι v (a.tmps.getD d undef)) : Rel X (σ.setT d v) ι a w where
  tm i := by
    simp only [St.setT]
    by_cases e : i = d
    · subst e
      rw [Nat.beq_refl]
      exact hv
    · rw [beq_false e]
      exact hR.tm i
  sz := hR.sz
  df := hR.df
  bl := hR.bl
  lt := hR.lt
  nd := hR.nd
  sep := hR.sep
  fr := hR.fr
  le := hR.le
  mu := hR.mu
  pb := hR.pb
  pv := hR.pv
  pn := hR.pn
  po := hR.po

theorem retgt_run {id nid n c : Nat} {A : Option Addr} {F F' : List Nat} {r : α × St} (e : ι id = .row A n c F) (e' : ι nid = .row A n c F') : ∀ {l : List Nat} {σ : St} {k : Pg α}, Rel X σ ι a w → (retgt id nid l k).run σ = some r →
    ∃ σ2, Rel X σ2 ι a w ∧ k.run σ2 = some r
  | [], σ, k, hR, h => ⟨σ, hR, h⟩
  | t :: l, σ, k, hR, h => by
    simp only [retgt, Pg.run] at h
    have htm := hR.tm t
    split at h
    · rename_i id' hT
      cases hb : Nat.beq id id' with
      | false =>
        rw [hb] at h
        exact retgt_run e e' hR h
      | true =>
        rw [hb] at h
        simp only [cond_true, Pg.run] at h
        have hid := Nat.eq_of_beq_eq_true hb
        subst hid
        rw [hT] at htm
        obtain ⟨A1, n1, c1, F1, h1, h2⟩ := RAV_sc.1 htm
        rw [e] at h1
        cases h1
        exact retgt_run e e' (hR.setT (RAV_sl e' |> fun q => h2 ▸ q)) h
    · exact retgt_run e e' hR h

theorem op_store {t : TypeId} {x y : Operand} (ho : o.op = .store t x y) (hR : Rel X σ ι a w) (h : (opPg X.C nid o).run σ = some ((), σ')) : Done X o σ' a w := by
  simp only [opPg, ho] at h
  obtain ⟨av, hv, h⟩ := opnd_run hR h
  obtain ⟨av2, hv2, h⟩ := opnd_run hR h
  split at h
  · rename_i v g
    cases hc : (noTops v && szIs X.C.P t v.length) with
    | false => rw [hc] at h; cases h
    | true =>
      rw [hc] at h
      simp only [cond_true] at h
      rw [Bool.and_eq_true] at hc
      obtain ⟨hcells, hlen, h1⟩ := RVs_store hv2 hc.1
      have hsz := szIs_run hc.2
      rw [← hlen] at hsz
      split at h
      · rename_i id off _
        obtain ⟨b, e, hx⟩ := RAV_sc.1 hv
        replace h := getB_run h
        split at h
        · rename_i l hb
          cases hle : Nat.ble (off + v.length) l.length with
          | false => rw [hle] at h; cases h
          | true =>
            rw [hle] at h
            simp only [cond_true, Pg.run] at h
            have hle := Nat.le_of_ble_eq_true hle
            have hbl := hR.bl id
            rw [hb] at hbl
            obtain ⟨b', arr, e', fr, h2, h3, h4, h5⟩ := hbl
            rw [e] at h2
            cases h2
            have h4 := h4 rfl
            subst h4
            have hal := F2_len h5
            have hal' : l.length = arr.size := by simpa using hal
            have hrun := run_storeVar (P := X.C.P) hsz h3 (off := off) (by omega) h1
            have hR' := hR.write (id := id) (b := b) (by rw [hb]; rfl) (by rw [e]; simp [Home.foot]) (blk := .cells (setS l off v) false)
              (w' := w.setRow b (arr.toList.take off ++ (a.eval y).cells.toList ++ arr.toList.drop (off + (a.eval y).cells.size)).toArray) (setRow_size _ _ _) ⟨rfl, rfl, rfl⟩ (fun k hk => setRow_other _ _ _ _ hk)
              (by
                rw [e]
                refine ⟨b, _, e', (0, 0), rfl, setRow_arr h3, fun _ => rfl, ?_⟩
                rw [setS_eq v l off hle, hlen]
                exact F2_append (F2_append (F2_take off h5) hcells) (F2_drop _ h5)) rfl (by simp)
              (fun j hp hm => by
                obtain ⟨q, hq, rfl⟩ := List.mem_map.1 hm
                obtain ⟨t, x, p, hh⟩ := hp q hq
                rw [setH_same] at hh
                cases hh) (fun j q hq _ ver hh => by cases hh)
            obtain ⟨σ2, hR2, h⟩ := putD_run hR' (u := undef) RAV_top h
            simp only [Pg.run, Option.some.injEq, Prod.mk.injEq, true_and] at h
            subst h
            exact Done.skip (by simp only [execOp, ho, hx, Instr.storeAt, Instr.sureAddr, Sem.run_bind, Sem.run_pure, Result.andThen_ok, hrun]) hR2
        · cases h
      · rename_i id i j sz _
        obtain ⟨b, o', n, c, F, e, hi, hx⟩ := RAV_sc.1 hv
        replace h := getB_run h
        split at h
        · rename_i ty xs ver hb
          cases hz : Nat.beq ty.size sz with
          | false => rw [hz] at h; cases h
          | true =>
            rw [hz] at h
            simp only [cond_true] at h
            have hz := Nat.eq_of_beq_eq_true hz
            rw [← hz] at hx
            cases hfl : ty.flat with
            | false =>
              rw [hfl] at h
              simp only [cond_false] at h
              cases hjv : (Nat.beq j 0 && Nat.beq v.length ty.size) with
              | false => rw [hjv] at h; cases h
              | true =>
                rw [hjv] at h
                simp only [cond_true, Pg.run] at h
                rw [Bool.and_eq_true] at hjv
                have hj := Nat.eq_of_beq_eq_true hjv.1
                have hvl := Nat.eq_of_beq_eq_true hjv.2
                rw [hj] at hx
                have hr := row_of hR hb (chk_none rfl) e
                have hR1 := hR.kill (id := id) (by rw [hb]; simp)
                have hF1 := Free.nil.give hR (id := id) (by rw [hb]; rfl) (F := [])
                rw [e] at hF1
                simp only [Home.foot, List.nil_append] at hF1
                obtain ⟨x', rest, σ1, vs1, vs2, F', hvs, hrest, hre, hR2, hF2, h⟩ := rdO_run hR1 hF1 h hcells
                split at h
                · cases vs2 with
                  | cons _ _ => exact hrest.elim
                  | nil =>
                    rw [List.append_nil] at hvs
                    obtain ⟨hun, h⟩ := newB_run h
                    obtain ⟨arr, e', Fn, hh, hsz2, hbF, hsub, hnd, hnew⟩ := RR_setO hr hi hF2.nd
                    have hrun := run_storeVar (P := X.C.P) (off := o' + i * ty.size + 0) hsz hh (by rw [hlen, hvl]; exact hsz2) h1
                    obtain ⟨hR3, hF3⟩ := hR2.freeWrite hF2 (b := b) (List.mem_append.2 (.inl hbF)) (w' := w.setRow b (arr.toList.take (o' + i * ty.size + 0) ++ (a.eval y).cells.toList ++ arr.toList.drop (o' + i * ty.size + 0 + (a.eval y).cells.size)).toArray) (setRow_size _ _ _) ⟨rfl, rfl, rfl⟩ (fun k hk => setRow_other _ _ _ _ hk)
                    have hrr := hnew x' vs1 (by rw [← hvs, Array.length_toList, hlen, hvl]) hre
                    rw [← hvs, Array.length_toList] at hrr
                    have hR4 := (hR3.take (F := Fn) (G := []) (by rw [List.append_nil]; exact hF3.sub hsub hnd) hun (blk := .row ty (xs.set i x') true 0 []) (home := .row (some ⟨b, o', none⟩) n c Fn) rfl ⟨_, _, _, _, rfl, fun _ => hrr⟩ rfl (by simp)).1
                    have hne : id ≠ nid := by
                      rintro rfl
                      have := hR2.unborn hun
                      rw [e] at this
                      cases this
                    obtain ⟨σ2, hR5, h⟩ := retgt_run (id := id) (nid := nid) (by rw [upd_ne _ _ hne, e]) (upd_same _ _ _) hR4 h
                    obtain ⟨σ3, hR6, h⟩ := putD_run hR5 (u := undef) RAV_top h
                    simp only [Pg.run, Option.some.injEq, Prod.mk.injEq, true_and] at h
                    subst h
                    exact Done.skip (by simp only [execOp, ho, hx, Instr.storeAt, Instr.sureAddr, Sem.run_bind, Sem.run_pure, Result.andThen_ok, hrun]) hR6
                · cases h
            | true =>
              rw [hfl] at h
              simp only [cond_true] at h
              cases hle : Nat.ble (j + v.length) ty.size with
              | false => rw [hle] at h; cases h
              | true =>
                rw [hle] at h
                simp only [cond_true] at h
                have hle := Nat.le_of_ble_eq_true hle
                have hr := row_of hR hb (chk_none rfl) e
                obtain ⟨arr, e', hh, hbnd, helem, hset⟩ := RR_set hr hi hfl
                have hcs := helem
                have hF0 : F2 (RSc ι) (unT false [] ty (xs.getD i ty.dflt) nid).1 ((arr.toList.drop (o' + i * ty.size)).take ty.size) := unT_flat hfl helem
                have hul := F2_len hF0
                have hcl : ((arr.toList.drop (o' + i * ty.size)).take ty.size).length = ty.size := RE_len helem
                have hF1 : F2 (RSc ι) (setS (unT false [] ty (xs.getD i ty.dflt) nid).1 j v) (((arr.toList.drop (o' + i * ty.size)).take ty.size).take j ++ (a.eval y).cells.toList ++ ((arr.toList.drop (o' + i * ty.size)).take ty.size).drop (j + v.length)) := by
                  rw [setS_eq _ _ _ (by omega)]
                  exact F2_append (F2_append (F2_take j hF0) hcells) (F2_drop _ hF0)
                obtain ⟨x', rest, u, vs1, vs2, F1, hvs, hrest, hre, _, h⟩ := rdT_run hR h hF1
                split at h
                · cases vs2 with
                  | cons _ _ => exact hrest.elim
                  | nil =>
                    rw [List.append_nil] at hvs
                    simp only [Pg.run] at h
                    have hrun := run_storeVar (P := X.C.P) (off := o' + i * ty.size + j) hsz hh (by omega) h1
                    have hnew := hset x' ((a.eval y).cells.toList) j (by simp; omega) _ (by
                      rw [Array.length_toList, hlen, hvs]
                      exact hre)
                    rw [Array.length_toList] at hnew
                    have hR' := hR.write (id := id) (b := b) (by rw [hb]; rfl) (by rw [e]; exact hbnd.2) (blk := .row ty (xs.set i x') true (ver + 1) [])
                      (w' := w.setRow b (arr.toList.take (o' + i * ty.size + j) ++ (a.eval y).cells.toList ++ arr.toList.drop (o' + i * ty.size + j + (a.eval y).cells.size)).toArray) (setRow_size _ _ _) ⟨rfl, rfl, rfl⟩ (fun k hk => setRow_other _ _ _ _ hk)
                      (by
                        rw [e]
                        exact ⟨_, _, _, _, rfl, fun _ => hnew⟩) rfl (by simp)
                      (fun j' hp hm => by
                        obtain ⟨q, hq, rfl⟩ := List.mem_map.1 hm
                        obtain ⟨t, x, p, hh⟩ := hp q hq
                        rw [setH_same] at hh
                        injection hh with _ _ _ hv2 _
                        have := hR.pv j' q hq ver (by rw [hb]; rfl)
                        omega) (fun j' q hq hqi ver' hh => by
                        simp only [Blk.ver?, Option.some.injEq] at hh
                        have := hR.pv j' q hq ver (by rw [hqi, hb]; rfl)
                        omega)
                    obtain ⟨σ2, hR2, h⟩ := putD_run hR' (u := undef) RAV_top h
                    simp only [Pg.run, Option.some.injEq, Prod.mk.injEq, true_and] at h
                    subst h
                    exact Done.skip (by simp only [execOp, ho, hx, Instr.storeAt, Instr.sureAddr, Sem.run_bind, Sem.run_pure, Result.andThen_ok, hrun]) hR2
                · cases h
        · cases h
      · cases h
  · cases h
end
end Go.Ev
