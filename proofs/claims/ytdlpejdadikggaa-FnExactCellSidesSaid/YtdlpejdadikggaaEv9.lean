/- A part of a verified evaluator of the model's code: what it evaluates is what a call returns; no condition beyond the theorems' own hypotheses. -/
import Derived.Test.YtdlpejdadikggaaEv8
set_option linter.unusedVariables false
namespace Go.Ev
open Go

section
variable {X : Ctx} {σ σ' : St} {ι : Nat → Home} {a : Act} {w : World} {α : Type} {o : Oper} {nid : Nat}

theorem RAV_ptr {ι : Nat → Home} {id off b : Nat} (e : ι id = .blk b) : RAV ι (.sc (.ptr id off)) (.pointer (some ⟨b, off, none⟩)) := RAV_sc.2 ⟨b, e, rfl⟩
theorem RAV_elt {ι : Nat → Home} {id i j sz b o n c : Nat} {F : List Nat} (e : ι id = .row (some ⟨b, o, none⟩) n c F) (hi : i < n) : RAV ι (.sc (.elt id i j sz)) (.pointer (some ⟨b, o + i * sz + j, none⟩)) := RAV_sc.2 ⟨b, o, n, c, F, e, hi, rfl⟩
theorem RAV_sl {ι : Nat → Home} {id n c : Nat} {A : Option Addr} {F : List Nat} (e : ι id = .row A n c F) : RAV ι (.sc (.sl id)) (.slice A n c) := RAV_sc.2 ⟨A, n, c, F, e, rfl⟩

theorem setT_same {σ : St} {t : Nat} {v : AV} (h : σ.T t = v) : σ.setT t v = σ := by
  cases σ with
  | mk T H =>
    simp only [St.setT] at *
    congr 1
    funext j
    by_cases e : j = t
    · subst e; simp [Nat.beq_refl, h]
    · rw [beq_false e]; rfl

/-- a branch over a temporary -/
theorem brT_run {i : Nat} {x y : Pg α} {r : α × St} (h : (Pg.brT i x y).run σ = some r) :
    ∃ b, σ.T i = .sc (.v (.bool b)) ∧ (if b then x else y).run σ = some r := by
  simp only [Pg.run] at h
  split at h
  · rename_i b hb
    refine ⟨b, hb, ?_⟩
    cases b
    · simp only [cond_false] at h
      rw [setT_same hb] at h
      simpa using h
    · simp only [cond_true] at h
      rw [setT_same hb] at h
      simpa using h
  · cases h

theorem tmp_bool (hR : Rel X σ ι a w) {i : Nat} {b : Bool} (h : σ.T i = .sc (.v (.bool b))) : a.tmps.getD i undef = .bool b := by
  have := hR.tm i
  rw [h] at this
  exact (RAV_v.1 this).1

theorem op_move {x : Operand} (ho : o.op = .move x) (hR : Rel X σ ι a w) (h : (opPg X.C nid o).run σ = some ((), σ')) : Done X o σ' a w := by
  simp only [opPg, ho] at h
  obtain ⟨av, hv, h⟩ := opnd_run hR h
  exact Done.put hR hv (by simp [execOp, ho]) h

theorem op_assign {x : Operand} (ho : o.op = .assign x) (hR : Rel X σ ι a w) (h : (opPg X.C nid o).run σ = some ((), σ')) : Done X o σ' a w := by
  simp only [opPg, ho] at h
  obtain ⟨av, hv, h⟩ := opnd_run hR h
  exact Done.put hR hv (by simp [execOp, ho]) h

theorem op_pick {c x y : Operand} (ho : o.op = .pick c x y) (hR : Rel X σ ι a w) (h : (opPg X.C nid o).run σ = some ((), σ')) : Done X o σ' a w := by
  simp only [opPg, ho] at h
  cases c with
  | tmp t =>
    simp only at h
    obtain ⟨b, hb, h⟩ := brT_run h
    have ht := tmp_bool hR hb
    cases b
    · obtain ⟨av, hv, h⟩ := opnd_run hR h
      exact Done.put hR hv (by simp [execOp, ho, Act.eval, asBool]; simp at ht; simp [ht]) h
    · obtain ⟨av, hv, h⟩ := opnd_run hR h
      exact Done.put hR hv (by simp [execOp, ho, Act.eval, asBool]; simp at ht; simp [ht]) h
  | _ => cases h

theorem zeroS_run {P : Program} {t : TypeId} {l : List Sc} (h : zeroS P t = some l) : ∃ z : Value, l = z.cells.toList.map .v ∧ z.cells.toList.all (·.oneCell') = true ∧ ∀ w, (zeroValue t).run P w = .ok z w := by
  unfold zeroS at h
  cases hi : P.info? t with
  | none => rw [hi] at h; cases h
  | some i =>
    rw [hi] at h
    simp only at h
    cases hz : i.zero with
    | none => rw [hz] at h; cases h
    | some z =>
      rw [hz] at h
      simp only at h
      cases ha : z.cells.toList.all (·.oneCell') with
      | false => rw [ha] at h; cases h
      | true =>
        rw [ha] at h
        simp only [cond_true, Option.some.injEq] at h
        exact ⟨z, h.symm, ha, fun w => by simp [zeroValue, typeInfo, hi, hz]⟩

theorem RVs_cells {l : List Sc} {g : Bool} {v : Value} (h : RVs ι (l, g) v) (ht : (g || notTop l) = true) : F2 (RSc ι) l v.cells.toList ∧ v.cells.size = l.length := by
  unfold RVs at h
  cases g with
  | true =>
    simp only [if_true] at h
    obtain ⟨vs, rfl, h⟩ := h
    exact ⟨h, by simpa [Value.cells] using (F2_len h).symm⟩
  | false =>
    simp only [Bool.false_eq_true, if_false] at h
    obtain ⟨c, rfl, h⟩ := h
    have h1 := RSc_one h (by simpa using ht)
    have e : v.cells = #[v] := by cases v <;> simp_all [Value.cells, Value.oneCell']
    rw [e]
    exact ⟨⟨h, trivial⟩, rfl⟩

theorem op_box {e : TypeId} {x : Operand} (ho : o.op = .box e x) (hR : Rel X σ ι a w) (h : (opPg X.C nid o).run σ = some ((), σ')) : Done X o σ' a w := by
  simp only [opPg, ho] at h
  obtain ⟨av, hv, h⟩ := opnd_run hR h
  split at h
  · rename_i l g
    cases hg : (g || notTop l) with
    | false => rw [hg] at h; cases h
    | true =>
      rw [hg] at h
      obtain ⟨hu, h⟩ := newB_run h
      obtain ⟨hl, _⟩ := RVs_cells hv hg
      refine Done.put (hR.newCells hu (e := e) hl) (RAV_ptr (upd_same _ _ _)) ?_ h
      simp [execOp, ho, Instr.box, newVar, newRow]
  · cases h

theorem op_nilCheck {x : Operand} (ho : o.op = .nilCheck x) (hR : Rel X σ ι a w) (h : (opPg X.C nid o).run σ = some ((), σ')) : Done X o σ' a w := by
  simp only [opPg, ho] at h
  obtain ⟨av, hv, h⟩ := opnd_run hR h
  split at h
  · obtain ⟨b, e, hx⟩ := RAV_sc.1 hv
    exact Done.put hR hv (by simp [execOp, ho, hx]) h
  · obtain ⟨b, o', n, c, F, e, _, hx⟩ := RAV_sc.1 hv
    exact Done.put hR hv (by simp [execOp, ho, hx]) h
  · obtain ⟨vs, e, hx⟩ := RAV_sc.1 hv
    exact Done.put hR hv (by simp [execOp, ho, hx]) h
  · obtain ⟨hx, _⟩ := RAV_v.1 hv
    exact Done.put hR hv (by simp [execOp, ho, hx]) h
  · cases h

theorem fieldOf_run {P : Program} {s : TypeId} {f off : Nat} {t : TypeId} {sz : Nat} (h : fieldOf P s f = some (off, t, sz)) :
    ∃ fs fd, P.underlying s = some (.struct fs) ∧ fs[f]? = some fd ∧ fd.offset = off ∧ fd.type = t ∧ sizeB P t = some sz ∧ sz ≠ 0 := by
  unfold fieldOf at h
  split at h
  · rename_i fs hu
    split at h
    · rename_i fd hf
      split at h
      · rename_i i hi
        cases hz : Nat.beq i.size 0 with
        | true => rw [hz] at h; cases h
        | false =>
          rw [hz] at h
          simp only [cond_false, Option.some.injEq, Prod.mk.injEq] at h
          obtain ⟨rfl, rfl, rfl⟩ := h
          exact ⟨fs, fd, hu, hf, rfl, rfl, by simp [sizeB, hi], fun e => by rw [e] at hz; cases hz⟩
      · cases h
    · cases h
  · cases h

theorem run_fieldAt {P : Program} {s : TypeId} {f off : Nat} {t : TypeId} {sz : Nat} (h : fieldOf P s f = some (off, t, sz)) (b k : Nat) (w : World) :
    (Instr.fieldAt s (.pointer (some ⟨b, k, none⟩)) f).run P w = .ok (.pointer (some ⟨b, k + off, none⟩)) w := by
  obtain ⟨fs, fd, hu, hf, rfl, rfl, hs, hz⟩ := fieldOf_run h
  simp [Instr.fieldAt, run_underlying hu, hf, Instr.sureAddr, fieldPlace, run_sizeB hs, hz, Addr_add]

theorem op_fieldAddr {s : TypeId} {x : Operand} {f : Nat} (ho : o.op = .fieldAddr s x f) (hR : Rel X σ ι a w) (h : (opPg X.C nid o).run σ = some ((), σ')) : Done X o σ' a w := by
  simp only [opPg, ho] at h
  split at h
  · rename_i off t sz hf
    obtain ⟨av, hv, h⟩ := opnd_run hR h
    split at h
    · obtain ⟨b, e, hx⟩ := RAV_sc.1 hv
      exact Done.put hR (RAV_ptr e) (by simp [execOp, ho, hx, run_fieldAt hf]) h
    · obtain ⟨b, o', n, c, F, e, hi, hx⟩ := RAV_sc.1 hv
      exact Done.put hR (RAV_elt e hi) (by simp [execOp, ho, hx, run_fieldAt hf, Nat.add_assoc]) h
    · cases h
  · cases h

theorem op_field {s : TypeId} {x : Operand} {f : Nat} (ho : o.op = .field s x f) (hR : Rel X σ ι a w) (h : (opPg X.C nid o).run σ = some ((), σ')) : Done X o σ' a w := by
  simp only [opPg, ho] at h
  split at h
  · rename_i off t sz hf
    obtain ⟨av, hv, h⟩ := opnd_run hR h
    split at h
    · rename_i l
      split at h
      · rename_i v hp
        obtain ⟨vs, hx, hl⟩ := hv
        obtain ⟨u, hu, hvu⟩ := part_part (w := w) hp hl
        obtain ⟨fs, fd, hu', hf', e1, e2, hs, hz⟩ := fieldOf_run hf
        refine Done.put hR hvu ?_ h
        simp [execOp, ho, hx, Instr.field, run_underlying hu', hf', asAgg, e1, e2, hu]
      · cases h
    · cases h
  · cases h

theorem op_extract {x : Operand} {i : Nat} (ho : o.op = .extract x i) (hR : Rel X σ ι a w) (h : (opPg X.C nid o).run σ = some ((), σ')) : Done X o σ' a w := by
  simp only [opPg, ho] at h
  obtain ⟨av, hv, h⟩ := opnd_run hR h
  split at h
  · rename_i l
    split at h
    · rename_i c hc
      obtain ⟨vs, hx, hl⟩ := hv
      obtain ⟨u, hu, hcu⟩ := F2_get hl hc
      have hu' : vs[i]? = some u := by simpa using hu
      exact Done.put hR (v := .one c.1 c.2) hcu (by simp [execOp, ho, hx, Instr.extract, hu']) h
    · cases h
  · cases h

theorem cell_at {w : World} {b : Nat} {arr : Array Value} {e : TypeId} {fr : Nat × Nat} (h : w.heap[b]? = some (.cells arr e fr)) (k : Nat) : w.cell? ⟨b, k, none⟩ = arr[k]? := by
  simp [World.cell?, h]

theorem chk_none {par : List (Nat × Nat)} (h : par = []) : ParOk σ.H par := by rw [h]; intro q hq; simp at hq

/-- an element of a row that is told -/
theorem RowR_elem {own : Bool} {t : Ty} {x : List t.T} {A : Option Addr} {n c : Nat} {F : List Nat} (h : RR own w t x A n c F) {i : Nat} (hi : i < n) :
    ∃ b o Fi cs, A = some ⟨b, o, none⟩ ∧ (∀ k ∈ Fi, k ∈ F) ∧ RE own w t (x.getD i t.dflt) cs Fi ∧ cs.length = t.size ∧ ∀ k u, cs[k]? = some u → w.cell? ⟨b, o + i * t.size + k, none⟩ = some u := by
  obtain ⟨hn, hc, h | ⟨b, o, arr, e, fr, Fs, G, hA, hb, hf, hs, hF, hG, hl, hel⟩⟩ := h
  · rw [h.1] at hn; simp at hn; omega
  · have hx : i < x.length := by omega
    have hFi : i < Fs.length := by omega
    have := hel i x[i] Fs[i] (List.getElem?_eq_getElem hx) (List.getElem?_eq_getElem hFi)
    refine ⟨b, o, Fs[i], _, hA, fun k hk => ?_, by rw [List.getD_eq_getElem?_getD, List.getElem?_eq_getElem hx]; exact this, RE_len this, fun k u hu => ?_⟩
    · rw [hF]; exact List.mem_cons_of_mem _ (List.mem_append.2 (.inl (List.mem_flatten.2 ⟨Fs[i], List.getElem_mem hFi, hk⟩)))
    · rw [cell_at hb]
      have := take_drop_get hu
      simpa using this

theorem idx_run {t : Ty} {xs : List (List t.T)} {id i ver : Nat} {A : Option Addr} {n c : Nat} {F : List Nat} {k : Pg α} {r : α × St} (hR : Rel X σ ι a w) (hb : σ.H id = .row (.sl t) xs true ver []) (e : ι id = .row A n c F) (hi : i < n)
    (h : (newBs nid (unT false [(id, ver)] (.sl t) (xs.getD i []) nid).2 (newB (nid + 4) (.idx t xs nid i id ver) k)).run σ = some r) :
    ∃ σ1 ι1 b o cs, A = some ⟨b, o, none⟩ ∧ Rel X σ1 ι1 a w ∧ F2 (RSc ι1) (unT false [(id, ver)] (.sl t) (xs.getD i []) nid).1 cs ∧ (∀ k u, cs[k]? = some u → w.cell? ⟨b, o + i * 1 + k, none⟩ = some u) ∧ k.run σ1 = some r := by
  have hbl := hR.bl id
  rw [hb] at hbl
  obtain ⟨A', n', c', F', h1, h2⟩ := hbl
  rw [e] at h1
  cases h1
  have h2 := h2 (chk_none rfl)
  have hlt := hR.lt id (by rw [hb]; rfl)
  rw [e] at hlt
  simp only [Home.foot] at hlt
  obtain ⟨hn, hc, h3 | ⟨b, o, arr, el, fr, Fs, G, hA, hw, hf, hs, hF, hG, hl, hel⟩⟩ := h2
  · rw [h3.1] at hn; simp at hn; omega
  · have hx : i < xs.length := by omega
    have hFi : i < Fs.length := by omega
    have hf := hf rfl
    subst hf
    have hr := hel i xs[i] Fs[i] (List.getElem?_eq_getElem hx) (List.getElem?_eq_getElem hFi)
    have hgx : xs.getD i [] = xs[i] := by rw [List.getD_eq_getElem?_getD, List.getElem?_eq_getElem hx]; rfl
    have hFsub : ∀ k ∈ Fs[i], k ∈ F := fun k hk => by rw [hF]; exact List.mem_cons_of_mem _ (List.mem_append.2 (.inl (List.mem_flatten.2 ⟨Fs[i], List.getElem_mem hFi, hk⟩)))
    obtain ⟨A2, n2, c2, hcs, hrow⟩ := hr
    simp only [Ty.size] at hcs hs
    simp only [unT, newBs] at h ⊢
    obtain ⟨hu, h⟩ := newB_run h
    have hpar : ParOk σ.H [(id, ver)] := by intro q hq; simp at hq; subst hq; exact ⟨_, _, _, hb⟩
    have hne : id ≠ nid := by rintro rfl; rw [hb] at hu; cases hu
    have hR1 := hR.newId hu (blk := .row t (xs.getD i []) false 0 [(id, ver)]) (home := .row A2 n2 c2 Fs[i]) (w' := w) (WLe.refl _) (fun _ _ => rfl) (fun _ => ⟨A2, n2, c2, Fs[i], rfl, fun _ => by rw [hgx]; exact RR_ro hrow⟩)
      (fun _ H w ι' _ hf => ⟨_, _, _, _, rfl, fun h => (hf h).elim⟩) (fun _ k hk => hlt k (hFsub k hk)) (fun h => by cases h)
      (fun j he _ _ hr k hk hk2 => by
        have hj : j ≠ id := by intro e2; apply hr; simp [Blk.par, e2]
        have := hR.sep j id hj he (by rw [hb]; rfl) (by rw [hb]; exact chk_none rfl) (by rw [hb]; simp [Blk.par]) k hk
        rw [e] at this
        exact this (hFsub k hk2))
      (fun q hq => by simp [Blk.par] at hq; subst hq; rw [hb]; simp) (fun q hq ver e' => by simp [Blk.par] at hq; subst hq; rw [hb] at e'; cases e'; exact Nat.le_refl _) (by simp)
    have hb1 : (σ.setH nid (.row t (xs.getD i []) false 0 [(id, ver)])).H id = .row (.sl t) xs true ver [] := by rw [setH_ne _ _ hne, hb]
    have e1 : upd ι nid (.row A2 n2 c2 Fs[i]) id = .row A n c F := by rw [upd_ne _ _ hne, e]
    obtain ⟨hu1, h⟩ := newB_run h
    have hR2 := hR1.newId hu1 (blk := .idx t xs nid i id ver) (home := .row A n c F) (w' := w) (WLe.refl _) (fun _ _ => rfl)
      (fun _ => ⟨A, n, c, F, rfl, e1, fun _ => ⟨b, o, arr, el, Fs, G, A2, n2, c2, Fs[i], hA, hn, hc, hw, by simpa using hs, ⟨hF, hG⟩, hl, hel, hcs, List.getElem?_eq_getElem hFi, upd_same _ _ _⟩⟩)
      (fun _ H w ι' hL hf => ⟨A, n, c, F, rfl, hL.eq e1 (by simp), fun h => (hf h).elim⟩) (fun _ k hk => hlt k hk) (fun h => by cases h)
      (fun j he _ _ hr k hk hk2 => by
        have hj : j ≠ id := by intro e2; apply hr; simp [Blk.par, e2]
        have := hR1.sep j id hj he (by rw [hb1]; rfl) (by rw [hb1]; exact chk_none rfl) (by rw [hb1]; simp [Blk.par]) k hk
        rw [e1] at this
        exact this hk2)
      (fun q hq => by simp [Blk.par] at hq; subst hq; rw [hb1]; simp) (fun q hq ver e' => by simp [Blk.par] at hq; subst hq; rw [hb1] at e'; cases e'; exact Nat.le_refl _) (by simp)
    refine ⟨_, _, b, o, [.slice A2 n2 c2], hA, hR2, ⟨⟨A2, n2, c2, Fs[i], ?_, rfl⟩, trivial⟩, fun k u hu => ?_, h⟩
    · rw [upd_ne _ _ (by omega), upd_same]
    · rw [cell_at hw]
      rw [← hcs] at hu
      have := take_drop_get hu
      simpa using this

theorem op_load {t : TypeId} {x : Operand} (ho : o.op = .load t x) (hR : Rel X σ ι a w) (h : (opPg X.C nid o).run σ = some ((), σ')) : Done X o σ' a w := by
  simp only [opPg, ho] at h
  obtain ⟨av, hv, h⟩ := opnd_run hR h
  split at h
  · rename_i id off
    obtain ⟨b, e, hx⟩ := RAV_sc.1 hv
    replace h := getB_run h
    split at h
    · rename_i l ro hb
      split at h
      · rename_i v hp
        have hbl := hR.bl id
        rw [hb] at hbl
        obtain ⟨b', arr, e', fr, h1, h2, h3, h4⟩ := hbl
        rw [e] at h1
        cases h1
        obtain ⟨u, hu, hvu⟩ := loadVar_part (w := w) hp (b := b) (base := 0) (fun k u hk => by rw [Nat.zero_add, cell_at h2]; simpa using hk) h4
        rw [Nat.zero_add] at hu
        exact Done.put hR hvu (by simp [execOp, ho, hx, Instr.loadAt, Instr.sureAddr, hu]) h
      · cases h
    · cases h
  · rename_i id i j sz
    obtain ⟨b, o', n, c, F, e, hi, hx⟩ := RAV_sc.1 hv
    replace h := getB_run h
    split at h
    · rename_i ty xs own ver par hb
      cases hz : Nat.beq ty.size sz with
      | false => rw [hz] at h; cases h
      | true =>
        rw [hz] at h
        simp only [cond_true] at h
        obtain ⟨hp, h⟩ := chkPar_run h
        have hsz := Nat.eq_of_beq_eq_true hz
        have hbl := hR.bl id
        rw [hb] at hbl
        obtain ⟨A', n', c', F', h1, h2⟩ := hbl
        rw [e] at h1
        cases h1
        obtain ⟨b', o'', Fi, cs, hA, hFi, hre, hlen, hcell⟩ := RowR_elem (h2 hp) hi
        cases hA
        split at h
        · rename_i v hpt
          by_cases hq : own = true ∧ par = [] ∧ ∃ t2, ty = .sl t2
          · obtain ⟨rfl, rfl, t2, rfl⟩ := hq
            simp only [cond_true, List.append_nil, Ty.dflt, idxB] at h hpt
            obtain ⟨σ1, ι1, b2, o2, cs2, hA2, hR1, hF1, hcell2, h⟩ := idx_run hR hb e hi h
            cases hA2
            obtain ⟨u, hu, hvu⟩ := loadVar_part (w := w) hpt (b := b) (base := o' + i * 1) hcell2 hF1
            refine Done.put hR1 hvu ?_ h
            simp only [Ty.size] at hsz
            rw [Nat.mul_one] at hu
            simp [execOp, ho, hx, Instr.loadAt, Instr.sureAddr, ← hsz, hu]
          have hid : ∀ (k : Pg Unit), idxB own ty xs nid i id ver par k = k := by
            intro k
            unfold idxB
            split
            · exact (hq ⟨rfl, rfl, _, rfl⟩).elim
            · rfl
          rw [hid] at h
          obtain ⟨σ1, ι1, hR1, hL1, hE1, hF1, h⟩ := unT_ro hR hre (par := (bif own then [(id, ver)] else []) ++ par) (by
              cases own with
              | true =>
                intro q hq
                rcases List.mem_append.1 hq with hq | hq
                · simp at hq; subst hq; exact ⟨ty, xs, par, hb⟩
                · exact hp q hq
              | false => simpa using hp) (by
              intro k hk hr u hu hu2
              have hk1 : k ≠ id ∨ own = false := by
                cases own with
                | true => left; intro e; apply hr; simp [e]
                | false => exact .inr rfl
              have hk2 : k ∉ par.map (·.1) := fun hm => hr (by rw [List.map_append]; exact List.mem_append.2 (.inr hm))
              have hk3 : k ≠ id := by
                rcases hk1 with hq1 | hq1
                · exact hq1
                · rintro rfl; rw [hb, hq1] at hk; cases hk
              have := hR.sep k id hk3 hk (by rw [hb]; rfl) (by rw [hb]; exact hp) (by rw [hb]; exact hk2) u hu
              rw [e] at this
              exact this (hFi u hu2)) h
          obtain ⟨u, hu, hvu⟩ := loadVar_part (w := w) hpt (b := b) (base := o' + i * ty.size) hcell hF1
          refine Done.put hR1 hvu ?_ h
          simp [execOp, ho, hx, Instr.loadAt, Instr.sureAddr, ← hsz, hu]
        · cases h
    · rename_i ty xs ys ver par hb
      cases hz : Nat.beq ty.size sz with
      | false => rw [hz] at h; cases h
      | true =>
        rw [hz] at h
        simp only [cond_true] at h
        obtain ⟨hp, h⟩ := chkPar_run h
        have hsz := Nat.eq_of_beq_eq_true hz
        obtain ⟨hn, hrr⟩ := win_of hR hb hp e
        obtain ⟨b', o'', Fi, cs, hA, hFi, hre, hlen, hcell⟩ := RowR_elem (RR_pre hn hrr) hi
        cases hA
        split at h
        · rename_i v hpt
          obtain ⟨σ1, ι1, hR1, hL1, hE1, hF1, h⟩ := unT_ro hR hre (par := par) hp (by
              intro k hk hr u hu hu2
              have hk3 : k ≠ id := by
                rintro rfl; rw [hb] at hk; cases hk
              have := hR.sep k id hk3 hk (by rw [hb]; rfl) (by rw [hb]; exact hp) (by rw [hb]; exact hr) u hu
              rw [e] at this
              exact this (hFi u hu2)) h
          obtain ⟨u, hu, hvu⟩ := loadVar_part (w := w) hpt (b := b) (base := o' + i * ty.size) hcell hF1
          refine Done.put hR1 hvu ?_ h
          simp [execOp, ho, hx, Instr.loadAt, Instr.sureAddr, ← hsz, hu]
        · cases h
    · cases h
  · cases h
end
end Go.Ev
