/- A part of a verified evaluator of the model's code: what it evaluates is what a call returns; no condition beyond the theorems' own hypotheses. -/
import Derived.Test.YtdlpejdadikggaaEv9
set_option linter.unusedVariables false
namespace Go.Ev
open Go

section
variable {X : Ctx} {σ σ' : St} {ι : Nat → Home} {a : Act} {w : World} {α : Type} {o : Oper} {nid : Nat}

theorem op_alloc {e : TypeId} (ho : o.op = .alloc e) (hR : Rel X σ ι a w) (h : (opPg X.C nid o).run σ = some ((), σ')) : Done X o σ' a w := by
  simp only [opPg, ho] at h
  split at h
  · rename_i l hz
    obtain ⟨z, rfl, ha, hz⟩ := zeroS_run hz
    obtain ⟨hu, h⟩ := newB_run h
    refine Done.put (hR.newCells hu (e := e) (arr := z.cells) (F2_plain ha)) (RAV_ptr (upd_same _ _ _)) ?_ h
    simp [execOp, ho, Instr.alloc, hz, newVar, newRow]
  · cases h

theorem among_run {n : Nat} {i : Int} {k : Nat → Pg α} {r : α × St} : ∀ {m : Nat}, (among n i k m).run σ = some r → m ≤ n → ∃ j : Nat, j < n ∧ i = (j : Int) ∧ (k j).run σ = some r
  | 0, h, _ => by cases h
  | m + 1, h, hm => by
    simp only [among, Pg.run] at h
    cases he : (i == ((n - (m + 1) : Nat) : Int)) with
    | true =>
      rw [he] at h
      exact ⟨n - (m + 1), by omega, by simpa using he, h⟩
    | false =>
      rw [he] at h
      exact among_run (m := m) h (by omega)

theorem sliceOf_run {P : Program} {t e : TypeId} (h : sliceOf P t = some e) : P.underlying t = some (.slice e) := by
  unfold sliceOf at h
  split at h
  · rename_i e' hu; cases h; exact hu
  · cases h

theorem arrayOf_run {P : Program} {t e : TypeId} {n sz : Nat} (h : arrayOf P t = some (n, e, sz)) : P.underlying t = some (.array n e) ∧ sizeB P e = some sz ∧ sz ≠ 0 := by
  unfold arrayOf at h
  split at h
  · rename_i n' e' hu
    split at h
    · rename_i i hi
      cases hz : Nat.beq i.size 0 with
      | true => rw [hz] at h; cases h
      | false =>
        rw [hz] at h
        simp only [cond_false, Option.some.injEq, Prod.mk.injEq] at h
        obtain ⟨rfl, rfl, rfl⟩ := h
        exact ⟨hu, by simp [sizeB, hi], fun e => by rw [e] at hz; cases hz⟩
    · cases h
  · cases h

theorem elemSize_run {P : Program} {t : TypeId} {n : Nat} (h : elemSz P t n = true) :
    ∃ e, P.underlying t = some (.slice e) ∧ sizeB P e = some n := by
  unfold elemSz at h
  split at h
  · rename_i e he
    split at h
    · rename_i sz hs
      exact ⟨e, sliceOf_run he, by rw [hs, Nat.eq_of_beq_eq_true h]⟩
    · cases h
  · cases h

/-- a row's header, with what is told of it -/
theorem row_of (hR : Rel X σ ι a w) {id : Nat} {ty : Ty} {xs : List ty.T} {own : Bool} {ver : Nat} {par : List (Nat × Nat)} (hb : σ.H id = .row ty xs own ver par) (hp : ParOk σ.H par)
    {A : Option Addr} {n c : Nat} {F : List Nat} (e : ι id = .row A n c F) : RR own w ty xs A n c F := by
  have hbl := hR.bl id
  rw [hb] at hbl
  obtain ⟨A', n', c', F', h1, h2⟩ := hbl
  rw [e] at h1
  cases h1
  exact h2 hp

theorem op_indexAddr {t : TypeId} {x i : Operand} (ho : o.op = .indexAddr t x i) (hR : Rel X σ ι a w) (h : (opPg X.C nid o).run σ = some ((), σ')) : Done X o σ' a w := by
  simp only [opPg, ho] at h
  obtain ⟨av, hv, h⟩ := opnd_run hR h
  split at h
  · rename_i id
    obtain ⟨A, n, c, F, e, hx⟩ := RAV_sc.1 hv
    obtain ⟨av2, hv2, h⟩ := opnd_run hR h
    split at h
    · rename_i q m
      obtain ⟨hy, _⟩ := RAV_v.1 hv2
      replace h := getB_run h
      split at h
      · rename_i ty xs own ver par hb
        cases hz : elemSz X.C.P t ty.size with
        | false => rw [hz] at h; cases h
        | true =>
          rw [hz] at h
          simp only [cond_true] at h
          obtain ⟨hp, h⟩ := chkPar_run h
          obtain ⟨el, hu, hs⟩ := elemSize_run hz
          have hr := row_of hR hb hp e
          simp only [Pg.run] at h
          cases h0 : decide (0 ≤ m) with
          | false => rw [h0] at h; cases h
          | true =>
            rw [h0] at h
            simp only [cond_true] at h
            cases h1 : decide (m < (xs.length : Int)) with
            | false => rw [h1] at h; cases h
            | true =>
              rw [h1] at h
              simp only [cond_true] at h
              have h0 := of_decide_eq_true h0
              have h1 := of_decide_eq_true h1
              have hn := hr.1
              have hi : m.toNat < n := by omega
              obtain ⟨b, o', Fi, cs, hA, _⟩ := RowR_elem hr hi
              subst hA
              refine Done.put hR (RAV_elt e hi) ?_ h
              have hmn : m < (n : Int) := by omega
              simp [execOp, ho, hx, hy, Instr.indexAt, asIntOf, run_underlying hu, h0, hmn, run_sizeB hs, Addr_add]
      · rename_i ty xs ys own ver par hb
        cases hz : elemSz X.C.P t ty.size with
        | false => rw [hz] at h; cases h
        | true =>
          rw [hz] at h
          simp only [cond_true] at h
          obtain ⟨hp, h⟩ := chkPar_run h
          obtain ⟨el, hu, hs⟩ := elemSize_run hz
          obtain ⟨hn, hrr⟩ := win_of hR hb hp e
          have hr := RR_pre hn hrr
          simp only [Pg.run] at h
          cases h0 : decide (0 ≤ m) with
          | false => rw [h0] at h; cases h
          | true =>
            rw [h0] at h
            simp only [cond_true] at h
            cases h1 : decide (m < (xs.length : Int)) with
            | false => rw [h1] at h; cases h
            | true =>
              rw [h1] at h
              simp only [cond_true] at h
              have h0 := of_decide_eq_true h0
              have h1 := of_decide_eq_true h1
              have hi : m.toNat < n := by omega
              obtain ⟨b, o', Fi, cs, hA, _⟩ := RowR_elem hr hi
              subst hA
              refine Done.put hR (RAV_elt e hi) ?_ h
              have hmn : m < (n : Int) := by omega
              simp [execOp, ho, hx, hy, Instr.indexAt, asIntOf, run_underlying hu, h0, hmn, run_sizeB hs, Addr_add]
      · cases h
    · cases h
  · rename_i id off
    obtain ⟨b, e, hx⟩ := RAV_sc.1 hv
    split at h
    · rename_i m el sz ha
      obtain ⟨hu, hs, hz⟩ := arrayOf_run ha
      obtain ⟨av2, hv2, h⟩ := opnd_run hR h
      split at h
      · rename_i q i'
        obtain ⟨hy, _⟩ := RAV_v.1 hv2
        obtain ⟨j, hj, e2, h2⟩ := among_run h (Nat.le_refl _)
        subst e2
        refine Done.put hR (RAV_ptr e) ?_ h2
        have h1 : (j : Int) < (m : Int) := by omega
        simp [execOp, ho, hx, hy, Instr.indexAt, asIntOf, run_underlying hu, hj, run_sizeB hs, Addr_add, Instr.sureAddr]
      · cases h
    · cases h
  · cases h

theorem op_index {t : TypeId} {x i : Operand} (ho : o.op = .index t x i) (hR : Rel X σ ι a w) (h : (opPg X.C nid o).run σ = some ((), σ')) : Done X o σ' a w := by
  simp only [opPg, ho] at h
  obtain ⟨av, hv, h⟩ := opnd_run hR h
  split at h
  · rename_i l
    obtain ⟨vs, hx, hl⟩ := hv
    split at h
    · rename_i m el sz ha
      obtain ⟨hu, hs, hz⟩ := arrayOf_run ha
      obtain ⟨av2, hv2, h⟩ := opnd_run hR h
      split at h
      · rename_i q i'
        obtain ⟨hy, _⟩ := RAV_v.1 hv2
        obtain ⟨j, hj, e2, h2⟩ := among_run h (Nat.le_refl _)
        subst e2
        split at h2
        · rename_i v hp
          obtain ⟨u, hu', hvu⟩ := part_part (w := w) hp hl
          refine Done.put hR hvu ?_ h2
          simp [execOp, ho, hx, hy, Instr.index, asIntOf, run_underlying hu, hj, run_sizeB hs, hu']
        · cases h2
      · cases h
    · cases h
  · cases h

theorem flatten_sub {l : List (List Nat)} {h k : Nat} : ∀ b ∈ ((l.take h).drop k).flatten, b ∈ l.flatten := by
  intro b hb
  obtain ⟨m, hm, hb⟩ := List.mem_flatten.1 hb
  exact List.mem_flatten.2 ⟨m, List.mem_of_mem_take (List.mem_of_mem_drop hm), hb⟩

/-- a part of a row -/
theorem RR_part {own : Bool} {t : Ty} {xs : List t.T} {A : Option Addr} {n c : Nat} {F : List Nat} (hr : RR own w t xs A n c F) {l h m : Nat} (hl : l ≤ h) (hh : h ≤ n) (hm : h ≤ m) :
    ∃ F', (∀ b ∈ F', b ∈ F) ∧ RR false w t ((xs.take h).drop l) (if m = l then A else A.map (·.add (l * t.size))) (h - l) (m - l) F' := by
  obtain ⟨hn, hc, hr⟩ := hr
  have hlen : ((xs.take h).drop l).length = h - l := by rw [List.length_drop, List.length_take]; omega
  by_cases he : h = l
  · refine ⟨[], by simp, by rw [hlen], by omega, .inl ⟨?_, rfl, by simp⟩⟩
    apply List.eq_nil_of_length_eq_zero; rw [hlen]; omega
  · rcases hr with hr | ⟨b, o, arr, e, fr, Fs, G, hA, hb, hf, hs, hF, hG, hFs, hel⟩
    · rw [hr.1] at hn; simp at hn; omega
    · refine ⟨b :: ((Fs.take h).drop l).flatten, ?_, by rw [hlen], by omega, .inr ⟨b, o + l * t.size, arr, e, fr, (Fs.take h).drop l, [], ?_, hb, by simp, ?_, by simp, by simp, ?_, ?_⟩⟩
      · intro k hk
        rw [hF]
        rcases List.mem_cons.1 hk with rfl | hk
        · simp
        · exact List.mem_cons_of_mem _ (List.mem_append.2 (.inl (flatten_sub k hk)))
      · have : m ≠ l := by omega
        simp [this, hA, Addr_add]
      · simp only [Bool.false_eq_true, if_false]
        refine Nat.le_trans ?_ hs
        rw [Nat.add_assoc, ← Nat.add_mul]
        refine Nat.add_le_add_left (Nat.mul_le_mul_right _ ?_) _
        cases own <;> simp <;> omega
      · rw [hlen, List.length_drop, List.length_take]; omega
      · intro i x Fi hx hFi
        have hx' := hx
        rw [List.getElem?_drop, List.getElem?_take] at hx hFi
        split at hx
        · rename_i hlt
          rw [if_pos hlt] at hFi
          have := hel (l + i) x Fi hx hFi
          refine RE_mono (own := own) (by simp) (fun _ _ => rfl) ?_
          rw [show o + l * t.size + i * t.size = o + (l + i) * t.size by rw [Nat.add_mul]; omega]
          exact this
        · cases hx

theorem optInt_run (hR : Rel X σ ι a w) {x : Option Operand} {d : Int} {k : Int → Pg α} {r : α × St} (h : (optInt x d k).run σ = some r) :
    ∃ n, (k n).run σ = some r ∧ (x = none ∧ n = d ∨ ∃ o q, x = some o ∧ a.eval o = .int q n) := by
  unfold optInt at h
  cases x with
  | none => exact ⟨d, h, .inl ⟨rfl, rfl⟩⟩
  | some o =>
    obtain ⟨av, hv, h⟩ := opnd_run hR h
    split at h
    · rename_i q n
      exact ⟨n, h, .inr ⟨o, q, rfl, (RAV_v.1 hv).1⟩⟩
    · cases h

theorem brIf_run {c b : Bool} {k : Pg α} {r : α × St} (h : (brIf c b k).run σ = some r) : (c = true → b = true) ∧ k.run σ = some r := by
  unfold brIf at h
  cases c with
  | false => exact ⟨by simp, h⟩
  | true =>
    simp only [cond_true, Pg.run] at h
    cases b with
    | false => cases h
    | true => exact ⟨fun _ => rfl, h⟩

theorem run_sliceBound {P : Program} {q : IntKind} {i : Int} {y : Nat} {code : BoundsCode} {w : World} (h0 : 0 ≤ i) (h1 : i ≤ (y : Int)) : (Instr.sliceBound (.int q i) y code).run P w = .ok i.toNat w := by
  simp [Instr.sliceBound, asIntOf, h0, h1]

theorem plainScs_run : ∀ {l : List Sc} {xs vs : List Value}, plainScs l = some xs → F2 (RSc ι) l vs → vs = xs
  | [], xs, [], h, _ => by simpa [plainScs] using h
  | c :: l, xs, v :: vs, h, hl => by
    unfold plainScs at h
    split at h
    · rename_i x ys hx hys
      cases h
      cases c <;> simp [plainSc] at hx
      subst hx
      rw [plainScs_run hys hl.2, hl.1.1]
    · cases h

theorem plainAV_run {av : AV} {x v : Value} (h : plainAV av = some x) (hv : RAV ι av v) : v = x := by
  unfold plainAV at h
  split at h
  · cases h; exact (RAV_v.1 hv).1
  · rename_i l
    split at h
    · rename_i xs hx
      cases h
      obtain ⟨vs, rfl, hl⟩ := hv
      have := plainScs_run hx hl
      congr 1
      rw [← this]
    · cases h
  · cases h

theorem plainAVs_run : ∀ {l : List AV} {xs vs : List Value}, plainAVs l = some xs → F2 (RAV ι) l vs → vs = xs
  | [], xs, [], h, _ => by simpa [plainAVs] using h
  | c :: l, xs, v :: vs, h, hl => by
    unfold plainAVs at h
    split at h
    · rename_i x ys hx hys
      cases h
      rw [plainAVs_run hys hl.2, plainAV_run hx hl.1]
    · cases h

theorem look_run {ρ : Operand → Value} (hc : ∀ v, ρ (.const v) = v) (hg : ∀ g, ρ (.global g) = .pointer (some ⟨g, 0, none⟩)) (hf : ∀ f, ρ (.func f) = .func (.func f) #[] #[]) :
    ∀ (l : List Operand) (x : Operand), x ∈ l → look l (l.map ρ) x = ρ x
  | y :: l, .tmp u, h => by
    cases y with
    | tmp t =>
      simp only [List.map_cons, look]
      cases hb : Nat.beq t u with
      | true => rw [Nat.eq_of_beq_eq_true hb]; rfl
      | false =>
        simp only [cond_false]
        rcases List.mem_cons.1 h with e | h
        · cases e; rw [Nat.beq_refl] at hb; cases hb
        · exact look_run hc hg hf l _ h
    | _ =>
      simp only [List.map_cons, look]
      rcases List.mem_cons.1 h with e | h
      · cases e
      · exact look_run hc hg hf l _ h
  | y :: l, .const v, h => by cases y <;> simp [look, hc]
  | y :: l, .global g, h => by cases y <;> simp [look, hg]
  | y :: l, .func f, h => by cases y <;> simp [look, hf]

theorem pureNext_run {P : Program} : ∀ {n : Nat} {s : Sem Next} {v : Value}, pureNext P n s = some v → ∀ w, s.run P w = .ok (.value v) w
  | n, .pure x, v, h, w => by
    cases x <;> (cases n <;> simp [pureNext] at h) <;> (subst h; rfl)
  | n + 1, .program k, v, h, w => by
    simp only [pureNext] at h
    exact pureNext_run h w
  | n + 1, .mark _ k, v, h, w => by
    simp only [pureNext] at h
    exact pureNext_run (s := k) h w
  | 0, .program _, v, h, w => by simp [pureNext] at h
  | 0, .mark _ _, v, h, w => by simp [pureNext] at h
  | n, .load _ _ _, v, h, w => by cases n <;> simp [pureNext] at h
  | n, .store _ _ _ _, v, h, w => by cases n <;> simp [pureNext] at h
  | n, .new _ _, v, h, w => by cases n <;> simp [pureNext] at h
  | n, .shape _ _, v, h, w => by cases n <;> simp [pureNext] at h
  | n, .freeze _ _ _, v, h, w => by cases n <;> simp [pureNext] at h
  | n, .frozen _ _, v, h, w => by cases n <;> simp [pureNext] at h
  | n, .getObj _ _, v, h, w => by cases n <;> simp [pureNext] at h
  | n, .setObj _ _ _, v, h, w => by cases n <;> simp [pureNext] at h
  | n, .choose _ _, v, h, w => by cases n <;> simp [pureNext] at h
  | n, .sys _ _, v, h, w => by cases n <;> simp [pureNext] at h
  | n, .halt _, v, h, w => by cases n <;> simp [pureNext] at h

theorem plain_run (hR : Rel X σ ι a w) (hs : ∀ cs b, o.op ≠ .select cs b) {k : AV → Pg α} {r : α × St} (h : (plainPg X.C o k).run σ = some r) :
    ∃ av u, (execOp a.eval o).run X.C.P w = .ok (.value u) w ∧ RAV ι av u ∧ (k av).run σ = some r := by
  unfold plainPg at h
  obtain ⟨avs, hv, h⟩ := opnds_run hR h
  split at h
  · cases h
  · rename_i xs hx
    have e := plainAVs_run hx hv
    subst e
    have hcong : execOp (look o.op.operands.toList (o.op.operands.toList.map a.eval)) o = execOp a.eval o :=
      execOp_congr o hs (fun x hx => look_run (fun _ => rfl) (fun _ => rfl) (fun _ => rfl) _ _ (by simpa using hx))
    rw [hcong] at h
    split at h
    · cases h
    · rename_i cs hp
      cases hc : cs.toList.all (·.oneCell') with
      | false => rw [hc] at h; cases h
      | true =>
        rw [hc] at h
        exact ⟨.one (cs.toList.map .v) true, _, pureNext_run hp w, ⟨cs, rfl, F2_plain hc⟩, h⟩
    · rename_i v hnt hna hp
      refine ⟨_, _, pureNext_run hp w, RAV_v.2 ⟨rfl, ?_⟩, h⟩
      cases v with
      | tuple vs => exact (hnt vs rfl).elim
      | agg cs => exact (hna cs rfl).elim
      | _ => rfl
    · cases h

theorem win_run {t : TypeId} {x : Operand} {hi : Option Operand} {ty : Ty} {xs : List ty.T} {id n c : Nat} {A : Option Addr} {F : List Nat} (ho : o.op = .slice t x none hi none) (hR : Rel X σ ι a w) (hex : (σ.H id).excl = true) (e : ι id = .row A n c F)
    (hrr : RR true w ty xs A xs.length c F) (hx : a.eval x = .slice A n c) (hz : elemSz X.C.P t ty.size = true)
    (h : (optInt hi (n : Int) fun h => .br (decide (0 ≤ h)) (.br (decide (h ≤ (xs.length : Int))) (.putB id .dead (newB nid (.win ty (xs.take h.toNat) (xs.drop h.toNat) true 0 []) (putD X.C o.dst (.sc (.sl nid)) (.ret ())))) .fail) .fail : Pg Unit).run σ = some ((), σ')) : Done X o σ' a w := by
  obtain ⟨el, hu, hs⟩ := elemSize_run hz
  obtain ⟨hh, h, hhi⟩ := optInt_run hR h
  simp only [Pg.run] at h
  cases h0 : decide (0 ≤ hh) with
  | false => rw [h0] at h; cases h
  | true =>
    rw [h0] at h
    simp only [cond_true] at h
    cases h1 : decide (hh ≤ (xs.length : Int)) with
    | false => rw [h1] at h; cases h
    | true =>
      rw [h1] at h
      simp only [cond_true, Pg.run] at h
      have h0 := of_decide_eq_true h0
      have h1 := of_decide_eq_true h1
      have hc := hrr.2.1
      have hR1 := hR.kill (id := id) (by intro e; rw [e] at hex; cases hex)
      have hF1 := Free.nil.give hR hex (F := [])
      rw [e] at hF1
      simp only [Home.foot, List.nil_append] at hF1
      obtain ⟨hun, h⟩ := newB_run h
      have hR2 := (hR1.take (F := F) (G := []) (by simpa using hF1) hun (blk := .win ty (xs.take hh.toNat) (xs.drop hh.toNat) true 0 []) (home := .row A hh.toNat c F) rfl
        ⟨_, _, _, _, rfl, by rw [List.length_take]; omega, fun _ => by rw [List.take_append_drop]; exact hrr⟩ rfl (by simp)).1
      refine Done.put hR2 (RAV_sl (upd_same _ _ _)) ?_ h
      have hA : (if c = 0 then A else A.map (·.add 0)) = A := by
        obtain ⟨_, _, h | ⟨b, o, arr, el, fr, Fs, G, hA, _⟩⟩ := hrr
        · rw [if_pos (h.2.2 rfl)]
        · rw [hA]; simp [Addr_add]
      have hB : (Instr.sliceBounds true n c none (hi.map a.eval) none).run X.C.P w = .ok (0, hh.toNat, c) w := by
        unfold Instr.sliceBounds
        rcases hhi with ⟨rfl, rfl⟩ | ⟨q, k, rfl, hh1⟩
        · simp
        · simp [hh1, run_sliceBound (show 0 ≤ hh by omega) (show hh ≤ ((c : Nat) : Int) by omega)]
      simp [execOp, ho, hx, Instr.sliceAt, Instr.slice, run_underlying hu, hB, run_sizeB hs]
      intro hc0
      rw [if_neg hc0] at hA
      exact hA

theorem op_slice {t : TypeId} {x : Operand} {lo hi mx : Option Operand} (ho : o.op = .slice t x lo hi mx) (hR : Rel X σ ι a w) (h : (opPg X.C nid o).run σ = some ((), σ')) : Done X o σ' a w := by
  simp only [opPg, ho] at h
  obtain ⟨av, hv, h⟩ := opnd_run hR h
  split at h
  · rename_i id
    obtain ⟨A, n, c, F, e, hx⟩ := RAV_sc.1 hv
    replace h := getB_run h
    cases hw : (X.C.win && (ownVer (σ.H id)).isSome && lo.isNone && mx.isNone) with
    | true =>
      rw [hw] at h
      simp only [cond_true] at h
      rw [Bool.and_eq_true, Bool.and_eq_true] at hw
      have hlo : lo = none := by simpa using hw.1.2
      have hmx : mx = none := by simpa using hw.2
      have h9 := h
      clear h
      subst hlo; subst hmx
      unfold winPg at h9
      split at h9
      · rename_i ty xs ver hb
        cases hz : elemSz X.C.P t ty.size with
        | false => rw [hz] at h9; cases h9
        | true =>
          rw [hz] at h9
          simp only [cond_true] at h9
          have hr := row_of hR hb (by intro q hq; simp at hq) e
          have hn := hr.1
          subst hn
          exact win_run ho hR (by rw [hb]; rfl) e hr hx hz h9
      · rename_i ty xs ys ver hb
        cases hz : elemSz X.C.P t ty.size with
        | false => rw [hz] at h9; cases h9
        | true =>
          rw [hz] at h9
          simp only [cond_true] at h9
          obtain ⟨hn, hr⟩ := win_of hR hb (by intro q hq; simp at hq) e
          subst hn
          exact win_run ho hR (by rw [hb]; rfl) e hr hx hz h9
      · cases h9
    | false =>
      rw [hw] at h
      simp only [cond_false] at h
      split at h
      · rename_i ty xs own ver par hb
        cases hz : (elemSz X.C.P t ty.size && (hi.isSome || mx.isNone)) with
        | false => rw [hz] at h; cases h
        | true =>
          rw [hz] at h
          simp only [cond_true] at h
          obtain ⟨hp, h⟩ := chkPar_run h
          rw [Bool.and_eq_true] at hz
          obtain ⟨el, hu, hs⟩ := elemSize_run hz.1
          have hr := row_of hR hb hp e
          obtain ⟨l, h, hl⟩ := optInt_run hR h
          obtain ⟨hh, h, hhi⟩ := optInt_run hR h
          obtain ⟨m, h, hm⟩ := optInt_run hR h
          obtain ⟨b1, h⟩ := brIf_run h
          obtain ⟨b2, h⟩ := brIf_run h
          obtain ⟨b3, h⟩ := brIf_run h
          obtain ⟨b4, h⟩ := brIf_run h
          obtain ⟨hun, h⟩ := newB_run h
          have hn := hr.1
          have hc := hr.2.1
          have l0 : 0 ≤ l := by
            rcases hl with ⟨rfl, rfl⟩ | ⟨q, k, rfl, _⟩
            · exact Int.le_refl 0
            · exact of_decide_eq_true (b1 rfl)
          have hm' : m ≤ (xs.length : Int) := by
            rcases hm with ⟨rfl, rfl⟩ | ⟨q, k, rfl, _⟩
            · exact Int.le_refl _
            · exact of_decide_eq_true (b4 rfl)
          have hhm : hh ≤ m := by
            rcases hm with ⟨rfl, rfl⟩ | ⟨q, k, rfl, _⟩
            · rcases hhi with ⟨rfl, rfl⟩ | ⟨q, k, rfl, _⟩
              · exact Int.le_refl _
              · exact of_decide_eq_true (b3 (by simp))
            · exact of_decide_eq_true (b3 (by simp))
          have hlh : l ≤ hh := by
            rcases hl with ⟨rfl, rfl⟩ | ⟨q, k, rfl, _⟩
            · rcases hhi with ⟨rfl, rfl⟩ | ⟨q, k, rfl, _⟩
              · omega
              · exact of_decide_eq_true (b2 (by simp))
            · exact of_decide_eq_true (b2 (by simp))
          -- the capacity's end
          let M : Nat := match mx with | none => c | some _ => m.toNat
          have hM : hh.toNat ≤ M := by
            rcases hm with ⟨rfl, rfl⟩ | ⟨q, k, rfl, _⟩
            · simp only [M]; omega
            · simp only [M]; omega
          obtain ⟨F', hF', hr'⟩ := RR_part hr (l := l.toNat) (h := hh.toNat) (m := M) (by omega) (by omega) hM
          have hpar' : ParOk σ.H ((bif own then [(id, ver)] else []) ++ par) := by
            cases own with
            | true =>
              intro q hq
              rcases List.mem_append.1 hq with hq | hq
              · simp at hq; subst hq; exact ⟨ty, xs, par, hb⟩
              · exact hp q hq
            | false => simpa using hp
          have hR' := hR.newId hun (blk := .row ty ((xs.take hh.toNat).drop l.toNat) false 0 ((bif own then [(id, ver)] else []) ++ par))
            (home := .row (if M = l.toNat then A else A.map (·.add (l.toNat * ty.size))) (hh.toNat - l.toNat) (M - l.toNat) F') (w' := w) (WLe.refl _) (fun _ _ => rfl)
            (fun _ => ⟨_, _, _, _, rfl, fun _ => hr'⟩) (fun _ H w ι' _ hf => ⟨_, _, _, _, rfl, fun h => (hf h).elim⟩)
            (fun _ b hb' => hR.lt id (by rw [hb]; rfl) b (by rw [e]; exact hF' b hb')) (fun h => by cases h)
            (fun k hk _ _ hr u hu hu2 => by
              have hk2 : k ∉ par.map (·.1) := fun hm => hr (by simp only [Blk.par]; rw [List.map_append]; exact List.mem_append.2 (.inr hm))
              have hk3 : k ≠ id := by
                cases hq : own with
                | true => intro e; apply hr; simp [Blk.par, e, hq]
                | false => rintro rfl; rw [hb, hq] at hk; cases hk
              have := hR.sep k id hk3 hk (by rw [hb]; rfl) (by rw [hb]; exact hp) (by rw [hb]; exact hk2) u hu
              rw [e] at this
              exact this (hF' u hu2))
            (fun q hq => by obtain ⟨t, x, p, e⟩ := hpar' q hq; rw [e]; simp) (fun q hq ver e' => by obtain ⟨t, x, p, e⟩ := hpar' q hq; rw [e] at e'; cases e'; exact Nat.le_refl _) (by simp)
          refine Done.put hR' (RAV_sl (upd_same _ _ _)) ?_ h
          have hB : (Instr.sliceBounds true n c (lo.map a.eval) (hi.map a.eval) (mx.map a.eval)).run X.C.P w = .ok (l.toNat, hh.toNat, M) w := by
            unfold Instr.sliceBounds
            rcases hm with ⟨rfl, rfl⟩ | ⟨q, k, rfl, hm1⟩
            · rcases hhi with ⟨rfl, rfl⟩ | ⟨q, k, rfl, hh1⟩
              · rcases hl with ⟨rfl, rfl⟩ | ⟨q', k', rfl, hl1⟩
                · simp [M, hn]
                · simp [M, hl1, run_sliceBound l0 (show l ≤ ((n : Nat) : Int) by omega), hn]
                  rw [← hn, run_sliceBound l0 (by omega)]; rfl
              · rcases hl with ⟨rfl, rfl⟩ | ⟨q', k', rfl, hl1⟩
                · simp [M, hh1, run_sliceBound (show 0 ≤ hh by omega) (show hh ≤ ((c : Nat) : Int) by omega)]
                · simp [M, hh1, hl1, run_sliceBound (show 0 ≤ hh by omega) (show hh ≤ ((c : Nat) : Int) by omega), run_sliceBound l0 (show l ≤ ((hh.toNat : Nat) : Int) by omega)]
            · rcases hhi with ⟨rfl, rfl⟩ | ⟨q, k, rfl, hh1⟩
              · exact absurd hz.2 (by simp)
              · rcases hl with ⟨rfl, rfl⟩ | ⟨q', k', rfl, hl1⟩
                · simp [M, hh1, hm1, run_sliceBound (show 0 ≤ m by omega) (show m ≤ ((c : Nat) : Int) by omega), run_sliceBound (show 0 ≤ hh by omega) (show hh ≤ ((m.toNat : Nat) : Int) by omega)]
                · simp [M, hh1, hl1, hm1, run_sliceBound (show 0 ≤ m by omega) (show m ≤ ((c : Nat) : Int) by omega), run_sliceBound (show 0 ≤ hh by omega) (show hh ≤ ((m.toNat : Nat) : Int) by omega), run_sliceBound l0 (show l ≤ ((hh.toNat : Nat) : Int) by omega)]
          simp [execOp, ho, hx, Instr.sliceAt, Instr.slice, run_underlying hu, hB, run_sizeB hs]
      · rename_i ty xs ys ver par hb
        cases hz : (elemSz X.C.P t ty.size && mx.isNone) with
        | false => rw [hz] at h; cases h
        | true =>
          rw [hz] at h
          simp only [cond_true] at h
          obtain ⟨hp, h⟩ := chkPar_run h
          rw [Bool.and_eq_true] at hz
          obtain ⟨el, hu, hs⟩ := elemSize_run hz.1
          have hmx : mx = none := by simpa using hz.2
          obtain ⟨hn, hr⟩ := win_of hR hb hp e
          obtain ⟨l, h, hl⟩ := optInt_run hR h
          obtain ⟨hh, h, hhi⟩ := optInt_run hR h
          obtain ⟨b1, h⟩ := brIf_run h
          obtain ⟨b2, h⟩ := brIf_run h
          obtain ⟨b3, h⟩ := brIf_run h
          obtain ⟨hun, h9⟩ := newB_run h
          clear h
          subst hmx
          have hc := hr.2.1
          have hln : (xs ++ ys).length = xs.length + ys.length := List.length_append
          have l0 : 0 ≤ l := by
            rcases hl with ⟨rfl, rfl⟩ | ⟨q, k, rfl, _⟩
            · exact Int.le_refl 0
            · exact of_decide_eq_true (b1 rfl)
          have hhm : hh ≤ ((xs ++ ys).length : Int) := by
            rcases hhi with ⟨rfl, rfl⟩ | ⟨q, k, rfl, _⟩
            · omega
            · exact of_decide_eq_true (b3 (by simp))
          have hlh : l ≤ hh := by
            rcases hl with ⟨rfl, rfl⟩ | ⟨q, k, rfl, _⟩
            · rcases hhi with ⟨rfl, rfl⟩ | ⟨q, k, rfl, _⟩
              · omega
              · exact of_decide_eq_true (b2 (by simp))
            · exact of_decide_eq_true (b2 (by simp))
          obtain ⟨F', hF', hr'⟩ := RR_part hr (l := l.toNat) (h := hh.toNat) (m := c) (by omega) (by omega) (by omega)
          have hR' := hR.newId hun (blk := .row ty (((xs ++ ys).take hh.toNat).drop l.toNat) false 0 par)
            (home := .row (if c = l.toNat then A else A.map (·.add (l.toNat * ty.size))) (hh.toNat - l.toNat) (c - l.toNat) F') (w' := w) (WLe.refl _) (fun _ _ => rfl)
            (fun _ => ⟨_, _, _, _, rfl, fun _ => hr'⟩) (fun _ H w ι' _ hf => ⟨_, _, _, _, rfl, fun h => (hf h).elim⟩)
            (fun _ b hb' => hR.lt id (by rw [hb]; rfl) b (by rw [e]; exact hF' b hb')) (fun h => by cases h)
            (fun k hk _ _ hr u hu hu2 => by
              have hk3 : k ≠ id := by
                rintro rfl; rw [hb] at hk; cases hk
              have := hR.sep k id hk3 hk (by rw [hb]; rfl) (by rw [hb]; exact hp) (by rw [hb]; exact hr) u hu
              rw [e] at this
              exact this (hF' u hu2))
            (fun q hq => by obtain ⟨t, x, p, e⟩ := hp q hq; rw [e]; simp) (fun q hq ver e' => by obtain ⟨t, x, p, e⟩ := hp q hq; rw [e] at e'; cases e'; exact Nat.le_refl _) (by simp)
          refine Done.put hR' (RAV_sl (upd_same _ _ _)) ?_ h9
          have hB : (Instr.sliceBounds true n c (lo.map a.eval) (hi.map a.eval) none).run X.C.P w = .ok (l.toNat, hh.toNat, c) w := by
            unfold Instr.sliceBounds
            rcases hhi with ⟨rfl, rfl⟩ | ⟨q, k, rfl, hh1⟩
            · rcases hl with ⟨rfl, rfl⟩ | ⟨q', k', rfl, hl1⟩
              · simp [hn]
              · simp [hl1, run_sliceBound l0 (show l ≤ ((n : Nat) : Int) by omega), hn]
                rw [← hn, run_sliceBound l0 (by omega)]; rfl
            · rcases hl with ⟨rfl, rfl⟩ | ⟨q', k', rfl, hl1⟩
              · simp [hh1, run_sliceBound (show 0 ≤ hh by omega) (show hh ≤ ((c : Nat) : Int) by omega)]
              · simp [hh1, hl1, run_sliceBound (show 0 ≤ hh by omega) (show hh ≤ ((c : Nat) : Int) by omega), run_sliceBound l0 (show l ≤ ((hh.toNat : Nat) : Int) by omega)]
          simp [execOp, ho, hx, Instr.sliceAt, Instr.slice, run_underlying hu, hB, run_sizeB hs]
      · cases h
  · obtain ⟨av', u, he, hv', h⟩ := plain_run hR (by rw [ho]; simp) h
    exact Done.put hR hv' he h
end
end Go.Ev
