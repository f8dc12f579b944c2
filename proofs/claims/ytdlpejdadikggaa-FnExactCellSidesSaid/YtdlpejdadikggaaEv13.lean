/- A part of a verified evaluator of the model's code: what it evaluates is what a call returns; no condition beyond the theorems' own hypotheses. -/
import Derived.Test.YtdlpejdadikggaaEv12
set_option linter.unusedVariables false
namespace Go.Ev
open Go

/-! What is known of the types. -/
def zeroV : Ty → List Value
  | .unit => []
  | .int k => [.int k 0]
  | .bool => [.bool false]
  | .str => [.string .empty]
  | .pair a b => zeroV a ++ zeroV b
  | .sl _ => [.slice none 0 0]
  | .rm _ => [.slice none 0 0]

def TyOk (P : Program) (e : TypeId) (t : Ty) : Prop := ∃ i z, P.info? e = some i ∧ i.size = t.size ∧ i.zero = some z ∧ z.cells.toList = zeroV t

theorem RE_zero {own : Bool} {w : World} : ∀ (t : Ty), RE own w t t.dflt (zeroV t) []
  | .unit => ⟨rfl, rfl⟩
  | .int k => ⟨rfl, rfl⟩
  | .bool => ⟨rfl, rfl⟩
  | .str => ⟨rfl, rfl⟩
  | .pair a b => ⟨zeroV a, zeroV b, [], [], rfl, rfl, RE_zero a, RE_zero b⟩
  | .sl t => ⟨none, 0, 0, rfl, rfl, Nat.le_refl _, .inl ⟨rfl, rfl, fun _ => rfl⟩⟩
  | .rm t => ⟨none, 0, 0, rfl, rfl, rfl, Nat.le_refl _, .inl ⟨rfl, rfl, fun _ => rfl⟩⟩

theorem elemT_run {C : Cfg} {t e : TypeId} {ty : Ty} (h : elemT C t = some (e, ty)) : C.P.underlying t = some (.slice e) ∧ C.ty e = some ty := by
  unfold elemT at h
  split at h
  · rename_i e' he
    split at h
    · rename_i ty' ht
      cases h
      exact ⟨sliceOf_run he, ht⟩
    · cases h
  · cases h

theorem bytesOk_run {P : Program} {e : TypeId} (h : bytesOk P e = true) : ∃ i, P.info? e = some i ∧ i.bytes ≤ 128 ∧ 1 ≤ i.bytes := by
  unfold bytesOk at h
  split at h
  · rename_i i hi
    rw [Bool.and_eq_true] at h
    exact ⟨i, hi, Nat.le_of_ble_eq_true h.1, Nat.le_of_ble_eq_true h.2⟩
  · cases h

section
variable {X : Ctx} {σ σ' : St} {ι : Nat → Home} {a : Act} {w : World} {α : Type} {o : Oper} {nid : Nat}

/-- a row of one's own in a new block -/
theorem Rel.newRow (hR : Rel X σ ι a w) {G : List Nat} (hF : Free X σ ι w G) {id : Nat} (hu : σ.H id = .unborn) {t : Ty} {xs : List t.T} {cs : List Value} {Fs : List (List Nat)} {arr : Array Value} {e : TypeId} {c : Nat} {w' : World}
    (hw' : w'.heap = w.heap.push (.cells arr e)) (hio : w'.os = w.os ∧ w'.output = w.output ∧ w'.tape = w.tape) (hl : RowL true w t xs cs Fs) (hcs : arr.toList.take cs.length = cs) (hc : xs.length ≤ c) (hs : c * t.size ≤ arr.size) (hG : ∀ b ∈ Fs.flatten, b ∈ G) (hn : Fs.flatten.Nodup) :
    Rel X (σ.setH id (.row t xs true 0 [])) (upd ι id (.row (some ⟨w.heap.size, 0, none⟩) xs.length c (w.heap.size :: Fs.flatten))) a w' := by
  have hsz : w.heap.size ≤ w'.heap.size := by rw [hw']; simp
  have hold : ∀ b, b < w.heap.size → w'.heap[b]? = w.heap[b]? := fun b hb => by rw [hw']; simp [Array.getElem?_push, Nat.ne_of_lt hb]
  have hR1 := hR.grow ⟨hsz, hio.1, hio.2.1, hio.2.2⟩ hold
  have hF1 := hF.grow (G := [w.heap.size]) hR hsz (by simp) (by simp [hw'])
  have hlt : w.heap.size ∉ Fs.flatten := fun hm => Nat.lt_irrefl _ (hF.lt _ (hG _ hm))
  have hF2 : Free X σ ι w' ((w.heap.size :: Fs.flatten) ++ []) := by
    rw [List.append_nil]
    refine hF1.sub (fun b hb => ?_) (List.nodup_cons.2 ⟨hlt, hn⟩)
    rcases List.mem_cons.1 hb with rfl | hb
    · simp
    · exact List.mem_append.2 (.inl (hG b hb))
  have hl' : RowL true w' t xs cs Fs := hl.frame (fun x => x) (fun b hb => hold b (hF.lt b (hG b hb)))
  have hrr : RR true w' t xs (some ⟨w.heap.size, 0, none⟩) xs.length c (w.heap.size :: Fs.flatten) :=
    RR_of (arr := arr) (e := e) hl' (by rw [hw']; simp) (by simpa using hcs) hc (by simpa using hs)
  exact (hR1.take hF2 hu (blk := .row t xs true 0 []) (home := .row (some ⟨w.heap.size, 0, none⟩) xs.length c (w.heap.size :: Fs.flatten)) rfl ⟨_, _, _, _, rfl, fun _ => hrr⟩ rfl (by simp)).1

theorem periodic {z : Array Value} {n i sz : Nat} (hz : z.size = sz) (h0 : 0 < sz) (h : (i + 1) * sz ≤ n) :
    ((((Array.range n).map (fun j => z[j % z.size]!)).toList.drop (i * sz)).take sz) = z.toList := by
  rw [Nat.add_mul, Nat.one_mul] at h
  apply List.ext_getElem?
  intro j
  rw [List.getElem?_take]
  split
  · rename_i hj
    rw [List.getElem?_drop]
    simp only [Array.toList_map, Array.toList_range, List.getElem?_map]
    rw [List.getElem?_range (by omega)]
    simp only [Option.map_some]
    rw [hz, show (i * sz + j) % sz = j by rw [Nat.add_comm, Nat.add_mul_mod_self_right]; exact Nat.mod_eq_of_lt hj]
    have hj' : j < z.size := by omega
    rw [getElem!_pos z j hj']
    simp [hj']
  · rw [List.getElem?_eq_none]
    simp
    omega

theorem sameOp_run {x y : Operand} (h : sameOp x y = true) : ∀ q n, a.eval x = .int q n → ∃ q', a.eval y = .int q' n := by
  intro q n hx
  unfold sameOp at h
  split at h
  · rename_i t u
    rw [Nat.eq_of_beq_eq_true h] at hx
    exact ⟨q, hx⟩
  · rename_i q1 m q2 m'
    simp [Act.eval] at hx
    have : m = m' := by simpa using h
    exact ⟨q2, by simp [Act.eval, ← this, hx.2]⟩
  · cases h

theorem wrap_small {m : Int} (h0 : 0 ≤ m) (h1 : m < 9223372036854775808) : IntKind.i64.wrap m = m := by
  simp [IntKind.wrap, IntKind.signed, IntKind.bits]
  omega

theorem op_makeSlice (hty : ∀ e t, X.C.ty e = some t → TyOk X.C.P e t) {t : TypeId} {x y : Operand} (ho : o.op = .makeSlice t x y) (hR : Rel X σ ι a w) (h : (opPg X.C nid o).run σ = some ((), σ')) : Done X o σ' a w := by
  simp only [opPg, ho] at h
  split at h
  · rename_i e ty he
    obtain ⟨hu, hte⟩ := elemT_run he
    obtain ⟨inf, z, hi, hsz, hz, hzc⟩ := hty e ty hte
    cases hc : (sameOp x y && bytesOk X.C.P e && Nat.ble 1 ty.size) with
    | false => rw [hc] at h; cases h
    | true =>
      rw [hc] at h
      simp only [cond_true] at h
      rw [Bool.and_eq_true, Bool.and_eq_true] at hc
      obtain ⟨i', hi', hby, hby1⟩ := bytesOk_run hc.1.2
      rw [hi] at hi'
      cases hi'
      have h1 : 1 ≤ ty.size := Nat.le_of_ble_eq_true hc.2
      obtain ⟨av, hv, h⟩ := opnd_run hR h
      split at h
      · rename_i q m
        obtain ⟨hx, _⟩ := RAV_v.1 hv
        obtain ⟨q', hy⟩ := sameOp_run hc.1.1 q m hx
        simp only [Pg.run] at h
        cases h0 : decide (0 ≤ m) with
        | false => rw [h0] at h; cases h
        | true =>
          rw [h0] at h
          simp only [cond_true] at h
          cases hl : decide (m < (lim : Int)) with
          | false => rw [hl] at h; cases h
          | true =>
            rw [hl] at h
            simp only [cond_true] at h
            have h0 := of_decide_eq_true h0
            have hl := of_decide_eq_true hl
            simp only [lim] at hl
            obtain ⟨hun, h⟩ := newB_run h
            have hzs : z.cells.size = ty.size := by
              have := RE_len (RE_zero (own := true) (w := w) ty)
              rw [← hzc] at this
              simpa using this
            let n := m.toNat * ty.size
            let arr : Array Value := (Array.range n).map (fun j => z.cells[j % z.cells.size]!)
            have harr : arr.size = n := by simp [arr]
            have hrl : RowL true w ty (List.replicate m.toNat ty.dflt) arr.toList (List.replicate m.toNat []) := by
              refine ⟨by simp [arr, n], by simp, fun i x Fi hx hF => ?_⟩
              have hi : i < m.toNat := by have := (List.getElem?_eq_some_iff.1 hx).1; simpa using this
              rw [List.getElem?_replicate, if_pos hi] at hx hF
              cases hx
              cases hF
              have := periodic (z := z.cells) (n := n) (i := i) hzs h1 (Nat.mul_le_mul_right _ hi)
              rw [this, hzc]
              exact RE_zero ty
            have hfl : (List.replicate m.toNat ([] : List Nat)).flatten = [] := by simp
            have hR' := hR.newRow (G := []) Free.nil hun (w' := { w with heap := w.heap.push (.cells arr e) }) rfl ⟨rfl, rfl, rfl⟩ hrl (List.take_length) (by simp) (show m.toNat * ty.size ≤ arr.size by rw [harr]; exact Nat.le_refl _) (by rw [hfl]; simp) (by rw [hfl]; simp)
            refine Done.put hR' (RAV_sl (upd_same _ _ _)) ?_ h
            have hw1 : IntKind.i64.wrap m = m := wrap_small h0 (by omega)
            have hb1 : ¬ ((inf.bytes : Int) * m > 2 ^ 48) := by
              have : (inf.bytes : Int) * m ≤ 128 * m := Int.mul_le_mul_of_nonneg_right (by omega) h0
              omega
            have hb2 : ¬ m < 0 := by omega
            simp only [execOp, ho, hx, hy, Sem.run_bind]
            have hms : (Instr.makeSlice t (.int q m) (.int q' m)).run X.C.P w = .ok (.slice (some ⟨w.heap.size, 0, none⟩) m.toNat m.toNat) { w with heap := w.heap.push (.cells arr e) } := by
              unfold Instr.makeSlice
              simp only [Sem.run_bind, run_underlying hu, Result.andThen_ok, asInt, asIntOf, Sem.run_pure, typeInfo, run_program, hi, hw1]
              rw [if_neg (by simp [hb1, hb2]; omega)]
              simp only [Sem.run_bind, run_askRoom, Result.andThen_ok, sizeOf, typeInfo, run_program, hi, Sem.run_pure, hsz]
              by_cases hn : m.toNat * ty.size = 0
              · rw [if_pos hn]
                have : arr = #[] := by simp [arr, n, hn]
                simp [newRow, this, hn]
                congr 2
                apply Array.ext'
                simp
              · rw [if_neg hn]
                simp [newRow, zeroValue, typeInfo, hi, hz, arr, n]
            rw [hms]
            simp
      · cases h
  · cases h

def cellsOf (g : Bool) (u : Value) : List Value := match g, u with
  | true, .agg vs => vs.toList
  | true, _ => []
  | false, u => [u]

theorem RVs_list {l : List Sc} {g : Bool} {u : Value} (h : RVs ι (l, g) u) : F2 (RSc ι) l (cellsOf g u) := by
  cases g with
  | true => obtain ⟨vs, rfl, hl⟩ := h; exact hl
  | false => obtain ⟨c, hl, hcu⟩ := h; simp only at hl; subst hl; exact ⟨hcu, trivial⟩

theorem cells_of {l : List Sc} {g : Bool} {u : Value} (h : RVs ι (l, g) u) (h1 : ∀ v ∈ cellsOf g u, v.oneCell' = true) : u.cells.toList = cellsOf g u := by
  cases g with
  | true => obtain ⟨vs, rfl, hl⟩ := h; rfl
  | false =>
    have : u.oneCell' = true := h1 u (by simp [cellsOf])
    cases u <;> simp_all [cellsOf, Value.cells, Value.oneCell']

theorem rdParts_run {t : Ty} {agg : Bool} {r : α × St} : ∀ {ps : List (Nat × AV)} {qs : List (Nat × Value)} {n : Nat} {σ : St} {G : List Nat} {k : List t.T → Pg α}, Rel X σ ι a w → Free X σ ι w G → (rdParts t agg n ps k).run σ = some r → F2 (PartR ι) ps qs →
    ∃ xs cs Fs σ1, RowL true w t xs cs Fs ∧ Rel X σ1 ι a w ∧ Free X σ1 ι w (G ++ Fs.flatten) ∧ (k xs).run σ1 = some r ∧ xs.length = ps.length ∧ qs.map (·.1) = List.range' n ps.length ∧
      cs = (qs.map fun q => q.2.cells.toList).flatten ∧ ∀ q ∈ qs, q.2.cells.size = t.size
  | [], [], n, σ, G, k, hR, hF, h, _ => ⟨[], [], [], σ, RowL.nil, hR, by simpa using hF, h, rfl, rfl, rfl, by simp⟩
  | (i, .one l g) :: ps, (i', u) :: qs, n, σ, G, k, hR, hF, h, hp => by
    obtain ⟨⟨e, hu⟩, hp⟩ := hp
    simp only at e
    subst e
    simp only [rdParts] at h
    cases hc : (Nat.beq n i && (agg == g)) with
    | false => rw [hc] at h; cases h
    | true =>
      rw [hc] at h
      simp only [cond_true] at h
      rw [Bool.and_eq_true] at hc
      have hni := Nat.eq_of_beq_eq_true hc.1
      obtain ⟨x, rest, σ1, vs1, vs2, F, hvs, hrest, hre, hR1, hF1, h⟩ := rdO_run hR hF h (RVs_list hu)
      split at h
      · cases vs2 with
        | cons _ _ => exact hrest.elim
        | nil =>
          rw [List.append_nil] at hvs
          have hcu := cells_of hu (by rw [hvs]; exact RE_one hre)
          rw [hvs] at hcu
          obtain ⟨xs, cs, Fs, σ2, hl, hR2, hF2, h, h1, h2, h3, h4⟩ := rdParts_run hR1 hF1 h hp
          have hlen := RE_len hre
          refine ⟨x :: xs, vs1 ++ cs, F :: Fs, σ2, ?_, hR2, by simpa using hF2, h, by simp [h1], ?_, by simp [hcu, h3], ?_⟩
          · have h0 : RowL true w t [x] vs1 [F] := by
              refine ⟨by simp [hlen], rfl, fun j y Fj hy hFj => ?_⟩
              cases j with
              | zero => simp at hy hFj; subst hy; subst hFj; simpa [← hlen] using hre
              | succ j => simp at hy
            simpa using h0.append hl
          · simp only [List.map_cons, h2, List.length_cons, List.range'_succ, hni]
          · intro q hq
            rcases List.mem_cons.1 hq with rfl | hq
            · have := congrArg List.length hcu
              simpa [hlen] using this
            · exact h4 q hq
      · cases h
  | (i, .tup l) :: ps, (i', u) :: qs, n, σ, G, k, hR, hF, h, hp => by simp [rdParts] at h; cases h

theorem dense_fold {off : Nat} : ∀ (vs : List Value) (k : Nat) (cells : Array Value), off + k + vs.length ≤ cells.size →
    ((vs.zipIdx k).foldl (fun (cs : Array Value) (p : Value × Nat) => cs.setIfInBounds (off + p.2) p.1) cells).toList = cells.toList.take (off + k) ++ vs ++ cells.toList.drop (off + k + vs.length)
  | [], k, cells, _ => by simp
  | v :: vs, k, cells, h => by
    simp only [List.length_cons] at h
    simp only [List.zipIdx_cons, List.foldl_cons]
    rw [dense_fold vs (k + 1) _ (by simp; omega), Array.toList_setIfInBounds]
    have := list_seg_step cells.toList (off + k) v vs (by simp; omega)
    rw [Nat.add_assoc off k 1] at this
    rw [this]
    simp [Nat.add_assoc]

/-- a slice literal all of whose parts are told, one after the other -/
theorem fill_dense {sz : Nat} : ∀ (qs : List (Nat × Value)) (n : Nat) (cells : Array Value), qs.map (·.1) = List.range' n qs.length → (∀ q ∈ qs, q.2.cells.size = sz) → cells.size = (n + qs.length) * sz →
    ∃ cells', Instr.fill (fun i => some (i * sz, sz)) cells qs = some cells' ∧ cells'.toList = cells.toList.take (n * sz) ++ (qs.map fun q => q.2.cells.toList).flatten
  | [], n, cells, _, _, hc => ⟨cells, rfl, by simp at hc; simp; rw [List.take_of_length_le]; simp [hc]⟩
  | (i, u) :: qs, n, cells, hi, hq, hc => by
    simp only [List.map_cons, List.length_cons, List.range'_succ, List.cons.injEq] at hi
    obtain ⟨rfl, hi⟩ := hi
    have hu := hq (i, u) (by simp)
    simp only at hu
    simp only [List.length_cons] at hc
    have hm : (i + 1) * sz ≤ cells.size := by rw [hc]; exact Nat.mul_le_mul_right _ (by omega)
    rw [Nat.add_mul, Nat.one_mul] at hm
    obtain ⟨cells', hf, hl⟩ := fill_dense qs (i + 1) (u.cells.zipIdx.foldl (fun (cs : Array Value) (p : Value × Nat) => cs.setIfInBounds (i * sz + p.2) p.1) cells) hi (fun q h => hq q (by simp [h])) (by
      rw [zip_fold, fill_size, hc]; congr 1; omega)
    refine ⟨cells', ?_, ?_⟩
    · simp only [Instr.fill]
      rw [if_neg (by simp [hu]; omega)]
      exact hf
    · rw [hl, zip_fold]
      have := dense_fold (off := i * sz) u.cells.toList 0 cells (by simp [hu]; omega)
      rw [Nat.add_zero] at this
      rw [this, List.map_cons, List.flatten_cons, Nat.add_mul, Nat.one_mul]
      rw [List.take_left' (by simp [hu]; omega), List.append_assoc]

theorem rdPartsS_run {t : Ty} {agg : Bool} (hR : Rel X σ ι a w) {r : α × St} : ∀ {ps : List (Nat × AV)} {qs : List (Nat × Value)} {n : Nat} {k : List t.T → List (Nat × Nat) → Pg α}, (rdPartsS t agg n ps k).run σ = some r → F2 (PartR ι) ps qs →
    ∃ xs p cs Fs, RowL false w t xs cs Fs ∧ SOk σ ι p Fs.flatten ∧ (k xs p).run σ = some r ∧ xs.length = ps.length ∧ qs.map (·.1) = List.range' n ps.length ∧
      cs = (qs.map fun q => q.2.cells.toList).flatten ∧ ∀ q ∈ qs, q.2.cells.size = t.size
  | [], [], n, k, h, _ => ⟨[], [], [], [], RowL.nil, SOk.nil, h, rfl, rfl, rfl, by simp⟩
  | (i, .one l g) :: ps, (i', u) :: qs, n, k, h, hp => by
    obtain ⟨⟨e, hu⟩, hp⟩ := hp
    simp only at e
    subst e
    simp only [rdPartsS] at h
    cases hc : (Nat.beq n i && (agg == g)) with
    | false => rw [hc] at h; cases h
    | true =>
      rw [hc] at h
      simp only [cond_true] at h
      rw [Bool.and_eq_true] at hc
      have hni := Nat.eq_of_beq_eq_true hc.1
      obtain ⟨x, rest, p, vs1, vs2, F, hvs, hrest, hre, hs, h⟩ := rdS_run hR h (RVs_list hu)
      split at h
      · cases vs2 with
        | cons _ _ => exact hrest.elim
        | nil =>
          rw [List.append_nil] at hvs
          have hcu := cells_of hu (by rw [hvs]; exact RE_one hre)
          rw [hvs] at hcu
          obtain ⟨xs, p', cs, Fs, hl, hs', h, h1, h2, h3, h4⟩ := rdPartsS_run hR h hp
          have hlen := RE_len hre
          refine ⟨x :: xs, p ++ p', vs1 ++ cs, F :: Fs, ?_, by simpa using hs.append hs', h, by simp [h1], ?_, by simp [hcu, h3], ?_⟩
          · have h0 : RowL false w t [x] vs1 [F] := by
              refine ⟨by simp [hlen], rfl, fun j y Fj hy hFj => ?_⟩
              cases j with
              | zero => simp at hy hFj; subst hy; subst hFj; simpa [← hlen] using hre
              | succ j => simp at hy
            simpa using h0.append hl
          · simp only [List.map_cons, h2, List.length_cons, List.range'_succ, hni]
          · intro q hq
            rcases List.mem_cons.1 hq with rfl | hq
            · have := congrArg List.length hcu
              simpa [hlen] using this
            · exact h4 q hq
      · cases h
  | (i, .tup l) :: ps, (i', u) :: qs, n, k, h, hp => by simp [rdPartsS] at h; cases h

theorem op_buildSlice {t : TypeId} {n : Nat} {ps : Array (Nat × Operand)} (hty : ∀ e t, X.C.ty e = some t → TyOk X.C.P e t) (ho : o.op = .buildSlice t n ps) (hR : Rel X σ ι a w) (h : (opPg X.C nid o).run σ = some ((), σ')) : Done X o σ' a w := by
  simp only [opPg, ho] at h
  split at h
  · rename_i e ty he
    obtain ⟨hu, hte⟩ := elemT_run he
    obtain ⟨inf, z, hi, hsz, hz, hzc⟩ := hty e ty hte
    cases hc : (Nat.beq ps.size n && Nat.ble (n * ty.size) 16777216 && Nat.ble 1 ty.size) with
    | false => rw [hc] at h; cases h
    | true =>
      rw [hc] at h
      simp only [cond_true] at h
      rw [Bool.and_eq_true, Bool.and_eq_true] at hc
      have hpn := Nat.eq_of_beq_eq_true hc.1.1
      have hle := Nat.le_of_ble_eq_true hc.1.2
      have h1 : 1 ≤ ty.size := Nat.le_of_ble_eq_true hc.2
      obtain ⟨avs, hv, h⟩ := opnds_run hR h
      have hparts := parts_run (ι := ι) (a := a) (ps := ps.toList) (vs := avs) (by simpa [Function.comp_def] using hv)
      cases hsh : (X.C.share && !ty.flat) with
      | true =>
        rw [hsh] at h
        simp only [cond_true] at h
        obtain ⟨xs, p, cs, Fs, hl, hs, h, hx1, hx2, hx3, hx4⟩ := rdPartsS_run hR h hparts
        obtain ⟨hun, h⟩ := newB_run h
        have hplen : (zipParts ps.toList avs).length = n := by
          have := F2_len hparts
          simp at this
          omega
        have hzs : z.cells.size = ty.size := by
          have := RE_len (RE_zero (own := true) (w := w) ty)
          rw [← hzc] at this
          simpa using this
        let qs := ps.toList.map fun p => (p.1, a.eval p.2)
        have hqlen : qs.length = n := by simp [qs]; omega
        obtain ⟨cells', hf, hcl⟩ := fill_dense (sz := ty.size) qs 0 ((Array.range (n * ty.size)).map (z.cells[· % z.cells.size]!)) (by rw [hqlen, ← hplen]; exact hx2) hx4 (by simp [hqlen])
        have hcs : cells'.toList = cs := by rw [hcl, hx3]; simp [qs]
        have hxn : xs.length = n := by rw [hx1, hplen]
        have hltF : ∀ b ∈ Fs.flatten, b < w.heap.size := by
          intro b hb
          obtain ⟨Fi, hFi, hm⟩ := List.mem_flatten.1 hb
          obtain ⟨i, hi, rfl⟩ := List.getElem_of_mem hFi
          have hx : i < xs.length := by rw [← hl.2.1]; exact hi
          exact RE_lt (hl.2.2 i _ _ (List.getElem?_eq_getElem hx) (List.getElem?_eq_getElem hi)) b hm
        have hl' : RowL false { w with heap := w.heap.push (.cells cells' e) } ty xs cs Fs := hl.frame (fun x => x) (fun b hb => push_lt (hltF b hb))
        have hrr : RR false { w with heap := w.heap.push (.cells cells' e) } ty xs (some ⟨w.heap.size, 0, none⟩) xs.length n (w.heap.size :: (Fs.flatten ++ [])) := by
          rw [List.append_nil]
          exact RR_of (arr := cells') (e := e) hl' (by simp) (by rw [hcs]; simp) (by omega) (by have := congrArg List.length hcs; simp at this; rw [this, hl.1, hxn]; omega)
        have hR' := hR.newId hun (blk := .row ty xs false 0 p) (home := .row (some ⟨w.heap.size, 0, none⟩) xs.length n (w.heap.size :: (Fs.flatten ++ []))) (w' := { w with heap := w.heap.push (.cells cells' e) }) ⟨by simp, rfl, rfl, rfl⟩ (fun b hb => push_lt hb)
          (fun _ => ⟨_, _, _, _, rfl, fun _ => hrr⟩) (fun _ H w ι' _ hf => ⟨_, _, _, _, rfl, fun h => (hf h).elim⟩)
          (fun _ b hb => by
            simp only [Home.foot, List.append_nil] at hb
            rcases List.mem_cons.1 hb with rfl | hb
            · simp
            · have := hltF b hb
              simp; omega) (fun h => by cases h)
          (fun i he _ _ hr b hb hb2 => by
            simp only [Home.foot, List.append_nil] at hb2
            rcases List.mem_cons.1 hb2 with rfl | hb2
            · have := hR.lt i (live_of_excl he) _ hb
              omega
            · exact hs.ap i he hr b hb hb2)
          (fun q hq => by obtain ⟨t, x, p, e⟩ := hs.ok q hq; rw [e]; simp) (fun q hq ver e' => by obtain ⟨t, x, p, e⟩ := hs.ok q hq; rw [e] at e'; cases e'; exact Nat.le_refl _) (by simp)
        refine Done.put hR' (RAV_sl (upd_same _ _ _)) ?_ h
        rw [hxn]
        by_cases hn : n = 0
        · have hps : ps = #[] := Array.eq_empty_of_size_eq_zero (by omega)
          have hce : cells' = #[] := by
            apply Array.ext'
            rw [hcs]
            apply List.eq_nil_of_length_eq_zero
            rw [hl.1, hxn, hn]; simp
          simp [execOp, ho, hn, hps, hce, Instr.buildSlice, run_underlying hu, sizeOf, typeInfo, hi, Instr.fill, newRow]
          congr 2
          apply Array.ext'
          simp
        · have hpos : ¬ n * inf.size = 0 := by
            rw [hsz]
            intro h0
            rcases Nat.mul_eq_zero.1 h0 with h0 | h0 <;> omega
          have hb := run_buildSlice (P := X.C.P) w t e n (ps.map fun (i, x) => (i, a.eval x)) cells' inf z hu hi hz (by rw [hsz]; omega) hpos (by rw [hsz]; simpa [qs] using hf)
          simp [execOp, ho, hb]
      | false =>
      rw [hsh] at h
      simp only [cond_false] at h
      obtain ⟨xs, cs, Fs, σ1, hl, hR1, hF1, h, hx1, hx2, hx3, hx4⟩ := rdParts_run (G := []) hR Free.nil h hparts
      obtain ⟨hun, h⟩ := newB_run h
      have hplen : (zipParts ps.toList avs).length = n := by
        have := F2_len hparts
        simp at this
        omega
      have hzs : z.cells.size = ty.size := by
        have := RE_len (RE_zero (own := true) (w := w) ty)
        rw [← hzc] at this
        simpa using this
      let qs := ps.toList.map fun p => (p.1, a.eval p.2)
      have hqlen : qs.length = n := by simp [qs]; omega
      obtain ⟨cells', hf, hcl⟩ := fill_dense (sz := ty.size) qs 0 ((Array.range (n * ty.size)).map (z.cells[· % z.cells.size]!)) (by rw [hqlen, ← hplen]; exact hx2) hx4 (by simp [hqlen])
      have hcs : cells'.toList = cs := by rw [hcl, hx3]; simp [qs]
      have hR' := hR1.newRow (G := Fs.flatten) (by simpa using hF1) hun (w' := { w with heap := w.heap.push (.cells cells' e) }) (c := n) rfl ⟨rfl, rfl, rfl⟩ hl (by rw [hcs, List.take_length]) (by rw [hx1, hplen]; exact Nat.le_refl _)
        (by have := congrArg List.length hcs; simp at this; rw [this, hl.1, hx1, hplen]; exact Nat.le_refl _) (fun b hb => hb) (by simpa using hF1.nd)
      refine Done.put hR' (RAV_sl (upd_same _ _ _)) ?_ h
      have hxn : xs.length = n := by rw [hx1, hplen]
      rw [hxn]
      by_cases hn : n = 0
      · have hps : ps = #[] := Array.eq_empty_of_size_eq_zero (by omega)
        have hce : cells' = #[] := by
          apply Array.ext'
          rw [hcs]
          apply List.eq_nil_of_length_eq_zero
          rw [hl.1, hxn, hn]; simp
        simp [execOp, ho, hn, hps, hce, Instr.buildSlice, run_underlying hu, sizeOf, typeInfo, hi, Instr.fill, newRow]
        congr 2
        apply Array.ext'
        simp
      · have hpos : ¬ n * inf.size = 0 := by
          rw [hsz]
          intro h0
          rcases Nat.mul_eq_zero.1 h0 with h0 | h0 <;> omega
        have hb := run_buildSlice (P := X.C.P) w t e n (ps.map fun (i, x) => (i, a.eval x)) cells' inf z hu hi hz (by rw [hsz]; omega) hpos (by rw [hsz]; simpa [qs] using hf)
        simp [execOp, ho, hb]
  · cases h
end
end Go.Ev
