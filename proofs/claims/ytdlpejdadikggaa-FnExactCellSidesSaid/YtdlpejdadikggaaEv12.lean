/- A part of a verified evaluator of the model's code: what it evaluates is what a call returns; no condition beyond the theorems' own hypotheses. -/
import Derived.Test.YtdlpejdadikggaaEv11
import Derived.Great.BuildSlice
import Derived.Laws.AppendOwn
set_option linter.unusedVariables false
namespace Go.Ev
open Go

section
variable {X : Ctx} {σ σ' : St} {ι : Nat → Home} {a : Act} {w : World} {α : Type} {o : Oper} {nid : Nat}

/-! Rows as lists of cells. -/
def RowL (own : Bool) (w : World) (t : Ty) (xs : List t.T) (cs : List Value) (Fs : List (List Nat)) : Prop :=
  cs.length = xs.length * t.size ∧ Fs.length = xs.length ∧ ∀ i x Fi, xs[i]? = some x → Fs[i]? = some Fi → RE own w t x ((cs.drop (i * t.size)).take t.size) Fi

theorem RowL.nil {own : Bool} {t : Ty} : RowL own w t [] [] [] := ⟨by simp, rfl, fun i x Fi h => by simp at h⟩

theorem RowL.append {own : Bool} {t : Ty} {xs ys : List t.T} {cs ds : List Value} {Fs Gs : List (List Nat)} (h : RowL own w t xs cs Fs) (h' : RowL own w t ys ds Gs) : RowL own w t (xs ++ ys) (cs ++ ds) (Fs ++ Gs) := by
  refine ⟨by simp [h.1, h'.1, Nat.add_mul], by simp [h.2.1, h'.2.1], fun i x Fi hx hF => ?_⟩
  by_cases hi : i < xs.length
  · rw [List.getElem?_append_left hi] at hx
    rw [List.getElem?_append_left (by rw [h.2.1]; exact hi)] at hF
    have := h.2.2 i x Fi hx hF
    have hm : (i + 1) * t.size ≤ xs.length * t.size := Nat.mul_le_mul_right _ hi
    rw [Nat.add_mul, Nat.one_mul] at hm
    rw [List.drop_append_of_le_length (by rw [h.1]; omega), List.take_append_of_le_length (by rw [List.length_drop, h.1]; omega)]
    exact this
  · rw [List.getElem?_append_right (by omega)] at hx
    rw [List.getElem?_append_right (by rw [h.2.1]; omega), h.2.1] at hF
    have := h'.2.2 _ x Fi hx hF
    have e : i * t.size = cs.length + (i - xs.length) * t.size := by rw [h.1, ← Nat.add_mul]; congr 1; omega
    rw [e, List.drop_length_add_append]
    exact this

theorem RowL.frame {own own' : Bool} {w' : World} {t : Ty} {xs : List t.T} {cs : List Value} {Fs : List (List Nat)} (ho : own' = true → own = true) (hw : ∀ b ∈ Fs.flatten, w'.heap[b]? = w.heap[b]?) (h : RowL own w t xs cs Fs) : RowL own' w' t xs cs Fs :=
  ⟨h.1, h.2.1, fun i x Fi hx hF => RE_mono ho (fun b hb => hw b (List.mem_flatten.2 ⟨Fi, List.mem_of_getElem? hF, hb⟩)) (h.2.2 i x Fi hx hF)⟩

theorem RowL.one {own : Bool} {t : Ty} {xs : List t.T} {cs : List Value} {Fs : List (List Nat)} (h : RowL own w t xs cs Fs) (hz : 0 < t.size) : ∀ v ∈ cs, v.oneCell' = true := by
  intro v hv
  obtain ⟨k, hk, rfl⟩ := List.getElem_of_mem hv
  have hk' := hk
  rw [h.1] at hk'
  have hi : k / t.size < xs.length := Nat.div_lt_of_lt_mul (by rw [Nat.mul_comm]; exact hk')
  have := h.2.2 (k / t.size) _ _ (List.getElem?_eq_getElem hi) (List.getElem?_eq_getElem (by rw [h.2.1]; exact hi))
  refine RE_one this _ ?_
  apply List.mem_of_getElem? (i := k % t.size)
  rw [List.getElem?_take, if_pos (Nat.mod_lt _ hz), List.getElem?_drop, show k / t.size * t.size + k % t.size = k by rw [Nat.mul_comm]; exact Nat.div_add_mod _ _]
  exact List.getElem?_eq_getElem hk

theorem RowL.flat {own : Bool} {t : Ty} {xs : List t.T} {cs : List Value} {Fs : List (List Nat)} (hf : t.flat = true) (h : RowL own w t xs cs Fs) (own' : Bool) (w' : World) : RowL own' w' t xs cs (List.replicate xs.length []) := by
  refine ⟨h.1, by simp, fun i x Fi hx hF => ?_⟩
  have hi : i < xs.length := (List.getElem?_eq_some_iff.1 hx).1
  rw [List.getElem?_replicate, if_pos hi] at hF
  cases hF
  have := h.2.2 i x _ hx (List.getElem?_eq_getElem (by rw [h.2.1]; exact hi))
  have e := RE_flat hf this
  rw [e] at this
  exact RE_flat_own hf this

theorem RowL.flat' {own : Bool} {t : Ty} {xs : List t.T} {cs : List Value} {Fs : List (List Nat)} (hf : t.flat = true) (h : RowL own w t xs cs Fs) : Fs.flatten = [] := by
  rw [List.flatten_eq_nil_iff]
  intro F hF
  obtain ⟨i, hi, rfl⟩ := List.getElem_of_mem hF
  have hx : i < xs.length := by rw [← h.2.1]; exact hi
  exact RE_flat hf (h.2.2 i _ _ (List.getElem?_eq_getElem hx) (List.getElem?_eq_getElem hi))

/-- a row's cells, and where they stand -/
theorem RR_list {own : Bool} {t : Ty} {xs : List t.T} {A : Option Addr} {n c : Nat} {F : List Nat} (h : RR own w t xs A n c F) :
    ∃ cs Fs, RowL own w t xs cs Fs ∧ (∀ j u, cs[j]? = some u → ∃ a, A = some a ∧ w.cell? (a.add j) = some u) ∧
      ((F = [] ∧ Fs.flatten = [] ∧ (own = true → c = 0)) ∨ ∃ b o arr e fr G, A = some ⟨b, o, none⟩ ∧ w.heap[b]? = some (.cells arr e fr) ∧ (own = true → fr = (0, 0)) ∧ F = b :: (Fs.flatten ++ G) ∧
        (arr.toList.drop o).take cs.length = cs ∧ o + (if own then c else n) * t.size ≤ arr.size) := by
  obtain ⟨hn, hc, h | ⟨b, o, arr, e, fr, Fs, G, hA, hb, hf, hs, hF, hG, hl, hel⟩⟩ := h
  · refine ⟨[], [], ?_, by simp, .inl ⟨h.2.1, rfl, h.2.2⟩⟩
    rw [h.1]; exact RowL.nil
  · have hle : n * t.size ≤ (if own then c else n) * t.size := Nat.mul_le_mul_right _ (by cases own <;> simp <;> omega)
    have hcs : ((arr.toList.drop o).take (n * t.size)).length = n * t.size := by rw [List.length_take, List.length_drop]; simp; omega
    refine ⟨(arr.toList.drop o).take (n * t.size), Fs, ⟨by rw [hcs, hn], hl, fun i x Fi hx hFi => ?_⟩, fun j u hj => ⟨_, hA, ?_⟩, .inr ⟨b, o, arr, e, fr, G, hA, hb, hf, hF, by rw [hcs], hs⟩⟩
    · have hi : i < xs.length := (List.getElem?_eq_some_iff.1 hx).1
      have := hel i x Fi hx hFi
      have hm : (i + 1) * t.size ≤ n * t.size := Nat.mul_le_mul_right _ (by omega)
      rw [Nat.add_mul, Nat.one_mul] at hm
      rw [List.drop_take, List.take_take, List.drop_drop, Nat.min_eq_left (by omega)]
      exact this
    · rw [Addr_add, cell_at hb]
      have := take_drop_get hj
      simpa using this

theorem RR_of {own : Bool} {t : Ty} {xs : List t.T} {cs : List Value} {Fs : List (List Nat)} {b o c : Nat} {arr : Array Value} {e : TypeId} (h : RowL own w t xs cs Fs) (hb : w.heap[b]? = some (.cells arr e (0, 0)))
    (hcs : (arr.toList.drop o).take cs.length = cs) (hc : xs.length ≤ c) (hs : o + c * t.size ≤ arr.size) : RR own w t xs (some ⟨b, o, none⟩) xs.length c (b :: Fs.flatten) := by
  refine ⟨rfl, hc, .inr ⟨b, o, arr, e, (0, 0), Fs, [], rfl, hb, fun _ => rfl, ?_, by simp, by simp, h.2.1, fun i x Fi hx hFi => ?_⟩⟩
  · refine Nat.le_trans (Nat.add_le_add_left (Nat.mul_le_mul_right _ ?_) _) hs
    cases own <;> simp; exact hc
  · have hi : i < xs.length := (List.getElem?_eq_some_iff.1 hx).1
    have := h.2.2 i x Fi hx hFi
    have hm : (i + 1) * t.size ≤ xs.length * t.size := Nat.mul_le_mul_right _ (by omega)
    rw [Nat.add_mul, Nat.one_mul] at hm
    rw [← hcs, List.drop_take, List.take_take, List.drop_drop, Nat.min_eq_left (by rw [h.1]; omega)] at this
    exact this

/-! Building structs and arrays. -/
theorem fill_cells : ∀ {v : List Sc} {vs : List Value} {l : List Sc} {cells : Array Value} {off k : Nat}, F2 (RSc ι) v vs → F2 (RSc ι) l cells.toList →
    F2 (RSc ι) (setS l (off + k) v) ((vs.zipIdx k).foldl (fun (cs : Array Value) (p : Value × Nat) => cs.setIfInBounds (off + p.2) p.1) cells).toList
  | [], [], l, cells, off, k, _, hl => by simpa [setS] using hl
  | c :: v, u :: vs, l, cells, off, k, hv, hl => by
    simp only [setS, List.zipIdx_cons, List.foldl_cons]
    exact fill_cells (k := k + 1) hv.2 (by rw [Array.toList_setIfInBounds]; exact F2_set _ hl hv.1)

theorem fill_size {off : Nat} : ∀ (vs : List Value) (k : Nat) (cells : Array Value), ((vs.zipIdx k).foldl (fun (cs : Array Value) (p : Value × Nat) => cs.setIfInBounds (off + p.2) p.1) cells).size = cells.size
  | [], k, cells => rfl
  | u :: vs, k, cells => by simp only [List.zipIdx_cons, List.foldl_cons]; rw [fill_size vs (k + 1)]; simp

theorem zip_fold (off : Nat) (v cells : Array Value) : v.zipIdx.foldl (fun (cs : Array Value) (p : Value × Nat) => cs.setIfInBounds (off + p.2) p.1) cells = (v.toList.zipIdx).foldl (fun (cs : Array Value) (p : Value × Nat) => cs.setIfInBounds (off + p.2) p.1) cells := by
  rw [← Array.foldl_toList]
  congr 1
  simp

def PartR (ι : Nat → Home) (p : Nat × AV) (q : Nat × Value) : Prop := p.1 = q.1 ∧ RAV ι p.2 q.2

theorem fill_run {place : Nat → Option (Nat × Nat)} : ∀ {ps : List (Nat × AV)} {qs : List (Nat × Value)} {l l' : List Sc} {cells : Array Value}, fillS place l ps = some l' → F2 (PartR ι) ps qs → F2 (RSc ι) l cells.toList →
    ∃ cells', Instr.fill place cells qs = some cells' ∧ F2 (RSc ι) l' cells'.toList
  | [], [], l, l', cells, h, _, hl => by simp [fillS] at h; subst h; exact ⟨cells, rfl, hl⟩
  | (i, .one v g) :: ps, (i', u) :: qs, l, l', cells, h, hp, hl => by
    obtain ⟨⟨e, hu⟩, hp⟩ := hp
    simp only at e
    subst e
    simp only [fillS] at h
    cases hpl : place i with
    | none => rw [hpl] at h; cases h
    | some q =>
      obtain ⟨off, size⟩ := q
      rw [hpl] at h
      simp only at h
      cases hc : (!Nat.beq v.length size || !Nat.ble (off + v.length) l.length || (!g && !notTop v)) with
      | true => rw [hc] at h; cases h
      | false =>
        rw [hc] at h
        simp only [cond_false] at h
        simp only [Bool.or_eq_false_iff, Bool.not_eq_false'] at hc
        obtain ⟨⟨h1, h2⟩, h3⟩ := hc
        have h1 := Nat.eq_of_beq_eq_true h1
        have h2 := Nat.le_of_ble_eq_true h2
        have h3 : (g || notTop v) = true := by
          cases g with
          | true => rfl
          | false =>
            simpa using h3
        obtain ⟨hcu, hsz⟩ := RVs_cells hu h3
        have hll := F2_len hl
        have hF := fill_cells (off := off) (k := 0) hcu hl
        rw [Nat.add_zero] at hF
        obtain ⟨cells', hf, hl'⟩ := fill_run h hp hF
        refine ⟨cells', ?_, hl'⟩
        simp only [Instr.fill, hpl]
        rw [if_neg (by
          simp only [Array.length_toList] at hll
          simp [hsz, h1]
          omega), zip_fold]
        exact hf
  | (i, .tup v) :: ps, (i', u) :: qs, l, l', cells, h, hp, hl => by simp [fillS] at h

theorem parts_run : ∀ {ps : List (Nat × Operand)} {vs : List AV}, F2 (RAV ι) vs (ps.map fun p => a.eval p.2) → F2 (PartR ι) (zipParts ps vs) (ps.map fun p => (p.1, a.eval p.2))
  | [], [], _ => trivial
  | (i, x) :: ps, v :: vs, h => ⟨⟨rfl, h.1⟩, parts_run h.2⟩

theorem built_of {P : Program} {t : TypeId} {pl : Nat → Option (Nat × Nat)} {qs : List (Nat × Value)} {cells' : Array Value} {zv : Value} (hz : ∃ i, P.info? t = some i ∧ i.zero = some zv) (hp : placesOf P t = some pl)
    (hf : Instr.fill pl zv.cells qs = some cells') : P.built t qs = some cells' := by
  obtain ⟨i, hi, hz⟩ := hz
  unfold placesOf at hp
  unfold Program.built
  cases hu : P.underlying t with
  | none => rw [hu] at hp; cases hp
  | some d =>
    rw [hu] at hp
    cases d with
    | struct fs =>
      simp only at hp
      split at hp
      · rename_i pl' hm
        cases hp
        simp only [hi, hz, hm]
        exact hf
      · cases hp
    | array n e =>
      simp only at hp
      split at hp
      · rename_i inf hm
        cases hp
        simp only [hi, hz, hm]
        exact hf
      · cases hp
    | _ => cases hp

theorem zeroS_info {P : Program} {t : TypeId} {l : List Sc} (h : zeroS P t = some l) : ∃ z : Value, l = z.cells.toList.map .v ∧ z.cells.toList.all (·.oneCell') = true ∧ ∃ i, P.info? t = some i ∧ i.zero = some z := by
  unfold zeroS at h
  cases hi : P.info? t with
  | none => rw [hi] at h; cases h
  | some i =>
    rw [hi] at h
    simp only at h
    cases hz : i.zero with
    | none => rw [hz] at h; cases h
    | some z =>
      rw [hz] at h
      simp only at h
      cases ha : z.cells.toList.all (·.oneCell') with
      | false => rw [ha] at h; cases h
      | true =>
        rw [ha] at h
        simp only [cond_true, Option.some.injEq] at h
        exact ⟨z, h.symm, ha, i, rfl, hz⟩

theorem op_build {t : TypeId} {ps : Array (Nat × Operand)} (ho : o.op = .build t ps) (hR : Rel X σ ι a w) (h : (opPg X.C nid o).run σ = some ((), σ')) : Done X o σ' a w := by
  simp only [opPg, ho] at h
  obtain ⟨avs, hv, h⟩ := opnds_run hR h
  split at h
  · rename_i z hz
    obtain ⟨zv, rfl, ha, hi⟩ := zeroS_info hz
    split at h
    · rename_i pl hpl
      split at h
      · rename_i l hl
        obtain ⟨cells', hf, hl'⟩ := fill_run hl (parts_run (a := a) (by simpa [Function.comp_def] using hv)) (F2_plain ha)
        have hb := built_of hi hpl hf
        refine Done.put hR (v := .one l true) (u := .agg cells') ⟨cells', rfl, hl'⟩ ?_ h
        have := run_build (P := X.C.P) w t (ps.map fun (i, x) => (i, a.eval x)) cells' (by simpa using hb)
        simp [execOp, ho, this]
      · cases h
    · cases h
  · cases h
end
end Go.Ev
