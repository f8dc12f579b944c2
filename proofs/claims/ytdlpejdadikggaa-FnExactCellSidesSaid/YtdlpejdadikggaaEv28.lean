/- A part of a verified evaluator of the model's code: what it evaluates is what a call returns; no condition beyond the theorems' own hypotheses. -/
import Derived.Test.YtdlpejdadikggaaEv27
import Derived.Deep.Slices
import Derived.Carry
import Derived.WideShapes
set_option linter.unusedVariables false
namespace Go.Ev
open Go

/-! A row's arguments, whatever their types, told. -/
def fsIsB (P : Program) (g : TypeId → Ty → Bool) : List Field → Nat → Ty → Bool
  | [], _, _ => false
  | [f], off, ty => Nat.beq f.offset off && Nat.beq (P.cellsOf f.type) ty.size && g f.type ty
  | f :: fs, off, .pair a b => Nat.beq f.offset off && Nat.beq (P.cellsOf f.type) a.size && g f.type a && fsIsB P g fs (off + a.size) b
  | _, _, _ => false

def tyIsB (P : Program) : Nat → TypeId → Ty → Bool
  | 0, _, _ => false
  | n + 1, t, ty => match P.underlying t with
    | some (.int k) => match ty with
      | .int k' => decide (k = k')
      | _ => false
    | some .bool => match ty with
      | .bool => true
      | _ => false
    | some .string => match ty with
      | .str => true
      | _ => false
    | some (.slice e) => match ty with
      | .sl ty => Nat.beq (P.cellsOf e) ty.size && Nat.ble 1 ty.size && tyIsB P n e ty
      | _ => false
    | some (.struct fs) => Nat.beq (P.cellsOf t) ty.size && fsIsB P (tyIsB P n) fs.toList 0 ty
    | _ => false

/-- the numbers of a value lie where their kinds say -/
def WfT : (t : Ty) → t.T → Prop
  | .int k, n => (Lit.int k n).wf = true
  | .pair a b, x => WfT a x.1 ∧ WfT b x.2
  | .sl t, xs => xs.length ≤ maxLen ∧ ∀ x ∈ xs, WfT t x
  | _, _ => True

section
variable {H : Type} {enc : TypeId × Value → H} {P : Program} {w : World} {held : Bool} {spare : Nat → Bool}

theorem trod_lift {n : Nat} (ih : ∀ {t : TypeId} {ty : Ty} {fuel : Nat} {cs : List Value} {x : DataW H × List MemPlace}, tyIsB P n t ty = true → DataW.trod enc P w 0 spare held fuel t cs = some x → ∃ v F, RE false w ty v cs F ∧ WfT ty v) :
    ∀ {fs : List Field} {off : Nat} {ty : Ty} {fuel : Nat} {cs : List Value} {xs : List (DataW H × List MemPlace)}, fsIsB P (tyIsB P n) fs off ty = true → (cs.length = off + ty.size) →
      (fs.mapM fun f => DataW.trod enc P w 0 spare held fuel f.type ((cs.drop f.offset).take (P.cellsOf f.type))) = some xs → ∃ v F, RE false w ty v (cs.drop off) F ∧ WfT ty v
  | [], off, ty, fuel, cs, xs, h, _, _ => by cases h
  | [f], off, ty, fuel, cs, xs, h, hl, hm => by
    simp only [fsIsB, Bool.and_eq_true] at h
    have h1 := Nat.eq_of_beq_eq_true h.1.1
    have h2 := Nat.eq_of_beq_eq_true h.1.2
    rw [List.mapM_cons] at hm
    obtain ⟨y, hy, _⟩ := Option.bind_eq_some_iff.1 hm
    obtain ⟨v, F, hv, hw⟩ := ih h.2 hy
    refine ⟨v, F, ?_, hw⟩
    rw [h1, h2, List.take_of_length_le (by rw [List.length_drop]; omega)] at hv
    exact hv
  | f :: f2 :: fs, off, .pair a b, fuel, cs, xs, h, hl, hm => by
    simp only [fsIsB, Bool.and_eq_true] at h
    have h1 := Nat.eq_of_beq_eq_true h.1.1.1
    have h2 := Nat.eq_of_beq_eq_true h.1.1.2
    rw [List.mapM_cons] at hm
    obtain ⟨y, hy, hm⟩ := Option.bind_eq_some_iff.1 hm
    obtain ⟨ys, hys, _⟩ := Option.bind_eq_some_iff.1 hm
    obtain ⟨v, F, hv, hw⟩ := ih h.1.2 hy
    simp only [Ty.size] at hl
    obtain ⟨v2, F2, hv2, hw2⟩ := trod_lift ih h.2 (by omega) hys
    refine ⟨(v, v2), F ++ F2, ⟨_, _, F, F2, ?_, rfl, hv, hv2⟩, hw, hw2⟩
    rw [h1, h2, ← List.drop_drop, List.take_append_drop]
  | f :: f2 :: fs, off, .unit, fuel, cs, xs, h, hl, hm => by cases h
  | f :: f2 :: fs, off, .int _, fuel, cs, xs, h, hl, hm => by cases h
  | f :: f2 :: fs, off, .bool, fuel, cs, xs, h, hl, hm => by cases h
  | f :: f2 :: fs, off, .str, fuel, cs, xs, h, hl, hm => by cases h
  | f :: f2 :: fs, off, .sl _, fuel, cs, xs, h, hl, hm => by cases h
  | f :: f2 :: fs, off, .rm _, fuel, cs, xs, h, hl, hm => by cases h

theorem trod_RE : ∀ {n : Nat} {t : TypeId} {ty : Ty} {fuel : Nat} {cs : List Value} {x : DataW H × List MemPlace}, tyIsB P n t ty = true → DataW.trod enc P w 0 spare held fuel t cs = some x → ∃ v F, RE false w ty v cs F ∧ WfT ty v := by
  intro n
  induction n with
  | zero => intro t ty fuel cs x h; cases h
  | succ n ih =>
    intro t ty fuel cs x h hx
    unfold tyIsB at h
    cases hu : P.underlying t with
    | none => rw [hu] at h; cases h
    | some u =>
      rw [hu] at h
      cases fuel with
      | zero => cases hx
      | succ fuel =>
        cases u with
        | int k =>
          cases ty with
          | int k' =>
            simp only [decide_eq_true_eq] at h
            subst h
            have hq : ∃ m, cs = [.int k m] ∧ (Lit.int k m).wf = true := by
              unfold DataW.trod at hx
              simp only [hu] at hx
              split at hx <;> simp_all
            obtain ⟨m, rfl, hw⟩ := hq
            exact ⟨m, [], ⟨rfl, rfl⟩, hw⟩
          | _ => cases h
        | bool =>
          cases ty with
          | bool =>
            have hq : ∃ m, cs = [.bool m] := by
              unfold DataW.trod at hx
              simp only [hu] at hx
              split at hx <;> simp_all
            obtain ⟨m, rfl⟩ := hq
            exact ⟨m, [], ⟨rfl, rfl⟩, trivial⟩
          | _ => cases h
        | string =>
          cases ty with
          | str =>
            have hq : ∃ m, cs = [.string m] := by
              unfold DataW.trod at hx
              simp only [hu] at hx
              split at hx <;> simp_all
            obtain ⟨m, rfl⟩ := hq
            exact ⟨m, [], ⟨rfl, rfl⟩, trivial⟩
          | _ => cases h
        | struct fs =>
          simp only [Bool.and_eq_true] at h
          have h1 := Nat.eq_of_beq_eq_true h.1
          have hq : cs.length = P.cellsOf t ∧ ∃ xs, (fs.toList.mapM fun f => DataW.trod enc P w 0 spare held fuel f.type ((cs.drop f.offset).take (P.cellsOf f.type))) = some xs := by
            unfold DataW.trod at hx
            simp only [hu] at hx
            by_cases hl : cs.length = P.cellsOf t
            · rw [if_pos hl] at hx
              obtain ⟨xs, hm, _⟩ := Option.map_eq_some_iff.1 hx
              exact ⟨hl, xs, hm⟩
            · rw [if_neg hl] at hx
              cases hx
          obtain ⟨hl, xs, hm⟩ := hq
          obtain ⟨v, F, hv, hw⟩ := trod_lift (fun {t ty fuel cs x} h1 h2 => ih h1 h2) h.2 (by omega) hm
          exact ⟨v, F, hv, hw⟩
        | slice e =>
          cases ty with
          | sl ty =>
            simp only [Bool.and_eq_true] at h
            have h1 := Nat.eq_of_beq_eq_true h.1.1
            have h2 := Nat.le_of_ble_eq_true h.1.2
            rcases Go.Deep.open_slice hu hx with ⟨rfl, _⟩ | ⟨a, len, cap, m, n', D, Pl, rfl, _, hlc, hcm, hm, _, hel⟩
            · exact ⟨[], [], ⟨none, 0, 0, rfl, rfl, Nat.le_refl _, .inl ⟨rfl, rfl, fun h => by cases h⟩⟩, Nat.zero_le _, by intro x hx; simp at hx⟩
            · by_cases h0 : len = 0
              · subst h0
                exact ⟨[], [], ⟨some a, 0, cap, rfl, rfl, Nat.zero_le _, .inl ⟨rfl, rfl, fun h => by cases h⟩⟩, Nat.zero_le _, by intro x hx; simp at hx⟩
              · have hlm : len ≤ m := by rw [hm]; split <;> omega
                have hall : ∀ i, i < len → ∃ (q : ty.T × List Nat × List Value), w.cells? 0 (a.add (i * P.cellsOf e)) (P.cellsOf e) = some q.2.2 ∧ RE false w ty q.1 q.2.2 q.2.1 ∧ WfT ty q.1 := by
                  intro i hi
                  obtain ⟨cs', c1, c2⟩ := hel i (by omega)
                  obtain ⟨v, F, hv, hw⟩ := ih h.2 c2
                  exact ⟨(v, F, cs'), c1, hv, hw⟩
                have : Inhabited (ty.T × List Nat × List Value) := ⟨(ty.dflt, [], [])⟩
                obtain ⟨f, hf⟩ := Go.Deep.choose_lt hall
                -- the block
                have hcell : ∀ i j, i < len → j < ty.size → w.cell? ((a.add (i * ty.size)).add j) = (f i).2.2[j]? := by
                  intro i j hi hj
                  have := (World.cells?_some (hf i hi).1).2.2 j (by rw [h1]; exact hj)
                  rwa [h1] at this
                have hfl : ∀ i, i < len → (f i).2.2.length = ty.size := fun i hi => by rw [(World.cells?_some (hf i hi).1).2.1, h1]
                obtain ⟨b, o, sp⟩ := a
                have hsp : sp = none := by
                  have := hcell 0 0 (by omega) (by omega)
                  have hl0 := hfl 0 (by omega)
                  rw [List.getElem?_eq_getElem (by omega)] at this
                  simp only [Nat.zero_mul, Addr.add, if_true] at this
                  unfold World.cell? at this
                  cases sp with
                  | none => rfl
                  | some k =>
                    simp only at this
                    split at this <;> simp at this
                subst hsp
                have hcell' : ∀ i j, i < len → j < ty.size → w.cell? ⟨b, o + i * ty.size + j, none⟩ = (f i).2.2[j]? := by
                  intro i j hi hj
                  rw [← hcell i j hi hj, Addr_add, Addr_add]
                obtain ⟨arr, el, fr, hb⟩ : ∃ arr el fr, w.heap[b]? = some (.cells arr el fr) := by
                  have := hcell' 0 0 (by omega) (by omega)
                  have hl0 := hfl 0 (by omega)
                  rw [List.getElem?_eq_getElem (by omega)] at this
                  unfold World.cell? at this
                  simp only at this
                  split at this
                  · rename_i c e' fr' hh
                    exact ⟨c, e', fr', hh⟩
                  · cases this
                have harr : ∀ i j, i < len → j < ty.size → arr[o + i * ty.size + j]? = (f i).2.2[j]? := by
                  intro i j hi hj
                  rw [← hcell' i j hi hj, cell_at hb]
                refine ⟨(List.range len).map fun i => (f i).1, b :: (((List.range len).map fun i => (f i).2.1).flatten ++ []), ⟨_, len, cap, rfl, by simp, hlc, .inr ⟨b, o, arr, el, fr, (List.range len).map fun i => (f i).2.1, [], rfl, hb, (fun h => by cases h), ?_, rfl, (by simp), (by simp), ?_⟩⟩, ?_⟩
                · simp only [Bool.false_eq_true, if_false]
                  have := harr (len - 1) (ty.size - 1) (by omega) (by omega)
                  have hl0 := hfl (len - 1) (by omega)
                  rw [List.getElem?_eq_getElem (by omega)] at this
                  have hlt := (Array.getElem?_eq_some_iff.1 this).1
                  have hmul : len * ty.size = (len - 1) * ty.size + ty.size := by
                    rw [← Nat.succ_mul]
                    congr 1
                    omega
                  omega
                · intro i x Fi hxi hFi
                  rw [List.getElem?_map] at hxi hFi
                  obtain ⟨k, hk, rfl⟩ := Option.map_eq_some_iff.1 hxi
                  obtain ⟨k2, hk2, rfl⟩ := Option.map_eq_some_iff.1 hFi
                  rw [hk] at hk2
                  cases hk2
                  obtain ⟨hi, hk⟩ := List.getElem?_eq_some_iff.1 hk
                  simp at hk hi
                  subst hk
                  have e : (arr.toList.drop (o + i * ty.size)).take ty.size = (f i).2.2 := by
                    apply List.ext_getElem?
                    intro j
                    rw [List.getElem?_take]
                    split
                    · rename_i hj
                      rw [List.getElem?_drop, ← harr i j hi hj]
                      simp
                    · rw [List.getElem?_eq_none]
                      rw [hfl i hi]; omega
                  rw [e]
                  exact (hf i hi).2.1
                · refine ⟨by simp; omega, ?_⟩
                  intro x hx
                  obtain ⟨i, hi, rfl⟩ := List.mem_map.1 hx
                  exact (hf i (by simpa using hi)).2.2
          | _ => cases h
        | _ => cases h
end

theorem cells_okWide {P : Program} {W : World} {r : Reach} {base : Nat} {t : TypeId} {v : Value} {n : Nat} {ty : Ty} (hB : tyIsB P n t ty = true) (h : Value.okWide P W r base t v) : cellsOf (isAggB P t) v = v.cells.toList ∧ (isAggB P t = true → ∃ vs, v = .agg vs) := by
  cases n with
  | zero => cases hB
  | succ n =>
    unfold tyIsB at hB
    cases hu : P.underlying t with
    | none => rw [hu] at hB; cases hB
    | some u =>
      rw [hu] at hB
      cases u with
      | struct fs =>
        obtain ⟨cs, rfl, _⟩ := WideShapes.okWide_struct hu h
        refine ⟨?_, fun _ => ⟨_, rfl⟩⟩
        simp [isAggB, hu, cellsOf, Value.cells]
      | slice e =>
        obtain ⟨a, l, c, rfl⟩ := WideShapes.okWide_slice hu h
        simp [isAggB, hu, cellsOf, Value.cells]
      | int k =>
        simp only [Value.okWide, hu, Cell.okWide] at h
        cases v <;> simp_all [isAggB, cellsOf, Value.cells, Cell.ok]
      | bool =>
        simp only [Value.okWide, hu, Cell.okWide] at h
        cases v <;> simp_all [isAggB, cellsOf, Value.cells, Cell.ok]
      | string =>
        simp only [Value.okWide, hu, Cell.okWide] at h
        cases v <;> simp_all [isAggB, cellsOf, Value.cells, Cell.ok]
      | _ => cases hB

/-- an argument of a row -/
theorem open_arg {H : Type} {enc : TypeId × Value → H} {P : Program} {W : World} {r : Reach} {base : Nat} {t : TypeId} {v : Value} {d : DataW H} {ps : List MemPlace} (n : Nat) (ty : Ty) (g : Bool) (hB : tyIsB P n t ty = true) (hg : isAggB P t = g)
    (hval : Value.okWide P W r base t v) (hT : DataW.Trod enc P W 0 (fun _ => true) true t v d ps) : ∃ x U, ValR W false ty g x v U ∧ (∀ b ∈ U, b < W.heap.size) ∧ WfT ty x := by
  obtain ⟨fuel, hf⟩ := hT
  obtain ⟨x, F, hx, hw⟩ := trod_RE hB hf
  obtain ⟨h1, h2⟩ := cells_okWide hB hval
  subst hg
  exact ⟨x, F, ⟨by rw [h1]; exact hx, h2⟩, RE_lt hx, hw⟩

theorem argsR_val {w : World} {t : Ty} {g : Bool} {x0 : t.T} {v : Value} {U1 : List Nat} {ps : List BTy} {x : PT ps} {vs : List Value} {U E : List Nat} {O : List (List Nat)} (hv : ValR w false t g x0 v U1) (h : ArgsR w ps x vs U E O) :
    ArgsR w (.val t g :: ps) (x0, x) (v :: vs) (U1 ++ U) E O :=
  ⟨_, _, U1, U, [], E, [], O, rfl, rfl, rfl, rfl, ⟨rfl, rfl, hv⟩, h⟩

theorem trod_lt' {H : Type} {enc : TypeId × Value → H} {P : Program} {W : World} {t : TypeId} {v : Value} {d : DataW H} {ps : List MemPlace} (h : DataW.Trod enc P W 0 (fun _ => true) true t v d ps) : ∀ x ∈ ps, x.block < W.heap.size := by
  obtain ⟨m, hm⟩ := h
  exact DataW.trod_lt m _ _ _ hm
end Go.Ev
