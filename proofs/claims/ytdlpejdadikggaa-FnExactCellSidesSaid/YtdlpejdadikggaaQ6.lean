/- What the plain functions of the laws compute, for all inputs within the sizes that the theorems name. -/
import Derived.Test.YtdlpejdadikggaaQ5
set_option linter.unusedVariables false
namespace Go.Ev.G
open Go Go.Ev
set_option maxRecDepth 100000

theorem markDyadicSS_ev {x : List (List (Int × Int))} {a : Nat} (hx : x.length < lenB) (ha : a + (x.map fun r => 2 * r.length).sum < lenB) : ∃ y, Evt (fun k _ => laws_markDyadicSS k x a) (((a + (x.map fun r => 2 * r.length).sum : Nat) : Int), y) ∧ Evt (fun k _ => laws_heldDyadicSS k y a) ((a + (x.map fun r => 2 * r.length).sum : Nat) : Int) :=
  mark_rows_all (M := laws_markDyadicSS_L26) (H := laws_heldDyadicSS_L26) markDyadicS_ok (fun _ _ _ _ _ => rfl) (fun _ _ _ _ _ => rfl) (fun _ _ _ => rfl) (fun _ _ _ => rfl) hx ha

theorem sum_twice : ∀ (x : List (List (Int × Int))), (x.map fun r => 2 * r.length).sum = 2 * (x.map List.length).sum
  | [] => rfl
  | r :: x => by simp only [List.map_cons, List.sum_cons]; rw [sum_twice x]; omega
theorem Sized.marks {a : List (List (Int × Int))} (h : Sized a) : 101 + (a.map fun r => 2 * r.length).sum < lenB := by
  unfold Sized at h
  rw [sum_twice]
  simp only [lenB]; omega

theorem rsV_len {m : List (List (Int × Int))} (h : m.length ≤ 1000000) : (rsV m).1.length ≤ 1000000 := by
  unfold rsV
  split
  · simp; exact h
  · simp

theorem rowSums_law (a : List (List (Int × Int))) (ha : a.length ≤ maxLen) (hm : ∀ x ∈ a, x.length ≤ maxLen) : ∃ k, laws_FnExactRowSums k a = some true := by
  refine Evt.get (Evt.eq (f := fun k q => _) ?_ (fun k q => by rw [laws_FnExactRowSums]))
  refine Evt.bind (szDyadicSS_ev (a := 1000000) ha hm (by omega)) ?_
  by_cases hz : a.length + (a.map List.length).sum ≤ 1000000
  · rw [if_pos hz]
    have hs : Sized a := hz
    refine Evt.cfalse (by simp <;> omega) ?_
    have hb : a.length < 274877906944 := by have := hs.len; omega
    have hr : ∀ r ∈ a, r.length < lenB := fun r hr => by have := hs.row r hr; simp only [lenB]; omega
    have spec := spec_rowSums_ev hb hr
    have impl := impl_rowSums_ev (m := a) (by simp only [lenB]; omega) hr
    have hl := rsV_len hs.len
    have hl2 : (rsV a).1.length < lenB := by simp only [lenB]; omega
    obtain ⟨y, hy1, hy2, _⟩ := markDyadicS_ok (rsV a).1 101 (by simp only [lenB]; omega)
    obtain ⟨z, hz1, _⟩ := markDyadicSS_ev (x := a) (a := 101) (by simp only [lenB]; omega) hs.marks
    refine Evt.bind (toDyadicSS_ev hs.len hs.row) ?_
    simp only [toV_rows]
    refine Evt.bind spec (Evt.bind (toDyadicSS_ev hs.len hs.row) ?_)
    simp only [toV_rows]
    refine Evt.bind impl (Evt.bind (eqDyadicS_ev hl2) (Evt.cfalse rfl (Evt.cfalse (by simp) (Evt.bind (toDyadicSS_ev hs.len hs.row) (Evt.bind (intactD_ev hs) (Evt.cfalse rfl (Evt.bind hz1 (Evt.cfalse (by simp <;> omega) ?_)))))))) 
    refine Evt.bind (eqDyadicS_ev hl2) (Evt.cfalse rfl (Evt.cfalse (by simp) (Evt.bind hy1 (Evt.bind hy2 (Evt.cfalse (by simp <;> omega) (Evt.cfalse (by simp) (Evt.bind (toDyadicSS_ev hs.len hs.row) ?_)))))))
    simp only [toV_rows]
    exact Evt.bind impl (Evt.bind (eqDyadicS_ev hl2) (Evt.cfalse rfl (Evt.cfalse (by simp) (Evt.bind hy2 (Evt.cfalse (by simp <;> omega) (Evt.cfalse (by simp) .pure))))))
  · rw [if_neg hz]
    exact Evt.ctrue rfl .pure
theorem rowSums_row (a : List (List (Int × Int))) (h : WfT (.sl (.sl tDyadic)) a) : ∃ k, laws_FnExactRowSums k a = some true := rowSums_law a h.1 (fun x hx => (h.2 x hx).1)
end Go.Ev.G
