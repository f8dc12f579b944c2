/- What the plain functions of the laws compute, for all inputs within the sizes that the theorems name. -/
import Derived.Test.YtdlpejdadikggaaQ3
set_option linter.unusedVariables false
namespace Go.Ev.G
open Go Go.Ev
set_option maxRecDepth 100000

theorem toV_fst {γ : Type} {v : γ} {a : List γ} {b : Bool} : (toV id v a b).1 = a := by
  unfold toV
  split
  · rename_i h; exact h.2.symm
  · simp
theorem toV_rows {γ : Type} {v : γ} {w : List γ × List γ} {a : List (List γ)} {b : Bool} : ((toV (fun x => toV id v x b) w a b).1.map fun z => z.1) = a := by
  unfold toV
  split
  · rename_i h; rw [h.2]; rfl
  · simp only [List.map_map]
    conv => rhs; rw [← List.map_id a]
    apply List.map_congr_left
    intro x hx
    exact toV_fst

/-- what a table of lists must be for its law to look at it -/
def Sized {γ : Type} (a : List (List γ)) : Prop := a.length + (a.map List.length).sum ≤ 1000000

theorem le_sum {l : List Nat} {x : Nat} (h : x ∈ l) : x ≤ l.sum := by
  induction l with
  | nil => simp at h
  | cons y l ih =>
    simp only [List.sum_cons]
    rcases List.mem_cons.1 h with rfl | h
    · omega
    · have := ih h; omega
theorem Sized.len {γ : Type} {a : List (List γ)} (h : Sized a) : a.length ≤ 1000000 := by unfold Sized at h; omega
theorem Sized.row {γ : Type} {a : List (List γ)} (h : Sized a) : ∀ x ∈ a, x.length ≤ 1000000 := by
  intro x hx
  unfold Sized at h
  have := le_sum (List.mem_map.2 ⟨x, hx, rfl⟩ : x.length ∈ a.map List.length)
  omega

theorem intactD_ev {a : List (List (Int × Int))} (h : Sized a) : Evt (fun k _ => laws_intactDyadicSS k (toV (fun x => toV id fD x false) ([fD], []) a false) (toV (fun x => toV id fD x false) ([fD], []) a false)) true := by
  refine intactDyadicSS_ev (room_toV h.len) ?_ ?_
  · intro y hy
    simp [toV] at hy
    obtain ⟨x, hx, rfl⟩ := hy
    exact ⟨by simp, h.row x hx⟩
  · intro y hy
    simp [toV] at hy
    rw [hy.2]; simp [lenB]

theorem isTable_law (a : List (List (Int × Int))) (ha : a.length ≤ maxLen) (hm : ∀ x ∈ a, x.length ≤ maxLen) : ∃ k, laws_FnExactIsTable k a = some true := by
  refine Evt.get (Evt.eq (f := fun k q => _) ?_ (fun k q => by rw [laws_FnExactIsTable]))
  refine Evt.bind (szDyadicSS_ev (a := 1000000) ha hm (by omega)) ?_
  by_cases hz : a.length + (a.map List.length).sum ≤ 1000000
  · rw [if_pos hz]
    have hs : Sized a := hz
    refine Evt.cfalse (by simp <;> omega) ?_
    have hb : a.length < 274877906944 := by have := hs.len; omega
    have hr : ∀ r ∈ a, r.length < lenB := fun r hr => by have := hs.row r hr; simp only [lenB]; omega
    have spec : Evt (fun k _ => spec_IsTable k a) (tab gd a) := Evt.eq (Evt.bind (mxGood_ev hb hr) .pure) (fun k n => by rw [spec_IsTable])
    have impl : Evt (fun k _ => impl_IsTable k a) (tab gd a) := Evt.eq (Evt.bind (isTable_ev (by simp only [lenB]; omega) hr) .pure) (fun k n => by rw [impl_IsTable])
    refine Evt.bind (toDyadicSS_ev hs.len hs.row) ?_
    simp only [toV_rows]
    refine Evt.bind spec (Evt.bind (toDyadicSS_ev hs.len hs.row) ?_)
    simp only [toV_rows]
    refine Evt.bind impl (Evt.cfalse (by simp) (Evt.bind (toDyadicSS_ev hs.len hs.row) (Evt.bind (intactD_ev hs) (Evt.cfalse rfl (Evt.bind (toDyadicSS_ev hs.len hs.row) ?_)))))
    simp only [toV_rows]
    exact Evt.bind impl (Evt.cfalse (by simp) .pure)
  · rw [if_neg hz]
    exact Evt.ctrue rfl .pure
abbrev tDyadic : Ty := .pair (.int .i64) (.int .i64)
theorem isTable_row (a : List (List (Int × Int))) (h : WfT (.sl (.sl tDyadic)) a) : ∃ k, laws_FnExactIsTable k a = some true := isTable_law a h.1 (fun x hx => (h.2 x hx).1)
end Go.Ev.G
