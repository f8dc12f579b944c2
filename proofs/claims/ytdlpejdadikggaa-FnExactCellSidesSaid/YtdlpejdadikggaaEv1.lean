/- A part of a verified evaluator of the model's code: what it evaluates is what a call returns; no condition beyond the theorems' own hypotheses. -/
import Derived.Orders
import Derived.Laws.CopyRow
import Derived.Laws.Rows
import Derived.KernelRfl
set_option linter.unusedVariables false
namespace Go.Ev
open Go

/-! Types of what is told, their values, and what it is to read as one. -/
inductive Ty where
  | unit
  | int (k : IntKind)
  | bool
  | str
  | pair (a b : Ty)
  | sl (t : Ty)
  | rm (t : Ty)
  deriving DecidableEq

abbrev Ty.T : Ty → Type
  | .unit => Unit
  | .int _ => Int
  | .bool => Bool
  | .str => ByteArray
  | .pair a b => a.T × b.T
  | .sl t => List t.T
  | .rm t => List t.T × List t.T

def Ty.size : Ty → Nat
  | .unit => 0
  | .int _ => 1
  | .bool => 1
  | .str => 1
  | .pair a b => a.size + b.size
  | .sl _ => 1
  | .rm _ => 1

def Ty.flat : Ty → Bool
  | .unit => true
  | .int _ => true
  | .bool => true
  | .str => true
  | .pair a b => a.flat && b.flat
  | .sl _ => false
  | .rm _ => false

def Ty.dflt : (t : Ty) → t.T
  | .unit => ()
  | .int _ => 0
  | .bool => false
  | .str => .empty
  | .pair a b => (a.dflt, b.dflt)
  | .sl _ => []
  | .rm _ => ([], [])

/-- A row: 'xs' read at the slice's header, the blocks 'F' met on the way. -/
def RowR {α : Type} (own : Bool) (w : World) (sz : Nat) (R : α → List Value → List Nat → Prop) (xs : List α) (A : Option Addr) (n c : Nat) (F : List Nat) : Prop :=
  n = xs.length ∧ n ≤ c ∧ ((xs = [] ∧ F = [] ∧ (own = true → c = 0)) ∨
    ∃ (b o : Nat) (arr : Array Value) (e : TypeId) (fr : Nat × Nat) (Fs : List (List Nat)) (G : List Nat), A = some ⟨b, o, none⟩ ∧ w.heap[b]? = some (.cells arr e fr) ∧ (own = true → fr = (0, 0)) ∧
      o + (if own then c else n) * sz ≤ arr.size ∧ F = b :: (Fs.flatten ++ G) ∧ (∀ k ∈ G, k < w.heap.size) ∧ Fs.length = xs.length ∧
      ∀ i x Fi, xs[i]? = some x → Fs[i]? = some Fi → R x ((arr.toList.drop (o + i * sz)).take sz) Fi)

def RE (own : Bool) (w : World) : (t : Ty) → t.T → List Value → List Nat → Prop
  | .unit, _, cs, F => cs = [] ∧ F = []
  | .int k, n, cs, F => cs = [.int k n] ∧ F = []
  | .bool, b, cs, F => cs = [.bool b] ∧ F = []
  | .str, s, cs, F => cs = [.string s] ∧ F = []
  | .pair a b, x, cs, F => ∃ c1 c2 F1 F2, cs = c1 ++ c2 ∧ F = F1 ++ F2 ∧ RE own w a x.1 c1 F1 ∧ RE own w b x.2 c2 F2
  | .sl t, xs, cs, F => ∃ A n c, cs = [.slice A n c] ∧ RowR own w t.size (RE own w t) xs A n c F
  | .rm t, x, cs, F => ∃ A n c, cs = [.slice A n c] ∧ n = x.1.length ∧ RowR own w t.size (RE own w t) (x.1 ++ x.2) A (x.1 ++ x.2).length c F

theorem RE_len {own w} : ∀ {t : Ty} {x cs F}, RE own w t x cs F → cs.length = t.size
  | .unit, _, _, _, h => by simp [h.1, Ty.size]
  | .int _, _, _, _, h => by simp [h.1, Ty.size]
  | .bool, _, _, _, h => by simp [h.1, Ty.size]
  | .str, _, _, _, h => by simp [h.1, Ty.size]
  | .pair _ _, _, _, _, h => by
    obtain ⟨c1, c2, F1, F2, rfl, rfl, h1, h2⟩ := h
    simp [Ty.size, RE_len h1, RE_len h2]
  | .sl _, _, _, _, h => by
    obtain ⟨A, n, c, rfl, _⟩ := h
    simp [Ty.size]
  | .rm _, _, _, _, h => by
    obtain ⟨A, n, c, rfl, _⟩ := h
    simp [Ty.size]

theorem RowR_mono {α : Type} {own own' : Bool} {w w' : World} {sz : Nat} {R R' : α → List Value → List Nat → Prop} {xs : List α} {A n c F}
    (ho : own' = true → own = true) (hw : ∀ b ∈ F, w'.heap[b]? = w.heap[b]?) (hR : ∀ x cs Fi, (∀ b ∈ Fi, b ∈ F) → R x cs Fi → R' x cs Fi)
    (h : RowR own w sz R xs A n c F) : RowR own' w' sz R' xs A n c F := by
  obtain ⟨hn, hc, h | ⟨b, o, arr, e, fr, Fs, G, hA, hb, hf, hs, hF, hG, hl, hel⟩⟩ := h
  · exact ⟨hn, hc, .inl ⟨h.1, h.2.1, fun h' => h.2.2 (ho h')⟩⟩
  · refine ⟨hn, hc, .inr ⟨b, o, arr, e, fr, Fs, G, hA, ?_, fun h' => hf (ho h'), ?_, hF, ?_, hl, fun i x Fi hx hFi => hR _ _ _ ?_ (hel i x Fi hx hFi)⟩⟩
    · rw [hw b (by simp [hF]), hb]
    · refine Nat.le_trans (Nat.add_le_add_left (Nat.mul_le_mul_right _ ?_) _) hs
      cases own' <;> cases own <;> simp_all
    · intro k hk
      have h1 := hw k (by rw [hF]; simp [hk])
      have h2 := hG k hk
      rw [Array.getElem?_eq_getElem h2] at h1
      exact (Array.getElem?_eq_some_iff.1 h1).1
    · intro b' hb'
      rw [hF]
      refine List.mem_cons_of_mem _ (List.mem_append.2 (.inl (List.mem_flatten.2 ⟨Fi, List.mem_of_getElem? hFi, hb'⟩)))

theorem RE_mono {own own' : Bool} {w w' : World} (ho : own' = true → own = true) : ∀ {t : Ty} {x cs F}, (∀ b ∈ F, w'.heap[b]? = w.heap[b]?) → RE own w t x cs F → RE own' w' t x cs F
  | .unit, _, _, _, _, h => h
  | .int _, _, _, _, _, h => h
  | .bool, _, _, _, _, h => h
  | .str, _, _, _, _, h => h
  | .pair _ _, _, _, _, hw, h => by
    obtain ⟨c1, c2, F1, F2, rfl, rfl, h1, h2⟩ := h
    exact ⟨c1, c2, F1, F2, rfl, rfl, RE_mono ho (fun b hb => hw b (by simp [hb])) h1, RE_mono ho (fun b hb => hw b (by simp [hb])) h2⟩
  | .sl _, _, _, _, hw, h => by
    obtain ⟨A, n, c, rfl, hr⟩ := h
    exact ⟨A, n, c, rfl, RowR_mono ho hw (fun x cs Fi hF h => RE_mono ho (fun b hb => hw b (hF b hb)) h) hr⟩
  | .rm _, _, _, _, hw, h => by
    obtain ⟨A, n, c, rfl, hn, hr⟩ := h
    exact ⟨A, n, c, rfl, hn, RowR_mono ho hw (fun x cs Fi hF h => RE_mono ho (fun b hb => hw b (hF b hb)) h) hr⟩

theorem RE_frame {own : Bool} {w w' : World} {t : Ty} {x cs F} (hw : ∀ b ∈ F, w'.heap[b]? = w.heap[b]?) (h : RE own w t x cs F) : RE own w' t x cs F := RE_mono id hw h
theorem RE_ro {own : Bool} {w : World} {t : Ty} {x cs F} (h : RE own w t x cs F) : RE false w t x cs F := RE_mono (by simp) (fun _ _ => rfl) h

theorem RowR_lt {α : Type} {own : Bool} {w : World} {sz : Nat} {R : α → List Value → List Nat → Prop} {xs : List α} {A n c F}
    (hR : ∀ x cs Fi, R x cs Fi → ∀ b ∈ Fi, b < w.heap.size) (h : RowR own w sz R xs A n c F) : ∀ b ∈ F, b < w.heap.size := by
  obtain ⟨hn, hc, h | ⟨b, o, arr, e, fr, Fs, G, hA, hb, hf, hs, hF, hG, hl, hel⟩⟩ := h
  · rw [h.2.1]; simp
  · intro b' hb'
    rw [hF] at hb'
    rcases List.mem_cons.1 hb' with rfl | hm
    · exact (Array.getElem?_eq_some_iff.1 hb).1
    rcases List.mem_append.1 hm with hm | hm
    · obtain ⟨Fi, hFi, hm⟩ := List.mem_flatten.1 hm
      obtain ⟨i, hi, hFi⟩ := List.getElem_of_mem hFi
      have hx : i < xs.length := by omega
      exact hR _ _ _ (hel i xs[i] Fi (List.getElem?_eq_getElem hx) (by rw [List.getElem?_eq_getElem hi, hFi])) _ hm
    · exact hG _ hm

theorem RE_lt {own : Bool} {w : World} : ∀ {t : Ty} {x cs F}, RE own w t x cs F → ∀ b ∈ F, b < w.heap.size
  | .unit, _, _, _, h => by rw [h.2]; simp
  | .int _, _, _, _, h => by rw [h.2]; simp
  | .bool, _, _, _, h => by rw [h.2]; simp
  | .str, _, _, _, h => by rw [h.2]; simp
  | .pair _ _, _, _, _, h => by
    obtain ⟨c1, c2, F1, F2, rfl, rfl, h1, h2⟩ := h
    intro b hb
    rcases List.mem_append.1 hb with hb | hb
    · exact RE_lt h1 b hb
    · exact RE_lt h2 b hb
  | .sl _, _, _, _, h => by
    obtain ⟨A, n, c, rfl, hr⟩ := h
    exact RowR_lt (fun x cs Fi h => RE_lt h) hr
  | .rm _, _, _, _, h => by
    obtain ⟨A, n, c, rfl, _, hr⟩ := h
    exact RowR_lt (fun x cs Fi h => RE_lt h) hr

theorem RE_one {own : Bool} {w : World} : ∀ {t : Ty} {x cs F}, RE own w t x cs F → ∀ v ∈ cs, v.oneCell' = true
  | .unit, _, _, _, h => by rw [h.1]; simp
  | .int _, _, _, _, h => by rw [h.1]; simp [Value.oneCell']
  | .bool, _, _, _, h => by rw [h.1]; simp [Value.oneCell']
  | .str, _, _, _, h => by rw [h.1]; simp [Value.oneCell']
  | .pair _ _, _, _, _, h => by
    obtain ⟨c1, c2, F1, F2, rfl, rfl, h1, h2⟩ := h
    intro b hb
    rcases List.mem_append.1 hb with hb | hb
    · exact RE_one h1 b hb
    · exact RE_one h2 b hb
  | .sl _, _, _, _, h => by
    obtain ⟨A, n, c, rfl, hr⟩ := h
    simp [Value.oneCell']
  | .rm _, _, _, _, h => by
    obtain ⟨A, n, c, rfl, hr⟩ := h
    simp [Value.oneCell']

theorem RE_flat {own : Bool} {w : World} : ∀ {t : Ty} {x cs F}, t.flat = true → RE own w t x cs F → F = []
  | .unit, _, _, _, _, h => h.2
  | .int _, _, _, _, _, h => h.2
  | .bool, _, _, _, _, h => h.2
  | .str, _, _, _, _, h => h.2
  | .pair _ _, _, _, _, hf, h => by
    obtain ⟨c1, c2, F1, F2, rfl, rfl, h1, h2⟩ := h
    simp [Ty.flat] at hf
    rw [RE_flat hf.1 h1, RE_flat hf.2 h2]
    rfl
  | .sl _, _, _, _, hf, _ => by simp [Ty.flat] at hf
  | .rm _, _, _, _, hf, _ => by simp [Ty.flat] at hf

theorem RE_flat_own {own own' : Bool} {w w' : World} : ∀ {t : Ty} {x cs F}, t.flat = true → RE own w t x cs F → RE own' w' t x cs F
  | .unit, _, _, _, _, h => h
  | .int _, _, _, _, _, h => h
  | .bool, _, _, _, _, h => h
  | .str, _, _, _, _, h => h
  | .pair _ _, _, _, _, hf, h => by
    obtain ⟨c1, c2, F1, F2, rfl, rfl, h1, h2⟩ := h
    simp [Ty.flat] at hf
    exact ⟨c1, c2, F1, F2, rfl, rfl, RE_flat_own hf.1 h1, RE_flat_own hf.2 h2⟩
  | .sl _, _, _, _, hf, _ => by simp [Ty.flat] at hf
  | .rm _, _, _, _, hf, _ => by simp [Ty.flat] at hf

/-- the first part of a row -/
theorem RowR_pre {α : Type} {own : Bool} {w : World} {sz : Nat} {R : α → List Value → List Nat → Prop} {xs ys : List α} {A : Option Addr} {c : Nat} {F : List Nat} (hR : ∀ x cs Fi, R x cs Fi → ∀ b ∈ Fi, b < w.heap.size)
    (h : RowR own w sz R (xs ++ ys) A (xs ++ ys).length c F) : RowR own w sz R xs A xs.length c F := by
  have hlt := RowR_lt hR h
  obtain ⟨hn, hc, h | ⟨b, o, arr, e, fr, Fs, G, hA, hb, hf, hs, hF, hG, hl, hel⟩⟩ := h
  · refine ⟨rfl, ?_, .inl ⟨(List.append_eq_nil_iff.1 h.1).1, h.2⟩⟩
    simp at hc; omega
  · have hln : xs.length ≤ (xs ++ ys).length := by simp
    refine ⟨rfl, by omega, .inr ⟨b, o, arr, e, fr, Fs.take xs.length, (Fs.drop xs.length).flatten ++ G, hA, hb, hf, ?_, ?_, fun k hk => hlt k ?_, ?_, fun i x Fi hx hFi => ?_⟩⟩
    · refine Nat.le_trans (Nat.add_le_add_left (Nat.mul_le_mul_right _ ?_) _) hs
      cases own <;> simp
    · rw [hF, ← List.append_assoc, ← List.flatten_append, List.take_append_drop]
    · rw [hF]
      refine List.mem_cons_of_mem _ ?_
      rcases List.mem_append.1 hk with hk | hk
      · obtain ⟨Fi, hFi, hm⟩ := List.mem_flatten.1 hk
        exact List.mem_append.2 (.inl (List.mem_flatten.2 ⟨Fi, List.mem_of_mem_drop hFi, hm⟩))
      · exact List.mem_append.2 (.inr hk)
    · rw [List.length_take, hl, List.length_append]; omega
    · have hi := (List.getElem?_eq_some_iff.1 hx).1
      rw [List.getElem?_take, if_pos hi] at hFi
      exact hel i x Fi (by rw [List.getElem?_append_left hi]; exact hx) hFi

theorem RowR_map {α β : Type} {own : Bool} {w : World} {sz : Nat} {R : α → List Value → List Nat → Prop} {R' : β → List Value → List Nat → Prop} {f : α → β} (hR : ∀ x cs Fi, R x cs Fi → R' (f x) cs Fi) {xs : List α} {A : Option Addr} {n c : Nat} {F : List Nat}
    (h : RowR own w sz R xs A n c F) : RowR own w sz R' (xs.map f) A n c F := by
  obtain ⟨hn, hc, h | ⟨b, o, arr, e, fr, Fs, G, hA, hb, hf, hs, hF, hG, hl, hel⟩⟩ := h
  · exact ⟨by simp [hn], hc, .inl ⟨by simp [h.1], h.2⟩⟩
  · refine ⟨by simp [hn], hc, .inr ⟨b, o, arr, e, fr, Fs, G, hA, hb, hf, hs, hF, hG, by simp [hl], fun i x Fi hx hFi => ?_⟩⟩
    rw [List.getElem?_map] at hx
    obtain ⟨y, hy, rfl⟩ := Option.map_eq_some_iff.1 hx
    exact hR _ _ _ (hel i y Fi hy hFi)

/-- a value told as one of another type: what stands behind is forgotten -/
def castF (t t' : Ty) : Option (t.T → t'.T) :=
  if h : t = t' then some (fun x => h ▸ x) else
  match t, t' with
  | .rm a, .sl b => if h : a = b then some (fun x => h ▸ x.1) else match castF a b with
    | some f => some fun x => x.1.map f
    | none => none
  | .sl a, .sl b => match castF a b with
    | some f => some fun x => x.map f
    | none => none
  | .pair a b, .pair c d => match castF a c, castF b d with
    | some f, some g => some fun x => (f x.1, g x.2)
    | _, _ => none
  | _, _ => none

theorem castF_size : ∀ {t t' : Ty} {f}, castF t t' = some f → t.size = t'.size := by
  intro t
  induction t with
  | pair a b iha ihb =>
    intro t' f h
    unfold castF at h
    split at h
    · rename_i e; rw [e]
    · cases t' with
      | pair c d =>
        simp only at h
        split at h
        · rename_i f1 g1 h1 h2
          simp [Ty.size, iha h1, ihb h2]
        · cases h
      | _ => cases h
  | sl a iha =>
    intro t' f h
    unfold castF at h
    split at h
    · rename_i e; rw [e]
    · cases t' <;> first | rfl | cases h
  | rm a iha =>
    intro t' f h
    unfold castF at h
    split at h
    · rename_i e; rw [e]
    · cases t' <;> first | rfl | cases h
  | _ =>
    intro t' f h
    unfold castF at h
    split at h
    · rename_i e; rw [e]
    · cases h

theorem RE_cast {own : Bool} {w : World} : ∀ {t t' : Ty} {f : t.T → t'.T} {x : t.T} {cs F}, castF t t' = some f → RE own w t x cs F → RE own w t' (f x) cs F := by
  intro t
  induction t with
  | pair a b iha ihb =>
    intro t' f x cs F h hx
    unfold castF at h
    split at h
    · rename_i e; subst e; cases h; exact hx
    · cases t' with
      | pair c d =>
        simp only at h
        split at h
        · rename_i f1 g1 h1 h2
          cases h
          obtain ⟨c1, c2, F1, F2, rfl, rfl, q1, q2⟩ := hx
          exact ⟨c1, c2, F1, F2, rfl, rfl, iha h1 q1, ihb h2 q2⟩
        · cases h
      | _ => cases h
  | sl a iha =>
    intro t' f x cs F h hx
    unfold castF at h
    split at h
    · rename_i e; subst e; cases h; exact hx
    · cases t' with
      | sl b =>
        simp only at h
        split at h
        · rename_i g hg
          cases h
          obtain ⟨A, n, c, rfl, hr⟩ := hx
          refine ⟨A, n, c, rfl, ?_⟩
          rw [← castF_size hg]
          exact RowR_map (R := RE own w a) (fun x cs Fi => iha hg) hr
        · cases h
      | _ => cases h
  | rm a iha =>
    intro t' f x cs F h hx
    unfold castF at h
    split at h
    · rename_i e; subst e; cases h; exact hx
    · cases t' with
      | sl b =>
        simp only at h
        split at h
        · rename_i e
          subst e
          cases h
          obtain ⟨A, n, c, rfl, hn, hr⟩ := hx
          exact ⟨A, n, c, rfl, by rw [hn]; exact RowR_pre (R := RE own w a) (fun x cs Fi h => RE_lt h) hr⟩
        · split at h
          · rename_i g hg
            cases h
            obtain ⟨A, n, c, rfl, hn, hr⟩ := hx
            refine ⟨A, n, c, rfl, ?_⟩
            rw [hn, ← castF_size hg]
            exact RowR_map (R := RE own w a) (fun x cs Fi => iha hg) (RowR_pre (fun x cs Fi h => RE_lt h) hr)
          · cases h
      | _ => cases h
  | _ =>
    intro t' f x cs F h hx
    unfold castF at h
    split at h
    · rename_i e; subst e; cases h; exact hx
    · cases h

end Go.Ev
