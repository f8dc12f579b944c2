/- A part of a verified evaluator of the model's code: what it evaluates is what a call returns; no condition beyond the theorems' own hypotheses. -/
import Derived.Test.YtdlpejdadikggaaEv19
set_option linter.unusedVariables false
namespace Go.Ev
open Go

section
variable {X : Ctx} {σ σ' : St} {ι : Nat → Home} {a : Act} {w : World} {α A : Type} {nid : Nat}

theorem evOpsF_trace {C : Cfg} {ops : Array Oper} {r : A} : ∀ {l : List Oper} {nid : Nat} {s : St} {fs : List Fp} {K : St → List Fp → Option A}, evOpsF C ops l nid s fs K = some r →
    ∃ (σs : Nat → St) (gs : List Fp), gs.length = l.length ∧ σs 0 = s ∧
      (∀ i o f, l[i]? = some o → gs[i]? = some f → (gopPg C ops (nid + 8 * i) o).runP (σs i) [] [] = some ((), σs (i + 1), f.1, f.2)) ∧ K (σs l.length) (fs ++ gs) = some r
  | [], nid, s, fs, K, h => ⟨fun _ => s, [], rfl, rfl, by simp, by simpa [evOpsF] using h⟩
  | o :: l, nid, s, fs, K, h => by
    simp only [evOpsF] at h
    rw [runF_eq] at h
    cases hp : (gopPg C ops nid o).runP s [] [] with
    | none => rw [hp] at h; cases h
    | some q =>
      obtain ⟨u, s1, r1, w1⟩ := q
      rw [hp] at h
      simp only [Option.bind_some] at h
      obtain ⟨σs, gs, h1, h2, h3, h4⟩ := evOpsF_trace h
      refine ⟨fun i => match i with | 0 => s | i + 1 => σs i, (r1, w1) :: gs, by simp [h1], rfl, fun i o' f ho hf => ?_, by simpa using h4⟩
      cases i with
      | zero =>
        simp at ho hf
        subst ho; subst hf
        simp only [Nat.mul_zero, Nat.add_zero, hp, h2]
      | succ i =>
        simp at ho hf
        have := h3 i o' f ho hf
        rw [show nid + 8 * (i + 1) = nid + 8 + 8 * i by omega]
        exact this

theorem locBeq_self (l : Loc) : locBeq l l = true := by simp [locBeq, Nat.beq_refl]
theorem meetL_of {a b : List Loc} {l : Loc} (h : l ∈ a) (h' : l ∈ b) : meetL a b = true := by
  simp only [meetL, List.any_eq_true]
  exact ⟨l, h, l, h', locBeq_self l⟩

theorem indepAt_run {an : List (List Nat)} {fj : Fp} {j : Nat} : ∀ {l : List Fp} {i : Nat}, indepAt an fj j l i = true → ∀ k f, l[k]? = some f → conflictF f fj = true → i + k ∈ an.getD j []
  | [], i, _, k, f, h, _ => by simp at h
  | fi :: l, i, h, k, f, hk, hc => by
    simp only [indepAt, Bool.and_eq_true, Bool.or_eq_true] at h
    cases k with
    | zero =>
      simp at hk
      subst hk
      rcases h.1 with h1 | h1
      · rw [hc] at h1; cases h1
      · obtain ⟨x, hx, hxi⟩ := List.any_eq_true.1 h1
        rw [Nat.eq_of_beq_eq_true hxi] at hx
        exact hx
    | succ k =>
      simp at hk
      have := indepAt_run h.2 k f hk hc
      rw [show i + (k + 1) = i + 1 + k by omega]
      exact this

theorem indepF_run {an : List (List Nat)} : ∀ {l done : List Fp} {j : Nat}, indepF an done l j = true → done.length = j → ∀ p q f g, p < q → j ≤ q → (done ++ l)[p]? = some f → (done ++ l)[q]? = some g → conflictF f g = true → p ∈ an.getD q []
  | [], done, j, _, hd, p, q, f, g, hpq, hjq, hp, hq, hc => by
    simp only [List.append_nil] at hq
    have := (List.getElem?_eq_some_iff.1 hq).1
    omega
  | x :: l, done, j, h, hd, p, q, f, g, hpq, hjq, hp, hq, hc => by
    simp only [indepF, Bool.and_eq_true] at h
    by_cases e : q = j
    · subst e
      rw [List.getElem?_append_right (by omega)] at hq
      rw [hd] at hq
      simp at hq
      subst hq
      rw [List.getElem?_append_left (by omega)] at hp
      have := indepAt_run h.1 p f hp hc
      simpa using this
    · exact indepF_run (l := l) (done := done ++ [x]) (j := j + 1) h.2 (by simp [hd]) p q f g hpq (by omega) (by simpa using hp) (by simpa using hq) hc

theorem forwardB_run : ∀ {l : List Oper} {n : Nat}, forwardB l n = true → ∀ k o, l[k]? = some o → ∀ i ∈ directs o, i < n + k
  | [], n, _, k, o, h => by simp at h
  | x :: l, n, h, k, o, hk => by
    simp only [forwardB, Bool.and_eq_true] at h
    cases k with
    | zero =>
      simp at hk
      subst hk
      intro i hi
      have := List.all_eq_true.1 h.1.1 i hi
      have h2 : i < n := by
        simp only [Nat.blt] at this
        exact Nat.le_of_ble_eq_true this
      omega
    | succ k =>
      simp at hk
      intro i hi
      have := forwardB_run h.2 k o hk i hi
      omega

/-- what waits for what is there is there -/
theorem ancs_closed {D : Nat → Prop} : ∀ {l : List Oper} {acc : List (List Nat)}, (∀ k o, l[k]? = some o → D (acc.length + k) → ∀ i ∈ directs o, D i) → (∀ j, D j → ∀ x ∈ acc.getD j [], D x) →
    ∀ j, D j → ∀ x ∈ (ancs l acc).getD j [], D x
  | [], acc, _, h => h
  | o :: l, acc, hl, h => by
    simp only [ancs]
    apply ancs_closed
    · intro k o' hk hD i hi
      refine hl (k + 1) o' (by simpa using hk) ?_ i hi
      simp only [List.length_append, List.length_singleton] at hD
      rw [show acc.length + (k + 1) = acc.length + 1 + k by omega]
      exact hD
    · intro j hj x hx
      rw [List.getD_eq_getElem?_getD] at hx
      by_cases e : j < acc.length
      · rw [List.getElem?_append_left e, ← List.getD_eq_getElem?_getD] at hx
        exact h j hj x hx
      · by_cases e2 : j = acc.length
        · subst e2
          simp at hx
          rcases hx with hx | ⟨i, hi, hx⟩
          · exact hl 0 o (by simp) (by simpa using hj) x hx
          · have hDi := hl 0 o (by simp) (by simpa using hj) i hi
            exact h i hDi x (by rw [List.getD_eq_getElem?_getD]; exact hx)
        · rw [List.getElem?_append_right (by omega)] at hx
          rw [List.getElem?_eq_none (by simp; omega)] at hx
          simp at hx

/-- how many are left -/
def left (n : Nat) (listed : Array Bool) : Nat := ((List.range n).filter fun i => !listed.getD i true).length

theorem filter_less {l : List Nat} {p q : Nat → Bool} {i : Nat} (hi : i ∈ l) (hp : p i = true) (hq : q i = false) (h : ∀ j, q j = true → p j = true) : (l.filter q).length < (l.filter p).length := by
  induction l with
  | nil => simp at hi
  | cons x l ih =>
    have hle : ∀ m : List Nat, (m.filter q).length ≤ (m.filter p).length := by
      intro m
      induction m with
      | nil => simp
      | cons y m ihm =>
        simp only [List.filter_cons]
        by_cases hy : q y = true
        · rw [if_pos hy, if_pos (h y hy)]; simpa using ihm
        · rw [if_neg hy]; split
          · simp; omega
          · exact ihm
    simp only [List.filter_cons]
    rcases List.mem_cons.1 hi with rfl | hi
    · rw [if_pos hp, if_neg (by simp [hq])]
      have := hle l
      simp
      omega
    · by_cases hx : q x = true
      · rw [if_pos hx, if_pos (h x hx)]
        have := ih hi
        simpa using this
      · rw [if_neg hx]; split
        · have := ih hi; simp; omega
        · exact ih hi

/-- a region that draws its order: any order does what the text's own does -/
theorem draw_sound {ops : Array Oper} {Q : Exit → Act → World → Prop} (hC : CfgOk X.C) {σs : Nat → St} {fs : List Fp} {nid : Nat} (hlen : fs.length = ops.size)
    (htr : ∀ i o f, ops[i]? = some o → fs[i]? = some f → (gopPg X.C ops (nid + 8 * i) o).runP (σs i) [] [] = some ((), σs (i + 1), f.1, f.2)) (hind : indep ops fs = true)
    (hQ : ∀ ι a w, Rel X (σs ops.size) ι a w → Q .normal a w) :
    ∀ (fuel : Nat) (listed : Array Bool) (τ : St) (ι : Nat → Home) (a : Act) (w : World), Rel X τ ι a w → listed.size = ops.size → left ops.size listed ≤ fuel →
      (∀ j o, ops[j]? = some o → listed.getD j false = true → ∀ i ∈ directs o, listed.getD i false = true) →
      (∀ l, (∃ m f, listed.getD m false = true ∧ fs[m]? = some f ∧ l ∈ f.2 ∧ (∀ m' f', listed.getD m' false = true → fs[m']? = some f' → m < m' → l ∉ f'.2) ∧ agree τ (σs (m + 1)) l) ∨
        ((∀ m f, listed.getD m false = true → fs[m]? = some f → l ∉ f.2) ∧ agree τ (σs 0) l)) →
      wpAny X.C.P .any ops Q fuel listed a w := by
  -- what the check says
  simp only [indep, Bool.and_eq_true] at hind
  have hfw : ∀ k o, ops[k]? = some o → ∀ i ∈ directs o, i < k := by
    intro k o hk i hi
    have := forwardB_run hind.1 k o (by simpa using hk) i hi
    omega
  have hcf : ∀ p q f g, p < q → fs[p]? = some f → fs[q]? = some g → conflictF f g = true → p ∈ (ancs ops.toList []).getD q [] := by
    intro p q f g hpq hp hq hc
    exact indepF_run (done := []) hind.2 rfl p q f g hpq (Nat.zero_le _) (by simpa using hp) (by simpa using hq) hc
  -- a place that nobody writes on the way stays
  have hstay : ∀ l i k, i + k ≤ ops.size → (∀ m f, i ≤ m → m < i + k → fs[m]? = some f → l ∉ f.2) → agree (σs i) (σs (i + k)) l := by
    intro l i k
    induction k with
    | zero => intro _ _; exact agree_refl _ _
    | succ k ih =>
      intro hle hm
      have h1 := ih (by omega) (fun m f h1 h2 h3 => hm m f h1 (by omega) h3)
      have hlt : i + k < ops.size := by omega
      have ho : ops[i + k]? = some ops[i + k] := Array.getElem?_eq_getElem hlt
      have hf : fs[i + k]? = some fs[i + k] := List.getElem?_eq_getElem (by omega)
      have ht := htr _ _ _ ho hf
      obtain ⟨t', _, _, h3, _⟩ := runP_local _ _ (σs (i + k)) _ _ _ ht (fun l _ => agree_refl _ _)
      have := (h3 l (hm (i + k) _ (by omega) (by omega) hf)).2
      exact agree_trans h1 (agree_symm this)
  intro fuel
  induction fuel with
  | zero =>
    intro listed τ ι a w hR hsz hlf hcl hinv
    have hall : ∀ i, i < ops.size → listed.getD i true = true := by
      intro i hi
      cases hb : listed.getD i true with
      | true => rfl
      | false =>
        have : i ∈ (List.range ops.size).filter fun i => !listed.getD i true := List.mem_filter.2 ⟨List.mem_range.2 hi, by simp [hb]⟩
        have := List.length_pos_of_mem this
        simp only [left] at hlf
        omega
    have hall' : ∀ i, i < ops.size → listed.getD i false = true := by
      intro i hi
      have := hall i hi
      simpa [Array.getD, hsz, hi] using this
    refine ⟨?_, ?_⟩
    · simp only [Region.ready]
      apply List.filter_eq_nil_iff.2
      intro i hi
      have := hall i (List.mem_range.1 hi)
      simp [this]
    · have e : τ = σs ops.size := by
        apply agree_ext
        intro l
        rcases hinv l with ⟨m, f, h1, h2, h3, h4, h5⟩ | ⟨h1, h2⟩
        · have hm : m < fs.length := (List.getElem?_eq_some_iff.1 h2).1
          have := hstay l (m + 1) (ops.size - (m + 1)) (by omega) (fun m' f' hm1 hm2 hf' => h4 m' f' (hall' m' (by omega)) hf' (by omega))
          rw [show m + 1 + (ops.size - (m + 1)) = ops.size by omega] at this
          exact agree_trans h5 this
        · have := hstay l 0 ops.size (by omega) (fun m' f' _ hm2 hf' => h1 m' f' (hall' m' (by omega)) hf')
          rw [Nat.zero_add] at this
          exact agree_trans h2 this
      subst e
      exact hQ ι a w hR
  | succ fuel ih =>
    intro listed τ ι a w hR hsz hlf hcl hinv
    have hanc : ∀ j, listed.getD j false = true → ∀ x ∈ (ancs ops.toList []).getD j [], listed.getD x false = true := by
      apply ancs_closed (D := fun j => listed.getD j false = true)
      · intro k o hk hD i hi
        exact hcl k o (by simpa using hk) (by simpa using hD) i hi
      · intro j _ x hx; simp at hx
    refine ⟨fun hnil => ?_, fun i hi => ?_⟩
    · -- nothing is ready: all are listed
      have hall' : ∀ i, i < ops.size → listed.getD i false = true := by
        intro i
        induction i using Nat.strongRecOn with
        | _ i ihi =>
          intro hi
          cases hb : listed.getD i false with
          | true => rfl
          | false =>
            exfalso
            have hb' : listed.getD i true = false := by simpa [Array.getD, hsz, hi] using hb
            have : i ∈ Region.ready .any ops listed := by
              refine List.mem_filter.2 ⟨List.mem_range.2 hi, ?_⟩
              rw [Array.getElem?_eq_getElem hi]
              simp only [hb', Bool.not_false, Bool.true_and, Option.map_some, Option.getD_some, Array.all_eq_true_iff_forall_mem]
              intro e he
              cases hbn : Region.binds .any e with
              | false => simp
              | true =>
                have hd : e.on ∈ directs ops[i] := List.mem_map.2 ⟨e, List.mem_filter.2 ⟨by simpa using he, hbn⟩, rfl⟩
                have hlt := hfw i _ (Array.getElem?_eq_getElem hi) _ hd
                simp [ihi _ hlt (by omega)]
            rw [hnil] at this
            simp at this
      have e : τ = σs ops.size := by
        apply agree_ext
        intro l
        rcases hinv l with ⟨m, f, h1, h2, h3, h4, h5⟩ | ⟨h1, h2⟩
        · have hm : m < fs.length := (List.getElem?_eq_some_iff.1 h2).1
          have := hstay l (m + 1) (ops.size - (m + 1)) (by omega) (fun m' f' hm1 hm2 hf' => h4 m' f' (hall' m' (by omega)) hf' (by omega))
          rw [show m + 1 + (ops.size - (m + 1)) = ops.size by omega] at this
          exact agree_trans h5 this
        · have := hstay l 0 ops.size (by omega) (fun m' f' _ hm2 hf' => h1 m' f' (hall' m' (by omega)) hf')
          rw [Nat.zero_add] at this
          exact agree_trans h2 this
      subst e
      exact hQ ι a w hR
    · -- one that is ready
      obtain ⟨hir, hrd⟩ := List.mem_filter.1 hi
      have hi' : i < ops.size := List.mem_range.1 hir
      have hio : ops[i]? = some ops[i] := Array.getElem?_eq_getElem hi'
      have hif : fs[i]? = some fs[i] := List.getElem?_eq_getElem (by omega)
      rw [hio] at hrd
      simp only [Option.map_some, Option.getD_some, Bool.and_eq_true, Bool.not_eq_true', Array.all_eq_true_iff_forall_mem] at hrd
      obtain ⟨hnl, hdeps⟩ := hrd
      have hnl' : listed.getD i false = false := by simpa [Array.getD, hsz, hi'] using hnl
      have hdir : ∀ k ∈ directs ops[i], listed.getD k false = true := by
        intro k hk
        obtain ⟨e, he, rfl⟩ := List.mem_map.1 hk
        obtain ⟨he, hb⟩ := List.mem_filter.1 he
        have := hdeps e (by simpa using he)
        simpa [hb] using this
      -- what it waits for is there
      have hanci : ∀ x ∈ (ancs ops.toList []).getD i [], listed.getD x false = true := by
        intro x hx
        -- listing it too, all stays closed
        have hcl2 : ∀ j, (listed.getD j false = true ∨ j = i) → ∀ x ∈ (ancs ops.toList []).getD j [], (listed.getD x false = true ∨ x = i) := by
          apply ancs_closed (D := fun j => listed.getD j false = true ∨ j = i)
          · intro k o hk hD m hm
            simp at hk hD
            rcases hD with hD | rfl
            · exact .inl (hcl k o hk (by simpa using hD) m hm)
            · have : o = ops[k] := by rw [hio] at hk; exact (Option.some.inj hk).symm
              subst this
              exact .inl (hdir m hm)
          · intro j _ x hx; simp at hx
        rcases hcl2 i (.inr rfl) x hx with h | rfl
        · exact h
        · -- nothing waits for itself: its ancestors come before
          exfalso
          have hlt : ∀ j, (j ≤ x) → ∀ y ∈ (ancs ops.toList []).getD j [], y ≤ x := by
            apply ancs_closed (D := fun j => j ≤ x)
            · intro k o hk hD m hm
              simp at hk hD
              have := hfw k o hk m hm
              omega
            · intro j _ x hx; simp at hx
          have hlt2 : ∀ (l : List Oper) (acc : List (List Nat)), (∀ k o, l[k]? = some o → ∀ m ∈ directs o, m < acc.length + k) → (∀ j y, y ∈ acc.getD j [] → y < j) → ∀ j y, y ∈ (ancs l acc).getD j [] → y < j := by
            intro l
            induction l with
            | nil => intro acc _ h; exact h
            | cons o l ihl =>
              intro acc hl h
              simp only [ancs]
              apply ihl
              · intro k o' hk m hm
                have := hl (k + 1) o' (by simpa using hk) m hm
                simp
                omega
              · intro j y hy
                rw [List.getD_eq_getElem?_getD] at hy
                by_cases e : j < acc.length
                · rw [List.getElem?_append_left e, ← List.getD_eq_getElem?_getD] at hy
                  exact h j y hy
                · by_cases e2 : j = acc.length
                  · subst e2
                    simp at hy
                    rcases hy with hy | ⟨m, hm, hy⟩
                    · have := hl 0 o (by simp) y hy; omega
                    · have h1 := hl 0 o (by simp) m hm
                      have h2 := h m y (by rw [List.getD_eq_getElem?_getD]; exact hy)
                      omega
                  · rw [List.getElem?_append_right (by omega), List.getElem?_eq_none (by simp; omega)] at hy
                    simp at hy
          have := hlt2 ops.toList [] (by intro k o hk m hm; have := hfw k o (by simpa using hk) m hm; simpa using this) (by intro j y hy; simp at hy) x x hx
          omega
      -- it finds what it found in the text's own order
      have hrd : ∀ l, l ∈ (fs[i]).1 ∨ l ∈ (fs[i]).2 → agree (σs i) τ l := by
        intro l hl
        have hconf1 : ∀ m f, fs[m]? = some f → l ∈ f.2 → m < i → listed.getD m false = true := by
          intro m f hf hlf hmi
          refine hanci m (hcf m i f _ hmi hf hif ?_)
          simp only [conflictF, Bool.or_eq_true]
          rcases hl with hl | hl
          · exact .inl (.inl (meetL_of hlf hl))
          · exact .inl (.inr (meetL_of hlf hl))
        have hconf2 : ∀ m f, fs[m]? = some f → l ∈ f.2 → listed.getD m false = true → m < i := by
          intro m f hf hlf hlm
          rcases Nat.lt_trichotomy m i with h | h | h
          · exact h
          · subst h; rw [hnl'] at hlm; cases hlm
          · exfalso
            have : i ∈ (ancs ops.toList []).getD m [] := by
              refine hcf i m _ f h hif hf ?_
              simp only [conflictF, Bool.or_eq_true]
              rcases hl with hl | hl
              · exact .inr (meetL_of hlf hl)
              · exact .inl (.inr (meetL_of hl hlf))
            have := hanc m hlm i this
            rw [hnl'] at this; cases this
        rcases hinv l with ⟨m, f, h1, h2, h3, h4, h5⟩ | ⟨h1, h2⟩
        · have hmi := hconf2 m f h2 h3 h1
          have := hstay l (m + 1) (i - (m + 1)) (by omega) (fun m' f' hm1 hm2 hf' hlf' => h4 m' f' (hconf1 m' f' hf' hlf' (by omega)) hf' (by omega) hlf')
          rw [show m + 1 + (i - (m + 1)) = i by omega] at this
          exact agree_symm (agree_trans h5 this)
        · have := hstay l 0 i (by omega) (fun m' f' _ hm2 hf' hlf' => h1 m' f' (hconf1 m' f' hf' hlf' (by omega)) hf' hlf')
          rw [Nat.zero_add] at this
          exact agree_symm (agree_trans h2 this)
      obtain ⟨τ', hτ, hw1, hw2, _⟩ := runP_local _ _ τ _ _ _ (htr i _ _ hio hif) (fun l hl => hrd l (by
        rcases hl with hl | hl
        · exact .inl hl
        · simp at hl))
      have hrun := runP_run _ _ _ _ _ hτ
      refine gop_sound hC hio hR hrun (fun ι' a' w' hR' => ?_)
      have hget : ∀ j, (listed.setIfInBounds i true).getD j false = true ↔ listed.getD j false = true ∨ j = i := by
        intro j
        rw [Array.getD_eq_getD_getElem?, Array.getD_eq_getD_getElem?, Array.getElem?_setIfInBounds]
        by_cases e : i = j
        · subst e
          have : i < listed.size := by omega
          simp [this]
        · simp [e]
          intro e2; exact absurd e2.symm e
      refine ih (listed.setIfInBounds i true) τ' ι' a' w' hR' (by simp [hsz]) ?_ ?_ ?_
      · have : left ops.size (listed.setIfInBounds i true) < left ops.size listed := by
          refine filter_less (i := i) hir (by simp [hnl]) ?_ ?_
          · rw [Array.getD_eq_getD_getElem?, Array.getElem?_setIfInBounds]
            have : i < listed.size := by omega
            simp [this]
          · intro j hj
            rw [Array.getD_eq_getD_getElem?, Array.getElem?_setIfInBounds] at hj
            rw [Array.getD_eq_getD_getElem?]
            by_cases e : i = j
            · subst e
              have : i < listed.size := by omega
              simp [this] at hj
            · simpa [e] using hj
        omega
      · intro j o ho hj k hk
        rw [hget] at hj ⊢
        rcases hj with hj | rfl
        · exact .inl (hcl j o ho hj k hk)
        · have : o = ops[j] := by rw [hio] at ho; exact (Option.some.inj ho).symm
          subst this
          exact .inl (hdir k hk)
      · intro l
        by_cases hl : l ∈ (fs[i]).2
        · left
          refine ⟨i, fs[i], (hget i).2 (.inr rfl), hif, hl, ?_, agree_symm (hw1 l hl)⟩
          intro m' f' hm' hf' hlt hlf'
          rcases (hget m').1 hm' with hm' | rfl
          · have : i ∈ (ancs ops.toList []).getD m' [] := by
              refine hcf i m' _ f' hlt hif hf' ?_
              simp only [conflictF, Bool.or_eq_true]
              exact .inl (.inr (meetL_of hl hlf'))
            have := hanc m' hm' i this
            rw [hnl'] at this; cases this
          · omega
        · have hag := (hw2 l hl).1
          rcases hinv l with ⟨m, f, h1, h2, h3, h4, h5⟩ | ⟨h1, h2⟩
          · left
            refine ⟨m, f, (hget m).2 (.inl h1), h2, h3, ?_, agree_trans hag h5⟩
            intro m' f' hm' hf' hlt
            rcases (hget m').1 hm' with hm' | rfl
            · exact h4 m' f' hm' hf' hlt
            · rw [hif] at hf'
              cases hf'
              exact hl
          · right
            refine ⟨fun m f hm hf => ?_, agree_trans hag h2⟩
            rcases (hget m).1 hm with hm | rfl
            · exact h1 m f hm hf
            · rw [hif] at hf
              cases hf
              exact hl
end
end Go.Ev
