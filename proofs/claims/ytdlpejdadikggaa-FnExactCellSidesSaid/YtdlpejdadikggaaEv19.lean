/- A part of a verified evaluator of the model's code: what it evaluates is what a call returns; no condition beyond the theorems' own hypotheses. -/
import Derived.Test.YtdlpejdadikggaaEv18
set_option linter.unusedVariables false
namespace Go.Ev
open Go

section
variable {X : Ctx} {σ σ' : St} {ι : Nat → Home} {a : Act} {w : World} {α A : Type} {nid : Nat}

theorem getD_some {a : Array Value} {t : Nat} {b : Bool} (h : a.getD t undef = .bool b) : a[t]? = some (.bool b) := by
  rw [Array.getD_eq_getD_getElem?] at h
  cases he : a[t]? with
  | none => rw [he] at h; simp [undef] at h
  | some v => rw [he] at h; simp at h; rw [h]

/-- an operation in its region -/
theorem gop_sound {ops : Array Oper} {i : Nat} {o : Oper} (hC : CfgOk X.C) (hi : ops[i]? = some o) (hR : Rel X σ ι a w) (h : (gopPg X.C ops nid o).run σ = some ((), σ')) {K : Act → World → Prop} {Q : Exit → Act → World → Prop}
    (hK : ∀ ι' a' w', Rel X σ' ι' a' w' → K a' w') : wpOp X.C.P ops Q i K a w := by
  unfold wpOp
  rw [hi]
  simp only
  unfold gopPg at h
  have hput : (putD X.C o.dst (.sc .und) (.ret ())).run σ = some ((), σ') → K (a.put o.dst undef) w := by
    intro h
    obtain ⟨σ1, hR1, h⟩ := putD_run hR (v := .sc .und) (u := undef) (RAV_sc.2 rfl) h
    simp only [Pg.run, Option.some.injEq, Prod.mk.injEq, true_and] at h
    subst h
    exact hK _ _ _ hR1
  split at h
  · rename_i hg
    have : Region.wanted o (yielded ops a.tmps) = true := by simp [Region.wanted, hg]
    rw [if_pos this]
    exact .inl (op_sound hC hR h K Q hK)
  · rename_i j want hg
    split at h
    · rename_i t ht
      have hy : ∀ b, σ.T t = .sc (.v (.bool b)) → yielded ops a.tmps j = some b := by
        intro b hb
        have := getD_some (tmp_bool hR hb)
        simp [yielded, ht, this]
      have hu : isUnd (σ.T t) = true → yielded ops a.tmps j = none := by
        intro hv
        have htm := hR.tm t
        unfold isUnd at hv
        split at hv
        · rename_i he
          rw [he] at htm
          have : a.tmps.getD t undef = undef := RAV_sc.1 htm
          rw [Array.getD_eq_getD_getElem?] at this
          simp only [yielded, ht, Option.bind_some]
          cases hx : a.tmps[t]? with
          | none => rfl
          | some x =>
            rw [hx] at this
            simp only [Option.getD_some] at this
            subst this
            rfl
        · cases hv
      have hnw : yielded ops a.tmps j = none → Region.wanted o (yielded ops a.tmps) = false := by
        intro hy
        simp [Region.wanted, hg, hy]
      cases want with
      | true =>
        simp only [Pg.run] at h
        cases hv : isUnd (σ.T t) with
        | true =>
          rw [hv] at h
          rw [if_neg (by rw [hnw (hu hv)]; simp)]
          exact hput h
        | false =>
        rw [hv] at h
        simp only [cond_false] at h
        obtain ⟨b, hb, h⟩ := brT_run h
        have hyb := hy b hb
        cases b with
        | true =>
          rw [if_pos (by simp [Region.wanted, hg, hyb])]
          exact .inl (op_sound hC hR h K Q hK)
        | false =>
          rw [if_neg (by simp [Region.wanted, hg, hyb])]
          exact hput h
      | false =>
        simp only [Pg.run] at h
        cases hv : isUnd (σ.T t) with
        | true =>
          rw [hv] at h
          rw [if_neg (by rw [hnw (hu hv)]; simp)]
          exact hput h
        | false =>
        rw [hv] at h
        simp only [cond_false] at h
        obtain ⟨b, hb, h⟩ := brT_run h
        have hyb := hy b hb
        cases b with
        | true =>
          rw [if_neg (by simp [Region.wanted, hg, hyb])]
          exact hput h
        | false =>
          rw [if_pos (by simp [Region.wanted, hg, hyb])]
          exact .inl (op_sound hC hR h K Q hK)
    · cases h

/-- a region without a draw -/
theorem evOps_sound {ops : Array Oper} {Q : Exit → Act → World → Prop} (hC : CfgOk X.C) {K : St → Option A} {r : A} (hK : ∀ σ' ι' a' w', Rel X σ' ι' a' w' → K σ' = some r → Q .normal a' w') :
    ∀ {l : List Oper} {k nid : Nat} {σ : St} {ι : Nat → Home} {a : Act} {w : World}, l = ops.toList.drop k → Rel X σ ι a w → evOps X.C ops l nid σ K = some r → wpOps X.C.P ops Q (List.range' k l.length) a w
  | [], k, nid, σ, ι, a, w, hl, hR, h => hK σ ι a w hR h
  | o :: l, k, nid, σ, ι, a, w, hl, hR, h => by
    simp only [List.length_cons, List.range'_succ, wpOps_cons]
    simp only [evOps] at h
    rw [Pg.runK_eq] at h
    cases hp : (gopPg X.C ops nid o).run σ with
    | none => rw [hp] at h; cases h
    | some q =>
      obtain ⟨u, σ1⟩ := q
      rw [hp] at h
      simp only [Option.bind_some] at h
      have hk : ops[k]? = some o := by
        have := congrArg (fun l => l[0]?) hl
        simp only [List.getElem?_cons_zero, List.getElem?_drop, Nat.add_zero] at this
        rw [← Array.getElem?_toList, ← this]
      refine gop_sound hC hk hR hp (fun ι' a' w' hR' => ?_)
      exact evOps_sound hC hK (k := k + 1) (by
        have := congrArg List.tail hl
        simp only [List.tail_cons, List.tail_drop] at this
        exact this) hR' h

/-! Regions that draw. -/
def agree (s t : St) (l : Loc) : Prop := if l.1 = true then s.H l.2 = t.H l.2 else s.T l.2 = t.T l.2

theorem agree_refl (s : St) (l : Loc) : agree s s l := by unfold agree; split <;> rfl
theorem agree_symm {s t : St} {l : Loc} (h : agree s t l) : agree t s l := by unfold agree at *; split <;> simp_all
theorem agree_trans {s t u : St} {l : Loc} (h : agree s t l) (h' : agree t u l) : agree s u l := by unfold agree at *; split <;> simp_all
theorem agree_ext {s t : St} (h : ∀ l, agree s t l) : s = t := by
  cases s with
  | mk T H =>
    cases t with
    | mk T' H' =>
      congr 1
      · funext i; have := h (false, i); simpa [agree] using this
      · funext i; have := h (true, i); simpa [agree] using this

abbrev four (α : Type) : Type := α × St × List Loc × List Loc
def Pg.runP (p : Pg α) (s : St) (r w : List Loc) : Option (four α) := p.runF s r w fun a s r w => some (a, s, r, w)

theorem runF_eq : ∀ (p : Pg α) (s : St) (r w : List Loc) (K : α → St → List Loc → List Loc → Option A), p.runF s r w K = (p.runP s r w).bind fun q => K q.1 q.2.1 q.2.2.1 q.2.2.2
  | .ret a, s, r, w, K => rfl
  | .get i k, s, r, w, K => runF_eq (k (s.T i)) s _ w K
  | .getB i k, s, r, w, K => runF_eq (k (s.H i)) s _ w K
  | .put i v k, s, r, w, K => runF_eq k _ r _ K
  | .putB i v k, s, r, w, K => runF_eq k _ r _ K
  | .br b x y, s, r, w, K => by
    cases b
    · exact runF_eq y s r w K
    · exact runF_eq x s r w K
  | .brT i x y, s, r, w, K => by
    simp only [Pg.runF, Pg.runP]
    split
    · rename_i b _
      cases b
      · exact runF_eq y _ _ w K
      · exact runF_eq x _ _ w K
    · rfl
  | .bnd o k, s, r, w, K => by
    cases o with
    | none => rfl
    | some a => exact runF_eq (k a) s r w K
  | .fail, s, r, w, K => rfl

theorem runP_run : ∀ (p : Pg α) (s : St) (r w : List Loc) (q : four α), p.runP s r w = some q → p.run s = some (q.1, q.2.1)
  | .ret a, s, r, w, q, h => by simp [Pg.runP, Pg.runF] at h; subst h; rfl
  | .get i k, s, r, w, q, h => runP_run (k (s.T i)) s _ w q h
  | .getB i k, s, r, w, q, h => runP_run (k (s.H i)) s _ w q h
  | .put i v k, s, r, w, q, h => runP_run k _ r _ q h
  | .putB i v k, s, r, w, q, h => runP_run k _ r _ q h
  | .br b x y, s, r, w, q, h => by
    cases b
    · exact runP_run y s r w q h
    · exact runP_run x s r w q h
  | .brT i x y, s, r, w, q, h => by
    simp only [Pg.runP, Pg.runF] at h
    simp only [Pg.run]
    split at h
    · rename_i b hb
      cases b
      · exact runP_run y _ _ w q h
      · exact runP_run x _ _ w q h
    · cases h
  | .bnd o k, s, r, w, q, h => by
    cases o with
    | none => cases h
    | some a => exact runP_run (k a) s r w q h
  | .fail, s, r, w, q, h => by cases h

theorem agree_setT {s t : St} {i : Nat} {v : AV} {l : Loc} (h : l ≠ (false, i) → agree s t l) : agree (s.setT i v) (t.setT i v) l := by
  obtain ⟨b, j⟩ := l
  cases b with
  | true => have := h (by simp); simpa [agree, St.setT] using this
  | false =>
    by_cases e : j = i
    · subst e; simp [agree, St.setT, Nat.beq_refl]
    · have := h (by simpa using e); simpa [agree, St.setT, beq_false e] using this
theorem agree_setH {s t : St} {i : Nat} {v : Blk} {l : Loc} (h : l ≠ (true, i) → agree s t l) : agree (s.setH i v) (t.setH i v) l := by
  obtain ⟨b, j⟩ := l
  cases b with
  | false => have := h (by simp); simpa [agree, St.setH] using this
  | true =>
    by_cases e : j = i
    · subst e; simp [agree, St.setH, Nat.beq_refl]
    · have := h (by simpa using e); simpa [agree, St.setH, beq_false e] using this
theorem setT_agree {s : St} {i : Nat} {v : AV} {l : Loc} (h : l ≠ (false, i)) : agree (s.setT i v) s l := by
  obtain ⟨b, j⟩ := l
  cases b with
  | true => simp [agree, St.setT]
  | false => have : j ≠ i := by simpa using h
             simp [agree, St.setT, beq_false this]
theorem setH_agree {s : St} {i : Nat} {v : Blk} {l : Loc} (h : l ≠ (true, i)) : agree (s.setH i v) s l := by
  obtain ⟨b, j⟩ := l
  cases b with
  | false => simp [agree, St.setH]
  | true => have : j ≠ i := by simpa using h
            simp [agree, St.setH, beq_false this]

/-- what an operation does rests on what it reads alone -/
theorem runP_local : ∀ (p : Pg α) (s t : St) (r w : List Loc) (q : four α), p.runP s r w = some q → (∀ l, l ∈ q.2.2.1 ∨ l ∈ w → agree s t l) →
    ∃ t', p.runP t r w = some (q.1, t', q.2.2.1, q.2.2.2) ∧ (∀ l ∈ q.2.2.2, agree q.2.1 t' l) ∧ (∀ l, l ∉ q.2.2.2 → agree t' t l ∧ agree q.2.1 s l) ∧ (∀ l ∈ r, l ∈ q.2.2.1) ∧ (∀ l ∈ w, l ∈ q.2.2.2)
  | .ret a, s, t, r, w, q, h, ha => by
    simp [Pg.runP, Pg.runF] at h
    subst h
    exact ⟨t, rfl, fun l hl => ha l (.inr hl), fun l _ => ⟨agree_refl _ _, agree_refl _ _⟩, fun _ h => h, fun _ h => h⟩
  | .get i k, s, t, r, w, q, h, ha => by
    obtain ⟨t', h1, h2, h3, h4, h5⟩ := runP_local (k (s.T i)) s t _ w q h ha
    have e : s.T i = t.T i := by have := ha (false, i) (.inl (h4 _ (by simp))); simpa [agree] using this
    exact ⟨t', by show (k (t.T i)).runP t _ w = _; rw [← e]; exact h1, h2, h3, fun l hl => h4 l (by simp [hl]), h5⟩
  | .getB i k, s, t, r, w, q, h, ha => by
    obtain ⟨t', h1, h2, h3, h4, h5⟩ := runP_local (k (s.H i)) s t _ w q h ha
    have e : s.H i = t.H i := by have := ha (true, i) (.inl (h4 _ (by simp))); simpa [agree] using this
    exact ⟨t', by show (k (t.H i)).runP t _ w = _; rw [← e]; exact h1, h2, h3, fun l hl => h4 l (by simp [hl]), h5⟩
  | .put i v k, s, t, r, w, q, h, ha => by
    have h0 := h
    obtain ⟨t', h1, h2, h3, h4, h5⟩ := runP_local k (s.setT i v) (t.setT i v) r _ q h (fun l hl => agree_setT (fun hne => ha l (by
      rcases hl with hl | hl
      · exact .inl hl
      · rcases List.mem_cons.1 hl with e | hl
        · exact absurd e hne
        · exact .inr hl)))
    refine ⟨t', h1, h2, fun l hl => ?_, h4, fun l hl => h5 l (List.mem_cons_of_mem _ hl)⟩
    have hne : l ≠ (false, i) := fun e => hl (h5 l (by rw [e]; simp))
    exact ⟨agree_trans (h3 l hl).1 (setT_agree hne), agree_trans (h3 l hl).2 (setT_agree hne)⟩
  | .putB i v k, s, t, r, w, q, h, ha => by
    obtain ⟨t', h1, h2, h3, h4, h5⟩ := runP_local k (s.setH i v) (t.setH i v) r _ q h (fun l hl => agree_setH (fun hne => ha l (by
      rcases hl with hl | hl
      · exact .inl hl
      · rcases List.mem_cons.1 hl with e | hl
        · exact absurd e hne
        · exact .inr hl)))
    refine ⟨t', h1, h2, fun l hl => ?_, h4, fun l hl => h5 l (List.mem_cons_of_mem _ hl)⟩
    have hne : l ≠ (true, i) := fun e => hl (h5 l (by rw [e]; simp))
    exact ⟨agree_trans (h3 l hl).1 (setH_agree hne), agree_trans (h3 l hl).2 (setH_agree hne)⟩
  | .br b x y, s, t, r, w, q, h, ha => by
    cases b
    · exact runP_local y s t r w q h ha
    · exact runP_local x s t r w q h ha
  | .brT i x y, s, t, r, w, q, h, ha => by
    simp only [Pg.runP, Pg.runF] at h
    split at h
    · rename_i b hb
      have hs : s.setT i (.sc (.v (.bool b))) = s := setT_same hb
      cases b
      · simp only [cond_false] at h
        rw [hs] at h
        obtain ⟨t', h1, h2, h3, h4, h5⟩ := runP_local y s t _ w q h ha
        have e : s.T i = t.T i := by have := ha (false, i) (.inl (h4 _ (by simp))); simpa [agree] using this
        refine ⟨t', ?_, h2, h3, fun l hl => h4 l (by simp [hl]), h5⟩
        simp only [Pg.runP, Pg.runF]
        rw [← e, hb]
        simp only [cond_false]
        rw [setT_same (by rw [← e, hb])]
        exact h1
      · simp only [cond_true] at h
        rw [hs] at h
        obtain ⟨t', h1, h2, h3, h4, h5⟩ := runP_local x s t _ w q h ha
        have e : s.T i = t.T i := by have := ha (false, i) (.inl (h4 _ (by simp))); simpa [agree] using this
        refine ⟨t', ?_, h2, h3, fun l hl => h4 l (by simp [hl]), h5⟩
        simp only [Pg.runP, Pg.runF]
        rw [← e, hb]
        simp only [cond_true]
        rw [setT_same (by rw [← e, hb])]
        exact h1
    · cases h
  | .bnd o k, s, t, r, w, q, h, ha => by
    cases o with
    | none => cases h
    | some a => exact runP_local (k a) s t r w q h ha
  | .fail, s, t, r, w, q, h, ha => by cases h
end
end Go.Ev
