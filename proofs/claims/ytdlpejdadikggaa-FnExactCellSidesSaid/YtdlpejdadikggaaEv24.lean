/- A part of a verified evaluator of the model's code: what it evaluates is what a call returns; no condition beyond the theorems' own hypotheses. -/
import Derived.Test.YtdlpejdadikggaaEv23
import Derived.Laws.Sem
set_option linter.unusedVariables false
namespace Go.Ev
open Go

section
variable {X : Ctx} {σ σ' : St} {ι : Nat → Home} {a : Act} {w : World} {α A : Type} {nid : Nat}

def rvSem (tmps : Array Value) : ResultVar → Sem Value
  | .tmp t => pure (tmps.getD t undef)
  | .cell a t => do loadVar t (← asAddr (tmps.getD a undef))

theorem mapM_run {β γ : Type} {f : β → Sem γ} {P : Program} : ∀ {l : List β} {us : List γ}, F2 (fun x u => (f x).run P w = .ok u w) l us → (l.mapM f).run P w = .ok us w
  | [], [], _ => by simp
  | x :: l, u :: us, h => by
    rw [List.mapM_cons]
    simp [h.1, mapM_run h.2]

theorem results_run {fn : Func} {tmps : Array Value} {P : Program} {us : List Value} (h : F2 (fun rv u => (rvSem tmps rv).run P w = .ok u w) fn.results.toList us) :
    (results fn tmps).run P w = .ok (retV us) w := by
  have e : results fn tmps = (do
    let vs ← fn.results.mapM (rvSem tmps)
    pure (if h : vs.size = 1 then vs[0] else .tuple vs)) := by
    unfold results
    congr 2
  rw [e, Array.mapM_eq_mapM_toList]
  have := mapM_run (f := rvSem tmps) h
  simp [this]
  cases us with
  | nil => rfl
  | cons u us =>
    cases us with
    | nil => rfl
    | cons v us => simp [retV]

/-- results' values, told -/
def PinAt (ι : Nat → Home) : List PE → List Value → List (List Nat) → Prop
  | [], _, O => O = []
  | ⟨_, id, .ptr _ true, _⟩ :: l, vs, O => ∃ v us b O2, vs = v :: us ∧ O = [b] :: O2 ∧ v = .pointer (some ⟨b, 0, none⟩) ∧ ι id = .blk b ∧ PinAt ι l us O2
  | ⟨_, id, .own _, _⟩ :: l, vs, O => ∃ v us A n c F O2, vs = v :: us ∧ O = F :: O2 ∧ v = .slice A n c ∧ ι id = .row A n c F ∧ PinAt ι l us O2
  | ⟨_, _, .ptr _ false, _⟩ :: l, vs, O => ∃ v us, vs = v :: us ∧ PinAt ι l us O
  | ⟨_, _, .val _ _, _⟩ :: l, vs, O => ∃ v us, vs = v :: us ∧ PinAt ι l us O
  | ⟨_, _, .eat _, _⟩ :: l, vs, O => ∃ v us, vs = v :: us ∧ PinAt ι l us O
  | ⟨_, _, .fn _ _, _⟩ :: l, vs, O => ∃ v us, vs = v :: us ∧ PinAt ι l us O
  | ⟨_, _, .lit _, _⟩ :: l, vs, O => ∃ v us, vs = v :: us ∧ PinAt ι l us O
  | ⟨_, _, .box _ _, _⟩ :: l, vs, O => False
  | ⟨_, _, .gob _ _, _⟩ :: l, vs, O => ∃ v us, vs = v :: us ∧ PinAt ι l us O

theorem chead_ccons {t : Ty} {l : List Ty} {x : t.T} {y : CT l} : chead t l (ccons t l x y) = (x, y) := by
  cases l with
  | nil => rfl
  | cons _ _ => rfl

theorem rdOuts_run (hR : Rel X σ ι a w) {F : List Nat} (hF : Free X σ ι w F) : ∀ {l : List PE} {vs : List Value} {O : List (List Nat)} {k : CT (outs (l.map (·.b))) → Pg α} {r : α × St}, PinAt ι l vs O → (rdOuts l k).run σ = some r →
    ∃ y, OutsR w (l.map (·.b)) y vs O ∧ (∀ b ∈ F, b ∉ O.flatten) ∧ (k y).run σ = some r
  | [], vs, O, k, r, hp, h => by
    simp only [PinAt] at hp
    subst hp
    exact ⟨(), rfl, by simp, h⟩
  | ⟨i, id, .ptr t true, p⟩ :: l, vs, O, k, r, hp, h => by
    obtain ⟨v, us, b, O2, rfl, rfl, rfl, hι, hp⟩ := hp
    simp only [rdOuts] at h
    replace h := getB_run h
    split at h
    · rename_i cs hb
      cases hfl : t.flat with
      | false => rw [hfl] at h; cases h
      | true =>
        rw [hfl] at h
        simp only [cond_true] at h
        have hbl := hR.bl id
        rw [hb, hι] at hbl
        obtain ⟨b', arr, el, fr, h1, h2, h3, h4⟩ := hbl
        cases h1
        have h3 := h3 rfl
        subst h3
        obtain ⟨x, rest, u, vs1, vs2, G, hvs, hrest, hre, hu, h⟩ := rdT_run hR h h4
        split at h
        · cases vs2 with
          | cons _ _ => exact hrest.elim
          | nil =>
            rw [List.append_nil] at hvs
            obtain ⟨y, h5, h6, h⟩ := rdOuts_run hR hF hp h
            refine ⟨ccons t _ x y, ⟨_, us, b, O2, arr, el, rfl, rfl, rfl, h2, ?_, ?_⟩, ?_, h⟩
            · rw [chead_ccons, hvs]
              have := RE_flat hfl hre
              subst this
              exact RE_flat_own hfl hre
            · rw [chead_ccons]; exact h5
            · intro k hk hm
              simp only [List.flatten_cons, List.mem_append, List.mem_singleton] at hm
              rcases hm with rfl | hm
              · exact hF.away id (by rw [hb]; rfl) (by rw [hb]; intro q hq; simp [Blk.par] at hq) k hk (by rw [hι]; simp [Home.foot])
              · exact h6 k hk hm
        · cases h
    · cases h
  | ⟨i, id, .own t, p⟩ :: l, vs, O, k, r, hp, h => by
    obtain ⟨v, us, A, n, c, G, O2, rfl, rfl, rfl, hι, hp⟩ := hp
    simp only [rdOuts] at h
    replace h := getB_run h
    split at h
    · rename_i t' x ver hb
      split at h
      · rename_i y' hy
        obtain ⟨rfl, rfl⟩ := castRow_some hy
        have hrow := row_of hR hb (chk_none rfl) hι
        obtain ⟨y, h5, h6, h⟩ := rdOuts_run hR hF hp h
        refine ⟨ccons (.sl t') _ _ y, ⟨_, us, G, O2, A, n, c, rfl, rfl, rfl, ?_, ?_⟩, ?_, h⟩
        · rw [chead_ccons]; exact hrow
        · rw [chead_ccons]; exact h5
        · intro k hk hm
          simp only [List.flatten_cons, List.mem_append] at hm
          rcases hm with hm | hm
          · exact hF.away id (by rw [hb]; rfl) (by rw [hb]; intro q hq; simp [Blk.par] at hq) k hk (by rw [hι]; exact hm)
          · exact h6 k hk hm
      · cases h
    · cases h
  | ⟨i, id, .ptr t false, p⟩ :: l, vs, O, k, r, hp, h => by
    obtain ⟨v, us, rfl, hp⟩ := hp
    obtain ⟨y, h5, h6, h⟩ := rdOuts_run hR hF hp h
    exact ⟨y, ⟨v, us, rfl, h5⟩, h6, h⟩
  | ⟨i, id, .val t g, p⟩ :: l, vs, O, k, r, hp, h => by
    obtain ⟨v, us, rfl, hp⟩ := hp
    obtain ⟨y, h5, h6, h⟩ := rdOuts_run hR hF hp h
    exact ⟨y, ⟨v, us, rfl, h5⟩, h6, h⟩
  | ⟨i, id, .eat t, p⟩ :: l, vs, O, k, r, hp, h => by
    obtain ⟨v, us, rfl, hp⟩ := hp
    obtain ⟨y, h5, h6, h⟩ := rdOuts_run hR hF hp h
    exact ⟨y, ⟨v, us, rfl, h5⟩, h6, h⟩
  | ⟨i, id, .fn f c, p⟩ :: l, vs, O, k, r, hp, h => by
    obtain ⟨v, us, rfl, hp⟩ := hp
    obtain ⟨y, h5, h6, h⟩ := rdOuts_run hR hF hp h
    exact ⟨y, ⟨v, us, rfl, h5⟩, h6, h⟩
  | ⟨i, id, .lit c, p⟩ :: l, vs, O, k, r, hp, h => by
    obtain ⟨v, us, rfl, hp⟩ := hp
    obtain ⟨y, h5, h6, h⟩ := rdOuts_run hR hF hp h
    exact ⟨y, ⟨v, us, rfl, h5⟩, h6, h⟩
  | ⟨i, id, .box c o, p⟩ :: l, vs, O, k, r, hp, h => hp.elim
  | ⟨i, id, .gob t g, p⟩ :: l, vs, O, k, r, hp, h => by
    obtain ⟨v, us, rfl, hp⟩ := hp
    obtain ⟨y, h5, h6, h⟩ := rdOuts_run hR hF hp h
    exact ⟨y, ⟨v, us, rfl, h5⟩, h6, h⟩

theorem csplit_ccons {t : Ty} : ∀ {l1 l2 : List Ty} {x : t.T} {y : CT (l1 ++ l2)}, (chead t l1 (csplit (t :: l1) l2 (ccons t (l1 ++ l2) x y)).1) = (x, (csplit l1 l2 y).1) ∧ (csplit (t :: l1) l2 (ccons t (l1 ++ l2) x y)).2 = (csplit l1 l2 y).2
  | [], [], x, y => ⟨rfl, rfl⟩
  | [], _ :: _, x, y => ⟨rfl, rfl⟩
  | _ :: _, l2, x, y => ⟨rfl, rfl⟩

theorem rdRes_run {ps : List PE} {vs : List Value} {O : List (List Nat)} (hp : PinAt ι ps vs O) : ∀ {rs : List (Ty × Bool)} {rvs : List ResultVar} {σ : St} {F : List Nat} {k : CT (rs.map (·.1) ++ outs (ps.map (·.b))) → Pg α} {r : α × St}, Rel X σ ι a w → Free X σ ι w F → (rdRes X.C.P ps rs rvs k).run σ = some r →
    ∃ y us G σ1, F2 (fun rv u => (rvSem a.tmps rv).run X.C.P w = .ok u w) rvs us ∧ CompsR w rs (csplit _ _ y).1 us G ∧ OutsR w (ps.map (·.b)) (csplit _ _ y).2 vs O ∧ Free X σ1 ι w (F ++ G) ∧ (∀ b ∈ F ++ G, b ∉ O.flatten) ∧ (k y).run σ1 = some r
  | [], [], σ, F, k, r, hR, hF, h => by
    simp only [rdRes] at h
    obtain ⟨y, h5, h6, h⟩ := rdOuts_run hR hF hp h
    exact ⟨y, [], [], σ, trivial, ⟨rfl, rfl⟩, h5, by simpa using hF, by simpa using h6, h⟩
  | (t, g) :: rs, .tmp i :: rvs, σ, F, k, r, hR, hF, h => by
    simp only [rdRes, Pg.run] at h
    split at h
    · rename_i l g' hT
      cases hg : (g == g') with
      | false => rw [hg] at h; cases h
      | true =>
        rw [hg] at h
        simp only [cond_true] at h
        have hg : g = g' := by simpa using hg
        subst hg
        have htm := hR.tm i
        rw [hT] at htm
        obtain ⟨x, rest, σ1, vs1, vs2, G, hvs, hrest, hre, hR1, hF1, h⟩ := rdO_run hR hF h (RVs_list htm)
        split at h
        · cases vs2 with
          | cons _ _ => exact hrest.elim
          | nil =>
            rw [List.append_nil] at hvs
            obtain ⟨y, us, G', σ2, h1, h2, h3, h4, h5, h⟩ := rdRes_run hp hR1 hF1 h
            have hc := csplit_ccons (t := t) (l1 := rs.map (·.1)) (l2 := outs (ps.map (·.b))) (x := x) (y := y)
            refine ⟨ccons t _ x y, a.tmps.getD i undef :: us, G ++ G', σ2, ⟨by simp [rvSem], h1⟩, ⟨_, us, G, G', rfl, rfl, ⟨?_, fun hg => ?_⟩, ?_⟩, ?_, by simpa using h4, by simpa using h5, h⟩
            · exact (congrArg (fun z => RE true w t z (cellsOf g (a.tmps.getD i undef)) G) (congrArg Prod.fst hc.1)).mpr (by rw [hvs]; exact hre)
            · subst hg
              obtain ⟨ws, hws, _⟩ := htm
              exact ⟨ws, hws⟩
            · exact (congrArg (fun z => CompsR w rs z us G') (congrArg Prod.snd hc.1)).mpr h2
            · exact (congrArg (fun z => OutsR w (ps.map (·.b)) z vs O) hc.2).mpr h3
        · cases h
    · cases h
  | (t, g) :: rs, .cell i ty :: rvs, σ, F, k, r, hR, hF, h => by
    simp only [rdRes, Pg.run] at h
    split at h
    · rename_i id hT
      replace h := getB_run h
      split at h
      · rename_i cs ro hb
        split at h
        · rename_i l g' hpt
          cases hg : (g == g') with
          | false => rw [hg] at h; cases h
          | true =>
            rw [hg] at h
            simp only [cond_true] at h
            have hg : g = g' := by simpa using hg
            subst hg
            have htm := hR.tm i
            rw [hT] at htm
            obtain ⟨b, hι, hv⟩ := RAV_sc.1 htm
            have hbl := hR.bl id
            rw [hb, hι] at hbl
            obtain ⟨b', arr, el, fr, h1, h2, h3, h4⟩ := hbl
            cases h1
            obtain ⟨u, hu, hvu⟩ := loadVar_part (w := w) hpt (b := b) (base := 0) (fun k u hk => by rw [Nat.zero_add, cell_at h2]; simpa using hk) h4
            obtain ⟨x, rest, σ1, vs1, vs2, G, hvs, hrest, hre, hR1, hF1, h⟩ := rdO_run hR hF h (RVs_list hvu)
            split at h
            · cases vs2 with
              | cons _ _ => exact hrest.elim
              | nil =>
                rw [List.append_nil] at hvs
                obtain ⟨y, us, G', σ2, h1, h2, h3, h4, h5, h⟩ := rdRes_run hp hR1 hF1 h
                have hc := csplit_ccons (t := t) (l1 := rs.map (·.1)) (l2 := outs (ps.map (·.b))) (x := x) (y := y)
                refine ⟨ccons t _ x y, u :: us, G ++ G', σ2, ⟨by simp [rvSem, hv, asAddr]; exact hu, h1⟩, ⟨_, us, G, G', rfl, rfl, ⟨?_, fun hg => ?_⟩, ?_⟩, ?_, by simpa using h4, by simpa using h5, h⟩
                · exact (congrArg (fun z => RE true w t z (cellsOf g u) G) (congrArg Prod.fst hc.1)).mpr (by rw [hvs]; exact hre)
                · subst hg
                  obtain ⟨ws, hws, _⟩ := hvu
                  exact ⟨ws, hws⟩
                · exact (congrArg (fun z => CompsR w rs z us G') (congrArg Prod.snd hc.1)).mpr h2
                · exact (congrArg (fun z => OutsR w (ps.map (·.b)) z vs O) hc.2).mpr h3
            · cases h
        · cases h
      · cases h
    · cases h
  | [], _ :: _, σ, F, k, r, hR, hF, h => by simp only [rdRes] at h; cases h
  | (t, g) :: rs, [], σ, F, k, r, hR, hF, h => by simp only [rdRes] at h; cases h
end
end Go.Ev
