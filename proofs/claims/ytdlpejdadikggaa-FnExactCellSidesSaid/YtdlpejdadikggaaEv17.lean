/- A part of a verified evaluator of the model's code: what it evaluates is what a call returns; no condition beyond the theorems' own hypotheses. -/
import Derived.Test.YtdlpejdadikggaaEv16
set_option linter.unusedVariables false
namespace Go.Ev
open Go

section
variable {X : Ctx} {σ σ' : St} {ι : Nat → Home} {a : Act} {w : World} {α : Type} {o : Oper} {nid : Nat}

def kills (σ : St) : List Nat → St
  | [] => σ
  | z :: Z => (kills σ Z).setH z .dead

theorem kills_H {σ : St} : ∀ {Z : List Nat} {j : Nat}, j ∉ Z → (kills σ Z).H j = σ.H j
  | [], j, _ => rfl
  | z :: Z, j, h => by
    simp only [kills]
    rw [setH_ne _ _ (by intro e; exact h (by rw [e]; simp)), kills_H (fun hm => h (List.mem_cons_of_mem _ hm))]

theorem kills_dead {σ : St} : ∀ {Z : List Nat} {j : Nat}, j ∈ Z → (kills σ Z).H j = .dead
  | z :: Z, j, h => by
    simp only [kills]
    by_cases e : j = z
    · rw [e, setH_same]
    · rw [setH_ne _ _ e]
      exact kills_dead ((List.mem_cons.1 h).resolve_left e)

theorem kills_less {σ : St} : ∀ {Z : List Nat}, (∀ z ∈ Z, σ.H z ≠ .unborn) → Less σ (kills σ Z)
  | [], _ => .refl σ
  | z :: Z, h => by
    have h1 := kills_less (σ := σ) (Z := Z) (fun z hz => h z (List.mem_cons_of_mem _ hz))
    refine h1.trans (Less.kill ?_)
    intro e
    by_cases hm : z ∈ Z
    · rw [kills_dead hm] at e; cases e
    · rw [kills_H hm] at e; exact h z (by simp) e

theorem kills_run (hR : Rel X σ ι a w) {G : List Nat} (hF : Free X σ ι w G) : ∀ {Z : List Nat}, Z.Nodup → (∀ z ∈ Z, (σ.H z).excl = true) →
    Rel X (kills σ Z) ι a w ∧ Free X (kills σ Z) ι w (G ++ (Z.flatMap fun z => (ι z).foot))
  | [], _, _ => ⟨hR, by simpa [kills] using hF⟩
  | z :: Z, hn, he => by
    obtain ⟨hz, hn⟩ := List.nodup_cons.1 hn
    obtain ⟨h1, h2⟩ := kills_run hR hF hn (fun z hz => he z (List.mem_cons_of_mem _ hz))
    have hH := kills_H (σ := σ) hz
    have hze := he z (by simp)
    refine ⟨h1.kill (by rw [hH]; intro e; rw [e] at hze; cases hze), ?_⟩
    have := h2.give h1 (id := z) (by rw [hH]; exact hze)
    refine this.sub (fun b hb => ?_) ?_
    · simp only [List.flatMap_cons, List.mem_append] at hb ⊢
      rcases hb with hb | hb | hb
      · exact .inl (.inl hb)
      · exact .inr hb
      · exact .inl (.inr hb)
    · have hnd := this.nd
      rw [List.append_assoc, List.nodup_append, List.nodup_append] at hnd
      obtain ⟨n1, ⟨n2, n3, n4⟩, n5⟩ := hnd
      simp only [List.flatMap_cons]
      rw [List.nodup_append, List.nodup_append]
      refine ⟨n1, ⟨n3, n2, fun x hx y hy e => n4 y hy x hx e.symm⟩, fun x hx y hy => ?_⟩
      rcases List.mem_append.1 hy with hy | hy
      · exact n5 x hx y (List.mem_append.2 (.inr hy))
      · exact n5 x hx y (List.mem_append.2 (.inl hy))

/-- the world goes on: what is free may have been written, there are new blocks -/
theorem Rel.away (hR : Rel X σ ι a w) {F G : List Nat} (hF : Free X σ ι w F) {w' : World} (hsz : WLe w w') (hw : ∀ b, b < w.heap.size → b ∉ F → w'.heap[b]? = w.heap[b]?)
    (hG : G.Nodup) (hG1 : ∀ b ∈ G, w.heap.size ≤ b ∧ b < w'.heap.size) : Rel X σ ι a w' ∧ Free X σ ι w' (F ++ G) := by
  refine ⟨hR.change (D := fun k => k ∈ F) (N := fun _ => False) rfl (fun _ _ => rfl) hsz (fun k hk hD => hw k hk hD)
    (fun k hk hk0 => by rcases hF.mu k hk with h | h; omega; exact h) (fun j hj => ⟨rfl, rfl⟩)
    (fun j _ hl hp k hk hkb => hF.away j hl hp k hkb hk) (fun _ _ h => h) (fun _ h => h.elim) (fun _ _ h => h.elim) (fun _ _ _ h => h.elim) (fun _ _ _ h => h.elim) hR.pb hR.pv, ?_⟩
  exact hF.grow hR hsz.le hG hG1

/-- an id that was given up is told anew -/
theorem Rel.revive (hR : Rel X σ ι a w) {F G : List Nat} (hF : Free X σ ι w (F ++ G)) {id : Nat} (hd : σ.H id = .dead) {blk : Blk} (hf : (ι id).foot = F)
    (hb : RBlk σ.H w ι blk (ι id)) (hp : blk.par = []) (hnb : blk ≠ .unborn)
    (hst : ∀ j, ParOk (σ.setH id blk).H (σ.H j).par → id ∉ (σ.H j).par.map (·.1))
    (hpv : ∀ j, ∀ q ∈ (σ.H j).par, q.1 = id → ∀ v, blk.ver? = some v → q.2 ≤ v) :
    Rel X (σ.setH id blk) ι a w ∧ Free X (σ.setH id blk) ι w G := by
  have hP : ∀ j, ParOk (σ.setH id blk).H (σ.H j).par → ParOk σ.H (σ.H j).par := by
    intro j h q hq
    have := h q hq
    rwa [setH_ne σ blk (fun e => hst j h (List.mem_map.2 ⟨q, hq, e⟩))] at this
  have hnd := List.nodup_append.1 hF.nd
  refine ⟨hR.change (D := fun _ => False) (N := fun j => j = id) rfl (fun _ _ => rfl) (WLe.refl _) (fun b hb _ => rfl) (fun b hb => hb.elim) (fun j hj => ⟨setH_ne σ blk hj, rfl⟩)
    (fun _ _ _ _ _ _ h => h) (fun j hj h => hP j h) ?_ ?_ ?_ ?_ ?_ ?_, ?_⟩
  · rintro j rfl
    rw [setH_same, hf]
    exact ⟨RBlk_lift (fun _ _ => rfl) (fun _ => by rw [hp]; intro q hq; simp at hq) (fun _ _ _ _ => rfl) hb, fun _ b hb => hF.lt b (List.mem_append.2 (.inl hb)),
      fun _ => ⟨hnd.1, fun b hb => hF.mu b (List.mem_append.2 (.inl hb)), hp⟩⟩
  · rintro i j rfl hj hi hl hp' hr b hb hb2
    rw [hf] at hb
    exact hF.away j hl (hP j hp') b (List.mem_append.2 (.inl hb)) hb2
  · rintro i j hi rfl he hl _ hr b hb hb2
    rw [hf] at hb2
    exact hF.away i (live_of_excl he) (by rw [hR.po i he]; intro q hq; simp at hq) b (List.mem_append.2 (.inl hb2)) hb
  · rintro i j hij rfl rfl
    exact absurd rfl hij
  · intro j q hq
    by_cases hj : j = id
    · subst hj; rw [setH_same, hp] at hq; simp at hq
    · rw [setH_ne σ blk hj] at hq
      by_cases e : q.1 = id
      · rw [e, setH_same]; exact hnb
      · rw [setH_ne σ blk e]; exact hR.pb j q hq
  · intro j q hq ver hh
    by_cases hj : j = id
    · subst hj; rw [setH_same, hp] at hq; simp at hq
    · rw [setH_ne σ blk hj] at hq
      by_cases e : q.1 = id
      · rw [e, setH_same] at hh
        exact hpv j q hq e ver hh
      · rw [setH_ne σ blk e] at hh; exact hR.pv j q hq ver hh
  · exact {
      away := fun j hl hp' b hbG hb2 => by
        by_cases hj : j = id
        · subst hj
          rw [hf] at hb2
          exact hnd.2.2 b hb2 b hbG rfl
        · rw [setH_ne σ blk hj] at hl hp'
          exact hF.away j hl (hP j hp') b (List.mem_append.2 (.inr hbG)) hb2
      lt := fun b hb => hF.lt b (List.mem_append.2 (.inr hb))
      mu := fun b hb => hF.mu b (List.mem_append.2 (.inr hb))
      nd := hnd.2.1 }

theorem setH_setH (σ : St) (id : Nat) (b b' : Blk) : (σ.setH id b).setH id b' = σ.setH id b' := by
  simp only [St.setH]
  congr 1
  funext j
  cases Nat.beq j id <;> rfl

theorem setH_comm (σ : St) {i j : Nat} (b b' : Blk) (h : i ≠ j) : (σ.setH i b).setH j b' = (σ.setH j b').setH i b := by
  simp only [St.setH]
  congr 1
  funext k
  by_cases e : k = i
  · subst e
    rw [beq_false h, Nat.beq_refl]; rfl
  · by_cases e' : k = j
    · subst e'
      rw [beq_false e, Nat.beq_refl]; rfl
    · rw [beq_false e, beq_false e']; rfl

theorem kills_set {σ : St} {id : Nat} {b : Blk} : ∀ {Z : List Nat}, id ∉ Z → (kills σ Z).setH id b = kills (σ.setH id b) Z
  | [], _ => rfl
  | z :: Z, h => by
    simp only [kills]
    rw [setH_comm _ _ _ (by intro e; exact h (by rw [e]; simp)), kills_set (fun hm => h (List.mem_cons_of_mem _ hm))]

/-- what leans on an id leans on one of its states so far -/
def Bnd (σ : St) (id : Nat) : Prop := ∀ j, ∀ q ∈ (σ.H j).par, q.1 = id → ∀ v, (σ.H id).ver? = some v → q.2 ≤ v

theorem Bnd.set {σ : St} {id id' : Nat} {b : Blk} (h : Bnd σ id) (hne : id ≠ id') (hp : b.par = []) : Bnd (σ.setH id' b) id := by
  intro j q hq e ver hh
  rw [setH_ne σ b hne] at hh
  by_cases hj : j = id'
  · rw [hj, setH_same, hp] at hq; simp at hq
  · rw [setH_ne σ b hj] at hq
    exact h j q hq e ver hh

theorem par_set {σ : St} {id : Nat} {blk : Blk} (hp : blk.par = []) {j : Nat} {q : Nat × Nat} (h : q ∈ ((σ.setH id blk).H j).par) : q ∈ (σ.H j).par := by
  by_cases e : j = id
  · rw [e, setH_same, hp] at h; simp at h
  · rwa [setH_ne σ blk e] at h

theorem ownVer_ver {b : Blk} {ver : Nat} (h : ownVer b = some ver) : b.ver? = some ver := by
  unfold ownVer at h
  split at h
  · cases h; rfl
  · cases h; rfl
  · cases h

theorem putOuts_run {w' : World} {r : α × St} : ∀ {ps : List BTy} {i : List Nat} {σ : St} {y : CT (outs ps)} {k : Pg α} {vs : List Value} {G : List Nat}, Rel X (kills σ i) ι a w' →
    Free X (kills σ i) ι w' ((i.flatMap fun z => (ι z).foot) ++ G) → Align ι ps vs i → OutsR w' ps y vs (i.map fun z => (ι z).foot) → i.Nodup → (∀ z ∈ i, (σ.H z).excl = true) → (∀ z ∈ i, Bnd σ z) →
    (putOuts ps i y k).run σ = some r → ∃ σ2, Rel X σ2 ι a w' ∧ Free X σ2 ι w' G ∧ (∀ j, ∀ q ∈ (σ2.H j).par, q ∈ (σ.H j).par) ∧ k.run σ2 = some r
  | [], i, σ, y, k, vs, G, hR, hF, ha, ho, hn, he, hB, h => by
    simp only [Align] at ha
    subst ha
    exact ⟨σ, hR, by simpa [kills] using hF, fun _ _ h => h, h⟩
  | .ptr t true :: ps, i, σ, y, k, vs, G, hR, hF, ha, ho, hn, he, hB, h => by
    obtain ⟨v, us, id, is, b, rfl, rfl, e, rfl, ha⟩ := ha
    simp only [putOuts] at h
    cases hfl : t.flat with
    | false => rw [hfl] at h; cases h
    | true =>
      rw [hfl] at h
      simp only [cond_true, Pg.run] at h
      obtain ⟨v', us', b', O2, arr, el, hvs, hO, hv', hb', hre, ho⟩ := ho
      cases hvs
      cases hv'
      simp only [List.map_cons, List.cons.injEq] at hO
      obtain ⟨_, rfl⟩ := hO
      obtain ⟨hid, hn⟩ := List.nodup_cons.1 hn
      simp only [kills] at hR hF
      simp only [List.flatMap_cons, List.append_assoc] at hF
      have hrev := hR.revive (F := (ι id).foot) hF (id := id) (setH_same _ _ _) (blk := .cells (unT true [] t (chead t (outs ps) y).1 0).1 false) rfl
        (by rw [e]; exact ⟨b, arr, el, (0, 0), rfl, hb', fun _ => rfl, unT_flat hfl hre⟩) rfl (by simp)
        (fun j hp hm => by
          obtain ⟨q, hq, hqe⟩ := List.mem_map.1 hm
          obtain ⟨t, x, p, hh⟩ := hp q hq
          rw [hqe, setH_same] at hh
          cases hh) (fun j q hq _ ver hh => by cases hh)
      rw [setH_setH, kills_set hid] at hrev
      obtain ⟨σ2, q1, q2, q3, q4⟩ := putOuts_run hrev.1 hrev.2 ha ho hn (fun z hz => by
        rw [setH_ne σ _ (by intro e2; rw [e2] at hz; exact hid hz)]; exact he z (List.mem_cons_of_mem _ hz)) (fun z hz => (hB z (List.mem_cons_of_mem _ hz)).set (by intro e2; rw [e2] at hz; exact hid hz) rfl) h
      exact ⟨σ2, q1, q2, fun j q hq => par_set rfl (q3 j q hq), q4⟩
  | .own t :: ps, i, σ, y, k, vs, G, hR, hF, ha, ho, hn, he, hB, h => by
    obtain ⟨v, us, id, is, A, n, c, F, rfl, rfl, e, rfl, ha⟩ := ha
    simp only [putOuts, Pg.run] at h
    split at h
    · rename_i ver hov
      have hb := ownVer_ver hov
      simp only [Pg.run] at h
      obtain ⟨v', us', O1, O2, A', n', c', hvs, hO, hv', hrr, ho⟩ := ho
      cases hvs
      cases hv'
      simp only [List.map_cons, List.cons.injEq] at hO
      obtain ⟨hO1, rfl⟩ := hO
      rw [e] at hO1
      simp only [Home.foot] at hO1
      subst hO1
      obtain ⟨hid, hn⟩ := List.nodup_cons.1 hn
      simp only [kills] at hR hF
      simp only [List.flatMap_cons, List.append_assoc] at hF
      have hBi := hB id (by simp)
      have hsub : ∀ j, ∀ q ∈ (((kills σ is).setH id .dead).H j).par, q ∈ (σ.H j).par := by
        intro j q hq
        by_cases hj : j = id
        · rw [hj, setH_same] at hq; simp [Blk.par] at hq
        · rw [setH_ne _ _ hj] at hq
          by_cases hm : j ∈ is
          · rw [kills_dead hm] at hq; simp [Blk.par] at hq
          · rwa [kills_H hm] at hq
      have hrev := hR.revive (F := (ι id).foot) hF (id := id) (setH_same _ _ _) (blk := .row t (chead (.sl t) (outs ps) y).1 true (ver + 1) []) rfl
        (by rw [e]; exact ⟨A, n, c, F, rfl, fun _ => hrr⟩) rfl (by simp)
        (fun j hp hm => by
          obtain ⟨q, hq, hqe⟩ := List.mem_map.1 hm
          obtain ⟨t, x, p, hh⟩ := hp q hq
          rw [hqe, setH_same] at hh
          injection hh with _ _ _ hv2 _
          have := hBi j q (hsub j q hq) hqe _ hb
          omega) (fun j q hq hqe ver' hh => by
          simp only [Blk.ver?, Option.some.injEq] at hh
          have := hBi j q (hsub j q hq) hqe _ hb
          omega)
      rw [setH_setH, kills_set hid] at hrev
      obtain ⟨σ2, q1, q2, q3, q4⟩ := putOuts_run hrev.1 hrev.2 ha ho hn (fun z hz => by
        rw [setH_ne σ _ (by intro e2; rw [e2] at hz; exact hid hz)]; exact he z (List.mem_cons_of_mem _ hz)) (fun z hz => (hB z (List.mem_cons_of_mem _ hz)).set (by intro e2; rw [e2] at hz; exact hid hz) rfl) h
      exact ⟨σ2, q1, q2, fun j q hq => par_set rfl (q3 j q hq), q4⟩
    · cases h
  | .ptr t false :: ps, i, σ, y, k, vs, G, hR, hF, ha, ho, hn, he, hB, h => by
    obtain ⟨v, us, rfl, ha⟩ := ha
    obtain ⟨v', us', hvs, ho⟩ := ho
    cases hvs
    exact putOuts_run hR hF ha ho hn he hB h
  | .val t g :: ps, i, σ, y, k, vs, G, hR, hF, ha, ho, hn, he, hB, h => by
    obtain ⟨v, us, rfl, ha⟩ := ha
    obtain ⟨v', us', hvs, ho⟩ := ho
    cases hvs
    exact putOuts_run hR hF ha ho hn he hB h
  | .eat t :: ps, i, σ, y, k, vs, G, hR, hF, ha, ho, hn, he, hB, h => by
    obtain ⟨v, us, rfl, ha⟩ := ha
    obtain ⟨v', us', hvs, ho⟩ := ho
    cases hvs
    exact putOuts_run hR hF ha ho hn he hB h
  | .fn f c :: ps, i, σ, y, k, vs, G, hR, hF, ha, ho, hn, he, hB, h => by
    obtain ⟨v, us, rfl, ha⟩ := ha
    obtain ⟨v', us', hvs, ho⟩ := ho
    cases hvs
    exact putOuts_run hR hF ha ho hn he hB h
  | .lit l :: ps, i, σ, y, k, vs, G, hR, hF, ha, ho, hn, he, hB, h => by
    obtain ⟨v, us, rfl, ha⟩ := ha
    obtain ⟨v', us', hvs, ho⟩ := ho
    cases hvs
    exact putOuts_run hR hF ha ho hn he hB h
  | .box t ow :: ps, i, σ, y, k, vs, G, hR, hF, ha, ho, hn, he, hB, h => ho.elim
  | .gob t g :: ps, i, σ, y, k, vs, G, hR, hF, ha, ho, hn, he, hB, h => by
    obtain ⟨v, us, rfl, ha⟩ := ha
    obtain ⟨v', us', hvs, ho⟩ := ho
    cases hvs
    exact putOuts_run hR hF ha ho hn he hB h
end
end Go.Ev
