/- A part of a verified evaluator of the model's code: what it evaluates is what a call returns; no condition beyond the theorems' own hypotheses. -/
import Derived.Test.YtdlpejdadikggaaEv6
set_option linter.unusedVariables false
namespace Go.Ev
open Go

section
variable {X : Ctx} {σ : St} {ι : Nat → Home} {a : Act} {w : World} {α : Type}

theorem chkPar_run : ∀ {par : List (Nat × Nat)} {k : Pg α} {r : α × St}, (chkPar par k).run σ = some r → ParOk σ.H par ∧ k.run σ = some r
  | [], k, r, h => ⟨by intro q hq; simp at hq, h⟩
  | (p, v) :: l, k, r, h => by
    simp only [chkPar, Pg.run] at h
    cases hb : σ.H p with
    | row t x own v' par' =>
      rw [hb] at h
      cases own with
      | false => cases h
      | true =>
        simp only at h
        cases hv : Nat.beq v v' with
        | false => rw [hv] at h; cases h
        | true =>
          rw [hv] at h
          obtain ⟨h1, h2⟩ := chkPar_run h
          refine ⟨fun q hq => ?_, h2⟩
          rcases List.mem_cons.1 hq with rfl | hq
          · exact ⟨t, x, par', by rw [hb, Nat.eq_of_beq_eq_true hv]⟩
          · exact h1 q hq
    | _ => rw [hb] at h; cases h

theorem castRow_some {t t' : Ty} {x : List t.T} {y : List t'.T} (h : castRow t t' x = some y) : ∃ e : t = t', y = e ▸ x := by
  unfold castRow at h
  split at h
  · rename_i e
    subst e
    exact ⟨rfl, by simpa using h.symm⟩
  · cases h

theorem castL_some {t t' : Ty} {x : List t.T} {y : List t'.T} (h : castL t t' x = some y) {own : Bool} {w : World} {A : Option Addr} {n c : Nat} {F : List Nat} (hr : RR own w t x A n c F) : RR own w t' y A n c F := by
  unfold castL at h
  split at h
  · rename_i e
    subst e
    cases h
    exact hr
  · split at h
    · rename_i f hf
      cases h
      unfold RR
      rw [← castF_size hf]
      exact RowR_map (R := RE own w t) (fun x cs Fi => RE_cast hf) hr
    · cases h

theorem RR_pre {own : Bool} {w : World} {t : Ty} {x y : List t.T} {A : Option Addr} {n c : Nat} {F : List Nat} (hn : n = x.length) (h : RR own w t (x ++ y) A (x ++ y).length c F) : RR own w t x A n c F := by
  rw [hn]
  exact RowR_pre (R := RE own w t) (fun x cs Fi h => RE_lt h) h

/-- a window's header, with what is told of it -/
theorem win_of (hR : Rel X σ ι a w) {id : Nat} {ty : Ty} {xs ys : List ty.T} {own : Bool} {ver : Nat} {par : List (Nat × Nat)} (hb : σ.H id = .win ty xs ys own ver par) (hp : ParOk σ.H par)
    {A : Option Addr} {n c : Nat} {F : List Nat} (e : ι id = .row A n c F) : n = xs.length ∧ RR own w ty (xs ++ ys) A (xs ++ ys).length c F := by
  have hbl := hR.bl id
  rw [hb] at hbl
  obtain ⟨A', n', c', F', h1, h2, h3⟩ := hbl
  rw [e] at h1
  cases h1
  exact ⟨h2, h3 hp⟩

/-- what has been read leans on the ids of u -/
def UOk (σ : St) (ι : Nat → Home) (u : List Nat) (F : List Nat) : Prop :=
  ∀ b ∈ F, ∃ id ∈ u, b ∈ (ι id).foot ∧ (σ.H id).live = true ∧ ParOk σ.H (σ.H id).par ∧ ∀ p ∈ (σ.H id).par.map (·.1), p ∈ u

theorem UOk.mono {u u' F : List Nat} (h : UOk σ ι u F) (hu : ∀ i ∈ u, i ∈ u') : UOk σ ι u' F := by
  intro b hb
  obtain ⟨id, h1, h2, h3, h4, h5⟩ := h b hb
  exact ⟨id, hu _ h1, h2, h3, h4, fun p hp => hu _ (h5 p hp)⟩
theorem UOk.append {u u' F F' : List Nat} (h : UOk σ ι u F) (h' : UOk σ ι u' F') : UOk σ ι (u ++ u') (F ++ F') := by
  intro b hb
  rcases List.mem_append.1 hb with hb | hb
  · exact h.mono (fun i hi => List.mem_append.2 (.inl hi)) b hb
  · exact h'.mono (fun i hi => List.mem_append.2 (.inr hi)) b hb
theorem UOk.nil {u : List Nat} : UOk σ ι u [] := fun b hb => by simp at hb

theorem rdT_run (hR : Rel X σ ι a w) : ∀ {t : Ty} {l : List Sc} {vs : List Value} {k : t.T → List Sc → List Nat → Pg α} {r : α × St}, (rdT t l k).run σ = some r → F2 (RSc ι) l vs →
    ∃ x rest u vs1 vs2 F, vs = vs1 ++ vs2 ∧ F2 (RSc ι) rest vs2 ∧ RE false w t x vs1 F ∧ UOk σ ι u F ∧ (k x rest u).run σ = some r
  | .unit, l, vs, k, r, h, hl => ⟨(), l, [], [], vs, [], rfl, hl, ⟨rfl, rfl⟩, UOk.nil, h⟩
  | .int q, l, vs, k, r, h, hl => by
    unfold rdT at h
    split at h
    · rename_i q' n l
      split at h
      · rename_i e
        subst e
        cases vs with
        | nil => exact hl.elim
        | cons v vs =>
          obtain ⟨⟨rfl, _⟩, hl⟩ := hl
          exact ⟨n, l, [], [_], vs, [], rfl, hl, ⟨rfl, rfl⟩, UOk.nil, h⟩
      · cases h
    · cases h
  | .bool, l, vs, k, r, h, hl => by
    unfold rdT at h
    split at h
    · rename_i n l
      cases vs with
      | nil => exact hl.elim
      | cons v vs =>
        obtain ⟨⟨rfl, _⟩, hl⟩ := hl
        exact ⟨n, l, [], [_], vs, [], rfl, hl, ⟨rfl, rfl⟩, UOk.nil, h⟩
    · cases h
  | .str, l, vs, k, r, h, hl => by
    unfold rdT at h
    split at h
    · rename_i n l
      cases vs with
      | nil => exact hl.elim
      | cons v vs =>
        obtain ⟨⟨rfl, _⟩, hl⟩ := hl
        exact ⟨n, l, [], [_], vs, [], rfl, hl, ⟨rfl, rfl⟩, UOk.nil, h⟩
    · cases h
  | .pair ta tb, l, vs, k, r, h, hl => by
    unfold rdT at h
    obtain ⟨x, rest, u, vs1, vs2, F, rfl, hl2, h1, h2, h⟩ := rdT_run hR h hl
    obtain ⟨y, rest', u', vs3, vs4, F', rfl, hl3, h3, h4, h⟩ := rdT_run hR h hl2
    exact ⟨(x, y), rest', u ++ u', vs1 ++ vs3, vs4, F ++ F', by simp, hl3, ⟨vs1, vs3, F, F', rfl, rfl, h1, h3⟩, h2.append h4, h⟩
  | .sl t, l, vs, k, r, h, hl => by
    unfold rdT at h
    split at h
    · rename_i l
      cases vs with
      | nil => exact hl.elim
      | cons v vs =>
        obtain ⟨⟨rfl, _⟩, hl⟩ := hl
        exact ⟨[], l, [], [_], vs, [], rfl, hl, ⟨none, 0, 0, rfl, rfl, Nat.le_refl _, .inl ⟨rfl, rfl, fun h => by cases h⟩⟩, UOk.nil, h⟩
    · rename_i id l
      replace h := getB_run h
      cases vs with
      | nil => exact hl.elim
      | cons v vs =>
        obtain ⟨⟨A, n, c, F, hι, rfl⟩, hl⟩ := hl
        split at h
        · rename_i t' x own ver par hb
          split at h
          · rename_i y hy
            obtain ⟨hp, h⟩ := chkPar_run h
            have hbl := hR.bl id
            rw [hb, hι] at hbl
            obtain ⟨A', n', c', F', e, hrow⟩ := hbl
            cases e
            refine ⟨_, l, _, [_], vs, F, rfl, hl, ⟨A, n, c, rfl, castL_some hy (RR_ro (hrow hp))⟩, ?_, h⟩
            intro b hbF
            exact ⟨id, by simp, by rw [hι]; exact hbF, by rw [hb]; rfl, by rw [hb]; exact hp, fun p hpp => by rw [hb] at hpp; exact List.mem_cons_of_mem _ hpp⟩
          · cases h
        · rename_i t' x x2 own ver par hb
          split at h
          · rename_i y hy
            obtain ⟨hp, h⟩ := chkPar_run h
            obtain ⟨hn, hrow⟩ := win_of hR hb hp hι
            refine ⟨_, l, _, [_], vs, F, rfl, hl, ⟨A, n, c, rfl, castL_some hy (RR_pre hn (RR_ro hrow))⟩, ?_, h⟩
            intro b hbF
            exact ⟨id, by simp, by rw [hι]; exact hbF, by rw [hb]; rfl, by rw [hb]; exact hp, fun p hpp => by rw [hb] at hpp; exact List.mem_cons_of_mem _ hpp⟩
          · cases h
        · cases h
    · cases h
  | .rm t, l, vs, k, r, h, hl => by
    unfold rdT at h
    split at h
    · rename_i l
      cases vs with
      | nil => exact hl.elim
      | cons v vs =>
        obtain ⟨⟨rfl, _⟩, hl⟩ := hl
        exact ⟨([], []), l, [], [_], vs, [], rfl, hl, ⟨none, 0, 0, rfl, rfl, rfl, Nat.le_refl _, .inl ⟨rfl, rfl, fun h => by cases h⟩⟩, UOk.nil, h⟩
    · rename_i id l
      replace h := getB_run h
      cases vs with
      | nil => exact hl.elim
      | cons v vs =>
        obtain ⟨⟨A, n, c, F, hι, rfl⟩, hl⟩ := hl
        split at h
        · rename_i t' x own ver par hb
          split at h
          · rename_i y hy
            obtain ⟨rfl, rfl⟩ := castRow_some hy
            obtain ⟨hp, h⟩ := chkPar_run h
            have hbl := hR.bl id
            rw [hb, hι] at hbl
            obtain ⟨A', n', c', F', e, hrow⟩ := hbl
            cases e
            have hrow := RR_ro (hrow hp)
            refine ⟨_, l, _, [_], vs, F, rfl, hl, ⟨A, n, c, rfl, hrow.1, by simp only [List.append_nil]; rw [← hrow.1]; exact hrow⟩, ?_, h⟩
            intro b hbF
            exact ⟨id, by simp, by rw [hι]; exact hbF, by rw [hb]; rfl, by rw [hb]; exact hp, fun p hpp => by rw [hb] at hpp; exact List.mem_cons_of_mem _ hpp⟩
          · cases h
        · rename_i t' x x2 own ver par hb
          split at h
          · rename_i y y2 hy hy2
            obtain ⟨rfl, rfl⟩ := castRow_some hy
            obtain ⟨_, rfl⟩ := castRow_some hy2
            obtain ⟨hp, h⟩ := chkPar_run h
            obtain ⟨hn, hrow⟩ := win_of hR hb hp hι
            refine ⟨_, l, _, [_], vs, F, rfl, hl, ⟨A, n, c, rfl, hn, RR_ro hrow⟩, ?_, h⟩
            intro b hbF
            exact ⟨id, by simp, by rw [hι]; exact hbF, by rw [hb]; rfl, by rw [hb]; exact hp, fun p hpp => by rw [hb] at hpp; exact List.mem_cons_of_mem _ hpp⟩
          · cases h
        · cases h
    · cases h

/-- blocks that have been taken out of what is told -/
structure Free (X : Ctx) (σ : St) (ι : Nat → Home) (w : World) (F : List Nat) : Prop where
  away : ∀ id, (σ.H id).live = true → ParOk σ.H (σ.H id).par → ∀ b ∈ F, b ∉ (ι id).foot
  lt : ∀ b ∈ F, b < w.heap.size
  mu : ∀ b ∈ F, X.w0.heap.size ≤ b ∨ b ∈ X.O
  nd : F.Nodup

theorem Free.nil : Free X σ ι w [] := ⟨fun _ _ _ b hb => by simp at hb, fun b hb => by simp at hb, fun b hb => by simp at hb, .nil⟩

theorem ParOk_kill {σ : St} {id : Nat} {par : List (Nat × Nat)} (h : ParOk (σ.setH id .dead).H par) : ParOk σ.H par ∧ id ∉ par.map (·.1) := by
  have : ∀ q ∈ par, q.1 ≠ id := by
    intro q hq e
    obtain ⟨t, x, p, h⟩ := h q hq
    rw [e, setH_same] at h
    cases h
  refine ⟨fun q hq => ?_, fun hm => ?_⟩
  · have := h q hq
    rwa [setH_ne σ _ (‹∀ q ∈ par, q.1 ≠ id› q hq)] at this
  · obtain ⟨q, hq, rfl⟩ := List.mem_map.1 hm
    exact this q hq rfl

theorem Rel.kill (hR : Rel X σ ι a w) {id : Nat} (hb : σ.H id ≠ .unborn) : Rel X (σ.setH id .dead) ι a w := by
  refine hR.change (D := fun _ => False) (N := fun j => j = id) rfl (fun _ _ => rfl) (WLe.refl _) (fun _ _ _ => rfl) (fun b hb => hb.elim) (fun j hj => ⟨setH_ne σ _ hj, rfl⟩)
    (fun _ _ _ _ _ _ h => h) (fun j hj h => (ParOk_kill h).1) ?_ ?_ ?_ ?_ ?_ ?_
  · rintro j rfl
    rw [setH_same]
    exact ⟨trivial, (fun h => by cases h), (fun h => by cases h)⟩
  · rintro i j rfl hj hi
    rw [setH_same] at hi; cases hi
  · rintro i j hi rfl he hl
    rw [setH_same] at hl; cases hl
  · rintro i j hij rfl rfl
    exact absurd rfl hij
  · intro j q hq
    by_cases hj : j = id
    · subst hj; rw [setH_same] at hq; simp [Blk.par] at hq
    · rw [setH_ne σ _ hj] at hq
      by_cases e : q.1 = id
      · rw [e, setH_same]; simp
      · rw [setH_ne σ _ e]; exact hR.pb j q hq
  · intro j q hq ver he
    by_cases hj : j = id
    · subst hj; rw [setH_same] at hq; simp [Blk.par] at hq
    · rw [setH_ne σ _ hj] at hq
      by_cases e : q.1 = id
      · rw [e, setH_same] at he; cases he
      · rw [setH_ne σ _ e] at he; exact hR.pv j q hq ver he

theorem kill_H {σ : St} {id j : Nat} (h : ((σ.setH id .dead).H j).live = true) : j ≠ id ∧ (σ.setH id .dead).H j = σ.H j := by
  have : j ≠ id := fun e => by rw [e, setH_same] at h; cases h
  exact ⟨this, setH_ne σ _ this⟩

theorem Free.kill {F : List Nat} (hF : Free X σ ι w F) (id : Nat) : Free X (σ.setH id .dead) ι w F where
  away j hl hp b hb := by
    obtain ⟨hj, e⟩ := kill_H hl
    rw [e] at hl hp
    exact hF.away j hl (ParOk_kill hp).1 b hb
  lt := hF.lt
  mu := hF.mu
  nd := hF.nd

/-- what is one's own, given up -/
theorem Free.give {F : List Nat} (hR : Rel X σ ι a w) (hF : Free X σ ι w F) {id : Nat} (he : (σ.H id).excl = true) : Free X (σ.setH id .dead) ι w (F ++ (ι id).foot) where
  away j hl hp b hb := by
    obtain ⟨hj, e⟩ := kill_H hl
    rw [e] at hl hp
    rcases List.mem_append.1 hb with hb | hb
    · exact hF.away j hl (ParOk_kill hp).1 b hb
    · exact hR.sep id j hj.symm he hl (ParOk_kill hp).1 (ParOk_kill hp).2 b hb
  lt b hb := by
    rcases List.mem_append.1 hb with hb | hb
    · exact hF.lt b hb
    · exact hR.lt id (by cases hi : σ.H id <;> simp_all [Blk.excl, Blk.live]) b hb
  mu b hb := by
    rcases List.mem_append.1 hb with hb | hb
    · exact hF.mu b hb
    · exact hR.mu id he b hb
  nd := by
    rw [List.nodup_append]
    exact ⟨hF.nd, hR.nd id he, fun x hx y hy e => hF.away id (by cases hi : σ.H id <;> simp_all [Blk.excl, Blk.live]) (by rw [hR.po id he]; intro q hq; simp at hq) x hx (e ▸ hy)⟩

theorem rdO_run : ∀ {t : Ty} {σ : St} {F0 : List Nat} {l : List Sc} {vs : List Value} {k : t.T → List Sc → Pg α} {r : α × St}, Rel X σ ι a w → Free X σ ι w F0 → (rdO t l k).run σ = some r → F2 (RSc ι) l vs →
    ∃ x rest σ1 vs1 vs2 F, vs = vs1 ++ vs2 ∧ F2 (RSc ι) rest vs2 ∧ RE true w t x vs1 F ∧ Rel X σ1 ι a w ∧ Free X σ1 ι w (F0 ++ F) ∧ (k x rest).run σ1 = some r
  | .unit, σ, F0, l, vs, k, r, hR, hF, h, hl => ⟨(), l, σ, [], vs, [], rfl, hl, ⟨rfl, rfl⟩, hR, by simpa using hF, h⟩
  | .int q, σ, F0, l, vs, k, r, hR, hF, h, hl => by
    unfold rdO at h
    split at h
    · rename_i q' n l
      split at h
      · rename_i e
        subst e
        cases vs with
        | nil => exact hl.elim
        | cons v vs =>
          obtain ⟨⟨rfl, _⟩, hl⟩ := hl
          exact ⟨n, l, σ, [_], vs, [], rfl, hl, ⟨rfl, rfl⟩, hR, by simpa using hF, h⟩
      · cases h
    · cases h
  | .bool, σ, F0, l, vs, k, r, hR, hF, h, hl => by
    unfold rdO at h
    split at h
    · rename_i n l
      cases vs with
      | nil => exact hl.elim
      | cons v vs =>
        obtain ⟨⟨rfl, _⟩, hl⟩ := hl
        exact ⟨n, l, σ, [_], vs, [], rfl, hl, ⟨rfl, rfl⟩, hR, by simpa using hF, h⟩
    · cases h
  | .str, σ, F0, l, vs, k, r, hR, hF, h, hl => by
    unfold rdO at h
    split at h
    · rename_i n l
      cases vs with
      | nil => exact hl.elim
      | cons v vs =>
        obtain ⟨⟨rfl, _⟩, hl⟩ := hl
        exact ⟨n, l, σ, [_], vs, [], rfl, hl, ⟨rfl, rfl⟩, hR, by simpa using hF, h⟩
    · cases h
  | .pair ta tb, σ, F0, l, vs, k, r, hR, hF, h, hl => by
    unfold rdO at h
    obtain ⟨x, rest, σ1, vs1, vs2, F, rfl, hl2, h1, hR1, hF1, h⟩ := rdO_run hR hF h hl
    obtain ⟨y, rest', σ2, vs3, vs4, F', rfl, hl3, h3, hR2, hF2, h⟩ := rdO_run hR1 hF1 h hl2
    exact ⟨(x, y), rest', σ2, vs1 ++ vs3, vs4, F ++ F', by simp, hl3, ⟨vs1, vs3, F, F', rfl, rfl, h1, h3⟩, hR2, by simpa using hF2, h⟩
  | .sl t, σ, F0, l, vs, k, r, hR, hF, h, hl => by
    unfold rdO at h
    split at h
    · rename_i l
      cases vs with
      | nil => exact hl.elim
      | cons v vs =>
        obtain ⟨⟨rfl, _⟩, hl⟩ := hl
        exact ⟨[], l, σ, [_], vs, [], rfl, hl, ⟨none, 0, 0, rfl, rfl, Nat.le_refl _, .inl ⟨rfl, rfl, fun _ => rfl⟩⟩, hR, by simpa using hF, h⟩
    · rename_i id l
      replace h := getB_run h
      cases vs with
      | nil => exact hl.elim
      | cons v vs =>
        obtain ⟨⟨A, n, c, F, hι, rfl⟩, hl⟩ := hl
        split at h
        · rename_i t' x ver hb
          split at h
          · rename_i y hy
            obtain ⟨rfl, rfl⟩ := castRow_some hy
            have hbl := hR.bl id
            rw [hb, hι] at hbl
            obtain ⟨A', n', c', F', e, hrow⟩ := hbl
            cases e
            have hg := hF.give hR (id := id) (by rw [hb]; rfl)
            rw [hι] at hg
            have hrow := hrow (by intro q hq; simp [Blk.par] at hq)
            exact ⟨_, l, _, [_], vs, F, rfl, hl, ⟨A, n, c, rfl, hrow⟩, hR.kill (by rw [hb]; simp), hg, h⟩
          · cases h
        · rename_i t' x x2 ver hb
          split at h
          · rename_i y hy
            obtain ⟨rfl, rfl⟩ := castRow_some hy
            obtain ⟨hn, hrow⟩ := win_of hR hb (by intro q hq; simp at hq) hι
            have hg := hF.give hR (id := id) (by rw [hb]; rfl)
            rw [hι] at hg
            exact ⟨_, l, _, [_], vs, F, rfl, hl, ⟨A, n, c, rfl, RR_pre hn hrow⟩, hR.kill (by rw [hb]; simp), hg, h⟩
          · cases h
        · cases h
    · cases h
  | .rm t, σ, F0, l, vs, k, r, hR, hF, h, hl => by
    unfold rdO at h
    split at h
    · rename_i l
      cases vs with
      | nil => exact hl.elim
      | cons v vs =>
        obtain ⟨⟨rfl, _⟩, hl⟩ := hl
        exact ⟨([], []), l, σ, [_], vs, [], rfl, hl, ⟨none, 0, 0, rfl, rfl, rfl, Nat.le_refl _, .inl ⟨rfl, rfl, fun _ => rfl⟩⟩, hR, by simpa using hF, h⟩
    · rename_i id l
      replace h := getB_run h
      cases vs with
      | nil => exact hl.elim
      | cons v vs =>
        obtain ⟨⟨A, n, c, F, hι, rfl⟩, hl⟩ := hl
        split at h
        · rename_i t' x ver hb
          split at h
          · rename_i y hy
            obtain ⟨rfl, rfl⟩ := castRow_some hy
            have hbl := hR.bl id
            rw [hb, hι] at hbl
            obtain ⟨A', n', c', F', e, hrow⟩ := hbl
            cases e
            have hg := hF.give hR (id := id) (by rw [hb]; rfl)
            rw [hι] at hg
            have hrow := hrow (by intro q hq; simp [Blk.par] at hq)
            exact ⟨_, l, _, [_], vs, F, rfl, hl, ⟨A, n, c, rfl, hrow.1, by simp only [List.append_nil]; rw [← hrow.1]; exact hrow⟩, hR.kill (by rw [hb]; simp), hg, h⟩
          · cases h
        · rename_i t' x x2 ver hb
          split at h
          · rename_i y y2 hy hy2
            obtain ⟨rfl, rfl⟩ := castRow_some hy
            obtain ⟨_, rfl⟩ := castRow_some hy2
            obtain ⟨hn, hrow⟩ := win_of hR hb (by intro q hq; simp at hq) hι
            have hg := hF.give hR (id := id) (by rw [hb]; rfl)
            rw [hι] at hg
            exact ⟨(y, y2), l, _, [_], vs, F, rfl, hl, ⟨A, n, c, rfl, hn, hrow⟩, hR.kill (by rw [hb]; simp), hg, h⟩
          · cases h
        · cases h
    · cases h

/-- the ids given up -/
structure Gone (σ : St) (ι : Nat → Home) (e E : List Nat) : Prop where
  ex : ∀ id ∈ e, (σ.H id).excl = true
  ft : E = e.flatMap fun id => (ι id).foot

theorem Gone.nil : Gone σ ι [] [] := ⟨by simp, rfl⟩

/-- σ1 is σ with some ids given up -/
structure Less (σ σ1 : St) : Prop where
  H : ∀ j, σ1.H j = σ.H j ∨ σ1.H j = .dead
  T : σ1.T = σ.T
  un : ∀ j, σ.H j = .unborn → σ1.H j = .unborn

theorem Less.refl (σ : St) : Less σ σ := ⟨fun _ => .inl rfl, rfl, fun _ h => h⟩
theorem Less.trans {σ σ1 σ2 : St} (h : Less σ σ1) (h' : Less σ1 σ2) : Less σ σ2 := ⟨fun j => by
  rcases h'.H j with e | e
  · rw [e]; exact h.H j
  · exact .inr e, by rw [h'.T, h.T], fun j hj => h'.un j (h.un j hj)⟩
theorem Less.kill {σ : St} {id : Nat} (h : σ.H id ≠ .unborn) : Less σ (σ.setH id .dead) := ⟨fun j => by
  by_cases e : j = id
  · right; rw [e, setH_same]
  · left; exact setH_ne σ _ e, rfl, fun j hj => by rw [setH_ne σ _ (by intro e; rw [e] at hj; exact h hj)]; exact hj⟩
theorem Less.live {σ σ1 : St} (h : Less σ σ1) {j : Nat} (hl : (σ1.H j).live = true) : σ1.H j = σ.H j := by
  rcases h.H j with e | e
  · exact e
  · rw [e] at hl; cases hl
theorem Less.par {σ σ1 : St} (h : Less σ σ1) {par : List (Nat × Nat)} (hp : ParOk σ1.H par) : ParOk σ.H par := by
  intro q hq
  obtain ⟨t, x, p, e⟩ := hp q hq
  have := h.live (j := q.1) (by rw [e]; rfl)
  exact ⟨t, x, p, by rw [← this, e]⟩
theorem Less.gone {σ σ1 : St} (h : Less σ σ1) {e E : List Nat} (hg : Gone σ1 ι e E) : Gone σ ι e E := by
  refine ⟨fun id hi => ?_, hg.ft⟩
  have h1 := hg.ex id hi
  rw [← h.live (by cases hb : σ1.H id <;> rw [hb] at h1 <;> first | rfl | cases h1)]
  exact h1

theorem rdG_run : ∀ {t : Ty} {σ : St} {F0 : List Nat} {l : List Sc} {vs : List Value} {k : t.T → List Sc → List Nat → Pg α} {r : α × St}, Rel X σ ι a w → Free X σ ι w F0 → (rdG t l k).run σ = some r → F2 (RSc ι) l vs →
    ∃ x rest e σ1 vs1 vs2 F, vs = vs1 ++ vs2 ∧ F2 (RSc ι) rest vs2 ∧ RE true w t x vs1 F ∧ Rel X σ1 ι a w ∧ Free X σ1 ι w (F0 ++ F) ∧ Gone σ ι e F ∧ Less σ σ1 ∧ (∀ id, id ∉ e → σ1.H id = σ.H id) ∧ (k x rest e).run σ1 = some r
  | .unit, σ, F0, l, vs, k, r, hR, hF, h, hl => ⟨(), l, [], σ, [], vs, [], rfl, hl, ⟨rfl, rfl⟩, hR, by simpa using hF, .nil, .refl _, fun _ _ => rfl, h⟩
  | .int q, σ, F0, l, vs, k, r, hR, hF, h, hl => by
    unfold rdG at h
    split at h
    · rename_i q' n l
      split at h
      · rename_i e
        subst e
        cases vs with
        | nil => exact hl.elim
        | cons v vs =>
          obtain ⟨⟨rfl, _⟩, hl⟩ := hl
          exact ⟨n, l, [], σ, [_], vs, [], rfl, hl, ⟨rfl, rfl⟩, hR, by simpa using hF, .nil, .refl _, fun _ _ => rfl, h⟩
      · cases h
    · cases h
  | .bool, σ, F0, l, vs, k, r, hR, hF, h, hl => by
    unfold rdG at h
    split at h
    · rename_i n l
      cases vs with
      | nil => exact hl.elim
      | cons v vs =>
        obtain ⟨⟨rfl, _⟩, hl⟩ := hl
        exact ⟨n, l, [], σ, [_], vs, [], rfl, hl, ⟨rfl, rfl⟩, hR, by simpa using hF, .nil, .refl _, fun _ _ => rfl, h⟩
    · cases h
  | .str, σ, F0, l, vs, k, r, hR, hF, h, hl => by
    unfold rdG at h
    split at h
    · rename_i n l
      cases vs with
      | nil => exact hl.elim
      | cons v vs =>
        obtain ⟨⟨rfl, _⟩, hl⟩ := hl
        exact ⟨n, l, [], σ, [_], vs, [], rfl, hl, ⟨rfl, rfl⟩, hR, by simpa using hF, .nil, .refl _, fun _ _ => rfl, h⟩
    · cases h
  | .pair ta tb, σ, F0, l, vs, k, r, hR, hF, h, hl => by
    unfold rdG at h
    obtain ⟨x, rest, e, σ1, vs1, vs2, F, rfl, hl2, h1, hR1, hF1, g1, l1, n1, h⟩ := rdG_run hR hF h hl
    obtain ⟨y, rest', e', σ2, vs3, vs4, F', rfl, hl3, h3, hR2, hF2, g2, l2, n2, h⟩ := rdG_run hR1 hF1 h hl2
    have g2 := l1.gone g2
    refine ⟨(x, y), rest', e ++ e', σ2, vs1 ++ vs3, vs4, F ++ F', by simp, hl3, ⟨vs1, vs3, F, F', rfl, rfl, h1, h3⟩, hR2, by simpa using hF2, ⟨fun id hi => ?_, by rw [List.flatMap_append, ← g1.ft, ← g2.ft]⟩, l1.trans l2, fun id hi => ?_, h⟩
    · rcases List.mem_append.1 hi with hi | hi
      · exact g1.ex id hi
      · exact g2.ex id hi
    · rw [n2 id (fun hm => hi (List.mem_append.2 (.inr hm))), n1 id (fun hm => hi (List.mem_append.2 (.inl hm)))]
  | .rm t, σ, F0, l, vs, k, r, hR, hF, h, hl => by
    unfold rdG at h
    cases h
  | .sl t, σ, F0, l, vs, k, r, hR, hF, h, hl => by
    unfold rdG at h
    split at h
    · rename_i l
      cases vs with
      | nil => exact hl.elim
      | cons v vs =>
        obtain ⟨⟨rfl, _⟩, hl⟩ := hl
        exact ⟨[], l, [], σ, [_], vs, [], rfl, hl, ⟨none, 0, 0, rfl, rfl, Nat.le_refl _, .inl ⟨rfl, rfl, fun _ => rfl⟩⟩, hR, by simpa using hF, .nil, .refl _, fun _ _ => rfl, h⟩
    · rename_i id l
      replace h := getB_run h
      cases vs with
      | nil => exact hl.elim
      | cons v vs =>
        obtain ⟨⟨A, n, c, F, hι, rfl⟩, hl⟩ := hl
        split at h
        · rename_i t' x ver hb
          split at h
          · rename_i y hy
            have hbl := hR.bl id
            rw [hb, hι] at hbl
            obtain ⟨A', n', c', F', e, hrow⟩ := hbl
            cases e
            have hg := hF.give hR (id := id) (by rw [hb]; rfl)
            rw [hι] at hg
            have hrow := hrow (by intro q hq; simp [Blk.par] at hq)
            exact ⟨_, l, [id], _, [_], vs, F, rfl, hl, ⟨A, n, c, rfl, castL_some hy hrow⟩, hR.kill (by rw [hb]; simp), hg, ⟨by simp [hb, Blk.excl], by simp [hι, Home.foot]⟩, .kill (by rw [hb]; simp), (fun j hj => setH_ne σ _ (by simpa using hj)), h⟩
          · cases h
        · rename_i t' x x2 ver hb
          split at h
          · rename_i y hy
            obtain ⟨hn, hrow⟩ := win_of hR hb (by intro q hq; simp at hq) hι
            have hg := hF.give hR (id := id) (by rw [hb]; rfl)
            rw [hι] at hg
            exact ⟨_, l, [id], _, [_], vs, F, rfl, hl, ⟨A, n, c, rfl, castL_some hy (RR_pre hn hrow)⟩, hR.kill (by rw [hb]; simp), hg, ⟨by simp [hb, Blk.excl], by simp [hι, Home.foot]⟩, .kill (by rw [hb]; simp), (fun j hj => setH_ne σ _ (by simpa using hj)), h⟩
          · cases h
        · cases h
    · cases h

/-- what has been read leans on p -/
structure SOk (σ : St) (ι : Nat → Home) (p : List (Nat × Nat)) (F : List Nat) : Prop where
  ok : ParOk σ.H p
  ap : ∀ i, (σ.H i).excl = true → i ∉ p.map (·.1) → ∀ b ∈ (ι i).foot, b ∉ F

theorem SOk.nil : SOk σ ι [] [] := ⟨by intro q hq; simp at hq, fun _ _ _ _ _ h => by simp at h⟩
theorem SOk.append {p p' : List (Nat × Nat)} {F F' : List Nat} (h : SOk σ ι p F) (h' : SOk σ ι p' F') : SOk σ ι (p ++ p') (F ++ F') := by
  refine ⟨fun q hq => ?_, fun i hi hn b hb hF => ?_⟩
  · rcases List.mem_append.1 hq with hq | hq
    · exact h.ok q hq
    · exact h'.ok q hq
  · rw [List.map_append] at hn
    rcases List.mem_append.1 hF with hF | hF
    · exact h.ap i hi (fun hm => hn (List.mem_append.2 (.inl hm))) b hb hF
    · exact h'.ap i hi (fun hm => hn (List.mem_append.2 (.inr hm))) b hb hF

theorem rdS_run (hR : Rel X σ ι a w) : ∀ {t : Ty} {l : List Sc} {vs : List Value} {k : t.T → List Sc → List (Nat × Nat) → Pg α} {r : α × St}, (rdS t l k).run σ = some r → F2 (RSc ι) l vs →
    ∃ x rest p vs1 vs2 F, vs = vs1 ++ vs2 ∧ F2 (RSc ι) rest vs2 ∧ RE false w t x vs1 F ∧ SOk σ ι p F ∧ (k x rest p).run σ = some r
  | .unit, l, vs, k, r, h, hl => ⟨(), l, [], [], vs, [], rfl, hl, ⟨rfl, rfl⟩, SOk.nil, h⟩
  | .int q, l, vs, k, r, h, hl => by
    unfold rdS at h
    split at h
    · rename_i q' n l
      split at h
      · rename_i e
        subst e
        cases vs with
        | nil => exact hl.elim
        | cons v vs =>
          obtain ⟨⟨rfl, _⟩, hl⟩ := hl
          exact ⟨n, l, [], [_], vs, [], rfl, hl, ⟨rfl, rfl⟩, SOk.nil, h⟩
      · cases h
    · cases h
  | .bool, l, vs, k, r, h, hl => by
    unfold rdS at h
    split at h
    · rename_i n l
      cases vs with
      | nil => exact hl.elim
      | cons v vs =>
        obtain ⟨⟨rfl, _⟩, hl⟩ := hl
        exact ⟨n, l, [], [_], vs, [], rfl, hl, ⟨rfl, rfl⟩, SOk.nil, h⟩
    · cases h
  | .str, l, vs, k, r, h, hl => by
    unfold rdS at h
    split at h
    · rename_i n l
      cases vs with
      | nil => exact hl.elim
      | cons v vs =>
        obtain ⟨⟨rfl, _⟩, hl⟩ := hl
        exact ⟨n, l, [], [_], vs, [], rfl, hl, ⟨rfl, rfl⟩, SOk.nil, h⟩
    · cases h
  | .pair ta tb, l, vs, k, r, h, hl => by
    unfold rdS at h
    obtain ⟨x, rest, u, vs1, vs2, F, rfl, hl2, h1, h2, h⟩ := rdS_run hR h hl
    obtain ⟨y, rest', u', vs3, vs4, F', rfl, hl3, h3, h4, h⟩ := rdS_run hR h hl2
    exact ⟨(x, y), rest', u ++ u', vs1 ++ vs3, vs4, F ++ F', by simp, hl3, ⟨vs1, vs3, F, F', rfl, rfl, h1, h3⟩, h2.append h4, h⟩
  | .rm t, l, vs, k, r, h, hl => by
    unfold rdS at h
    cases h
  | .sl t, l, vs, k, r, h, hl => by
    unfold rdS at h
    split at h
    · rename_i l
      cases vs with
      | nil => exact hl.elim
      | cons v vs =>
        obtain ⟨⟨rfl, _⟩, hl⟩ := hl
        exact ⟨[], l, [], [_], vs, [], rfl, hl, ⟨none, 0, 0, rfl, rfl, Nat.le_refl _, .inl ⟨rfl, rfl, fun h => by cases h⟩⟩, SOk.nil, h⟩
    · rename_i id l
      replace h := getB_run h
      cases vs with
      | nil => exact hl.elim
      | cons v vs =>
        obtain ⟨⟨A, n, c, F, hι, rfl⟩, hl⟩ := hl
        split at h
        · rename_i t' x own ver par hb
          split at h
          · rename_i y hy
            obtain ⟨hp, h⟩ := chkPar_run h
            have hbl := hR.bl id
            rw [hb, hι] at hbl
            obtain ⟨A', n', c', F', e, hrow⟩ := hbl
            cases e
            refine ⟨_, l, _, [_], vs, F, rfl, hl, ⟨A, n, c, rfl, castL_some hy (RR_ro (hrow hp))⟩, ⟨?_, ?_⟩, h⟩
            · cases own with
              | true =>
                intro q hq
                rcases List.mem_append.1 hq with hq | hq
                · simp at hq; subst hq; exact ⟨t', x, par, hb⟩
                · exact hp q hq
              | false => simpa using hp
            · intro i hi hn b hbi hbF
              have hk2 : i ∉ par.map (·.1) := fun hm => hn (by rw [List.map_append]; exact List.mem_append.2 (.inr hm))
              have hk3 : i ≠ id := by
                cases hq : own with
                | true => rintro rfl; apply hn; simp [hq]
                | false => rintro rfl; rw [hb, hq] at hi; cases hi
              have := hR.sep i id hk3 hi (by rw [hb]; rfl) (by rw [hb]; exact hp) (by rw [hb]; exact hk2) b hbi
              rw [hι] at this
              exact this hbF
          · cases h
        · rename_i t' x x2 ver par hb
          split at h
          · rename_i y hy
            obtain ⟨hp, h⟩ := chkPar_run h
            obtain ⟨hn, hrow⟩ := win_of hR hb hp hι
            refine ⟨_, l, _, [_], vs, F, rfl, hl, ⟨A, n, c, rfl, castL_some hy (RR_pre hn hrow)⟩, ⟨hp, ?_⟩, h⟩
            intro i hi hn b hbi hbF
            have hk3 : i ≠ id := by rintro rfl; rw [hb] at hi; cases hi
            have := hR.sep i id hk3 hi (by rw [hb]; rfl) (by rw [hb]; exact hp) (by rw [hb]; exact hn) b hbi
            rw [hι] at this
            exact this hbF
          · cases h
        · cases h
    · cases h
end
end Go.Ev
