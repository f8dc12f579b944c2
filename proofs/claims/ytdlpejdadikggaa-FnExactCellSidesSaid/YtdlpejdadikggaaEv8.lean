/- A part of a verified evaluator of the model's code: what it evaluates is what a call returns; no condition beyond the theorems' own hypotheses. -/
import Derived.Test.YtdlpejdadikggaaEv7
set_option linter.unusedVariables false
namespace Go.Ev
open Go

theorem Addr_add (b o n : Nat) : (⟨b, o, none⟩ : Addr).add n = ⟨b, o + n, none⟩ := by unfold Addr.add; split <;> simp_all

theorem run_isAggB {P : Program} {t : TypeId} (h : (P.underlying t).isNone = false) (w : World) : (isAgg t).run P w = .ok (isAggB P t) w := by
  cases hu : P.underlying t with
  | none => rw [hu] at h; cases h
  | some d => cases d <;> simp [isAgg, run_underlying hu, isAggB, hu]

theorem run_sizeB {P : Program} {t : TypeId} {n : Nat} (h : sizeB P t = some n) (w : World) : (sizeOf t).run P w = .ok n w := by
  unfold sizeB at h
  cases hi : P.info? t with
  | none => rw [hi] at h; cases h
  | some i => rw [hi] at h; simp at h; simp [sizeOf, typeInfo, hi, h]

section
variable {X : Ctx} {σ : St} {ι : Nat → Home} {a : Act} {w : World} {α : Type}

theorem Rel.grow (hR : Rel X σ ι a w) {w' : World} (hsz : WLe w w') (hw : ∀ b, b < w.heap.size → w'.heap[b]? = w.heap[b]?) : Rel X σ ι a w' :=
  hR.change (D := fun _ => False) (N := fun _ => False) rfl (fun _ _ => rfl) hsz (fun b hb _ => hw b hb) (fun b hb => hb.elim) (fun j hj => ⟨rfl, rfl⟩)
    (fun _ _ _ _ _ _ h => h) (fun _ _ h => h) (fun _ h => h.elim) (fun _ _ h => h.elim) (fun _ _ _ h => h.elim) (fun _ _ _ h => h.elim) hR.pb hR.pv

theorem live_of_excl {b : Blk} (h : b.excl = true) : b.live = true := by cases b <;> simp_all [Blk.excl, Blk.live]

theorem Free.grow {F G : List Nat} (hR : Rel X σ ι a w) (hF : Free X σ ι w F) {w' : World} (hsz : w.heap.size ≤ w'.heap.size)
    (hG : G.Nodup) (hG1 : ∀ b ∈ G, w.heap.size ≤ b ∧ b < w'.heap.size) : Free X σ ι w' (F ++ G) where
  away id hl hp b hb hf := by
    rcases List.mem_append.1 hb with hb | hb
    · exact hF.away id hl hp b hb hf
    · have := hR.lt id hl b hf
      have := (hG1 b hb).1
      omega
  lt b hb := by
    rcases List.mem_append.1 hb with hb | hb
    · exact Nat.lt_of_lt_of_le (hF.lt b hb) hsz
    · exact (hG1 b hb).2
  mu b hb := by
    rcases List.mem_append.1 hb with hb | hb
    · exact hF.mu b hb
    · exact .inl (Nat.le_trans hR.le.le (hG1 b hb).1)
  nd := by
    rw [List.nodup_append]
    refine ⟨hF.nd, hG, fun x hx y hy e => ?_⟩
    have h1 := hF.lt x hx
    have h2 := (hG1 y hy).1
    omega

/-- free blocks become an id's own -/
theorem Rel.take (hR : Rel X σ ι a w) {F G : List Nat} (hF : Free X σ ι w (F ++ G)) {id : Nat} (hu : σ.H id = .unborn) {blk : Blk} {home : Home} (hf : home.foot = F)
    (hb : RBlk σ.H w ι blk home) (hp : blk.par = []) (hnb : blk ≠ .unborn) :
    Rel X (σ.setH id blk) (upd ι id home) a w ∧ Free X (σ.setH id blk) (upd ι id home) w G ∧ Lift ι (upd ι id home) := by
  have hn : ι id = .none := hR.unborn hu
  have hL : Lift ι (upd ι id home) := fun j hj => upd_ne ι home (fun e => hj (e ▸ hn))
  have hne : ∀ j, ∀ q ∈ (σ.H j).par, q.1 ≠ id := fun j q hq e => hR.pb j q hq (e ▸ hu)
  have hP : ∀ par : List (Nat × Nat), (∀ q ∈ par, q.1 ≠ id) → ParOk (σ.setH id blk).H par → ParOk σ.H par := by
    intro par hp h q hq; have := h q hq; rwa [setH_ne σ blk (hp q hq)] at this
  have hnd := List.nodup_append.1 hF.nd
  refine ⟨hR.change (D := fun _ => False) (N := fun j => j = id) rfl hL (WLe.refl _) (fun b hb _ => rfl) (fun b hb => hb.elim) (fun j hj => ⟨setH_ne σ blk hj, upd_ne ι home hj⟩)
    (fun _ _ _ _ _ _ h => h) (fun j hj h => hP _ (hne j) h) ?_ ?_ ?_ ?_ ?_ ?_, ?_, hL⟩
  · rintro j rfl
    rw [setH_same, upd_same, hf]
    exact ⟨RBlk_lift hL (fun _ => by rw [hp]; intro q hq; simp at hq) (fun _ _ _ _ => rfl) hb, fun _ b hb => hF.lt b (List.mem_append.2 (.inl hb)),
      fun _ => ⟨hnd.1, fun b hb => hF.mu b (List.mem_append.2 (.inl hb)), hp⟩⟩
  · rintro i j rfl hj hi hl hp hr b hb hb2
    rw [upd_same, hf] at hb
    exact hF.away j hl (hP _ (hne j) hp) b (List.mem_append.2 (.inl hb)) hb2
  · rintro i j hi rfl he hl _ hr b hb hb2
    rw [upd_same, hf] at hb2
    exact hF.away i (live_of_excl he) (by rw [hR.po i he]; intro q hq; simp at hq) b (List.mem_append.2 (.inl hb2)) hb
  · rintro i j hij rfl rfl
    exact absurd rfl hij
  · intro j q hq
    by_cases hj : j = id
    · subst hj; rw [setH_same, hp] at hq; simp at hq
    · rw [setH_ne σ blk hj] at hq
      rw [setH_ne σ blk (hne j q hq)]
      exact hR.pb j q hq
  · intro j q hq
    by_cases hj : j = id
    · subst hj; rw [setH_same, hp] at hq; simp at hq
    · rw [setH_ne σ blk hj] at hq
      rw [setH_ne σ blk (hne j q hq)]
      exact hR.pv j q hq
  · exact {
      away := fun j hl hp' b hb hb2 => by
        by_cases hj : j = id
        · subst hj
          rw [upd_same, hf] at hb2
          exact hnd.2.2 b hb2 b hb rfl
        · rw [setH_ne σ blk hj] at hl hp'
          rw [upd_ne ι home hj] at hb2
          exact hF.away j hl (hP _ (hne j) hp') b (List.mem_append.2 (.inr hb)) hb2
      lt := fun b hb => hF.lt b (List.mem_append.2 (.inr hb))
      mu := fun b hb => hF.mu b (List.mem_append.2 (.inr hb))
      nd := hnd.2.1 }

theorem take_drop_get {β : Type} {l : List β} {off sz j : Nat} {v : β} (h : ((l.drop off).take sz)[j]? = some v) : l[off + j]? = some v := by
  rw [List.getElem?_take] at h
  split at h
  · rwa [List.getElem?_drop] at h
  · cases h

theorem loadVar_part {P : Program} {t : TypeId} {l : List Sc} {off : Nat} {v : AV} (h : partS P t l off = some v) {b base : Nat} {cs : List Value}
    (hc : ∀ k u, cs[k]? = some u → w.cell? ⟨b, base + k, none⟩ = some u) (hl : F2 (RSc ι) l cs) :
    ∃ u, (loadVar t ⟨b, base + off, none⟩).run P w = .ok u w ∧ RAV ι v u := by
  unfold partS at h
  cases hs : sizeB P t with
  | none => rw [hs] at h; cases h
  | some sz =>
    rw [hs] at h
    simp only at h
    cases hn : (P.underlying t).isNone with
    | true => rw [hn] at h; cases h
    | false =>
      rw [hn] at h
      simp only [cond_false] at h
      cases ha : isAggB P t with
      | true =>
        rw [ha] at h
        simp only [cond_true] at h
        cases hle : Nat.ble (off + sz) l.length with
        | false => rw [hle] at h; cases h
        | true =>
          rw [hle] at h
          simp only [cond_true, Option.some.injEq] at h
          subst h
          have hle' := Nat.le_of_ble_eq_true hle
          have hlen : ((cs.drop off).take sz).length = sz := by rw [List.length_take, List.length_drop, ← F2_len hl]; omega
          have hld := run_loadCells_list (P := P) w ⟨b, base + off, none⟩ ((cs.drop off).take sz) (fun j u hj => by
            rw [Addr_add, Nat.add_assoc]
            exact hc _ _ (take_drop_get hj))
          rw [hlen] at hld
          refine ⟨.agg ((cs.drop off).take sz).toArray, ?_, ⟨_, rfl, F2_take sz (F2_drop off hl)⟩⟩
          simp [loadVar, run_isAggB hn, ha, run_sizeB hs, hld]
      | false =>
        rw [ha] at h
        simp only [cond_false] at h
        cases hg : l[off]? with
        | none => rw [hg] at h; cases h
        | some c =>
          rw [hg] at h
          simp only [Option.some.injEq] at h
          subst h
          obtain ⟨u, hu, hcu⟩ := F2_get hl hg
          refine ⟨u, ?_, RAV_sc.2 hcu⟩
          simp [loadVar, run_isAggB hn, ha, hc _ _ hu]

theorem part_part {P : Program} {t : TypeId} {l : List Sc} {off : Nat} {v : AV} (h : partS P t l off = some v) {cs : Array Value} (hl : F2 (RSc ι) l cs.toList) :
    ∃ u, (part t cs off).run P w = .ok u w ∧ RAV ι v u := by
  unfold partS at h
  cases hs : sizeB P t with
  | none => rw [hs] at h; cases h
  | some sz =>
    rw [hs] at h
    simp only at h
    cases hn : (P.underlying t).isNone with
    | true => rw [hn] at h; cases h
    | false =>
      rw [hn] at h
      simp only [cond_false] at h
      cases ha : isAggB P t with
      | true =>
        rw [ha] at h
        simp only [cond_true] at h
        cases hle : Nat.ble (off + sz) l.length with
        | false => rw [hle] at h; cases h
        | true =>
          rw [hle] at h
          simp only [cond_true, Option.some.injEq] at h
          subst h
          refine ⟨.agg (cs.extract off (off + sz)), ?_, ⟨_, rfl, ?_⟩⟩
          · simp [part, run_isAggB hn, ha, run_sizeB hs]
          · simp only [Array.toList_extract]
            have e : (cs.toList.extract off (off + sz)) = (cs.toList.drop off).take sz := by simp [List.extract_eq_take_drop]
            rw [e]
            exact F2_take sz (F2_drop off hl)
      | false =>
        rw [ha] at h
        simp only [cond_false] at h
        cases hg : l[off]? with
        | none => rw [hg] at h; cases h
        | some c =>
          rw [hg] at h
          simp only [Option.some.injEq] at h
          subst h
          obtain ⟨u, hu, hcu⟩ := F2_get hl hg
          refine ⟨u, ?_, RAV_sc.2 hcu⟩
          have hu' : cs[off]? = some u := by simpa using hu
          simp [part, run_isAggB hn, ha, hu']

theorem newBs_append : ∀ (l m : List Blk) (n : Nat) (k : Pg α), newBs n (l ++ m) k = newBs n l (newBs (n + l.length) m k)
  | [], m, n, k => by simp [newBs]
  | b :: l, m, n, k => by
    simp only [List.cons_append, newBs, newBs_append l m (n + 1) k, List.length_cons]
    rw [show n + 1 + l.length = n + (l.length + 1) by omega]

/-- only ids that weren't there have been told, none of them one's own -/
structure Ext (σ : St) (ι : Nat → Home) (σ' : St) (ι' : Nat → Home) : Prop where
  H : ∀ j, σ.H j ≠ .unborn → σ'.H j = σ.H j ∧ ι' j = ι j
  ex : ∀ j, σ.H j = .unborn → (σ'.H j).excl = false
  T : σ'.T = σ.T

theorem unT_ro {par : List (Nat × Nat)} {own : Bool} {r : α × St} : ∀ {t : Ty} {x : t.T} {cs : List Value} {F : List Nat} {nid : Nat} {k : Pg α} {σ : St} {ι : Nat → Home}, Rel X σ ι a w → RE own w t x cs F → ParOk σ.H par →
    (∀ i, (σ.H i).excl = true → i ∉ par.map (·.1) → ∀ b ∈ (ι i).foot, b ∉ F) → (newBs nid (unT false par t x nid).2 k).run σ = some r →
    ∃ σ' ι', Rel X σ' ι' a w ∧ Lift ι ι' ∧ Ext σ ι σ' ι' ∧ F2 (RSc ι') (unT false par t x nid).1 cs ∧ k.run σ' = some r
  | .unit, x, cs, F, nid, k, σ, ι, hR, hx, hp, hs, h => ⟨σ, ι, hR, fun _ _ => rfl, ⟨fun _ _ => ⟨rfl, rfl⟩, fun j hj => by rw [hj]; rfl, rfl⟩, by rw [hx.1]; trivial, h⟩
  | .int q, x, cs, F, nid, k, σ, ι, hR, hx, hp, hs, h => ⟨σ, ι, hR, fun _ _ => rfl, ⟨fun _ _ => ⟨rfl, rfl⟩, fun j hj => by rw [hj]; rfl, rfl⟩, by rw [hx.1]; exact ⟨⟨rfl, rfl⟩, trivial⟩, h⟩
  | .bool, x, cs, F, nid, k, σ, ι, hR, hx, hp, hs, h => ⟨σ, ι, hR, fun _ _ => rfl, ⟨fun _ _ => ⟨rfl, rfl⟩, fun j hj => by rw [hj]; rfl, rfl⟩, by rw [hx.1]; exact ⟨⟨rfl, rfl⟩, trivial⟩, h⟩
  | .str, x, cs, F, nid, k, σ, ι, hR, hx, hp, hs, h => ⟨σ, ι, hR, fun _ _ => rfl, ⟨fun _ _ => ⟨rfl, rfl⟩, fun j hj => by rw [hj]; rfl, rfl⟩, by rw [hx.1]; exact ⟨⟨rfl, rfl⟩, trivial⟩, h⟩
  | .pair ta tb, x, cs, F, nid, k, σ, ι, hR, hx, hp, hs, h => by
    obtain ⟨c1, c2, F1, F2, rfl, rfl, h1, h2⟩ := hx
    simp only [unT] at h ⊢
    rw [newBs_append] at h
    obtain ⟨σ1, ι1, hR1, hL1, hE1, hF1, h⟩ := unT_ro hR h1 hp (fun i hi hr b hb hb2 => hs i hi hr b hb (List.mem_append.2 (.inl hb2))) h
    have hp1 : ParOk σ1.H par := fun q hq => by
      obtain ⟨t, x, p, e⟩ := hp q hq
      exact ⟨t, x, p, by rw [(hE1.H q.1 (by rw [e]; simp)).1, e]⟩
    obtain ⟨σ2, ι2, hR2, hL2, hE2, hF2, h⟩ := unT_ro hR1 h2 hp1 (fun i hi hr b hb hb2 => by
      by_cases hu : σ.H i = .unborn
      · rw [hE1.ex i hu] at hi; cases hi
      · rw [(hE1.H i hu).1] at hi
        rw [(hE1.H i hu).2] at hb
        exact hs i hi hr b hb (List.mem_append.2 (.inr hb2))) h
    refine ⟨σ2, ι2, hR2, fun j hj => by rw [hL2 j (by rw [hL1 j hj]; exact hj), hL1 j hj], ⟨fun j hj => ?_, fun j hj => ?_, by rw [hE2.T, hE1.T]⟩, F2_append (F2_mono (fun _ _ => RSc_lift hL2) hF1) hF2, h⟩
    · have h1 := hE1.H j hj
      have h2 := hE2.H j (by rw [h1.1]; exact hj)
      exact ⟨by rw [h2.1, h1.1], by rw [h2.2, h1.2]⟩
    · by_cases hu : σ1.H j = .unborn
      · exact hE2.ex j hu
      · rw [(hE2.H j hu).1]; exact hE1.ex j hj
  | .sl t, x, cs, F, nid, k, σ, ι, hR, hx, hp, hs, h => by
    have hlt := RE_lt hx
    obtain ⟨A, n, c, rfl, hrow⟩ := hx
    obtain ⟨hu, h⟩ := newB_run h
    have hR' := hR.newId hu (blk := .row t x false 0 par) (home := .row A n c F) (w' := w) (WLe.refl _) (fun _ _ => rfl) (fun _ => ⟨A, n, c, F, rfl, fun _ => RR_ro hrow⟩)
      (fun _ H w ι' _ hf => ⟨A, n, c, F, rfl, fun h => (hf h).elim⟩) (fun _ => hlt) (fun h => by cases h) (fun i he _ _ hr => hs i he hr)
      (fun q hq => by obtain ⟨t, x, p, e⟩ := hp q hq; rw [e]; simp) (fun q hq ver e' => by obtain ⟨t, x, p, e⟩ := hp q hq; rw [e] at e'; cases e'; exact Nat.le_refl _) (by simp)
    have hn := hR.unborn hu
    refine ⟨_, _, hR', fun j hj => upd_ne ι _ (fun e => hj (e ▸ hn)), ⟨fun j hj => ?_, fun j hj => ?_, rfl⟩, ⟨⟨A, n, c, F, upd_same _ _ _, rfl⟩, trivial⟩, h⟩
    · have : j ≠ nid := fun e => hj (e ▸ hu)
      exact ⟨setH_ne σ _ this, upd_ne ι _ this⟩
    · by_cases e : j = nid
      · rw [e, setH_same]; rfl
      · rw [setH_ne σ _ e, hj]; rfl
  | .rm t, x, cs, F, nid, k, σ, ι, hR, hx, hp, hs, h => by
    have hlt := RE_lt hx
    obtain ⟨A, n, c, rfl, hnx, hrow⟩ := hx
    obtain ⟨hu, h⟩ := newB_run h
    have hR' := hR.newId hu (blk := .win t x.1 x.2 false 0 par) (home := .row A n c F) (w' := w) (WLe.refl _) (fun _ _ => rfl) (fun _ => ⟨A, n, c, F, rfl, hnx, fun _ => RR_ro hrow⟩)
      (fun _ H w ι' _ hf => ⟨A, n, c, F, rfl, hnx, fun h => (hf h).elim⟩) (fun _ => hlt) (fun h => by cases h) (fun i he _ _ hr => hs i he hr)
      (fun q hq => by obtain ⟨t, x, p, e⟩ := hp q hq; rw [e]; simp) (fun q hq ver e' => by obtain ⟨t, x, p, e⟩ := hp q hq; rw [e] at e'; cases e'; exact Nat.le_refl _) (by simp)
    have hn := hR.unborn hu
    refine ⟨_, _, hR', fun j hj => upd_ne ι _ (fun e => hj (e ▸ hn)), ⟨fun j hj => ?_, fun j hj => ?_, rfl⟩, ⟨⟨A, n, c, F, upd_same _ _ _, rfl⟩, trivial⟩, h⟩
    · have : j ≠ nid := fun e => hj (e ▸ hu)
      exact ⟨setH_ne σ _ this, upd_ne ι _ this⟩
    · by_cases e : j = nid
      · rw [e, setH_same]; rfl
      · rw [setH_ne σ _ e, hj]; rfl

theorem unT_own {r : α × St} : ∀ {t : Ty} {x : t.T} {cs : List Value} {F G : List Nat} {nid : Nat} {k : Pg α} {σ : St} {ι : Nat → Home}, Rel X σ ι a w → RE true w t x cs F → Free X σ ι w (F ++ G) →
    (newBs nid (unT true [] t x nid).2 k).run σ = some r →
    ∃ σ' ι', Rel X σ' ι' a w ∧ Lift ι ι' ∧ Free X σ' ι' w G ∧ F2 (RSc ι') (unT true [] t x nid).1 cs ∧ (∀ j, ∀ q ∈ (σ'.H j).par, q ∈ (σ.H j).par) ∧ k.run σ' = some r
  | .unit, x, cs, F, G, nid, k, σ, ι, hR, hx, hF, h => ⟨σ, ι, hR, fun _ _ => rfl, by simpa [hx.2] using hF, by rw [hx.1]; trivial, fun _ _ h => h, h⟩
  | .int q, x, cs, F, G, nid, k, σ, ι, hR, hx, hF, h => ⟨σ, ι, hR, fun _ _ => rfl, by simpa [hx.2] using hF, by rw [hx.1]; exact ⟨⟨rfl, rfl⟩, trivial⟩, fun _ _ h => h, h⟩
  | .bool, x, cs, F, G, nid, k, σ, ι, hR, hx, hF, h => ⟨σ, ι, hR, fun _ _ => rfl, by simpa [hx.2] using hF, by rw [hx.1]; exact ⟨⟨rfl, rfl⟩, trivial⟩, fun _ _ h => h, h⟩
  | .str, x, cs, F, G, nid, k, σ, ι, hR, hx, hF, h => ⟨σ, ι, hR, fun _ _ => rfl, by simpa [hx.2] using hF, by rw [hx.1]; exact ⟨⟨rfl, rfl⟩, trivial⟩, fun _ _ h => h, h⟩
  | .pair ta tb, x, cs, F, G, nid, k, σ, ι, hR, hx, hF, h => by
    obtain ⟨c1, c2, F1, F2, rfl, rfl, h1, h2⟩ := hx
    simp only [unT] at h ⊢
    rw [newBs_append] at h
    obtain ⟨σ1, ι1, hR1, hL1, hE1, hF1, hp1, h⟩ := unT_own (G := F2 ++ G) hR h1 (by simpa using hF) h
    obtain ⟨σ2, ι2, hR2, hL2, hE2, hF2, hp2, h⟩ := unT_own (G := G) hR1 h2 hE1 h
    exact ⟨σ2, ι2, hR2, fun j hj => by rw [hL2 j (by rw [hL1 j hj]; exact hj), hL1 j hj], hE2, F2_append (F2_mono (fun _ _ => RSc_lift hL2) hF1) hF2, fun j q hq => hp1 j q (hp2 j q hq), h⟩
  | .sl t, x, cs, F, G, nid, k, σ, ι, hR, hx, hF, h => by
    obtain ⟨A, n, c, rfl, hrow⟩ := hx
    obtain ⟨hu, h⟩ := newB_run h
    obtain ⟨h1, h2, h3⟩ := hR.take hF hu (blk := .row t x true 0 []) (home := .row A n c F) rfl ⟨A, n, c, F, rfl, fun _ => hrow⟩ rfl (by simp)
    exact ⟨_, _, h1, h3, h2, ⟨⟨A, n, c, F, upd_same _ _ _, rfl⟩, trivial⟩, fun j q hq => by
      by_cases e : j = nid
      · rw [e, setH_same] at hq; simp [Blk.par] at hq
      · rwa [setH_ne σ _ e] at hq, h⟩
  | .rm t, x, cs, F, G, nid, k, σ, ι, hR, hx, hF, h => by
    obtain ⟨A, n, c, rfl, hnx, hrow⟩ := hx
    obtain ⟨hu, h⟩ := newB_run h
    obtain ⟨h1, h2, h3⟩ := hR.take hF hu (blk := .win t x.1 x.2 true 0 []) (home := .row A n c F) rfl ⟨A, n, c, F, rfl, hnx, fun _ => hrow⟩ rfl (by simp)
    exact ⟨_, _, h1, h3, h2, ⟨⟨A, n, c, F, upd_same _ _ _, rfl⟩, trivial⟩, fun j q hq => by
      by_cases e : j = nid
      · rw [e, setH_same] at hq; simp [Blk.par] at hq
      · rwa [setH_ne σ _ e] at hq, h⟩
end
end Go.Ev
