/- A part of a verified evaluator of the model's code: what it evaluates is what a call returns; no condition beyond the theorems' own hypotheses. -/
import Derived.Test.YtdlpejdadikggaaEv21
set_option linter.unusedVariables false
namespace Go.Ev
open Go

section
variable {X : Ctx} {σ σ' : St} {ι : Nat → Home} {a : Act} {w : World} {α A : Type} {nid : Nat}

theorem chkLive_run : ∀ {u : List Nat} {k : Pg α} {r : α × St}, (chkLive u k).run σ = some r → (∀ i ∈ u, (σ.H i).live = true ∧ ParOk σ.H (σ.H i).par) ∧ k.run σ = some r
  | [], k, r, h => ⟨by simp, h⟩
  | i :: u, k, r, h => by
    simp only [chkLive, Pg.run] at h
    split at h
    · rename_i t x own ver par hb
      obtain ⟨hp, h⟩ := chkPar_run h
      obtain ⟨h1, h⟩ := chkLive_run h
      refine ⟨fun j hj => ?_, h⟩
      rcases List.mem_cons.1 hj with rfl | hj
      · rw [hb]; exact ⟨rfl, hp⟩
      · exact h1 j hj
    · rename_i t x y own ver par hb
      obtain ⟨hp, h⟩ := chkPar_run h
      obtain ⟨h1, h⟩ := chkLive_run h
      refine ⟨fun j hj => ?_, h⟩
      rcases List.mem_cons.1 hj with rfl | hj
      · rw [hb]; exact ⟨rfl, hp⟩
      · exact h1 j hj
    · rename_i l ro hb
      obtain ⟨h1, h⟩ := chkLive_run h
      refine ⟨fun j hj => ?_, h⟩
      rcases List.mem_cons.1 hj with rfl | hj
      · rw [hb]; exact ⟨rfl, by intro q hq; simp [Blk.par] at hq⟩
      · exact h1 j hj
    · cases h

theorem UOk.apart {u U G : List Nat} {σ1 : St} (hu : UOk σ ι u U) (hl : Less σ σ1) (hc : ∀ i ∈ u, (σ1.H i).live = true ∧ ParOk σ1.H (σ1.H i).par) (hF : Free X σ1 ι w G) : ∀ b ∈ U, b ∉ G := by
  intro b hb hG
  obtain ⟨id, h1, h2, h3, h4, h5⟩ := hu b hb
  exact hF.away id (hc id h1).1 (hc id h1).2 b hG h2

theorem rdPat0_run : ∀ {l : List PE} {σ : St} {G : List Nat} {k : PTe l → List Nat → Pg α} {r : α × St}, Rel X σ ι a w → Free X σ ι w G → (rdPat0 l k).run σ = some r →
    ∃ x u U O σ1, PatR w ι (fun i => a.tmps.getD i undef) l x U O ∧ UOk σ ι u U ∧ Less σ σ1 ∧ Rel X σ1 ι a w ∧ Free X σ1 ι w (G ++ O) ∧ (k x u).run σ1 = some r
  | [], σ, G, k, r, hR, hF, h => ⟨(), [], [], [], σ, ⟨rfl, rfl⟩, UOk.nil, .refl σ, hR, by simpa using hF, h⟩
  | e :: l, σ, G, k, r, hR, hF, h => by
    simp only [rdPat0, Pg.run] at h
    obtain ⟨x, u, U, O, σ1, h1, h2, h3, h4, h5, h⟩ := rdE_run hR hF (hR.tm e.tmp) h
    obtain ⟨y, u', U', O', σ2, g1, g2, g3, g4, g5, h⟩ := rdPat0_run h4 h5 h
    exact ⟨(x, y), u ++ u', U ++ U', O ++ O', σ2, ⟨U, U', O, O', rfl, rfl, h1, g1⟩, h2.append (h3.uok g2), h3.trans g3, g4, by simpa using g5, h⟩

theorem rdPat_run {l : List PE} {k : PTe l → Pg α} {r : α × St} (hR : Rel X σ ι a w) (hk : ∀ q ∈ X.pins, ∃ e ∈ l, e.pin = true ∧ e.id = q.1) (hpt : pinTy l = true) (h : (rdPat l k).run σ = some r) :
    ∃ x π U O σ1, PatOk X l x a w π U O ∧ (k x).run σ1 = some r := by
  unfold rdPat at h
  obtain ⟨x, u, U, O, σ1, h1, h2, h3, h4, h5, h⟩ := rdPat0_run hR Free.nil h
  obtain ⟨h6, h⟩ := chkLive_run h
  simp only [List.nil_append] at h5
  refine ⟨x, ι, U, O, σ1, ⟨h1, h2.apart h3 h6 h5, ?_, h5.lt, h5.mu, h5.nd, hR.pn, hk, hpt, hR.sz, hR.df, hR.fr, hR.le⟩, h⟩
  intro b hb
  obtain ⟨id, g1, g2, g3, _⟩ := h2 b hb
  exact hR.lt id g3 b g2

theorem pinsOk_run {pins : List Nat} {l : List PE} (h : pinsOk pins l = true) : ∀ p ∈ pins, ∃ e ∈ l, e.pin = true ∧ e.id = p := by
  intro p hp
  simp only [pinsOk, Bool.and_eq_true] at h
  have := List.all_eq_true.1 h.1 p hp
  obtain ⟨e, he, h2⟩ := List.any_eq_true.1 this
  rw [Bool.and_eq_true] at h2
  exact ⟨e, he, h2.1, Nat.eq_of_beq_eq_true h2.2⟩

theorem rdK_run {R : Type} {F : Fn R} {l : List PE} {K : PTe l → Option A} {z : A} (hR : Rel X σ ι a w) (hp : F.pins = X.pins.map (·.1)) (h : rdK F l σ K = some z) :
    ∃ x π U O, PatOk X l x a w π U O ∧ K x = some z := by
  unfold rdK at h
  cases hc : pinsOk F.pins l with
  | false => rw [hc] at h; cases h
  | true =>
    rw [hc] at h
    simp only [cond_true] at h
    rw [Pg.runK_eq] at h
    cases hr : (rdPat l fun x => .ret x).run σ with
    | none => rw [hr] at h; cases h
    | some q =>
      rw [hr] at h
      simp only [Option.bind_some] at h
      obtain ⟨x, π, U, O, σ1, h1, h2⟩ := rdPat_run hR (fun q hq => pinsOk_run hc q.1 (by rw [hp]; exact List.mem_map.2 ⟨q, hq, rfl⟩)) (by simp only [pinsOk, Bool.and_eq_true] at hc; exact hc.2) hr
      simp only [Pg.run, Option.some.injEq] at h2
      subst h2
      exact ⟨x, π, U, O, h1, h⟩

/-! The state that is made. -/
structure Bld (X : Ctx) (σ : St) (ι : Nat → Home) (a : Act) (w : World) (U G : List Nat) : Prop where
  rel : Rel X σ ι a w
  free : Free X σ ι w G
  ap : ∀ i, (σ.H i).excl = true → ∀ b ∈ (ι i).foot, b ∉ U

theorem newB_bld {U G : List Nat} (hB : Bld X σ ι a w U G) (hUG : ∀ b ∈ U, b ∉ G) (hlt : ∀ b ∈ U, b < w.heap.size) {id : Nat} {blk : Blk} {k : Pg α} {r : α × St} (h : (newB id blk k).run σ = some r) (home : Home) (hb : RBlk σ.H w ι blk home) (he : blk.excl = false) (hp : blk.par = [])
    (hf : ∀ b ∈ home.foot, b ∈ U) (hnb : blk ≠ .unborn) :
    Bld X (σ.setH id blk) (upd ι id home) a w U G ∧ Lift ι (upd ι id home) ∧ k.run (σ.setH id blk) = some r := by
  obtain ⟨hu, h⟩ := newB_run h
  have hn := hB.rel.unborn hu
  have hR := hB.rel.newId hu (blk := blk) (home := home) (w' := w) (WLe.refl _) (fun _ _ => rfl) (fun _ => hb) (fun h => absurd hp h) (fun _ b hb => hlt b (hf b hb)) (fun h => by rw [he] at h; cases h)
    (fun i hi _ _ _ b hb hb2 => hB.ap i hi b hb (hf b hb2)) (by rw [hp]; simp) (by rw [hp]; simp) hnb
  refine ⟨⟨hR, ⟨?_, hB.free.lt, hB.free.mu, hB.free.nd⟩, ?_⟩, fun j hj => upd_ne ι home (fun e => hj (e ▸ hn)), h⟩
  · intro j hl hp' b hb hb2
    by_cases e : j = id
    · subst e
      rw [upd_same] at hb2
      exact hUG b (hf b hb2) hb
    · rw [setH_ne σ _ e] at hl hp'
      rw [upd_ne ι home e] at hb2
      refine hB.free.away j hl ?_ b hb hb2
      intro q hq
      have := hp' q hq
      rwa [setH_ne σ _ (show q.1 ≠ id from fun e => hB.rel.pb j q hq (by rw [e]; exact hu))] at this
  · intro i hi b hb
    by_cases e : i = id
    · subst e; rw [setH_same, he] at hi; cases hi
    · rw [setH_ne σ _ e] at hi
      rw [upd_ne ι home e] at hb
      exact hB.ap i hi b hb

theorem take_bld {U F G : List Nat} (hB : Bld X σ ι a w U (F ++ G)) (hUG : ∀ b ∈ U, b ∉ F ++ G) {id : Nat} {blk : Blk} {k : Pg α} {r : α × St} (h : (newB id blk k).run σ = some r) (home : Home) (hf : home.foot = F) (hb : RBlk σ.H w ι blk home) (hp : blk.par = [])
    (hnb : blk ≠ .unborn) :
    Bld X (σ.setH id blk) (upd ι id home) a w U G ∧ Lift ι (upd ι id home) ∧ k.run (σ.setH id blk) = some r := by
  obtain ⟨hu, h⟩ := newB_run h
  obtain ⟨h1, h2, h3⟩ := hB.rel.take hB.free hu hf hb hp hnb
  refine ⟨⟨h1, h2, fun i hi b hb => ?_⟩, h3, h⟩
  by_cases e : i = id
  · subst e
    rw [upd_same, hf] at hb
    exact fun hU => hUG b hU (List.mem_append.2 (.inl hb))
  · rw [setH_ne σ _ e] at hi
    rw [upd_ne ι home e] at hb
    exact hB.ap i hi b hb

theorem Lift.trans {ι ι' ι'' : Nat → Home} (h : Lift ι ι') (h' : Lift ι' ι'') : Lift ι ι'' := fun j hj => by rw [h' j (by rw [h j hj]; exact hj), h j hj]

theorem rows_bld {own : Bool} {U G : List Nat} {r : α × St} : ∀ {t : Ty} {x : t.T} {cs : List Value} {F : List Nat} {nid : Nat} {k : Pg α} {σ : St} {ι : Nat → Home}, Bld X σ ι a w U G → (∀ b ∈ U, b ∉ G) → (∀ b ∈ U, b < w.heap.size) → RE own w t x cs F →
    (∀ b ∈ F, b ∈ U) → (newBs nid (unT false [] t x nid).2 k).run σ = some r →
    ∃ σ' ι', Bld X σ' ι' a w U G ∧ Lift ι ι' ∧ F2 (RSc ι') (unT false [] t x nid).1 cs ∧ k.run σ' = some r
  | .unit, x, cs, F, nid, k, σ, ι, hB, hUG, hlt, hx, hF, h => ⟨σ, ι, hB, fun _ _ => rfl, by rw [hx.1]; trivial, h⟩
  | .int q, x, cs, F, nid, k, σ, ι, hB, hUG, hlt, hx, hF, h => ⟨σ, ι, hB, fun _ _ => rfl, by rw [hx.1]; exact ⟨⟨rfl, rfl⟩, trivial⟩, h⟩
  | .bool, x, cs, F, nid, k, σ, ι, hB, hUG, hlt, hx, hF, h => ⟨σ, ι, hB, fun _ _ => rfl, by rw [hx.1]; exact ⟨⟨rfl, rfl⟩, trivial⟩, h⟩
  | .str, x, cs, F, nid, k, σ, ι, hB, hUG, hlt, hx, hF, h => ⟨σ, ι, hB, fun _ _ => rfl, by rw [hx.1]; exact ⟨⟨rfl, rfl⟩, trivial⟩, h⟩
  | .pair ta tb, x, cs, F, nid, k, σ, ι, hB, hUG, hlt, hx, hF, h => by
    obtain ⟨c1, c2, F1, F2, rfl, rfl, h1, h2⟩ := hx
    simp only [unT] at h ⊢
    rw [newBs_append] at h
    obtain ⟨σ1, ι1, hB1, hL1, hF1, h⟩ := rows_bld hB hUG hlt h1 (fun b hb => hF b (List.mem_append.2 (.inl hb))) h
    obtain ⟨σ2, ι2, hB2, hL2, hF2, h⟩ := rows_bld hB1 hUG hlt h2 (fun b hb => hF b (List.mem_append.2 (.inr hb))) h
    exact ⟨σ2, ι2, hB2, hL1.trans hL2, F2_append (F2_mono (fun _ _ => RSc_lift hL2) hF1) hF2, h⟩
  | .sl t, x, cs, F, nid, k, σ, ι, hB, hUG, hlt, hx, hF, h => by
    obtain ⟨A, n, c, rfl, hrow⟩ := hx
    simp only [unT, newBs] at h
    obtain ⟨h1, h2, h3⟩ := newB_bld hB hUG hlt h (.row A n c F) ⟨A, n, c, F, rfl, fun _ => RR_ro hrow⟩ rfl rfl hF (by simp)
    exact ⟨_, _, h1, h2, ⟨⟨A, n, c, F, upd_same _ _ _, rfl⟩, trivial⟩, h3⟩
  | .rm t, x, cs, F, nid, k, σ, ι, hB, hUG, hlt, hx, hF, h => by
    obtain ⟨A, n, c, rfl, hnx, hrow⟩ := hx
    simp only [unT, newBs] at h
    obtain ⟨h1, h2, h3⟩ := newB_bld hB hUG hlt h (.row A n c F) ⟨A, n, c, F, rfl, hnx, fun _ => RR_ro hrow⟩ rfl rfl hF (by simp)
    exact ⟨_, _, h1, h2, ⟨⟨A, n, c, F, upd_same _ _ _, rfl⟩, trivial⟩, h3⟩

theorem owns_bld {U : List Nat} {r : α × St} : ∀ {t : Ty} {x : t.T} {cs : List Value} {F G : List Nat} {nid : Nat} {k : Pg α} {σ : St} {ι : Nat → Home}, Bld X σ ι a w U (F ++ G) → (∀ b ∈ U, b ∉ F ++ G) → RE true w t x cs F →
    (newBs nid (unT true [] t x nid).2 k).run σ = some r →
    ∃ σ' ι', Bld X σ' ι' a w U G ∧ Lift ι ι' ∧ F2 (RSc ι') (unT true [] t x nid).1 cs ∧ k.run σ' = some r
  | .unit, x, cs, F, G, nid, k, σ, ι, hB, hUG, hx, h => ⟨σ, ι, by simpa [hx.2] using hB, fun _ _ => rfl, by rw [hx.1]; trivial, h⟩
  | .int q, x, cs, F, G, nid, k, σ, ι, hB, hUG, hx, h => ⟨σ, ι, by simpa [hx.2] using hB, fun _ _ => rfl, by rw [hx.1]; exact ⟨⟨rfl, rfl⟩, trivial⟩, h⟩
  | .bool, x, cs, F, G, nid, k, σ, ι, hB, hUG, hx, h => ⟨σ, ι, by simpa [hx.2] using hB, fun _ _ => rfl, by rw [hx.1]; exact ⟨⟨rfl, rfl⟩, trivial⟩, h⟩
  | .str, x, cs, F, G, nid, k, σ, ι, hB, hUG, hx, h => ⟨σ, ι, by simpa [hx.2] using hB, fun _ _ => rfl, by rw [hx.1]; exact ⟨⟨rfl, rfl⟩, trivial⟩, h⟩
  | .pair ta tb, x, cs, F, G, nid, k, σ, ι, hB, hUG, hx, h => by
    obtain ⟨c1, c2, F1, F2, rfl, rfl, h1, h2⟩ := hx
    simp only [unT] at h ⊢
    rw [newBs_append] at h
    obtain ⟨σ1, ι1, hB1, hL1, hF1, h⟩ := owns_bld (G := F2 ++ G) (by simpa using hB) (by simpa using hUG) h1 h
    obtain ⟨σ2, ι2, hB2, hL2, hF2, h⟩ := owns_bld (G := G) hB1 (fun b hb hm => hUG b hb (by rcases List.mem_append.1 hm with hm | hm <;> simp [hm])) h2 h
    exact ⟨σ2, ι2, hB2, hL1.trans hL2, F2_append (F2_mono (fun _ _ => RSc_lift hL2) hF1) hF2, h⟩
  | .sl t, x, cs, F, G, nid, k, σ, ι, hB, hUG, hx, h => by
    obtain ⟨A, n, c, rfl, hrow⟩ := hx
    simp only [unT, newBs] at h
    obtain ⟨h1, h2, h3⟩ := take_bld hB hUG h (.row A n c F) rfl ⟨A, n, c, F, rfl, fun _ => hrow⟩ rfl (by simp)
    exact ⟨_, _, h1, h2, ⟨⟨A, n, c, F, upd_same _ _ _, rfl⟩, trivial⟩, h3⟩
  | .rm t, x, cs, F, G, nid, k, σ, ι, hB, hUG, hx, h => by
    obtain ⟨A, n, c, rfl, hnx, hrow⟩ := hx
    simp only [unT, newBs] at h
    obtain ⟨h1, h2, h3⟩ := take_bld hB hUG h (.row A n c F) rfl ⟨A, n, c, F, rfl, hnx, fun _ => hrow⟩ rfl (by simp)
    exact ⟨_, _, h1, h2, ⟨⟨A, n, c, F, upd_same _ _ _, rfl⟩, trivial⟩, h3⟩

theorem Rel.tmp (h : Rel X σ ι a w) {d : Nat} {v : AV} (hv : RAV ι v (a.tmps.getD d undef)) : Rel X (σ.setT d v) ι a w where
  tm i := by
    simp only [St.setT]
    by_cases e : i = d
    · subst e
      rw [Nat.beq_refl]; exact hv
    · rw [beq_false e]; exact h.tm i
  sz := h.sz
  df := h.df
  bl := h.bl
  lt := h.lt
  nd := h.nd
  sep := h.sep
  fr := h.fr
  le := h.le
  mu := h.mu
  pb := h.pb
  pv := h.pv
  pn := h.pn
  po := h.po

theorem tmp_bld {U G : List Nat} (hB : Bld X σ ι a w U G) {d : Nat} {v : AV} {k : Pg α} {r : α × St} (hv : RAV ι v (a.tmps.getD d undef)) (h : (putD X.C (some d) v k).run σ = some r) :
    Bld X (σ.setT d v) ι a w U G ∧ k.run (σ.setT d v) = some r := by
  unfold putD at h
  simp only at h
  cases hd : Nat.ble X.C.ntmps d with
  | true => rw [hd] at h; cases h
  | false =>
    rw [hd] at h
    exact ⟨⟨hB.rel.tmp hv, ⟨hB.free.away, hB.free.lt, hB.free.mu, hB.free.nd⟩, hB.ap⟩, h⟩

theorem ValR_mk2 {own : Bool} {t : Ty} {g : Bool} {x : t.T} {v : Value} {F : List Nat} {l : List Sc} (hv : ValR w own t g x v F) (hl : F2 (RSc ι) l (cellsOf g v)) : RVs ι (l, g) v := by
  cases g with
  | true =>
    obtain ⟨vs, rfl⟩ := hv.2 rfl
    exact ⟨vs, rfl, hl⟩
  | false =>
    simp only [cellsOf] at hl
    cases l with
    | nil => exact hl.elim
    | cons c l =>
      cases l with
      | nil => exact ⟨c, rfl, hl.1⟩
      | cons _ _ => exact hl.2.elim

theorem caps_bld {U G : List Nat} {r : α × St} : ∀ {caps : List (Ty × CK)} {x : CapT caps} {vs : List Value} {U' : List Nat} {nid : Nat} {k : Pg α} {σ : St} {ι : Nat → Home}, Bld X σ ι a w U G → (∀ b ∈ U, b ∉ G) → (∀ b ∈ U, b < w.heap.size) →
    CapsR w caps x vs U' → (∀ b ∈ U', b ∈ U) → (newBs nid (mkCaps caps x nid).2 k).run σ = some r →
    ∃ σ' ι', Bld X σ' ι' a w U G ∧ Lift ι ι' ∧ F2 (RVs ι') (mkCaps caps x nid).1 vs ∧ k.run σ' = some r
  | [], x, vs, U', nid, k, σ, ι, hB, hUG, hlt, hx, hU, h => ⟨σ, ι, hB, fun _ _ => rfl, by rw [hx.1]; trivial, h⟩
  | (t, .sc) :: cs, x, vs, U', nid, k, σ, ι, hB, hUG, hlt, hx, hU, h => by
    obtain ⟨v, us, U1, U2, rfl, rfl, hv, hx⟩ := hx
    simp only [mkCaps] at h ⊢
    rw [newBs_append] at h
    obtain ⟨σ1, ι1, hB1, hL1, hF1, h⟩ := rows_bld hB hUG hlt hv.1 (fun b hb => hU b (List.mem_append.2 (.inl hb))) h
    obtain ⟨σ2, ι2, hB2, hL2, hF2, h⟩ := caps_bld hB1 hUG hlt hx (fun b hb => hU b (List.mem_append.2 (.inr hb))) h
    exact ⟨σ2, ι2, hB2, hL1.trans hL2, ⟨RVs_lift hL2 (ValR_mk2 hv hF1), hF2⟩, h⟩
  | (t, .ag) :: cs, x, vs, U', nid, k, σ, ι, hB, hUG, hlt, hx, hU, h => by
    obtain ⟨v, us, U1, U2, rfl, rfl, hv, hx⟩ := hx
    simp only [mkCaps] at h ⊢
    rw [newBs_append] at h
    obtain ⟨σ1, ι1, hB1, hL1, hF1, h⟩ := rows_bld hB hUG hlt hv.1 (fun b hb => hU b (List.mem_append.2 (.inl hb))) h
    obtain ⟨σ2, ι2, hB2, hL2, hF2, h⟩ := caps_bld hB1 hUG hlt hx (fun b hb => hU b (List.mem_append.2 (.inr hb))) h
    exact ⟨σ2, ι2, hB2, hL1.trans hL2, ⟨RVs_lift hL2 (ValR_mk2 hv hF1), hF2⟩, h⟩
  | (t, .pr) :: cs, x, vs, U', nid, k, σ, ι, hB, hUG, hlt, hx, hU, h => by
    obtain ⟨v, us, b, fr, U1, U2, rfl, rfl, ⟨arr, e, rfl, hb, hre⟩, hx⟩ := hx
    simp only [mkCaps] at h ⊢
    rw [newBs_append] at h
    obtain ⟨σ1, ι1, hB1, hL1, hF1, h⟩ := rows_bld hB hUG hlt hre (fun b hb => hU b (by simp [hb])) h
    simp only [newBs] at h
    obtain ⟨hB2, hL2, h⟩ := newB_bld hB1 hUG hlt h (.blk b) ⟨b, arr, e, fr, rfl, hb, (fun h => by cases h), hF1⟩ rfl rfl (by simp [Home.foot]; exact hU b (by simp)) (by simp)
    obtain ⟨σ2, ι2, hB3, hL3, hF2, h⟩ := caps_bld hB2 hUG hlt hx (fun b hb => hU b (by simp [hb])) h
    refine ⟨σ2, ι2, hB3, (hL1.trans hL2).trans hL3, ⟨⟨_, rfl, b, ?_, rfl⟩, hF2⟩, h⟩
    rw [hL3 _ (by rw [upd_same]; simp), upd_same]

theorem mkE_run {e : PE} {U G U' O : List Nat} {π : Nat → Home} {x : e.b.T} {k : Pg α} {r : α × St} (hB : Bld X σ ι a w U (O ++ G)) (hUG : ∀ b ∈ U, b ∉ O ++ G) (hlt : ∀ b ∈ U, b < w.heap.size) (hE : EntR w π e x (a.tmps.getD e.tmp undef) U' O) (hU : ∀ b ∈ U', b ∈ U)
    (h : (mkE X.C e x k).run σ = some r) : ∃ σ' ι', Bld X σ' ι' a w U G ∧ Lift ι ι' ∧ (e.pin = true → (∃ t, e.b = .own t) ∨ (∃ t, e.b = .ptr t true) → ι' e.id = π e.id) ∧ k.run σ' = some r := by
  obtain ⟨tmp, id, b, pin⟩ := e
  have hnp : ∀ {ι' : Nat → Home} {b : BTy}, (∀ t, b ≠ .own t) → (∀ t, b ≠ .ptr t true) → (pin = true → (∃ t, b = .own t) ∨ (∃ t, b = .ptr t true) → ι' id = π id) := by
    intro ι' b h1 h2 _ h3
    rcases h3 with ⟨t, rfl⟩ | ⟨t, rfl⟩
    · exact absurd rfl (h1 t)
    · exact absurd rfl (h2 t)
  cases b with
  | val t g =>
    obtain ⟨rfl, hv⟩ := hE
    simp only [mkE] at h
    obtain ⟨σ1, ι1, hB1, hL1, hF1, h⟩ := rows_bld (by simpa using hB) (by simpa using hUG) hlt hv.1 hU h
    obtain ⟨hB2, h⟩ := tmp_bld hB1 (v := .one _ g) (ValR_mk2 hv hF1) h
    exact ⟨_, ι1, hB2, hL1, hnp (by simp) (by simp), h⟩
  | ptr t mu =>
    cases mu with
    | true =>
      obtain ⟨b, rfl, hπ, arr, el, hv, hb, hre⟩ := hE
      simp only [mkE] at h
      obtain ⟨σ1, ι1, hB1, hL1, hF1, h⟩ := rows_bld hB hUG hlt hre hU h
      obtain ⟨hB2, hL2, h⟩ := take_bld hB1 hUG h (.blk b) rfl ⟨b, arr, el, (0, 0), rfl, hb, (fun _ => rfl), hF1⟩ rfl (by simp)
      obtain ⟨hB3, h⟩ := tmp_bld hB2 (v := .sc (.ptr id 0)) (RAV_sc.2 ⟨b, upd_same _ _ _, hv⟩) h
      exact ⟨_, _, hB3, hL1.trans hL2, fun _ _ => by rw [upd_same, hπ], h⟩
    | false =>
      obtain ⟨rfl, b, fr, U1, rfl, arr, el, hv, hb, hre⟩ := hE
      simp only [mkE] at h
      obtain ⟨σ1, ι1, hB1, hL1, hF1, h⟩ := rows_bld (by simpa using hB) (by simpa using hUG) hlt hre (fun b hb => hU b (by simp [hb])) h
      obtain ⟨hB2, hL2, h⟩ := newB_bld hB1 (by simpa using hUG) hlt h (.blk b) ⟨b, arr, el, fr, rfl, hb, (fun h => by cases h), hF1⟩ rfl rfl (by simp [Home.foot]; exact hU b (by simp)) (by simp)
      obtain ⟨hB3, h⟩ := tmp_bld hB2 (v := .sc (.ptr id 0)) (RAV_sc.2 ⟨b, upd_same _ _ _, hv⟩) h
      exact ⟨_, _, hB3, hL1.trans hL2, hnp (by simp) (by simp), h⟩
  | own t =>
    obtain ⟨rfl, A, n, c, hv, hπ, hrr⟩ := hE
    simp only [mkE] at h
    obtain ⟨hB2, hL2, h⟩ := take_bld hB hUG h (.row A n c O) rfl ⟨A, n, c, O, rfl, fun _ => hrr⟩ rfl (by simp)
    obtain ⟨hB3, h⟩ := tmp_bld hB2 (v := .sc (.sl id)) (RAV_sc.2 ⟨A, n, c, O, upd_same _ _ _, hv⟩) h
    exact ⟨_, _, hB3, hL2, fun _ _ => by rw [upd_same, hπ], h⟩
  | eat t =>
    obtain ⟨rfl, A, n, c, hv, hrr⟩ := hE
    simp only [mkE] at h
    obtain ⟨hB2, hL2, h⟩ := take_bld hB hUG h (.row A n c O) rfl ⟨A, n, c, O, rfl, fun _ => hrr⟩ rfl (by simp)
    obtain ⟨hB3, h⟩ := tmp_bld hB2 (v := .sc (.sl id)) (RAV_sc.2 ⟨A, n, c, O, upd_same _ _ _, hv⟩) h
    exact ⟨_, _, hB3, hL2, hnp (by simp) (by simp), h⟩
  | fn f caps =>
    obtain ⟨rfl, vs, hv, hc⟩ := hE
    simp only [mkE] at h
    obtain ⟨σ1, ι1, hB1, hL1, hF1, h⟩ := caps_bld (by simpa using hB) (by simpa using hUG) hlt hc hU h
    obtain ⟨hB2, hL2, h⟩ := newB_bld hB1 (by simpa using hUG) hlt h (.clo vs) ⟨vs, rfl, hF1⟩ rfl rfl (by simp [Home.foot]) (by simp)
    obtain ⟨hB3, h⟩ := tmp_bld hB2 (v := .sc (.fn f id)) (RAV_sc.2 ⟨vs, upd_same _ _ _, hv⟩) h
    exact ⟨_, _, hB3, hL1.trans hL2, hnp (by simp) (by simp), h⟩
  | lit l =>
    obtain ⟨hv, hl, rfl, rfl⟩ := hE
    simp only [mkE] at h
    obtain ⟨hB3, h⟩ := tmp_bld hB (v := .sc (.v l)) (RAV_v.2 ⟨hv, hl⟩) h
    exact ⟨_, _, by simpa using hB3, fun _ _ => rfl, hnp (by simp) (by simp), h⟩
  | gob t g =>
    obtain ⟨rfl, hv⟩ := hE
    simp only [mkE] at h
    obtain ⟨σ1, ι1, hB1, hL1, hF1, h⟩ := owns_bld hB hUG hv.1 h
    obtain ⟨hB2, h⟩ := tmp_bld hB1 (v := .one _ g) (ValR_mk2 hv hF1) h
    exact ⟨_, ι1, hB2, hL1, hnp (by simp) (by simp), h⟩
  | box t own =>
    cases own with
    | true =>
      obtain ⟨rfl, b, arr, el, F, rfl, hv, hb, hre⟩ := hE
      simp only [mkE] at h
      have hperm : Bld X σ ι a w U (F ++ (b :: G)) := ⟨hB.rel, hB.free.sub (fun z hz => by simp at hz ⊢; rcases hz with hz | hz | hz <;> simp [hz]) (by
        have := hB.free.nd
        simp only [List.cons_append, List.nodup_cons, List.mem_append, not_or] at this
        rw [List.nodup_append] at this ⊢
        obtain ⟨⟨n1, n2⟩, n3, n4, n5⟩ := this
        refine ⟨n3, List.nodup_cons.2 ⟨n2, n4⟩, fun x hx y hy e => ?_⟩
        rcases List.mem_cons.1 hy with rfl | hy
        · exact n1 (e ▸ hx)
        · exact n5 x hx y hy e), hB.ap⟩
      obtain ⟨σ1, ι1, hB1, hL1, hF1, h⟩ := owns_bld hperm (fun b hb hm => hUG b hb (by simp at hm ⊢; rcases hm with hm | hm | hm <;> simp [hm])) hre h
      obtain ⟨hB2, hL2, h⟩ := take_bld (F := [b]) (G := G) hB1 (fun b hb hm => hUG b hb (by simp at hm ⊢; rcases hm with hm | hm <;> simp [hm])) h (.blk b) rfl ⟨b, arr, el, (0, 0), rfl, hb, (fun _ => rfl), hF1⟩ rfl (by simp)
      obtain ⟨hB3, h⟩ := tmp_bld hB2 (v := .sc (.ptr id 0)) (RAV_sc.2 ⟨b, upd_same _ _ _, hv⟩) h
      exact ⟨_, _, hB3, hL1.trans hL2, hnp (by simp) (by simp), h⟩
    | false =>
      obtain ⟨b, rfl, arr, el, hv, hb, hre⟩ := hE
      simp only [mkE] at h
      obtain ⟨σ1, ι1, hB1, hL1, hF1, h⟩ := rows_bld hB hUG hlt hre hU h
      obtain ⟨hB2, hL2, h⟩ := take_bld hB1 hUG h (.blk b) rfl ⟨b, arr, el, (0, 0), rfl, hb, (fun _ => rfl), hF1⟩ rfl (by simp)
      obtain ⟨hB3, h⟩ := tmp_bld hB2 (v := .sc (.ptr id 0)) (RAV_sc.2 ⟨b, upd_same _ _ _, hv⟩) h
      exact ⟨_, _, hB3, hL1.trans hL2, hnp (by simp) (by simp), h⟩
end
end Go.Ev
