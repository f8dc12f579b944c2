/- A part of a verified evaluator of the model's code: what it evaluates is what a call returns; no condition beyond the theorems' own hypotheses. -/
import Derived.Test.YtdlpejdadikggaaEv20
set_option linter.unusedVariables false
namespace Go.Ev
open Go

/-! Patterns: what is read of a state, and the state that is made of it. -/
section
variable (w : World) (π : Nat → Home)

def EntR : (e : PE) → e.b.T → Value → List Nat → List Nat → Prop
  | ⟨_, _, .val t g, _⟩, x, v, U, O => O = [] ∧ ValR w false t g x v U
  | ⟨_, id, .ptr t true, _⟩, x, v, U, O => ∃ b, O = [b] ∧ π id = .blk b ∧ PtrR w t x v b (0, 0) U
  | ⟨_, _, .ptr t false, _⟩, x, v, U, O => O = [] ∧ ∃ b fr U', U = b :: U' ∧ PtrR w t x v b fr U'
  | ⟨_, id, .own t, _⟩, x, v, U, O => U = [] ∧ ∃ A n c, v = .slice A n c ∧ π id = .row A n c O ∧ RR true w t x A n c O
  | ⟨_, _, .eat t, _⟩, x, v, U, O => U = [] ∧ ∃ A n c, v = .slice A n c ∧ RR true w t x A n c O
  | ⟨_, _, .fn f caps, _⟩, x, v, U, O => O = [] ∧ ∃ vs, v = .func (.func f) #[] vs ∧ CapsR w caps x vs.toList U
  | ⟨_, _, .lit l, _⟩, _, v, U, O => v = l ∧ l.oneCell' = true ∧ U = [] ∧ O = []
  | ⟨_, _, .box t true, _⟩, x, v, U, O => U = [] ∧ ∃ b arr e F, O = b :: F ∧ v = .pointer (some ⟨b, 0, none⟩) ∧ w.heap[b]? = some (.cells arr e (0, 0)) ∧ RE true w t x arr.toList F
  | ⟨_, _, .box t false, _⟩, x, v, U, O => ∃ b, O = [b] ∧ PtrR w t x v b (0, 0) U
  | ⟨_, _, .gob t g, _⟩, x, v, U, O => U = [] ∧ ValR w true t g x v O

def PatR (tm : Nat → Value) : (l : List PE) → PTe l → List Nat → List Nat → Prop
  | [], _, U, O => U = [] ∧ O = []
  | e :: l, x, U, O => ∃ U1 U2 O1 O2, U = U1 ++ U2 ∧ O = O1 ++ O2 ∧ EntR w π e x.1 (tm e.tmp) U1 O1 ∧ PatR tm l x.2 U2 O2
end

structure PatOk (X : Ctx) (l : List PE) (x : PTe l) (a : Act) (w : World) (π : Nat → Home) (U O : List Nat) : Prop where
  pat : PatR w π (fun i => a.tmps.getD i undef) l x U O
  ap : ∀ b ∈ U, b ∉ O
  ltU : ∀ b ∈ U, b < w.heap.size
  ltO : ∀ b ∈ O, b < w.heap.size
  mu : ∀ b ∈ O, X.w0.heap.size ≤ b ∨ b ∈ X.O
  nd : O.Nodup
  pn : ∀ q ∈ X.pins, π q.1 = q.2 ∧ q.2 ≠ .none
  pk : ∀ q ∈ X.pins, ∃ e ∈ l, e.pin = true ∧ e.id = q.1
  pt : pinTy l = true
  sz : a.tmps.size = X.C.ntmps
  df : a.defers = []
  fr : ∀ b, b < X.w0.heap.size → b ∉ X.O → w.heap[b]? = X.w0.heap[b]?
  le : WLe X.w0 w

section
variable {X : Ctx} {σ σ' : St} {ι : Nat → Home} {a : Act} {w : World} {α A : Type} {nid : Nat}

theorem Free.giveO {F : List Nat} (hR : Rel X σ ι a w) (hF : Free X σ ι w F) {id : Nat} (he : (σ.H id).excl = true) {G : List Nat} (e : (ι id).foot = G) : Free X (σ.setH id .dead) ι w (F ++ G) := e ▸ hF.give hR he

/-- some rows have been given up, nothing else -/
structure LessR (σ σ1 : St) : Prop extends Less σ σ1 where
  cells : ∀ {j l ro}, σ.H j = .cells l ro → σ1.H j = .dead → False

theorem LessR.refl (σ : St) : LessR σ σ := ⟨.refl σ, fun h h' => by rw [h] at h'; cases h'⟩
theorem LessR.trans {σ σ1 σ2 : St} (h : LessR σ σ1) (h' : LessR σ1 σ2) : LessR σ σ2 := ⟨h.toLess.trans h'.toLess, fun {j l ro} hc hd => by
  rcases h.H j with e | e
  · exact h'.cells (e.trans hc) hd
  · exact h.cells hc e⟩

theorem rdO_run2 : ∀ {t : Ty} {σ : St} {F0 : List Nat} {l : List Sc} {vs : List Value} {k : t.T → List Sc → Pg α} {r : α × St}, Rel X σ ι a w → Free X σ ι w F0 → (rdO t l k).run σ = some r → F2 (RSc ι) l vs →
    ∃ x rest σ1 vs1 vs2 F, vs = vs1 ++ vs2 ∧ F2 (RSc ι) rest vs2 ∧ RE true w t x vs1 F ∧ Rel X σ1 ι a w ∧ Free X σ1 ι w (F0 ++ F) ∧ LessR σ σ1 ∧ (k x rest).run σ1 = some r
  | .unit, σ, F0, l, vs, k, r, hR, hF, h, hl => ⟨(), l, σ, [], vs, [], rfl, hl, ⟨rfl, rfl⟩, hR, by simpa using hF, .refl σ, h⟩
  | .int q, σ, F0, l, vs, k, r, hR, hF, h, hl => by
    unfold rdO at h
    split at h
    · rename_i q' n l
      split at h
      · rename_i e
        subst e
        cases vs with
        | nil => exact hl.elim
        | cons v vs =>
          obtain ⟨⟨rfl, _⟩, hl⟩ := hl
          exact ⟨n, l, σ, [_], vs, [], rfl, hl, ⟨rfl, rfl⟩, hR, by simpa using hF, .refl σ, h⟩
      · cases h
    · cases h
  | .bool, σ, F0, l, vs, k, r, hR, hF, h, hl => by
    unfold rdO at h
    split at h
    · rename_i n l
      cases vs with
      | nil => exact hl.elim
      | cons v vs =>
        obtain ⟨⟨rfl, _⟩, hl⟩ := hl
        exact ⟨n, l, σ, [_], vs, [], rfl, hl, ⟨rfl, rfl⟩, hR, by simpa using hF, .refl σ, h⟩
    · cases h
  | .str, σ, F0, l, vs, k, r, hR, hF, h, hl => by
    unfold rdO at h
    split at h
    · rename_i n l
      cases vs with
      | nil => exact hl.elim
      | cons v vs =>
        obtain ⟨⟨rfl, _⟩, hl⟩ := hl
        exact ⟨n, l, σ, [_], vs, [], rfl, hl, ⟨rfl, rfl⟩, hR, by simpa using hF, .refl σ, h⟩
    · cases h
  | .pair ta tb, σ, F0, l, vs, k, r, hR, hF, h, hl => by
    unfold rdO at h
    obtain ⟨x, rest, σ1, vs1, vs2, F, rfl, hl2, h1, hR1, hF1, hL1, h⟩ := rdO_run2 hR hF h hl
    obtain ⟨y, rest', σ2, vs3, vs4, F', rfl, hl3, h3, hR2, hF2, hL2, h⟩ := rdO_run2 hR1 hF1 h hl2
    exact ⟨(x, y), rest', σ2, vs1 ++ vs3, vs4, F ++ F', by simp, hl3, ⟨vs1, vs3, F, F', rfl, rfl, h1, h3⟩, hR2, by simpa using hF2, hL1.trans hL2, h⟩
  | .sl t, σ, F0, l, vs, k, r, hR, hF, h, hl => by
    unfold rdO at h
    split at h
    · rename_i l
      cases vs with
      | nil => exact hl.elim
      | cons v vs =>
        obtain ⟨⟨rfl, _⟩, hl⟩ := hl
        exact ⟨[], l, σ, [_], vs, [], rfl, hl, ⟨none, 0, 0, rfl, rfl, Nat.le_refl _, .inl ⟨rfl, rfl, fun _ => rfl⟩⟩, hR, by simpa using hF, .refl σ, h⟩
    · rename_i id l
      replace h := getB_run h
      cases vs with
      | nil => exact hl.elim
      | cons v vs =>
        obtain ⟨⟨A, n, c, F, hι, rfl⟩, hl⟩ := hl
        split at h
        · rename_i t' x ver hb
          split at h
          · rename_i y hy
            obtain ⟨rfl, rfl⟩ := castRow_some hy
            have hbl := hR.bl id
            rw [hb, hι] at hbl
            obtain ⟨A', n', c', F', e, hrow⟩ := hbl
            cases e
            have hg := hF.give hR (id := id) (by rw [hb]; rfl)
            rw [hι] at hg
            have hrow := hrow (by intro q hq; simp [Blk.par] at hq)
            refine ⟨_, l, _, [_], vs, F, rfl, hl, ⟨A, n, c, rfl, hrow⟩, hR.kill (by rw [hb]; simp), hg, ⟨Less.kill (by rw [hb]; simp), ?_⟩, h⟩
            intro j l ro hc hd
            by_cases e : j = id
            · rw [e, hb] at hc; cases hc
            · rw [setH_ne σ _ e, hc] at hd; cases hd
          · cases h
        · rename_i t' x x2 ver hb
          split at h
          · rename_i y hy
            obtain ⟨rfl, rfl⟩ := castRow_some hy
            obtain ⟨hn, hrow⟩ := win_of hR hb (by intro q hq; simp at hq) hι
            have hg := hF.give hR (id := id) (by rw [hb]; rfl)
            rw [hι] at hg
            refine ⟨_, l, _, [_], vs, F, rfl, hl, ⟨A, n, c, rfl, RR_pre hn hrow⟩, hR.kill (by rw [hb]; simp), hg, ⟨Less.kill (by rw [hb]; simp), ?_⟩, h⟩
            intro j l ro hc hd
            by_cases e : j = id
            · rw [e, hb] at hc; cases hc
            · rw [setH_ne σ _ e, hc] at hd; cases hd
          · cases h
        · cases h
    · cases h
  | .rm t, σ, F0, l, vs, k, r, hR, hF, h, hl => by
    unfold rdO at h
    split at h
    · rename_i l
      cases vs with
      | nil => exact hl.elim
      | cons v vs =>
        obtain ⟨⟨rfl, _⟩, hl⟩ := hl
        exact ⟨([], []), l, σ, [_], vs, [], rfl, hl, ⟨none, 0, 0, rfl, rfl, rfl, Nat.le_refl _, .inl ⟨rfl, rfl, fun _ => rfl⟩⟩, hR, by simpa using hF, .refl σ, h⟩
    · rename_i id l
      replace h := getB_run h
      cases vs with
      | nil => exact hl.elim
      | cons v vs =>
        obtain ⟨⟨A, n, c, F, hι, rfl⟩, hl⟩ := hl
        split at h
        · rename_i t' x ver hb
          split at h
          · rename_i y hy
            obtain ⟨rfl, rfl⟩ := castRow_some hy
            have hbl := hR.bl id
            rw [hb, hι] at hbl
            obtain ⟨A', n', c', F', e, hrow⟩ := hbl
            cases e
            have hg := hF.give hR (id := id) (by rw [hb]; rfl)
            rw [hι] at hg
            have hrow := hrow (by intro q hq; simp [Blk.par] at hq)
            refine ⟨_, l, _, [_], vs, F, rfl, hl, ⟨A, n, c, rfl, hrow.1, by simp only [List.append_nil]; rw [← hrow.1]; exact hrow⟩, hR.kill (by rw [hb]; simp), hg, ⟨Less.kill (by rw [hb]; simp), ?_⟩, h⟩
            intro j l ro hc hd
            by_cases e : j = id
            · rw [e, hb] at hc; cases hc
            · rw [setH_ne σ _ e, hc] at hd; cases hd
          · cases h
        · rename_i t' x x2 ver hb
          split at h
          · rename_i y y2 hy hy2
            obtain ⟨rfl, rfl⟩ := castRow_some hy
            obtain ⟨_, rfl⟩ := castRow_some hy2
            obtain ⟨hn, hrow⟩ := win_of hR hb (by intro q hq; simp at hq) hι
            have hg := hF.give hR (id := id) (by rw [hb]; rfl)
            rw [hι] at hg
            refine ⟨(y, y2), l, _, [_], vs, F, rfl, hl, ⟨A, n, c, rfl, hn, hrow⟩, hR.kill (by rw [hb]; simp), hg, ⟨Less.kill (by rw [hb]; simp), ?_⟩, h⟩
            intro j l ro hc hd
            by_cases e : j = id
            · rw [e, hb] at hc; cases hc
            · rw [setH_ne σ _ e, hc] at hd; cases hd
          · cases h
        · cases h
    · cases h

theorem rdE_run {e : PE} {σ : St} {v : Value} {av : AV} {G : List Nat} {k : e.b.T → List Nat → Pg α} {r : α × St} (hR : Rel X σ ι a w) (hF : Free X σ ι w G) (hv : RAV ι av v) (h : (rdE e av k).run σ = some r) :
    ∃ x u U O σ1, EntR w ι e x v U O ∧ UOk σ ι u U ∧ Less σ σ1 ∧ Rel X σ1 ι a w ∧ Free X σ1 ι w (G ++ O) ∧ (k x u).run σ1 = some r := by
  obtain ⟨tmp, id, b, pin⟩ := e
  cases b with
  | val t g =>
    cases pin with
    | true => simp only [rdE] at h; cases h
    | false =>
      simp only [rdE] at h
      obtain ⟨x, u, F, h1, h2, h⟩ := rdV_run hR h hv
      exact ⟨x, u, F, [], σ, ⟨rfl, h1⟩, h2, .refl _, hR, by simpa using hF, h⟩
  | ptr t mu =>
    cases mu with
    | true =>
      cases pin with
      | false => simp only [rdE] at h; cases h
      | true =>
        simp only [rdE] at h
        obtain ⟨x, id', u, b, fr, F, l, ro, h1, h2, h3, h4, h5, h⟩ := rdP_run hR h hv
        obtain ⟨rfl, rfl⟩ := h5 rfl
        cases hi : Nat.beq id' id with
        | false => rw [hi] at h; cases h
        | true =>
          rw [hi] at h
          have hi := Nat.eq_of_beq_eq_true hi
          subst hi
          simp only [cond_true, Pg.run] at h
          have hex : (σ.H id').excl = true := by rw [h4]; rfl
          exact ⟨x, u, F, [b], _, ⟨b, rfl, h3, h1⟩, h2, Less.kill (excl_ne hex), hR.kill (excl_ne hex), hF.giveO hR hex (by rw [h3]; rfl), h⟩
    | false =>
      cases pin with
      | true => simp only [rdE] at h; cases h
      | false =>
        simp only [rdE] at h
        obtain ⟨x, id', u, b, fr, F, l, ro, h1, h2, h3, h4, h5, h⟩ := rdP_run hR h hv
        exact ⟨x, id' :: u, b :: F, [], σ, ⟨rfl, b, fr, F, rfl, h1⟩, h2.cells h3 h4, .refl _, hR, by simpa using hF, h⟩
  | own t =>
    cases pin with
    | false => simp only [rdE] at h; cases h
    | true =>
      simp only [rdE] at h
      split at h
      · rename_i id' hid
        cases hi : Nat.beq id' id with
        | false => rw [hi] at h; cases h
        | true =>
          rw [hi] at h
          have hi := Nat.eq_of_beq_eq_true hi
          subst hi
          simp only [cond_true] at h
          obtain ⟨A, n, c, F, e, rfl⟩ := asSl_run hid hv
          obtain ⟨x, hex, h2, h⟩ := rdRow_run hR h e
          simp only [Pg.run] at h
          exact ⟨x, [], [], F, _, ⟨rfl, A, n, c, rfl, e, h2⟩, UOk.nil, Less.kill (excl_ne hex), hR.kill (excl_ne hex), hF.giveO hR hex (by rw [e]; rfl), h⟩
      · cases h
  | eat t =>
    cases pin with
    | true => simp only [rdE] at h; cases h
    | false =>
      simp only [rdE] at h
      cases hn : asNil av with
      | true =>
        rw [hn] at h
        have := asNil_run hn hv
        subst this
        exact ⟨[], [], [], [], σ, ⟨rfl, none, 0, 0, rfl, rfl, Nat.le_refl _, .inl ⟨rfl, rfl, fun _ => rfl⟩⟩, UOk.nil, .refl _, hR, by simpa using hF, h⟩
      | false =>
        rw [hn] at h
        simp only [cond_false] at h
        split at h
        · rename_i id' hid
          obtain ⟨A, n, c, F, e, rfl⟩ := asSl_run hid hv
          obtain ⟨x, hex, h2, h⟩ := rdRow_run hR h e
          simp only [Pg.run] at h
          exact ⟨x, [], [], F, _, ⟨rfl, A, n, c, rfl, h2⟩, UOk.nil, Less.kill (excl_ne hex), hR.kill (excl_ne hex), hF.giveO hR hex (by rw [e]; rfl), h⟩
        · cases h
  | fn f caps =>
    cases pin with
    | true => simp only [rdE] at h; cases h
    | false =>
      simp only [rdE] at h
      obtain ⟨x, u, e, i, U, E, O, σ1, h1, h2, h3, h4, h5, h6, h7, h8, h9, h⟩ := rdArg_run hR hF h hv
      obtain ⟨rfl, rfl, hx⟩ := h1
      exact ⟨x, u, U, [], σ1, ⟨rfl, hx⟩, h2, h5, h6, h7, h⟩
  | lit l =>
    cases pin with
    | true => simp only [rdE] at h; cases h
    | false =>
      simp only [rdE, rdArg] at h
      split at h
      · cases hn : asNil av with
        | false => rw [hn] at h; cases h
        | true =>
          rw [hn] at h
          have := asNil_run hn hv
          subst this
          exact ⟨(), [], [], [], σ, ⟨rfl, rfl, rfl, rfl⟩, UOk.nil, .refl _, hR, by simpa using hF, h⟩
      · cases h
  | gob t g =>
    cases pin with
    | true => simp only [rdE] at h; cases h
    | false =>
      simp only [rdE] at h
      obtain ⟨x, u, e, i, U, E, O, σ1, h1, h2, h3, h4, h5, h6, h7, h8, h9, h⟩ := rdArg_run hR hF h hv
      obtain ⟨rfl, rfl, hx⟩ := h1
      exact ⟨x, [], [], E, σ1, ⟨rfl, hx⟩, UOk.nil, h5, h6, h7, h⟩
  | box t ow =>
    cases ow with
    | false =>
      cases pin with
      | true => simp only [rdE] at h; cases h
      | false =>
        simp only [rdE] at h
        obtain ⟨x, id', u, b, fr, F, l, ro, h1, h2, h3, h4, h5, h⟩ := rdP_run hR h hv
        obtain ⟨rfl, rfl⟩ := h5 rfl
        simp only [Pg.run] at h
        have hex : (σ.H id').excl = true := by rw [h4]; rfl
        exact ⟨x, u, F, [b], _, ⟨b, rfl, h1⟩, h2, Less.kill (excl_ne hex), hR.kill (excl_ne hex), hF.giveO hR hex (by rw [h3]; rfl), h⟩
    | true =>
      cases pin with
      | true => simp only [rdE] at h; cases h
      | false =>
        simp only [rdE] at h
        split at h
        · rename_i id' hid
          obtain ⟨b, e, rfl⟩ := asPtr_run hid hv
          replace h := getB_run h
          split at h
          · rename_i l hb
            have hbl := hR.bl id'
            rw [hb] at hbl
            obtain ⟨b', arr, el, fr, h1, h2, h3, h4⟩ := hbl
            rw [e] at h1
            cases h1
            have h3 := h3 rfl
            subst h3
            -- the block itself first: it is not among the rows
            have hex : (σ.H id').excl = true := by rw [hb]; rfl
            obtain ⟨x, rest, σ1, vs1, vs2, F, hvs, hrest, hre, hR1, hF1, hl1, h⟩ := rdO_run2 hR hF h h4
            split at h
            · cases vs2 with
              | cons _ _ => exact hrest.elim
              | nil =>
                rw [List.append_nil] at hvs
                simp only [Pg.run] at h
                have hne : id' ∉ [] := by simp
                have hH : σ1.H id' = σ.H id' := by
                  rcases hl1.H id' with hh | hh
                  · exact hh
                  · exfalso
                    exact hl1.cells hb hh
                have hex1 : (σ1.H id').excl = true := by rw [hH]; exact hex
                refine ⟨x, [], [], b :: F, _, ⟨rfl, b, arr, el, F, rfl, rfl, h2, by rw [hvs]; exact hre⟩, UOk.nil, hl1.toLess.trans (Less.kill (excl_ne hex1)), hR1.kill (excl_ne hex1), ?_, h⟩
                have := hF1.giveO hR1 hex1 (G := [b]) (by rw [e]; rfl)
                refine this.sub (fun k hk => ?_) ?_
                · simp only [List.mem_append, List.mem_cons] at hk ⊢
                  rcases hk with hk | hk | hk
                  · exact .inl (.inl hk)
                  · exact .inr (.inl hk)
                  · exact .inl (.inr hk)
                · have hnd := this.nd
                  rw [List.append_assoc, List.nodup_append, List.nodup_append] at hnd
                  obtain ⟨n1, ⟨n2, n3, n4⟩, n5⟩ := hnd
                  rw [List.nodup_append, List.nodup_cons]
                  refine ⟨n1, ⟨fun hm => n4 b hm b (by simp) rfl, n2⟩, fun x hx y hy => ?_⟩
                  rcases List.mem_cons.1 hy with rfl | hy
                  · exact n5 x hx y (by simp)
                  · exact n5 x hx y (by simp [hy])
            · cases h
          · cases h
        · cases h
end
end Go.Ev
