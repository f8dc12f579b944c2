/- A part of a verified evaluator of the model's code: what it evaluates is what a call returns; no condition beyond the theorems' own hypotheses. -/
import Derived.Test.YtdlpejdadikggaaEv22
import Derived.LoopN
set_option linter.unusedVariables false
namespace Go.Ev
open Go

section
variable {X : Ctx} {σ σ' : St} {ι : Nat → Home} {a : Act} {w : World} {α A : Type} {nid : Nat}

theorem mkPat_run {U : List Nat} {π : Nat → Home} {r : α × St} : ∀ {l : List PE} {x : PTe l} {U' O G : List Nat} {k : Pg α} {σ : St} {ι : Nat → Home}, Bld X σ ι a w U (O ++ G) → (∀ b ∈ U, b ∉ O ++ G) → (∀ b ∈ U, b < w.heap.size) →
    PatR w π (fun i => a.tmps.getD i undef) l x U' O → (∀ b ∈ U', b ∈ U) → (mkPat X.C l x k).run σ = some r →
    ∃ σ' ι', Bld X σ' ι' a w U G ∧ Lift ι ι' ∧ (∀ e ∈ l, e.pin = true → (∃ t, e.b = .own t) ∨ (∃ t, e.b = .ptr t true) → π e.id ≠ .none → ι' e.id = π e.id) ∧ k.run σ' = some r
  | [], x, U', O, G, k, σ, ι, hB, hUG, hlt, hP, hU, h => by
    obtain ⟨rfl, rfl⟩ := hP
    exact ⟨σ, ι, by simpa using hB, fun _ _ => rfl, by simp, h⟩
  | e :: l, x, U', O, G, k, σ, ι, hB, hUG, hlt, hP, hU, h => by
    obtain ⟨U1, U2, O1, O2, rfl, rfl, hE, hP⟩ := hP
    simp only [mkPat] at h
    obtain ⟨σ1, ι1, hB1, hL1, hp1, h⟩ := mkE_run (G := O2 ++ G) (by simpa using hB) (by simpa using hUG) hlt hE (fun b hb => hU b (List.mem_append.2 (.inl hb))) h
    obtain ⟨σ2, ι2, hB2, hL2, hp2, h⟩ := mkPat_run hB1 (fun b hb hm => hUG b hb (by rcases List.mem_append.1 hm with hm | hm <;> simp [hm])) hlt hP (fun b hb => hU b (List.mem_append.2 (.inr hb))) h
    refine ⟨σ2, ι2, hB2, hL1.trans hL2, fun e' he' hp hb hn => ?_, h⟩
    rcases List.mem_cons.1 he' with rfl | he'
    · have := hp1 hp hb
      rw [hL2 _ (by rw [this]; exact hn), this]
    · exact hp2 e' he' hp hb hn

theorem pinTy_run : ∀ {l : List PE}, pinTy l = true → ∀ e ∈ l, e.pin = true → (∃ t, e.b = .own t) ∨ (∃ t, e.b = .ptr t true)
  | [], _, e, he, _ => by simp at he
  | ⟨i, j, b, p⟩ :: l, h, e, he, hp => by
    have key : (∃ t, b = .own t) ∨ (∃ t, b = .ptr t true) ∨ p = false := by
      cases b with
      | own t => exact .inl ⟨t, rfl⟩
      | ptr t mu =>
        cases mu with
        | true => exact .inr (.inl ⟨t, rfl⟩)
        | false => simp only [pinTy, Bool.and_eq_true, Bool.not_eq_true'] at h; exact .inr (.inr h.1)
      | _ => simp only [pinTy, Bool.and_eq_true, Bool.not_eq_true'] at h; exact .inr (.inr h.1)
    have rest : pinTy l = true := by
      cases b with
      | own t => exact h
      | ptr t mu =>
        cases mu with
        | true => exact h
        | false => simp only [pinTy, Bool.and_eq_true] at h; exact h.2
      | _ => simp only [pinTy, Bool.and_eq_true] at h; exact h.2
    rcases List.mem_cons.1 he with rfl | he
    · rcases key with h | h | h
      · exact .inl h
      · exact .inr h
      · simp only at hp; rw [h] at hp; cases hp
    · exact pinTy_run rest e he hp

theorem empty_rel (hs : a.tmps.size = X.C.ntmps) (hd : a.defers = []) (hfr : ∀ b, b < X.w0.heap.size → b ∉ X.O → w.heap[b]? = X.w0.heap[b]?) (hle : WLe X.w0 w) :
    Rel { X with pins := [] } St.empty (fun _ => .none) a w where
  tm i := RAV_top
  sz := hs
  df := hd
  bl id := rfl
  lt id h := by cases h
  nd id h := by cases h
  sep i j _ h := by cases h
  fr := hfr
  le := hle
  mu id h := by cases h
  pb j q h := by simp [St.empty, Blk.par] at h
  pv j q h := by simp [St.empty, Blk.par] at h
  pn q h := by simp at h
  po id h := by cases h

theorem mkK_run {R : Type} {F : Fn R} {l : List PE} {x : PTe l} {K : St → Option A} {z : A} {π : Nat → Home} {U O : List Nat} (hF : F.C = X.C) (hP : PatOk X l x a w π U O) (h : mkK F l x K = some z) :
    ∃ σ ι, Rel X σ ι a w ∧ K σ = some z := by
  unfold mkK at h
  rw [Pg.runK_eq, hF] at h
  cases hr : (mkPat X.C l x (.ret ())).run St.empty with
  | none => rw [hr] at h; cases h
  | some q =>
    rw [hr] at h
    simp only [Option.bind_some] at h
    have hR0 := empty_rel (X := X) hP.sz hP.df hP.fr hP.le
    have hB : Bld { X with pins := [] } St.empty (fun _ => .none) a w U (O ++ []) := ⟨hR0, ⟨(fun id hl => nomatch hl), by simpa using hP.ltO, by simpa using hP.mu, by simpa using hP.nd⟩, (fun i hi => nomatch hi)⟩
    obtain ⟨σ1, ι1, hB1, hL1, hp1, h2⟩ := mkPat_run (X := { X with pins := [] }) hB (by simpa using hP.ap) hP.ltU hP.pat (fun b hb => hb) hr
    simp only [Pg.run, Option.some.injEq] at h2
    have hR := hB1.rel
    refine ⟨σ1, ι1, ⟨hR.tm, hR.sz, hR.df, hR.bl, hR.lt, hR.nd, hR.sep, hR.fr, hR.le, hR.mu, hR.pb, hR.pv, ?_, hR.po⟩, ?_⟩
    · intro q hq
      obtain ⟨e, he, hpin, hid⟩ := hP.pk q hq
      obtain ⟨h3, h4⟩ := hP.pn q hq
      have hty := pinTy_run hP.pt e he hpin
      have := hp1 e he hpin hty (by rw [hid, h3]; exact h4)
      rw [hid, h3] at this
      exact ⟨this, h4⟩
    · rw [← h2] at h; exact h

/-! The code. -/
def Ex.to : Ex → Exit
  | .normal => .normal
  | .exit i => .exit i
  | .ret => .ret

/-- an evaluator of a code's -/
abbrev EvT (R : Type) : Type 1 := (A : Type) → St → Nat → (R → Option A) → (Ex → St → Nat → Option A) → Option A

def Snd {R : Type} (X : Ctx) (Pr : R → Act → World → Prop) (c : Code) (f : EvT R) : Prop :=
  ∀ ⦃A : Type⦄ ⦃σ : St⦄ ⦃nx : Nat⦄ ⦃Kr : R → Option A⦄ ⦃K : Ex → St → Nat → Option A⦄ ⦃z : A⦄ ⦃Q : Exit → Act → World → Prop⦄ ⦃ι : Nat → Home⦄ ⦃a : Act⦄ ⦃w : World⦄, Rel X σ ι a w → f A σ nx Kr K = some z →
    (∀ r a w, Pr r a w → Kr r = some z → Q .ret a w) → (∀ e σ' nx' ι' a' w', Rel X σ' ι' a' w' → K e σ' nx' = some z → Q e.to a' w') → c.wp X.C.P Q a w

structure FnOk {R : Type} (X : Ctx) (F : Fn R) (Pr : R → Act → World → Prop) : Prop where
  C : F.C = X.C
  cfg : CfgOk X.C
  pins : F.pins = X.pins.map (·.1)
  fin : ∀ {σ ι a w A} {K : R → Option A} {z : A}, Rel X σ ι a w → (F.fin.runK σ fun r _ => K r) = some z → ∃ r, Pr r a w ∧ K r = some z
  mix : X.C.P.follows .mixedOrders = true

variable {R : Type} {F : Fn R} {Pr : R → Act → World → Prop}

theorem loopN_snd {c : Code} {f : EvT R} (hf : Snd X Pr c f) (n : Nat) : Snd X Pr (.loop c) fun A s nx Kr K => loopN (fun s nx K => f A s nx Kr K) n s nx K := by
  intro A σ nx Kr K z Q ι a w hR h hKr hK
  apply wp_loop_rounds n
  induction n generalizing σ nx ι a w with
  | zero => cases h
  | succ n ih =>
    rw [rounds_succ]
    simp only [loopN] at h
    refine hf hR h (fun r a w hr he => hKr r a w hr he) (fun e σ' nx' ι' a' w' hR' he => ?_)
    cases e with
    | normal => exact ih hR' he
    | exit i => exact hK _ _ _ _ _ _ hR' he
    | ret => exact hK _ _ _ _ _ _ hR' he

theorem cutW_snd (hF : FnOk X F Pr) {c : Code} {p : Nat} {f : EvT R} (hf : Snd X Pr c f) : Snd X Pr c (cutW F p f) := by
  intro A σ nx Kr K z Q ι a w hR h hKr hK
  unfold cutW at h
  split at h
  · rename_i pout nx' han
    obtain ⟨o, ho, h⟩ := Option.bind_eq_some_iff.1 h
    · refine hf hR ho (fun r a w hr he => ?_) (fun e σ' nx1 ι' a' w' hR' he => ?_)
      · cases he
        exact hKr r a w hr h
      · cases e with
        | normal =>
          simp only at he
          obtain ⟨y, π, U, O, hP, he⟩ := rdK_run hR' hF.pins he
          cases he
          simp only at h
          obtain ⟨σ2, ι2, hR2, h⟩ := mkK_run hF.C hP h
          exact hK _ _ _ _ _ _ hR2 h
        | exit i => cases he
        | ret => cases he
  · exact hf hR h hKr hK

/-- a loop's law holds round for round -/
def LoopOk (F : Fn R) (c : Code) (p : Nat) : Prop :=
  ∀ pin pout ex nx L, F.an p = some (.loop pin pout ex nx L) → ∃ (Lf : Nat → PTe pin → Option (R ⊕ PTe pout)) (k : Nat), L = Lf k ∧ (∀ x, Lf 0 x = none) ∧ ∀ n x, roundOf F c p pin pout ex nx (Lf n) x = Lf (n + 1) x

def AnnOk (F : Fn R) : Code → Nat → Prop
  | .seq a b, p => AnnOk F a (2 * p) ∧ AnnOk F b (2 * p + 1)
  | .cond _ x y, p => AnnOk F x (2 * p) ∧ AnnOk F y (2 * p + 1)
  | .block _ c, p => AnnOk F c (2 * p)
  | .loop c, p => LoopOk F c p ∧ AnnOk F c (2 * p)
  | _, _ => True

theorem loop_snd (hF : FnOk X F Pr) {c : Code} {p : Nat} (hf : Snd X Pr c fun A s nx Kr K => ev F c A (2 * p) s nx Kr K) (hL : LoopOk F c p)
    {pin pout ex nx'} {L : PTe pin → Option (R ⊕ PTe pout)} (han : F.an p = some (.loop pin pout ex nx' L)) {z : A} {Kr : R → Option A} {K : Ex → St → Nat → Option A} {Q : Exit → Act → World → Prop} (hR : Rel X σ ι a w)
    (h : (rdK F pin σ fun x => (L x).bind fun o => match o with
      | .inl r => Kr r
      | .inr y => mkK F pout y fun s => K (.exit ex) s nx') = some z)
    (hKr : ∀ r a w, Pr r a w → Kr r = some z → Q .ret a w) (hK : ∀ e σ' nx' ι' a' w', Rel X σ' ι' a' w' → K e σ' nx' = some z → Q e.to a' w') : (Code.loop c).wp X.C.P Q a w := by
  obtain ⟨Lf, k, rfl, h0, hs⟩ := hL _ _ _ _ _ han
  obtain ⟨x, π, U, O, hP, h⟩ := rdK_run hR hF.pins h
  cases ho : Lf k x with
  | none => rw [ho] at h; cases h
  | some o =>
    rw [ho] at h
    simp only [Option.bind_some] at h
    apply wp_loop_rounds k
    have key : ∀ n x a w π U O, PatOk X pin x a w π U O → Lf n x = some o → Code.rounds X.C.P c Q n a w := by
      intro n
      induction n with
      | zero => intro x a w π U O _ he; rw [h0] at he; cases he
      | succ n ih =>
        intro x a w π U O hP he
        rw [rounds_succ]
        rw [← hs] at he
        unfold roundOf at he
        obtain ⟨σ1, ι1, hR1, he⟩ := mkK_run hF.C hP he
        refine hf hR1 he (fun r a w hr he2 => ?_) (fun e σ' nx1 ι' a' w' hR' he2 => ?_)
        · cases he2
          exact hKr r a w hr h
        · cases e with
          | normal =>
            obtain ⟨x', π', U', O', hP', he3⟩ := rdK_run hR' hF.pins he2
            exact ih x' a' w' π' U' O' hP' he3
          | exit j =>
            simp only at he2
            cases hj : Nat.beq j ex with
            | false => rw [hj] at he2; cases he2
            | true =>
              rw [hj] at he2
              simp only [cond_true] at he2
              have hj := Nat.eq_of_beq_eq_true hj
              subst hj
              obtain ⟨y, π', U', O', hP', he3⟩ := rdK_run hR' hF.pins he2
              cases he3
              simp only at h
              obtain ⟨σ2, ι2, hR2, h⟩ := mkK_run hF.C hP' h
              exact hK (.exit j) _ _ _ _ _ hR2 h
          | ret => cases he2
    exact key k x a w π U O hP ho

theorem ev_sound (hF : FnOk X F Pr) : ∀ (c : Code) (p : Nat), AnnOk F c p → Snd X Pr c fun A s nx Kr K => ev F c A p s nx Kr K
  | .skip, p, _ => by intro A σ nx Kr K z Q ι a w hR h hKr hK; exact wp_skip (hK .normal _ _ _ _ _ hR h)
  | .exit id, p, _ => by intro A σ nx Kr K z Q ι a w hR h hKr hK; exact wp_exit (hK (.exit id) _ _ _ _ _ hR h)
  | .ret, p, _ => by
    intro A σ nx Kr K z Q ι a w hR h hKr hK
    simp only [ev] at h
    obtain ⟨r, hr, h⟩ := hF.fin hR h
    exact wp_ret (hKr r a w hr h)
  | .seq x y, p, ho => by
    intro A σ nx Kr K z Q ι a w hR h hKr hK
    simp only [ev] at h
    apply wp_seq
    refine cutW_snd hF (ev_sound hF x (2 * p) ho.1) hR h (fun r a w hr he => hKr r a w hr he) (fun e σ' nx' ι' a' w' hR' he => ?_)
    cases e with
    | normal => exact ev_sound hF y (2 * p + 1) ho.2 hR' he hKr hK
    | exit i => exact hK (.exit i) _ _ _ _ _ hR' he
    | ret => exact hK .ret _ _ _ _ _ hR' he
  | .cond o x y, p, ho => by
    intro A σ nx Kr K z Q ι a w hR h hKr hK
    cases o with
    | tmp t =>
      simp only [ev] at h
      split at h
      · rename_i b hb
        have ht := tmp_bool hR hb
        have hR' : ∀ b', b' = b → Rel X (σ.setT t (.sc (.v (.bool b')))) ι a w := by
          rintro b' rfl
          exact hR.tmp (by rw [ht]; exact RAV_v.2 ⟨rfl, rfl⟩)
        refine wp_cond (t := b) ht ?_
        cases b with
        | true => exact ev_sound hF x (2 * p) ho.1 (hR' _ rfl) h hKr hK
        | false => exact ev_sound hF y (2 * p + 1) ho.2 (hR' _ rfl) h hKr hK
      · cases h
    | _ => simp only [ev] at h; cases h
  | .block id c, p, ho => by
    intro A σ nx Kr K z Q ι a w hR h hKr hK
    simp only [ev] at h
    apply wp_block
    refine ev_sound hF c (2 * p) ho hR h (fun r a w hr he => hKr r a w hr he) (fun e σ' nx' ι' a' w' hR' he => ?_)
    cases e with
    | normal => exact hK .normal _ _ _ _ _ hR' he
    | exit j =>
      simp only at he
      simp only [Ex.to, Exit.inBlock]
      cases hj : Nat.beq j id with
      | true =>
        rw [hj] at he
        rw [if_pos (Nat.eq_of_beq_eq_true hj)]
        exact hK .normal _ _ _ _ _ hR' he
      | false =>
        rw [hj] at he
        rw [if_neg (by intro e; rw [e, Nat.beq_refl] at hj; cases hj)]
        exact hK (.exit j) _ _ _ _ _ hR' he
    | ret => exact hK .ret _ _ _ _ _ hR' he
  | .loop c, p, ho => by
    intro A σ nx Kr K z Q ι a w hR h hKr hK
    simp only [ev] at h
    split at h
    · rename_i pin pout ex nx' L han
      exact loop_snd hF (ev_sound hF c (2 * p) ho.2) ho.1 han hR h hKr hK
    · exact loopN_snd (ev_sound hF c (2 * p) ho.2) F.k hR h hKr hK
  | .region id ops draw, p, _ => by
    intro A σ nx Kr K z Q ι a w hR h hKr hK
    simp only [ev] at h
    cases draw with
    | false =>
      simp only [cond_false, hF.C] at h
      apply wp_region
      have := evOps_sound (Q := Q) hF.cfg (fun σ' ι' a' w' hR' he => hK .normal _ _ _ _ _ hR' he) (k := 0) (l := ops.toList) (ops := ops) rfl hR h
      simpa [List.range_eq_range'] using this
    | true =>
      simp only [cond_true, hF.C] at h
      apply wp_region_any hF.mix
      obtain ⟨σs, gs, h1, h2, h3, h4⟩ := evOpsF_trace h
      simp only [List.nil_append] at h4
      cases hi : indep ops gs with
      | false => rw [hi] at h4; cases h4
      | true =>
        rw [hi] at h4
        simp only [cond_true] at h4
        have hfalse : ∀ j, (Array.replicate ops.size false).getD j false = false := by
          intro j
          rw [Array.getD_eq_getD_getElem?]
          by_cases hj : j < ops.size
          · simp [hj]
          · simp [hj]
        refine draw_sound hF.cfg (σs := σs) (fs := gs) (nid := nx) (by simpa using h1) (fun i o f ho hf => h3 i o f (by simpa using ho) hf) hi (fun ι' a' w' hR' => hK .normal _ _ _ _ _ hR' h4) ops.size _ σ ι a _ (hR.heap rfl rfl rfl rfl) (by simp) ?_ ?_ ?_
        · simp only [left]
          exact Nat.le_trans (List.length_filter_le _ _) (by simp)
        · intro j o _ hj
          rw [hfalse] at hj; cases hj
        · intro l
          right
          refine ⟨fun m f hm => ?_, ?_⟩
          · rw [hfalse] at hm; cases hm
          · rw [h2]; exact agree_refl _ _
  | .label l, p, _ => by intro A σ nx Kr K z Q ι a w hR h hKr hK; simp only [ev] at h; cases h
  | .rangeFunc f ps x y, p, _ => by intro A σ nx Kr K z Q ι a w hR h hKr hK; simp only [ev] at h; cases h
  | .scope c, p, _ => by intro A σ nx Kr K z Q ι a w hR h hKr hK; simp only [ev] at h; cases h
  | .goto l, p, _ => by intro A σ nx Kr K z Q ι a w hR h hKr hK; simp only [ev] at h; cases h
  | .refuse y, p, _ => by intro A σ nx Kr K z Q ι a w hR h hKr hK; simp only [ev] at h; cases h
end
end Go.Ev
