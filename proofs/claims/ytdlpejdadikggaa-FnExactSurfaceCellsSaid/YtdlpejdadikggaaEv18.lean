/- A part of a verified evaluator of the model's code: what it evaluates is what a call returns; no condition beyond the theorems' own hypotheses. -/
import Derived.Test.YtdlpejdadikggaaEv17
namespace Go.Ev
open Go

section
variable {X : Ctx} {σ σ' : St} {ι : Nat → Home} {a : Act} {w : World} {α : Type} {o : Oper} {nid : Nat}

theorem ValR_mk {t : Ty} {g : Bool} {x : t.T} {v : Value} {F : List Nat} {l : List Sc} (hv : ValR w true t g x v F) (hl : F2 (RSc ι) l (cellsOf g v)) : RVs ι (l, g) v := by
  cases g with
  | true =>
    obtain ⟨vs, rfl⟩ := hv.2 rfl
    exact ⟨vs, rfl, hl⟩
  | false =>
    simp only [cellsOf] at hl
    cases l with
    | nil => exact hl.elim
    | cons c l =>
      cases l with
      | nil => exact ⟨c, rfl, hl.1⟩
      | cons _ _ => exact hl.2.elim

theorem comps_run {r : α × St} : ∀ {rs : List (Ty × Bool)} {x : CT (rs.map (·.1))} {us : List Value} {F G : List Nat} {nid : Nat} {k : Pg α} {σ : St} {ι : Nat → Home}, Rel X σ ι a w → CompsR w rs x us F → Free X σ ι w (F ++ G) →
    (newBs nid (comps rs x nid).2 k).run σ = some r → ∃ σ' ι', Rel X σ' ι' a w ∧ Lift ι ι' ∧ F2 (RVs ι') (comps rs x nid).1 us ∧ k.run σ' = some r
  | [], x, us, F, G, nid, k, σ, ι, hR, hx, hF, h => by
    obtain ⟨rfl, rfl⟩ := hx
    exact ⟨σ, ι, hR, fun _ _ => rfl, trivial, h⟩
  | c :: rs, x, us, F, G, nid, k, σ, ι, hR, hx, hF, h => by
    obtain ⟨v, us, F1, F2', rfl, rfl, hv, hx⟩ := hx
    simp only [comps] at h ⊢
    rw [newBs_append] at h
    obtain ⟨σ1, ι1, hR1, hL1, hF1, hl1, h⟩ := unT_own (G := F2' ++ G) hR hv.1 (by simpa using hF) h
    obtain ⟨σ2, ι2, hR2, hL2, hl2, h⟩ := comps_run hR1 hx hF1 h
    exact ⟨σ2, ι2, hR2, fun j hj => by rw [hL2 j (by rw [hL1 j hj]; exact hj), hL1 j hj], ⟨RVs_lift hL2 (ValR_mk hv hl1), hl2⟩, h⟩

theorem tupAV_run : ∀ {l : List (List Sc × Bool)} {us : List Value}, F2 (RVs ι) l us → RAV ι (tupAV l) (retV us)
  | [c], [v], h => h.1
  | [], [], h => ⟨#[], rfl, trivial⟩
  | _ :: _ :: _, _ :: _ :: _, h => ⟨_, rfl, h⟩
  | [_], _ :: _ :: _, h => h.2.elim
  | _ :: _ :: _, [_], h => h.2.elim
  | [], _ :: _, h => h.elim
  | _ :: _, [], h => h.elim

theorem disj_run {u v : List Nat} (h : disj u v = true) : ∀ x ∈ u, x ∉ v := by
  intro x hx hv
  simp only [disj, List.all_eq_true] at h
  have := h x hx x hv
  rw [Nat.beq_refl] at this
  cases this

theorem nodupB_run : ∀ {l : List Nat}, nodupB l = true → l.Nodup
  | [], _ => .nil
  | x :: l, h => by
    simp only [nodupB, Bool.and_eq_true, List.all_eq_true] at h
    refine List.nodup_cons.2 ⟨fun hm => ?_, nodupB_run h.2⟩
    have := h.1 x hm
    rw [Nat.beq_refl] at this
    cases this

/-- the blocks of what is one's own are different -/
theorem foots_nodup (hR : Rel X σ ι a w) : ∀ {i : List Nat}, i.Nodup → (∀ z ∈ i, (σ.H z).excl = true) → (i.flatMap fun z => (ι z).foot).Nodup
  | [], _, _ => by simp
  | z :: i, hn, he => by
    obtain ⟨hz, hn⟩ := List.nodup_cons.1 hn
    simp only [List.flatMap_cons]
    rw [List.nodup_append]
    refine ⟨hR.nd z (he z (by simp)), foots_nodup hR hn (fun z hz => he z (List.mem_cons_of_mem _ hz)), fun x hx y hy e => ?_⟩
    obtain ⟨z', hz', hy⟩ := List.mem_flatMap.1 hy
    have he' := he z' (List.mem_cons_of_mem _ hz')
    exact hR.sep z z' (fun e => hz (e ▸ hz')) (he z (by simp)) (live_of_excl he') (by rw [hR.po z' he']; intro q hq; simp at hq) (by rw [hR.po z' he']; simp) x hx (e ▸ hy)

theorem uok_apart (hR : Rel X σ ι a w) {u U i : List Nat} (hu : UOk σ ι u U) (he : ∀ z ∈ i, (σ.H z).excl = true) (hd : disj u i = true) : ∀ b ∈ U, b ∉ i.flatMap fun z => (ι z).foot := by
  intro b hb hm
  obtain ⟨z, hz, hzb⟩ := List.mem_flatMap.1 hm
  obtain ⟨id, h1, h2, h3, h4, h5⟩ := hu b hb
  have hd := disj_run hd
  exact hR.sep z id (fun e => hd id h1 (e ▸ hz)) (he z hz) h3 h4 (fun hr => hd z (h5 z hr) hz) b hzb h2

theorem call_run {v : Variant} {g : FuncId} {avs : List AV} {vs : List Value} {dst : Option Tmp} {k : Pg α} {r : α × St} (hR : Rel X σ ι a w) (hv : F2 (RAV ι) avs vs) (hG : Contract X.C.P g v)
    (h : (callV X.C v avs dst nid k).run σ = some r) :
    Runs X.C.P g vs.toArray w fun e w' => ∃ u σ2 ι2, e = .returned u ∧ Rel X σ2 ι2 (a.put dst u) w' ∧ k.run σ2 = some r := by
  unfold callV at h
  obtain ⟨x, u, e, i, U, E, O, σ1, hA, hu, hE, hO, hless, hR1, hF1, hdead, hal, h⟩ := rdArgs_run (G := []) hR Free.nil h hv
  cases hc : (disj u (i ++ e) && nodupB (i ++ e)) with
  | false => rw [hc] at h; cases h
  | true =>
    rw [hc] at h
    simp only [cond_true, Pg.run] at h
    rw [Bool.and_eq_true] at hc
    obtain ⟨hdj, hnd⟩ := hc
    have hnd := nodupB_run hnd
    have hfl : O.flatten ++ E = (i ++ e).flatMap fun z => (ι z).foot := by
      rw [List.flatMap_append, ← hE.ft, hO.ft, List.flatMap_def]
    have hex : ∀ z ∈ i ++ e, (σ.H z).excl = true := by
      intro z hz
      rcases List.mem_append.1 hz with hz | hz
      · exact hO.ex z hz
      · exact hE.ex z hz
    cases hfn : v.fn x with
    | none => rw [hfn] at h; cases h
    | some res =>
      rw [hfn] at h
      simp only [Option.bind_some] at h
      have hndO : (O.flatten ++ E).Nodup := by rw [hfl]; exact foots_nodup hR hnd hex
      have hap : ∀ b ∈ U, b ∉ O.flatten ++ E := by rw [hfl]; exact uok_apart hR hu hex hdj
      have hlt : ∀ b ∈ U ++ (O.flatten ++ E), b < w.heap.size := by
        intro b hb
        rcases List.mem_append.1 hb with hb | hb
        · obtain ⟨id, h1, h2, h3, _⟩ := hu b hb
          exact hR.lt id h3 b h2
        · rw [hfl] at hb
          obtain ⟨z, hz, hb⟩ := List.mem_flatMap.1 hb
          exact hR.lt z (live_of_excl (hex z hz)) b hb
      have hcall := hG w x vs U E O res hA hndO hap hlt hfn
      -- what the call leaves
      have key : ∀ en w', (∃ us F, en = Ending.returned (retV us) ∧ CompsR w' v.rs (csplit _ _ res).1 us F ∧ OutsR w' v.ps (csplit _ _ res).2 vs O ∧ F.Nodup ∧
          (∀ b ∈ F, (w.heap.size ≤ b ∧ b < w'.heap.size) ∨ b ∈ E) ∧ (∀ b, b < w.heap.size → b ∉ O.flatten ++ E → w'.heap[b]? = w.heap[b]?) ∧ WLe w w') →
          ∃ u σ2 ι2, en = .returned u ∧ Rel X σ2 ι2 (a.put dst u) w' ∧ k.run σ2 = some r := by
        rintro en w' ⟨us, F, rfl, hcomp, houts, hFn, hFb, hw, hsz⟩
        -- the ids that are told behind are still there
        have hi1 : ∀ z ∈ i, (σ1.H z).excl = true := by
          intro z hz
          have hze := hO.ex z hz
          rw [hdead z (fun hm => (List.nodup_append.1 hnd).2.2 z hz z hm rfl)]
          exact hze
        obtain ⟨hR2, hF2⟩ := kills_run hR1 hF1 (List.nodup_append.1 hnd).1 hi1
        simp only [List.nil_append] at hF2
        have hFr : (F.filter fun b => decide (w.heap.size ≤ b)).Nodup := hFn.filter _
        obtain ⟨hR3, hF3⟩ := hR2.away hF2 (G := F.filter fun b => decide (w.heap.size ≤ b)) hsz (fun b hb hbF => hw b hb (fun hm => hbF (by
          rw [hfl, List.flatMap_append] at hm
          rcases List.mem_append.1 hm with hm | hm
          · exact List.mem_append.2 (.inr hm)
          · rw [← hE.ft] at hm; exact List.mem_append.2 (.inl hm)))) hFr (fun b hb => by
            obtain ⟨hb1, hb2⟩ := List.mem_filter.1 hb
            have hb2 := of_decide_eq_true hb2
            rcases hFb b hb1 with h | h
            · exact h
            · exact absurd (hlt b (List.mem_append.2 (.inr (List.mem_append.2 (.inr h))))) (by omega))
        have hOi : O = i.map fun z => (ι z).foot := hO.ft
        have hF4 : Free X (kills σ1 i) ι w' ((i.flatMap fun z => (ι z).foot) ++ F) := by
          refine hF3.sub (fun b hb => ?_) ?_
          · rcases List.mem_append.1 hb with hb | hb
            · exact List.mem_append.2 (.inl (List.mem_append.2 (.inr hb)))
            · rcases hFb b hb with h | h
              · exact List.mem_append.2 (.inr (List.mem_filter.2 ⟨hb, decide_eq_true h.1⟩))
              · exact List.mem_append.2 (.inl (List.mem_append.2 (.inl h)))
          · rw [List.nodup_append]
            have hn2 := hndO
            rw [hfl, List.flatMap_append, List.nodup_append] at hn2
            refine ⟨hn2.1, hFn, fun p hp q hq e2 => ?_⟩
            rcases hFb q hq with h | h
            · obtain ⟨z, hz, hpz⟩ := List.mem_flatMap.1 hp
              have := hR.lt z (live_of_excl (hO.ex z hz)) p hpz
              omega
            · rw [hE.ft] at h
              exact hn2.2.2 p hp q h e2
        obtain ⟨σ3, hR4, hF5, h⟩ := putOuts_run hR3 hF4 hal (by rw [← hOi]; exact houts) (List.nodup_append.1 hnd).1 hi1
          (fun z hz j q hq hqe t x own ver par hh => hR1.pv j q hq t x own ver par (by rw [hqe]; exact hh)) h
        obtain ⟨σ4, ι4, hR5, hL4, hl, h⟩ := comps_run (G := []) hR4 hcomp (by simpa using hF5) h
        obtain ⟨σ5, hR6, h⟩ := putD_run hR5 (tupAV_run hl) h
        exact ⟨_, σ5, ι4, rfl, hR6, h⟩
      rcases hcall with ⟨h1, h2⟩ | ⟨u, w', h1, h2⟩
      · exact .inl ⟨h1, h2.mono key⟩
      · exact .inr ⟨u, w', h1, key _ _ h2⟩

/-- what the evaluator's tables hold -/
structure CfgOk (C : Cfg) : Prop where
  ty : ∀ e t, C.ty e = some t → TyOk C.P e t
  G : ∀ g ids v, C.G g ids = some v → Contract C.P g v

theorem Done.runs {g : FuncId} {args : Array Value} {o : Oper} {σ' : St} (he : ∀ f : Next → Sem Next, True) (hx : ∃ s : Sem Next, (execOp a.eval o).run X.C.P w = (callFunc g args).run X.C.P w)
    (h : Runs X.C.P g args w fun e w' => ∃ u σ2 ι2, e = .returned u ∧ Rel X σ2 ι2 (a.put o.dst u) w' ∧ (Pg.ret () : Pg Unit).run σ2 = some ((), σ')) : Done X o σ' a w := by
  obtain ⟨_, hx⟩ := hx
  intro K Q hK
  rw [hx]
  rcases h with ⟨h1, h2⟩ | ⟨u, w', h1, h2⟩
  · rw [h1]
    refine h2.mono fun e w' hh => ?_
    obtain ⟨u, σ2, ι2, rfl, hR, hs⟩ := hh
    simp only [Pg.run, Option.some.injEq, Prod.mk.injEq, true_and] at hs
    subst hs
    exact hK _ _ _ hR
  · rw [h1]
    obtain ⟨u', σ2, ι2, hu, hR, hs⟩ := h2
    cases hu
    simp only [Pg.run, Option.some.injEq, Prod.mk.injEq, true_and] at hs
    subst hs
    exact hK _ _ _ hR

theorem F2_map {l : List (List Sc × Bool)} {us : List Value} (h : F2 (RVs ι) l us) : F2 (RAV ι) (l.map fun p => .one p.1 p.2) us := by
  induction l generalizing us with
  | nil => cases us with
    | nil => trivial
    | cons _ _ => exact h.elim
  | cons p l ih => cases us with
    | nil => exact h.elim
    | cons u us => exact ⟨h.1, ih h.2⟩

theorem op_call {c : Call} {f : Operand} (hC : CfgOk X.C) (ho : o.op = .call c) (hc : c.callee = .value f) (hR : Rel X σ ι a w) (h : (opPg X.C nid o).run σ = some ((), σ')) : Done X o σ' a w := by
  simp only [opPg, ho, hc] at h
  obtain ⟨fv, hf, h⟩ := opnd_run hR h
  obtain ⟨avs, hv, h⟩ := opnds_run hR h
  split at h
  · rename_i g hg
    have hfe := asFn0_run hg hf
    split at h
    · rename_i v hv2
      have hr := call_run hR hv (hC.G _ _ _ hv2) h
      refine Done.runs (g := g) (args := (c.args.toList.map a.eval).toArray) (fun _ => trivial) ⟨.halt .blocked, ?_⟩ hr
      simp [execOp, ho, resolve, hc, hfe, Deferred.ofValue, invoke]
      congr 2
      apply Array.ext'
      simp
    · cases h
  · split at h
    · rename_i g id hg
      obtain ⟨cs, e, hfe⟩ := asFn_run hg hf
      replace h := getB_run h
      split at h
      · rename_i l hb
        have hbl := hR.bl id
        rw [hb, e] at hbl
        obtain ⟨cs', h1, h2⟩ := hbl
        cases h1
        split at h
        · rename_i v hv2
          have hr := call_run (vs := c.args.toList.map a.eval ++ cs.toList) hR (F2_append hv (F2_map h2)) (hC.G _ _ _ hv2) h
          refine Done.runs (g := g) (args := (c.args.toList.map a.eval ++ cs.toList).toArray) (fun _ => trivial) ⟨.halt .blocked, ?_⟩ hr
          simp [execOp, ho, resolve, hc, hfe, Deferred.ofValue, invoke]
          congr 2
          apply Array.ext'
          simp
        · cases h
      · cases h
    · cases h

/-- every operation -/
theorem op_sound (hC : CfgOk X.C) (hR : Rel X σ ι a w) (h : (opPg X.C nid o).run σ = some ((), σ')) : Done X o σ' a w := by
  cases ho : o.op with
  | move x => exact op_move ho hR h
  | assign x => exact op_assign ho hR h
  | pick c x y => exact op_pick ho hR h
  | alloc e => exact op_alloc ho hR h
  | box e x => exact op_box ho hR h
  | build t ps => exact op_build ho hR h
  | buildSlice t n ps => exact op_buildSlice hC.ty ho hR h
  | load t x => exact op_load ho hR h
  | store t x y => exact op_store ho hR h
  | nilCheck x => exact op_nilCheck ho hR h
  | fieldAddr s x f => exact op_fieldAddr ho hR h
  | field s x f => exact op_field ho hR h
  | indexAddr t x i => exact op_indexAddr ho hR h
  | index t x i => exact op_index ho hR h
  | slice t x lo hi mx => exact op_slice ho hR h
  | makeSlice t x y => exact op_makeSlice hC.ty ho hR h
  | extract x i => exact op_extract ho hR h
  | binOp op t x y ty => exact op_binOp ho hR h
  | unOp op t x =>
    simp only [opPg, ho] at h
    exact op_plain hR (by rw [ho]; simp) h
  | convert s d x =>
    simp only [opPg, ho] at h
    exact op_plain hR (by rw [ho]; simp) h
  | makeFunc fn first caps =>
    cases fn with
    | func f => exact op_makeFunc ho hR h
    | _ => simp only [opPg, ho] at h; cases h
  | call c =>
    cases hc : c.callee with
    | value f => exact op_call hC ho hc hR h
    | invoke r m => simp only [opPg, ho, hc] at h; cases h
    | builtin b =>
      cases b with
      | len => exact op_len ho hc hR h
      | append => exact op_append hC.ty ho hc hR h
      | _ =>
        simp only [opPg, ho, hc] at h
        exact op_plain hR (by rw [ho]; simp) h
  | _ => simp only [opPg, ho] at h; cases h
end
end Go.Ev
