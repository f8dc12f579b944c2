/- A part of a verified evaluator of the model's code: what it evaluates is what a call returns; no condition beyond the theorems' own hypotheses. -/
import Derived.Test.YtdlpejdadikggaaEv17
set_option linter.unusedVariables false
namespace Go.Ev
open Go

section
variable {X : Ctx} {σ σ' : St} {ι : Nat → Home} {a : Act} {w : World} {α : Type} {o : Oper} {nid : Nat}

theorem ValR_mk {t : Ty} {g : Bool} {x : t.T} {v : Value} {F : List Nat} {l : List Sc} (hv : ValR w true t g x v F) (hl : F2 (RSc ι) l (cellsOf g v)) : RVs ι (l, g) v := by
  cases g with
  | true =>
    obtain ⟨vs, rfl⟩ := hv.2 rfl
    exact ⟨vs, rfl, hl⟩
  | false =>
    simp only [cellsOf] at hl
    cases l with
    | nil => exact hl.elim
    | cons c l =>
      cases l with
      | nil => exact ⟨c, rfl, hl.1⟩
      | cons _ _ => exact hl.2.elim

theorem comps_run {r : α × St} : ∀ {rs : List (Ty × Bool)} {x : CT (rs.map (·.1))} {us : List Value} {F G : List Nat} {nid : Nat} {k : Pg α} {σ : St} {ι : Nat → Home}, Rel X σ ι a w → CompsR w rs x us F → Free X σ ι w (F ++ G) →
    (newBs nid (comps rs x nid).2 k).run σ = some r → ∃ σ' ι', Rel X σ' ι' a w ∧ Lift ι ι' ∧ F2 (RVs ι') (comps rs x nid).1 us ∧ Free X σ' ι' w G ∧ (∀ j, ∀ q ∈ (σ'.H j).par, q ∈ (σ.H j).par) ∧ k.run σ' = some r
  | [], x, us, F, G, nid, k, σ, ι, hR, hx, hF, h => by
    obtain ⟨rfl, rfl⟩ := hx
    exact ⟨σ, ι, hR, fun _ _ => rfl, trivial, by simpa using hF, fun _ _ h => h, h⟩
  | c :: rs, x, us, F, G, nid, k, σ, ι, hR, hx, hF, h => by
    obtain ⟨v, us, F1, F2', rfl, rfl, hv, hx⟩ := hx
    simp only [comps] at h ⊢
    rw [newBs_append] at h
    obtain ⟨σ1, ι1, hR1, hL1, hF1, hl1, hp1, h⟩ := unT_own (G := F2' ++ G) hR hv.1 (by simpa using hF) h
    obtain ⟨σ2, ι2, hR2, hL2, hl2, hF2, hp2, h⟩ := comps_run hR1 hx hF1 h
    exact ⟨σ2, ι2, hR2, fun j hj => by rw [hL2 j (by rw [hL1 j hj]; exact hj), hL1 j hj], ⟨RVs_lift hL2 (ValR_mk hv hl1), hl2⟩, hF2, fun j q hq => hp1 j q (hp2 j q hq), h⟩

theorem putD_run2 (hR : Rel X σ ι a w) {dst : Option Tmp} {v : AV} {u : Value} {k : Pg α} {r : α × St} (hv : RAV ι v u)
    (h : (putD X.C dst v k).run σ = some r) : ∃ σ1, σ1.H = σ.H ∧ Rel X σ1 ι (a.put dst u) w ∧ k.run σ1 = some r := by
  unfold putD at h
  cases dst with
  | none => exact ⟨σ, rfl, hR, h⟩
  | some d =>
    simp only at h
    cases hd : Nat.ble X.C.ntmps d with
    | true => rw [hd] at h; cases h
    | false =>
      rw [hd] at h
      have hlt : d < X.C.ntmps := by
        have h1 : ¬ X.C.ntmps ≤ d := fun hle => by rw [Nat.ble_eq_true_of_le hle] at hd; cases hd
        exact Nat.lt_of_not_le h1
      exact ⟨σ.setT d v, rfl, hR.put hlt hv, h⟩

theorem Free.ofH {F : List Nat} {σ1 : St} (hF : Free X σ ι w F) (e : σ1.H = σ.H) : Free X σ1 ι w F := ⟨by rw [e]; exact hF.away, hF.lt, hF.mu, hF.nd⟩

theorem tupAV_run : ∀ {l : List (List Sc × Bool)} {us : List Value}, F2 (RVs ι) l us → RAV ι (tupAV l) (retV us)
  | [c], [v], h => h.1
  | [], [], h => ⟨#[], rfl, trivial⟩
  | _ :: _ :: _, _ :: _ :: _, h => ⟨_, rfl, h⟩
  | [_], _ :: _ :: _, h => h.2.elim
  | _ :: _ :: _, [_], h => h.2.elim
  | [], _ :: _, h => h.elim
  | _ :: _, [], h => h.elim

theorem disj_run {u v : List Nat} (h : disj u v = true) : ∀ x ∈ u, x ∉ v := by
  intro x hx hv
  simp only [disj, List.all_eq_true] at h
  have := h x hx x hv
  rw [Nat.beq_refl] at this
  cases this

theorem nodupB_run : ∀ {l : List Nat}, nodupB l = true → l.Nodup
  | [], _ => .nil
  | x :: l, h => by
    simp only [nodupB, Bool.and_eq_true, List.all_eq_true] at h
    refine List.nodup_cons.2 ⟨fun hm => ?_, nodupB_run h.2⟩
    have := h.1 x hm
    rw [Nat.beq_refl] at this
    cases this

/-- the blocks of what is one's own are different -/
theorem foots_nodup (hR : Rel X σ ι a w) : ∀ {i : List Nat}, i.Nodup → (∀ z ∈ i, (σ.H z).excl = true) → (i.flatMap fun z => (ι z).foot).Nodup
  | [], _, _ => by simp
  | z :: i, hn, he => by
    obtain ⟨hz, hn⟩ := List.nodup_cons.1 hn
    simp only [List.flatMap_cons]
    rw [List.nodup_append]
    refine ⟨hR.nd z (he z (by simp)), foots_nodup hR hn (fun z hz => he z (List.mem_cons_of_mem _ hz)), fun x hx y hy e => ?_⟩
    obtain ⟨z', hz', hy⟩ := List.mem_flatMap.1 hy
    have he' := he z' (List.mem_cons_of_mem _ hz')
    exact hR.sep z z' (fun e => hz (e ▸ hz')) (he z (by simp)) (live_of_excl he') (by rw [hR.po z' he']; intro q hq; simp at hq) (by rw [hR.po z' he']; simp) x hx (e ▸ hy)

theorem uok_apart (hR : Rel X σ ι a w) {u U i : List Nat} (hu : UOk σ ι u U) (he : ∀ z ∈ i, (σ.H z).excl = true) (hd : disj u i = true) : ∀ b ∈ U, b ∉ i.flatMap fun z => (ι z).foot := by
  intro b hb hm
  obtain ⟨z, hz, hzb⟩ := List.mem_flatMap.1 hm
  obtain ⟨id, h1, h2, h3, h4, h5⟩ := hu b hb
  have hd := disj_run hd
  exact hR.sep z id (fun e => hd id h1 (e ▸ hz)) (he z hz) h3 h4 (fun hr => hd z (h5 z hr) hz) b hzb h2

theorem call_run {v : Variant} {g : FuncId} {avs : List AV} {vs : List Value} {dst : Option Tmp} {k : Pg α} {r : α × St} {L : List Nat} (hR : Rel X σ ι a w) (hL : Free X σ ι w L) (hv : F2 (RAV ι) avs vs) (hG : Contract X.C.P g v)
    (h : (callV X.C v avs dst nid k).run σ = some r) :
    Runs X.C.P g vs.toArray w fun e w' => ∃ u σ2 ι2, e = .returned u ∧ Rel X σ2 ι2 (a.put dst u) w' ∧ Free X σ2 ι2 w' L ∧ Lift ι ι2 ∧ (∀ b ∈ L, w'.heap[b]? = w.heap[b]?) ∧ (∀ j, ∀ q ∈ (σ2.H j).par, q ∈ (σ.H j).par) ∧ k.run σ2 = some r := by
  unfold callV at h
  obtain ⟨x, u, e, i, U, E, O, σ1, hA, hu, hE, hO, hless, hR1, hF1, hdead, hal, h⟩ := rdArgs_run (G := L) hR hL h hv
  cases hc : (disj u (i ++ e) && nodupB (i ++ e)) with
  | false => rw [hc] at h; cases h
  | true =>
    rw [hc] at h
    simp only [cond_true, Pg.run] at h
    rw [Bool.and_eq_true] at hc
    obtain ⟨hdj, hnd⟩ := hc
    have hnd := nodupB_run hnd
    have hfl : O.flatten ++ E = (i ++ e).flatMap fun z => (ι z).foot := by
      rw [List.flatMap_append, ← hE.ft, hO.ft, List.flatMap_def]
    have hex : ∀ z ∈ i ++ e, (σ.H z).excl = true := by
      intro z hz
      rcases List.mem_append.1 hz with hz | hz
      · exact hO.ex z hz
      · exact hE.ex z hz
    cases hfn : v.fn x with
    | none => rw [hfn] at h; cases h
    | some res =>
      rw [hfn] at h
      simp only [Option.bind_some] at h
      have hndO : (O.flatten ++ E).Nodup := by rw [hfl]; exact foots_nodup hR hnd hex
      have hap : ∀ b ∈ U, b ∉ O.flatten ++ E := by rw [hfl]; exact uok_apart hR hu hex hdj
      have hlt : ∀ b ∈ U ++ (O.flatten ++ E), b < w.heap.size := by
        intro b hb
        rcases List.mem_append.1 hb with hb | hb
        · obtain ⟨id, h1, h2, h3, _⟩ := hu b hb
          exact hR.lt id h3 b h2
        · rw [hfl] at hb
          obtain ⟨z, hz, hb⟩ := List.mem_flatMap.1 hb
          exact hR.lt z (live_of_excl (hex z hz)) b hb
      have hcall := hG w x vs U E O res hA hndO hap hlt hfn
      -- what the call leaves
      have key : ∀ en w', (∃ us F, en = Ending.returned (retV us) ∧ CompsR w' v.rs (csplit _ _ res).1 us F ∧ OutsR w' v.ps (csplit _ _ res).2 vs O ∧ F.Nodup ∧
          (∀ b ∈ F, (w.heap.size ≤ b ∧ b < w'.heap.size) ∨ b ∈ E) ∧ (∀ b, b < w.heap.size → b ∉ O.flatten ++ E → w'.heap[b]? = w.heap[b]?) ∧ WLe w w') →
          ∃ u σ2 ι2, en = .returned u ∧ Rel X σ2 ι2 (a.put dst u) w' ∧ Free X σ2 ι2 w' L ∧ Lift ι ι2 ∧ (∀ b ∈ L, w'.heap[b]? = w.heap[b]?) ∧ (∀ j, ∀ q ∈ (σ2.H j).par, q ∈ (σ.H j).par) ∧ k.run σ2 = some r := by
        rintro en w' ⟨us, F, rfl, hcomp, houts, hFn, hFb, hw, hsz⟩
        -- the ids that are told behind are still there
        have hi1 : ∀ z ∈ i, (σ1.H z).excl = true := by
          intro z hz
          have hze := hO.ex z hz
          rw [hdead z (fun hm => (List.nodup_append.1 hnd).2.2 z hz z hm rfl)]
          exact hze
        obtain ⟨hR2, hF2⟩ := kills_run hR1 hF1 (List.nodup_append.1 hnd).1 hi1
        have hFr : (F.filter fun b => decide (w.heap.size ≤ b)).Nodup := hFn.filter _
        obtain ⟨hR3, hF3⟩ := hR2.away hF2 (G := F.filter fun b => decide (w.heap.size ≤ b)) hsz (fun b hb hbF => hw b hb (fun hm => hbF (by
          rw [hfl, List.flatMap_append] at hm
          rcases List.mem_append.1 hm with hm | hm
          · exact List.mem_append.2 (.inr hm)
          · rw [← hE.ft] at hm; exact List.mem_append.2 (.inl (List.mem_append.2 (.inr hm)))))) hFr (fun b hb => by
            obtain ⟨hb1, hb2⟩ := List.mem_filter.1 hb
            have hb2 := of_decide_eq_true hb2
            rcases hFb b hb1 with h | h
            · exact h
            · exact absurd (hlt b (List.mem_append.2 (.inr (List.mem_append.2 (.inr h))))) (by omega))
        have hOi : O = i.map fun z => (ι z).foot := hO.ft
        -- what is on loan lies apart
        have hndA := hF2.nd
        rw [List.append_assoc, List.nodup_append] at hndA
        have hLap : ∀ b ∈ L, b ∉ O.flatten ++ E := by
          intro b hb hm
          rw [hfl, List.flatMap_append] at hm
          rcases List.mem_append.1 hm with hm | hm
          · exact hndA.2.2 b hb b (List.mem_append.2 (.inr hm)) rfl
          · rw [← hE.ft] at hm
            exact hndA.2.2 b hb b (List.mem_append.2 (.inl hm)) rfl
        have hF4 : Free X (kills σ1 i) ι w' ((i.flatMap fun z => (ι z).foot) ++ (F ++ L)) := by
          refine hF3.sub (fun b hb => ?_) ?_
          · rcases List.mem_append.1 hb with hb | hb
            · exact List.mem_append.2 (.inl (List.mem_append.2 (.inr hb)))
            · rcases List.mem_append.1 hb with hb | hb
              · rcases hFb b hb with h | h
                · exact List.mem_append.2 (.inr (List.mem_filter.2 ⟨hb, decide_eq_true h.1⟩))
                · exact List.mem_append.2 (.inl (List.mem_append.2 (.inl (List.mem_append.2 (.inr h)))))
              · exact List.mem_append.2 (.inl (List.mem_append.2 (.inl (List.mem_append.2 (.inl hb)))))
          · rw [List.nodup_append]
            have hn2 := hndO
            rw [hfl, List.flatMap_append, List.nodup_append] at hn2
            refine ⟨hn2.1, ?_, fun p hp q hq e2 => ?_⟩
            · rw [List.nodup_append]
              refine ⟨hFn, hL.nd, fun p hp q hq e2 => ?_⟩
              rcases hFb p hp with h | h
              · have := hL.lt q hq
                omega
              · exact hLap q hq (List.mem_append.2 (.inr (e2 ▸ h)))
            · rcases List.mem_append.1 hq with hq | hq
              · rcases hFb q hq with h | h
                · obtain ⟨z, hz, hpz⟩ := List.mem_flatMap.1 hp
                  have := hR.lt z (live_of_excl (hO.ex z hz)) p hpz
                  omega
                · rw [hE.ft] at h
                  exact hn2.2.2 p hp q h e2
              · refine hLap q hq ?_
                rw [hfl, List.flatMap_append]
                exact List.mem_append.2 (.inl (e2 ▸ hp))
        obtain ⟨σ3, hR4, hF5, hp3, h⟩ := putOuts_run hR3 hF4 hal (by rw [← hOi]; exact houts) (List.nodup_append.1 hnd).1 hi1
          (fun z hz j q hq hqe ver hh => hR1.pv j q hq ver (by rw [hqe]; exact hh)) h
        obtain ⟨σ4, ι4, hR5, hL4, hl, hF6, hp4, h⟩ := comps_run (G := L) hR4 hcomp hF5 h
        obtain ⟨σ5, hH5, hR6, h⟩ := putD_run2 hR5 (tupAV_run hl) h
        refine ⟨_, σ5, ι4, rfl, hR6, hF6.ofH hH5, hL4, fun b hb => hw b (hL.lt b hb) (hLap b hb), fun j q hq => ?_, h⟩
        rw [hH5] at hq
        have := hp3 j q (hp4 j q hq)
        rcases hless.H j with hj | hj
        · rwa [hj] at this
        · rw [hj] at this; simp [Blk.par] at this
      rcases hcall with ⟨h1, h2⟩ | ⟨u, w', h1, h2⟩
      · exact .inl ⟨h1, h2.mono key⟩
      · exact .inr ⟨u, w', h1, key _ _ h2⟩

/-- what the evaluator's tables hold -/
structure CfgOk (C : Cfg) : Prop where
  ty : ∀ e t, C.ty e = some t → TyOk C.P e t
  G : ∀ g ids v, C.G g ids = some v → Contract C.P g v

theorem Done.runs {g : FuncId} {args : Array Value} {o : Oper} {σ' : St} (he : ∀ f : Next → Sem Next, True) (hx : ∃ s : Sem Next, (execOp a.eval o).run X.C.P w = (callFunc g args).run X.C.P w)
    (h : Runs X.C.P g args w fun e w' => ∃ u σ2 ι2, e = .returned u ∧ Rel X σ2 ι2 (a.put o.dst u) w' ∧ (Pg.ret () : Pg Unit).run σ2 = some ((), σ')) : Done X o σ' a w := by
  obtain ⟨_, hx⟩ := hx
  intro K Q hK
  rw [hx]
  rcases h with ⟨h1, h2⟩ | ⟨u, w', h1, h2⟩
  · rw [h1]
    refine h2.mono fun e w' hh => ?_
    obtain ⟨u, σ2, ι2, rfl, hR, hs⟩ := hh
    simp only [Pg.run, Option.some.injEq, Prod.mk.injEq, true_and] at hs
    subst hs
    exact hK _ _ _ hR
  · rw [h1]
    obtain ⟨u', σ2, ι2, hu, hR, hs⟩ := h2
    cases hu
    simp only [Pg.run, Option.some.injEq, Prod.mk.injEq, true_and] at hs
    subst hs
    exact hK _ _ _ hR

theorem F2_map {l : List (List Sc × Bool)} {us : List Value} (h : F2 (RVs ι) l us) : F2 (RAV ι) (l.map fun p => .one p.1 p.2) us := by
  induction l generalizing us with
  | nil => cases us with
    | nil => trivial
    | cons _ _ => exact h.elim
  | cons p l ih => cases us with
    | nil => exact h.elim
    | cons u us => exact ⟨h.1, ih h.2⟩

/-- what a loan's giving back wants -/
structure LoanOk (X : Ctx) (σ1 : St) (ι : Nat → Home) (w : World) (l : Loan) (L : List Nat) (b o : Nat) (arr : Array Value) (e : TypeId) (Fs : List (List Nat)) (c : Nat) (A' : Option Addr) (n' c' : Nat) (F' G : List Nat) : Prop where
  hp : ι l.pid = .row (some ⟨b, o, none⟩) l.xs.length c (b :: (Fs.flatten ++ G))
  hc : l.xs.length ≤ c
  hw : w.heap[b]? = some (.cells arr e (0, 0))
  hs : o + c * 1 ≤ arr.size
  hl : Fs.length = l.xs.length
  hel : ∀ j x Fj, l.xs[j]? = some x → Fs[j]? = some Fj → RE true w (.sl l.t) x ((arr.toList.drop (o + j * 1)).take 1) Fj
  hi : (arr.toList.drop (o + l.i * 1)).take 1 = [.slice A' n' c']
  hF : Fs[l.i]? = some F'
  hsid : ι l.sid = .row A' n' c' F'
  perm : (L ++ F').Perm (b :: (Fs.flatten ++ G))
  ver : ∀ j, ∀ q ∈ (σ1.H j).par, q.1 = l.pid → q.2 ≤ l.ver
  ne : l.sid ≠ l.pid
  hG : ∀ k ∈ G, k < w.heap.size

theorem flatten_get {Fs : List (List Nat)} {i : Nat} {F' : List Nat} (h : Fs[i]? = some F') : ((Fs.take i).flatten ++ (Fs.drop (i + 1)).flatten ++ F').Perm Fs.flatten := by
  have hi := (List.getElem?_eq_some_iff.1 h).1
  have e : Fs = Fs.take i ++ F' :: Fs.drop (i + 1) := by
    have := (List.getElem?_eq_some_iff.1 h).2
    rw [← this, List.getElem_cons_drop, List.take_append_drop]
  have e2 : Fs.flatten = (Fs.take i).flatten ++ (F' ++ (Fs.drop (i + 1)).flatten) := by
    conv => lhs; rw [e]
    simp
  rw [e2, List.append_assoc]
  exact List.Perm.append_left _ List.perm_append_comm

theorem borrow_run {ps : List BTy} {avs : List AV} {k : Option Loan → Pg α} {r : α × St} (hR : Rel X σ ι a w) (h : (borrow ps avs k).run σ = some r) :
    (k none).run σ = some r ∨ ∃ l σ1 L b o arr e Fs c A' n' c' F' G, LoanOk X σ1 ι w l L b o arr e Fs c A' n' c' F' G ∧ Rel X σ1 ι a w ∧ Free X σ1 ι w L ∧ (k (some l)).run σ1 = some r := by
  unfold borrow at h
  cases ho : ownFirst ps with
  | false => rw [ho] at h; exact .inl h
  | true =>
    rw [ho] at h
    simp only [cond_true] at h
    split at h
    · rename_i sid hs
      replace h := getB_run h
      split at h
      · rename_i t0 x0 sv par0 hb0
        replace h := getB_run h
        split at h
        · rename_i t xs sid' i pid ver hbi
          cases hc : (Nat.beq sid sid' && !Nat.beq sid pid) with
          | false => rw [hc] at h; cases h
          | true =>
            rw [hc] at h
            simp only [cond_true] at h
            rw [Bool.and_eq_true] at hc
            have h1 := Nat.eq_of_beq_eq_true hc.1
            subst h1
            have hne : sid ≠ pid := by
              rintro rfl
              rw [Nat.beq_refl] at hc; simp at hc
            replace h := getB_run h
            split at h
            · rename_i t1 x1 ver' hbp
              cases hv : Nat.beq ver ver' with
              | false => rw [hv] at h; cases h
              | true =>
                rw [hv] at h
                have hv := Nat.eq_of_beq_eq_true hv
                subst hv
                simp only [cond_true, Pg.run] at h
                have hbl := hR.bl (sid + 4)
                rw [hbi] at hbl
                obtain ⟨A, n, c, F, hh, hpid, hlink⟩ := hbl
                obtain ⟨b, o, arr, e, Fs, G, A', n', c', F', g1, g2, g3, g4, g5, ⟨g6, g6'⟩, g7, g8, g9, g10, g11⟩ := hlink (by intro q hq; simp at hq; subst hq; exact ⟨_, _, _, hbp⟩)
                subst g1 g2 g6
                have hexp : (σ.H pid).excl = true := by rw [hbp]; rfl
                have hR1 := hR.kill (id := pid) (by rw [hbp]; simp)
                have hF1 := Free.nil.give hR hexp (F := [])
                rw [hh] at hpid
                rw [hpid] at hF1
                simp only [Home.foot, List.nil_append] at hF1
                have hs1 : (σ.setH pid .dead).H sid = .row t0 x0 false sv par0 := by rw [setH_ne _ _ hne, hb0]
                have hR2 := hR1.kill (id := sid) (by rw [hs1]; simp)
                have hF2 := hF1.kill sid
                have hperm := flatten_get g10
                let L := b :: (G ++ ((Fs.take i).flatten ++ (Fs.drop (i + 1)).flatten))
                have hpermL : (L ++ F').Perm (b :: (Fs.flatten ++ G)) := by
                  simp only [L, List.cons_append, List.append_assoc]
                  refine List.Perm.cons b ?_
                  refine (List.Perm.append_left G (by rw [← List.append_assoc]; exact hperm)).trans List.perm_append_comm
                have hF3 : Free X ((σ.setH pid .dead).setH sid .dead) ι w (F' ++ L) := hF2.sub (fun k hk => hpermL.mem_iff.1 (by simp only [List.mem_append] at hk ⊢; exact hk.symm)) ((List.perm_append_comm.trans hpermL).nodup_iff.2 hF2.nd)
                have hx : i < xs.length := by rw [← g7]; exact (List.getElem?_eq_some_iff.1 g10).1
                have hgx : xs.getD i [] = xs[i] := by rw [List.getD_eq_getElem?_getD, List.getElem?_eq_getElem hx]; rfl
                have hre := g8 i xs[i] F' (List.getElem?_eq_getElem hx) g10
                rw [g9] at hre
                obtain ⟨A2, n2, c2, hcs, hrow⟩ := hre
                simp only [List.cons.injEq, and_true] at hcs
                cases hcs
                have hbnd : ∀ j, ∀ q ∈ (((σ.setH pid .dead).setH sid .dead).H j).par, q.1 = sid → q.2 ≤ sv := by
                  intro j q hq e2
                  exact hR.pv j q (par_set rfl (par_set rfl hq)) _ (by rw [e2, hb0]; rfl)
                obtain ⟨hR3, hF4⟩ := hR2.revive (F := F') hF3 (id := sid) (setH_same _ _ _) (blk := .row t (xs.getD i []) true (sv + 1) []) (by rw [g11]; rfl)
                  (by rw [g11]; exact ⟨A', n', c', F', rfl, fun _ => by rw [hgx]; exact hrow⟩) rfl (by simp)
                  (fun j hp hm => by
                    obtain ⟨q, hq, hqe⟩ := List.mem_map.1 hm
                    obtain ⟨t2, x2, p2, hh2⟩ := hp q hq
                    rw [hqe, setH_same] at hh2
                    injection hh2 with _ _ _ hv2 _
                    have := hbnd j q hq hqe
                    omega)
                  (fun j q hq hqe ver2 hh2 => by
                    simp only [Blk.ver?, Option.some.injEq] at hh2
                    have := hbnd j q hq hqe
                    omega)
                refine .inr ⟨⟨t, xs, sid, i, pid, ver⟩, _, L, b, o, arr, e, Fs, c, A', n', c', F', G, ⟨hpid, g3, g4, g5, g7, g8, g9, g10, g11, hpermL, ?_, hne, g6'⟩, hR3, hF4, h⟩
                intro j q hq e2
                exact hR.pv j q (par_set rfl (par_set rfl (par_set rfl hq))) _ (by rw [e2, hbp]; rfl)
            · cases h
        · exact .inl h
      · exact .inl h
    · exact .inl h

theorem giveBack_run {l : Loan} {k : Pg α} {r : α × St} {σ1 σ2 : St} {ι2 : Nat → Home} {a' : Act} {w' : World} {L : List Nat} {b o : Nat} {arr : Array Value} {e : TypeId} {Fs : List (List Nat)} {c : Nat} {A' : Option Addr} {n' c' : Nat} {F' : List Nat}
    {G : List Nat} (hl : LoanOk X σ1 ι w l L b o arr e Fs c A' n' c' F' G) (hR : Rel X σ2 ι2 a' w') (hF : Free X σ2 ι2 w' L) (hL : Lift ι ι2) (hw : ∀ b ∈ L, w'.heap[b]? = w.heap[b]?) (hp : ∀ j, ∀ q ∈ (σ2.H j).par, q ∈ (σ1.H j).par)
    (h : (giveBack (some l) k).run σ2 = some r) : ∃ σ3, Rel X σ3 ι2 a' w' ∧ k.run σ3 = some r := by
  unfold giveBack at h
  simp only at h
  replace h := getB_run h
  split at h
  · rename_i t' y0 sv hb
    split at h
    · rename_i y hy
      obtain ⟨rfl, rfl⟩ := castRow_some hy
      replace h := getB_run h
      split at h
      · rename_i hd
        simp only [Pg.run] at h
        have hs2 := hL.eq hl.hsid (by simp)
        have hp2 := hL.eq hl.hp (by simp)
        have hrow := row_of hR hb (chk_none rfl) hs2
        have hR1 := hR.kill (id := l.sid) (by rw [hb]; simp)
        have hF1 := hF.give hR (id := l.sid) (by rw [hb]; rfl)
        rw [hs2] at hF1
        simp only [Home.foot] at hF1
        have hF2 : Free X (σ2.setH l.sid .dead) ι2 w' ((b :: (Fs.flatten ++ G)) ++ []) := by
          rw [List.append_nil]
          exact hF1.sub (fun k hk => hl.perm.mem_iff.2 hk) (hl.perm.nodup_iff.1 hF1.nd)
        have hbL : b ∈ L := by
          have := hl.perm.mem_iff.2 (List.mem_cons_self (a := b) (l := Fs.flatten ++ G))
          rcases List.mem_append.1 this with h | h
          · exact h
          · exfalso
            have hnd := hl.perm.nodup_iff.1 hF1.nd
            have : b ∈ Fs.flatten := List.mem_flatten.2 ⟨F', List.mem_of_getElem? hl.hF, h⟩
            exact (List.nodup_cons.1 hnd).1 (List.mem_append.2 (.inl this))
        have hx : l.i < l.xs.length := by rw [← hl.hl]; exact (List.getElem?_eq_some_iff.1 hl.hF).1
        have hoth : ∀ j Fj, Fs[j]? = some Fj → j ≠ l.i → ∀ k ∈ Fj, k ∈ L := by
          intro j Fj hj hne k hk
          have hkf : k ∈ b :: (Fs.flatten ++ G) := List.mem_cons_of_mem _ (List.mem_append.2 (.inl (List.mem_flatten.2 ⟨Fj, List.mem_of_getElem? hj, hk⟩)))
          rcases List.mem_append.1 (hl.perm.mem_iff.2 hkf) with h | h
          · exact h
          · exfalso
            have hnd := (List.nodup_append.1 (List.nodup_cons.1 (hl.perm.nodup_iff.1 hF1.nd)).2).1
            have hpw := (List.pairwise_flatten.1 hnd).2
            have hdis := List.pairwise_iff_getElem.1 hpw
            obtain ⟨hj1, hj2⟩ := List.getElem?_eq_some_iff.1 hj
            obtain ⟨hi1, hi2⟩ := List.getElem?_eq_some_iff.1 hl.hF
            rcases Nat.lt_or_gt_of_ne hne with hlt | hlt
            · have := hdis j l.i hj1 hi1 hlt
              rw [hj2, hi2] at this
              exact this k hk k h rfl
            · have := hdis l.i j hi1 hj1 hlt
              rw [hj2, hi2] at this
              exact this k h k hk rfl
        have hrr : RR true w' (.sl l.t) (l.xs.set l.i y) (some ⟨b, o, none⟩) l.xs.length c (b :: (Fs.flatten ++ G)) := by
          refine ⟨by simp, hl.hc, .inr ⟨b, o, arr, e, (0, 0), Fs, G, rfl, by rw [hw b hbL]; exact hl.hw, fun _ => rfl, by simpa [Ty.size] using hl.hs, rfl, fun k hk => hF2.lt k (by simp [hk]), by simp [hl.hl], fun j x Fj hxj hFj => ?_⟩⟩
          by_cases hj : j = l.i
          · subst hj
            rw [hl.hF] at hFj
            cases hFj
            rw [List.getElem?_set_self hx] at hxj
            cases hxj
            simp only [Ty.size]
            rw [hl.hi]
            exact ⟨A', n', c', rfl, hrow⟩
          · rw [List.getElem?_set_ne (fun e => hj e.symm)] at hxj
            have := hl.hel j x Fj hxj hFj
            exact RE_frame (fun k hk => hw k (hoth j Fj hFj hj k hk)) this
        have hd2 : (σ2.setH l.sid .dead).H l.pid = .dead := by rw [setH_ne _ _ (fun e => hl.ne e.symm), hd]
        have hbnd : ∀ j, ∀ q ∈ ((σ2.setH l.sid .dead).H j).par, q.1 = l.pid → q.2 ≤ l.ver := fun j q hq e2 => hl.ver j q (hp j q (par_set rfl hq)) e2
        obtain ⟨hR3, _⟩ := hR1.revive hF2 (id := l.pid) hd2 (blk := .row (.sl l.t) (l.xs.set l.i y) true (l.ver + 1) []) (by rw [hp2]; rfl)
          (by rw [hp2]; exact ⟨_, _, _, _, rfl, fun _ => hrr⟩) rfl (by simp)
          (fun j hp hm => by
            obtain ⟨q, hq, hqe⟩ := List.mem_map.1 hm
            obtain ⟨t2, x2, p2, hh2⟩ := hp q hq
            rw [hqe, setH_same] at hh2
            injection hh2 with _ _ _ hv2 _
            have := hbnd j q hq hqe
            omega)
          (fun j q hq hqe ver2 hh2 => by
            simp only [Blk.ver?, Option.some.injEq] at hh2
            have := hbnd j q hq hqe
            omega)
        exact ⟨_, hR3, h⟩
      · cases h
    · cases h
  · cases h

theorem Runs.mono {P : Program} {g : FuncId} {args : Array Value} {R R' : Ending → World → Prop} (h : Runs P g args w R) (hm : ∀ e w', R e w' → R' e w') : Runs P g args w R' := by
  rcases h with ⟨h1, h2⟩ | ⟨u, w', h1, h2⟩
  · exact .inl ⟨h1, h2.mono hm⟩
  · exact .inr ⟨u, w', h1, hm _ _ h2⟩

theorem op_call {c : Call} {f : Operand} (hC : CfgOk X.C) (ho : o.op = .call c) (hc : c.callee = .value f) (hR : Rel X σ ι a w) (h : (opPg X.C nid o).run σ = some ((), σ')) : Done X o σ' a w := by
  simp only [opPg, ho, hc] at h
  obtain ⟨fv, hf, h⟩ := opnd_run hR h
  obtain ⟨avs, hv, h⟩ := opnds_run hR h
  split at h
  · rename_i g hg
    have hfe := asFn0_run hg hf
    split at h
    · rename_i v hv2
      have hr : Runs X.C.P g (c.args.toList.map a.eval).toArray w fun e w' => ∃ u σ2 ι2, e = .returned u ∧ Rel X σ2 ι2 (a.put o.dst u) w' ∧ (Pg.ret () : Pg Unit).run σ2 = some ((), σ') := by
        rcases borrow_run hR h with h | ⟨l, σ1, L, b, o2, arr, el, Fs, c2, A', n', c', F', G9, hl, hR1, hF1, h⟩
        · refine (call_run hR Free.nil hv (hC.G _ _ _ hv2) h).mono fun e w' hh => ?_
          obtain ⟨u, σ2, ι2, he, h1, _, _, _, _, h2⟩ := hh
          exact ⟨u, σ2, ι2, he, h1, h2⟩
        · refine (call_run hR1 hF1 hv (hC.G _ _ _ hv2) h).mono fun e w' hh => ?_
          obtain ⟨u, σ2, ι2, he, h1, h2, h3, h4, h5, h6⟩ := hh
          obtain ⟨σ3, h7, h8⟩ := giveBack_run hl h1 h2 h3 h4 h5 h6
          exact ⟨u, σ3, ι2, he, h7, h8⟩
      refine Done.runs (g := g) (args := (c.args.toList.map a.eval).toArray) (fun _ => trivial) ⟨.halt .blocked, ?_⟩ hr
      simp [execOp, ho, resolve, hc, hfe, Deferred.ofValue, invoke]
      congr 2
      apply Array.ext'
      simp
    · cases h
  · split at h
    · rename_i g id hg
      obtain ⟨cs, e, hfe⟩ := asFn_run hg hf
      replace h := getB_run h
      split at h
      · rename_i l hb
        have hbl := hR.bl id
        rw [hb, e] at hbl
        obtain ⟨cs', h1, h2⟩ := hbl
        cases h1
        split at h
        · rename_i v hv2
          have hr : Runs X.C.P g (c.args.toList.map a.eval ++ cs.toList).toArray w fun e w' => ∃ u σ2 ι2, e = .returned u ∧ Rel X σ2 ι2 (a.put o.dst u) w' ∧ (Pg.ret () : Pg Unit).run σ2 = some ((), σ') := by
            refine (call_run (vs := c.args.toList.map a.eval ++ cs.toList) hR Free.nil (F2_append hv (F2_map h2)) (hC.G _ _ _ hv2) h).mono fun e w' hh => ?_
            obtain ⟨u, σ2, ι2, he, h1, _, _, _, _, h2⟩ := hh
            exact ⟨u, σ2, ι2, he, h1, h2⟩
          refine Done.runs (g := g) (args := (c.args.toList.map a.eval ++ cs.toList).toArray) (fun _ => trivial) ⟨.halt .blocked, ?_⟩ hr
          simp [execOp, ho, resolve, hc, hfe, Deferred.ofValue, invoke]
          congr 2
          apply Array.ext'
          simp
        · cases h
      · cases h
    · cases h

/-- every operation -/
theorem op_sound (hC : CfgOk X.C) (hR : Rel X σ ι a w) (h : (opPg X.C nid o).run σ = some ((), σ')) : Done X o σ' a w := by
  cases ho : o.op with
  | move x => exact op_move ho hR h
  | assign x => exact op_assign ho hR h
  | pick c x y => exact op_pick ho hR h
  | alloc e => exact op_alloc ho hR h
  | box e x => exact op_box ho hR h
  | build t ps => exact op_build ho hR h
  | buildSlice t n ps => exact op_buildSlice hC.ty ho hR h
  | load t x => exact op_load ho hR h
  | store t x y => exact op_store ho hR h
  | nilCheck x => exact op_nilCheck ho hR h
  | fieldAddr s x f => exact op_fieldAddr ho hR h
  | field s x f => exact op_field ho hR h
  | indexAddr t x i => exact op_indexAddr ho hR h
  | index t x i => exact op_index ho hR h
  | slice t x lo hi mx => exact op_slice ho hR h
  | makeSlice t x y => exact op_makeSlice hC.ty ho hR h
  | extract x i => exact op_extract ho hR h
  | binOp op t x y ty => exact op_binOp ho hR h
  | unOp op t x =>
    simp only [opPg, ho] at h
    exact op_plain hR (by rw [ho]; simp) h
  | convert s d x =>
    simp only [opPg, ho] at h
    exact op_plain hR (by rw [ho]; simp) h
  | makeFunc fn first caps =>
    cases fn with
    | func f => exact op_makeFunc ho hR h
    | _ => simp only [opPg, ho] at h; cases h
  | call c =>
    cases hc : c.callee with
    | value f => exact op_call hC ho hc hR h
    | invoke r m => simp only [opPg, ho, hc] at h; cases h
    | builtin b =>
      cases b with
      | len => exact op_len ho hc hR h
      | append => exact op_append hC.ty ho hc hR h
      | _ =>
        simp only [opPg, ho, hc] at h
        exact op_plain hR (by rw [ho]; simp) h
  | _ => simp only [opPg, ho] at h; cases h
end
end Go.Ev
