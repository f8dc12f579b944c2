/- A part of a verified evaluator of the model's code: what it evaluates is what a call returns; no condition beyond the theorems' own hypotheses. -/
import Derived.Test.YtdlpejdadikggaaEv24
set_option linter.unusedVariables false
namespace Go.Ev
open Go

/-- the parameters' patterns: one for each place, what may be written pinned -/
def parOk : Nat → List PE → Bool
  | _, [] => true
  | n, ⟨t, _, .own _, p⟩ :: l => Nat.beq t n && p && parOk (n + 1) l
  | n, ⟨t, _, .ptr _ true, p⟩ :: l => Nat.beq t n && p && parOk (n + 1) l
  | _, ⟨_, _, .box _ _, _⟩ :: _ => false
  | n, ⟨t, _, .lit v, p⟩ :: l => Nat.beq t n && !p && v.oneCell' && parOk (n + 1) l
  | n, e :: l => Nat.beq e.tmp n && !e.pin && parOk (n + 1) l

def pinIds : List PE → List Nat
  | [] => []
  | ⟨_, id, .own _, _⟩ :: l => id :: pinIds l
  | ⟨_, id, .ptr _ true, _⟩ :: l => id :: pinIds l
  | _ :: l => pinIds l

def pinF : List (Nat × Home) → Nat → Home
  | [], _ => .none
  | q :: l, i => if i = q.1 then q.2 else pinF l i

theorem pinF_mem : ∀ {l : List (Nat × Home)}, (l.map (·.1)).Nodup → ∀ q ∈ l, pinF l q.1 = q.2
  | [], _, q, hq => by simp at hq
  | x :: l, hn, q, hq => by
    simp only [List.map_cons, List.nodup_cons] at hn
    simp only [pinF]
    rcases List.mem_cons.1 hq with rfl | hq
    · rw [if_pos rfl]
    · rw [if_neg (by intro e; exact hn.1 (e ▸ List.mem_map.2 ⟨q, hq, rfl⟩))]
      exact pinF_mem hn.2 q hq

theorem perm4 {β : Type} (a b c d : List β) : ((a ++ b) ++ (c ++ d)).Perm ((a ++ c) ++ (b ++ d)) := by
  simp only [List.append_assoc]
  exact List.Perm.append_left a (by
    rw [← List.append_assoc, ← List.append_assoc]
    exact List.Perm.append_right d List.perm_append_comm)

structure ArgsOk (w : World) (ps : List PE) (x : PTe ps) (vs : List Value) (U E : List Nat) (O : List (List Nat)) (n : Nat) (pins : List (Nat × Home)) (O' : List Nat) : Prop where
  pat : ∀ (π : Nat → Home), (∀ q ∈ pins, π q.1 = q.2) → ∀ tm : Nat → Value, (∀ i v, vs[i]? = some v → tm (n + i) = v) → PatR w π tm ps x U O'
  perm : O'.Perm (O.flatten ++ E)
  ids : pins.map (·.1) = pinIds ps
  nn : ∀ q ∈ pins, q.2 ≠ .none
  at' : ∀ (ι : Nat → Home), (∀ q ∈ pins, ι q.1 = q.2) → PinAt ι ps vs O
  len : vs.length = ps.length
  pk : ∀ q ∈ pins, ∃ e ∈ ps, e.pin = true ∧ e.id = q.1
  pt : pinTy ps = true

theorem args_ok {w : World} : ∀ {ps : List PE} {x : PTe ps} {vs : List Value} {U E : List Nat} {O : List (List Nat)} {n : Nat}, ArgsR w (ps.map (·.b)) x vs U E O → parOk n ps = true → ∃ pins O', ArgsOk w ps x vs U E O n pins O'
  | [], x, vs, U, E, O, n, h, hp => by
    obtain ⟨rfl, rfl, rfl, rfl⟩ := h
    exact ⟨[], [], ⟨fun π _ tm _ => ⟨rfl, rfl⟩, .refl _, rfl, by simp, fun ι _ => rfl, rfl, by simp, rfl⟩⟩
  | ⟨t, id, b, p⟩ :: ps, x, vs, U, E, O, n, h, hp => by
    obtain ⟨v, us, U1, U2, E1, E2, O1, O2, rfl, rfl, rfl, rfl, ha, h⟩ := h
    have hshift : ∀ tm : Nat → Value, (∀ i v', (v :: us)[i]? = some v' → tm (n + i) = v') → ∀ i v', us[i]? = some v' → tm (n + 1 + i) = v' := by
      intro tm h i v' hi
      have := h (i + 1) v' (by simpa using hi)
      rwa [show n + 1 + i = n + (i + 1) by omega]
    -- an entry that pins nothing
    have key : ∀ (o : List Nat), (parOk (n + 1) ps = true) → t = n → p = false ∨ ((∃ t, b = .own t) ∨ ∃ t, b = .ptr t true) → (∀ t, b ≠ .own t) → (∀ t, b ≠ .ptr t true) → (∀ t o, b ≠ .box t o) → O1 = [] → o.Perm E1 →
        (∀ π, EntR w π ⟨t, id, b, p⟩ x.1 v U1 o) → ∃ pins O', ArgsOk w (⟨t, id, b, p⟩ :: ps) x (v :: us) (U1 ++ U2) (E1 ++ E2) (O1 ++ O2) n pins O' := by
      intro o hp2 ht hpf h1 h2 h3 hO hperm hE
      subst ht hO
      have hpf : p = false := by
        rcases hpf with h | ⟨t, h⟩ | ⟨t, h⟩
        · exact h
        · exact absurd h (h1 t)
        · exact absurd h (h2 t)
      subst hpf
      obtain ⟨pins, O', hA⟩ := args_ok h hp2
      refine ⟨pins, o ++ O', ⟨fun π hπ tm htm => ⟨U1, U2, o, O', rfl, rfl, ?_, hA.pat π hπ tm (hshift tm htm)⟩, ?_, ?_, hA.nn, fun ι hι => ?_, by simp [hA.len], fun q hq => ?_, ?_⟩⟩
      · have := htm 0 v (by simp)
        rw [Nat.add_zero] at this
        simp only
        rw [this]
        exact hE π
      · simp only [List.nil_append]
        refine (hperm.append hA.perm).trans ?_
        rw [← List.append_assoc, ← List.append_assoc]
        exact List.Perm.append_right E2 List.perm_append_comm
      · rw [hA.ids]
        cases b with
        | own t => exact absurd rfl (h1 t)
        | ptr t mu => cases mu with
          | true => exact absurd rfl (h2 t)
          | false => rfl
        | _ => rfl
      · have := hA.at' ι hι
        cases b with
        | own t => exact absurd rfl (h1 t)
        | ptr t mu => cases mu with
          | true => exact absurd rfl (h2 t)
          | false => exact ⟨v, us, rfl, this⟩
        | box t o => exact absurd rfl (h3 t o)
        | _ => exact ⟨v, us, rfl, this⟩
      · obtain ⟨e, he, h1⟩ := hA.pk q hq
        exact ⟨e, List.mem_cons_of_mem _ he, h1⟩
      · have := hA.pt
        cases b with
        | own t => exact this
        | ptr t mu => cases mu <;> simp [pinTy, this]
        | _ => simp [pinTy, this]
    -- one that pins
    have keyp : ∀ (o : List Nat) (hm : Home), (parOk (n + 1) ps = true) → t = n → p = true → (∃ t, b = .own t) ∨ (∃ t, b = .ptr t true) → hm ≠ .none → O1 = [o] → E1 = [] →
        (∀ π : Nat → Home, π id = hm → EntR w π ⟨t, id, b, p⟩ x.1 v U1 o) → (∀ ι : Nat → Home, ι id = hm → ∀ O2, PinAt ι ps us O2 → PinAt ι (⟨t, id, b, p⟩ :: ps) (v :: us) (o :: O2)) → ∃ pins O', ArgsOk w (⟨t, id, b, p⟩ :: ps) x (v :: us) (U1 ++ U2) (E1 ++ E2) (O1 ++ O2) n pins O' := by
      intro o hm hp2 ht hpt hb hn hO hE1 hE hAt
      subst ht hO hE1 hpt
      obtain ⟨pins, O', hA⟩ := args_ok h hp2
      refine ⟨(id, hm) :: pins, o ++ O', ⟨fun π hπ tm htm => ⟨U1, U2, o, O', rfl, rfl, ?_, hA.pat π (fun q hq => hπ q (List.mem_cons_of_mem _ hq)) tm (hshift tm htm)⟩, ?_, ?_, ?_, fun ι hι => ?_, by simp [hA.len], fun q hq => ?_, ?_⟩⟩
      · have := htm 0 v (by simp)
        rw [Nat.add_zero] at this
        simp only
        rw [this]
        exact hE π (hπ (id, hm) (by simp))
      · simp only [List.nil_append, List.singleton_append, List.flatten_cons, List.append_assoc]
        exact List.Perm.append_left o hA.perm
      · simp only [List.map_cons, hA.ids]
        rcases hb with ⟨t, rfl⟩ | ⟨t, rfl⟩ <;> rfl
      · intro q hq
        rcases List.mem_cons.1 hq with rfl | hq
        · exact hn
        · exact hA.nn q hq
      · exact hAt ι (hι (id, hm) (by simp)) _ (hA.at' ι (fun q hq => hι q (List.mem_cons_of_mem _ hq)))
      · rcases List.mem_cons.1 hq with rfl | hq
        · exact ⟨_, List.mem_cons_self, rfl, rfl⟩
        · obtain ⟨e, he, h1⟩ := hA.pk q hq
          exact ⟨e, List.mem_cons_of_mem _ he, h1⟩
      · have := hA.pt
        rcases hb with ⟨t, rfl⟩ | ⟨t, rfl⟩ <;> exact this
    cases b with
    | val t' g =>
      obtain ⟨rfl, rfl, hv⟩ := ha
      simp only [parOk, Bool.and_eq_true, Bool.not_eq_true'] at hp
      exact key [] hp.2 (Nat.eq_of_beq_eq_true hp.1.1) (.inl hp.1.2) (by simp) (by simp) (by simp) rfl (.refl _) (fun π => ⟨rfl, hv⟩)
    | ptr t' mu =>
      cases mu with
      | true =>
        obtain ⟨rfl, b, rfl, hv⟩ := ha
        simp only [parOk, Bool.and_eq_true] at hp
        exact keyp [b] (.blk b) hp.2 (Nat.eq_of_beq_eq_true hp.1.1) hp.1.2 (.inr ⟨_, rfl⟩) (by simp) rfl rfl (fun π hπ => ⟨b, rfl, hπ, hv⟩) (fun ι hι O2 h => ⟨v, us, b, O2, rfl, rfl, by obtain ⟨arr, e, hv, _⟩ := hv; exact hv, hι, h⟩)
      | false =>
        obtain ⟨rfl, rfl, hv⟩ := ha
        simp only [parOk, Bool.and_eq_true, Bool.not_eq_true'] at hp
        exact key [] hp.2 (Nat.eq_of_beq_eq_true hp.1.1) (.inl hp.1.2) (by simp) (by simp) (by simp) rfl (.refl _) (fun π => ⟨rfl, hv⟩)
    | own t' =>
      obtain ⟨rfl, rfl, A, m, c, F, rfl, rfl, hr⟩ := ha
      simp only [parOk, Bool.and_eq_true] at hp
      exact keyp F (.row A m c F) hp.2 (Nat.eq_of_beq_eq_true hp.1.1) hp.1.2 (.inl ⟨_, rfl⟩) (by simp) rfl rfl (fun π hπ => ⟨rfl, A, m, c, rfl, hπ, hr⟩) (fun ι hι O2 h => ⟨_, us, A, m, c, F, O2, rfl, rfl, rfl, hι, h⟩)
    | eat t' =>
      obtain ⟨rfl, rfl, hv⟩ := ha
      simp only [parOk, Bool.and_eq_true, Bool.not_eq_true'] at hp
      exact key E1 hp.2 (Nat.eq_of_beq_eq_true hp.1.1) (.inl hp.1.2) (by simp) (by simp) (by simp) rfl (.refl _) (fun π => ⟨rfl, hv⟩)
    | fn f caps =>
      obtain ⟨rfl, rfl, hv⟩ := ha
      simp only [parOk, Bool.and_eq_true, Bool.not_eq_true'] at hp
      exact key [] hp.2 (Nat.eq_of_beq_eq_true hp.1.1) (.inl hp.1.2) (by simp) (by simp) (by simp) rfl (.refl _) (fun π => ⟨rfl, hv⟩)
    | lit l =>
      obtain ⟨rfl, rfl, rfl, rfl⟩ := ha
      simp only [parOk, Bool.and_eq_true, Bool.not_eq_true'] at hp
      exact key [] hp.2 (Nat.eq_of_beq_eq_true hp.1.1.1) (.inl hp.1.1.2) (by simp) (by simp) (by simp) rfl (.refl _) (fun π => ⟨rfl, hp.1.2, rfl, rfl⟩)
    | box t' o => exact ha.elim
    | gob t' g =>
      obtain ⟨rfl, rfl, hv⟩ := ha
      simp only [parOk, Bool.and_eq_true, Bool.not_eq_true'] at hp
      exact key E1 hp.2 (Nat.eq_of_beq_eq_true hp.1.1) (.inl hp.1.2) (by simp) (by simp) (by simp) rfl (.refl _) (fun π => ⟨rfl, hv⟩)

/-- what a function's body leaves -/
def RetP (P : Program) (fn : Func) (ps : List PE) (rs : List (Ty × Bool)) (vs : List Value) (O : List (List Nat)) (w0 : World) (W : List Nat) (y : CT (rs.map (·.1) ++ outs (ps.map (·.b)))) (a : Act) (w : World) : Prop :=
  a.defers = [] ∧ ∃ us G, (results fn a.tmps).run P w = .ok (retV us) w ∧ CompsR w rs (csplit _ _ y).1 us G ∧ OutsR w (ps.map (·.b)) (csplit _ _ y).2 vs O ∧ G.Nodup ∧ (∀ b ∈ G, b < w.heap.size) ∧
    (∀ b ∈ G, w0.heap.size ≤ b ∨ b ∈ W) ∧ (∀ b ∈ G, b ∉ O.flatten) ∧ (∀ b, b < w0.heap.size → b ∉ W → w.heap[b]? = w0.heap[b]?) ∧ WLe w0 w

theorem contract {g : FuncId} {fn : Func} {c : Code} {C : Cfg} {ps : List PE} {rs : List (Ty × Bool)} {F : Fn (CT (rs.map (·.1) ++ outs (ps.map (·.b))))} {nx : Nat} {f : PT (ps.map (·.b)) → Option (CT (rs.map (·.1) ++ outs (ps.map (·.b))))}
    (hC : CfgOk C) (hF : F.C = C) (hfn : C.P.funcs[g]? = some fn) (hb : fn.body = some c) (hn : (fn.name == "runtime.NumGoroutine") = false) (hnt : C.ntmps = fn.ntmps) (hle : Nat.ble ps.length fn.ntmps = true) (hpar : parOk 0 ps = true)
    (hfin : F.fin = rdRes C.P ps rs fn.results.toList .ret) (hpins : F.pins = pinIds ps) (hnd : nodupB F.pins = true) (hann : AnnOk F c 1) (hmix : C.P.follows .mixedOrders = true)
    (hf : ∀ x, evFn F c ps nx x = f x) : Contract C.P g ⟨ps.map (·.b), rs, f⟩ := by
  intro w x vs U E O r hA hO hU hlt hr
  have hle := Nat.le_of_ble_eq_true hle
  simp only at hA hr r
  obtain ⟨pins, O', hok⟩ := args_ok hA hpar
  left
  refine ⟨?_, ?_⟩
  · simp [callFunc, hfn, hb]
    simpa using hn
  · have hpn : (pins.map (·.1)).Nodup := by rw [hok.ids, ← hpins]; exact nodupB_run hnd
    refine calls_of_wp hfn hb ?_
    let X : Ctx := ⟨C, w, O.flatten ++ E, pins⟩
    have hsz : vs.toArray.size = ps.length := by simp [hok.len]
    let a0 : Act := { tmps := vs.toArray ++ Array.replicate (fn.ntmps - vs.toArray.size) undef, defers := [] }
    have hmem : ∀ b, b ∈ O' ↔ b ∈ O.flatten ++ E := fun b => hok.perm.mem_iff
    have hpo : PatOk X ps x a0 w (pinF pins) U O' := by
      refine ⟨hok.pat _ (pinF_mem hpn) _ ?_, fun b hb hm => hU b hb ((hmem b).1 hm), fun b hb => hlt b (List.mem_append.2 (.inl hb)), fun b hb => hlt b (List.mem_append.2 (.inr ((hmem b).1 hb))), fun b hb => .inr ((hmem b).1 hb),
        hok.perm.nodup_iff.2 hO, fun q hq => ⟨pinF_mem hpn q hq, hok.nn q hq⟩, hok.pk, hok.pt, ?_, rfl, fun _ _ _ => rfl, WLe.refl _⟩
      · intro i v hv
        have hi : i < vs.length := (List.getElem?_eq_some_iff.1 hv).1
        rw [Array.getD_eq_getD_getElem?, Array.getElem?_append_left (by simpa using by omega)]
        simp only [Nat.zero_add]
        simp [hv]
      · simp only [a0, Array.size_append, Array.size_replicate]
        rw [hsz]
        show ps.length + (fn.ntmps - ps.length) = C.ntmps
        omega
    have hFO : FnOk X F (RetP C.P fn ps rs vs O w (O.flatten ++ E)) := by
      refine ⟨hF, hC, by rw [hpins]; exact hok.ids.symm, ?_, hmix⟩
      intro σ ι a w' A K z hR h
      rw [Pg.runK_eq, hfin] at h
      obtain ⟨q, hq, h⟩ := Option.bind_eq_some_iff.1 h
      obtain ⟨y, us, G, σ1, h1, h2, h3, h4, h5, h6⟩ := rdRes_run (X := X) (hok.at' ι (fun q hq => (hR.pn q hq).1)) hR Free.nil hq
      simp only [Pg.run, Option.some.injEq] at h6
      subst h6
      simp only [List.nil_append] at h4 h5
      exact ⟨y, ⟨hR.df, us, G, results_run h1, h2, h3, h4.nd, h4.lt, h4.mu, h5, hR.fr, hR.le⟩, h⟩
    have hend : ∀ (r' : CT (rs.map (·.1) ++ outs (ps.map (·.b)))) a w', RetP C.P fn ps rs vs O w (O.flatten ++ E) r' a w' → some r' = some r → bodyPost C.P fn (fun e w' => ∃ us F, e = .returned (retV us) ∧ CompsR w' rs (csplit _ _ r).1 us F ∧ OutsR w' (ps.map (·.b)) (csplit _ _ r).2 vs O ∧ F.Nodup ∧
      (∀ b ∈ F, (w.heap.size ≤ b ∧ b < w'.heap.size) ∨ b ∈ E) ∧ (∀ b, b < w.heap.size → b ∉ O.flatten ++ E → w'.heap[b]? = w.heap[b]?) ∧ WLe w w') .ret a w' := by
      rintro r' a w' ⟨hd, us, G, h1, h2, h3, h4, h5, h6, h7, h8, h9⟩ he
      cases he
      refine ⟨hd, _, h1, us, G, rfl, h2, h3, h4, fun b hb => ?_, h8, h9⟩
      rcases h6 b hb with h | h
      · exact .inl ⟨h, h5 b hb⟩
      · rcases List.mem_append.1 h with h | h
        · exact absurd h (h7 b hb)
        · exact .inr h
    rw [← hf] at hr
    unfold evFn at hr
    obtain ⟨σ, ι, hR, h⟩ := mkK_run (X := X) hF hpo hr
    refine ev_sound hFO c 1 hann hR h hend (fun e σ' nx' ι' a' w' hR' he => ?_)
    cases e with
    | normal =>
      obtain ⟨r', h1, h2⟩ := hFO.fin hR' he
      exact hend r' a' w' h1 h2
    | exit i => cases he
    | ret => cases he
end Go.Ev
