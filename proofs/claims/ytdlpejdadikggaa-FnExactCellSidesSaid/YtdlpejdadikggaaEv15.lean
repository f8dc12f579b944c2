/- A part of a verified evaluator of the model's code: what it evaluates is what a call returns; no condition beyond the theorems' own hypotheses. -/
import Derived.Test.YtdlpejdadikggaaEv14
set_option linter.unusedVariables false
namespace Go.Ev
open Go

/-! What a function's contract says. -/
section
variable (w : World)

def ValR (own : Bool) (t : Ty) (g : Bool) (x : t.T) (v : Value) (F : List Nat) : Prop := RE own w t x (cellsOf g v) F ∧ (g = true → ∃ vs, v = .agg vs)

def PtrR (t : Ty) (x : t.T) (v : Value) (b : Nat) (fr : Nat × Nat) (F : List Nat) : Prop := ∃ arr e, v = .pointer (some ⟨b, 0, none⟩) ∧ w.heap[b]? = some (.cells arr e fr) ∧ RE false w t x arr.toList F

def CapsR : (caps : List (Ty × CK)) → CapT caps → List Value → List Nat → Prop
  | [], _, vs, U => vs = [] ∧ U = []
  | (t, .sc) :: cs, x, vs, U => ∃ v us U1 U2, vs = v :: us ∧ U = U1 ++ U2 ∧ ValR w false t false x.1 v U1 ∧ CapsR cs x.2 us U2
  | (t, .ag) :: cs, x, vs, U => ∃ v us U1 U2, vs = v :: us ∧ U = U1 ++ U2 ∧ ValR w false t true x.1 v U1 ∧ CapsR cs x.2 us U2
  | (t, .pr) :: cs, x, vs, U => ∃ v us b fr U1 U2, vs = v :: us ∧ U = b :: (U1 ++ U2) ∧ PtrR w t x.1 v b fr U1 ∧ CapsR cs x.2 us U2

/-- an argument: what is read, what is given up, what may be written and is told behind -/
def ArgR : (b : BTy) → b.T → Value → List Nat → List Nat → List (List Nat) → Prop
  | .val t g, x, v, U, E, O => E = [] ∧ O = [] ∧ ValR w false t g x v U
  | .ptr t true, x, v, U, E, O => E = [] ∧ ∃ b, O = [[b]] ∧ PtrR w t x v b (0, 0) U
  | .ptr t false, x, v, U, E, O => E = [] ∧ O = [] ∧ ∃ b fr U', U = b :: U' ∧ PtrR w t x v b fr U'
  | .own t, x, v, U, E, O => U = [] ∧ E = [] ∧ ∃ A n c F, v = .slice A n c ∧ O = [F] ∧ RR true w t x A n c F
  | .eat t, x, v, U, E, O => U = [] ∧ O = [] ∧ ∃ A n c, v = .slice A n c ∧ RR true w t x A n c E
  | .fn f caps, x, v, U, E, O => E = [] ∧ O = [] ∧ ∃ vs, v = .func (.func f) #[] vs ∧ CapsR w caps x vs.toList U
  | .lit l, _, v, U, E, O => v = l ∧ U = [] ∧ E = [] ∧ O = []
  | .box _ _, _, _, _, _, _ => False
  | .gob t g, x, v, U, E, O => U = [] ∧ O = [] ∧ ValR w true t g x v E

def ArgsR : (ps : List BTy) → PT ps → List Value → List Nat → List Nat → List (List Nat) → Prop
  | [], _, vs, U, E, O => vs = [] ∧ U = [] ∧ E = [] ∧ O = []
  | b :: ps, x, vs, U, E, O => ∃ v us U1 U2 E1 E2 O1 O2, vs = v :: us ∧ U = U1 ++ U2 ∧ E = E1 ++ E2 ∧ O = O1 ++ O2 ∧ ArgR w b x.1 v U1 E1 O1 ∧ ArgsR ps x.2 us U2 E2 O2

/-- what is told behind the call of what may be written -/
def OutsR (w' : World) : (ps : List BTy) → CT (outs ps) → List Value → List (List Nat) → Prop
  | [], _, _, O => O = []
  | .ptr t true :: ps, y, vs, O => ∃ v us b O2 arr e, vs = v :: us ∧ O = [b] :: O2 ∧ v = .pointer (some ⟨b, 0, none⟩) ∧ w'.heap[b]? = some (.cells arr e (0, 0)) ∧ RE true w' t (chead t _ y).1 arr.toList [] ∧ OutsR w' ps (chead t _ y).2 us O2
  | .own t :: ps, y, vs, O => ∃ v us O1 O2 A n c, vs = v :: us ∧ O = O1 :: O2 ∧ v = .slice A n c ∧ RR true w' t (chead (.sl t) _ y).1 A n c O1 ∧ OutsR w' ps (chead (.sl t) _ y).2 us O2
  | .ptr _ false :: ps, y, vs, O => ∃ v us, vs = v :: us ∧ OutsR w' ps y us O
  | .val _ _ :: ps, y, vs, O => ∃ v us, vs = v :: us ∧ OutsR w' ps y us O
  | .eat _ :: ps, y, vs, O => ∃ v us, vs = v :: us ∧ OutsR w' ps y us O
  | .fn _ _ :: ps, y, vs, O => ∃ v us, vs = v :: us ∧ OutsR w' ps y us O
  | .lit _ :: ps, y, vs, O => ∃ v us, vs = v :: us ∧ OutsR w' ps y us O
  | .box _ _ :: ps, y, vs, O => False
  | .gob _ _ :: ps, y, vs, O => ∃ v us, vs = v :: us ∧ OutsR w' ps y us O

def CompsR (w' : World) : (rs : List (Ty × Bool)) → CT (rs.map (·.1)) → List Value → List Nat → Prop
  | [], _, vs, F => vs = [] ∧ F = []
  | r :: rs, x, vs, F => ∃ v us F1 F2, vs = v :: us ∧ F = F1 ++ F2 ∧ ValR w' true r.1 r.2 (chead r.1 _ x).1 v F1 ∧ CompsR w' rs (chead r.1 _ x).2 us F2

def retV : List Value → Value
  | [v] => v
  | vs => .tuple vs.toArray
end

/-- a call: of a function with a body, or of a row of the model's own -/
def Runs (P : Program) (g : FuncId) (args : Array Value) (w : World) (R : Ending → World → Prop) : Prop :=
  ((callFunc g args).run P w = .ok (.enter g args) w ∧ Calls P g args w R) ∨ ∃ v w', (callFunc g args).run P w = .ok (.value v) w' ∧ R (.returned v) w'

def Contract (P : Program) (g : FuncId) (v : Variant) : Prop :=
  ∀ (w : World) (x : PT v.ps) (vs : List Value) (U E : List Nat) (O : List (List Nat)) (r : CT (v.rs.map (·.1) ++ outs v.ps)),
    ArgsR w v.ps x vs U E O → (O.flatten ++ E).Nodup → (∀ b ∈ U, b ∉ O.flatten ++ E) → (∀ b ∈ U ++ (O.flatten ++ E), b < w.heap.size) → v.fn x = some r →
    Runs P g vs.toArray w fun e w' => ∃ us F, e = .returned (retV us) ∧ CompsR w' v.rs (csplit _ _ r).1 us F ∧ OutsR w' v.ps (csplit _ _ r).2 vs O ∧ F.Nodup ∧
      (∀ b ∈ F, (w.heap.size ≤ b ∧ b < w'.heap.size) ∨ b ∈ E) ∧ (∀ b, b < w.heap.size → b ∉ O.flatten ++ E → w'.heap[b]? = w.heap[b]?) ∧ WLe w w'

section
variable {X : Ctx} {σ σ' : St} {ι : Nat → Home} {a : Act} {w : World} {α : Type} {o : Oper} {nid : Nat}

theorem UOk.back {σ σ1 : St} {u F : List Nat} (hb : ∀ j, (σ1.H j).live = true → σ1.H j = σ.H j) (hp : ∀ par, ParOk σ1.H par → ParOk σ.H par) (h : UOk σ1 ι u F) : UOk σ ι u F := by
  intro b hb'
  obtain ⟨id, h1, h2, h3, h4, h5⟩ := h b hb'
  have e := hb id h3
  exact ⟨id, h1, h2, e ▸ h3, by rw [← e]; exact hp _ h4, by rw [← e]; exact h5⟩

theorem Less.uok {σ σ1 : St} (h : Less σ σ1) {u F : List Nat} (hu : UOk σ1 ι u F) : UOk σ ι u F := hu.back (fun _ => h.live) (fun _ => h.par)
theorem Less.excl {σ σ1 : St} (h : Less σ σ1) {j : Nat} (hl : (σ1.H j).excl = true) : (σ.H j).excl = true := by
  rw [← h.live (live_of_excl hl)]; exact hl

theorem rdV_run (hR : Rel X σ ι a w) {t : Ty} {g : Bool} {av : AV} {v : Value} {k : t.T → List Nat → Pg α} {r : α × St} (h : (rdV t g av k).run σ = some r) (hv : RAV ι av v) :
    ∃ x u F, ValR w false t g x v F ∧ UOk σ ι u F ∧ (k x u).run σ = some r := by
  unfold rdV at h
  split at h
  · rename_i l g'
    cases hg : (g == g') with
    | false => rw [hg] at h; cases h
    | true =>
      rw [hg] at h
      simp only [cond_true] at h
      have hg : g = g' := by simpa using hg
      subst hg
      obtain ⟨x, rest, u, vs1, vs2, F, hvs, hrest, hre, hu, h⟩ := rdT_run hR h (RVs_list hv)
      split at h
      · cases vs2 with
        | cons _ _ => exact hrest.elim
        | nil =>
          rw [List.append_nil] at hvs
          refine ⟨x, u, F, ⟨by rw [hvs]; exact hre, fun hg => ?_⟩, hu, h⟩
          subst hg
          obtain ⟨ws, hws, _⟩ := hv
          exact ⟨ws, hws⟩
      · cases h
  · cases h

theorem asPtr_run {av : AV} {id : Nat} {v : Value} (h : asPtr av = some id) (hv : RAV ι av v) : ∃ b, ι id = .blk b ∧ v = .pointer (some ⟨b, 0, none⟩) := by
  unfold asPtr at h
  split at h
  · cases h; exact RAV_sc.1 hv
  · cases h
theorem asSl_run {av : AV} {id : Nat} {v : Value} (h : asSl av = some id) (hv : RAV ι av v) : ∃ A n c F, ι id = .row A n c F ∧ v = .slice A n c := by
  unfold asSl at h
  split at h
  · cases h; exact RAV_sc.1 hv
  · cases h
theorem asNil_run {av : AV} {v : Value} (h : asNil av = true) (hv : RAV ι av v) : v = .slice none 0 0 := by
  unfold asNil at h
  split at h
  · exact (RAV_v.1 hv).1
  · cases h
theorem asFn_run {av : AV} {f : FuncId} {id : Nat} {v : Value} (h : asFn av = some (f, id)) (hv : RAV ι av v) : ∃ vs, ι id = .clo vs ∧ v = .func (.func f) #[] vs := by
  unfold asFn at h
  split at h
  · cases h; exact RAV_sc.1 hv
  · cases h
theorem asFn0_run {av : AV} {f : FuncId} {v : Value} (h : asFn0 av = some f) (hv : RAV ι av v) : v = .func (.func f) #[] #[] := by
  unfold asFn0 at h
  split at h
  · rename_i f' x y
    cases hc : (Nat.beq x.size 0 && Nat.beq y.size 0) with
    | false => rw [hc] at h; cases h
    | true =>
      rw [hc] at h
      simp only [cond_true, Option.some.injEq] at h
      subst h
      rw [Bool.and_eq_true] at hc
      have h1 := Array.eq_empty_of_size_eq_zero (Nat.eq_of_beq_eq_true hc.1)
      have h2 := Array.eq_empty_of_size_eq_zero (Nat.eq_of_beq_eq_true hc.2)
      rw [(RAV_v.1 hv).1, h1, h2]
  · cases h

theorem rdP_run (hR : Rel X σ ι a w) {t : Ty} {mu : Bool} {av : AV} {v : Value} {k : t.T → Nat → List Nat → Pg α} {r : α × St} (h : (rdP t mu av k).run σ = some r) (hv : RAV ι av v) :
    ∃ x id u b fr F l ro, PtrR w t x v b fr F ∧ UOk σ ι u F ∧ ι id = .blk b ∧ σ.H id = .cells l ro ∧ (mu = true → ro = false ∧ fr = (0, 0)) ∧ (k x id u).run σ = some r := by
  unfold rdP at h
  split at h
  · rename_i id hid
    obtain ⟨b, e, rfl⟩ := asPtr_run hid hv
    replace h := getB_run h
    split at h
    · rename_i l ro hb
      cases hm : (mu && ro) with
      | true => rw [hm] at h; cases h
      | false =>
        rw [hm] at h
        simp only [cond_false] at h
        have hbl := hR.bl id
        rw [hb] at hbl
        obtain ⟨b', arr, el, fr, h1, h2, h3, h4⟩ := hbl
        rw [e] at h1
        cases h1
        obtain ⟨x, rest, u, vs1, vs2, F, hvs, hrest, hre, hu, h⟩ := rdT_run hR h h4
        split at h
        · cases vs2 with
          | cons _ _ => exact hrest.elim
          | nil =>
            rw [List.append_nil] at hvs
            refine ⟨x, id, u, b, fr, F, l, ro, ⟨arr, el, rfl, h2, by rw [hvs]; exact hre⟩, hu, e, hb, fun hmu => ?_, h⟩
            subst hmu
            have : ro = false := by simpa using hm
            exact ⟨this, h3 this⟩
        · cases h
    · cases h
  · cases h

theorem UOk.cells {id b : Nat} {l : List Sc} {ro : Bool} {u F : List Nat} (e : ι id = .blk b) (hb : σ.H id = .cells l ro) (h : UOk σ ι u F) : UOk σ ι (id :: u) (b :: F) := by
  intro k hk
  rcases List.mem_cons.1 hk with rfl | hk
  · exact ⟨id, by simp, by rw [e]; simp [Home.foot], by rw [hb]; rfl, by rw [hb]; intro q hq; simp [Blk.par] at hq, by rw [hb]; simp [Blk.par]⟩
  · exact h.mono (fun i hi => List.mem_cons_of_mem _ hi) k hk

theorem rdCaps_run (hR : Rel X σ ι a w) : ∀ {caps : List (Ty × CK)} {ls : List (List Sc × Bool)} {vs : List Value} {k : CapT caps → List Nat → Pg α} {r : α × St}, (rdCaps caps ls k).run σ = some r → F2 (RVs ι) ls vs →
    ∃ x u U, CapsR w caps x vs U ∧ UOk σ ι u U ∧ (k x u).run σ = some r
  | [], [], [], k, r, h, _ => ⟨(), [], [], ⟨rfl, rfl⟩, UOk.nil, h⟩
  | [], _ :: _, _, k, r, h, _ => by simp only [rdCaps] at h; cases h
  | (t, c) :: cs, [], _, k, r, h, _ => by cases c <;> (simp only [rdCaps] at h; cases h)
  | (t, .sc) :: cs, p :: ls, v :: vs, k, r, h, hv => by
    simp only [rdCaps] at h
    obtain ⟨x, u, F, hx, hu, h⟩ := rdV_run hR h (v := v) hv.1
    obtain ⟨y, u', U', hc, hu', h⟩ := rdCaps_run hR h hv.2
    exact ⟨(x, y), u ++ u', F ++ U', ⟨v, vs, F, U', rfl, rfl, hx, hc⟩, hu.append hu', h⟩
  | (t, .ag) :: cs, p :: ls, v :: vs, k, r, h, hv => by
    simp only [rdCaps] at h
    obtain ⟨x, u, F, hx, hu, h⟩ := rdV_run hR h (v := v) hv.1
    obtain ⟨y, u', U', hc, hu', h⟩ := rdCaps_run hR h hv.2
    exact ⟨(x, y), u ++ u', F ++ U', ⟨v, vs, F, U', rfl, rfl, hx, hc⟩, hu.append hu', h⟩
  | (t, .pr) :: cs, p :: ls, v :: vs, k, r, h, hv => by
    simp only [rdCaps] at h
    obtain ⟨x, id, u, b, fr, F, l, ro, hp, hu, e, hb, _, h⟩ := rdP_run hR h (v := v) hv.1
    obtain ⟨y, u', U', hc, hu', h⟩ := rdCaps_run hR h hv.2
    exact ⟨(x, y), id :: (u ++ u'), b :: (F ++ U'), ⟨v, vs, b, fr, F, U', rfl, rfl, hp, hc⟩, (hu.append hu').cells e hb, h⟩
  | [], [], _ :: _, k, r, h, hv => hv.elim
  | (t, c) :: cs, _ :: _, [], k, r, h, hv => hv.elim

/-- what is one's own at some ids -/
structure Outs (σ : St) (ι : Nat → Home) (i O : List Nat) : Prop where
  ex : ∀ id ∈ i, (σ.H id).excl = true
  ft : O = i.flatMap fun id => (ι id).foot

theorem Outs.nil : Outs σ ι [] [] := ⟨by simp, rfl⟩
theorem Outs.append {i i' O O' : List Nat} (h : Outs σ ι i O) (h' : Outs σ ι i' O') : Outs σ ι (i ++ i') (O ++ O') :=
  ⟨fun id hi => by rcases List.mem_append.1 hi with hi | hi; exact h.ex id hi; exact h'.ex id hi, by rw [List.flatMap_append, ← h.ft, ← h'.ft]⟩
theorem Less.outs {σ σ1 : St} (h : Less σ σ1) {i O : List Nat} (ho : Outs σ1 ι i O) : Outs σ ι i O := ⟨fun id hi => h.excl (ho.ex id hi), ho.ft⟩

theorem rdRow_run (hR : Rel X σ ι a w) {t : Ty} {id : Nat} {k : List t.T → Pg α} {r : α × St} (h : (rdRow t id k).run σ = some r) {A : Option Addr} {n c : Nat} {F : List Nat} (e : ι id = .row A n c F) :
    ∃ x, (σ.H id).excl = true ∧ RR true w t x A n c F ∧ (k x).run σ = some r := by
  replace h := getB_run h
  split at h
  · rename_i t' y ver hb
    split at h
    · rename_i y' hy
      exact ⟨_, by rw [hb]; rfl, castL_some hy (row_of hR hb (chk_none rfl) e), h⟩
    · cases h
  · rename_i t' y y2 ver hb
    split at h
    · rename_i y' hy
      obtain ⟨hn, hrr⟩ := win_of hR hb (chk_none rfl) e
      exact ⟨_, by rw [hb]; rfl, castL_some hy (RR_pre hn hrr), h⟩
    · cases h
  · cases h

theorem excl_ne {b : Blk} (h : b.excl = true) : b ≠ .unborn := by rintro rfl; cases h

structure OutsL (σ : St) (ι : Nat → Home) (i : List Nat) (O : List (List Nat)) : Prop where
  ex : ∀ id ∈ i, (σ.H id).excl = true
  ft : O = i.map fun id => (ι id).foot
theorem OutsL.nil : OutsL σ ι [] [] := ⟨by simp, rfl⟩
theorem OutsL.append {i i' : List Nat} {O O' : List (List Nat)} (h : OutsL σ ι i O) (h' : OutsL σ ι i' O') : OutsL σ ι (i ++ i') (O ++ O') :=
  ⟨fun id hi => by rcases List.mem_append.1 hi with hi | hi; exact h.ex id hi; exact h'.ex id hi, by rw [List.map_append, ← h.ft, ← h'.ft]⟩
theorem Less.outsL {σ σ1 : St} (h : Less σ σ1) {i : List Nat} {O : List (List Nat)} (ho : OutsL σ1 ι i O) : OutsL σ ι i O := ⟨fun id hi => h.excl (ho.ex id hi), ho.ft⟩

/-- the ids of what is told behind stand for the arguments -/
def Align (ι : Nat → Home) : List BTy → List Value → List Nat → Prop
  | [], _, i => i = []
  | .ptr _ true :: ps, vs, i => ∃ v us id is b, vs = v :: us ∧ i = id :: is ∧ ι id = .blk b ∧ v = .pointer (some ⟨b, 0, none⟩) ∧ Align ι ps us is
  | .own _ :: ps, vs, i => ∃ v us id is A n c F, vs = v :: us ∧ i = id :: is ∧ ι id = .row A n c F ∧ v = .slice A n c ∧ Align ι ps us is
  | .ptr _ false :: ps, vs, i => ∃ v us, vs = v :: us ∧ Align ι ps us i
  | .val _ _ :: ps, vs, i => ∃ v us, vs = v :: us ∧ Align ι ps us i
  | .eat _ :: ps, vs, i => ∃ v us, vs = v :: us ∧ Align ι ps us i
  | .fn _ _ :: ps, vs, i => ∃ v us, vs = v :: us ∧ Align ι ps us i
  | .lit _ :: ps, vs, i => ∃ v us, vs = v :: us ∧ Align ι ps us i
  | .box _ _ :: ps, vs, i => ∃ v us, vs = v :: us ∧ Align ι ps us i
  | .gob _ _ :: ps, vs, i => ∃ v us, vs = v :: us ∧ Align ι ps us i

theorem rdArg_run {b : BTy} {σ : St} {av : AV} {v : Value} {G : List Nat} {k : b.T → List Nat → List Nat → List Nat → Pg α} {r : α × St} (hR : Rel X σ ι a w) (hF : Free X σ ι w G) (h : (rdArg b av k).run σ = some r) (hv : RAV ι av v) :
    ∃ x u e i U E O σ1, ArgR w b x v U E O ∧ UOk σ ι u U ∧ Outs σ ι e E ∧ OutsL σ ι i O ∧ Less σ σ1 ∧ Rel X σ1 ι a w ∧ Free X σ1 ι w (G ++ E) ∧ (∀ id, id ∉ e → σ1.H id = σ.H id) ∧ (∀ ps us is, Align ι ps us is → Align ι (b :: ps) (v :: us) (i ++ is)) ∧ (k x u e i).run σ1 = some r := by
  cases b with
  | val t g =>
    obtain ⟨x, u, F, hx, hu, h⟩ := rdV_run hR h hv
    exact ⟨x, u, [], [], F, [], [], σ, ⟨rfl, rfl, hx⟩, hu, .nil, .nil, .refl _, hR, by simpa using hF, (fun _ _ => rfl), fun ps us is ha => ⟨_, us, rfl, ha⟩, h⟩
  | ptr t mu =>
    cases mu with
    | true =>
      obtain ⟨x, id, u, b, fr, F, l, ro, hp, hu, e, hb, hm, h⟩ := rdP_run hR h hv
      obtain ⟨rfl, rfl⟩ := hm rfl
      exact ⟨x, u, [], [id], F, [], [[b]], σ, ⟨rfl, b, rfl, hp⟩, hu, .nil, ⟨by simp [hb, Blk.excl], by simp [e, Home.foot]⟩, .refl _, hR, by simpa using hF, (fun _ _ => rfl), fun ps us is ha => ⟨_, us, id, is, b, rfl, rfl, e, (by obtain ⟨_, _, hpv, _⟩ := hp; exact hpv), ha⟩, h⟩
    | false =>
      obtain ⟨x, id, u, b, fr, F, l, ro, hp, hu, e, hb, hm, h⟩ := rdP_run hR h hv
      exact ⟨x, id :: u, [], [], b :: F, [], [], σ, ⟨rfl, rfl, b, fr, F, rfl, hp⟩, hu.cells e hb, .nil, .nil, .refl _, hR, by simpa using hF, (fun _ _ => rfl), fun ps us is ha => ⟨_, us, rfl, ha⟩, h⟩
  | own t =>
    simp only [rdArg] at h
    split at h
    · rename_i id hid
      obtain ⟨A, n, c, F, e, rfl⟩ := asSl_run hid hv
      obtain ⟨x, hb, hrr, h⟩ := rdRow_run hR h e
      exact ⟨x, [], [], [id], [], [], [F], σ, ⟨rfl, rfl, A, n, c, F, rfl, rfl, hrr⟩, .nil, .nil, ⟨by simp [hb], by simp [e, Home.foot]⟩, .refl _, hR, by simpa using hF, (fun _ _ => rfl), fun ps us is ha => ⟨_, us, id, is, A, n, c, F, rfl, rfl, e, rfl, ha⟩, h⟩
    · cases h
  | eat t =>
    simp only [rdArg] at h
    cases hn : asNil av with
    | true =>
      rw [hn] at h
      have := asNil_run hn hv
      subst this
      exact ⟨[], [], [], [], [], [], [], σ, ⟨rfl, rfl, none, 0, 0, rfl, rfl, Nat.le_refl _, .inl ⟨rfl, rfl, fun _ => rfl⟩⟩, .nil, .nil, .nil, .refl _, hR, by simpa using hF, (fun _ _ => rfl), fun ps us is ha => ⟨_, us, rfl, ha⟩, h⟩
    | false =>
      rw [hn] at h
      simp only [cond_false] at h
      split at h
      · rename_i id hid
        obtain ⟨A, n, c, F, e, rfl⟩ := asSl_run hid hv
        obtain ⟨x, hb, hrr, h⟩ := rdRow_run hR h e
        have hg := hF.give hR (id := id) hb
        rw [e] at hg
        exact ⟨x, [], [id], [], [], F, [], _, ⟨rfl, rfl, A, n, c, rfl, hrr⟩, .nil, ⟨by simp [hb], by simp [e, Home.foot]⟩, .nil, .kill (excl_ne hb), hR.kill (excl_ne hb), hg, (fun j hj => setH_ne σ _ (by simpa using hj)), fun ps us is ha => ⟨_, us, rfl, ha⟩, h⟩
      · cases h
  | fn f caps =>
    simp only [rdArg] at h
    split at h
    · rename_i f' id hf
      obtain ⟨vs, e, rfl⟩ := asFn_run hf hv
      cases hff : Nat.beq f f' with
      | false => rw [hff] at h; cases h
      | true =>
        rw [hff] at h
        simp only [cond_true] at h
        have hff := Nat.eq_of_beq_eq_true hff
        replace h := getB_run h
        split at h
        · rename_i l hb
          have hbl := hR.bl id
          rw [hb, e] at hbl
          obtain ⟨vs', h1, h2⟩ := hbl
          cases h1
          obtain ⟨x, u, U, hc, hu, h⟩ := rdCaps_run hR h h2
          exact ⟨x, u, [], [], U, [], [], σ, ⟨rfl, rfl, vs, by rw [hff], hc⟩, hu, .nil, .nil, .refl _, hR, by simpa using hF, (fun _ _ => rfl), fun ps us is ha => ⟨_, us, rfl, ha⟩, h⟩
        · cases h
    · split at h
      · rename_i f' hf
        have hv' := asFn0_run hf hv
        cases hff : Nat.beq f f' with
        | false => rw [hff] at h; cases h
        | true =>
          rw [hff] at h
          simp only [cond_true] at h
          have hff := Nat.eq_of_beq_eq_true hff
          obtain ⟨x, u, U, hc, hu, h⟩ := rdCaps_run (vs := []) hR h trivial
          exact ⟨x, u, [], [], U, [], [], σ, ⟨rfl, rfl, #[], by rw [hff]; exact hv', hc⟩, hu, .nil, .nil, .refl _, hR, by simpa using hF, (fun _ _ => rfl), fun ps us is ha => ⟨_, us, rfl, ha⟩, h⟩
      · cases h
  | lit l =>
    simp only [rdArg] at h
    split at h
    · cases hn : asNil av with
      | false => rw [hn] at h; cases h
      | true =>
        rw [hn] at h
        have := asNil_run hn hv
        exact ⟨(), [], [], [], [], [], [], σ, ⟨this, rfl, rfl, rfl⟩, .nil, .nil, .nil, .refl _, hR, by simpa using hF, (fun _ _ => rfl), fun ps us is ha => ⟨_, us, rfl, ha⟩, h⟩
    · cases h
  | box t own => simp only [rdArg] at h; cases h
  | gob t g =>
    simp only [rdArg] at h
    split at h
    · rename_i l g'
      cases hg : (g == g') with
      | false => rw [hg] at h; cases h
      | true =>
        rw [hg] at h
        simp only [cond_true] at h
        have hg : g = g' := by simpa using hg
        subst hg
        obtain ⟨x, rest, e, σ1, vs1, vs2, F, hvs, hrest, hre, hR1, hF1, hgone, hless, hsame, h⟩ := rdG_run hR hF h (RVs_list hv)
        split at h
        · cases vs2 with
          | cons _ _ => exact hrest.elim
          | nil =>
            rw [List.append_nil] at hvs
            refine ⟨x, [], e, [], [], F, [], σ1, ⟨rfl, rfl, by rw [hvs]; exact hre, fun hg => ?_⟩, .nil, ⟨hgone.ex, hgone.ft⟩, .nil, hless, hR1, hF1, hsame, fun ps us is ha => ⟨_, us, rfl, ha⟩, h⟩
            subst hg
            obtain ⟨ws, hws, _⟩ := hv
            exact ⟨ws, hws⟩
        · cases h
    · cases h
end
end Go.Ev
