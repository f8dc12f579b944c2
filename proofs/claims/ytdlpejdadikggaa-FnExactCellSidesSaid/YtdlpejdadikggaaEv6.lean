/- A part of a verified evaluator of the model's code: what it evaluates is what a call returns; no condition beyond the theorems' own hypotheses. -/
import Derived.Test.YtdlpejdadikggaaEv5
set_option linter.unusedVariables false
namespace Go.Ev
open Go

section
variable {X : Ctx} {σ : St} {ι : Nat → Home} {a : Act} {w : World} {α : Type}

theorem F2_plain {ι : Nat → Home} : ∀ {l : List Value}, l.all (·.oneCell') = true → F2 (RSc ι) (l.map .v) l
  | [], _ => trivial
  | x :: l, h => by
    simp at h
    exact ⟨⟨rfl, h.1⟩, F2_plain (by simpa using h.2)⟩

theorem opnd_run (hR : Rel X σ ι a w) {x : Operand} {k : AV → Pg α} {r : α × St} (h : (opnd x k).run σ = some r) :
    ∃ av, RAV ι av (a.eval x) ∧ (k av).run σ = some r := by
  unfold opnd at h
  cases x with
  | tmp t => exact ⟨σ.T t, hR.tm t, h⟩
  | const v =>
    cases v with
    | agg cs =>
      simp only at h
      cases hc : cs.toList.all (·.oneCell') with
      | false => rw [hc] at h; cases h
      | true =>
        rw [hc] at h
        refine ⟨_, ?_, h⟩
        exact ⟨cs, rfl, F2_plain hc⟩
    | tuple vs => cases h
    | _ => exact ⟨_, RAV_v.2 ⟨rfl, rfl⟩, h⟩
  | global g => exact ⟨_, RAV_v.2 ⟨rfl, rfl⟩, h⟩
  | func f => exact ⟨_, RAV_v.2 ⟨rfl, rfl⟩, h⟩

theorem opnds_run (hR : Rel X σ ι a w) {r : α × St} : ∀ {l : List Operand} {k : List AV → Pg α}, (opnds l k).run σ = some r →
    ∃ avs, F2 (RAV ι) avs (l.map a.eval) ∧ (k avs).run σ = some r
  | [], k, h => ⟨[], trivial, h⟩
  | x :: l, k, h => by
    obtain ⟨av, h1, h⟩ := opnd_run hR h
    obtain ⟨avs, h2, h⟩ := opnds_run hR h
    exact ⟨av :: avs, ⟨h1, h2⟩, h⟩

theorem putD_run (hR : Rel X σ ι a w) {dst : Option Tmp} {v : AV} {u : Value} {k : Pg α} {r : α × St} (hv : RAV ι v u)
    (h : (putD X.C dst v k).run σ = some r) : ∃ σ1, Rel X σ1 ι (a.put dst u) w ∧ k.run σ1 = some r := by
  unfold putD at h
  cases dst with
  | none => exact ⟨σ, hR, h⟩
  | some d =>
    simp only at h
    cases hd : Nat.ble X.C.ntmps d with
    | true => rw [hd] at h; cases h
    | false =>
      rw [hd] at h
      have hlt : d < X.C.ntmps := by
        have h1 : ¬ X.C.ntmps ≤ d := fun hle => by rw [Nat.ble_eq_true_of_le hle] at hd; cases hd
        exact Nat.lt_of_not_le h1
      exact ⟨_, hR.put hlt hv, h⟩

/-- what is left to show of an operation -/
def Done (X : Ctx) (o : Oper) (σ' : St) (a : Act) (w : World) : Prop :=
  ∀ (K : Act → World → Prop) (Q : Exit → Act → World → Prop), (∀ ι' a' w', Rel X σ' ι' a' w' → K a' w') → o.upon X.C.P a K Q ((execOp a.eval o).run X.C.P w)

theorem Done.value {o : Oper} {σ' : St} {v : Value} {w' : World} {ι' : Nat → Home} (h : (execOp a.eval o).run X.C.P w = .ok (.value v) w') (hR : Rel X σ' ι' (a.put o.dst v) w') : Done X o σ' a w := by
  intro K Q hK
  rw [h]
  exact hK _ _ _ hR

theorem Done.skip {o : Oper} {σ' : St} {w' : World} {ι' : Nat → Home} (h : (execOp a.eval o).run X.C.P w = .ok .skip w') (hR : Rel X σ' ι' (a.put o.dst undef) w') : Done X o σ' a w := by
  intro K Q hK
  rw [h]
  exact hK _ _ _ hR

/-- the usual end of an operation -/
theorem Done.put {o : Oper} {σ1 σ' : St} {v : AV} {u : Value} {w' : World} {ι' : Nat → Home} (hR : Rel X σ1 ι' a w') (hv : RAV ι' v u)
    (he : (execOp a.eval o).run X.C.P w = .ok (.value u) w') (h : (putD X.C o.dst v (.ret ())).run σ1 = some ((), σ')) : Done X o σ' a w := by
  obtain ⟨σ2, hR2, h⟩ := putD_run hR hv h
  simp [Pg.run] at h
  subst h
  exact Done.value he hR2

def upd (ι : Nat → Home) (id : Nat) (h : Home) : Nat → Home := fun j => if j = id then h else ι j

theorem beq_false {i j : Nat} (h : i ≠ j) : Nat.beq i j = false := by rw [Bool.eq_false_iff]; intro hb; exact h (Nat.eq_of_beq_eq_true hb)
theorem setH_same (σ : St) (id : Nat) (b : Blk) : (σ.setH id b).H id = b := by simp [St.setH, Nat.beq_refl]
theorem setH_ne (σ : St) {id j : Nat} (b : Blk) (h : j ≠ id) : (σ.setH id b).H j = σ.H j := by simp [St.setH, beq_false h]
theorem upd_same (ι : Nat → Home) (id : Nat) (h : Home) : upd ι id h id = h := by simp [upd]
theorem upd_ne (ι : Nat → Home) {id j : Nat} (h : Home) (e : j ≠ id) : upd ι id h j = ι j := by simp [upd, e]

theorem Rel.unborn (hR : Rel X σ ι a w) {id : Nat} (h : σ.H id = .unborn) : ι id = .none := by
  have := hR.bl id
  rw [h] at this
  exact this

theorem Rel.newId (hR : Rel X σ ι a w) {id : Nat} (hu : σ.H id = .unborn) {blk : Blk} {home : Home} {w' : World}
    (hsz : WLe w w') (hw : ∀ b, b < w.heap.size → w'.heap[b]? = w.heap[b]?)
    (hb : ParOk σ.H blk.par → RBlk σ.H w' ι blk home) (hb' : blk.par ≠ [] → ∀ H w ι', Lift ι ι' → (ParOk H blk.par → False) → RBlk H w ι' blk home)
    (hlt : blk.live = true → ∀ b ∈ home.foot, b < w'.heap.size)
    (hex : blk.excl = true → home.foot.Nodup ∧ (∀ b ∈ home.foot, w.heap.size ≤ b) ∧ blk.par = [])
    (hs2 : ∀ i, (σ.H i).excl = true → blk.live = true → ParOk σ.H blk.par → i ∉ blk.par.map (·.1) → ∀ b ∈ (ι i).foot, b ∉ home.foot)
    (hpb : ∀ q ∈ blk.par, σ.H q.1 ≠ .unborn)
    (hpv : ∀ q ∈ blk.par, ∀ v, (σ.H q.1).ver? = some v → q.2 ≤ v)
    (hnb : blk ≠ .unborn) :
    Rel X (σ.setH id blk) (upd ι id home) a w' := by
  have hn : ι id = .none := hR.unborn hu
  have hL : Lift ι (upd ι id home) := fun j hj => upd_ne ι home (fun e => hj (e ▸ hn))
  have hne : ∀ j, ∀ q ∈ (σ.H j).par, q.1 ≠ id := fun j q hq e => hR.pb j q hq (e ▸ hu)
  have hne' : ∀ q ∈ blk.par, q.1 ≠ id := fun q hq e => hpb q hq (e ▸ hu)
  have hP : ∀ par : List (Nat × Nat), (∀ q ∈ par, q.1 ≠ id) → (ParOk (σ.setH id blk).H par ↔ ParOk σ.H par) := by
    intro par hp
    constructor
    · intro h q hq; have := h q hq; rwa [setH_ne σ blk (hp q hq)] at this
    · intro h q hq; rw [setH_ne σ blk (hp q hq)]; exact h q hq
  refine hR.change (D := fun _ => False) (N := fun j => j = id) rfl hL hsz (fun b hb _ => hw b hb) (fun b hb => hb.elim) (fun j hj => ⟨setH_ne σ blk hj, upd_ne ι home hj⟩)
    (fun _ _ _ _ _ _ h => h) (fun j hj h => (hP _ (hne j)).1 h) ?_ ?_ ?_ ?_ ?_ ?_
  · rintro j rfl
    rw [setH_same, upd_same]
    refine ⟨?_, hlt, fun he => ⟨(hex he).1, fun b hb => .inl (Nat.le_trans hR.le.le ((hex he).2.1 b hb)), (hex he).2.2⟩⟩
    by_cases hp : ParOk σ.H blk.par
    · exact RBlk_lift hL (fun _ => hp) (fun _ _ _ _ => rfl) (hb hp)
    · by_cases hnil : blk.par = []
      · exact absurd (by rw [hnil]; intro q hq; simp at hq) hp
      · exact hb' hnil _ _ _ hL (fun h => hp ((hP _ hne').1 h))
  · rintro i j rfl hj hi hl hp hr b hb hb2
    rw [setH_same] at hi
    rw [upd_same] at hb
    have h1 := (hex hi).2.1 b hb
    have h2 := hR.lt j hl b hb2
    omega
  · rintro i j hi rfl he hl hp hr
    rw [setH_same] at hl hp hr
    rw [upd_same]
    exact hs2 i he hl ((hP _ hne').1 hp) hr
  · rintro i j hij rfl rfl
    exact absurd rfl hij
  · intro j q hq
    by_cases hj : j = id
    · subst hj
      rw [setH_same] at hq
      rw [setH_ne σ blk (hne' q hq)]
      exact hpb q hq
    · rw [setH_ne σ blk hj] at hq
      rw [setH_ne σ blk (hne j q hq)]
      exact hR.pb j q hq
  · intro j q hq
    by_cases hj : j = id
    · subst hj
      rw [setH_same] at hq
      rw [setH_ne σ blk (hne' q hq)]
      exact hpv q hq
    · rw [setH_ne σ blk hj] at hq
      rw [setH_ne σ blk (hne j q hq)]
      exact hR.pv j q hq

/-- a new id for what is one's own and stands in new blocks -/
theorem Rel.newOwn (hR : Rel X σ ι a w) {id : Nat} (hu : σ.H id = .unborn) {blk : Blk} {home : Home} {w' : World}
    (hsz : WLe w w') (hw : ∀ b, b < w.heap.size → w'.heap[b]? = w.heap[b]?)
    (hb : RBlk σ.H w' ι blk home) (hp : blk.par = []) (hlt : ∀ b ∈ home.foot, b < w'.heap.size) (hnd : home.foot.Nodup) (hfr : ∀ b ∈ home.foot, w.heap.size ≤ b) (hnb : blk ≠ .unborn) :
    Rel X (σ.setH id blk) (upd ι id home) a w' := by
  refine hR.newId hu hsz hw (fun _ => hb) (fun h => absurd hp h) (fun _ => hlt) (fun _ => ⟨hnd, hfr, hp⟩) ?_ ?_ ?_ hnb
  · intro i he _ _ _ b hb1 hb2
    have h1 := hfr b hb2
    have h2 := hR.lt i (by cases hi : σ.H i <;> simp_all [Blk.excl, Blk.live]) b hb1
    omega
  · rw [hp]; simp
  · rw [hp]; simp

theorem push_lt {w : World} {o : Obj} {b : Nat} (h : b < w.heap.size) : ({ w with heap := w.heap.push o } : World).heap[b]? = w.heap[b]? := by
  simp [Array.getElem?_push, Nat.ne_of_lt h]

theorem Rel.newCells (hR : Rel X σ ι a w) {id : Nat} (hu : σ.H id = .unborn) {l : List Sc} {arr : Array Value} {e : TypeId} (hl : F2 (RSc ι) l arr.toList) :
    Rel X (σ.setH id (.cells l false)) (upd ι id (.blk w.heap.size)) a { w with heap := w.heap.push (.cells arr e) } := by
  refine hR.newOwn hu ⟨by simp, rfl, rfl, rfl⟩ (fun b hb => push_lt hb) ⟨w.heap.size, arr, e, (0, 0), rfl, by simp, fun _ => rfl, hl⟩ rfl (by simp [Home.foot]) (by simp [Home.foot]) (by simp [Home.foot]) (by simp)

theorem newB_run {id : Nat} {b : Blk} {k : Pg α} {r : α × St} (h : (newB id b k).run σ = some r) : σ.H id = .unborn ∧ k.run (σ.setH id b) = some r := by
  simp only [newB, Pg.run] at h
  cases hb : σ.H id <;> rw [hb] at h <;> first | exact ⟨rfl, h⟩ | cases h

theorem getB_run {id : Nat} {k : Blk → Pg α} {r : α × St} (h : (Pg.getB id k).run σ = some r) : (k (σ.H id)).run σ = some r := h

theorem F2_all {l : List Value} {ι : Nat → Home} : F2 (RSc ι) (l.map .v) l → l.all (·.oneCell') = true := by
  induction l with
  | nil => simp
  | cons x l ih => intro h; simp; exact ⟨h.1.2, by simpa using ih h.2⟩
end
end Go.Ev
