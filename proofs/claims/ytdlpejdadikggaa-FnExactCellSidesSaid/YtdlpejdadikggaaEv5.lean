/- A part of a verified evaluator of the model's code: what it evaluates is what a call returns; no condition beyond the theorems' own hypotheses. -/
import Derived.Test.YtdlpejdadikggaaEv4
set_option linter.unusedVariables false
namespace Go.Ev
open Go

/-! What it is for a machine's state to be told by an abstract one. -/
inductive Home where
  | none
  | blk (b : Nat)
  | row (A : Option Addr) (n c : Nat) (F : List Nat)
  | clo (vs : Array Value)

def Home.foot : Home → List Nat
  | .blk b => [b]
  | .row _ _ _ F => F
  | _ => []

def F2 {α β : Type} (R : α → β → Prop) : List α → List β → Prop
  | [], [] => True
  | a :: as, b :: bs => R a b ∧ F2 R as bs
  | _, _ => False

section
variable {α β : Type} {R R' : α → β → Prop}
theorem F2_len : ∀ {l : List α} {m : List β}, F2 R l m → l.length = m.length
  | [], [], _ => rfl
  | _ :: _, _ :: _, h => by simp [F2_len h.2]
theorem F2_mono (hR : ∀ a b, R a b → R' a b) : ∀ {l : List α} {m : List β}, F2 R l m → F2 R' l m
  | [], [], _ => trivial
  | _ :: _, _ :: _, h => ⟨hR _ _ h.1, F2_mono hR h.2⟩
theorem F2_get : ∀ {l : List α} {m : List β} {i : Nat} {a : α}, F2 R l m → l[i]? = some a → ∃ b, m[i]? = some b ∧ R a b
  | _ :: _, b :: _, 0, _, h, e => by simp at e; exact ⟨b, by simp, e ▸ h.1⟩
  | _ :: _, _ :: _, i + 1, _, h, e => by simp at e ⊢; exact F2_get h.2 e
theorem F2_append : ∀ {l l' : List α} {m m' : List β}, F2 R l m → F2 R l' m' → F2 R (l ++ l') (m ++ m')
  | [], _, [], _, _, h' => h'
  | _ :: _, _, _ :: _, _, h, h' => ⟨h.1, F2_append h.2 h'⟩
theorem F2_take : ∀ {l : List α} {m : List β} (n : Nat), F2 R l m → F2 R (l.take n) (m.take n)
  | _, _, 0, _ => by simp [F2]
  | [], [], _ + 1, _ => by simp [F2]
  | _ :: _, _ :: _, n + 1, h => by simp only [List.take_succ_cons]; exact ⟨h.1, F2_take n h.2⟩
theorem F2_drop : ∀ {l : List α} {m : List β} (n : Nat), F2 R l m → F2 R (l.drop n) (m.drop n)
  | _, _, 0, h => by simpa using h
  | [], [], _ + 1, _ => by simp [F2]
  | _ :: _, _ :: _, n + 1, h => by simp only [List.drop_succ_cons]; exact F2_drop n h.2
theorem F2_set : ∀ {l : List α} {m : List β} (n : Nat) {a : α} {b : β}, F2 R l m → R a b → F2 R (l.set n a) (m.set n b)
  | [], [], _, _, _, _, _ => by simp [F2]
  | _ :: _, _ :: _, 0, _, _, h, h' => ⟨h', h.2⟩
  | _ :: _, _ :: _, n + 1, _, _, h, h' => ⟨h.1, F2_set n h.2 h'⟩
theorem F2_split : ∀ {l l' : List α} {m : List β}, F2 R (l ++ l') m → ∃ m1 m2, m = m1 ++ m2 ∧ F2 R l m1 ∧ F2 R l' m2
  | [], _, m, h => ⟨[], m, rfl, trivial, h⟩
  | _ :: _, _, b :: _, h => by
    obtain ⟨m1, m2, rfl, h1, h2⟩ := F2_split h.2
    exact ⟨b :: m1, m2, rfl, ⟨h.1, h1⟩, h2⟩
end

def RSc (ι : Nat → Home) : Sc → Value → Prop
  | .top, _ => True
  | .und, v => v = undef
  | .v x, v => v = x ∧ x.oneCell' = true
  | .ptr id off, v => ∃ b, ι id = .blk b ∧ v = .pointer (some ⟨b, off, none⟩)
  | .elt id i j sz, v => ∃ b o n c F, ι id = .row (some ⟨b, o, none⟩) n c F ∧ i < n ∧ v = .pointer (some ⟨b, o + i * sz + j, none⟩)
  | .sl id, v => ∃ A n c F, ι id = .row A n c F ∧ v = .slice A n c
  | .fn f id, v => ∃ vs, ι id = .clo vs ∧ v = .func (.func f) #[] vs

def RVs (ι : Nat → Home) (p : List Sc × Bool) (v : Value) : Prop :=
  if p.2 = true then ∃ vs, v = .agg vs ∧ F2 (RSc ι) p.1 vs.toList else ∃ c, p.1 = [c] ∧ RSc ι c v

def RAV (ι : Nat → Home) : AV → Value → Prop
  | .one l g, v => RVs ι (l, g) v
  | .tup l, v => ∃ vs, v = .tuple vs ∧ F2 (RVs ι) l vs.toList

theorem RAV_sc {ι c v} : RAV ι (.sc c) v ↔ RSc ι c v := by
  simp [RAV, RVs]
theorem RAV_top {ι v} : RAV ι (.sc .top) v := by simp [RAV, RVs, RSc]
theorem RAV_v {ι x v} : RAV ι (.sc (.v x)) v ↔ v = x ∧ x.oneCell' = true := by simp [RAV, RVs, RSc]

def Lift (ι ι' : Nat → Home) : Prop := ∀ id, ι id ≠ .none → ι' id = ι id

theorem Lift.eq {ι ι' : Nat → Home} (h : Lift ι ι') {id : Nat} {x : Home} (e : ι id = x) (hx : x ≠ .none) : ι' id = x := by rw [h id (e ▸ hx), e]

theorem RSc_lift {ι ι' : Nat → Home} (h : Lift ι ι') {c v} (hc : RSc ι c v) : RSc ι' c v := by
  cases c with
  | top => trivial
  | und => exact hc
  | v x => exact hc
  | ptr id off => obtain ⟨b, e, r⟩ := hc; exact ⟨b, h.eq e (by simp), r⟩
  | elt id i j sz => obtain ⟨b, o, n, c, F, e, r⟩ := hc; exact ⟨b, o, n, c, F, h.eq e (by simp), r⟩
  | sl id => obtain ⟨A, n, c, F, e, r⟩ := hc; exact ⟨A, n, c, F, h.eq e (by simp), r⟩
  | fn f id => obtain ⟨vs, e, r⟩ := hc; exact ⟨vs, h.eq e (by simp), r⟩

theorem RVs_lift {ι ι' : Nat → Home} (h : Lift ι ι') {p v} (hc : RVs ι p v) : RVs ι' p v := by
  unfold RVs at *
  split at hc
  · rename_i hp
    rw [if_pos hp]
    obtain ⟨vs, e, r⟩ := hc
    exact ⟨vs, e, F2_mono (fun _ _ => RSc_lift h) r⟩
  · rename_i hp
    rw [if_neg hp]
    obtain ⟨c, e, r⟩ := hc
    exact ⟨c, e, RSc_lift h r⟩

theorem RAV_lift {ι ι' : Nat → Home} (h : Lift ι ι') {p v} (hc : RAV ι p v) : RAV ι' p v := by
  cases p with
  | one l g => exact RVs_lift h hc
  | tup l => obtain ⟨vs, e, r⟩ := hc; exact ⟨vs, e, F2_mono (fun _ _ => RVs_lift h) r⟩

theorem RSc_one {ι c v} (h : RSc ι c v) (hc : notTop [c] = true) : v.oneCell' = true := by
  cases c with
  | top => simp [notTop] at hc
  | und => simp [notTop] at hc
  | v x => obtain ⟨rfl, h⟩ := h; exact h
  | ptr id off => obtain ⟨b, e, rfl⟩ := h; rfl
  | elt id i j sz => obtain ⟨b, o, n, c, F, e, _, rfl⟩ := h; rfl
  | sl id => obtain ⟨A, n, c, F, e, rfl⟩ := h; rfl
  | fn f id => obtain ⟨vs, e, rfl⟩ := h; rfl

def Blk.par : Blk → List (Nat × Nat)
  | .row _ _ _ _ par => par
  | .idx _ _ _ _ pid ver => [(pid, ver)]
  | .win _ _ _ _ _ par => par
  | _ => []
def Blk.ver? : Blk → Option Nat
  | .row _ _ _ ver _ => some ver
  | .win _ _ _ _ ver _ => some ver
  | _ => none
def Blk.excl : Blk → Bool
  | .cells _ ro => !ro
  | .row _ _ own _ _ => own
  | .win _ _ _ own _ _ => own
  | _ => false
def Blk.live : Blk → Bool
  | .cells _ _ => true
  | .row _ _ _ _ _ => true
  | .idx _ _ _ _ _ _ => true
  | .win _ _ _ _ _ _ => true
  | _ => false

def ParOk (H : Nat → Blk) (par : List (Nat × Nat)) : Prop := ∀ q ∈ par, ∃ t x par', H q.1 = .row t x true q.2 par'

def RR (own : Bool) (w : World) (t : Ty) (x : List t.T) (A : Option Addr) (n c : Nat) (F : List Nat) : Prop := RowR own w t.size (RE own w t) x A n c F

/-- an element of a row of rows: the row that stands at it -/
def Link (w : World) (ι : Nat → Home) (t : Ty) (xs : List (List t.T)) (sid i : Nat) (A : Option Addr) (n c : Nat) (F : List Nat) : Prop :=
  ∃ (b o : Nat) (arr : Array Value) (e : TypeId) (Fs : List (List Nat)) (G : List Nat) (A' : Option Addr) (n' c' : Nat) (F' : List Nat), A = some ⟨b, o, none⟩ ∧ n = xs.length ∧ n ≤ c ∧ w.heap[b]? = some (.cells arr e (0, 0)) ∧ o + c * 1 ≤ arr.size ∧
    (F = b :: (Fs.flatten ++ G) ∧ ∀ k ∈ G, k < w.heap.size) ∧ Fs.length = xs.length ∧ (∀ j x Fj, xs[j]? = some x → Fs[j]? = some Fj → RE true w (.sl t) x ((arr.toList.drop (o + j * 1)).take 1) Fj) ∧
    (arr.toList.drop (o + i * 1)).take 1 = [.slice A' n' c'] ∧ Fs[i]? = some F' ∧ ι sid = .row A' n' c' F'

def RBlk (H : Nat → Blk) (w : World) (ι : Nat → Home) : Blk → Home → Prop
  | .unborn, h => h = .none
  | .dead, _ => True
  | .cells l ro, h => ∃ b arr e fr, h = .blk b ∧ w.heap[b]? = some (.cells arr e fr) ∧ (ro = false → fr = (0, 0)) ∧ F2 (RSc ι) l arr.toList
  | .row t x own _ par, h => ∃ A n c F, h = .row A n c F ∧ (ParOk H par → RR own w t x A n c F)
  | .clo l, h => ∃ vs, h = .clo vs ∧ F2 (RVs ι) l vs.toList
  | .win t x y own _ par, h => ∃ A n c F, h = .row A n c F ∧ n = x.length ∧ (ParOk H par → RR own w t (x ++ y) A (x ++ y).length c F)
  | .idx t xs sid i pid ver, h => ∃ A n c F, h = .row A n c F ∧ ι pid = h ∧ (ParOk H [(pid, ver)] → Link w ι t xs sid i A n c F)

/-- the world has gone on; nothing has been said, no block has gone -/
structure WLe (w w' : World) : Prop where
  le : w.heap.size ≤ w'.heap.size
  os : w'.os = w.os
  out : w'.output = w.output
  tape : w'.tape = w.tape

theorem WLe.refl (w : World) : WLe w w := ⟨Nat.le_refl _, rfl, rfl, rfl⟩
theorem WLe.trans {a b c : World} (h : WLe a b) (k : WLe b c) : WLe a c := ⟨Nat.le_trans h.le k.le, k.os.trans h.os, k.out.trans h.out, k.tape.trans h.tape⟩

structure Ctx where
  C : Cfg
  w0 : World
  O : List Nat
  pins : List (Nat × Home)

structure Rel (X : Ctx) (σ : St) (ι : Nat → Home) (a : Act) (w : World) : Prop where
  tm : ∀ i, RAV ι (σ.T i) (a.tmps.getD i undef)
  sz : a.tmps.size = X.C.ntmps
  df : a.defers = []
  bl : ∀ id, RBlk σ.H w ι (σ.H id) (ι id)
  lt : ∀ id, (σ.H id).live = true → ∀ b ∈ (ι id).foot, b < w.heap.size
  nd : ∀ id, (σ.H id).excl = true → (ι id).foot.Nodup
  sep : ∀ i j, i ≠ j → (σ.H i).excl = true → (σ.H j).live = true → ParOk σ.H (σ.H j).par → i ∉ (σ.H j).par.map (·.1) → ∀ b ∈ (ι i).foot, b ∉ (ι j).foot
  fr : ∀ b, b < X.w0.heap.size → b ∉ X.O → w.heap[b]? = X.w0.heap[b]?
  le : WLe X.w0 w
  mu : ∀ id, (σ.H id).excl = true → ∀ b ∈ (ι id).foot, X.w0.heap.size ≤ b ∨ b ∈ X.O
  pb : ∀ j, ∀ q ∈ (σ.H j).par, σ.H q.1 ≠ .unborn
  pv : ∀ j, ∀ q ∈ (σ.H j).par, ∀ v, (σ.H q.1).ver? = some v → q.2 ≤ v
  pn : ∀ q ∈ X.pins, ι q.1 = q.2 ∧ q.2 ≠ .none
  po : ∀ id, (σ.H id).excl = true → (σ.H id).par = []

theorem RR_frame {own w w' t x A n c F} (hw : ∀ b ∈ F, w'.heap[b]? = w.heap[b]?) (h : RR own w t x A n c F) : RR own w' t x A n c F :=
  RowR_mono id hw (fun x cs Fi hF h => RE_frame (fun b hb => hw b (hF b hb)) h) h

theorem RR_ro {own w t x A n c F} (h : RR own w t x A n c F) : RR false w t x A n c F :=
  RowR_mono (by simp) (fun _ _ => rfl) (fun x cs Fi hF h => RE_ro h) h

theorem Link_lift {w w' : World} {ι ι' : Nat → Home} {t : Ty} {xs : List (List t.T)} {sid i : Nat} {A : Option Addr} {n c : Nat} {F : List Nat} (hι : Lift ι ι') (hw : ∀ k ∈ F, w'.heap[k]? = w.heap[k]?) (h : Link w ι t xs sid i A n c F) : Link w' ι' t xs sid i A n c F := by
  obtain ⟨b, o, arr, e, Fs, G, A', n', c', F', h1, h2, h3, h4, h5, ⟨h6, h6'⟩, h7, h8, h9, h10, h11⟩ := h
  refine ⟨b, o, arr, e, Fs, G, A', n', c', F', h1, h2, h3, by rw [hw b (by rw [h6]; simp), h4], h5, ⟨h6, fun k hk => ?_⟩, h7, fun j x Fj hx hF => RE_frame (fun k hk => hw k ?_) (h8 j x Fj hx hF), h9, h10, hι.eq h11 (by simp)⟩
  · have h1 := hw k (by rw [h6]; simp [hk])
    have h2 := h6' k hk
    rw [Array.getElem?_eq_getElem h2] at h1
    exact (Array.getElem?_eq_some_iff.1 h1).1
  · rw [h6]
    exact List.mem_cons_of_mem _ (List.mem_append.2 (.inl (List.mem_flatten.2 ⟨Fj, List.mem_of_getElem? hF, hk⟩)))

theorem RBlk_lift {H H' : Nat → Blk} {w w' : World} {ι ι' : Nat → Home} {b : Blk} {h : Home} (hι : Lift ι ι') (hp : ParOk H' b.par → ParOk H b.par)
    (hw : b.live = true → ParOk H' b.par → ∀ k ∈ h.foot, w'.heap[k]? = w.heap[k]?) (hb : RBlk H w ι b h) : RBlk H' w' ι' b h := by
  cases b with
  | unborn => exact hb
  | dead => trivial
  | cells l ro =>
    obtain ⟨b, arr, e, fr, rfl, h1, h2, h3⟩ := hb
    exact ⟨b, arr, e, fr, rfl, by rw [hw rfl (by intro q hq; simp [Blk.par] at hq) b (by simp [Home.foot]), h1], h2, F2_mono (fun _ _ => RSc_lift hι) h3⟩
  | row t x own ver par =>
    obtain ⟨A, n, c, F, rfl, h1⟩ := hb
    exact ⟨A, n, c, F, rfl, fun hp' => RR_frame (hw rfl hp') (h1 (hp hp'))⟩
  | win t x y own ver par =>
    obtain ⟨A, n, c, F, rfl, hn, h1⟩ := hb
    exact ⟨A, n, c, F, rfl, hn, fun hp' => RR_frame (hw rfl hp') (h1 (hp hp'))⟩
  | clo l =>
    obtain ⟨vs, rfl, h1⟩ := hb
    exact ⟨vs, rfl, F2_mono (fun _ _ => RVs_lift hι) h1⟩
  | idx t xs sid i pid ver =>
    obtain ⟨A, n, c, F, rfl, h1, h2⟩ := hb
    exact ⟨A, n, c, F, rfl, hι.eq h1 (by simp), fun hp' => Link_lift hι (hw rfl hp') (h2 (hp hp'))⟩

/-- The general change of a state: the ids of N are told anew, the blocks of D have been written. -/
theorem Rel.change {X σ ι a w} (h : Rel X σ ι a w) {σ' : St} {ι' : Nat → Home} {w' : World} (D N : Nat → Prop)
    (hT : σ'.T = σ.T) (hι : Lift ι ι') (hsz : WLe w w') (hw : ∀ b, b < w.heap.size → ¬ D b → w'.heap[b]? = w.heap[b]?)
    (hDX : ∀ b, D b → b < X.w0.heap.size → b ∈ X.O)
    (hun : ∀ id, ¬ N id → σ'.H id = σ.H id ∧ ι' id = ι id)
    (hcl : ∀ id, ¬ N id → (σ.H id).live = true → ParOk σ'.H (σ.H id).par → ∀ b ∈ (ι id).foot, ¬ D b)
    (hpar : ∀ id, ¬ N id → ParOk σ'.H (σ.H id).par → ParOk σ.H (σ.H id).par)
    (hN : ∀ id, N id → RBlk σ'.H w' ι' (σ'.H id) (ι' id) ∧ ((σ'.H id).live = true → ∀ b ∈ (ι' id).foot, b < w'.heap.size) ∧
      ((σ'.H id).excl = true → (ι' id).foot.Nodup ∧ (∀ b ∈ (ι' id).foot, X.w0.heap.size ≤ b ∨ b ∈ X.O) ∧ (σ'.H id).par = []))
    (hs1 : ∀ i j, N i → ¬ N j → (σ'.H i).excl = true → (σ.H j).live = true → ParOk σ'.H (σ.H j).par → i ∉ (σ.H j).par.map (·.1) → ∀ b ∈ (ι' i).foot, b ∉ (ι j).foot)
    (hs2 : ∀ i j, ¬ N i → N j → (σ.H i).excl = true → (σ'.H j).live = true → ParOk σ'.H (σ'.H j).par → i ∉ (σ'.H j).par.map (·.1) → ∀ b ∈ (ι i).foot, b ∉ (ι' j).foot)
    (hs3 : ∀ i j, i ≠ j → N i → N j → (σ'.H i).excl = true → (σ'.H j).live = true → ParOk σ'.H (σ'.H j).par → i ∉ (σ'.H j).par.map (·.1) → ∀ b ∈ (ι' i).foot, b ∉ (ι' j).foot)
    (hpb : ∀ j, ∀ q ∈ (σ'.H j).par, σ'.H q.1 ≠ .unborn)
    (hpv : ∀ j, ∀ q ∈ (σ'.H j).par, ∀ v, (σ'.H q.1).ver? = some v → q.2 ≤ v) : Rel X σ' ι' a w' where
  tm i := by rw [hT]; exact RAV_lift hι (h.tm i)
  sz := h.sz
  df := h.df
  bl id := by
    by_cases hid : N id
    · exact (hN id hid).1
    · rw [(hun id hid).1, (hun id hid).2]
      exact RBlk_lift hι (hpar id hid) (fun hl hp k hk => hw k (h.lt id hl k hk) (hcl id hid hl hp k hk)) (h.bl id)
  lt id hl := by
    by_cases hid : N id
    · exact (hN id hid).2.1 hl
    · rw [(hun id hid).1] at hl
      rw [(hun id hid).2]
      exact fun b hb => Nat.lt_of_lt_of_le (h.lt id hl b hb) hsz.le
  nd id hl := by
    by_cases hid : N id
    · exact ((hN id hid).2.2 hl).1
    · rw [(hun id hid).1] at hl
      rw [(hun id hid).2]
      exact h.nd id hl
  sep i j hij hi hj hp hr := by
    by_cases hNi : N i <;> by_cases hNj : N j
    · exact hs3 i j hij hNi hNj hi hj hp hr
    · rw [(hun j hNj).1] at hj hp hr
      rw [(hun j hNj).2]
      exact hs1 i j hNi hNj hi hj hp hr
    · rw [(hun i hNi).1] at hi
      rw [(hun i hNi).2]
      exact hs2 i j hNi hNj hi hj hp hr
    · rw [(hun j hNj).1] at hj hp hr
      rw [(hun i hNi).1] at hi
      rw [(hun i hNi).2, (hun j hNj).2]
      exact h.sep i j hij hi hj (hpar j hNj hp) hr
  fr b hb hO := by
    rw [hw b (Nat.lt_of_lt_of_le hb h.le.le) (fun hD => hO (hDX b hD hb))]
    exact h.fr b hb hO
  le := h.le.trans hsz
  mu id hl := by
    by_cases hid : N id
    · exact ((hN id hid).2.2 hl).2.1
    · rw [(hun id hid).1] at hl
      rw [(hun id hid).2]
      exact h.mu id hl
  pb := hpb
  pv := hpv
  pn q hq := ⟨by rw [hι q.1 (by rw [(h.pn q hq).1]; exact (h.pn q hq).2)]; exact (h.pn q hq).1, (h.pn q hq).2⟩
  po id hl := by
    by_cases hid : N id
    · exact ((hN id hid).2.2 hl).2.2
    · rw [(hun id hid).1] at hl ⊢
      exact h.po id hl

theorem Rel.heap {X σ ι a w w'} (h : Rel X σ ι a w) (e : w'.heap = w.heap) (e1 : w'.os = w.os) (e2 : w'.output = w.output) (e3 : w'.tape = w.tape) : Rel X σ ι a w' where
  tm := h.tm
  sz := h.sz
  df := h.df
  bl id := RBlk_lift (fun _ _ => rfl) (fun x => x) (fun _ _ k _ => by rw [e]) (h.bl id)
  lt := by rw [e]; exact h.lt
  nd := h.nd
  sep := h.sep
  fr := by rw [e]; exact h.fr
  le := h.le.trans ⟨by rw [e]; exact Nat.le_refl _, e1, e2, e3⟩
  mu := h.mu
  pb := h.pb
  pv := h.pv
  pn := h.pn
  po := h.po

theorem Rel.put {X σ ι a w} (h : Rel X σ ι a w) {d : Nat} {v : AV} {u : Value} (hd : d < X.C.ntmps) (hv : RAV ι v u) :
    Rel X (σ.setT d v) ι (a.put (some d) u) w where
  tm i := by
    simp only [St.setT, Act.put]
    by_cases e : i = d
    · subst e
      have : i < a.tmps.size := by rw [h.sz]; exact hd
      simp [this, Array.getElem?_setIfInBounds]
      exact hv
    · have e1 : Nat.beq i d = false := by rw [Bool.eq_false_iff]; intro hb; exact e (Nat.eq_of_beq_eq_true hb)
      have e2 : d ≠ i := fun e' => e e'.symm
      rw [e1]
      simp only [cond_false]
      rw [Array.getD_eq_getD_getElem?, Array.getElem?_setIfInBounds_ne e2, ← Array.getD_eq_getD_getElem?]
      exact h.tm i
  sz := by simp [Act.put, h.sz]
  df := h.df
  bl := h.bl
  lt := h.lt
  nd := h.nd
  sep := h.sep
  fr := h.fr
  le := h.le
  mu := h.mu
  pb := h.pb
  pv := h.pv
  pn := h.pn
  po := h.po
end Go.Ev
