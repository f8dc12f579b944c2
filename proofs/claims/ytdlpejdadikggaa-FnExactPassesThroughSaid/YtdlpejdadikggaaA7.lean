/- What the plain functions of the laws compute, for all inputs within the sizes that the theorems name. -/
import Derived.Test.YtdlpejdadikggaaA2
set_option linter.unusedVariables false
namespace Go.Ev.G
open Go Go.Ev
set_option maxRecDepth 100000

/-! Reasons of a closed way, and how often it passes one. -/
theorem areReasons1_eq (x : Int) : impl_areReasons_1 x = some (!decide (0 ≤ x ∧ x ≤ 3)) := by
  unfold impl_areReasons_1
  rw [inside_eq]; rfl

theorem containsR_ev {xs : List Int} (hb : xs.length < lenB) : Evt (fun k _ => slices_ContainsFunc_int_int_impl_areReasons_1 k xs ()) (xs.any fun x => !decide (0 ≤ x ∧ x ≤ 3)) := by
  refine Evt.eq (f := fun k q => _) ?_ (fun k q => by rw [slices_ContainsFunc_int_int_impl_areReasons_1])
  have h := index_all (d0 := 0) (L := fun k n i => slices_IndexFunc_int_int_impl_areReasons_1_L26 k n xs () (xs.length : Int) i) (xs := xs) (p := fun _ x => impl_areReasons_1 x) (P := fun x => !decide (0 ≤ x ∧ x ≤ 3)) (fun x _ => .const (areReasons1_eq x)) (fun _ _ _ => rfl) hb
  rw [← findIdx?_any]
  have h2 : Evt (fun k _ => slices_IndexFunc_int_int_impl_areReasons_1 k xs ()) (match xs.findIdx? (fun x => !decide (0 ≤ x ∧ x ≤ 3)) with | some j => (j : Int) | none => -1) := by
    refine Evt.eq (f := fun k q => _) ?_ (fun k q => by rw [slices_IndexFunc_int_int_impl_areReasons_1])
    cases hf : xs.findIdx? (fun x => !decide (0 ≤ x ∧ x ≤ 3)) with
    | none => rw [hf] at h; exact Evt.inr (Evt.diag h) .pure
    | some j => rw [hf] at h; exact Evt.inl (Evt.diag h) .pure
  refine Evt.bind h2 (.const ?_)
  cases hf : xs.findIdx? (fun x => !decide (0 ≤ x ∧ x ≤ 3)) with
  | none => rfl
  | some j => simp

theorem concatZ_ev {a b : List Int} (ha : a.length < 1000) (hb : b.length < 1000) : Evt (fun k _ => slices_Concat_int_int k [a, b]) (a ++ b) := by
  refine Evt.eq (f := fun k q => _) ?_ (fun k q => by rw [slices_Concat_int_int])
  have w1 : IntKind.wrap .i64 (0 + 1) = 1 := by decide
  have w2 : IntKind.wrap .i64 (1 + 1) = 2 := by decide
  have wa : IntKind.wrap .i64 (0 + (a.length : Int)) = (a.length : Int) := by rw [w64 (by omega) (by omega)]; omega
  have wb : IntKind.wrap .i64 ((a.length : Int) + (b.length : Int)) = ((a.length + b.length : Nat) : Int) := by rw [w64 (by omega) (by omega)]; omega
  have l1 : Evt (fun k n => slices_Concat_int_int_L58 k n [a, b] 0 [a, b] 2 0) (.inr ([a, b], ((a.length + b.length : Nat) : Int), ())) := by
    refine Evt.step (fun k n => slices_Concat_int_int_L58.eq_2 k _ _ _ _ _ n) (Evt.ctrue rfl (Evt.ctrue rfl (Evt.ctrue rfl ?_)))
    simp only [List.getD_cons_zero, show Int.toNat 0 = 0 from rfl, wa, w1]
    refine Evt.cfalse (decide_eq_false (by omega)) ?_
    refine Evt.step (fun k n => slices_Concat_int_int_L58.eq_2 k _ _ _ _ _ n) (Evt.ctrue rfl (Evt.ctrue rfl (Evt.ctrue rfl ?_)))
    have e1 : [a, b].getD (Int.toNat 1) [] = b := rfl
    simp only [e1, wb, w2]
    refine Evt.cfalse (decide_eq_false (by omega)) ?_
    exact Evt.step (fun k n => slices_Concat_int_int_L58.eq_2 k _ _ _ _ _ n) (Evt.cfalse rfl .pure)
  have grow : slices_Grow_int_int () ((a.length + b.length : Nat) : Int) = some [] := by
    unfold slices_Grow_int_int
    have e : IntKind.wrap .i64 (((a.length + b.length : Nat) : Int) - IntKind.wrap .i64 (0 - 0)) = ((a.length + b.length : Nat) : Int) := by
      have : IntKind.wrap .i64 (0 - 0) = 0 := by decide
      rw [this, w64 (by omega) (by omega)]; omega
    rw [e, decide_eq_false (by omega), cond_false]
    by_cases h : a.length + b.length = 0
    · rw [h]; rfl
    · rw [decide_eq_true (by omega), decide_eq_true (by omega), decide_eq_true (by omega)]
      simp only [cond_true, List.take_zero]
      rw [decide_eq_true (by simp; omega)]
      rfl
  have l2 : Evt (fun k n => slices_Concat_int_int_L250 k n [] [a, b] 2 0) (.inr (a ++ b, ())) := by
    refine Evt.step (fun k n => slices_Concat_int_int_L250.eq_2 k _ _ _ _ n) (Evt.ctrue rfl (Evt.ctrue rfl (Evt.ctrue rfl ?_)))
    simp only [List.getD_cons_zero, show Int.toNat 0 = 0 from rfl, w1, List.nil_append, List.length_nil]
    refine Evt.ctrue (decide_eq_true (by omega)) ?_
    refine Evt.step (fun k n => slices_Concat_int_int_L250.eq_2 k _ _ _ _ n) (Evt.ctrue rfl (Evt.ctrue rfl (Evt.ctrue rfl ?_)))
    have e1 : [a, b].getD (Int.toNat 1) [] = b := rfl
    simp only [e1, w2]
    refine Evt.ctrue (decide_eq_true (by omega)) ?_
    exact Evt.step (fun k n => slices_Concat_int_int_L250.eq_2 k _ _ _ _ n) (Evt.cfalse rfl .pure)
  exact Evt.inr (Evt.diag l1) (Evt.bind (.const grow) (Evt.inr (Evt.diag l2) .pure))


def rsOk (x : List Int) : Bool := decide ((x.length : Int) ≤ 128) && x.all fun y => decide (0 ≤ y ∧ y ≤ 3)
theorem imList_ev {x : List Int} (hb : x.length < lenB) : Evt (fun k _ => spec_imList k x) (rsOk x) := by
  refine Evt.eq (f := fun k q => _) ?_ (fun k q => by rw [spec_imList])
  unfold rsOk
  cases h : decide ((x.length : Int) ≤ 128) with
  | true => exact Evt.ctrue rfl (Evt.bind (l1All_ev hb) .pure)
  | false => exact Evt.cfalse rfl .pure
theorem areReasons_ev {x : List Int} (hb : x.length < lenB) : Evt (fun k _ => impl_areReasons k x) (rsOk x) := by
  refine Evt.eq (f := fun k q => _) ?_ (fun k q => by rw [impl_areReasons])
  unfold rsOk
  cases h : decide ((x.length : Int) ≤ 128) with
  | true =>
    refine Evt.ctrue rfl (Evt.bind (containsR_ev hb) (.const ?_))
    rw [Bool.true_and, List.any_eq_not_all_not]
    simp
  | false => exact Evt.cfalse rfl .pure

theorem tmodN (a b : Nat) : Int.tmod (a : Int) (b : Int) = ((a % b : Nat) : Int) := rfl

/-- the turns: both count alike -/
theorem turns_ev {x : List Int} (h0 : 0 < x.length) (hb : x.length ≤ 128) : ∃ f : Bool, (∃ v, Evt (fun k _ => spec_imTurns k x) (v, f)) ∧ ∃ v, Evt (fun k _ => impl_turnsOf k x) (v, f) := by
  have key : ∀ (r d : List Int) (t : Int), d ++ r = x → ∃ res : (Int × Bool) ⊕ (Int × Unit), (∀ q, res = .inl q → q.2 = false) ∧ Evt (fun k n => spec_imTurns_L58 k n x t x (x.length : Int) d.length) res ∧ Evt (fun k n => impl_turnsOf_L58 k n x t x (x.length : Int) d.length) res := by
    intro r
    induction r with
    | nil =>
      intro d t h
      rw [List.append_nil] at h
      refine ⟨.inr (t, ()), (fun q hq => by cases hq), ?_, ?_⟩
      · refine Evt.step (fun k n => spec_imTurns_L58.eq_2 k _ _ _ _ _ n) ?_
        rw [h]
        exact Evt.rng0 .pure
      · refine Evt.step (fun k n => impl_turnsOf_L58.eq_2 k _ _ _ _ _ n) ?_
        rw [h]
        exact Evt.rng0 .pure
    | cons e r ih =>
      intro d t h
      have hl := congrArg List.length h
      simp at hl
      have hnx : IntKind.wrap .i64 ((d.length : Int) + 1) = ((d ++ [e]).length : Int) := by rw [w64_next (by simp only [lenB]; omega)]; simp
      have hw : IntKind.wrap .i64 ((d.length : Int) + 1) = ((d.length + 1 : Nat) : Int) := w64_next (by simp only [lenB]; omega)
      have hmod : (d.length + 1) % x.length < x.length := Nat.mod_lt _ h0
      have e1 : x.getD (Int.toNat (d.length : Int)) 0 = e := by rw [← h]; exact mid_get
      generalize hD : Int.tmod (IntKind.wrap .i64 ((IntKind.wrap .i64 ((x.getD (Int.toNat (Int.tmod (IntKind.wrap .i64 ((d.length : Int) + 1)) (x.length : Int))) 0) - (x.getD (Int.toNat (d.length : Int)) 0))) + 4)) 4 = D
      have g1 : decide ((d.length : Int) < (x.length : Int)) = true := decide_eq_true (by omega)
      have g2 : ((x.length : Int) == 0) = false := by rw [beq_eq_false_iff_ne]; omega
      have g3 : decide (0 ≤ Int.tmod (IntKind.wrap .i64 ((d.length : Int) + 1)) (x.length : Int)) = true := by rw [hw, tmodN]; exact decide_eq_true (Int.natCast_nonneg _)
      have g4 : decide (Int.tmod (IntKind.wrap .i64 ((d.length : Int) + 1)) (x.length : Int) < (x.length : Int)) = true := by rw [hw, tmodN]; exact decide_eq_true (Int.ofNat_lt.2 hmod)
      have s1 : ∀ {res}, Evt (fun k n => (bif (D == 1) then (spec_imTurns_L58 k n x (IntKind.wrap .i64 (t + 1)) x (x.length : Int) (IntKind.wrap .i64 ((d.length : Int) + 1))) else (bif (D == 2) then some (Sum.inl (0, false)) else (bif (D == 3) then (spec_imTurns_L58 k n x (IntKind.wrap .i64 (t - 1)) x (x.length : Int) (IntKind.wrap .i64 ((d.length : Int) + 1))) else (spec_imTurns_L58 k n x t x (x.length : Int) (IntKind.wrap .i64 ((d.length : Int) + 1))))))) res → Evt (fun k n => spec_imTurns_L58 k n x t x (x.length : Int) d.length) res := by
        intro res hh
        refine Evt.step (fun k n => spec_imTurns_L58.eq_2 k _ _ _ _ _ n) (Evt.ctrue g1 (Evt.ctrue mid_ge (Evt.ctrue g1 (Evt.cfalse g2 (Evt.ctrue g3 (Evt.ctrue g4 ?_))))))
        rw [hD]
        exact hh
      have s2 : ∀ {res}, Evt (fun k n => (bif (D == 1) then (impl_turnsOf_L58 k n x (IntKind.wrap .i64 (t + 1)) x (x.length : Int) (IntKind.wrap .i64 ((d.length : Int) + 1))) else (bif (D == 2) then some (Sum.inl (0, false)) else (bif (D == 3) then (impl_turnsOf_L58 k n x (IntKind.wrap .i64 (t - 1)) x (x.length : Int) (IntKind.wrap .i64 ((d.length : Int) + 1))) else (impl_turnsOf_L58 k n x t x (x.length : Int) (IntKind.wrap .i64 ((d.length : Int) + 1))))))) res → Evt (fun k n => impl_turnsOf_L58 k n x t x (x.length : Int) d.length) res := by
        intro res hh
        refine Evt.step (fun k n => impl_turnsOf_L58.eq_2 k _ _ _ _ _ n) (Evt.ctrue g1 (Evt.ctrue mid_ge (Evt.ctrue g1 (Evt.cfalse g2 (Evt.ctrue g3 (Evt.ctrue g4 ?_))))))
        rw [hD]
        exact hh
      have ih := fun t => ih (d ++ [e]) t (by simpa using h)
      rw [← hnx] at ih
      cases h1 : (D == 1) with
      | true =>
        obtain ⟨res, q0, q1, q2⟩ := ih (IntKind.wrap .i64 (t + 1))
        exact ⟨res, q0, s1 (Evt.ctrue h1 q1), s2 (Evt.ctrue h1 q2)⟩
      | false =>
      cases h2 : (D == 2) with
      | true => exact ⟨.inl (0, false), (fun q hq => by cases hq; rfl), s1 (Evt.cfalse h1 (Evt.ctrue h2 .pure)), s2 (Evt.cfalse h1 (Evt.ctrue h2 .pure))⟩
      | false =>
      cases h3 : (D == 3) with
      | true =>
        obtain ⟨res, q0, q1, q2⟩ := ih (IntKind.wrap .i64 (t - 1))
        exact ⟨res, q0, s1 (Evt.cfalse h1 (Evt.cfalse h2 (Evt.ctrue h3 q1))), s2 (Evt.cfalse h1 (Evt.cfalse h2 (Evt.ctrue h3 q2)))⟩
      | false =>
        obtain ⟨res, q0, q1, q2⟩ := ih t
        exact ⟨res, q0, s1 (Evt.cfalse h1 (Evt.cfalse h2 (Evt.cfalse h3 q1))), s2 (Evt.cfalse h1 (Evt.cfalse h2 (Evt.cfalse h3 q2)))⟩
  obtain ⟨res, q0, q1, q2⟩ := key x [] 0 rfl
  simp only [List.length_nil] at q1 q2
  cases res with
  | inl q =>
    obtain ⟨v, f⟩ := q
    have hf := q0 _ rfl
    simp only at hf
    subst hf
    refine ⟨false, ⟨v, ?_⟩, v, ?_⟩
    · refine Evt.eq (f := fun k q => _) ?_ (fun k q => by rw [spec_imTurns])
      exact Evt.inl (Evt.diag q1) .pure
    · refine Evt.eq (f := fun k q => _) ?_ (fun k q => by rw [impl_turnsOf])
      exact Evt.inl (Evt.diag q2) .pure
  | inr y =>
    obtain ⟨t, u⟩ := y
    refine ⟨(Int.tmod t 4 == 0), ⟨IntKind.wrap .i64 (Int.tdiv t 4), ?_⟩, ?_⟩
    · refine Evt.eq (f := fun k q => _) ?_ (fun k q => by rw [spec_imTurns])
      exact Evt.inr (Evt.diag q1) .pure
    · cases ht : (Int.tmod t 4 == 0) with
      | true =>
        refine ⟨IntKind.wrap .i64 (Int.tdiv t 4), ?_⟩
        refine Evt.eq (f := fun k q => _) ?_ (fun k q => by rw [impl_turnsOf])
        exact Evt.inr (Evt.diag q2) (Evt.cfalse (by simpa using ht) .pure)
      | false =>
        refine ⟨0, ?_⟩
        refine Evt.eq (f := fun k q => _) ?_ (fun k q => by rw [impl_turnsOf])
        exact Evt.inr (Evt.diag q2) (Evt.ctrue (by simpa using ht) .pure)
end Go.Ev.G
namespace Go.Ev.G
open Go Go.Ev
set_option maxRecDepth 100000

/-! How often a closed way passes a reason. -/
def pd (a b : Int) : Int := Int.tmod (a - b + 4) 4
def wt (l b a : Int) : Int := if pd l b = 1 then (if pd a l = 1 then 1 else 0) else if pd l b = 3 then (if pd a l = 3 then -1 else 0) else 0
def nxt (l : Int) (r : List Int) : Int := (r.find? fun y => y != l).getD 0
def prv (d r : List Int) (e : Int) : Int := d.getLast?.getD (r.getLast?.getD e)
def ct (l : Int) (d : List Int) (e : Int) (r : List Int) : Int := if e = l ∧ prv d r e ≠ l then wt l (prv d r e) (nxt l (r ++ d)) else 0
def tot (l : Int) : List Int → List Int → Int
  | _, [] => 0
  | d, e :: r => ct l d e r + tot l (d ++ [e]) r
/-- the same, from an end of a run -/
def imp (l : Int) : Int → Bool → List Int → Int
  | _, _, [] => 0
  | b, p, e :: r => if e = l then imp l b true r else (if p then wt l b e else 0) + imp l e false r
def slr (l : Int) : Int → List Int → Int
  | _, [] => 0
  | p, e :: r => (if e = l ∧ p ≠ l then wt l p (nxt l r) else 0) + slr l e r

theorem nxt_hit {l e : Int} {r : List Int} (h : e ≠ l) : nxt l (e :: r) = e := by
  unfold nxt
  rw [List.find?_cons_of_pos (by simpa using h)]
  rfl
theorem nxt_skip {l : Int} {r : List Int} : nxt l (l :: r) = nxt l r := by
  unfold nxt
  rw [List.find?_cons_of_neg (by simp)]
theorem nxt_stop {l b : Int} (h : b ≠ l) : ∀ (u v : List Int), nxt l (u ++ b :: v) = nxt l (u ++ [b])
  | [], v => by rw [List.nil_append, List.nil_append, nxt_hit h, nxt_hit h]
  | e :: u, v => by
    by_cases he : e = l
    · subst he
      rw [List.cons_append, List.cons_append, nxt_skip, nxt_skip]
      exact nxt_stop h u v
    · rw [List.cons_append, List.cons_append, nxt_hit he, nxt_hit he]

theorem imp_eq {l b0 : Int} (h0 : b0 ≠ l) : ∀ (u : List Int), (∀ b, b ≠ l → imp l b false (u ++ [b0]) = slr l b (u ++ [b0])) ∧ (∀ b, imp l b true (u ++ [b0]) = wt l b (nxt l (u ++ [b0])) + slr l l (u ++ [b0]))
  | [] => by
    refine ⟨fun b _ => ?_, fun b => ?_⟩
    · simp [imp, slr, h0]
    · rw [List.nil_append, nxt_hit h0]
      simp [imp, slr, h0]
  | e :: u => by
    obtain ⟨h1, h2⟩ := imp_eq h0 u
    simp only [List.cons_append]
    refine ⟨fun b hb => ?_, fun b => ?_⟩
    · by_cases he : e = l
      · subst he
        simp only [imp, slr, if_true, true_and, ne_eq, hb, not_false_eq_true]
        exact h2 b
      · simp only [imp, slr, he, if_false, false_and, Bool.false_eq_true]
        rw [h1 e he]
    · by_cases he : e = l
      · subst he
        simp only [imp, slr, if_true, ne_eq, not_true_eq_false, and_false, if_false, nxt_skip, Int.zero_add]
        exact h2 b
      · simp only [imp, slr, he, if_false, false_and, if_true, nxt_hit he, Int.zero_add]
        rw [h1 e he]

/-- the rounds behind the first of others -/
theorem tot_tail {l b0 : Int} (h0 : b0 ≠ l) (a : List Int) : ∀ (z2 z1 : List Int), slr l ((b0 :: z1).getLast?.getD b0) (z2 ++ (a ++ [b0])) = tot l (a ++ b0 :: z1) z2 + slr l ((b0 :: (z1 ++ z2)).getLast?.getD b0) (a ++ [b0])
  | [], z1 => by simp [tot]
  | e :: z2, z1 => by
    have ih := tot_tail h0 a z2 (z1 ++ [e])
    have e1 : (b0 :: (z1 ++ [e])).getLast?.getD b0 = e := by simp [List.getLast?_cons, List.getLast?_append]
    rw [e1] at ih
    simp only [List.cons_append, slr, tot]
    rw [ih]
    have e2 : a ++ b0 :: z1 ++ [e] = a ++ b0 :: (z1 ++ [e]) := by simp
    have e3 : z1 ++ [e] ++ z2 = z1 ++ e :: z2 := by simp
    rw [e2, e3]
    have e4 : prv (a ++ b0 :: z1) z2 e = (b0 :: z1).getLast?.getD b0 := by
      unfold prv
      rw [List.getLast?_append]
      simp [List.getLast?_cons]
    have e5 : nxt l (z2 ++ (a ++ [b0])) = nxt l (z2 ++ (a ++ b0 :: z1)) := by
      rw [← List.append_assoc, ← List.append_assoc, nxt_stop h0 (z2 ++ a) z1]
    unfold ct
    rw [e4, e5]
    omega

/-- the rounds ahead of it -/
theorem tot_run {l b0 : Int} (h0 : b0 ≠ l) (z : List Int) : ∀ (a2 a1 : List Int), a1.getLast? = some l → (∀ y ∈ a2, y = l) → tot l a1 (a2 ++ b0 :: z) = tot l (a1 ++ a2 ++ [b0]) z
  | [], a1, h1, _ => by
    simp only [List.nil_append, tot, List.append_nil]
    unfold ct
    rw [if_neg (fun h => h0 h.1), Int.zero_add]
  | e :: a2, a1, h1, h2 => by
    have he := h2 e (by simp)
    subst he
    have ih := tot_run h0 z a2 (a1 ++ [e]) (by simp) (fun y hy => h2 y (by simp [hy]))
    simp only [List.cons_append, tot]
    rw [ih]
    have e1 : prv a1 (a2 ++ b0 :: z) e = e := by unfold prv; rw [h1]; rfl
    unfold ct
    rw [if_neg (fun h => h.2 e1), Int.zero_add]
    congr 1
    simp

theorem tot_eq {l b0 : Int} (h0 : b0 ≠ l) (a z : List Int) (ha : ∀ y ∈ a, y = l) : tot l [] (a ++ b0 :: z) = slr l b0 (z ++ (a ++ [b0])) := by
  have ht := tot_tail h0 a z []
  simp only [List.getLast?_singleton, Option.getD_some, List.nil_append] at ht
  rw [ht]
  cases a with
  | nil =>
    simp only [List.nil_append, tot, slr]
    unfold ct
    rw [if_neg (fun h => h0 h.1), if_neg (fun h => h0 h.1)]
    omega
  | cons e a =>
    have he := ha e (by simp)
    subst he
    have hr := tot_run h0 z a [e] (by simp) (fun y hy => ha y (by simp [hy]))
    simp only [List.cons_append, tot, List.nil_append] at hr ⊢
    rw [hr]
    have e1 : prv [] (a ++ b0 :: z) e = (b0 :: z).getLast?.getD b0 := by
      unfold prv
      rw [List.getLast?_append]
      simp [List.getLast?_cons]
    have e2 : nxt e (a ++ b0 :: z ++ []) = nxt e (a ++ [b0]) := by rw [List.append_nil, nxt_stop h0]
    have rest : ∀ u : List Int, (∀ y ∈ u, y = e) → slr e e (u ++ [b0]) = 0 := by
      intro u
      induction u with
      | nil => intro _; simp [slr, h0]
      | cons y u ih =>
        intro hu
        have hy := hu y (by simp)
        subst hy
        simp only [List.cons_append, slr, ne_eq, not_true_eq_false, and_false, if_false, Int.zero_add]
        exact ih (fun y hy => hu y (by simp [hy]))
    simp only [slr]
    rw [rest a (fun y hy => ha y (by simp [hy]))]
    unfold ct
    rw [e1, e2]
    simp only [true_and, Int.add_zero]
    exact Int.add_comm _ _
end Go.Ev.G
namespace Go.Ev.G
open Go Go.Ev
set_option maxRecDepth 100000

theorem cyc_get {d c : List Int} {t : Nat} (ht : t < (c ++ d).length) : (d ++ c).getD ((d.length + t) % (d ++ c).length) 0 = (c ++ d).getD t 0 := by
  have hn : (d ++ c).length = d.length + c.length := by simp
  have hn2 : (c ++ d).length = c.length + d.length := by simp
  rw [List.getD_eq_getElem?_getD, List.getD_eq_getElem?_getD]
  congr 1
  by_cases h : t < c.length
  · rw [Nat.mod_eq_of_lt (by omega), List.getElem?_append_right (by omega), List.getElem?_append_left h]
    congr 1
    omega
  · have e : (d.length + t) % (d ++ c).length = t - c.length := by
      have : d.length + t = (t - c.length) + (d ++ c).length := by omega
      rw [this, Nat.add_mod_right, Nat.mod_eq_of_lt (by omega)]
    rw [e, List.getElem?_append_left (by omega), List.getElem?_append_right (by omega)]

theorem inner_stop {l cnt bf : Int} {x c d : List Int} (hx : x = d ++ c) (hn : x.length ≤ 128) : ∀ (s p : List Int), p ++ s = c ++ d → (∀ y ∈ p, y = l) → (∃ y ∈ s, y ≠ l) →
    ∃ J : Nat, J ≤ 300 ∧ x.getD (J % x.length) 0 = nxt l s ∧ Evt (fun k q => spec_dgPasses_L250684 k q x l (x.length : Int) cnt bf ((d.length + p.length : Nat) : Int) x (x.length : Int) (d.length : Int)) (.inr (x, l, (x.length : Int), cnt, bf, (J : Int), x, (x.length : Int), (d.length : Int), ()))
  | [], p, _, _, h => by obtain ⟨_, h, _⟩ := h; cases h
  | e :: s, p, hps, hp, hs => by
    have hl := congrArg List.length hps
    simp at hl
    have hxl : x.length = d.length + c.length := by rw [hx]; simp
    have hpos : 0 < x.length := by omega
    have hget : x.getD ((d.length + p.length) % x.length) 0 = e := by
      rw [hx, cyc_get (by simp; omega), ← hps]
      simp
    have hmod : (d.length + p.length) % x.length < x.length := Nat.mod_lt _ hpos
    have g2 : ((x.length : Int) == 0) = false := by rw [beq_eq_false_iff_ne]; omega
    have g3 : decide (0 ≤ Int.tmod ((d.length + p.length : Nat) : Int) (x.length : Int)) = true := by rw [tmodN]; exact decide_eq_true (Int.natCast_nonneg _)
    have g4 : decide (Int.tmod ((d.length + p.length : Nat) : Int) (x.length : Int) < (x.length : Int)) = true := by rw [tmodN]; exact decide_eq_true (Int.ofNat_lt.2 hmod)
    have e1 : x.getD (Int.toNat (Int.tmod ((d.length + p.length : Nat) : Int) (x.length : Int))) 0 = e := by rw [tmodN, Int.toNat_natCast]; exact hget
    by_cases he : e = l
    · subst he
      have hs' : ∃ y ∈ s, y ≠ e := by
        obtain ⟨y, hy, hne⟩ := hs
        rcases List.mem_cons.1 hy with rfl | hy
        · exact absurd rfl hne
        · exact ⟨y, hy, hne⟩
      obtain ⟨J, hJ, hv, hev⟩ := inner_stop (cnt := cnt) (bf := bf) hx hn s (p ++ [e]) (by simpa using hps) (by
        intro y hy
        rcases List.mem_append.1 hy with hy | hy
        · exact hp y hy
        · simpa using hy) hs'
      refine ⟨J, hJ, by rw [nxt_skip]; exact hv, Evt.step (fun k q => spec_dgPasses_L250684.eq_2 k _ _ _ _ _ _ _ _ _ q) (Evt.cfalse g2 (Evt.ctrue g3 (Evt.ctrue g4 ?_)))⟩
      rw [e1]
      have hw : IntKind.wrap .i64 (((d.length + p.length : Nat) : Int) + 1) = ((d.length + (p ++ [e]).length : Nat) : Int) := by rw [w64_next (by simp only [lenB]; omega)]; simp; omega
      rw [hw]
      exact Evt.ctrue (by simp) hev
    · refine ⟨d.length + p.length, by omega, by rw [nxt_hit he]; exact hget, Evt.step (fun k q => spec_dgPasses_L250684.eq_2 k _ _ _ _ _ _ _ _ _ q) (Evt.cfalse g2 (Evt.ctrue g3 (Evt.ctrue g4 ?_)))⟩
      rw [e1]
      exact Evt.cfalse (by simpa using he) .pure

theorem pdW {a b : Int} (ha : 0 ≤ a ∧ a ≤ 3) (hb : 0 ≤ b ∧ b ≤ 3) : Int.tmod (IntKind.wrap .i64 ((IntKind.wrap .i64 (a - b)) + 4)) 4 = pd a b := by
  unfold pd
  rw [w64 (n := a - b) (by omega) (by omega), w64 (by omega) (by omega)]

theorem wt_le (l b a : Int) : -1 ≤ wt l b a ∧ wt l b a ≤ 1 := by
  unfold wt
  split
  · split <;> omega
  · split
    · split <;> omega
    · omega
theorem ct_le (l : Int) (d : List Int) (e : Int) (r : List Int) : -1 ≤ ct l d e r ∧ ct l d e r ≤ 1 := by
  unfold ct
  split
  · exact wt_le _ _ _
  · omega

theorem prev_get {d r : List Int} {e : Int} : (d ++ e :: r).getD ((d.length + (d ++ e :: r).length - 1) % (d ++ e :: r).length) 0 = prv d r e := by
  rcases List.eq_nil_or_concat d with rfl | ⟨d', p, rfl⟩
  · unfold prv
    simp only [List.nil_append, List.length_nil, List.length_cons, Nat.zero_add, Nat.add_sub_cancel, List.getLast?_nil, Option.getD_none]
    rw [Nat.mod_eq_of_lt (by omega)]
    rcases List.eq_nil_or_concat r with rfl | ⟨r', q, rfl⟩
    · rfl
    · simp [List.getD_eq_getElem?_getD]
  · simp only [List.concat_eq_append]
    have e1 : (d' ++ [p] ++ e :: r).length = d'.length + 1 + (r.length + 1) := by simp <;> omega
    have e2 : ((d' ++ [p]).length + (d' ++ [p] ++ e :: r).length - 1) = d'.length + (d' ++ [p] ++ e :: r).length   := by rw [e1]; simp <;> omega
    rw [e2, Nat.add_mod_right, Nat.mod_eq_of_lt (by rw [e1]; omega)]
    unfold prv
    simp [List.getD_eq_getElem?_getD]

theorem dgPasses_ev {x : List Int} {l : Int} (h0 : 0 < x.length) (hn : x.length ≤ 128) (hx : ∀ y ∈ x, 0 ≤ y ∧ y ≤ 3) (hl : 0 ≤ l ∧ l ≤ 3) : Evt (fun k _ => spec_dgPasses k x l) (tot l [] x) := by
  refine Evt.eq (f := fun k q => _) ?_ (fun k q => by rw [spec_dgPasses])
  have hg : ∀ i, i < x.length → 0 ≤ x.getD i 0 ∧ x.getD i 0 ≤ 3 := by
    intro i hi
    rw [List.getD_eq_getElem?_getD, List.getElem?_eq_getElem hi]
    exact hx _ (List.getElem_mem hi)
  have key : ∀ (r d : List Int) (cnt : Int), d ++ r = x → (-(d.length : Int) ≤ cnt ∧ cnt ≤ d.length) → Evt (fun k n => spec_dgPasses_L122 k n x l (x.length : Int) cnt x (x.length : Int) d.length) (.inr (cnt + tot l d r, ())) := by
    intro r
    induction r with
    | nil =>
      intro d cnt h _
      refine Evt.step (fun k n => spec_dgPasses_L122.eq_2 k _ _ _ _ _ _ _ n) ?_
      rw [List.append_nil] at h
      rw [h]
      simp only [tot, Int.add_zero]
      exact Evt.rng0 .pure
    | cons e r ih =>
      intro d cnt h hcnt
      have hlen := congrArg List.length h
      simp at hlen
      have hnx : IntKind.wrap .i64 ((d.length : Int) + 1) = ((d ++ [e]).length : Int) := by rw [w64_next (by simp only [lenB]; omega)]; simp
      have hcl := ct_le l d e r
      have go : ∀ {cnt' : Int}, cnt' = cnt + ct l d e r → Evt (fun k n => spec_dgPasses_L122 k n x l (x.length : Int) cnt' x (x.length : Int) (IntKind.wrap .i64 ((d.length : Int) + 1))) (.inr (cnt + tot l d (e :: r), ())) := by
        intro cnt' hc
        rw [hnx]
        have := ih (d ++ [e]) cnt' (by simpa using h) (by simp; omega)
        have e1 : cnt + tot l d (e :: r) = cnt' + tot l (d ++ [e]) r := by rw [tot, hc]; omega
        rw [e1]
        exact this
      have hpi : IntKind.wrap .i64 ((IntKind.wrap .i64 ((d.length : Int) + (x.length : Int))) - 1) = ((d.length + x.length - 1 : Nat) : Int) := by
        rw [w64 (n := (d.length : Int) + (x.length : Int)) (by omega) (by omega), w64 (by omega) (by omega)]; omega
      have hmod : (d.length + x.length - 1) % x.length < x.length := Nat.mod_lt _ h0
      have g1 : decide ((d.length : Int) < (x.length : Int)) = true := decide_eq_true (by omega)
      have g2 : ((x.length : Int) == 0) = false := by rw [beq_eq_false_iff_ne]; omega
      have g3 : decide (0 ≤ Int.tmod (IntKind.wrap .i64 ((IntKind.wrap .i64 ((d.length : Int) + (x.length : Int))) - 1)) (x.length : Int)) = true := by rw [hpi, tmodN]; exact decide_eq_true (Int.natCast_nonneg _)
      have g4 : decide (Int.tmod (IntKind.wrap .i64 ((IntKind.wrap .i64 ((d.length : Int) + (x.length : Int))) - 1)) (x.length : Int) < (x.length : Int)) = true := by rw [hpi, tmodN]; exact decide_eq_true (Int.ofNat_lt.2 hmod)
      have e1 : x.getD (Int.toNat (d.length : Int)) 0 = e := by rw [← h]; exact mid_get
      have e2 : x.getD (Int.toNat (Int.tmod (IntKind.wrap .i64 ((IntKind.wrap .i64 ((d.length : Int) + (x.length : Int))) - 1)) (x.length : Int))) 0 = prv d r e := by
        rw [hpi, tmodN, Int.toNat_natCast, ← h]
        exact prev_get
      have hB : 0 ≤ prv d r e ∧ prv d r e ≤ 3 := by
        rw [← e2, hpi, tmodN, Int.toNat_natCast]
        exact hg _ hmod
      refine Evt.step (fun k n => spec_dgPasses_L122.eq_2 k _ _ _ _ _ _ _ n) (Evt.ctrue g1 (Evt.ctrue mid_ge (Evt.ctrue g1 (Evt.cfalse g2 (Evt.ctrue g3 (Evt.ctrue g4 ?_))))))
      rw [e1, e2]
      by_cases he : e = l
      · refine Evt.cfalse (by simp [he]) ?_
        by_cases hp : prv d r e = l
        · refine Evt.ctrue (by simp [hp]) (go ?_)
          unfold ct
          rw [if_neg (fun hh => hh.2 hp)]
          omega
        · refine Evt.cfalse (by simpa using hp) ?_
          have hex : ∃ y ∈ (e :: r) ++ d, y ≠ l := by
            refine ⟨prv d r e, ?_, hp⟩
            unfold prv
            rcases List.eq_nil_or_concat d with rfl | ⟨d', p, rfl⟩
            · rcases List.eq_nil_or_concat r with rfl | ⟨r', q, rfl⟩
              · simp
              · simp
            · simp
          obtain ⟨J, hJ, hv, hev⟩ := inner_stop (l := l) (cnt := cnt) (bf := prv d r e) (c := e :: r) (d := d) h.symm hn ((e :: r) ++ d) [] rfl (by simp) hex
          simp only [List.length_nil, Nat.add_zero] at hev
          have hA : nxt l ((e :: r) ++ d) = nxt l (r ++ d) := by rw [he]; exact nxt_skip
          rw [hA] at hv
          have hJm : J % x.length < x.length := Nat.mod_lt _ h0
          have e3 : x.getD (Int.toNat (Int.tmod (J : Int) (x.length : Int))) 0 = nxt l (r ++ d) := by rw [tmodN, Int.toNat_natCast]; exact hv
          have hAb : 0 ≤ nxt l (r ++ d) ∧ nxt l (r ++ d) ≤ 3 := by rw [← hv]; exact hg _ hJm
          refine Evt.inr (Evt.diag hev) (Evt.cfalse g2 (Evt.ctrue (by rw [tmodN]; exact decide_eq_true (Int.natCast_nonneg _)) (Evt.ctrue (by rw [tmodN]; exact decide_eq_true (Int.ofNat_lt.2 hJm)) ?_)))
          simp only [e3, pdW hl hB, pdW hAb hl]
          have hct : ct l d e r = wt l (prv d r e) (nxt l (r ++ d)) := by unfold ct; rw [if_pos ⟨he, hp⟩]
          rw [hct] at go
          have w1 : IntKind.wrap .i64 (cnt + 1) = cnt + 1 := w64 (by omega) (by omega)
          have w2 : IntKind.wrap .i64 (cnt - 1) = cnt - 1 := w64 (by omega) (by omega)
          rw [w1, w2]
          unfold wt at go
          by_cases d1 : pd l (prv d r e) = 1
          · rw [if_pos d1] at go
            have d3 : ¬ pd l (prv d r e) = 3 := by omega
            refine Evt.ctrue (by simpa using d1) ?_
            by_cases d2 : pd (nxt l (r ++ d)) l = 1
            · rw [if_pos d2] at go
              exact Evt.ctrue (by simpa using d2) (go rfl)
            · rw [if_neg d2] at go
              exact Evt.cfalse (by simpa using d2) (Evt.cfalse (by simpa using d3) (go (by omega)))
          · rw [if_neg d1] at go
            refine Evt.cfalse (by simpa using d1) ?_
            by_cases d3 : pd l (prv d r e) = 3
            · rw [if_pos d3] at go
              refine Evt.ctrue (by simpa using d3) ?_
              by_cases d2 : pd (nxt l (r ++ d)) l = 3
              · rw [if_pos d2] at go
                exact Evt.ctrue (by simpa using d2) (go (by omega))
              · rw [if_neg d2] at go
                exact Evt.cfalse (by simpa using d2) (go (by omega))
            · rw [if_neg d3] at go
              exact Evt.cfalse (by simpa using d3) (go (by omega))
      · refine Evt.ctrue (by simpa using he) (go ?_)
        unfold ct
        rw [if_neg (fun hh => he hh.1)]
        omega
  have h0 := key x [] 0 rfl (by simp)
  simp only [List.length_nil, Int.zero_add] at h0
  exact Evt.inr (Evt.diag h0) .pure
end Go.Ev.G
namespace Go.Ev.G
open Go Go.Ev
set_option maxRecDepth 100000

theorem split_first {P : Int → Bool} : ∀ {x : List Int} {j : Nat}, x.findIdx? P = some j → ∃ a b z, x = a ++ b :: z ∧ a.length = j ∧ P b = true ∧ ∀ y ∈ a, P y = false
  | [], j, h => by simp at h
  | e :: x, j, h => by
    rw [List.findIdx?_cons] at h
    cases hP : P e with
    | true =>
      rw [hP] at h
      simp at h
      subst h
      exact ⟨[], e, x, rfl, rfl, hP, by simp⟩
    | false =>
      rw [hP] at h
      simp at h
      obtain ⟨j', hj, rfl⟩ := h
      obtain ⟨a, b, z, rfl, ha, hb, hall⟩ := split_first hj
      exact ⟨e :: a, b, z, rfl, by simp [ha], hb, by
        intro y hy
        rcases List.mem_cons.1 hy with rfl | hy
        · exact hP
        · exact hall y hy⟩
theorem none_first {P : Int → Bool} : ∀ {x : List Int}, x.findIdx? P = none → ∀ y ∈ x, P y = false
  | [], _ => by simp
  | e :: x, h => by
    rw [List.findIdx?_cons] at h
    cases hP : P e with
    | true => rw [hP] at h; simp at h
    | false =>
      rw [hP] at h
      simp at h
      intro y hy
      rcases List.mem_cons.1 hy with rfl | hy
      · exact hP
      · exact h y hy

theorem tot_all {l : Int} : ∀ (r d : List Int), (∀ y ∈ d, y = l) → (∀ y ∈ r, y = l) → tot l d r = 0
  | [], _, _, _ => rfl
  | e :: r, d, hd, hr => by
    have he := hr e (by simp)
    have hp : prv d r e = l := by
      unfold prv
      rcases List.eq_nil_or_concat d with rfl | ⟨d', p, rfl⟩
      · rcases List.eq_nil_or_concat r with rfl | ⟨r', q, rfl⟩
        · simpa using he
        · simpa using hr q (by simp)
      · simpa using hd p (by simp)
    rw [tot, tot_all r (d ++ [e]) (by
      intro y hy
      rcases List.mem_append.1 hy with hy | hy
      · exact hd y hy
      · simp at hy; rw [hy]; exact he) (fun y hy => hr y (by simp [hy]))]
    unfold ct
    rw [if_neg (fun hh => hh.2 hp)]
    rfl

theorem passes_ev {x : List Int} {l : Int} (hn : x.length ≤ 128) (hx : ∀ y ∈ x, 0 ≤ y ∧ y ≤ 3) (hl : 0 ≤ l ∧ l ≤ 3) : Evt (fun k _ => impl_passes k x l) (tot l [] x) := by
  refine Evt.eq (f := fun k q => _) ?_ (fun k q => by rw [impl_passes])
  have hidx : Evt (fun k _ => slices_IndexFunc_int_int_impl_passes_1 k x (l, ())) (match x.findIdx? (fun y => y != l) with | some j => (j : Int) | none => -1) := by
    refine Evt.eq (f := fun k q => _) ?_ (fun k q => by rw [slices_IndexFunc_int_int_impl_passes_1])
    have h := index_all (d0 := 0) (L := fun k n i => slices_IndexFunc_int_int_impl_passes_1_L26 k n x (l, ()) (x.length : Int) i) (xs := x) (p := fun _ y => impl_passes_1 y l) (P := fun y => y != l) (fun y _ => .const rfl) (fun _ _ _ => rfl) (by simp only [lenB]; omega)
    cases hf : x.findIdx? (fun y => y != l) with
    | none => rw [hf] at h; exact Evt.inr (Evt.diag h) .pure
    | some j => rw [hf] at h; exact Evt.inl (Evt.diag h) .pure
  cases hf : x.findIdx? (fun y => y != l) with
  | none =>
    rw [hf] at hidx
    have hall := none_first hf
    rw [tot_all x [] (by simp) (fun y hy => by simpa using hall y hy)]
    exact Evt.bind hidx (Evt.ctrue rfl .pure)
  | some j =>
    rw [hf] at hidx
    have hidx : Evt (fun k _ => slices_IndexFunc_int_int_impl_passes_1 k x (l, ())) (j : Int) := hidx
    obtain ⟨a, b0, z, hxe, ha, hb, hall⟩ := split_first hf
    have hb0 : b0 ≠ l := by simpa using hb
    have hal : ∀ y ∈ a, y = l := fun y hy => by simpa using hall y hy
    have hlen := congrArg List.length hxe
    simp at hlen
    have hj1 : IntKind.wrap .i64 ((j : Int) + 1) = ((j + 1 : Nat) : Int) := w64_next (by simp only [lenB]; omega)
    refine Evt.bind hidx (Evt.cfalse (decide_eq_false (by omega)) (Evt.ctrue mid_ge (Evt.ctrue (decide_eq_true (by omega)) ?_)))
    rw [hj1]
    refine Evt.ctrue mid_ge (Evt.ctrue (decide_eq_true (by omega)) ?_)
    have s1 : (x.take (Int.toNat (x.length : Int))).drop (Int.toNat (j : Int)) = b0 :: z := by rw [Int.toNat_natCast, Int.toNat_natCast, List.take_length, hxe, ← ha, List.drop_left]
    have s2 : (x.take (Int.toNat ((j + 1 : Nat) : Int))).drop 0 = a ++ [b0] := by
      rw [hxe, ← ha, List.drop_zero, Int.toNat_natCast, List.take_append, List.take_of_length_le (by omega)]
      simp
    rw [s1, s2]
    have hc := concatZ_ev (a := b0 :: z) (b := a ++ [b0]) (by simp; omega) (by simp; omega)
    have ht : tot l [] x = slr l b0 (z ++ (a ++ [b0])) := by rw [hxe]; exact tot_eq hb0 a z hal
    rw [ht]
    have hM : (b0 :: z) ++ (a ++ [b0]) = b0 :: (z ++ (a ++ [b0])) := rfl
    rw [hM] at hc
    have hrange : ∀ y ∈ z ++ (a ++ [b0]), 0 ≤ y ∧ y ≤ 3 := by
      intro y hy
      refine hx y ?_
      rw [hxe]
      simp only [List.mem_append, List.mem_cons, List.not_mem_nil, or_false] at hy ⊢
      rcases hy with h | h | h
      · exact .inr (.inr h)
      · exact .inl h
      · exact .inr (.inl h)
    have hbr : 0 ≤ b0 ∧ b0 ≤ 3 := hrange b0 (by simp)
    have himp := (imp_eq hb0 (z ++ a)).1 b0 hb0
    rw [List.append_assoc] at himp
    have hml : (z ++ (a ++ [b0])).length ≤ 128 := by simp; omega
    generalize z ++ (a ++ [b0]) = M at hc hrange himp hml ⊢
    refine Evt.bind hc (Evt.ctrue (by simp <;> omega) (Evt.ctrue (by simp <;> omega) ?_))
    have t1 : ((b0 :: M).take (Int.toNat ((b0 :: M).length : Int))).drop 1 = M := by simp
    rw [t1]
    have key : ∀ (r d : List Int) (cnt bf : Int), d ++ r = M → (-(d.length : Int) ≤ cnt ∧ cnt ≤ d.length) → (0 ≤ bf ∧ bf ≤ 3) → Evt (fun k n => impl_passes_L506 k n l (b0 :: M) cnt bf M (M.length : Int) d.length) (.inr (cnt + imp l bf (decide ((b0 :: d).getLast?.getD b0 = l)) r, ())) := by
      intro r
      induction r with
      | nil =>
        intro d cnt bf h _ _
        refine Evt.step (fun k n => impl_passes_L506.eq_2 k _ _ _ _ _ _ _ n) ?_
        rw [List.append_nil] at h
        rw [h]
        simp only [imp, Int.add_zero]
        exact Evt.rng0 .pure
      | cons e r ih =>
        intro d cnt bf h hcnt hbf
        have hdl := congrArg List.length h
        simp at hdl
        have her := hrange e (by rw [← h]; simp)
        have hnx : IntKind.wrap .i64 ((d.length : Int) + 1) = ((d ++ [e]).length : Int) := by rw [w64_next (by simp only [lenB]; omega)]; simp
        have g1 : decide ((d.length : Int) < (M.length : Int)) = true := decide_eq_true (by omega)
        have e1 : M.getD (Int.toNat (d.length : Int)) 0 = e := by rw [← h]; exact mid_get
        have hlast : (b0 :: (d ++ [e])).getLast?.getD b0 = e := by simp [List.getLast?_cons, List.getLast?_append]
        have ih := fun cnt bf (h1 : -((d.length : Int) + 1) ≤ cnt ∧ cnt ≤ (d.length : Int) + 1) h2 => ih (d ++ [e]) cnt bf (by simpa using h) (by simp; omega) h2
        rw [hlast, ← hnx] at ih
        have e2 : (b0 :: M).getD (Int.toNat (d.length : Int)) 0 = (b0 :: d).getLast?.getD b0 := by
          rw [Int.toNat_natCast, ← h]
          rcases List.eq_nil_or_concat d with rfl | ⟨d', p, rfl⟩
          · rfl
          · simp [List.getD_eq_getElem?_getD, List.getLast?_cons]
        refine Evt.step (fun k n => impl_passes_L506.eq_2 k _ _ _ _ _ _ _ n) (Evt.ctrue g1 (Evt.ctrue mid_ge (Evt.ctrue g1 ?_)))
        rw [e1]
        by_cases he : e = l
        · refine Evt.ctrue (by simp [he]) ?_
          have := ih cnt bf (by omega) hbf
          rw [decide_eq_true he] at this
          simp only [imp, if_pos he]
          exact this
        · refine Evt.cfalse (by simpa using he) (Evt.ctrue mid_ge (Evt.ctrue (decide_eq_true (by simp; omega)) ?_))
          rw [e2]
          simp only [imp, if_neg he]
          by_cases hp : (b0 :: d).getLast?.getD b0 = l
          · refine Evt.ctrue (by simp [hp]) ?_
            rw [pdW hl hbf, pdW her hl]
            have hw := wt_le l bf e
            have fin : ∀ {cnt' : Int}, cnt' = cnt + wt l bf e → Evt (fun k n => impl_passes_L506 k n l (b0 :: M) cnt' e M (M.length : Int) (IntKind.wrap .i64 ((d.length : Int) + 1))) (.inr (cnt + ((if decide ((b0 :: d).getLast?.getD b0 = l) = true then wt l bf e else 0) + imp l e false r), ())) := by
              intro cnt' hc'
              have := ih cnt' e (by omega) her
              rw [decide_eq_false he] at this
              rw [decide_eq_true hp, if_pos rfl]
              have e5 : cnt + (wt l bf e + imp l e false r) = cnt' + imp l e false r := by rw [hc']; omega
              rw [e5]
              exact this
            have w1 : IntKind.wrap .i64 (cnt + 1) = cnt + 1 := w64 (by omega) (by omega)
            have w2 : IntKind.wrap .i64 (cnt - 1) = cnt - 1 := w64 (by omega) (by omega)
            rw [w1, w2]
            have hwt : wt l bf e = if pd l bf = 1 then (if pd e l = 1 then 1 else 0) else if pd l bf = 3 then (if pd e l = 3 then -1 else 0) else 0 := rfl
            by_cases d1 : pd l bf = 1
            · rw [if_pos d1] at hwt
              have d3 : ¬ pd l bf = 3 := by omega
              refine Evt.ctrue (by simpa using d1) ?_
              by_cases d2 : pd e l = 1
              · rw [if_pos d2] at hwt
                exact Evt.ctrue (by simpa using d2) (fin (by rw [hwt]))
              · rw [if_neg d2] at hwt
                exact Evt.cfalse (by simpa using d2) (Evt.cfalse (by simpa using d3) (fin (by rw [hwt]; omega)))
            · rw [if_neg d1] at hwt
              refine Evt.cfalse (by simpa using d1) ?_
              by_cases d3 : pd l bf = 3
              · rw [if_pos d3] at hwt
                refine Evt.ctrue (by simpa using d3) ?_
                by_cases d2 : pd e l = 3
                · rw [if_pos d2] at hwt
                  exact Evt.ctrue (by simpa using d2) (fin (by rw [hwt]; omega))
                · rw [if_neg d2] at hwt
                  exact Evt.cfalse (by simpa using d2) (fin (by rw [hwt]; omega))
              · rw [if_neg d3] at hwt
                exact Evt.cfalse (by simpa using d3) (fin (by rw [hwt]; omega))
          · refine Evt.cfalse (by simpa using hp) ?_
            have := ih cnt e (by omega) her
            rw [decide_eq_false he] at this
            rw [decide_eq_false hp, if_neg (by simp), Int.zero_add]
            exact this
    have h0 := key M [] 0 b0 rfl (by simp) hbr
    have hp0 : decide (([b0] : List Int).getLast?.getD b0 = l) = false := decide_eq_false (by simpa using hb0)
    rw [hp0, himp] at h0
    simp only [List.length_nil, Int.zero_add] at h0
    exact Evt.inr (Evt.diag h0) .pure

theorem passesThrough_law (x : List Int) (l : Int) (hx : x.length ≤ maxLen) : ∃ k, laws_FnExactPassesThrough k x l = some true := by
  refine Evt.get (Evt.eq (f := fun k q => _) ?_ (fun k q => by rw [laws_FnExactPassesThrough]))
  by_cases hz : (x.length : Int) > 1000000
  · exact Evt.ctrue (decide_eq_true hz) .pure
  · refine Evt.cfalse (decide_eq_false hz) ?_
    have h1 : x.length ≤ 1000000 := by omega
    have hb : x.length < lenB := by simp only [lenB]; omega
    have both : ∃ r : Int × Bool, Evt (fun k _ => spec_PassesThrough k x l) r ∧ Evt (fun k _ => impl_PassesThrough k x l) r := by
      have sp : ∀ {r}, Evt (fun k _ => (Option.bind (spec_TurnsOf k x) fun r1 => (bif (!r1.2) then some (0, false) else (Option.bind (spec_l1In l 0 3) fun r2 => (bif (!r2) then some (0, false) else (Option.bind (spec_dgPasses k x l) fun r3 => some (r3, true))))))) r → Evt (fun k _ => spec_PassesThrough k x l) r := fun h => Evt.eq h (fun k q => by rw [spec_PassesThrough])
      have tu : ∀ {r}, Evt (fun k _ => (Option.bind (spec_imList k x) fun r1 => (bif (!r1) then some (0, false) else (bif ((x.length : Int) == 0) then some (0, false) else (Option.bind (spec_imTurns k x) fun r2 => (bif (!r2.2) then some (0, false) else some (r2.1, true))))))) r → Evt (fun k _ => spec_TurnsOf k x) r := fun h => Evt.eq h (fun k q => by rw [spec_TurnsOf])
      have im : ∀ {r}, Evt (fun k _ => (Option.bind (impl_areReasons k x) fun r1 => (bif (!r1) then some (0, false) else (bif ((x.length : Int) == 0) then some (0, false) else (Option.bind (impl_inside l 0 3) fun r2 => (bif (!r2) then some (0, false) else (Option.bind (impl_turnsOf k x) fun r3 => (bif (!r3.2) then some (0, false) else (Option.bind (impl_passes k x l) fun r4 => some (r4, true)))))))))) r → Evt (fun k _ => impl_PassesThrough k x l) r := fun h => Evt.eq h (fun k q => by rw [impl_PassesThrough])
      cases hr : rsOk x with
      | false =>
        have i1 := imList_ev hb
        have i2 := areReasons_ev hb
        rw [hr] at i1 i2
        exact ⟨(0, false), sp (Evt.bind (tu (Evt.bind i1 (Evt.ctrue rfl .pure))) (Evt.ctrue rfl .pure)), im (Evt.bind i2 (Evt.ctrue rfl .pure))⟩
      | true =>
      have i1 := imList_ev hb
      have i2 := areReasons_ev hb
      have hr2 := hr
      rw [hr] at i1 i2
      unfold rsOk at hr2
      simp only [Bool.and_eq_true, decide_eq_true_eq, List.all_eq_true] at hr2
      by_cases hz0 : x.length = 0
      · exact ⟨(0, false), sp (Evt.bind (tu (Evt.bind i1 (Evt.cfalse rfl (Evt.ctrue (by rw [hz0]; rfl) .pure)))) (Evt.ctrue rfl .pure)), im (Evt.bind i2 (Evt.cfalse rfl (Evt.ctrue (by rw [hz0]; rfl) .pure)))⟩
      have g0 : ((x.length : Int) == 0) = false := by rw [beq_eq_false_iff_ne]; omega
      obtain ⟨f, ⟨v, t1⟩, w, t2⟩ := turns_ev (x := x) (by omega) (by omega)
      cases f with
      | false =>
        refine ⟨(0, false), sp (Evt.bind (tu (Evt.bind i1 (Evt.cfalse rfl (Evt.cfalse g0 (Evt.bind t1 (Evt.ctrue rfl .pure)))))) (Evt.ctrue rfl .pure)), im (Evt.bind i2 (Evt.cfalse rfl (Evt.cfalse g0 (Evt.bind (.const (inside_eq _ _ _)) ?_))))⟩
        by_cases hl : 0 ≤ l ∧ l ≤ 3
        · exact Evt.cfalse (by rw [decide_eq_true hl]; rfl) (Evt.bind t2 (Evt.ctrue rfl .pure))
        · exact Evt.ctrue (by rw [decide_eq_false hl]; rfl) .pure
      | true =>
      by_cases hl : 0 ≤ l ∧ l ≤ 3
      · refine ⟨(tot l [] x, true), sp (Evt.bind (tu (Evt.bind i1 (Evt.cfalse rfl (Evt.cfalse g0 (Evt.bind t1 (Evt.cfalse rfl .pure)))))) (Evt.cfalse rfl (Evt.bind (.const (l1In_eq _ _ _)) (Evt.cfalse (by rw [decide_eq_true hl]; rfl) (Evt.bind (dgPasses_ev (by omega) (by omega) hr2.2 hl) .pure))))), im (Evt.bind i2 (Evt.cfalse rfl (Evt.cfalse g0 (Evt.bind (.const (inside_eq _ _ _)) (Evt.cfalse (by rw [decide_eq_true hl]; rfl) (Evt.bind t2 (Evt.cfalse rfl (Evt.bind (passes_ev (by omega) hr2.2 hl) .pure))))))))⟩
      · exact ⟨(0, false), sp (Evt.bind (tu (Evt.bind i1 (Evt.cfalse rfl (Evt.cfalse g0 (Evt.bind t1 (Evt.cfalse rfl .pure)))))) (Evt.cfalse rfl (Evt.bind (.const (l1In_eq _ _ _)) (Evt.ctrue (by rw [decide_eq_false hl]; rfl) .pure)))), im (Evt.bind i2 (Evt.cfalse rfl (Evt.cfalse g0 (Evt.bind (.const (inside_eq _ _ _)) (Evt.ctrue (by rw [decide_eq_false hl]; rfl) .pure)))))⟩
    obtain ⟨r, spec, impl⟩ := both
    refine Evt.bind (toIntS_ev h1) ?_
    simp only [toV_fst]
    refine Evt.bind spec (Evt.bind (toIntS_ev h1) ?_)
    simp only [toV_fst]
    refine Evt.bind impl (Evt.cfalse (by simp) (Evt.cfalse (by simp) (Evt.bind (toIntS_ev h1) (Evt.bind (intactIntS_ev (room_toV h1)) (Evt.cfalse rfl (Evt.bind (toIntS_ev h1) ?_))))))
    simp only [toV_fst]
    exact Evt.bind impl (Evt.cfalse (by simp) (Evt.cfalse (by simp) .pure))
theorem passesThrough_row (x : List Int) (l : Int) (h : WfT (.sl (.int .i64)) x) (_ : WfT (.int .i64) l) : ∃ k, laws_FnExactPassesThrough k x l = some true := passesThrough_law x l h.1
end Go.Ev.G
