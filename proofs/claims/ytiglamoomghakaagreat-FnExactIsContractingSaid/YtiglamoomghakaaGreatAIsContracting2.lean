/- What the plain functions of the law compute, for all inputs within the sizes that the theorems name. -/
import Derived.Test.YtiglamoomghakaaGreatPIsContracting1
import Derived.Test.YtiglamoomghakaaGreatAIsContracting1
set_option linter.unusedVariables false
namespace Go.Ev.G
open Go Go.Ev
set_option maxRecDepth 100000

theorem tmod2N (n : Nat) : Int.tmod (n : Int) 2 = ((n % 2 : Nat) : Int) := rfl
theorem rO_none {a : Int × Int} {j : Nat} (h : rO a j = none) : ∀ {m : Nat}, rO a (j + m) = none
  | 0 => h
  | m + 1 => by
    have := rO_none h (m := m)
    rw [← Nat.add_assoc, rO, this]
theorem ivRaise_loop {a z : Int × Int} (ha : gd a) {N : Nat} (hN : N ≤ 4) : ∀ (m j : Nat) (t : Int × Int), j + m = N → rO a j = some t → Evt (fun k n => spec_ivRaise_L28 k n m a z t) (match rO a N with | some v => .inr (z, v, ()) | none => .inl ((0, 0), false))
  | 0, j, t, hj, ht => by
    refine Evt.step (fun k n => spec_ivRaise_L28.eq_2 k _ _ _ _ n) (Evt.cfalse rfl ?_)
    have : j = N := by omega
    rw [← this, ht]
    exact .pure
  | m + 1, j, t, hj, ht => by
    refine Evt.step (fun k n => spec_ivRaise_L28.eq_2 k _ _ _ _ n) (Evt.ctrue (decide_eq_true (by omega)) ?_)
    refine Evt.bind (mul1_ev (rO_gd ht) ha) ?_
    have e : rO a (j + 1) = prO (t, a) := by rw [rO, ht]
    cases h : prO (t, a) with
    | none =>
      rw [h] at e
      have := rO_none e (m := m)
      rw [show j + 1 + m = N by omega] at this
      rw [this]
      exact Evt.ctrue rfl .pure
    | some v =>
      rw [h] at e
      refine Evt.cfalse rfl ?_
      have w : IntKind.wrap .i64 (((m + 1 : Nat) : Int) - 1) = (m : Int) := by rw [w64 (by omega) (by omega)]; omega
      rw [w]
      exact ivRaise_loop ha hN m (j + 1) v (by omega) e
theorem ivRaise_ev {a : Int × Int} {n : Nat} (ha : gd a) (hn : n ≤ 4) : Evt (fun k _ => spec_ivRaise k a n) (match rO a n with | some v => (v, true) | none => ((0, 0), false)) := by
  refine Evt.eq (f := fun k q => _) ?_ (fun k q => by rw [spec_ivRaise])
  refine Evt.bind (.const rfl) ?_
  have h := ivRaise_loop (z := (0, 0)) ha hn n 0 (1, 0) (by omega) rfl
  cases hr : rO a n with
  | none => rw [hr] at h; exact Evt.inl (Evt.diag h) .pure
  | some v => rw [hr] at h; exact Evt.inr (Evt.diag h) .pure
theorem ivZero_eq (i : Iv) : spec_ivZero i = some (zin i) := by
  unfold spec_ivZero zin
  cases h : decide (i.1.1 ≤ 0) <;> simp
theorem foldE_iv {x : Int × Int} : ∀ {xs : Pt} {s : Iv}, gdI s → (∀ y ∈ xs, gd y) → gdI (foldE s xs)
  | [], s, hs, _ => hs
  | y :: r, s, hs, h => by
    unfold foldE
    exact foldE_iv (x := x) ⟨minD_gd hs.1 (h y (by simp)), maxD_gd hs.2 (h y (by simp))⟩ (fun z hz => h z (by simp [hz]))
theorem ivPower_ev {i : Iv} {n : Nat} (hi : ivGd i) (hn : n ≤ 4) : Evt (fun k _ => spec_ivPower k i n) (oI (powO i n)) := by
  refine Evt.eq (f := fun k q => _) ?_ (fun k q => by rw [spec_ivPower])
  refine Evt.bind (ivRaise_ev hi.1 hn) (Evt.bind (ivRaise_ev hi.2.1 hn) ?_)
  by_cases h0 : n = 0
  · subst h0
    refine Evt.cfalse rfl (Evt.cfalse rfl ?_)
    refine Evt.inr (y := (((0, 0), 0, 0), [(1, 0), (1, 0)], ())) (Evt.cfalse rfl .pure) ?_
    refine Evt.bind (ivEnds_ev (x := (1, 0)) (xs := [(1, 0)]) (by simp [one_gd]) (by simp [lenB])) ?_
    have e : foldE ((1, 0), 1, 0) [(1, 0), (1, 0)] = ((1, 0), 1, 0) := by decide
    rw [e]
    refine Evt.bind (ivRound_ev (p := 16) ⟨one_gd, one_gd⟩ (by omega)) ?_
    rw [rdI_one]
    exact .pure
  · unfold powO
    rw [if_neg h0]
    cases h1 : rO i.1 n with
    | none => exact Evt.ctrue rfl .pure
    | some l =>
      refine Evt.cfalse rfl ?_
      cases h2 : rO i.2 n with
      | none => exact Evt.ctrue rfl .pure
      | some h =>
        refine Evt.cfalse rfl ?_
        have gl := rO_gd h1
        have gh := rO_gd h2
        have g0 : gd (0, 0) := by decide
        have ends := pow_ends hi hn h0 h1 h2
        have tm : Int.tmod (n : Int) 2 = ((n % 2 : Nat) : Int) := tmod2N n
        have fin : ∀ xs : Pt, (∀ y ∈ l :: xs, gd y) → (l :: xs).length ≤ 3 → Evt (fun k _ => Option.bind (spec_ivEnds k (l :: xs)) fun r6 => Option.bind (spec_ivRound k r6 16) fun r7 => some (r7, true)) (rdI 16 (foldE (l, l) (l :: xs)), true) := by
          intro xs hx hlen
          refine Evt.bind (ivEnds_ev (x := l) (xs := xs) hx (by simp only [lenB]; omega)) (Evt.bind (ivRound_ev (p := 16) (foldE_iv (x := l) ⟨gl, gl⟩ hx) (by omega)) .pure)
        by_cases he : n % 2 = 0
        · cases hz : zin i with
          | true =>
            refine Evt.inr (y := (((0, 0), 0, 0), [l, h, (0, 0)], ())) (Evt.ctrue (decide_eq_true (by omega)) (Evt.ctrue (by rw [tm, he]; rfl) (Evt.bind (.const (ivZero_eq i)) ?_))) ?_
            · rw [hz]
              exact Evt.ctrue rfl (Evt.bind (.const rfl) (Evt.ctrue rfl .pure))
            · rw [if_pos ⟨he, hz⟩] at ends
              rw [hz] at ends
              have := fin [h, (0, 0)] (by simp [gl, gh, g0]) (by simp)
              rw [ends] at this
              exact this
          | false =>
            refine Evt.inr (y := (((0, 0), 0, 0), [l, h], ())) (Evt.ctrue (decide_eq_true (by omega)) (Evt.ctrue (by rw [tm, he]; rfl) (Evt.bind (.const (ivZero_eq i)) ?_))) ?_
            · rw [hz]
              exact Evt.cfalse rfl .pure
            · rw [if_neg (by simp [hz])] at ends
              rw [hz] at ends
              have := fin [h] (by simp [gl, gh]) (by simp)
              rw [ends] at this
              exact this
        · refine Evt.inr (y := (((0, 0), 0, 0), [l, h], ())) (Evt.ctrue (decide_eq_true (by omega)) (Evt.cfalse ?_ .pure)) ?_
          · rw [tm]
            have : n % 2 = 1 := by omega
            rw [this]; rfl
          · rw [if_neg (by simp [he])] at ends
            have := fin [h] (by simp [gl, gh]) (by simp)
            rw [ends] at this
            exact this

def sgI (i : Iv) : Int := if 0 < i.1.1 then 1 else if i.2.1 < 0 then -1 else 0
theorem signOf_eq (i : Iv) : impl_signOf i = some (sgI i) := by
  unfold impl_signOf sgI
  by_cases h : 0 < i.1.1
  · rw [decide_eq_true h, if_pos h]; rfl
  · rw [decide_eq_false h, if_neg h]
    by_cases h2 : i.2.1 < 0
    · rw [decide_eq_true h2, if_pos h2]; rfl
    · rw [decide_eq_false h2, if_neg h2]; rfl
theorem sgI_zero (i : Iv) : (sgI i == 0) = zin i := by
  unfold sgI zin
  by_cases h : 0 < i.1.1
  · rw [if_pos h, decide_eq_false (by omega)]; rfl
  · rw [if_neg h, decide_eq_true (by omega)]
    by_cases h2 : i.2.1 < 0
    · rw [if_pos h2, decide_eq_false (by omega)]; rfl
    · rw [if_neg h2, decide_eq_true (by omega)]; rfl
def bothP (i : Iv) (j : Nat) : Bool := (rO i.1 j).isSome && (rO i.2 j).isSome
theorem prod_flag1 {c : Bool} {s a : Int × Int} : (if c = true then prodD s a else ((0, 0), false)).2 = (c && (prO (s, a)).isSome) := by
  cases c with
  | false => rfl
  | true =>
    unfold prO
    simp only [if_true, Bool.true_and]
    cases (prodD s a).2 <;> rfl
theorem prod_val1 {c : Bool} {s a v : Int × Int} (hc : c = true) (h : prO (s, a) = some v) : (if c = true then prodD s a else ((0, 0), false)).1 = v := by
  subst hc
  unfold prO at h
  simp only [if_true]
  split at h
  · cases h; rfl
  · cases h
theorem prod_gd1 {c : Bool} {s a : Int × Int} : gd (if c = true then prodD s a else ((0, 0), false)).1 := by
  split
  · exact prodD_gd _ _
  · decide
theorem power_loop {b : Bool} {i z : Iv} {x2 : Int} (hi : ivGd i) {N : Nat} (hN : N ≤ 3) : ∀ (m j : Nat) (c : Bool) (l h : Int × Int), j + m = N → gd l → gd h → c = (b && bothP i (j + 1)) → (c = true → rO i.1 (j + 1) = some l ∧ rO i.2 (j + 1) = some h) →
    ∃ l' h', gd l' ∧ gd h' ∧ ((b && bothP i (N + 1)) = true → rO i.1 (N + 1) = some l' ∧ rO i.2 (N + 1) = some h') ∧ Evt (fun k n => impl_reckoner_power_L122 k n c x2 i z l h N j) (.inr (x2, i, z, l', h', b && bothP i (N + 1), ()))
  | 0, j, c, l, h, hj, gl, gh, hc, hv => by
    have e : j = N := by omega
    subst e
    refine ⟨l, h, gl, gh, by rw [← hc]; exact hv, ?_⟩
    refine Evt.step (fun k n => impl_reckoner_power_L122.eq_2 k _ _ _ _ _ _ _ _ n) (Evt.cfalse (decide_eq_false (by omega)) ?_)
    rw [hc]
    exact .pure
  | m + 1, j, c, l, h, hj, gl, gh, hc, hv => by
    have e1 := reckoner_product_ev (b := c) gl hi.1
    have e2 := reckoner_product_ev (b := (if c = true then prodD l i.1 else ((0, 0), false)).2) gh hi.2.1
    have hstep : ∀ (a : Int × Int) (s : Int × Int), rO a (j + 1) = some s → rO a (j + 1 + 1) = prO (s, a) := by
      intro a s hs
      rw [rO, hs]
    have hflag : (if (if c = true then prodD l i.1 else ((0, 0), false)).2 = true then prodD h i.2 else ((0, 0), false)).2 = (b && bothP i (j + 1 + 1)) := by
      rw [prod_flag1, prod_flag1]
      cases hcc : c with
      | true =>
        obtain ⟨q1, q2⟩ := hv hcc
        rw [hcc] at hc
        have hb : b = true := by cases b with | false => cases hc | true => rfl
        unfold bothP
        rw [hstep _ _ q1, hstep _ _ q2, hb]
        rfl
      | false =>
        rw [hcc] at hc
        cases b with
        | false => rfl
        | true =>
          unfold bothP at hc ⊢
          cases q1 : rO i.1 (j + 1) with
          | none =>
            have := rO_none q1 (m := 1)
            rw [this]; rfl
          | some _ =>
            cases q2 : rO i.2 (j + 1) with
            | none =>
              have := rO_none q2 (m := 1)
              rw [this]; simp
            | some _ => rw [q1, q2] at hc; cases hc
    obtain ⟨l', h', r1, r2, r3, r4⟩ := power_loop hi hN m (j + 1) (b && bothP i (j + 1 + 1)) (if c = true then prodD l i.1 else ((0, 0), false)).1 (if (if c = true then prodD l i.1 else ((0, 0), false)).2 = true then prodD h i.2 else ((0, 0), false)).1 (by omega) prod_gd1 prod_gd1 rfl (by
      intro hf
      rw [← hflag] at hf
      rw [prod_flag1] at hf
      have hf1 := hf
      rw [Bool.and_eq_true] at hf
      have hf2 := hf.1
      rw [prod_flag1, Bool.and_eq_true] at hf2
      obtain ⟨q1, q2⟩ := hv hf2.1
      obtain ⟨v1, w1⟩ := Option.isSome_iff_exists.1 hf2.2
      obtain ⟨v2, w2⟩ := Option.isSome_iff_exists.1 hf.2
      rw [hstep _ _ q1, hstep _ _ q2, w1, w2, prod_val1 hf2.1 w1, prod_val1 hf.1 w2]
      exact ⟨rfl, rfl⟩)
    refine ⟨l', h', r1, r2, r3, ?_⟩
    refine Evt.step (fun k n => impl_reckoner_power_L122.eq_2 k _ _ _ _ _ _ _ _ n) (Evt.ctrue (decide_eq_true (by omega)) ?_)
    refine Evt.bind e1 (Evt.bind e2 ?_)
    have w : IntKind.wrap .i64 ((j : Int) + 1) = ((j + 1 : Nat) : Int) := by rw [w64 (by omega) (by omega)]; omega
    rw [w, hflag]
    exact r4
theorem power_ev {b : Bool} {i : Iv} {n : Nat} (hi : ivGd i) (hn : n ≤ 4) : ∃ v, gdI v ∧ (b = true → (powO i n).isSome = true → powO i n = some v) ∧ Evt (fun k _ => impl_reckoner_power k b i n) (v, b && (powO i n).isSome) := by
  by_cases h0 : n = 0
  · subst h0
    refine ⟨((1, 0), 1, 0), ⟨one_gd, one_gd⟩, fun _ _ => rfl, ?_⟩
    refine Evt.eq (f := fun k q => _) ?_ (fun k q => by rw [impl_reckoner_power])
    rw [show (powO i 0).isSome = true from rfl, Bool.and_true]
    exact Evt.ctrue rfl (Evt.bind (.const rfl) (Evt.bind (.const rfl) .pure))
  · obtain ⟨N, rfl⟩ : ∃ N, n = N + 1 := ⟨n - 1, by omega⟩
    have g0 : gd (0, 0) := by decide
    obtain ⟨l, h, gl, gh, hv, hl⟩ := power_loop (b := b) (z := ((0, 0), 0, 0)) (x2 := ((N + 1 : Nat) : Int)) hi (N := N) (by omega) N 0 b i.1 i.2 (by omega) hi.1 hi.2.1 (by unfold bothP; rw [rO_one hi.1, rO_one hi.2.1]; simp) (fun _ => ⟨rO_one hi.1, rO_one hi.2.1⟩)
    have hflag : (powO i (N + 1)).isSome = bothP i (N + 1) := by
      unfold powO bothP
      rw [if_neg h0]
      cases rO i.1 (N + 1) <;> cases rO i.2 (N + 1) <;> rfl
    have tm : Int.tmod ((N + 1 : Nat) : Int) 2 = (((N + 1) % 2 : Nat) : Int) := tmod2N (N + 1)
    let w : Iv := if (N + 1) % 2 = 0 then (if zin i then (0, 0) else minD l h, maxD l h) else (l, h)
    have gw : gdI w := by
      show gdI (if (N + 1) % 2 = 0 then (if zin i then (0, 0) else minD l h, maxD l h) else (l, h))
      split
      · refine ⟨?_, maxD_gd gl gh⟩
        simp only
        split
        · exact g0
        · exact minD_gd gl gh
      · exact ⟨gl, gh⟩
    refine ⟨rdI 16 w, rdI_gd gw, ?_, ?_⟩
    · intro hb hs
      rw [hflag] at hs
      obtain ⟨q1, q2⟩ := hv (by rw [hb, hs]; rfl)
      unfold powO
      rw [if_neg h0, q1, q2]
    · refine Evt.eq (f := fun k q => _) ?_ (fun k q => by rw [impl_reckoner_power])
      refine Evt.cfalse (by simp; omega) ?_
      have wN : IntKind.wrap .i64 (((N + 1 : Nat) : Int) - 1) = (N : Int) := by rw [w64 (by omega) (by omega)]; omega
      rw [wN, hflag]
      refine Evt.inr (Evt.diag hl) ?_
      refine Evt.inr (y := (((0, 0), 0, 0), w.1, w.2, b && bothP i (N + 1), ())) ?_ ?_
      · by_cases he : (N + 1) % 2 = 0
        · refine Evt.ctrue (by rw [tm, he]; rfl) ?_
          refine Evt.bind (lesser_ev gl gh) (Evt.bind (greater_ev2 gl gh) (Evt.bind (.const (signOf_eq i)) ?_))
          rw [sgI_zero]
          have ew : w = (if zin i then (0, 0) else minD l h, maxD l h) := if_pos he
          rw [ew]
          cases hz : zin i with
          | true => exact Evt.ctrue rfl (Evt.bind (.const rfl) .pure)
          | false => exact Evt.cfalse rfl .pure
        · have ew : w = (l, h) := if_neg he
          rw [ew]
          refine Evt.cfalse ?_ .pure
          rw [tm]
          have : (N + 1) % 2 = 1 := by omega
          rw [this]; rfl
      · exact Evt.bind (roundOut_ev (p := 16) gw (by omega)) .pure
end Go.Ev.G

namespace Go.Ev.G
open Go Go.Ev
set_option maxRecDepth 100000

def sideOk (L : Int) (p : Int × Int) : Bool := decide ((-L ≤ p.1 ∧ p.1 ≤ L) ∧ (-L ≤ p.2 ∧ p.2 ≤ L) ∧ p.1 < p.2)
def sideOdd (p : Int × Int) : Bool := (Int.tmod p.1 2 != 0) || (Int.tmod p.2 2 != 0)
def bxV (b : Int × List Int × List Int) : Bool :=
  decide (0 ≤ b.1 ∧ b.1 ≤ 8) && (decide (1 ≤ (b.2.1.length : Int) ∧ (b.2.1.length : Int) ≤ 3) && (decide (b.2.2.length = b.2.1.length) && ((b.2.1.zip b.2.2).all (sideOk (8 * 2 ^ b.1.toNat)) && (b.1 == 0 || (b.2.1.zip b.2.2).any sideOdd))))

theorem bxGood_loop {k : Nat} {d8 L : Int} {los his : List Int} (hL : 0 ≤ L ∧ L ≤ 1000000) (hb : los.length < lenB) : ∀ (r r' d d' : List Int) (b : Bool), d ++ r = los → d' ++ r' = his → d.length = d'.length → r.length = r'.length →
    Evt (fun k n => spec_bxGood_L250 k n (d8, los, his) L b los (los.length : Int) d.length) (if (r.zip r').all (sideOk L) then .inr (b || (r.zip r').any sideOdd, ()) else .inl false) := by
  intro r
  induction r with
  | nil =>
    intro r' d d' b h h' hl hr
    refine Evt.step (fun k n => spec_bxGood_L250.eq_2 k _ _ _ _ _ _ n) ?_
    rw [List.append_nil] at h
    subst h
    simp only [List.zip_nil_left, List.all_nil, List.any_nil, Bool.or_false, if_true]
    exact Evt.rng0 .pure
  | cons e r ih =>
    intro r' d d' b h h' hl hr
    obtain ⟨e', r', rfl⟩ : ∃ x y, r' = x :: y := by cases r' with
      | nil => simp at hr
      | cons x y => exact ⟨x, y, rfl⟩
    refine Evt.step (fun k n => spec_bxGood_L250.eq_2 k _ _ _ _ _ _ n) ?_
    have ih := fun b => ih r' (d ++ [e]) (d' ++ [e']) b (by simpa using h) (by simpa using h') (by simp [hl]) (by simpa using hr)
    rw [← len_next (r := r) (by rw [h]; exact hb)] at ih
    subst h
    subst h'
    simp only
    refine Evt.ctrue mid_lt (Evt.ctrue mid_ge (Evt.ctrue mid_lt (Evt.ctrue mid_ge (Evt.ctrue (two_lt (r := r) hl) ?_))))
    rw [mid_get, two_get hl]
    have hw : IntKind.wrap .i64 (0 - L) = -L := by rw [w64 (by omega) (by omega)]; omega
    rw [hw]
    refine Evt.bind (.const (l1In_eq _ _ _)) ?_
    simp only [List.zip_cons_cons, List.all_cons, List.any_cons]
    by_cases h1 : -L ≤ e ∧ e ≤ L
    · refine Evt.cfalse (by simp [h1]) (Evt.bind (.const (l1In_eq _ _ _)) ?_)
      by_cases h2 : -L ≤ e' ∧ e' ≤ L
      · refine Evt.cfalse (by simp [h2]) ?_
        by_cases h3 : e ≥ e'
        · refine Evt.ctrue (decide_eq_true h3) ?_
          have : sideOk L (e, e') = false := by unfold sideOk; exact decide_eq_false (by simp only; omega)
          simp only [this, Bool.false_and]
          exact .pure
        · refine Evt.cfalse (decide_eq_false h3) ?_
          have : sideOk L (e, e') = true := by unfold sideOk; exact decide_eq_true (by simp only; omega)
          simp only [this, Bool.true_and]
          cases b with
          | true => exact Evt.ctrue rfl (by simpa using ih true)
          | false =>
            refine Evt.cfalse rfl ?_
            cases h4 : (Int.tmod e 2 != 0) with
            | true => refine Evt.ctrue rfl ?_; simp only [sideOdd, h4, Bool.true_or, Bool.or_true]; simpa using ih true
            | false => refine Evt.cfalse rfl ?_; simp only [sideOdd, h4, Bool.false_or]; exact ih _
      · refine Evt.ctrue (by rw [decide_eq_false h2]; rfl) ?_
        have : sideOk L (e, e') = false := by unfold sideOk; exact decide_eq_false (by simp only; omega)
        simp only [this, Bool.false_and]
        exact .pure
    · refine Evt.ctrue (by rw [decide_eq_false h1]; rfl) ?_
      have : sideOk L (e, e') = false := by unfold sideOk; exact decide_eq_false (by simp only; omega)
      simp only [this, Bool.false_and]
      exact .pure

theorem isBox_loop {k : Nat} {d8 L : Int} {los his : List Int} (hL : 0 ≤ L ∧ L ≤ 1000000) (hb : los.length < lenB) : ∀ (r r' d d' : List Int) (b : Bool), d ++ r = los → d' ++ r' = his → d.length = d'.length → r.length = r'.length →
    Evt (fun k n => impl_isBox_L122 k n (d8, los, his) L b los (los.length : Int) d.length) (if (r.zip r').all (sideOk L) then .inr (b || (r.zip r').any sideOdd, ()) else .inl false) := by
  intro r
  induction r with
  | nil =>
    intro r' d d' b h h' hl hr
    refine Evt.step (fun k n => impl_isBox_L122.eq_2 k _ _ _ _ _ _ n) ?_
    rw [List.append_nil] at h
    subst h
    simp only [List.zip_nil_left, List.all_nil, List.any_nil, Bool.or_false, if_true]
    exact Evt.rng0 .pure
  | cons e r ih =>
    intro r' d d' b h h' hl hr
    obtain ⟨e', r', rfl⟩ : ∃ x y, r' = x :: y := by cases r' with
      | nil => simp at hr
      | cons x y => exact ⟨x, y, rfl⟩
    refine Evt.step (fun k n => impl_isBox_L122.eq_2 k _ _ _ _ _ _ n) ?_
    have ih := fun b => ih r' (d ++ [e]) (d' ++ [e']) b (by simpa using h) (by simpa using h') (by simp [hl]) (by simpa using hr)
    rw [← len_next (r := r) (by rw [h]; exact hb)] at ih
    subst h
    subst h'
    simp only
    refine Evt.ctrue mid_lt (Evt.ctrue mid_ge (Evt.ctrue mid_lt ?_))
    rw [mid_get]
    have hw : IntKind.wrap .i64 (0 - L) = -L := by rw [w64 (by omega) (by omega)]; omega
    rw [hw]
    refine Evt.bind (.const (inside_eq _ _ _)) ?_
    simp only [List.zip_cons_cons, List.all_cons, List.any_cons]
    by_cases h1 : -L ≤ e ∧ e ≤ L
    · refine Evt.cfalse (by simp [h1]) (Evt.ctrue mid_ge (Evt.ctrue (two_lt (r := r) hl) ?_))
      rw [two_get hl, w64 (n := e + 1) (by omega) (by omega)]
      refine Evt.bind (.const (inside_eq _ _ _)) ?_
      by_cases h2 : e + 1 ≤ e' ∧ e' ≤ L
      · refine Evt.cfalse (by simp [h2]) ?_
        have : sideOk L (e, e') = true := by unfold sideOk; exact decide_eq_true (by simp only; omega)
        simp only [this, Bool.true_and]
        cases b with
        | true => exact Evt.ctrue rfl (by simpa using ih true)
        | false =>
          refine Evt.cfalse rfl ?_
          cases h4 : (Int.tmod e 2 != 0) with
          | true => refine Evt.ctrue rfl ?_; simp only [sideOdd, h4, Bool.true_or, Bool.or_true]; simpa using ih true
          | false =>
            refine Evt.cfalse rfl (Evt.ctrue mid_ge (Evt.ctrue (two_lt (r := r) hl) ?_))
            simp only [sideOdd, h4, Bool.false_or]; exact ih _
      · refine Evt.ctrue (by rw [decide_eq_false h2]; rfl) ?_
        have : sideOk L (e, e') = false := by unfold sideOk; exact decide_eq_false (by simp only; omega)
        simp only [this, Bool.false_and]
        exact .pure
    · refine Evt.ctrue (by rw [decide_eq_false h1]; rfl) ?_
      have : sideOk L (e, e') = false := by unfold sideOk; exact decide_eq_false (by simp only; omega)
      simp only [this, Bool.false_and]
      exact .pure

theorem pow8 {n : Nat} (h : n ≤ 8) : (0 : Int) ≤ 8 * 2 ^ n ∧ (8 : Int) * 2 ^ n ≤ 2048 := by
  have h1 : (2 : Nat) ^ n ≤ 2 ^ 8 := Nat.pow_le_pow_right (by omega) h
  have h2 : ((2 : Int) ^ n) = ((2 ^ n : Nat) : Int) := by simp
  rw [h2]
  have h3 : (2 : Nat) ^ 8 = 256 := by decide
  rw [h3] at h1
  generalize (2 : Nat) ^ n = q at h1
  omega

theorem bxGood_ev {b : Int × List Int × List Int} (hb : b.2.1.length < lenB) : Evt (fun k _ => spec_bxGood k b) (bxV b) := by
  obtain ⟨d8, los, his⟩ := b
  refine Evt.eq (f := fun k q => _) ?_ (fun k q => by rw [spec_bxGood])
  unfold bxV
  simp only at hb ⊢
  refine Evt.bind (.const (l1In_eq _ _ _)) ?_
  by_cases h1 : 0 ≤ d8 ∧ d8 ≤ 8
  · refine Evt.cfalse (by simp [h1]) (Evt.bind (.const (l1In_eq _ _ _)) ?_)
    rw [decide_eq_true h1, Bool.true_and]
    by_cases h2 : 1 ≤ (los.length : Int) ∧ (los.length : Int) ≤ 3
    · refine Evt.cfalse (by rw [decide_eq_true h2]; rfl) ?_
      rw [decide_eq_true h2, Bool.true_and]
      by_cases h3 : his.length = los.length
      · refine Evt.cfalse (by simp [h3]) ?_
        rw [decide_eq_true h3, Bool.true_and]
        obtain ⟨m, rfl⟩ : ∃ m : Nat, d8 = m := ⟨d8.toNat, by omega⟩
        have hm : m ≤ 8 := by omega
        have hp := pow8 hm
        have e1 : ((2 ^ m : Nat) : Int) = 2 ^ m := by simp
        refine Evt.bind (.const (dyPower_eq (by omega))) ?_
        rw [e1, w64 (by omega) (by omega)]
        have h0 := bxGood_loop (k := 0) (d8 := (m : Int)) (L := 8 * 2 ^ m) (los := los) (his := his) (by omega) hb los his [] [] ((m : Int) == 0) rfl rfl rfl h3.symm
        simp only [List.length_nil, Int.toNat_natCast] at h0 ⊢
        cases hall : (los.zip his).all (sideOk (8 * 2 ^ m)) with
        | true => rw [hall] at h0; exact Evt.inr (Evt.diag h0) .pure
        | false => rw [hall] at h0; exact Evt.inl (Evt.diag h0) .pure
      · refine Evt.ctrue (by rw [bne_iff_ne]; omega) ?_
        rw [decide_eq_false h3]; exact .pure
    · refine Evt.ctrue (by rw [decide_eq_false h2]; rfl) ?_
      rw [decide_eq_false h2]; exact .pure
  · refine Evt.ctrue (by rw [decide_eq_false h1]; rfl) ?_
    rw [decide_eq_false h1]; exact .pure

theorem isBox_ev {b : Int × List Int × List Int} (hb : b.2.1.length < lenB) : Evt (fun k _ => impl_isBox k b) (bxV b) := by
  obtain ⟨d8, los, his⟩ := b
  refine Evt.eq (f := fun k q => _) ?_ (fun k q => by rw [impl_isBox])
  unfold bxV
  simp only at hb ⊢
  refine Evt.bind (.const (inside_eq _ _ _)) ?_
  by_cases h1 : 0 ≤ d8 ∧ d8 ≤ 8
  · refine Evt.cfalse (by simp [h1]) (Evt.bind (.const (inside_eq _ _ _)) ?_)
    rw [decide_eq_true h1, Bool.true_and]
    by_cases h2 : 1 ≤ (los.length : Int) ∧ (los.length : Int) ≤ 3
    · refine Evt.cfalse (by rw [decide_eq_true h2]; rfl) ?_
      rw [decide_eq_true h2, Bool.true_and]
      by_cases h3 : his.length = los.length
      · refine Evt.cfalse (by simp [h3]) ?_
        rw [decide_eq_true h3, Bool.true_and]
        obtain ⟨m, rfl⟩ : ∃ m : Nat, d8 = m := ⟨d8.toNat, by omega⟩
        have hm : m ≤ 8 := by omega
        have hp := pow8 hm
        refine Evt.cfalse (by simp) ?_
        have e0 : min (Int.toNat (m : Int)) (IntKind.bits .i64) = m := by
          rw [Int.toNat_natCast]; exact Nat.min_eq_left (by simp only [IntKind.bits]; omega)
        rw [e0, w64 (by omega) (by omega)]
        have h0 := isBox_loop (k := 0) (d8 := (m : Int)) (L := 8 * 2 ^ m) (los := los) (his := his) (by omega) hb los his [] [] ((m : Int) == 0) rfl rfl rfl h3.symm
        simp only [List.length_nil, Int.toNat_natCast] at h0 ⊢
        cases hall : (los.zip his).all (sideOk (8 * 2 ^ m)) with
        | true => rw [hall] at h0; exact Evt.inr (Evt.diag h0) .pure
        | false => rw [hall] at h0; exact Evt.inl (Evt.diag h0) .pure
      · refine Evt.ctrue (by rw [bne_iff_ne]; omega) ?_
        rw [decide_eq_false h3]; exact .pure
    · refine Evt.ctrue (by rw [decide_eq_false h2]; rfl) ?_
      rw [decide_eq_false h2]; exact .pure
  · refine Evt.ctrue (by rw [decide_eq_false h1]; rfl) ?_
    rw [decide_eq_false h1]; exact .pure

end Go.Ev.G

namespace Go.Ev.G
open Go Go.Ev
set_option maxRecDepth 100000

abbrev Tm := Int × Int × Int × Int
def tmGd (t : Tm) : Prop := (-1000 ≤ t.1 ∧ t.1 ≤ 1000) ∧ (0 ≤ t.2.1 ∧ t.2.1 ≤ 4) ∧ (0 ≤ t.2.2.1 ∧ t.2.2.1 ≤ 4) ∧ (0 ≤ t.2.2.2 ∧ t.2.2.2 ≤ 4) ∧ t.2.1 + t.2.2.1 + t.2.2.2 ≤ 4
instance : DecidablePred tmGd := fun x => by unfold tmGd; exact inferInstance

theorem poTerm_eq (t : Tm) : spec_poTerm t = some (decide (tmGd t)) := by
  unfold spec_poTerm
  simp only [l1In_eq, Option.bind_some]
  by_cases h1 : -1000 ≤ t.1 ∧ t.1 ≤ 1000
  · rw [decide_eq_true h1, cond_true]
    by_cases h2 : 0 ≤ t.2.1 ∧ t.2.1 ≤ 4
    · rw [decide_eq_true h2, cond_true]
      by_cases h3 : 0 ≤ t.2.2.1 ∧ t.2.2.1 ≤ 4
      · rw [decide_eq_true h3, cond_true]
        by_cases h4 : 0 ≤ t.2.2.2 ∧ t.2.2.2 ≤ 4
        · rw [decide_eq_true h4, cond_true, w64 (n := t.2.1 + t.2.2.1) (by omega) (by omega), w64 (by omega) (by omega)]
          congr 1
          rw [decide_eq_decide]
          exact ⟨fun h => ⟨h1, h2, h3, h4, h⟩, fun h => h.2.2.2.2⟩
        · rw [decide_eq_false h4, decide_eq_false fun h : tmGd t => h4 h.2.2.2.1]; rfl
      · rw [decide_eq_false h3, decide_eq_false fun h : tmGd t => h3 h.2.2.1]; rfl
    · rw [decide_eq_false h2, decide_eq_false fun h : tmGd t => h2 h.2.1]; rfl
  · rw [decide_eq_false h1, decide_eq_false fun h : tmGd t => h1 h.1]; rfl

theorem hasDegree_eq {t : Tm} (h1 : -1000 ≤ t.1 ∧ t.1 ≤ 1000) : impl_hasDegree t = some (decide (tmGd t)) := by
  unfold impl_hasDegree impl_Term_degree
  simp only [inside_eq, Option.bind_some]
  by_cases h2 : 0 ≤ t.2.1 ∧ t.2.1 ≤ 4
  · rw [decide_eq_true h2, cond_true]
    by_cases h3 : 0 ≤ t.2.2.1 ∧ t.2.2.1 ≤ 4
    · rw [decide_eq_true h3, cond_true]
      by_cases h4 : 0 ≤ t.2.2.2 ∧ t.2.2.2 ≤ 4
      · rw [decide_eq_true h4, cond_true, w64 (n := t.2.1 + t.2.2.1) (by omega) (by omega), w64 (by omega) (by omega)]
        congr 1
        rw [decide_eq_decide]
        exact ⟨fun h => ⟨h1, h2, h3, h4, h⟩, fun h => h.2.2.2.2⟩
      · rw [decide_eq_false h4, decide_eq_false fun h : tmGd t => h4 h.2.2.2.1]; rfl
    · rw [decide_eq_false h3, decide_eq_false fun h : tmGd t => h3 h.2.2.1]; rfl
  · rw [decide_eq_false h2, decide_eq_false fun h : tmGd t => h2 h.2.1]; rfl

def lexI (a b : Tm) : Int := if a.2.1 ≠ b.2.1 then cmpI a.2.1 b.2.1 else if a.2.2.1 ≠ b.2.2.1 then cmpI a.2.2.1 b.2.2.1 else cmpI a.2.2.2 b.2.2.2
theorem cmpI_sub (a b : Int) : cmpI (a - b) 0 = cmpI a b := by
  unfold cmpI
  split <;> split <;> (try split) <;> (try split) <;> omega
theorem poOrder_eq {a b : Tm} (ha : tmGd a) (hb : tmGd b) : spec_poOrder a b = some (lexI a b) := by
  have a1 := ha.2
  have b1 := hb.2
  unfold spec_poOrder lexI
  rw [w64 (n := a.2.1 - b.2.1) (by omega) (by omega), w64 (n := a.2.2.1 - b.2.2.1) (by omega) (by omega), w64 (n := a.2.2.2 - b.2.2.2) (by omega) (by omega)]
  simp only [sign_eq, Option.bind_some, cmpI_sub]
  by_cases h1 : a.2.1 = b.2.1
  · rw [if_neg (by simpa using h1), show (a.2.1 != b.2.1) = false by simpa using h1, cond_false]
    by_cases h2 : a.2.2.1 = b.2.2.1
    · rw [if_neg (by simpa using h2), show (a.2.2.1 != b.2.2.1) = false by simpa using h2, cond_false]
    · rw [if_pos h2, show (a.2.2.1 != b.2.2.1) = true by simpa using h2, cond_true]
  · rw [if_pos h1, show (a.2.1 != b.2.1) = true by simpa using h1, cond_true]

theorem cmpC_eq (a b : Int) : cmp_Compare_int a b = some (cmpI a b) := by
  unfold cmp_Compare_int cmp_isNaN_int cmpI
  simp only [bne_self_eq_false, Option.bind_some, cond_false]
  by_cases h : a < b
  · simp [h]
  · by_cases h2 : b < a
    · simp [h, h2]
    · simp [h, h2]

theorem or3_ev (x y z : Int) : Evt (fun k _ => cmp_Or_int k [x, y, z]) (orI x (orI y z)) := by
  refine Evt.eq (f := fun k q => _) ?_ (fun k q => by rw [cmp_Or_int])
  have w1 : IntKind.wrap .i64 (0 + 1) = 1 := by decide
  have w2 : IntKind.wrap .i64 (1 + 1) = 2 := by decide
  have w3 : IntKind.wrap .i64 (2 + 1) = 3 := by decide
  have l3 : Evt (fun k n => cmp_Or_int_L58 k n 0 [x, y, z] 3 3) (.inr (0, ())) := Evt.step (fun k n => cmp_Or_int_L58.eq_2 k _ _ _ _ n) (Evt.cfalse rfl .pure)
  have l2 : Evt (fun k n => cmp_Or_int_L58 k n 0 [x, y, z] 3 2) (if z != 0 then .inl z else .inr (0, ())) := by
    refine Evt.step (fun k n => cmp_Or_int_L58.eq_2 k _ _ _ _ n) (Evt.ctrue rfl (Evt.ctrue rfl (Evt.ctrue rfl ?_)))
    rw [w3]
    cases h : (z != 0) with
    | true => exact Evt.ctrue h .pure
    | false => exact Evt.cfalse h l3
  have l1 : Evt (fun k n => cmp_Or_int_L58 k n 0 [x, y, z] 3 1) (if y != 0 then .inl y else if z != 0 then .inl z else .inr (0, ())) := by
    refine Evt.step (fun k n => cmp_Or_int_L58.eq_2 k _ _ _ _ n) (Evt.ctrue rfl (Evt.ctrue rfl (Evt.ctrue rfl ?_)))
    rw [w2]
    cases h : (y != 0) with
    | true => exact Evt.ctrue h .pure
    | false => exact Evt.cfalse h l2
  have l0 : Evt (fun k n => cmp_Or_int_L58 k n 0 [x, y, z] (([x, y, z] : List Int).length : Int) 0) (if x != 0 then .inl x else if y != 0 then .inl y else if z != 0 then .inl z else .inr (0, ())) := by
    refine Evt.step (fun k n => cmp_Or_int_L58.eq_2 k _ _ _ _ n) (Evt.ctrue rfl (Evt.ctrue rfl (Evt.ctrue rfl ?_)))
    rw [w1]
    cases h : (x != 0) with
    | true => exact Evt.ctrue h .pure
    | false => exact Evt.cfalse h l1
  unfold orI
  cases hx : (x != 0) with
  | true =>
    rw [hx] at l0
    rw [show (x == 0) = false by simpa using hx]
    exact Evt.inl (Evt.diag l0) .pure
  | false =>
    rw [hx] at l0
    rw [show (x == 0) = true by simpa using hx, cond_true]
    cases hy : (y != 0) with
    | true =>
      rw [hy] at l0
      rw [show (y == 0) = false by simpa using hy]
      exact Evt.inl (Evt.diag l0) .pure
    | false =>
      rw [hy] at l0
      rw [show (y == 0) = true by simpa using hy, cond_true]
      cases hz : (z != 0) with
      | true => rw [hz] at l0; exact Evt.inl (Evt.diag l0) .pure
      | false =>
        rw [hz] at l0
        have hz0 : z = 0 := by simpa using hz
        subst hz0
        exact Evt.inr (Evt.diag l0) .pure

theorem cmpI_zero (a b : Int) : cmpI a b = 0 ↔ a = b := by
  unfold cmpI
  split <;> (try split) <;> omega
theorem compareTerms_ev (a b : Tm) : Evt (fun k _ => impl_compareTerms k a b) (lexI a b) := by
  refine Evt.eq (f := fun k q => _) ?_ (fun k q => by rw [impl_compareTerms])
  refine Evt.bind (.const (cmpC_eq _ _)) (Evt.bind (.const (cmpC_eq _ _)) (Evt.bind (.const (cmpC_eq _ _)) (Evt.bind (or3_ev _ _ _) ?_)))
  have : orI (cmpI a.2.1 b.2.1) (orI (cmpI a.2.2.1 b.2.2.1) (cmpI a.2.2.2 b.2.2.2)) = lexI a b := by
    unfold lexI
    by_cases h1 : a.2.1 = b.2.1
    · rw [(cmpI_zero _ _).2 h1, orI_z, if_neg (by simpa using h1)]
      by_cases h2 : a.2.2.1 = b.2.2.1
      · rw [(cmpI_zero _ _).2 h2, orI_z, if_neg (by simpa using h2)]
      · rw [orI_ne (fun h => h2 ((cmpI_zero _ _).1 h)), if_pos h2]
    · rw [orI_ne (fun h => h1 ((cmpI_zero _ _).1 h)), if_pos h1]
  rw [this]
  exact .pure

def okFrom : Option Tm → List Tm → Bool
  | _, [] => true
  | p, e :: r => (decide (tmGd e) && !(e.1 == 0)) && ((match p with | none => true | some q => decide (lexI q e < 0)) && okFrom (some e) r)
def lastO (d : List Tm) : Option Tm := d.getLast?
def polyV (xs : List Tm) : Bool := okFrom none xs && decide ((xs.length : Int) ≤ 20)

theorem okFrom_gd : ∀ (r : List Tm) (p : Option Tm), okFrom p r = true → ∀ t ∈ r, tmGd t
  | [], _, _ => by simp
  | e :: r, p, h => by
    unfold okFrom at h
    simp only [Bool.and_eq_true, decide_eq_true_eq] at h
    intro t ht
    rcases List.mem_cons.1 ht with rfl | ht
    · exact h.1.1
    · exact okFrom_gd r _ h.2.2 t ht
theorem polyV_gd {xs : List Tm} (h : polyV xs = true) : ∀ t ∈ xs, tmGd t := by
  unfold polyV at h
  rw [Bool.and_eq_true] at h
  exact okFrom_gd xs _ h.1

theorem last_get {d r : List Tm} {e q z : Tm} : (d ++ [q] ++ e :: r).getD (Int.toNat (d.length : Int)) z = q := by simp

theorem poGood_ev {xs : List Tm} (hb : xs.length < lenB) : Evt (fun k _ => spec_poGood k xs) (polyV xs) := by
  refine Evt.eq (f := fun k q => _) ?_ (fun k q => by rw [spec_poGood])
  have key : ∀ (r d : List Tm), d ++ r = xs → (∀ q, lastO d = some q → tmGd q) → Evt (fun k n => spec_poGood_L26 k n xs xs (xs.length : Int) d.length) (if okFrom (lastO d) r then .inr (xs, ()) else .inl false) := by
    intro r
    induction r with
    | nil =>
      intro d h hg
      refine Evt.step (fun k n => spec_poGood_L26.eq_2 k _ _ _ _ n) ?_
      rw [List.append_nil] at h
      subst h
      exact Evt.rng0 .pure
    | cons e r ih =>
      intro d h hg
      refine Evt.step (fun k n => spec_poGood_L26.eq_2 k _ _ _ _ n) ?_
      have ih := ih (d ++ [e]) (by simpa using h)
      rw [← len_next (r := r) (by rw [h]; exact hb)] at ih
      rw [show lastO (d ++ [e]) = some e by simp [lastO]] at ih
      subst h
      refine Evt.ctrue mid_lt (Evt.ctrue mid_ge (Evt.ctrue mid_lt ?_))
      rw [mid_get]
      refine Evt.bind (.const (poTerm_eq e)) ?_
      unfold okFrom
      by_cases h1 : tmGd e
      · simp only [decide_eq_true h1, Bool.true_and]
        refine Evt.cfalse rfl ?_
        have ih := ih (fun q hq => by cases hq; exact h1)
        cases h2 : (e.1 == 0) with
        | true => exact Evt.ctrue rfl .pure
        | false =>
          refine Evt.cfalse rfl ?_
          simp only [Bool.not_false, Bool.true_and]
          rcases List.eq_nil_or_concat d with rfl | ⟨d0, q, rfl⟩
          · exact Evt.cfalse rfl (by simpa [lastO] using ih)
          · simp only [List.concat_eq_append] at hg ih ⊢
            have hq : lastO (d0 ++ [q]) = some q := by simp [lastO]
            have hl : (((d0 ++ [q]).length : Nat) : Int) = (d0.length : Int) + 1 := by simp
            have hlb : d0.length < lenB := by simp at hb; omega
            simp only [lenB] at hlb
            refine Evt.ctrue (by rw [hl]; exact decide_eq_true (by omega)) ?_
            have hw : IntKind.wrap .i64 (((d0 ++ [q]).length : Int) - 1) = (d0.length : Int) := by rw [hl, w64 (by omega) (by omega)]; omega
            rw [hw, last_get]
            refine Evt.ctrue (by simp) (Evt.ctrue (by simp <;> omega) (Evt.bind (.const (poOrder_eq (hg q hq) h1)) ?_))
            simp only [hq]
            by_cases h3 : lexI q e < 0
            · simp only [decide_eq_true h3, Bool.true_and]
              exact Evt.cfalse (decide_eq_false (by omega)) ih
            · simp only [decide_eq_false h3, Bool.false_and]
              exact Evt.ctrue (decide_eq_true (by omega)) .pure
      · simp only [decide_eq_false h1, Bool.false_and]
        exact Evt.ctrue rfl .pure
  have h0 := key xs [] rfl (by intro q hq; cases hq)
  simp only [List.length_nil] at h0
  unfold polyV
  rw [show lastO [] = none from rfl] at h0
  cases hall : okFrom none xs with
  | true => rw [hall] at h0; exact Evt.inr (Evt.diag h0) .pure
  | false => rw [hall] at h0; exact Evt.inl (Evt.diag h0) .pure

theorem isPoly_ev {xs : List Tm} (hb : xs.length < lenB) : Evt (fun k _ => impl_isPoly k xs) (polyV xs) := by
  refine Evt.eq (f := fun k q => _) ?_ (fun k q => by rw [impl_isPoly])
  have key : ∀ (r d : List Tm), d ++ r = xs → Evt (fun k n => impl_isPoly_L26 k n xs xs (xs.length : Int) d.length) (if okFrom (lastO d) r then .inr (xs, ()) else .inl false) := by
    intro r
    induction r with
    | nil =>
      intro d h
      refine Evt.step (fun k n => impl_isPoly_L26.eq_2 k _ _ _ _ n) ?_
      rw [List.append_nil] at h
      subst h
      exact Evt.rng0 .pure
    | cons e r ih =>
      intro d h
      refine Evt.step (fun k n => impl_isPoly_L26.eq_2 k _ _ _ _ n) ?_
      have ih := ih (d ++ [e]) (by simpa using h)
      rw [← len_next (r := r) (by rw [h]; exact hb)] at ih
      rw [show lastO (d ++ [e]) = some e by simp [lastO]] at ih
      subst h
      refine Evt.ctrue mid_lt (Evt.ctrue mid_ge (Evt.ctrue mid_lt ?_))
      rw [mid_get]
      unfold okFrom
      cases h2 : (e.1 == 0) with
      | true =>
        simp only [Bool.not_true, Bool.and_false, Bool.false_and]
        exact Evt.ctrue rfl .pure
      | false =>
      refine Evt.cfalse rfl (Evt.bind (.const (inside_eq _ _ _)) ?_)
      simp only [Bool.not_false, Bool.and_true]
      by_cases h0 : -1000 ≤ e.1 ∧ e.1 ≤ 1000
      · refine Evt.cfalse (by rw [decide_eq_true h0]; rfl) (Evt.bind (.const (hasDegree_eq h0)) ?_)
        by_cases h1 : tmGd e
        · simp only [decide_eq_true h1, Bool.true_and]
          refine Evt.cfalse rfl ?_
          rcases List.eq_nil_or_concat d with rfl | ⟨d0, q, rfl⟩
          · exact Evt.cfalse rfl (by simpa [lastO] using ih)
          · simp only [List.concat_eq_append] at ih ⊢
            have hq : lastO (d0 ++ [q]) = some q := by simp [lastO]
            have hl : (((d0 ++ [q]).length : Nat) : Int) = (d0.length : Int) + 1 := by simp
            have hlb : d0.length < lenB := by simp at hb; omega
            simp only [lenB] at hlb
            refine Evt.ctrue (by rw [hl]; exact decide_eq_true (by omega)) ?_
            have hw : IntKind.wrap .i64 (((d0 ++ [q]).length : Int) - 1) = (d0.length : Int) := by rw [hl, w64 (by omega) (by omega)]; omega
            rw [hw, last_get]
            refine Evt.ctrue (by simp) (Evt.ctrue (by simp <;> omega) (Evt.bind (compareTerms_ev q e) ?_))
            simp only [hq]
            by_cases h3 : lexI q e < 0
            · simp only [decide_eq_true h3, Bool.true_and]
              exact Evt.cfalse (decide_eq_false (by omega)) ih
            · simp only [decide_eq_false h3, Bool.false_and]
              exact Evt.ctrue (decide_eq_true (by omega)) .pure
        · simp only [decide_eq_false h1, Bool.false_and]
          exact Evt.ctrue rfl .pure
      · simp only [decide_eq_false fun h : tmGd e => h0 h.1, Bool.false_and]
        exact Evt.ctrue (by rw [decide_eq_false h0]; rfl) .pure
  have h0 := key xs [] rfl
  simp only [List.length_nil] at h0
  unfold polyV
  rw [show lastO [] = none from rfl] at h0
  cases hall : okFrom none xs with
  | true => rw [hall] at h0; exact Evt.inr (Evt.diag h0) .pure
  | false => rw [hall] at h0; exact Evt.inl (Evt.diag h0) .pure
end Go.Ev.G

namespace Go.Ev.G
open Go Go.Ev
set_option maxRecDepth 100000

def pw (t : Tm) (j : Nat) : Int := if j = 0 then t.2.1 else if j = 1 then t.2.2.1 else t.2.2.2
def big (xs : List Tm) (j : Nat) : Bool := xs.any fun t => decide (pw t j > 0)
def needs (n : Nat) (xs : List Tm) : Bool := (decide (n ≤ 0) && big xs 0) || ((decide (n ≤ 1) && big xs 1) || (decide (n ≤ 2) && big xs 2))

theorem poPower_eq (t : Tm) (j : Nat) : spec_poPower t j = some (pw t j) := by
  unfold spec_poPower pw
  by_cases h : j = 0
  · subst h; rfl
  · rw [if_neg h, show ((j : Int) == 0) = false by simp; omega, cond_false]
    by_cases h1 : j = 1
    · subst h1; rfl
    · rw [if_neg h1, show ((j : Int) == 1) = false by simp; omega, cond_false]

def degV (j : Nat) : Int → List Tm → Int
  | m, [] => m
  | m, t :: r => degV j (max m (pw t j)) r
theorem degV_pos (j : Nat) : ∀ (xs : List Tm) (m : Int), decide (degV j m xs > 0) = (decide (m > 0) || big xs j)
  | [], m => by simp [degV, big]
  | t :: r, m => by
    rw [degV, degV_pos j r]
    unfold big
    rw [List.any_cons, ← Bool.or_assoc]
    congr 1
    rw [Bool.eq_iff_iff]
    simp only [Bool.or_eq_true, decide_eq_true_eq]
    omega

theorem degreeIn_ev {xs : List Tm} {j : Nat} (hb : xs.length < lenB) : Evt (fun k _ => spec_poDegreeIn k xs j) (degV j (-1) xs) := by
  refine Evt.eq (f := fun k q => _) ?_ (fun k q => by rw [spec_poDegreeIn])
  have key : ∀ (r d : List Tm) (m : Int), d ++ r = xs → Evt (fun k n => spec_poDegreeIn_L58 k n j m xs (xs.length : Int) d.length) (.inr (degV j m r, ())) := by
    intro r
    induction r with
    | nil =>
      intro d m h
      refine Evt.step (fun k n => spec_poDegreeIn_L58.eq_2 k _ _ _ _ _ n) ?_
      rw [List.append_nil] at h
      subst h
      exact Evt.rng0 .pure
    | cons e r ih =>
      intro d m h
      refine Evt.step (fun k n => spec_poDegreeIn_L58.eq_2 k _ _ _ _ _ n) ?_
      have ih := ih (d ++ [e]) (max m (pw e j)) (by simpa using h)
      rw [← len_next (r := r) (by rw [h]; exact hb)] at ih
      subst h
      refine Evt.ctrue mid_lt (Evt.ctrue mid_ge (Evt.ctrue mid_lt ?_))
      rw [mid_get]
      exact Evt.bind (.const (poPower_eq _ _)) (Evt.bind (.const (most_eq _ _)) ih)
  have h0 := key xs [] (-1) rfl
  simp only [List.length_nil] at h0
  exact Evt.inr (Evt.diag h0) .pure

theorem system_inner {n : Nat} {xs : List Tm} (hb : xs.length < lenB) (x0 x6 : List (List Tm)) (x7 x8 : Int) :
    Evt (fun k m => spec_poSystem_L13518 k m x0 xs (n : Int) x6 x7 x8) (if needs n xs then .inl false else .inr (x0, x6, x7, x8, ())) := by
  have l3 : ∀ j : Nat, 3 ≤ j → Evt (fun k m => spec_poSystem_L13518 k m x0 xs (j : Int) x6 x7 x8) (.inr (x0, x6, x7, x8, ())) := by
    intro j hj
    exact Evt.step (fun k m => spec_poSystem_L13518.eq_2 k _ _ _ _ _ _ m) (Evt.cfalse (decide_eq_false (by omega)) .pure)
  have st : ∀ (j : Nat) (b : Bool), j < 3 → Evt (fun k m => spec_poSystem_L13518 k m x0 xs ((j + 1 : Nat) : Int) x6 x7 x8) (if b then .inl false else .inr (x0, x6, x7, x8, ())) → Evt (fun k m => spec_poSystem_L13518 k m x0 xs (j : Int) x6 x7 x8) (if (big xs j || b) then .inl false else .inr (x0, x6, x7, x8, ())) := by
    intro j b hj h
    refine Evt.step (fun k m => spec_poSystem_L13518.eq_2 k _ _ _ _ _ _ m) (Evt.ctrue (decide_eq_true (by omega)) (Evt.bind (degreeIn_ev hb) ?_))
    rw [degV_pos]
    rw [w64_next (by simp only [lenB]; omega)]
    cases big xs j with
    | true => exact Evt.ctrue rfl .pure
    | false => exact Evt.cfalse rfl (by simpa using h)
  have l2 := st 2 false (by omega) (by simpa using l3 3 (by omega))
  have l1 := st 1 _ (by omega) l2
  have l0 := st 0 _ (by omega) l1
  match n with
  | 0 => simpa [needs] using l0
  | 1 => simpa [needs] using l1
  | 2 => simpa [needs] using l2
  | m + 3 =>
    have := l3 (m + 3) (by omega)
    have e : needs (m + 3) xs = false := by simp [needs]
    rw [e]
    exact this

def sysV (m : List (List Tm)) : Bool := (m.all fun xs => polyV xs && !needs m.length xs) && decide (1 ≤ (m.length : Int) ∧ (m.length : Int) ≤ 3)

theorem poSystem_ev {m : List (List Tm)} (hb : m.length < lenB) (hm : ∀ r ∈ m, r.length < lenB) : Evt (fun k _ => spec_poSystem k m) (sysV m) := by
  refine Evt.eq (f := fun k q => _) ?_ (fun k q => by rw [spec_poSystem])
  have key : ∀ (r d : List (List Tm)), d ++ r = m → Evt (fun k n => spec_poSystem_L26 k n m m (m.length : Int) d.length) (if (r.all fun xs => polyV xs && !needs m.length xs) then .inr (m, ()) else .inl false) := by
    intro r
    induction r with
    | nil =>
      intro d h
      refine Evt.step (fun k n => spec_poSystem_L26.eq_2 k _ _ _ _ n) ?_
      rw [List.append_nil] at h
      subst h
      exact Evt.rng0 .pure
    | cons e r ih =>
      intro d h
      refine Evt.step (fun k n => spec_poSystem_L26.eq_2 k _ _ _ _ n) ?_
      have he := hm e (by rw [← h]; simp)
      have ih := ih (d ++ [e]) (by simpa using h)
      rw [← len_next (r := r) (by rw [h]; exact hb)] at ih
      have hi := system_inner (n := m.length) he m m (m.length : Int) (d.length : Int)
      subst h
      refine Evt.ctrue mid_lt (Evt.ctrue mid_ge (Evt.ctrue mid_lt ?_))
      rw [mid_get]
      refine Evt.bind (poGood_ev he) ?_
      cases hp : polyV e with
      | false => simp only [List.all_cons, hp, Bool.false_and]; exact Evt.ctrue rfl .pure
      | true =>
        refine Evt.cfalse rfl ?_
        cases hn : needs (d ++ e :: r).length e with
        | true => rw [hn] at hi; simp only [List.all_cons, hp, hn, Bool.not_true, Bool.and_false, Bool.false_and]; exact Evt.inl (Evt.diag hi) .pure
        | false => rw [hn] at hi; simp only [List.all_cons, hp, hn, Bool.not_false, Bool.true_and]; exact Evt.inr (Evt.diag hi) ih
  have h0 := key m [] rfl
  simp only [List.length_nil] at h0
  unfold sysV
  cases hall : (m.all fun xs => polyV xs && !needs m.length xs) with
  | true => rw [hall] at h0; exact Evt.inr (Evt.diag h0) (Evt.bind (.const (l1In_eq _ _ _)) .pure)
  | false => rw [hall] at h0; exact Evt.inl (Evt.diag h0) .pure

def needsT (n : Nat) (t : Tm) : Bool := (decide (n ≤ 0) && decide (t.2.1 > 0)) || ((decide (n ≤ 1) && decide (t.2.2.1 > 0)) || (decide (n ≤ 2) && decide (t.2.2.2 > 0)))
theorem needs_any (n : Nat) (xs : List Tm) : needs n xs = xs.any (needsT n) := by
  rw [Bool.eq_iff_iff]
  simp only [needs, big, Bool.or_eq_true, Bool.and_eq_true, decide_eq_true_eq, List.any_eq_true, needsT, pw]
  constructor
  · rintro (⟨h, t, ht, hp⟩ | ⟨h, t, ht, hp⟩ | ⟨h, t, ht, hp⟩)
    · exact ⟨t, ht, .inl ⟨h, by simpa using hp⟩⟩
    · exact ⟨t, ht, .inr (.inl ⟨h, by simpa using hp⟩)⟩
    · exact ⟨t, ht, .inr (.inr ⟨h, by simpa using hp⟩)⟩
  · rintro ⟨t, ht, ⟨h, hp⟩ | ⟨h, hp⟩ | ⟨h, hp⟩⟩
    · exact .inl ⟨h, t, ht, by simpa using hp⟩
    · exact .inr (.inl ⟨h, t, ht, by simpa using hp⟩)
    · exact .inr (.inr ⟨h, t, ht, by simpa using hp⟩)

theorem needs_inner (n : Nat) (t : Tm) (x9 : List Tm) (x10 x11 : Int) :
    Evt (fun k m => impl_needsAtMost_L6758 k m (n : Int) x9 x10 x11 t.2 0) (if needsT n t then .inl false else .inr ((n : Int), x9, x10, x11, ())) := by
  have w1 : IntKind.wrap .i64 (0 + 1) = 1 := by decide
  have w2 : IntKind.wrap .i64 (1 + 1) = 2 := by decide
  have w3 : IntKind.wrap .i64 (2 + 1) = 3 := by decide
  have l3 : Evt (fun k m => impl_needsAtMost_L6758 k m (n : Int) x9 x10 x11 t.2 3) (.inr ((n : Int), x9, x10, x11, ())) :=
    Evt.step (fun k m => impl_needsAtMost_L6758.eq_2 k _ _ _ _ _ _ m) (Evt.cfalse rfl .pure)
  have l2 : Evt (fun k m => impl_needsAtMost_L6758 k m (n : Int) x9 x10 x11 t.2 2) (if (decide (n ≤ 2) && decide (t.2.2.2 > 0)) then .inl false else .inr ((n : Int), x9, x10, x11, ())) := by
    refine Evt.step (fun k m => impl_needsAtMost_L6758.eq_2 k _ _ _ _ _ _ m) (Evt.ctrue rfl (Evt.cfalse rfl (Evt.cfalse rfl (Evt.ctrue rfl ?_))))
    rw [w3]
    by_cases h : n ≤ 2
    · refine Evt.ctrue (decide_eq_true (by omega)) ?_
      simp only [decide_eq_true h, Bool.true_and]
      cases decide (t.2.2.2 > 0) with
      | true => exact Evt.ctrue rfl .pure
      | false => exact Evt.cfalse rfl l3
    · simp only [decide_eq_false h, Bool.false_and]
      exact Evt.cfalse (decide_eq_false (by omega)) l3
  have l1 : Evt (fun k m => impl_needsAtMost_L6758 k m (n : Int) x9 x10 x11 t.2 1) (if ((decide (n ≤ 1) && decide (t.2.2.1 > 0)) || (decide (n ≤ 2) && decide (t.2.2.2 > 0))) then .inl false else .inr ((n : Int), x9, x10, x11, ())) := by
    refine Evt.step (fun k m => impl_needsAtMost_L6758.eq_2 k _ _ _ _ _ _ m) (Evt.ctrue rfl (Evt.cfalse rfl (Evt.ctrue rfl ?_)))
    rw [w2]
    by_cases h : n ≤ 1
    · refine Evt.ctrue (decide_eq_true (by omega)) ?_
      simp only [decide_eq_true h, Bool.true_and]
      cases decide (t.2.2.1 > 0) with
      | true => exact Evt.ctrue rfl .pure
      | false => exact Evt.cfalse rfl l2
    · simp only [decide_eq_false h, Bool.false_and, Bool.false_or]
      exact Evt.cfalse (decide_eq_false (by omega)) l2
  refine Evt.step (fun k m => impl_needsAtMost_L6758.eq_2 k _ _ _ _ _ _ m) (Evt.ctrue rfl (Evt.ctrue rfl ?_))
  rw [w1]
  unfold needsT
  by_cases h : n ≤ 0
  · refine Evt.ctrue (decide_eq_true (by omega)) ?_
    simp only [decide_eq_true h, Bool.true_and]
    cases decide (t.2.1 > 0) with
    | true => exact Evt.ctrue rfl .pure
    | false => exact Evt.cfalse rfl l1
  · simp only [decide_eq_false h, Bool.false_and, Bool.false_or]
    exact Evt.cfalse (decide_eq_false (by omega)) l1

theorem needsAtMost_ev {xs : List Tm} {n : Nat} (hb : xs.length < lenB) : Evt (fun k _ => impl_needsAtMost k xs n) (!needs n xs) := by
  refine Evt.eq (f := fun k q => _) ?_ (fun k q => by rw [impl_needsAtMost])
  rw [needs_any]
  have key : ∀ (r d : List Tm), d ++ r = xs → Evt (fun k m => impl_needsAtMost_L26 k m n xs (xs.length : Int) d.length) (if r.any (needsT n) then .inl false else .inr ()) := by
    intro r
    induction r with
    | nil =>
      intro d h
      refine Evt.step (fun k m => impl_needsAtMost_L26.eq_2 k _ _ _ _ m) ?_
      rw [List.append_nil] at h
      subst h
      exact Evt.rng0 .pure
    | cons e r ih =>
      intro d h
      refine Evt.step (fun k m => impl_needsAtMost_L26.eq_2 k _ _ _ _ m) ?_
      have ih := ih (d ++ [e]) (by simpa using h)
      rw [← len_next (r := r) (by rw [h]; exact hb)] at ih
      have hi := needs_inner n e xs (xs.length : Int) (d.length : Int)
      subst h
      refine Evt.ctrue mid_lt (Evt.ctrue mid_ge (Evt.ctrue mid_lt ?_))
      rw [mid_get]
      refine Evt.bind (.const rfl) ?_
      cases hn : needsT n e with
      | true => rw [hn] at hi; simp only [List.any_cons, hn, Bool.true_or]; exact Evt.inl (Evt.diag hi) .pure
      | false => rw [hn] at hi; simp only [List.any_cons, hn, Bool.false_or]; exact Evt.inr (Evt.diag hi) ih
  have h0 := key xs [] rfl
  simp only [List.length_nil] at h0
  cases hall : xs.any (needsT n) with
  | true => rw [hall] at h0; exact Evt.inl (Evt.diag h0) .pure
  | false => rw [hall] at h0; exact Evt.inr (Evt.diag h0) .pure

theorem isSystem_ev {m : List (List Tm)} (hb : m.length < lenB) (hm : ∀ r ∈ m, r.length < lenB) : Evt (fun k _ => impl_isSystem k m) (sysV m) := by
  refine Evt.eq (f := fun k q => _) ?_ (fun k q => by rw [impl_isSystem])
  have key : ∀ (r d : List (List Tm)), d ++ r = m → Evt (fun k n => impl_isSystem_L26 k n m m (m.length : Int) d.length) (if (r.all fun xs => polyV xs && !needs m.length xs) then .inr (m, ()) else .inl false) := by
    intro r
    induction r with
    | nil =>
      intro d h
      refine Evt.step (fun k n => impl_isSystem_L26.eq_2 k _ _ _ _ n) ?_
      rw [List.append_nil] at h
      subst h
      exact Evt.rng0 .pure
    | cons e r ih =>
      intro d h
      refine Evt.step (fun k n => impl_isSystem_L26.eq_2 k _ _ _ _ n) ?_
      have he := hm e (by rw [← h]; simp)
      have ih := ih (d ++ [e]) (by simpa using h)
      rw [← len_next (r := r) (by rw [h]; exact hb)] at ih
      subst h
      refine Evt.ctrue mid_lt (Evt.ctrue mid_ge (Evt.ctrue mid_lt ?_))
      rw [mid_get]
      refine Evt.bind (isPoly_ev he) ?_
      cases hp : polyV e with
      | false => simp only [List.all_cons, hp, Bool.false_and]; exact Evt.ctrue rfl .pure
      | true =>
        refine Evt.cfalse rfl (Evt.bind (needsAtMost_ev he) ?_)
        cases hn : needs (d ++ e :: r).length e with
        | true => simp only [List.all_cons, hp, hn, Bool.not_true, Bool.and_false, Bool.false_and]; exact Evt.ctrue rfl .pure
        | false => simp only [List.all_cons, hp, hn, Bool.not_false, Bool.true_and]; exact Evt.cfalse rfl ih
  have h0 := key m [] rfl
  simp only [List.length_nil] at h0
  unfold sysV
  cases hall : (m.all fun xs => polyV xs && !needs m.length xs) with
  | true => rw [hall] at h0; exact Evt.inr (Evt.diag h0) (Evt.bind (.const (inside_eq _ _ _)) .pure)
  | false => rw [hall] at h0; exact Evt.inl (Evt.diag h0) .pure

theorem szBox_eq {b : Int × List Int × List Int} (h1 : b.2.1.length ≤ maxLen) (h2 : b.2.2.length ≤ maxLen) {a : Nat} (ha : a ≤ 1000000) :
    laws_szBox b a = some (if b.2.1.length + b.2.2.length ≤ a then ((a - (b.2.1.length + b.2.2.length) : Nat) : Int) else -1) := by
  unfold laws_szBox
  rw [szIntS_ev h1 ha]
  by_cases h3 : b.2.1.length ≤ a
  · rw [if_pos h3, Option.bind_some, decide_eq_false (by omega), cond_false, szIntS_ev h2 (by omega)]
    by_cases h4 : b.2.2.length ≤ a - b.2.1.length
    · rw [if_pos h4, if_pos (by omega), Option.bind_some, decide_eq_false (by omega), cond_false]
      congr 2
      omega
    · rw [if_neg h4, if_neg (by omega)]; rfl
  · rw [if_neg h3, if_neg (by omega)]; rfl
def boxR (b : Int × List Int × List Int) (f : Bool) : Int × (List Int × List Int) × List Int × List Int := (b.1, toV id fI b.2.1 f, toV id fI b.2.2 f)
theorem toBox_ev {b : Int × List Int × List Int} {f : Bool} (h1 : b.2.1.length ≤ 1000000) (h2 : b.2.2.length ≤ 1000000) : Evt (fun k _ => laws_toBox k b f) (boxR b f) := by
  refine Evt.eq (f := fun k q => _) ?_ (fun k q => by rw [laws_toBox])
  exact Evt.bind (toIntS_ev h1) (Evt.bind (toIntS_ev h2) .pure)
theorem boxR_eq (b : Int × List Int × List Int) (f : Bool) : ((boxR b f).1, (boxR b f).2.1.1, (boxR b f).2.2.1) = b := by
  simp only [boxR, toV_fst]
theorem intactBox_ev {b : Int × List Int × List Int} (h1 : b.2.1.length ≤ 1000000) (h2 : b.2.2.length ≤ 1000000) : Evt (fun k _ => laws_intactBox k (boxR b false) (boxR b false)) true := by
  refine Evt.eq (f := fun k q => _) ?_ (fun k q => by rw [laws_intactBox])
  exact Evt.cfalse (by simp) (Evt.bind (intactIntS_ev (room_toV h1)) (Evt.cfalse rfl (Evt.bind (intactIntS_ev (room_toV h2)) (Evt.cfalse rfl .pure))))
theorem intactT_ev {a : List (List Tm)} (h : Sized a) : Evt (fun k _ => laws_intactTermSS k (toV (fun x => toV id fT x false) ([fT], []) a false) (toV (fun x => toV id fT x false) ([fT], []) a false)) true := by
  refine intactTermSS_ev (room_toV h.len) ?_ ?_
  · intro y hy
    simp [toV] at hy
    obtain ⟨x, hx, rfl⟩ := hy
    exact ⟨by simp, h.row x hx⟩
  · intro y hy
    simp [toV] at hy
    rw [hy.2]; simp [lenB]

abbrev tTerm : Ty := .pair (.int .i64) (.pair (.int .i64) (.pair (.int .i64) (.int .i64)))
abbrev tBox : Ty := .pair (.int .i64) (.pair (.sl (.int .i64)) (.sl (.int .i64)))
end Go.Ev.G

namespace Go.Ev.G
open Go Go.Ev
set_option maxRecDepth 100000

def tmW (t : Tm) : Prop := (-10000 ≤ t.1 ∧ t.1 ≤ 10000) ∧ (0 ≤ t.2.1 ∧ t.2.1 ≤ 4) ∧ (0 ≤ t.2.2.1 ∧ t.2.2.1 ≤ 4) ∧ (0 ≤ t.2.2.2 ∧ t.2.2.2 ≤ 4)
def sgl (a : Int × Int) : Iv := (a, a)
theorem sgl_iv {a : Int × Int} (h : gd a) : ivGd (sgl a) := ⟨h, h, Int.le_refl _⟩
def stepO (s : Iv) (e : Nat) (o : Option Iv) : Option Iv := o.bind fun a => (powO s e).bind fun q => mulO a q
def partF (t : Tm) : Nat → Option Iv → List Iv → Option Iv
  | _, o, [] => o
  | j, o, s :: r => partF t (j + 1) (stepO s (pw t j).toNat o) r
def monO (t : Tm) (sides : List Iv) : Option Iv := partF t 0 (some (sgl (t.1, 0))) sides
def accO (p o : Option Iv) : Option Iv := o.bind fun a => p.bind fun q => addO a q
def valF (sides : List Iv) : Option Iv → List Tm → Option Iv
  | o, [] => o
  | o, t :: r => valF sides (accO (monO t sides) o) r
def valO (p : List Tm) (sides : List Iv) : Option Iv := valF sides (some zI) p

theorem partF_none {t : Tm} : ∀ (r : List Iv) (j : Nat), partF t j none r = none
  | [], _ => rfl
  | _ :: r, j => partF_none r (j + 1)
theorem valF_none {sides : List Iv} : ∀ (r : List Tm), valF sides none r = none
  | [] => rfl
  | _ :: r => valF_none r
theorem partF_iv {t : Tm} : ∀ (r : List Iv) (j : Nat) (o : Option Iv) (v : Iv), (∀ a, o = some a → ivGd a) → partF t j o r = some v → ivGd v
  | [], _, o, v, ho, h => ho v h
  | s :: r, j, o, v, ho, h => by
    refine partF_iv r (j + 1) _ v ?_ h
    intro a ha
    unfold stepO at ha
    obtain ⟨x, _, hx⟩ := Option.bind_eq_some_iff.1 ha
    obtain ⟨q, _, hq⟩ := Option.bind_eq_some_iff.1 hx
    exact mulO_iv hq
theorem gd_int {n : Int} (h : -10000 ≤ n ∧ n ≤ 10000) : gd (n, 0) := ⟨Int.le_refl _, by simp, by simp only; omega, by simp only; omega, .inl rfl⟩
theorem monO_iv {t : Tm} {sides : List Iv} {v : Iv} (ht : tmW t) (h : monO t sides = some v) : ivGd v :=
  partF_iv sides 0 _ v (fun a ha => by cases ha; exact sgl_iv (gd_int ht.1)) h
theorem valF_iv {sides : List Iv} : ∀ (r : List Tm) (o : Option Iv) (v : Iv), (∀ t ∈ r, tmW t) → (∀ a, o = some a → ivGd a) → valF sides o r = some v → ivGd v
  | [], o, v, _, ho, h => ho v h
  | t :: r, o, v, ht, ho, h => by
    refine valF_iv r _ v (fun x hx => ht x (by simp [hx])) ?_ h
    intro a ha
    unfold accO at ha
    obtain ⟨x, hx0, hx⟩ := Option.bind_eq_some_iff.1 ha
    obtain ⟨q, hq0, hq⟩ := Option.bind_eq_some_iff.1 hx
    exact addO_iv (ho x hx0) (monO_iv (ht t (by simp)) hq0) hq
theorem zI_iv : ivGd zI := ⟨by decide, by decide, Int.le_refl _⟩
theorem valO_iv {p : List Tm} {sides : List Iv} {v : Iv} (ht : ∀ t ∈ p, tmW t) (h : valO p sides = some v) : ivGd v := valF_iv p _ v ht (fun a ha => by cases ha; exact zI_iv) h
theorem pw_nat {t : Tm} (ht : tmW t) (j : Nat) : ∃ e : Nat, pw t j = e ∧ e ≤ 4 := by
  obtain ⟨_, h2, h3, h4⟩ := ht
  unfold pw
  split
  · exact ⟨t.2.1.toNat, by omega, by omega⟩
  · split
    · exact ⟨t.2.2.1.toNat, by omega, by omega⟩
    · exact ⟨t.2.2.2.toNat, by omega, by omega⟩

theorem vaOver_inner {t : Tm} {sides : List Iv} (ht : tmW t) (hs : ∀ s ∈ sides, ivGd s) (hb : sides.length < lenB) (x1 : List Iv) (x4 x6 : Iv) (x20 : List Tm) (x21 x22 : Int) :
    ∀ (r d : List Iv) (o : Iv), d ++ r = sides → gdI o → Evt (fun k n => spec_vaOver_L59802 k n x1 x4 x6 t o x20 x21 x22 sides (sides.length : Int) d.length) (match partF t d.length (some o) r with | some v => .inr (x1, x4, x6, v, x20, x21, x22, ()) | none => .inl (zI, false))
  | [], d, o, hd, ho => by
    rw [List.append_nil] at hd
    subst hd
    refine Evt.step (fun k n => spec_vaOver_L59802.eq_2 k _ _ _ _ _ _ _ _ _ _ _ n) (Evt.rng0 .pure)
  | s :: r, d, o, hd, ho => by
    refine Evt.step (fun k n => spec_vaOver_L59802.eq_2 k _ _ _ _ _ _ _ _ _ _ _ n) ?_
    have gs : ivGd s := hs s (by rw [← hd]; simp)
    obtain ⟨e, he, he4⟩ := pw_nat ht d.length
    rw [← hd]
    refine Evt.ctrue mid_lt (Evt.ctrue mid_ge (Evt.ctrue mid_lt ?_))
    rw [mid_get]
    refine Evt.bind (.const (poPower_eq t d.length)) ?_
    rw [he]
    refine Evt.bind (ivPower_ev gs he4) ?_
    have es : partF t d.length (some o) (s :: r) = partF t (d.length + 1) (stepO s e (some o)) r := by rw [partF, he]; rfl
    rw [es]
    unfold stepO
    rw [Option.bind_some]
    cases hp : powO s e with
    | none =>
      rw [Option.bind_none, partF_none]
      exact Evt.ctrue rfl .pure
    | some q =>
      refine Evt.cfalse rfl ?_
      rw [Option.bind_some]
      have hmul := ivMul_ev ho (powO_gd hp)
      cases hm : mulO o q with
      | none =>
        rw [hm] at hmul
        rw [partF_none]
        exact Evt.bind hmul (Evt.ctrue rfl .pure)
      | some v =>
        rw [hm] at hmul
        refine Evt.bind hmul (Evt.cfalse rfl ?_)
        have ih := vaOver_inner ht hs hb x1 x4 x6 x20 x21 x22 r (d ++ [s]) v (by simpa using hd) (mulO_gd hm)
        rw [← hd] at ih
        rw [len_next (by rw [hd]; exact hb)]
        simpa using ih
theorem vaOver_ev {p : List Tm} {sides : List Iv} (ht : ∀ t ∈ p, tmW t) (hs : ∀ s ∈ sides, ivGd s) (hb : sides.length < lenB) (hp : p.length < lenB) : Evt (fun k _ => spec_vaOver k p sides) (oI (valO p sides)) := by
  refine Evt.eq (f := fun k q => _) ?_ (fun k q => by rw [spec_vaOver])
  refine Evt.bind (.const rfl) (Evt.bind (.const rfl) ?_)
  have key : ∀ (r d : List Tm) (o : Iv), d ++ r = p → gdI o → Evt (fun k n => spec_vaOver_L58 k n sides zI o p (p.length : Int) d.length) (match valF sides (some o) r with | some v => .inr (zI, v, ()) | none => .inl (zI, false)) := by
    intro r
    induction r with
    | nil =>
      intro d o hd ho
      rw [List.append_nil] at hd
      subst hd
      exact Evt.step (fun k n => spec_vaOver_L58.eq_2 k _ _ _ _ _ _ n) (Evt.rng0 .pure)
    | cons t r ih =>
      intro d o hd ho
      refine Evt.step (fun k n => spec_vaOver_L58.eq_2 k _ _ _ _ _ _ n) ?_
      have gt := ht t (by rw [← hd]; simp)
      rw [← hd]
      refine Evt.ctrue mid_lt (Evt.ctrue mid_ge (Evt.ctrue mid_lt ?_))
      rw [mid_get]
      refine Evt.bind (.const rfl) (Evt.bind (.const rfl) ?_)
      have hin := vaOver_inner gt hs hb sides zI o (d ++ t :: r) ((d ++ t :: r).length : Int) (d.length : Int) sides [] (sgl (t.1, 0)) rfl ⟨gd_int gt.1, gd_int gt.1⟩
      simp only [List.length_nil] at hin
      have es : valF sides (some o) (t :: r) = valF sides (accO (monO t sides) (some o)) r := rfl
      rw [es]
      unfold accO
      rw [Option.bind_some]
      have em : partF t 0 (some (sgl (t.1, 0))) sides = monO t sides := rfl
      rw [em] at hin
      cases hm : monO t sides with
      | none =>
        rw [hm] at hin
        rw [Option.bind_none, valF_none]
        exact Evt.inl (Evt.diag hin) .pure
      | some q =>
        rw [hm] at hin
        rw [Option.bind_some]
        refine Evt.inr (Evt.diag hin) ?_
        have gq := monO_iv gt hm
        refine Evt.bind (ivAdd_ev ho ⟨gq.1, gq.2.1⟩) ?_
        cases ha : addO o q with
        | none =>
          rw [valF_none]
          exact Evt.ctrue rfl .pure
        | some v =>
          refine Evt.cfalse rfl ?_
          have ih := ih (d ++ [t]) v (by simpa using hd) (addO_gd ha)
          rw [← hd] at ih
          simp only
          rw [len_next (by rw [hd]; exact hp)]
          exact ih
  have hk := key p [] zI rfl zI_gd
  simp only [List.length_nil] at hk
  unfold valO
  cases hv : valF sides (some zI) p with
  | none => rw [hv] at hk; exact Evt.inl (Evt.diag hk) .pure
  | some v => rw [hv] at hk; exact Evt.inr (Evt.diag hk) .pure

theorem step_flag {b c : Bool} {o : Option Iv} {s v v1 : Iv} {e : Nat} (hc : c = (b && o.isSome)) (ho : c = true → o = some v) (h1 : c = true → (powO s e).isSome = true → powO s e = some v1) :
    ((c && (powO s e).isSome) && (mulO v v1).isSome) = (b && (stepO s e o).isSome) := by
  cases hcc : c with
  | false =>
    rw [hcc] at hc
    cases b with
    | false => rfl
    | true =>
      cases o with
      | none => rfl
      | some _ => cases hc
  | true =>
    have h2 := ho hcc
    subst h2
    have hb : b = true := by rw [hcc] at hc; cases b with | false => cases hc | true => rfl
    rw [hb]
    unfold stepO
    rw [Option.bind_some]
    cases hp : powO s e with
    | none => rfl
    | some q =>
      have := h1 hcc (by rw [hp]; rfl)
      rw [hp] at this
      cases this
      rw [Option.bind_some]
      rfl
theorem step_val {b c : Bool} {o : Option Iv} {s v v1 v2 : Iv} {e : Nat} (ho : c = true → o = some v) (h1 : c = true → (powO s e).isSome = true → powO s e = some v1)
    (h2 : (c && (powO s e).isSome) = true → (mulO v v1).isSome = true → mulO v v1 = some v2) (h : ((c && (powO s e).isSome) && (mulO v v1).isSome) = true) : stepO s e o = some v2 := by
  rw [Bool.and_eq_true, Bool.and_eq_true] at h
  have q1 := ho h.1.1
  have q2 := h1 h.1.1 h.1.2
  have q3 := h2 (by rw [h.1.1, h.1.2]; rfl) h.2
  rw [q1]
  unfold stepO
  rw [Option.bind_some, q2, Option.bind_some, q3]
theorem valueOver_inner {b : Bool} {t : Tm} {sides : List Iv} (ht : tmW t) (hs : ∀ s ∈ sides, ivGd s) (hb : sides.length ≤ 3) (x1 : List Iv) (x4 x7 : Iv) (x16 : List Tm) (x17 x18 : Int) :
    ∀ (r d : List Iv) (c : Bool) (v : Iv) (o : Option Iv), d ++ r = sides → gdI v → c = (b && o.isSome) → (c = true → o = some v) →
      ∃ v', gdI v' ∧ ((b && (partF t d.length o r).isSome) = true → partF t d.length o r = some v') ∧ Evt (fun k n => impl_valueOver_L125338 k n x1 x4 c x7 t v x16 x17 x18 sides (sides.length : Int) d.length) (.inr (x1, x4, b && (partF t d.length o r).isSome, x7, v', x16, x17, x18, ()))
  | [], d, c, v, o, hd, gv, hc, ho => by
    rw [List.append_nil] at hd
    subst hd
    refine ⟨v, gv, fun h => ho (by rw [hc]; exact h), Evt.step (fun k n => impl_valueOver_L125338.eq_2 k _ _ _ _ _ _ _ _ _ _ _ _ n) (Evt.rng0 ?_)⟩
    rw [hc]
    exact .pure
  | s :: r, d, c, v, o, hd, gv, hc, ho => by
    have gs : ivGd s := hs s (by rw [← hd]; simp)
    have hl : d.length ≤ 2 := by
      have := congrArg List.length hd
      simp at this; omega
    obtain ⟨e, he, he4⟩ := pw_nat ht d.length
    obtain ⟨v1, g1, q1, e1⟩ := power_ev (b := c) gs he4
    obtain ⟨v2, g2, q2, e2⟩ := multiply_ev (b := (c && (powO s e).isSome)) gv g1
    have es : partF t d.length o (s :: r) = partF t (d.length + 1) (stepO s e o) r := by rw [partF, he]; rfl
    have hf := step_flag (s := s) (v1 := v1) (e := e) hc ho q1
    obtain ⟨v', g', hv', hl'⟩ := valueOver_inner ht hs hb x1 x4 x7 x16 x17 x18 r (d ++ [s]) ((c && (powO s e).isSome) && (mulO v v1).isSome) v2 (stepO s e o) (by simpa using hd) g2 hf (step_val (b := b) ho q1 q2)
    rw [show (d ++ [s]).length = d.length + 1 by simp] at hv' hl'
    rw [es]
    refine ⟨v', g', hv', Evt.step (fun k n => impl_valueOver_L125338.eq_2 k _ _ _ _ _ _ _ _ _ _ _ _ n) ?_⟩
    rw [← hd] at hl' ⊢
    refine Evt.ctrue mid_lt (Evt.ctrue mid_ge (Evt.ctrue mid_lt ?_))
    rw [mid_get, len_next (by rw [hd]; simp only [lenB]; omega), show (d ++ [s]).length = d.length + 1 by simp]
    refine Evt.bind (.const rfl) ?_
    have hj : d.length = 0 ∨ d.length = 1 ∨ d.length = 2 := by omega
    rcases hj with hj | hj | hj
    · have hpw : t.2.1 = (e : Int) := by rw [← he, hj]; rfl
      refine Evt.ctrue (by rw [hj]; rfl) ?_
      simp only [hpw]
      exact Evt.bind e1 (Evt.bind e2 hl')
    · have hpw : t.2.2.1 = (e : Int) := by rw [← he, hj]; rfl
      refine Evt.cfalse (by rw [hj]; rfl) (Evt.ctrue (by rw [hj]; rfl) ?_)
      simp only [hpw]
      exact Evt.bind e1 (Evt.bind e2 hl')
    · have hpw : t.2.2.2 = (e : Int) := by rw [← he, hj]; rfl
      refine Evt.cfalse (by rw [hj]; rfl) (Evt.cfalse (by rw [hj]; rfl) (Evt.ctrue (by rw [hj]; rfl) ?_))
      simp only [hpw]
      exact Evt.bind e1 (Evt.bind e2 hl')
theorem valueOver_ev {p : List Tm} {sides : List Iv} (ht : ∀ t ∈ p, tmW t) (hs : ∀ s ∈ sides, ivGd s) (hb : sides.length ≤ 3) (hp : p.length < lenB) : Evt (fun k _ => impl_valueOver k p sides) (oI (valO p sides)) := by
  refine Evt.eq (f := fun k q => _) ?_ (fun k q => by rw [impl_valueOver])
  have key : ∀ (r d : List Tm) (c : Bool) (v : Iv) (o : Option Iv), d ++ r = p → gdI v → c = o.isSome → (c = true → o = some v) →
      ∃ v', ((valF sides o r).isSome = true → valF sides o r = some v') ∧ Evt (fun k n => impl_valueOver_L122 k n sides zI c v p (p.length : Int) d.length) (.inr (zI, (valF sides o r).isSome, v', ())) := by
    intro r
    induction r with
    | nil =>
      intro d c v o hd gv hc ho
      rw [List.append_nil] at hd
      subst hd
      refine ⟨v, fun h => ho (by rw [hc]; exact h), Evt.step (fun k n => impl_valueOver_L122.eq_2 k _ _ _ _ _ _ _ n) (Evt.rng0 ?_)⟩
      rw [hc]
      exact .pure
    | cons t r ih =>
      intro d c v o hd gv hc ho
      have gt := ht t (by rw [← hd]; simp)
      obtain ⟨q, gq, hq, hin⟩ := valueOver_inner (b := c) gt hs hb sides zI v (d ++ t :: r) ((d ++ t :: r).length : Int) (d.length : Int) sides [] c (sgl (t.1, 0)) (some (sgl (t.1, 0))) rfl ⟨gd_int gt.1, gd_int gt.1⟩ (by simp) (fun _ => rfl)
      simp only [List.length_nil] at hq hin
      have em : partF t 0 (some (sgl (t.1, 0))) sides = monO t sides := rfl
      rw [em] at hq hin
      obtain ⟨w, gw, hw, ha⟩ := addI_ev (b := (c && (monO t sides).isSome)) gv gq
      have hf : ((c && (monO t sides).isSome) && (addO v q).isSome) = (accO (monO t sides) o).isSome := by
        cases hcc : c with
        | false =>
          rw [hcc] at hc
          cases o with
          | none => rfl
          | some _ => cases hc
        | true =>
          have h2 := ho hcc
          subst h2
          unfold accO
          rw [Option.bind_some]
          cases hm : monO t sides with
          | none => rfl
          | some q' =>
            have := hq (by rw [hcc, hm]; rfl)
            rw [hm] at this
            cases this
            rfl
      obtain ⟨v', hv', hl'⟩ := ih (d ++ [t]) ((c && (monO t sides).isSome) && (addO v q).isSome) w (accO (monO t sides) o) (by simpa using hd) gw hf (by
        intro h
        rw [Bool.and_eq_true] at h
        have h1 := h.1
        rw [Bool.and_eq_true] at h1
        rw [ho h1.1, hq h.1]
        exact hw h.1 h.2)
      have es : valF sides o (t :: r) = valF sides (accO (monO t sides) o) r := rfl
      rw [es]
      refine ⟨v', hv', Evt.step (fun k n => impl_valueOver_L122.eq_2 k _ _ _ _ _ _ _ n) ?_⟩
      rw [← hd] at hl' ⊢
      refine Evt.ctrue mid_lt (Evt.ctrue mid_ge (Evt.ctrue mid_lt ?_))
      rw [mid_get]
      refine Evt.bind (.const rfl) (Evt.bind (.const rfl) (Evt.inr (Evt.diag hin) (Evt.bind ha ?_)))
      simp only
      rw [len_next (by rw [hd]; exact hp)]
      exact hl'
  obtain ⟨v', hv', hl'⟩ := key p [] true zI (some zI) rfl zI_gd rfl (fun _ => rfl)
  simp only [List.length_nil] at hl'
  refine Evt.inr (Evt.diag hl') ?_
  unfold impl_reckoner_result valO
  cases hv : (valF sides (some zI) p).isSome with
  | true =>
    rw [hv' hv]
    exact Evt.bind (.const rfl) .pure
  | false =>
    have : valF sides (some zI) p = none := by simpa using hv
    rw [this]
    exact Evt.bind (.const rfl) .pure
end Go.Ev.G

namespace Go.Ev.G
open Go Go.Ev
set_option maxRecDepth 100000

structure Sd (s : List (List Tm)) (sides : List Iv) : Prop where
  sd : ∀ i ∈ sides, ivGd i
  ln : sides.length ≤ 3
  tm : ∀ p ∈ s, ∀ t ∈ p, tmW t
  lp : ∀ p ∈ s, p.length < lenB
abbrev Ed := Int × (Int × Int) × (Int × Int) × Int × Int
def sidesE (e : Ed) : List Iv := if e.1 = 0 then [sgl e.2.1, (minD e.2.2.1 e.2.2.2, maxD e.2.2.1 e.2.2.2)] else [(minD e.2.2.1 e.2.2.2, maxD e.2.2.1 e.2.2.2), sgl e.2.1]
structure EdOk (e : Ed) : Prop where
  sd : e.1 = 0 ∨ e.1 = 1
  a : gd e.2.1
  f : gd e.2.2.1
  t : gd e.2.2.2
theorem along_iv {a b : Int × Int} (ha : gd a) (hb : gd b) : ivGd (minD a b, maxD a b) := ⟨minD_gd ha hb, maxD_gd ha hb, by simp only [minD_sv, maxD_sv]; omega⟩
theorem EdOk.sides {e : Ed} (h : EdOk e) : ∀ i ∈ sidesE e, ivGd i := by
  intro i hi
  have q := along_iv h.f h.t
  have r := sgl_iv h.a
  unfold sidesE at hi
  split at hi <;> (simp only [List.mem_cons, List.not_mem_nil, or_false] at hi; rcases hi with rfl | rfl <;> assumption)
theorem EdOk.len (e : Ed) : (sidesE e).length = 2 := by unfold sidesE; split <;> rfl
theorem Sd.edge {s : List (List Tm)} (h1 : ∀ p ∈ s, ∀ t ∈ p, tmW t) (h2 : ∀ p ∈ s, p.length < lenB) {e : Ed} (h : EdOk e) : Sd s (sidesE e) := ⟨h.sides, by rw [EdOk.len]; omega, h1, h2⟩
end Go.Ev.G

namespace Go.Ev.G
open Go Go.Ev
set_option maxRecDepth 100000

abbrev Bx := Int × List Int × List Int
theorem strip_scale (k : Nat) (n : Int) : ∀ D : Nat, strip (k + D) (n * 2 ^ D) = strip k n
  | 0 => by simp
  | D + 1 => by
    have e : n * 2 ^ (D + 1) = (n * 2 ^ D) * 2 := by rw [Int.pow_succ, Int.mul_assoc]
    rw [e, ← Nat.add_assoc, strip, if_pos (by omega), Int.mul_ediv_cancel _ (by decide)]
    exact strip_scale k n D
theorem mkD_scale (k D : Nat) (n : Int) : mkD (n * 2 ^ D) (k + D) = mkD n k := by
  unfold mkD
  rw [strip_scale]
end Go.Ev.G

namespace Go.Ev.G
open Go Go.Ev
set_option maxRecDepth 100000

def nnI (n d : Int) : Int := if d < 0 then -n else n
def quotV (n d s : Int) : Int := (nnI n d * 2 ^ s.toNat) / ((d.natAbs * 2 ^ (-s).toNat : Nat) : Int)

theorem wN_join {neg : Bool} {h x : Nat} (hx : x < B64) : wN neg (h * B64 + x) = (neg, (h : Int), (x : Int)) := by
  have hB : 0 < B64 := by decide
  unfold wN
  rw [Nat.mul_comm h B64, Nat.mul_add_div hB, Nat.div_eq_of_lt hx, Nat.add_zero, Nat.mul_add_mod, Nat.mod_eq_of_lt hx]

theorem quot_val {n d s : Int} (hd : d ≠ 0) : quotV n d s = wV (!(decide (n < 0) == decide (d < 0))) ((n.natAbs * 2 ^ s.toNat) / (d.natAbs * 2 ^ (-s).toNat) + (if (!(decide (n < 0) == decide (d < 0))) && !decide (d.natAbs * 2 ^ (-s).toNat ∣ n.natAbs * 2 ^ s.toNat) then 1 else 0)) := by
  unfold quotV
  have hD : 0 < d.natAbs * 2 ^ (-s).toNat := Nat.mul_pos (by omega) (Nat.pow_pos (by decide))
  generalize d.natAbs * 2 ^ (-s).toNat = D at hD ⊢
  have hA : nnI n d * 2 ^ s.toNat = if (!(decide (n < 0) == decide (d < 0))) = true then -((n.natAbs * 2 ^ s.toNat : Nat) : Int) else ((n.natAbs * 2 ^ s.toNat : Nat) : Int) := by
    have e : ((n.natAbs * 2 ^ s.toNat : Nat) : Int) = (n.natAbs : Int) * 2 ^ s.toNat := by simp
    rw [e]
    unfold nnI
    by_cases h1 : n < 0
    · by_cases h2 : d < 0
      · rw [if_pos h2, decide_eq_true h1, decide_eq_true h2]
        simp only [beq_self_eq_true, Bool.not_true, Bool.false_eq_true, if_false]
        congr 1
        omega
      · rw [if_neg h2, decide_eq_true h1, decide_eq_false h2]
        rw [if_pos (by rfl), ← Int.neg_mul]
        congr 1
        omega
    · by_cases h2 : d < 0
      · rw [if_pos h2, decide_eq_false h1, decide_eq_true h2]
        rw [if_pos (by rfl), ← Int.neg_mul]
        congr 1
        omega
      · rw [if_neg h2, decide_eq_false h1, decide_eq_false h2]
        simp only [beq_self_eq_true, Bool.not_true, Bool.false_eq_true, if_false]
        congr 1
        omega
  rw [hA]
  generalize n.natAbs * 2 ^ s.toNat = A
  cases (!(decide (n < 0) == decide (d < 0))) with
  | false => simp [wV]
  | true =>
    simp only [if_true, Bool.true_and, wV]
    rw [Int.neg_ediv]
    have hs : (D : Int).sign = 1 := Int.sign_eq_one_of_pos (by omega)
    by_cases hdv : D ∣ A
    · rw [if_pos (Int.natCast_dvd_natCast.2 hdv), decide_eq_true hdv]
      simp
    · rw [if_neg (fun h => hdv (Int.natCast_dvd_natCast.1 h)), decide_eq_false hdv, hs]
      simp only [Bool.not_false, if_true]
      have : ((A / D + 1 : Nat) : Int) = (A : Int) / (D : Int) + 1 := by simp
      rw [this]
      omega

theorem quotientDown_ev {n k d : Int} {p : Nat} (h1 : -1099511627776 ≤ n ∧ n ≤ 1099511627776) (h2 : -1099511627776 ≤ d ∧ d ≤ 1099511627776) (hd : d ≠ 0) (hk : -24 ≤ k ∧ k ≤ 24) (hp : p ≤ 24) :
    Evt (fun kk _ => impl_quotientDown kk n k d (p : Int)) (mkD (quotV n d (k + p)) p) := by
  refine Evt.eq (f := fun k q => _) ?_ (fun k q => by rw [impl_quotientDown])
  rw [quot_val hd]
  have hBd : (2 : Nat) ^ 64 = B64 := by decide
  have hD0 : 0 < d.natAbs := by omega
  have hDB : d.natAbs < B64 := Nat.lt_of_le_of_lt (show d.natAbs ≤ 1099511627776 by omega) (by decide)
  have ws : IntKind.wrap .i64 (k + (p : Int)) = k + p := w64 (by omega) (by omega)
  have ws2 : IntKind.wrap .i64 (IntKind.wrap .i64 (0 - k) - (p : Int)) = -(k + p) := by rw [w64 (n := 0 - k) (by omega) (by omega), w64 (by omega) (by omega)]; omega
  have e1 : (if k + (p : Int) < 0 then 0 else k + (p : Int)) = (((k + p).toNat : Nat) : Int) := by split <;> omega
  have e2 : (if -(k + (p : Int)) < 0 then 0 else -(k + (p : Int))) = (((-(k + p)).toNat : Nat) : Int) := by split <;> omega
  have he : (k + (p : Int)).toNat ≤ 48 := by omega
  have hj : (-(k + (p : Int))).toNat ≤ 24 := by omega
  have hA : n.natAbs * 2 ^ (k + (p : Int)).toNat ≤ 1099511627776 * 2 ^ 48 := Nat.mul_le_mul (by omega) (Nat.pow_le_pow_right (by decide) he)
  have hAB : n.natAbs * 2 ^ (k + (p : Int)).toNat < B64 * B64 := Nat.lt_of_le_of_lt hA (by decide)
  simp only [ws, ws2, e1, e2]
  refine Evt.bind (.const (wideOf_eq (by omega) (by omega))) (Evt.bind (.const (shl_eq (by omega) hAB)) (Evt.bind (.const (size_eq (by omega) (by omega))) ?_))
  generalize hTe : n.natAbs * 2 ^ (k + (p : Int)).toNat = T at hAB hA ⊢
  have d1 : Evt (fun k _ => math_bits_Div64 k 0 ((T / B64 : Nat) : Int) (d.natAbs : Int)) (((T / B64 / d.natAbs : Nat) : Int), ((T / B64 % d.natAbs : Nat) : Int)) := by
    have := div64_ev (hi := 0) (lo := T / B64) hD0 ((Nat.div_lt_iff_lt_mul (by decide)).2 hAB) hDB
    rw [Nat.zero_mul, Nat.zero_add] at this
    exact this
  refine Evt.bind d1 (Evt.bind (.const (size_eq (by omega) (by omega))) ?_)
  have hm : T / B64 % d.natAbs < d.natAbs := Nat.mod_lt _ hD0
  have hl : T % B64 < B64 := Nat.mod_lt _ (by decide)
  refine Evt.bind (div64_ev hm hl hDB) ?_
  have hjn := kn_join (u := 0) (n1 := T / B64) (n0 := T % B64) (y := d.natAbs) (B := B64) hD0 hl
  rw [Nat.zero_mul, Nat.zero_add, Nat.div_add_mod'] at hjn
  have hx := kn_lt (B := B64) hm hl
  rw [hjn.2]
  have hw : ((!(decide (n < 0) == decide (d < 0))), ((T / B64 / d.natAbs : Nat) : Int), (((T / B64 % d.natAbs * B64 + T % B64) / d.natAbs : Nat) : Int)) = wN (!(decide (n < 0) == decide (d < 0))) (T / d.natAbs) := by
    rw [← hjn.1, wN_join hx]
  dsimp only
  rw [hw]
  have hqB : T / d.natAbs < B64 * B64 := Nat.lt_of_le_of_lt (Nat.div_le_self _ _) hAB
  have hneg : ∀ b : Bool, (b = (!(decide (n < 0) == decide (d < 0)))) → True := fun _ _ => trivial
  clear hneg
  -- the shift down
  have hsh : impl_wide_shift (wN (!(decide (n < 0) == decide (d < 0))) (T / d.natAbs)) (if 0 < k + (p : Int) then 0 else k + (p : Int)) = some (wN (!(decide (n < 0) == decide (d < 0))) (T / d.natAbs / 2 ^ (-(k + (p : Int))).toNat)) := by
    by_cases hz : k + (p : Int) < 0
    · rw [if_neg (by omega)]
      have e : k + (p : Int) = -(((-(k + (p : Int))).toNat : Nat) : Int) := by omega
      conv => lhs; rw [e]
      exact shr_eq (by omega) (by omega) hqB
    · have e : (if 0 < k + (p : Int) then 0 else k + (p : Int)) = ((0 : Nat) : Int) := by split <;> omega
      have e0 : (-(k + (p : Int))).toNat = 0 := by omega
      rw [e, e0, shl_eq (by omega) (by rw [Nat.pow_zero, Nat.mul_one]; exact hqB)]
      rw [Nat.pow_zero, Nat.mul_one, Nat.div_one]
  refine Evt.bind (.const hsh) ?_
  generalize hjj : (-(k + (p : Int))).toNat = j at hj ⊢
  have hM : T / d.natAbs / 2 ^ j = T / (d.natAbs * 2 ^ j) := Nat.div_div_eq_div_mul _ _ _
  have hMb : T / (d.natAbs * 2 ^ j) ≤ 1099511627776 * 2 ^ 48 := Nat.le_trans (Nat.div_le_self _ _) hA
  have hMB : T / (d.natAbs * 2 ^ j) + 1 < B64 * B64 := Nat.lt_of_le_of_lt (Nat.add_le_add_right hMb 1) (by decide)
  -- what is exact
  have hex : (d.natAbs * 2 ^ j ∣ T) ↔ (T % d.natAbs = 0 ∧ T / d.natAbs / 2 ^ j * 2 ^ j = T / d.natAbs) := by
    constructor
    · rintro ⟨c, hc⟩
      have e : T = d.natAbs * (2 ^ j * c) := by rw [hc, Nat.mul_assoc]
      have e3 : T / d.natAbs = 2 ^ j * c := by rw [e, Nat.mul_div_cancel_left _ hD0]
      refine ⟨by rw [e, Nat.mul_mod_right], ?_⟩
      rw [e3, Nat.mul_div_cancel_left _ (Nat.pow_pos (by decide)), Nat.mul_comm]
    · rintro ⟨h1, h2⟩
      refine ⟨T / d.natAbs / 2 ^ j, ?_⟩
      rw [Nat.mul_assoc, Nat.mul_comm (2 ^ j), h2, Nat.mul_comm]
      exact (Nat.div_mul_cancel (Nat.dvd_of_mod_eq_zero h1)).symm
  have w1 : impl_wideOf (-1) = some (wN true 1) := wideOf_eq (n := -1) (by omega) (by omega)
  rw [hM]
  generalize hng : (!(decide (n < 0) == decide (d < 0))) = neg
  have fin : ∀ (M : Nat), M < B64 * B64 → Evt (fun k _ => (Option.bind (impl_wide_fit k (wN neg M) (p : Int)) fun r13 => some (r13.1, r13.2))) (mkD (wV neg M) p) := fun M hM => Evt.bind (fit_ev hM (by omega)) .pure
  by_cases hr : T % d.natAbs = 0
  · refine Evt.ctrue (by simp [hr]) ?_
    have hsh2 : impl_wide_shift (wN neg (T / (d.natAbs * 2 ^ j))) (j : Int) = some (wN neg (T / (d.natAbs * 2 ^ j) * 2 ^ j)) := shl_eq (by omega) (by
      rw [← hM]
      exact Nat.lt_of_le_of_lt (Nat.div_mul_le_self _ _) hqB)
    refine Evt.bind (.const hsh2) (Evt.bind (sizes_ev _ _ _ _) ?_)
    cases neg with
    | false =>
      simp only [Bool.false_and, Bool.false_eq_true, if_false, Nat.add_zero]
      exact Evt.inr (Evt.cfalse rfl .pure) (fin _ (by omega))
    | true =>
      by_cases hx2 : d.natAbs * 2 ^ j ∣ T
      · have h3 := (hex.1 hx2).2
        rw [hM] at h3
        rw [decide_eq_true hx2]
        simp only [Bool.not_true, Bool.and_false, Bool.false_eq_true, if_false, Nat.add_zero]
        refine Evt.inr (Evt.ctrue rfl (Evt.cfalse ?_ .pure)) (fin _ (by omega))
        rw [h3, (cmpI_zero _ _).2 rfl]
        rfl
      · rw [decide_eq_false hx2]
        simp only [Bool.not_false, Bool.and_true, if_true]
        refine Evt.inr (Evt.ctrue rfl (Evt.ctrue ?_ (Evt.bind (.const w1) (Evt.bind (Evt.eq Evt.pure (fun k _ => add_same hMB k)) .pure)))) (fin _ hMB)
        have : cmpI ((T / (d.natAbs * 2 ^ j) * 2 ^ j : Nat) : Int) ((T / d.natAbs : Nat) : Int) ≠ 0 := by
          intro h
          have := (cmpI_zero _ _).1 h
          exact hx2 (hex.2 ⟨hr, by rw [hM]; omega⟩)
        simpa using this
  · have hr2 : (((T % d.natAbs : Nat) : Int) == 0) = false := by
      generalize T % d.natAbs = t at hr ⊢
      rw [beq_eq_false_iff_ne]
      omega
    refine Evt.cfalse hr2 ?_
    have hx2 : ¬ d.natAbs * 2 ^ j ∣ T := fun h => hr (hex.1 h).1
    rw [decide_eq_false hx2]
    cases neg with
    | false =>
      simp only [Bool.false_and, Bool.false_eq_true, if_false, Nat.add_zero]
      exact Evt.inr (Evt.cfalse rfl .pure) (fin _ (by omega))
    | true =>
      simp only [Bool.not_false, Bool.and_true, if_true]
      exact Evt.inr (Evt.ctrue rfl (Evt.bind (.const w1) (Evt.bind (Evt.eq Evt.pure (fun k _ => add_same hMB k)) .pure))) (fin _ hMB)
end Go.Ev.G

namespace Go.Ev.G
open Go Go.Ev
set_option maxRecDepth 100000

theorem two_step {x D g t : Nat} (h : x = D * g + t) (ht : t < D) : (if D ≤ 2 * t then (2 * x / D = 2 * g + 1 ∧ 2 * x % D = 2 * t - D) else (2 * x / D = 2 * g ∧ 2 * x % D = 2 * t)) := by
  have hD : 0 < D := by omega
  have e : 2 * x = D * (2 * g) + 2 * t := by rw [h, Nat.mul_add, Nat.mul_left_comm]
  split
  · have e2 : 2 * x = D * (2 * g + 1) + (2 * t - D) := by rw [Nat.mul_add, Nat.mul_one]; omega
    rw [e2]
    exact ⟨by rw [Nat.mul_add_div hD, Nat.div_eq_of_lt (by omega), Nat.add_zero], by rw [Nat.mul_add_mod, Nat.mod_eq_of_lt (by omega)]⟩
  · rw [e]
    exact ⟨by rw [Nat.mul_add_div hD, Nat.div_eq_of_lt (by omega), Nat.add_zero], by rw [Nat.mul_add_mod, Nat.mod_eq_of_lt (by omega)]⟩

theorem digits1 {q p : Int} {z : Int × Int} {r d s : Nat} (hr : r < d) (hd : d ≤ 1099511627776) (hs : s ≤ 48) : ∀ (m i : Nat), i + m = s →
    Evt (fun k n => spec_dyDigits_L58 k n q ((r * 2 ^ i % d : Nat) : Int) (d : Int) (s : Int) p z ((r * 2 ^ i / d : Nat) : Int) (i : Int)) (.inr (q, (s : Int), p, z, ((r * 2 ^ s / d : Nat) : Int), ())) := by
  intro m
  induction m with
  | zero =>
    intro i hi
    refine Evt.step (fun k n => spec_dyDigits_L58.eq_2 k _ _ _ _ _ _ _ _ n) ?_
    rw [Nat.add_zero] at hi
    subst hi
    exact Evt.cfalse (decide_eq_false (by omega)) .pure
  | succ m ih =>
    intro i hi
    have ih := ih (i + 1) (by omega)
    have hst := two_step (x := r * 2 ^ i) (D := d) (Nat.div_add_mod _ _).symm (Nat.mod_lt _ (by omega))
    have e2 : r * 2 ^ (i + 1) = 2 * (r * 2 ^ i) := by rw [Nat.pow_succ, ← Nat.mul_assoc, Nat.mul_comm]
    rw [e2] at ih
    have ht : r * 2 ^ i % d < d := Nat.mod_lt _ (by omega)
    have hg : r * 2 ^ i / d < 2 ^ i := by
      rw [Nat.div_lt_iff_lt_mul (by omega)]
      exact (Nat.mul_comm d (2 ^ i)) ▸ Nat.mul_lt_mul_of_pos_right hr (Nat.pow_pos (by decide))
    have hp : 2 ^ i ≤ 2 ^ 48 := Nat.pow_le_pow_right (by decide) (by omega)
    have h48 : (2 : Nat) ^ 48 = 281474976710656 := by decide
    refine Evt.step (fun k n => spec_dyDigits_L58.eq_2 k _ _ _ _ _ _ _ _ n) (Evt.ctrue (decide_eq_true (by omega)) ?_)
    generalize r * 2 ^ i / d = g at hst hg ⊢
    generalize r * 2 ^ i % d = t at hst ht ⊢
    have w1 : IntKind.wrap .i64 ((t : Int) * 2) = (t : Int) * 2 := w64 (by omega) (by omega)
    have w2 : IntKind.wrap .i64 ((g : Int) * 2) = (g : Int) * 2 := w64 (by omega) (by omega)
    have w3 : IntKind.wrap .i64 ((t : Int) * 2 - (d : Int)) = (t : Int) * 2 - (d : Int) := w64 (by omega) (by omega)
    have w4 : IntKind.wrap .i64 ((g : Int) * 2 + 1) = (g : Int) * 2 + 1 := w64 (by omega) (by omega)
    have w5 : IntKind.wrap .i64 ((i : Int) + 1) = ((i + 1 : Nat) : Int) := by rw [w64 (by omega) (by omega)]; rfl
    simp only [w1, w2, w3, w4, w5]
    by_cases hc : d ≤ 2 * t
    · rw [if_pos hc] at hst
      rw [hst.1, hst.2] at ih
      have c1 : ((2 * t - d : Nat) : Int) = (t : Int) * 2 - (d : Int) := by omega
      have c2 : ((2 * g + 1 : Nat) : Int) = (g : Int) * 2 + 1 := by omega
      rw [c1, c2] at ih
      exact Evt.ctrue (decide_eq_true (by omega)) ih
    · rw [if_neg hc] at hst
      rw [hst.1, hst.2] at ih
      have c1 : ((2 * t : Nat) : Int) = (t : Int) * 2 := by omega
      have c2 : ((2 * g : Nat) : Int) = (g : Int) * 2 := by omega
      rw [c1, c2] at ih
      exact Evt.cfalse (decide_eq_false (by omega)) ih

theorem mkD_two (n : Int) (k : Nat) : mkD (2 * n) (k + 1) = mkD n k := by
  have := mkD_scale k 1 n
  rw [Int.pow_succ, Int.pow_zero, Int.one_mul, Int.mul_comm] at this
  exact this

theorem digits2 {q : Int} {z : Int × Int} : ∀ (s p g : Nat), s ≤ 48 → p ≤ 24 → g < 2 ^ s → ∃ s' p' g' : Nat, s' ≤ s ∧ p' ≤ p ∧ g' < 2 ^ s' ∧ (p' = 0 ∨ s' = 0 ∨ g' % 2 = 1) ∧ mkD (q * 2 ^ s' + g') p' = mkD (q * 2 ^ s + g) p ∧
    Evt (fun k n => spec_dyDigits_L60 k n q (s : Int) (p : Int) z (g : Int)) (.inr (q, (s' : Int), (p' : Int), z, (g' : Int), ())) := by
  intro s
  induction s with
  | zero =>
    intro p g hs hp hg
    refine ⟨0, p, g, by omega, by omega, hg, .inr (.inl rfl), rfl, Evt.step (fun k n => spec_dyDigits_L60.eq_2 k _ _ _ _ _ n) ?_⟩
    by_cases hp0 : p = 0
    · exact Evt.cfalse (decide_eq_false (by omega)) .pure
    · exact Evt.ctrue (decide_eq_true (by omega)) (Evt.cfalse (decide_eq_false (by omega)) .pure)
  | succ s ih =>
    intro p g hs hp hg
    by_cases hp0 : p = 0
    · subst hp0
      exact ⟨s + 1, 0, g, by omega, by omega, hg, .inl rfl, rfl, Evt.step (fun k n => spec_dyDigits_L60.eq_2 k _ _ _ _ _ n) (Evt.cfalse (decide_eq_false (by omega)) .pure)⟩
    · have hm : Int.tmod (g : Int) 2 = ((g % 2 : Nat) : Int) := rfl
      by_cases hg2 : g % 2 = 0
      · have hgh : g / 2 < 2 ^ s := by rw [Nat.pow_succ] at hg; omega
        obtain ⟨s', p', g', a1, a2, a3, a4, a5, a6⟩ := ih (p - 1) (g / 2) (by omega) (by omega) hgh
        refine ⟨s', p', g', by omega, by omega, a3, a4, ?_, Evt.step (fun k n => spec_dyDigits_L60.eq_2 k _ _ _ _ _ n) ?_⟩
        · rw [a5]
          have e : q * 2 ^ (s + 1) + (g : Int) = 2 * (q * 2 ^ s + ((g / 2 : Nat) : Int)) := by
            rw [Int.pow_succ, Int.mul_add, ← Int.mul_assoc, Int.mul_comm (q * 2 ^ s) 2]
            omega
          have ep : p = (p - 1) + 1 := by omega
          rw [e]
          conv => rhs; rw [ep]
          rw [mkD_two]
        · have w1 : IntKind.wrap .i64 (((s + 1 : Nat) : Int) - 1) = (s : Int) := by rw [w64 (by omega) (by omega)]; omega
          have w2 : IntKind.wrap .i64 ((p : Int) - 1) = ((p - 1 : Nat) : Int) := by rw [w64 (by omega) (by omega)]; omega
          have hgB : g < 2 ^ 48 := Nat.lt_of_lt_of_le hg (Nat.pow_le_pow_right (by decide) hs)
          have h48 : (2 : Nat) ^ 48 = 281474976710656 := by decide
          have w3 : IntKind.wrap .i64 (Int.tdiv (g : Int) 2) = ((g / 2 : Nat) : Int) := by
            have : Int.tdiv (g : Int) 2 = ((g / 2 : Nat) : Int) := rfl
            rw [this, w64 (by omega) (by omega)]
          rw [w1, w2, w3, hm]
          exact Evt.ctrue (decide_eq_true (by omega)) (Evt.ctrue (decide_eq_true (by omega)) (Evt.ctrue (by rw [hg2]; rfl) a6))
      · refine ⟨s + 1, p, g, by omega, by omega, hg, .inr (.inr (by omega)), rfl, Evt.step (fun k n => spec_dyDigits_L60.eq_2 k _ _ _ _ _ n) ?_⟩
        rw [hm]
        have hg1 : g % 2 = 1 := by omega
        exact Evt.ctrue (decide_eq_true (by omega)) (Evt.ctrue (decide_eq_true (by omega)) (Evt.cfalse (by rw [hg1]; rfl) .pure))

theorem mkD_large {n : Int} (h : n < -1099511627776 ∨ 1099511627776 < n) : mkD n 0 = ((0, 0), false) := by
  unfold mkD strip
  rw [if_neg]
  simp only
  omega

theorem digits_ev {q : Int} {r d s p : Nat} (hq : -1099511627777 ≤ q ∧ q ≤ 1099511627777) (hr : r < d) (hd : d ≤ 1099511627776) (hs : s ≤ 48) (hp : p ≤ 24) :
    Evt (fun k _ => spec_dyDigits k q (r : Int) (d : Int) (s : Int) (p : Int)) (mkD (q * 2 ^ s + ((r * 2 ^ s / d : Nat) : Int)) p) := by
  refine Evt.eq (f := fun k q => _) ?_ (fun k q => by rw [spec_dyDigits])
  have h1 := digits1 (q := q) (p := (p : Int)) (z := (0, 0)) hr hd hs s 0 (by omega)
  have e0 : r * 2 ^ 0 % d = r := by rw [Nat.pow_zero, Nat.mul_one, Nat.mod_eq_of_lt hr]
  have e1 : r * 2 ^ 0 / d = 0 := by rw [Nat.pow_zero, Nat.mul_one, Nat.div_eq_of_lt hr]
  rw [e0, e1] at h1
  have hg : r * 2 ^ s / d < 2 ^ s := by
    rw [Nat.div_lt_iff_lt_mul (by omega)]
    exact (Nat.mul_comm d (2 ^ s)) ▸ Nat.mul_lt_mul_of_pos_right hr (Nat.pow_pos (by decide))
  generalize r * 2 ^ s / d = g at h1 hg ⊢
  obtain ⟨s', p', g', a1, a2, a3, a4, a5, a6⟩ := digits2 (q := q) (z := (0, 0)) s p g hs hp hg
  refine Evt.inr (Evt.diag h1) (Evt.inr (Evt.diag a6) ?_)
  rw [← a5]
  dsimp only
  have w1 : IntKind.wrap .i64 (62 - (s' : Int)) = ((62 - s' : Nat) : Int) := by rw [w64 (by omega) (by omega)]; omega
  rw [w1]
  refine Evt.bind (.const (abs_eq (by omega) (by omega))) (Evt.bind (.const (dyPower_eq (by omega))) ?_)
  have hps : 0 < 2 ^ s' := Nat.pow_pos (by decide)
  have h62 : 2 ^ (62 - s') * 2 ^ s' = 4611686018427387904 := by rw [← Nat.pow_add, show 62 - s' + s' = 62 by omega]
  have hs48 : 2 ^ s' ≤ 2 ^ 48 := Nat.pow_le_pow_right (by decide) (by omega)
  have h48 : (2 : Nat) ^ 48 = 281474976710656 := by decide
  have ep : ((2 ^ s' : Nat) : Int) = (2 : Int) ^ s' := by simp
  have eq1 : q * 2 ^ s' = q * ((2 ^ s' : Nat) : Int) := by rw [ep]
  by_cases hc : 2 ^ (62 - s') < q.natAbs
  · refine Evt.ctrue (decide_eq_true (by omega)) ?_
    have hbig : (2 ^ (62 - s') + 1) * 2 ^ s' ≤ q.natAbs * 2 ^ s' := Nat.mul_le_mul_right _ hc
    rw [Nat.add_mul, h62, Nat.one_mul] at hbig
    have hl : q * 2 ^ s' + (g' : Int) < -1099511627776 ∨ 1099511627776 < q * 2 ^ s' + (g' : Int) := by
      have ea : ((q.natAbs * 2 ^ s' : Nat) : Int) = (q.natAbs : Int) * ((2 ^ s' : Nat) : Int) := by simp
      rw [eq1]
      rcases Int.lt_or_le q 0 with h | h
      · have : (q.natAbs : Int) = -q := by omega
        rw [this, Int.neg_mul] at ea
        left
        omega
      · have : (q.natAbs : Int) = q := by omega
        rw [this] at ea
        right
        omega
    rcases a4 with rfl | rfl | h
    · rw [mkD_large hl]
      exact .pure
    · exfalso
      have : (2 : Nat) ^ (62 - 0) = 4611686018427387904 := by decide
      rw [this] at hc
      omega
    · have hs0 : s' ≠ 0 := by
        intro h0
        subst h0
        rw [Nat.pow_zero] at a3
        omega
      obtain ⟨t, rfl⟩ := Nat.exists_eq_succ_of_ne_zero hs0
      rw [mkD_odd (by rw [Int.pow_succ, ← Int.mul_assoc]; omega) hl]
      exact .pure
  · refine Evt.cfalse (decide_eq_false (by omega)) (Evt.bind (.const (dyPower_eq (by omega))) ?_)
    have hsm : q.natAbs * 2 ^ s' ≤ 4611686018427387904 := by
      rw [← h62]
      exact Nat.mul_le_mul_right _ (by omega)
    have hb : -4611686018427387904 ≤ q * ((2 ^ s' : Nat) : Int) ∧ q * ((2 ^ s' : Nat) : Int) ≤ 4611686018427387904 := by
      have ea : ((q.natAbs * 2 ^ s' : Nat) : Int) = (q.natAbs : Int) * ((2 ^ s' : Nat) : Int) := by simp
      rcases Int.lt_or_le q 0 with h | h
      · have : (q.natAbs : Int) = -q := by omega
        rw [this, Int.neg_mul] at ea
        omega
      · have : (q.natAbs : Int) = q := by omega
        rw [this] at ea
        omega
    rw [w64 (n := q * ((2 ^ s' : Nat) : Int)) (by omega) (by omega), w64 (by omega) (by omega), eq1]
    exact Evt.bind (dyMake_ev (by omega) (by omega) (by omega)) .pure

theorem dyDivide_ev {a b : Int × Int} {p : Nat} (ha : gd a) (hb : gd b) (hz : b.1 ≠ 0) (hp : p ≤ 24) : Evt (fun k _ => spec_dyDivide k a b (p : Int)) (mkD (quotV a.1 b.1 (b.2 - a.2 + p)) p) := by
  refine Evt.eq (f := fun k q => _) ?_ (fun k q => by rw [spec_dyDivide])
  have hbz : (b.1 == 0) = false := beq_eq_false_iff_ne.2 hz
  obtain ⟨a1, a2, a3, a4, _⟩ := ha
  obtain ⟨b1, b2, b3, b4, _⟩ := hb
  have core : ∀ (n d : Int), -1099511627776 ≤ n ∧ n ≤ 1099511627776 → 0 < d → d ≤ 1099511627776 → Evt (fun k _ => (Option.bind (spec_dyDown n d) fun r4 => (bif (decide ((IntKind.wrap .i64 ((IntKind.wrap .i64 (b.2 + (p : Int))) - a.2)) < 0)) then (Option.bind (spec_dyPower (IntKind.wrap .i64 (0 - (IntKind.wrap .i64 ((IntKind.wrap .i64 (b.2 + (p : Int))) - a.2))))) fun r5 => (Option.bind (spec_dyDown r4 r5) fun r6 => (Option.bind (spec_dyMake k r6 (p : Int)) fun r7 => some (r7.1, r7.2)))) else (Option.bind (spec_dyDigits k r4 (IntKind.wrap .i64 (n - (IntKind.wrap .i64 (r4 * d)))) d (IntKind.wrap .i64 ((IntKind.wrap .i64 (b.2 + (p : Int))) - a.2)) (p : Int)) fun r8 => some (r8.1, r8.2))))) (mkD ((n * 2 ^ (b.2 - a.2 + p).toNat) / ((d.natAbs * 2 ^ (-(b.2 - a.2 + p)).toNat : Nat) : Int)) p) := by
    intro n d hn hd hd2
    have w1 : IntKind.wrap .i64 ((IntKind.wrap .i64 (b.2 + (p : Int))) - a.2) = b.2 - a.2 + p := by rw [w64 (n := b.2 + (p : Int)) (by omega) (by omega), w64 (by omega) (by omega)]; omega
    simp only [w1]
    have hdn : ((d.natAbs : Nat) : Int) = d := by omega
    have hdd := dyDown_eq (n := n) (p := d.natAbs) (by omega) (by omega) (by omega)
    rw [hdn] at hdd
    have hq1 : -1099511627777 ≤ n / d ∧ n / d ≤ 1099511627777 := by
      have h1 := Int.mul_ediv_add_emod n d
      have h2 := Int.emod_nonneg n (show d ≠ 0 by omega)
      have h3 := Int.emod_lt_of_pos n hd
      constructor
      · rcases Int.lt_or_le (n / d) (-1099511627777) with h | h
        · exfalso
          have : d * (n / d + 1) ≤ 1 * (n / d + 1) := Int.mul_le_mul_of_nonpos_right (show (1 : Int) ≤ d by omega) (by omega)
          rw [Int.mul_add] at this
          omega
        · exact h
      · rcases Int.lt_or_le 1099511627777 (n / d) with h | h
        · exfalso
          have : 1 * (n / d) ≤ d * (n / d) := Int.mul_le_mul_of_nonneg_right (show (1 : Int) ≤ d by omega) (by omega)
          omega
        · exact h
    refine Evt.bind (.const hdd) ?_
    by_cases hs : b.2 - a.2 + (p : Int) < 0
    · refine Evt.ctrue (decide_eq_true hs) ?_
      have e0 : (b.2 - a.2 + (p : Int)).toNat = 0 := by omega
      have wj : IntKind.wrap .i64 (0 - (b.2 - a.2 + (p : Int))) = (((-(b.2 - a.2 + (p : Int))).toNat : Nat) : Int) := by rw [w64 (by omega) (by omega)]; omega
      rw [e0, wj]
      generalize hj : (-(b.2 - a.2 + (p : Int))).toNat = j
      refine Evt.bind (.const (dyPower_eq (by omega))) (Evt.bind (.const (dyDown_eq (Nat.pow_pos (by decide)) (by omega) (by omega))) ?_)
      have ev : n * 2 ^ 0 / ((d.natAbs * 2 ^ j : Nat) : Int) = n / d / ((2 ^ j : Nat) : Int) := by
        have ec : ((d.natAbs * 2 ^ j : Nat) : Int) = d * ((2 ^ j : Nat) : Int) := by rw [Int.natCast_mul, hdn]
        rw [ec, Int.pow_zero, Int.mul_one, Int.ediv_ediv, if_neg (fun h => by have := h.1; omega), Int.sub_zero]
      rw [ev]
      have hb3 := div_bound (n := n / d) (q := 2 ^ j)
      have hpos : (0 : Int) < ((2 ^ j : Nat) : Int) := by have := Nat.pow_pos (a := 2) (n := j) (by decide); omega
      have hbd : -1099511627777 ≤ n / d / ((2 ^ j : Nat) : Int) ∧ n / d / ((2 ^ j : Nat) : Int) ≤ 1099511627777 := by
        have h1 := Int.mul_ediv_add_emod (n / d) ((2 ^ j : Nat) : Int)
        have h2 := Int.emod_nonneg (n / d) (show ((2 ^ j : Nat) : Int) ≠ 0 by omega)
        have h3 := Int.emod_lt_of_pos (n / d) hpos
        generalize n / d / ((2 ^ j : Nat) : Int) = v at h1 ⊢
        generalize ((2 ^ j : Nat) : Int) = w at h1 h2 h3 hpos
        constructor
        · rcases Int.lt_or_le v (-1099511627777) with h | h
          · exfalso
            have : w * (v + 1) ≤ 1 * (v + 1) := Int.mul_le_mul_of_nonpos_right (show (1 : Int) ≤ w by omega) (by omega)
            rw [Int.mul_add] at this
            omega
          · exact h
        · rcases Int.lt_or_le 1099511627777 v with h | h
          · exfalso
            have : 1 * v ≤ w * v := Int.mul_le_mul_of_nonneg_right (show (1 : Int) ≤ w by omega) (by omega)
            omega
          · exact h
      exact Evt.bind (dyMake_ev (by omega) (by omega) (by omega)) .pure
    · refine Evt.cfalse (decide_eq_false hs) ?_
      have e0 : (-(b.2 - a.2 + (p : Int))).toNat = 0 := by omega
      have es : b.2 - a.2 + (p : Int) = (((b.2 - a.2 + (p : Int)).toNat : Nat) : Int) := by omega
      rw [e0, Nat.pow_zero, Nat.mul_one, hdn]
      generalize hsn : (b.2 - a.2 + (p : Int)).toNat = s at es ⊢
      rw [es]
      have h1 := Int.mul_ediv_add_emod n d
      have h2 := Int.emod_nonneg n (show d ≠ 0 by omega)
      have h3 := Int.emod_lt_of_pos n hd
      have hm : n / d * d = n - n % d := by rw [Int.mul_comm]; omega
      have w2 : IntKind.wrap .i64 (n - (IntKind.wrap .i64 (n / d * d))) = (((n % d).toNat : Nat) : Int) := by rw [hm, w64 (n := n - n % d) (by omega) (by omega), w64 (by omega) (by omega)]; omega
      rw [w2]
      have hdig := digits_ev (q := n / d) (r := (n % d).toNat) (d := d.natAbs) (s := s) (p := p) (by omega) (by omega) (by omega) (by omega) hp
      rw [hdn] at hdig
      have ev : n * 2 ^ s / d = n / d * 2 ^ s + (((n % d).toNat * 2 ^ s / d.natAbs : Nat) : Int) := by
        have e1 : (((n % d).toNat * 2 ^ s / d.natAbs : Nat) : Int) = (n % d * 2 ^ s) / d := by
          have e3 : (((n % d).toNat : Nat) : Int) = n % d := by omega
          rw [Int.natCast_ediv, Int.natCast_mul, hdn, e3]
          simp
        rw [e1]
        have e2 : n * 2 ^ s = n % d * 2 ^ s + n / d * 2 ^ s * d := by
          conv => lhs; rw [← h1]
          rw [Int.add_mul, Int.add_comm, Int.mul_comm d, Int.mul_right_comm]
        rw [e2, Int.add_mul_ediv_right _ _ (show d ≠ 0 by omega), Int.add_comm]
      rw [ev]
      exact Evt.bind hdig .pure
  refine Evt.cfalse hbz ?_
  unfold quotV nnI
  by_cases hneg : b.1 < 0
  · have hc := core (-a.1) (-b.1) (by omega) (by omega) (by omega)
    rw [Int.natAbs_neg] at hc
    rw [if_pos hneg]
    exact Evt.inr (Evt.ctrue (decide_eq_true hneg) (Evt.bind (.const (dyMinus_eq ⟨a1, a2, a3, a4, by assumption⟩)) (Evt.bind (.const (dyMinus_eq ⟨b1, b2, b3, b4, by assumption⟩)) .pure))) hc
  · have hc := core a.1 b.1 (by omega) (by omega) (by omega)
    rw [if_neg hneg]
    exact Evt.inr (Evt.cfalse (decide_eq_false hneg) .pure) hc
end Go.Ev.G

namespace Go.Ev.G
open Go Go.Ev
set_option maxRecDepth 100000

def keyT (t : Tm) : Int := 25 * t.2.1 + 5 * t.2.2.1 + t.2.2.2
def exOk (t : Tm) : Prop := (0 ≤ t.2.1 ∧ t.2.1 ≤ 4) ∧ (0 ≤ t.2.2.1 ∧ t.2.2.1 ≤ 4) ∧ (0 ≤ t.2.2.2 ∧ t.2.2.2 ≤ 4)
theorem lexI_lt {a b : Tm} (ha : exOk a) (hb : exOk b) : lexI a b < 0 ↔ keyT a < keyT b := by
  unfold lexI cmpI keyT
  obtain ⟨⟨_, _⟩, ⟨_, _⟩, _, _⟩ := ha
  obtain ⟨⟨_, _⟩, ⟨_, _⟩, _, _⟩ := hb
  split
  · split
    · omega
    · split <;> omega
  · split
    · split
      · omega
      · split <;> omega
    · split
      · omega
      · split <;> omega
theorem lexI_zero {a b : Tm} : lexI a b = 0 ↔ a.2 = b.2 := by
  unfold lexI
  obtain ⟨c, x, y, z⟩ := a
  obtain ⟨c', x', y', z'⟩ := b
  simp only [Prod.mk.injEq]
  split
  · rw [cmpI_zero]; omega
  · split
    · rw [cmpI_zero]; omega
    · rw [cmpI_zero]; omega
def srt (l : List Tm) : Prop := l.Pairwise fun a b => keyT a ≤ keyT b

theorem ins_loop {x2 x8 : Int} {e : Tm} {R : List Tm} (he : exOk e) : ∀ (m : Nat) (P1 P2 : List Tm), P1.length = m → (P1 ++ e :: P2 ++ R).length < lenB → (∀ t ∈ P1 ++ P2, exOk t) → srt (P1 ++ P2) → (∀ p ∈ P2, keyT e ≤ keyT p) →
    ∃ Y, Y.Perm (P1 ++ e :: P2) ∧ srt Y ∧ Evt (fun k n => slices_insertionSortCmpFunc_Term_impl_compareTerms_L402 k n (P1 ++ e :: (P2 ++ R)) 0 x2 () x8 P1.length) (.inr (Y ++ R, 0, x2, (), x8, ())) := by
  intro m
  induction m with
  | zero =>
    intro P1 P2 hm hb hx hs hp
    have hn : P1 = [] := List.eq_nil_of_length_eq_zero hm
    subst hn
    refine ⟨e :: P2, .refl _, List.pairwise_cons.2 ⟨hp, hs⟩, Evt.step (fun k n => slices_insertionSortCmpFunc_Term_impl_compareTerms_L402.eq_2 k _ _ _ _ _ _ n) ?_⟩
    exact Evt.cfalse (by simp) .pure
  | succ m ih =>
    intro P1 P2 hm hb hx hs hp
    obtain ⟨Q, p, hQ⟩ : ∃ Q p, P1 = Q ++ [p] := ⟨P1.dropLast, P1.getLast (by intro h; rw [h] at hm; simp at hm), (List.dropLast_concat_getLast _).symm⟩
    subst hQ
    have hQl : Q.length = m := by simpa using hm
    have hpx : exOk p := hx p (by simp)
    have e0 : Q ++ [p] ++ e :: (P2 ++ R) = Q ++ p :: e :: (P2 ++ R) := by simp
    have hlen : (Q ++ [p] ++ e :: (P2 ++ R)).length = Q.length + 2 + P2.length + R.length := by simp; omega
    simp only [List.length_append, List.length_cons, List.length_nil, lenB] at hb
    have hj : IntKind.wrap .i64 (((Q ++ [p]).length : Int) - 1) = (Q.length : Int) := by rw [w64 (by simp <;> omega) (by simp <;> omega)]; simp
    have g1 : (Q ++ [p] ++ e :: (P2 ++ R)).getD (Int.toNat ((Q ++ [p]).length : Int)) (0, 0, 0, 0) = e := mid_get
    have g2 : (Q ++ [p] ++ e :: (P2 ++ R)).getD (Int.toNat (Q.length : Int)) (0, 0, 0, 0) = p := by rw [e0]; exact mid_get
    have s1 : (Q ++ [p] ++ e :: (P2 ++ R)).set (Int.toNat ((Q ++ [p]).length : Int)) p = Q ++ p :: (p :: (P2 ++ R)) := by rw [mid_set]; simp
    have c1 : decide (((Q ++ [p]).length : Int) < ((Q ++ [p] ++ e :: (P2 ++ R)).length : Int)) = true := mid_lt
    have c2 : decide ((Q.length : Int) < ((Q ++ [p] ++ e :: (P2 ++ R)).length : Int)) = true := decide_eq_true (by rw [hlen]; omega)
    have hstep := fun (k n : Nat) => slices_insertionSortCmpFunc_Term_impl_compareTerms_L402.eq_2 k (Q ++ [p] ++ e :: (P2 ++ R)) 0 x2 () x8 ((Q ++ [p]).length : Int) n
    simp only [hj, g1, g2, s1] at hstep
    by_cases hc : lexI e p < 0
    · obtain ⟨Y, q1, q2, q3⟩ := ih Q (p :: P2) hQl (by simp only [List.length_append, List.length_cons, lenB]; omega) (by simpa using hx) (by simpa [srt] using hs) (by
        intro q hq
        have hep := (lexI_lt he hpx).1 hc
        rcases List.mem_cons.1 hq with rfl | hq
        · omega
        · have h2 := (List.pairwise_append.1 hs).2.2 p (by simp) q hq
          omega)
      refine ⟨Y, q1.trans ?_, q2, Evt.step (fun k n => hstep k n) ?_⟩
      · rw [List.append_assoc]
        exact List.Perm.append_left Q (List.Perm.swap p e P2)
      · refine Evt.ctrue (decide_eq_true (by simp)) (Evt.ctrue mid_ge (Evt.ctrue c1 (Evt.ctrue mid_ge (Evt.ctrue c2 (Evt.bind (compareTerms_ev e p) (Evt.ctrue (decide_eq_true hc) (Evt.ctrue mid_ge (Evt.ctrue c2 (Evt.ctrue mid_ge (Evt.ctrue c1 (Evt.ctrue mid_ge (Evt.ctrue c1 (Evt.ctrue mid_ge (Evt.ctrue mid_lt ?_))))))))))))))
        rw [mid_set]
        exact q3
    · refine ⟨Q ++ [p] ++ e :: P2, .refl _, ?_, Evt.step (fun k n => hstep k n) ?_⟩
      · have hpe : keyT p ≤ keyT e := by
          have := mt (lexI_lt he hpx).2 hc
          omega
        refine List.pairwise_append.2 ⟨(List.pairwise_append.1 hs).1, List.pairwise_cons.2 ⟨hp, (List.pairwise_append.1 hs).2.1⟩, fun a ha b hb => ?_⟩
        have hap : keyT a ≤ keyT p := by
          rcases List.mem_append.1 ha with ha | ha
          · exact (List.pairwise_append.1 (List.pairwise_append.1 hs).1).2.2 a ha p (by simp)
          · simp at ha; subst ha; exact Int.le_refl _
        rcases List.mem_cons.1 hb with rfl | hb
        · omega
        · have := hp b hb
          omega
      · refine Evt.ctrue (decide_eq_true (by simp)) (Evt.ctrue mid_ge (Evt.ctrue c1 (Evt.ctrue mid_ge (Evt.ctrue c2 (Evt.bind (compareTerms_ev e p) (Evt.cfalse (decide_eq_false hc) ?_))))))
        have : Q ++ [p] ++ e :: (P2 ++ R) = Q ++ [p] ++ e :: P2 ++ R := by simp
        rw [this]
        exact .pure

theorem sort_loop : ∀ (r P : List Tm), (P ++ r).length < lenB → (∀ t ∈ P ++ r, exOk t) → srt P →
    ∃ Y, Y.Perm (P ++ r) ∧ srt Y ∧ Evt (fun k n => slices_insertionSortCmpFunc_Term_impl_compareTerms_L6 k n (P ++ r) 0 ((P ++ r).length : Int) () P.length) (.inr (Y, ())) := by
  intro r
  induction r with
  | nil =>
    intro P hb hx hs
    rw [List.append_nil]
    exact ⟨P, .refl _, hs, Evt.step (fun k n => slices_insertionSortCmpFunc_Term_impl_compareTerms_L6.eq_2 k _ _ _ _ _ n) (Evt.cfalse (by simp) .pure)⟩
  | cons e r ih =>
    intro P hb hx hs
    obtain ⟨Y, q1, q2, q3⟩ := ins_loop (x2 := ((P ++ e :: r).length : Int)) (x8 := (P.length : Int)) (R := r) (hx e (by simp)) P.length P [] rfl (by simpa using hb) (fun t ht => hx t (by simp at ht; simp [ht])) (by simpa using hs) (by simp)
    have hl := q1.length_eq
    have hl2 : Y.length = P.length + 1 := by simpa using hl
    have hmem : ∀ t ∈ Y ++ r, exOk t := by
      intro t ht
      rcases List.mem_append.1 ht with ht | ht
      · have := q1.mem_iff.1 ht
        exact hx t (by simp at this; rcases this with h | h <;> simp [h])
      · exact hx t (by simp [ht])
    have hlen : (Y ++ r).length = (P ++ e :: r).length := by simp; omega
    obtain ⟨Z, z1, z2, z3⟩ := ih Y (by rw [hlen]; exact hb) hmem q2
    refine ⟨Z, z1.trans ?_, z2, Evt.step (fun k n => slices_insertionSortCmpFunc_Term_impl_compareTerms_L6.eq_2 k _ _ _ _ _ n) ?_⟩
    · have := List.Perm.append_right r q1
      simpa using this
    · refine Evt.ctrue mid_lt (Evt.inr (Evt.diag q3) ?_)
      rw [hlen, hl2] at z3
      have hb2 : P.length < lenB := by simp at hb; simp only [lenB] at hb ⊢; omega
      simp only [w64_next hb2]
      exact z3

theorem insSort_ev {l : List Tm} (hb : l.length < lenB) (hx : ∀ t ∈ l, exOk t) : ∃ Y, Y.Perm l ∧ srt Y ∧ Evt (fun k _ => slices_insertionSortCmpFunc_Term_impl_compareTerms k l 0 (l.length : Int) ()) Y := by
  cases l with
  | nil =>
    refine ⟨[], .refl _, List.Pairwise.nil, Evt.eq (f := fun k q => _) ?_ (fun k q => by rw [slices_insertionSortCmpFunc_Term_impl_compareTerms])⟩
    have h1 : Evt (fun k n => slices_insertionSortCmpFunc_Term_impl_compareTerms_L6 k n [] 0 (([] : List Tm).length : Int) () (IntKind.wrap .i64 (0 + 1))) (.inr ([], ())) := Evt.step (fun k n => slices_insertionSortCmpFunc_Term_impl_compareTerms_L6.eq_2 k _ _ _ _ _ n) (Evt.cfalse (by decide) .pure)
    exact Evt.inr (Evt.diag h1) .pure
  | cons a r =>
    obtain ⟨Y, q1, q2, q3⟩ := sort_loop r [a] hb hx (List.pairwise_singleton _ _)
    refine ⟨Y, q1, q2, Evt.eq (f := fun k q => _) ?_ (fun k q => by rw [slices_insertionSortCmpFunc_Term_impl_compareTerms])⟩
    exact Evt.inr (Evt.diag q3) .pure
theorem insNone_ev {l : List Tm} {m : Nat} (hm : m < lenB) : Evt (fun k _ => slices_insertionSortCmpFunc_Term_impl_compareTerms k l m m ()) l := by
  refine Evt.eq (f := fun k q => _) ?_ (fun k q => by rw [slices_insertionSortCmpFunc_Term_impl_compareTerms])
  have h1 : Evt (fun k n => slices_insertionSortCmpFunc_Term_impl_compareTerms_L6 k n l (m : Int) (m : Int) () (IntKind.wrap .i64 ((m : Int) + 1))) (.inr (l, ())) := by
    refine Evt.step (fun k n => slices_insertionSortCmpFunc_Term_impl_compareTerms_L6.eq_2 k _ _ _ _ _ n) (Evt.cfalse (decide_eq_false ?_) .pure)
    rw [w64_next hm]
    omega
  exact Evt.inr (Evt.diag h1) .pure

theorem stable_ev {l : List Tm} (hb : l.length ≤ 20) (hx : ∀ t ∈ l, exOk t) : ∃ Y, Y.Perm l ∧ srt Y ∧ Evt (fun k _ => slices_SortStableFunc_Term_Term_impl_compareTerms k l ()) Y := by
  obtain ⟨Y, q1, q2, q3⟩ := insSort_ev (l := l) (by simp only [lenB]; omega) hx
  refine ⟨Y, q1, q2, Evt.eq (f := fun k q => _) ?_ (fun k q => by rw [slices_SortStableFunc_Term_Term_impl_compareTerms])⟩
  refine Evt.bind (a := Y) ?_ .pure
  refine Evt.eq (f := fun k q => _) ?_ (fun k q => by rw [slices_stableCmpFunc_Term_impl_compareTerms])
  have hend : Evt (fun k n => slices_stableCmpFunc_Term_impl_compareTerms_L62 k n Y (l.length : Int) () 20) (.inr (Y, ())) :=
    Evt.step (fun k n => slices_stableCmpFunc_Term_impl_compareTerms_L62.eq_2 k _ _ _ _ n) (Evt.cfalse (decide_eq_false (by omega)) .pure)
  by_cases h20 : l.length = 20
  · have hl : (l.length : Int) = 20 := by omega
    have h1 : Evt (fun k n => slices_stableCmpFunc_Term_impl_compareTerms_L28 k n l (l.length : Int) () 20 0 20) (.inr (Y, (l.length : Int), (), 20, 20, ())) := by
      refine Evt.step (fun k n => slices_stableCmpFunc_Term_impl_compareTerms_L28.eq_2 k _ _ _ _ _ _ n) (Evt.ctrue (decide_eq_true (by omega)) ?_)
      rw [hl] at q3 ⊢
      refine Evt.bind q3 ?_
      exact Evt.step (fun k n => slices_stableCmpFunc_Term_impl_compareTerms_L28.eq_2 k _ _ _ _ _ _ n) (Evt.cfalse (by decide) .pure)
    refine Evt.inr (Evt.diag h1) (Evt.bind (a := Y) ?_ (Evt.inr (Evt.diag hend) .pure))
    rw [hl]
    exact insNone_ev (m := 20) (by simp only [lenB]; omega)
  · have h1 : Evt (fun k n => slices_stableCmpFunc_Term_impl_compareTerms_L28 k n l (l.length : Int) () 20 0 20) (.inr (l, (l.length : Int), (), 20, 0, ())) :=
      Evt.step (fun k n => slices_stableCmpFunc_Term_impl_compareTerms_L28.eq_2 k _ _ _ _ _ _ n) (Evt.cfalse (decide_eq_false (by omega)) .pure)
    exact Evt.inr (Evt.diag h1) (Evt.bind q3 (Evt.inr (Evt.diag hend) .pure))

def mgR : Option Tm → List Tm → List Tm
  | none, [] => []
  | none, t :: r => mgR (some t) r
  | some q, [] => [q]
  | some q, t :: r => if lexI q t = 0 then mgR (some (q.1 + t.1, q.2)) r else q :: mgR (some t) r
theorem mgR_len : ∀ (r : List Tm) (o : Option Tm), (mgR o r).length ≤ r.length + 1
  | [], none => by simp [mgR]
  | [], some q => by simp [mgR]
  | t :: r, none => by have := mgR_len r (some t); simp [mgR]; omega
  | t :: r, some q => by
    unfold mgR
    split
    · have := mgR_len r (some (q.1 + t.1, q.2)); simp; omega
    · have := mgR_len r (some t); simp; omega

theorem merge_loop {xs : List Tm} (hb : xs.length ≤ 20) : ∀ (r dd d : List Tm) (q : Tm), dd ++ r = xs → d.length ≤ dd.length → (∀ t ∈ r, -4000 ≤ t.1 ∧ t.1 ≤ 4000) → -1000000 + 4000 * (r.length : Int) ≤ q.1 → q.1 ≤ 1000000 - 4000 * (r.length : Int) →
    Evt (fun k n => impl_collect_L250 k n (d ++ [q]) xs (xs.length : Int) dd.length) (.inr (d ++ mgR (some q) r, ())) := by
  intro r
  induction r with
  | nil =>
    intro dd d q h _ _ _ _
    refine Evt.step (fun k n => impl_collect_L250.eq_2 k _ _ _ _ n) ?_
    rw [List.append_nil] at h
    subst h
    exact Evt.cfalse (by simp) .pure
  | cons t r ih =>
    intro dd d q h hd ht h1 h2
    have hl := congrArg List.length h
    simp at hl
    have hq1 := ht t (by simp)
    simp only [List.length_cons] at h1 h2
    have hw : IntKind.wrap .i64 (((d ++ [q]).length : Int) - 1) = (d.length : Int) := by rw [w64 (by simp <;> omega) (by simp <;> omega)]; simp
    have g1 : (d ++ [q]).getD (Int.toNat (d.length : Int)) (0, 0, 0, 0) = q := mid_get
    have g2 : xs.getD (Int.toNat (dd.length : Int)) (0, 0, 0, 0) = t := by rw [← h]; exact mid_get
    have hstep := fun (k n : Nat) => impl_collect_L250.eq_2 k (d ++ [q]) xs (xs.length : Int) (dd.length : Int) n
    simp only [hw, g1, g2] at hstep
    refine Evt.step (fun k n => hstep k n) ?_
    have c0 : decide ((dd.length : Int) < (xs.length : Int)) = true := by rw [← h]; exact mid_lt
    have c1 : decide ((d.length : Int) < ((d ++ [q]).length : Int)) = true := mid_lt
    have hnx := len_next (d := dd) (r := r) (e := t) (by rw [h]; simp only [lenB]; omega)
    refine Evt.ctrue c0 (Evt.ctrue mid_ge (Evt.ctrue c0 (Evt.ctrue (decide_eq_true (by simp)) (Evt.ctrue mid_ge (Evt.ctrue c1 (Evt.bind (compareTerms_ev q t) ?_))))))
    rw [hnx]
    unfold mgR
    by_cases hz : lexI q t = 0
    · rw [if_pos hz]
      have ih := ih (dd ++ [t]) d (q.1 + t.1, q.2) (by simpa using h) (by simp; omega) (fun u hu => ht u (by simp [hu])) (by simp only; omega) (by simp only; omega)
      refine Evt.ctrue (by simp [hz]) (Evt.ctrue mid_ge (Evt.ctrue c1 (Evt.ctrue mid_ge (Evt.ctrue c1 ?_))))
      rw [mid_set, w64 (n := q.1 + t.1) (by omega) (by omega)]
      exact ih
    · rw [if_neg hz]
      have ih := ih (dd ++ [t]) (d ++ [q]) t (by simpa using h) (by simp; omega) (fun u hu => ht u (by simp [hu])) (by omega) (by omega)
      refine Evt.cfalse (by simpa using hz) (Evt.ctrue (decide_eq_true (by simp; omega)) ?_)
      rw [List.append_assoc d [q] (mgR _ _)] at ih
      exact ih
theorem merge_ev {xs : List Tm} (hb : xs.length ≤ 20) (ht : ∀ t ∈ xs, -4000 ≤ t.1 ∧ t.1 ≤ 4000) : Evt (fun k n => impl_collect_L250 k n [] xs (xs.length : Int) 0) (.inr (mgR none xs, ())) := by
  cases xs with
  | nil => exact Evt.step (fun k n => impl_collect_L250.eq_2 k _ _ _ _ n) (Evt.cfalse (by decide) .pure)
  | cons t r =>
    have ht1 := ht t (by simp)
    simp at hb
    have hm := merge_loop (xs := t :: r) (by simpa using hb) r [t] [] t rfl (by simp) (fun u hu => ht u (by simp [hu])) (by omega) (by omega)
    refine Evt.step (fun k n => impl_collect_L250.eq_2 k _ _ _ _ n) ?_
    refine Evt.ctrue (decide_eq_true (by simp <;> omega)) (Evt.ctrue (by decide) (Evt.ctrue (decide_eq_true (by simp <;> omega)) (Evt.cfalse (by decide) (Evt.ctrue (decide_eq_true (by simp)) ?_))))
    exact hm

def nzT (t : Tm) : Bool := !(t.1 == 0)
theorem index_ev {l : List Tm} (hb : l.length < lenB) : (l.all nzT = true → Evt (fun k _ => slices_IndexFunc_Term_Term_impl_collect_1 k l ()) (-1)) ∧ (l.all nzT = false → ∃ A b r, l = A ++ b :: r ∧ A.all nzT = true ∧ nzT b = false ∧ Evt (fun k _ => slices_IndexFunc_Term_Term_impl_collect_1 k l ()) (A.length : Int)) := by
  have key : ∀ (r d : List Tm), d ++ r = l → d.all nzT = true → (r.all nzT = true → Evt (fun k n => slices_IndexFunc_Term_Term_impl_collect_1_L26 k n l () (l.length : Int) d.length) (.inr ())) ∧
      (r.all nzT = false → ∃ A b r', l = A ++ b :: r' ∧ A.all nzT = true ∧ nzT b = false ∧ Evt (fun k n => slices_IndexFunc_Term_Term_impl_collect_1_L26 k n l () (l.length : Int) d.length) (.inl (A.length : Int))) := by
    intro r
    induction r with
    | nil =>
      intro d h hd
      refine ⟨fun _ => Evt.step (fun k n => slices_IndexFunc_Term_Term_impl_collect_1_L26.eq_2 k _ _ _ _ n) ?_, fun h => by simp at h⟩
      rw [List.append_nil] at h
      subst h
      exact Evt.cfalse (by simp) .pure
    | cons e r ih =>
      intro d h hd
      have hnx := len_next (d := d) (r := r) (e := e) (by rw [h]; exact hb)
      have g : l.getD (Int.toNat (d.length : Int)) (0, 0, 0, 0) = e := by rw [← h]; exact mid_get
      have c0 : decide ((d.length : Int) < (l.length : Int)) = true := by rw [← h]; exact mid_lt
      have hstep := fun (k n : Nat) => slices_IndexFunc_Term_Term_impl_collect_1_L26.eq_2 k l () (l.length : Int) (d.length : Int) n
      simp only [g, hnx] at hstep
      cases he : nzT e with
      | true =>
        obtain ⟨i1, i2⟩ := ih (d ++ [e]) (by simpa using h) (by simp only [List.all_append, hd, Bool.true_and, List.all_cons, he, List.all_nil])
        have hz : (e.1 == 0) = false := by unfold nzT at he; simpa using he
        have st : ∀ v, Evt (fun k n => slices_IndexFunc_Term_Term_impl_collect_1_L26 k n l () (l.length : Int) (d ++ [e]).length) v → Evt (fun k n => slices_IndexFunc_Term_Term_impl_collect_1_L26 k n l () (l.length : Int) d.length) v := fun v hv =>
          Evt.step (fun k n => hstep k n) (Evt.ctrue c0 (Evt.ctrue mid_ge (Evt.ctrue c0 (Evt.bind (.const (r := false) (by unfold impl_collect_1; rw [hz])) hv))))
        refine ⟨fun ha => st _ (i1 (by simpa [he] using ha)), fun ha => ?_⟩
        obtain ⟨A, b, r', e1, e2, e3, e4⟩ := i2 (by simpa [he] using ha)
        exact ⟨A, b, r', e1, e2, e3, st _ e4⟩
      | false =>
        have hz : (e.1 == 0) = true := by unfold nzT at he; simpa using he
        refine ⟨fun ha => by simp [he] at ha, fun _ => ⟨d, e, r, h.symm, hd, he, ?_⟩⟩
        exact Evt.step (fun k n => hstep k n) (Evt.ctrue c0 (Evt.ctrue mid_ge (Evt.ctrue c0 (Evt.bind (.const (r := true) (by unfold impl_collect_1; rw [hz])) .pure))))
  obtain ⟨k1, k2⟩ := key l [] rfl rfl
  refine ⟨fun h => Evt.eq (f := fun k q => _) ?_ (fun k q => by rw [slices_IndexFunc_Term_Term_impl_collect_1]), fun h => ?_⟩
  · exact Evt.inr (Evt.diag (k1 h)) .pure
  · obtain ⟨A, b, r', e1, e2, e3, e4⟩ := k2 h
    refine ⟨A, b, r', e1, e2, e3, Evt.eq (f := fun k q => _) ?_ (fun k q => by rw [slices_IndexFunc_Term_Term_impl_collect_1])⟩
    exact Evt.inl (Evt.diag e4) .pure

theorem delete_loop : ∀ (r A : List Tm) (b : Tm) (B : List Tm), (A ++ b :: B ++ r).length < lenB → ∃ X, X.length = (A ++ b :: B ++ r).length ∧ X.take (A ++ r.filter nzT).length = A ++ r.filter nzT ∧
    Evt (fun k n => slices_DeleteFunc_Term_Term_impl_collect_1_L122 k n (A ++ b :: (B ++ r)) () A.length ((A ++ b :: B).length : Int)) (.inr (X, ((A ++ r.filter nzT).length : Int), ())) := by
  intro r
  induction r with
  | nil =>
    intro A b B hb
    refine ⟨A ++ b :: B, by simp, by simp, Evt.step (fun k n => slices_DeleteFunc_Term_Term_impl_collect_1_L122.eq_2 k _ _ _ _ n) ?_⟩
    simp only [List.append_nil, List.filter_nil]
    exact Evt.cfalse (by simp) .pure
  | cons e r ih =>
    intro A b B hb
    have g : (A ++ b :: (B ++ e :: r)).getD (Int.toNat ((A ++ b :: B).length : Int)) (0, 0, 0, 0) = e := by
      have : A ++ b :: (B ++ e :: r) = (A ++ b :: B) ++ e :: r := by simp
      rw [this]
      exact mid_get
    have c0 : decide (((A ++ b :: B).length : Int) < ((A ++ b :: (B ++ e :: r)).length : Int)) = true := decide_eq_true (by simp; omega)
    have c1 : decide ((A.length : Int) < ((A ++ b :: (B ++ e :: r)).length : Int)) = true := mid_lt
    have hlt : (A ++ b :: B).length < lenB := by simp at hb ⊢; simp only [lenB] at hb ⊢; omega
    have hlA : A.length < lenB := by simp at hb ⊢; simp only [lenB] at hb ⊢; omega
    have hn1 := w64_next hlt
    have hn2 := w64_next hlA
    have hstep := fun (k n : Nat) => slices_DeleteFunc_Term_Term_impl_collect_1_L122.eq_2 k (A ++ b :: (B ++ e :: r)) () (A.length : Int) ((A ++ b :: B).length : Int) n
    simp only [g, hn1, hn2] at hstep
    cases he : nzT e with
    | true =>
      have hz : (e.1 == 0) = false := by unfold nzT at he; simpa using he
      cases B with
      | nil =>
        obtain ⟨X, x1, x2, x3⟩ := ih (A ++ [e]) e [] (by simpa using hb)
        refine ⟨X, by rw [x1]; simp, by simpa [he] using x2, Evt.step (fun k n => hstep k n) ?_⟩
        refine Evt.ctrue c0 (Evt.ctrue mid_ge (Evt.ctrue c0 (Evt.bind (.const (r := false) (by unfold impl_collect_1; rw [hz])) (Evt.ctrue rfl (Evt.ctrue mid_ge (Evt.ctrue c1 ?_))))))
        rw [mid_set]
        have e3 : A ++ [e] ++ e :: ([] ++ r) = A ++ e :: ([] ++ e :: r) := by simp
        rw [e3] at x3
        have e4 : A ++ [e] ++ r.filter nzT = A ++ (e :: r).filter nzT := by simp [he]
        have l1 : (A ++ [e]).length = A.length + 1 := by simp
        have l2 : (A ++ [e] ++ e :: []).length = (A ++ b :: []).length + 1 := by simp
        rw [e4, l1, l2] at x3
        exact x3
      | cons b' B =>
        obtain ⟨X, x1, x2, x3⟩ := ih (A ++ [e]) b' (B ++ [e]) (by simp at hb ⊢; simp only [lenB] at hb ⊢; omega)
        refine ⟨X, by rw [x1]; simp, by simpa [he] using x2, Evt.step (fun k n => hstep k n) ?_⟩
        refine Evt.ctrue c0 (Evt.ctrue mid_ge (Evt.ctrue c0 (Evt.bind (.const (r := false) (by unfold impl_collect_1; rw [hz])) (Evt.ctrue rfl (Evt.ctrue mid_ge (Evt.ctrue c1 ?_))))))
        rw [mid_set]
        have e4 : A ++ [e] ++ r.filter nzT = A ++ (e :: r).filter nzT := by simp [he]
        have l1 : (A ++ [e]).length = A.length + 1 := by simp
        have l2 : (A ++ [e] ++ b' :: (B ++ [e])).length = (A ++ b :: b' :: B).length + 1 := by simp; omega
        have e3 : A ++ [e] ++ b' :: (B ++ [e] ++ r) = A ++ e :: (b' :: B ++ e :: r) := by simp
        rw [e4, l1, l2, e3] at x3
        exact x3
    | false =>
      have hz : (e.1 == 0) = true := by unfold nzT at he; simpa using he
      obtain ⟨X, x1, x2, x3⟩ := ih A b (B ++ [e]) (by simpa using hb)
      refine ⟨X, by rw [x1]; simp, by simpa [he] using x2, Evt.step (fun k n => hstep k n) ?_⟩
      refine Evt.ctrue c0 (Evt.ctrue mid_ge (Evt.ctrue c0 (Evt.bind (.const (r := true) (by unfold impl_collect_1; rw [hz])) (Evt.cfalse rfl ?_))))
      have e4 : A ++ r.filter nzT = A ++ (e :: r).filter nzT := by simp [he]
      have l2 : (A ++ b :: (B ++ [e])).length = (A ++ b :: B).length + 1 := by simp; omega
      have e3 : A ++ b :: (B ++ [e] ++ r) = A ++ b :: (B ++ e :: r) := by simp
      rw [e4, l2, e3] at x3
      exact x3

theorem delete_ev {l : List Tm} (hb : l.length < lenB) : Evt (fun k _ => slices_DeleteFunc_Term_Term_impl_collect_1 k l ()) (l.filter nzT) := by
  refine Evt.eq (f := fun k q => _) ?_ (fun k q => by rw [slices_DeleteFunc_Term_Term_impl_collect_1])
  obtain ⟨i1, i2⟩ := index_ev hb
  cases ha : l.all nzT with
  | true =>
    have : l.filter nzT = l := List.filter_eq_self.2 (List.all_eq_true.1 ha)
    rw [this]
    exact Evt.bind (i1 ha) (Evt.ctrue rfl .pure)
  | false =>
    obtain ⟨A, b, r, rfl, hA, hbz, hev⟩ := i2 ha
    obtain ⟨X, x1, x2, x3⟩ := delete_loop r A b [] (by simpa using hb)
    have hlA : A.length < lenB := by simp at hb ⊢; simp only [lenB] at hb ⊢; omega
    have hn2 := w64_next hlA
    have e1 : (A ++ b :: r).filter nzT = A ++ r.filter nzT := by rw [List.filter_append, List.filter_eq_self.2 (List.all_eq_true.1 hA), List.filter_cons, hbz]; rfl
    rw [e1]
    have hle : (A ++ r.filter nzT).length < X.length := by
      rw [x1]
      have := List.length_filter_le nzT r
      simp
      omega
    refine Evt.bind hev (Evt.cfalse (by simp) ?_)
    have hx3 : Evt (fun k n => slices_DeleteFunc_Term_Term_impl_collect_1_L122 k n (A ++ b :: r) () (A.length : Int) (IntKind.wrap .i64 ((A.length : Int) + 1))) (.inr (X, ((A ++ r.filter nzT).length : Int), ())) := by
      rw [hn2]
      simpa using x3
    refine Evt.inr (Evt.diag hx3) ?_
    dsimp only
    generalize A ++ r.filter nzT = F at hle x2
    have hn : Int.toNat (F.length : Int) = F.length := Int.toNat_natCast _
    have e2 : (X.take F.length ++ List.replicate (X.length - F.length) ((0, 0, 0, 0) : Tm)).take F.length = F := by
      rw [List.take_append_of_le_length (by rw [List.length_take]; omega), List.take_take, Nat.min_self, x2]
    rw [hn]
    refine Evt.ctrue mid_ge (Evt.ctrue (decide_eq_true (by omega)) (Evt.ctrue mid_ge (Evt.ctrue (decide_eq_true (by rw [List.length_append, List.length_take, List.length_replicate, Nat.min_eq_left (Nat.le_of_lt hle)]; omega)) ?_)))
    rw [e2]
    exact .pure

theorem mgR_filter : ∀ (r : List Tm) (q : Tm), (∀ t ∈ q :: r, exOk t) → srt (q :: r) → ((q :: r).filter nzT).Pairwise (fun a b => keyT a < keyT b) → (mgR (some q) r).filter nzT = (q :: r).filter nzT
  | [], q, _, _, _ => rfl
  | t :: r, q, hx, hs, hp => by
    have hq := hx q (by simp)
    have ht := hx t (by simp)
    obtain ⟨s1, s2⟩ := List.pairwise_cons.1 hs
    obtain ⟨s3, s4⟩ := List.pairwise_cons.1 s2
    unfold mgR
    by_cases hz : lexI q t = 0
    · rw [if_pos hz]
      have h2 := lexI_zero.1 hz
      have hk : keyT q = keyT t := by unfold keyT; rw [h2]
      by_cases hq0 : q.1 = 0
      · have e1 : ((q.1 + t.1, q.2) : Tm) = t := by rw [hq0, h2, Int.zero_add]
        have nq : nzT q = false := by unfold nzT; simp [hq0]
        rw [e1, List.filter_cons (x := q), nq]
        rw [List.filter_cons (x := q), nq] at hp
        exact mgR_filter r t (fun u hu => hx u (by simp at hu ⊢; exact .inr hu)) s2 hp
      · by_cases ht0 : t.1 = 0
        · have e1 : ((q.1 + t.1, q.2) : Tm) = q := by rw [ht0, Int.add_zero]
          have nq : nzT q = true := by unfold nzT; simp [hq0]
          have nt : nzT t = false := by unfold nzT; simp [ht0]
          rw [e1, mgR_filter r q (fun u hu => hx u (by simp at hu ⊢; rcases hu with h | h <;> simp [h])) (List.pairwise_cons.2 ⟨fun u hu => s1 u (by simp [hu]), s4⟩) (by
            rw [List.filter_cons, if_pos nq, List.filter_cons, nt] at hp
            rw [List.filter_cons, if_pos nq]
            exact hp)]
          rw [List.filter_cons, List.filter_cons (x := q), List.filter_cons (x := t), nt, nq]
          rfl
        · exfalso
          have nq : nzT q = true := by unfold nzT; simp [hq0]
          have nt : nzT t = true := by unfold nzT; simp [ht0]
          rw [List.filter_cons, if_pos nq, List.filter_cons, if_pos nt] at hp
          have := (List.pairwise_cons.1 hp).1 t (by simp)
          omega
    · rw [if_neg hz]
      have h2 : ((t :: r).filter nzT).Pairwise (fun a b => keyT a < keyT b) := by
        rw [List.filter_cons] at hp
        split at hp
        · exact (List.pairwise_cons.1 hp).2
        · exact hp
      have ih := mgR_filter r t (fun u hu => hx u (by simp at hu ⊢; exact .inr hu)) s2 h2
      rw [List.filter_cons, List.filter_cons (x := q), ih]

theorem collect_ev {l : List Tm} (hb : l.length ≤ 20) (hx : ∀ t ∈ l, exOk t) (hc : ∀ t ∈ l, -4000 ≤ t.1 ∧ t.1 ≤ 4000) (hp : (l.filter nzT).Pairwise fun a b => keyT a < keyT b) : Evt (fun k _ => impl_collect k l) (l.filter nzT) := by
  obtain ⟨Y, q1, q2, q3⟩ := stable_ev hb hx
  refine Evt.eq (f := fun k q => _) ?_ (fun k q => by rw [impl_collect])
  have hcl : slices_Clone_Term_Term l = some l := by
    unfold slices_Clone_Term_Term
    rw [decide_eq_true (by simp; omega)]
    rfl
  have hl := q1.length_eq
  have hm := merge_ev (xs := Y) (by omega) (fun t ht => hc t (q1.mem_iff.1 ht))
  have hlen : (mgR none Y).length < lenB := by
    have := mgR_len Y none
    simp only [lenB]; omega
  refine Evt.bind (.const hcl) (Evt.bind q3 (Evt.inr (Evt.diag hm) (Evt.bind (delete_ev hlen) ?_)))
  have hf : Y.filter nzT = l.filter nzT := by
    refine List.Perm.eq_of_pairwise (le := fun a b => keyT a ≤ keyT b) ?_ (List.Pairwise.filter _ q2) (hp.imp (fun h => Int.le_of_lt h)) (q1.filter _)
    intro a b ha hb' h1 h2
    have hk : keyT a = keyT b := Int.le_antisymm h1 h2
    have ha' : a ∈ l.filter nzT := (q1.filter nzT).mem_iff.1 ha
    obtain ⟨i, hi, rfl⟩ := List.getElem_of_mem ha'
    obtain ⟨j, hj, rfl⟩ := List.getElem_of_mem hb'
    rcases Nat.lt_trichotomy i j with h | h | h
    · have := List.pairwise_iff_getElem.1 hp i j hi hj h; omega
    · subst h; rfl
    · have := List.pairwise_iff_getElem.1 hp j i hj hi h; omega
  have hg : (mgR none Y).filter nzT = l.filter nzT := by
    cases Y with
    | nil => rw [← hf]; rfl
    | cons t r =>
      rw [← hf]
      exact mgR_filter r t (fun u hu => hx u (q1.mem_iff.1 hu)) q2 (by rw [hf]; exact hp)
  rw [hg]
  exact .pure
end Go.Ev.G

namespace Go.Ev.G
open Go Go.Ev
set_option maxRecDepth 100000

def dn1 (e : Int) : Int := if e - 1 < 0 then 0 else e - 1
def exI (i : Nat) (t : Tm) : Int := match i with
  | 0 => t.2.1
  | 1 => t.2.2.1
  | _ => t.2.2.2
def lw (i : Nat) (t : Tm) : Tm := match i with
  | 0 => (t.1 * t.2.1, dn1 t.2.1, t.2.2)
  | 1 => (t.1 * t.2.2.1, t.2.1, dn1 t.2.2.1, t.2.2.2)
  | _ => (t.1 * t.2.2.2, t.2.1, t.2.2.1, dn1 t.2.2.2)
def dV (i : Nat) (p : List Tm) : List Tm := (p.filter fun t => decide (0 < exI i t)).map (lw i)

theorem mul_bd {c e : Int} (h1 : -1000 ≤ c ∧ c ≤ 1000) (h2 : 0 ≤ e ∧ e ≤ 4) : -4000 ≤ c * e ∧ c * e ≤ 4000 := by
  have : e = 0 ∨ e = 1 ∨ e = 2 ∨ e = 3 ∨ e = 4 := by omega
  rcases this with h | h | h | h | h <;> subst h <;> omega
theorem tmGd_ex {t : Tm} (h : tmGd t) : exOk t := ⟨h.2.1, h.2.2.1, h.2.2.2.1⟩
theorem exI_bd {i : Nat} {t : Tm} (h : tmGd t) : 0 ≤ exI i t ∧ exI i t ≤ 4 := by
  unfold exI
  split
  · exact h.2.1
  · exact h.2.2.1
  · exact h.2.2.2.1
theorem dn1_bd {e : Int} (h : 0 ≤ e ∧ e ≤ 4) : 0 ≤ dn1 e ∧ dn1 e ≤ 4 := by unfold dn1; split <;> omega
theorem lw_ex {i : Nat} {t : Tm} (h : tmGd t) : exOk (lw i t) := by
  unfold lw
  split
  · exact ⟨dn1_bd h.2.1, h.2.2.1, h.2.2.2.1⟩
  · exact ⟨h.2.1, dn1_bd h.2.2.1, h.2.2.2.1⟩
  · exact ⟨h.2.1, h.2.2.1, dn1_bd h.2.2.2.1⟩
theorem lw_c (i : Nat) (t : Tm) : (lw i t).1 = t.1 * exI i t := by
  unfold lw exI
  split <;> rfl
theorem lw_bd {i : Nat} {t : Tm} (h : tmGd t) : -4000 ≤ (lw i t).1 ∧ (lw i t).1 ≤ 4000 := by
  rw [lw_c]
  exact mul_bd h.1 (exI_bd h)
def wI (i : Nat) : Int := match i with
  | 0 => 25
  | 1 => 5
  | _ => 1
theorem lw_key {i : Nat} {t : Tm} (h : 0 < exI i t) : keyT (lw i t) = keyT t - wI i := by
  unfold exI at h
  unfold lw keyT wI dn1
  split
  · simp only at h ⊢; rw [if_neg (by omega)]; omega
  · simp only at h ⊢; rw [if_neg (by omega)]; omega
  · rename_i h0 h1
    split at h
    · exact absurd rfl h0
    · exact absurd rfl h1
    · simp only; rw [if_neg (by omega)]; omega

theorem okFrom_pw : ∀ (r : List Tm) (o : Option Tm), okFrom o r = true → (∀ q, o = some q → tmGd q) → r.Pairwise (fun a b => keyT a < keyT b) ∧ ∀ q, o = some q → ∀ t ∈ r, keyT q < keyT t
  | [], _, _, _ => ⟨.nil, fun _ _ t ht => by simp at ht⟩
  | e :: r, o, h, ho => by
    have hg := okFrom_gd (e :: r) o h
    unfold okFrom at h
    simp only [Bool.and_eq_true, decide_eq_true_eq] at h
    obtain ⟨i1, i2⟩ := okFrom_pw r (some e) h.2.2 (fun q hq => by cases hq; exact h.1.1)
    refine ⟨List.pairwise_cons.2 ⟨fun t ht => i2 e rfl t ht, i1⟩, fun q hq t ht => ?_⟩
    subst hq
    have hlt : keyT q < keyT e := (lexI_lt (tmGd_ex (ho q rfl)) (tmGd_ex h.1.1)).1 (by simpa using h.2.1)
    rcases List.mem_cons.1 ht with rfl | ht
    · exact hlt
    · have := i2 e rfl t ht
      omega
theorem okFrom_nz : ∀ (r : List Tm) (o : Option Tm), okFrom o r = true → ∀ t ∈ r, t.1 ≠ 0
  | [], _, _ => by simp
  | e :: r, o, h => by
    unfold okFrom at h
    simp only [Bool.and_eq_true, decide_eq_true_eq] at h
    intro t ht
    rcases List.mem_cons.1 ht with rfl | ht
    · have := h.1.2
      simpa using this
    · exact okFrom_nz r _ h.2.2 t ht
theorem polyV_len {p : List Tm} (h : polyV p = true) : p.length ≤ 20 := by
  unfold polyV at h
  rw [Bool.and_eq_true, decide_eq_true_eq] at h
  omega
theorem polyV_ok {p : List Tm} (h : polyV p = true) : okFrom none p = true := by
  unfold polyV at h
  rw [Bool.and_eq_true] at h
  exact h.1

theorem dV_filter {i : Nat} {p : List Tm} (h : polyV p = true) : (p.map (lw i)).filter nzT = dV i p := by
  rw [List.filter_map]
  unfold dV
  congr 1
  refine List.filter_congr fun t ht => ?_
  have hz := okFrom_nz p none (polyV_ok h) t ht
  have hb := exI_bd (i := i) (polyV_gd h t ht)
  show (!((lw i t).1 == 0)) = decide (0 < exI i t)
  rw [lw_c]
  by_cases h0 : exI i t = 0
  · simp [h0]
  · have hm : t.1 * exI i t ≠ 0 := Int.mul_ne_zero hz h0
    rw [decide_eq_true (by omega)]
    simp [hm]
theorem dV_pw {i : Nat} {p : List Tm} (h : polyV p = true) : (dV i p).Pairwise fun a b => keyT a < keyT b := by
  unfold dV
  rw [List.pairwise_map]
  have h1 := (okFrom_pw p none (polyV_ok h) (fun q hq => by cases hq)).1
  rw [List.pairwise_filter]
  refine h1.imp fun {a b} hab ha hb => ?_
  rw [lw_key (of_decide_eq_true ha), lw_key (of_decide_eq_true hb)]
  omega

theorem derive_step {i : Nat} (hi : i < 3) (k n : Nat) (x5 x10 : List Tm) (x11 x12 : Int) {t : Tm} (hx : x10.getD (Int.toNat x12) (0, 0, 0, 0) = t) (ht : tmGd t) :
    impl_derive_L58 k (n + 1) (i : Int) x5 x10 x11 x12 = (bif (decide (x12 < x11)) then (bif (decide (0 ≤ x12)) then (bif (decide (x12 < (x10.length : Int))) then (bif (decide (x5.length + ([lw i t] : List Tm).length < 274877906944)) then (impl_derive_L58 k n (i : Int) (x5 ++ [lw i t]) x10 x11 (IntKind.wrap .i64 (x12 + 1))) else none) else none) else none) else some (Sum.inr (x5, ()))) := by
  have w1 : ∀ e : Int, 0 ≤ e ∧ e ≤ 4 → IntKind.wrap .i64 (e - 1) = e - 1 := fun e he => w64 (by omega) (by omega)
  have w2 : ∀ e : Int, 0 ≤ e ∧ e ≤ 4 → IntKind.wrap .i64 (t.1 * e) = t.1 * e := fun e he => by have := mul_bd ht.1 he; exact w64 (by omega) (by omega)
  rw [impl_derive_L58.eq_2, hx]
  have : i = 0 ∨ i = 1 ∨ i = 2 := by omega
  rcases this with rfl | rfl | rfl
  · simp only [impl_Term_exponents, impl_termOf, Option.bind_some, show ((((0 : Nat) : Int)) == 0) = true from rfl, cond_true, w1 _ ht.2.1, w2 _ ht.2.1]
    rfl
  · simp only [impl_Term_exponents, impl_termOf, Option.bind_some, show ((((1 : Nat) : Int)) == 0) = false from rfl, show ((((1 : Nat) : Int)) == 1) = true from rfl, cond_true, cond_false, w1 _ ht.2.2.1, w2 _ ht.2.2.1]
    rfl
  · simp only [impl_Term_exponents, impl_termOf, Option.bind_some, show ((((2 : Nat) : Int)) == 0) = false from rfl, show ((((2 : Nat) : Int)) == 1) = false from rfl, show ((((2 : Nat) : Int)) == 2) = true from rfl, cond_true, cond_false, w1 _ ht.2.2.2.1, w2 _ ht.2.2.2.1]
    rfl

theorem derive_ev {i : Nat} {p : List Tm} (hi : i < 3) (h : polyV p = true) : Evt (fun k _ => impl_derive k p (i : Int)) (dV i p) := by
  refine Evt.eq (f := fun k q => _) ?_ (fun k q => by rw [impl_derive])
  have hl := polyV_len h
  have hg := polyV_gd h
  have key : ∀ (r d : List Tm), d ++ r = p → Evt (fun k n => impl_derive_L58 k n (i : Int) (d.map (lw i)) p (p.length : Int) d.length) (.inr (p.map (lw i), ())) := by
    intro r
    induction r with
    | nil =>
      intro d hd
      refine Evt.step (fun k n => impl_derive_L58.eq_2 k _ _ _ _ _ n) ?_
      rw [List.append_nil] at hd
      subst hd
      exact Evt.cfalse (by simp) .pure
    | cons e r ih =>
      intro d hd
      have ih := ih (d ++ [e]) (by simpa using hd)
      rw [← len_next (r := r) (by rw [hd]; simp only [lenB]; omega), List.map_append] at ih
      refine Evt.step (fun k n => derive_step hi k n _ _ _ _ (by rw [← hd]; exact mid_get) (hg e (by rw [← hd]; simp))) ?_
      have hll := congrArg List.length hd
      simp at hll
      exact Evt.ctrue (by rw [← hd]; exact mid_lt) (Evt.ctrue mid_ge (Evt.ctrue (by rw [← hd]; exact mid_lt) (Evt.ctrue (decide_eq_true (by simp; omega)) ih)))
  have hc := collect_ev (l := p.map (lw i)) (by simpa using hl) (fun t ht => by
      obtain ⟨u, hu, rfl⟩ := List.mem_map.1 ht
      exact lw_ex (hg u hu)) (fun t ht => by
      obtain ⟨u, hu, rfl⟩ := List.mem_map.1 ht
      exact lw_bd (hg u hu)) (by rw [dV_filter h]; exact dV_pw h)
  rw [dV_filter h] at hc
  exact Evt.inr (Evt.diag (key p [] rfl)) (Evt.bind hc .pure)

theorem poWith_eq {i : Nat} (hi : i < 3) {t : Tm} (h : 0 < exI i t) : spec_poPower t (i : Int) = some (exI i t) ∧ spec_poWith t (i : Int) (exI i t - 1) = some (t.1, (lw i t).2) := by
  have : i = 0 ∨ i = 1 ∨ i = 2 := by omega
  unfold lw dn1
  rcases this with rfl | rfl | rfl
  · simp only [exI] at h ⊢
    rw [if_neg (by omega)]
    exact ⟨rfl, rfl⟩
  · simp only [exI] at h ⊢
    rw [if_neg (by omega)]
    exact ⟨rfl, rfl⟩
  · simp only [exI] at h ⊢
    rw [if_neg (by omega)]
    exact ⟨rfl, rfl⟩
theorem poPower_eq3 {i : Nat} (hi : i < 3) (t : Tm) : spec_poPower t (i : Int) = some (exI i t) := by
  have : i = 0 ∨ i = 1 ∨ i = 2 := by omega
  rcases this with rfl | rfl | rfl <;> rfl

theorem poDerive_ev {i : Nat} {p : List Tm} (hi : i < 3) (h : polyV p = true) : Evt (fun k _ => spec_poDerive k p (i : Int)) (dV i p) := by
  refine Evt.eq (f := fun k q => _) ?_ (fun k q => by rw [spec_poDerive])
  have hl := polyV_len h
  have hg := polyV_gd h
  have key : ∀ (r d : List Tm), d ++ r = p → Evt (fun k n => spec_poDerive_L58 k n (i : Int) (dV i d) p (p.length : Int) d.length) (.inr (dV i p, ())) := by
    intro r
    induction r with
    | nil =>
      intro d hd
      refine Evt.step (fun k n => spec_poDerive_L58.eq_2 k _ _ _ _ _ n) ?_
      rw [List.append_nil] at hd
      subst hd
      exact Evt.cfalse (by simp) .pure
    | cons e r ih =>
      intro d hd
      have ih := ih (d ++ [e]) (by simpa using hd)
      rw [← len_next (r := r) (by rw [hd]; simp only [lenB]; omega)] at ih
      have he := hg e (by rw [← hd]; simp)
      have hb := exI_bd (i := i) he
      refine Evt.step (fun k n => spec_poDerive_L58.eq_2 k _ _ _ _ _ n) ?_
      have hll := congrArg List.length hd
      simp at hll
      have e1 : p.getD (Int.toNat (d.length : Int)) (0, 0, 0, 0) = e := by rw [← hd]; exact mid_get
      rw [e1]
      refine Evt.ctrue (by rw [← hd]; exact mid_lt) (Evt.ctrue mid_ge (Evt.ctrue (by rw [← hd]; exact mid_lt) (Evt.bind (.const (poPower_eq3 hi e)) ?_)))
      by_cases hz : 0 < exI i e
      · have hm := mul_bd he.1 hb
        refine Evt.ctrue (decide_eq_true hz) (Evt.bind (.const (r := (e.1, (lw i e).2)) (by rw [w64 (by omega) (by omega)]; exact (poWith_eq hi hz).2)) ?_)
        have hl2 : (dV i d).length ≤ d.length := by unfold dV; rw [List.length_map]; exact List.length_filter_le _ _
        have e2 : dV i (d ++ [e]) = dV i d ++ [(e.1 * exI i e, (lw i e).2)] := by
          unfold dV
          rw [List.filter_append, List.map_append, List.filter_cons, if_pos (decide_eq_true hz), List.filter_nil, List.map_cons, List.map_nil]
          congr 2
          rw [← lw_c]
        rw [e2] at ih
        simp only
        rw [w64 (n := e.1 * exI i e) (by omega) (by omega)]
        exact Evt.ctrue (decide_eq_true (by simp; omega)) ih
      · have e2 : dV i (d ++ [e]) = dV i d := by
          unfold dV
          rw [List.filter_append, List.filter_cons, if_neg (by simpa using hz), List.filter_nil, List.append_nil]
        rw [e2] at ih
        exact Evt.cfalse (decide_eq_false hz) ih
  exact Evt.inr (Evt.diag (key p [] rfl)) .pure
end Go.Ev.G

namespace Go.Ev.G
open Go Go.Ev
set_option maxRecDepth 100000

section
variable {V : Type}
theorem frame_sb {a : List (List Tm)} {b : Bx} {S I : Nat → List (List Tm) → Bx → Option V} {C : Nat → V → V → Option Bool → Option Bool} {v : V} (ha : a.length ≤ maxLen) (hm : ∀ x ∈ a, x.length ≤ maxLen) (h1 : b.2.1.length ≤ maxLen) (h2 : b.2.2.length ≤ maxLen)
    (hC : ∀ {f : Nat → Nat → Option Bool} {r : Bool}, Evt f r → Evt (fun k n => C k v v (f k n)) r)
    (hS : a.length < 274877906944 → (∀ r ∈ a, r.length < lenB) → b.2.1.length < lenB → Evt (fun k _ => S k a b) v) (hI : a.length < lenB → (∀ r ∈ a, r.length < lenB) → b.2.1.length < lenB → Evt (fun k _ => I k a b) v) :
    Evt (fun k _ => (Option.bind (laws_szTermSS k a 1000000) fun r1 => (bif (decide (r1 < 0)) then some true else (Option.bind (laws_szBox b r1) fun r2 => (bif (decide (r2 < 0)) then some true else (Option.bind (laws_toTermSS k a false) fun r3 => (Option.bind (laws_toBox k b false) fun r4 => (Option.bind (S k (r3.1.map fun z => z.1) (r4.1, r4.2.1.1, r4.2.2.1)) fun r5 => (Option.bind (laws_toTermSS k a false) fun r6 => (Option.bind (laws_toBox k b false) fun r7 => (Option.bind (I k (r6.1.map fun z => z.1) (r7.1, r7.2.1.1, r7.2.2.1)) fun r8 => C k r5 r8 (Option.bind (laws_toTermSS k a false) fun r9 => (Option.bind (laws_intactTermSS k r6 r9) fun r10 => (bif (!r10) then some false else (Option.bind (laws_toBox k b false) fun r11 => (Option.bind (laws_intactBox k r7 r11) fun r12 => (bif (!r12) then some false else (Option.bind (laws_toTermSS k a true) fun r13 => (Option.bind (laws_toBox k b true) fun r14 => (Option.bind (I k (r13.1.map fun z => z.1) (r14.1, r14.2.1.1, r14.2.2.1)) fun r15 => C k r5 r15 (some true))))))))))))))))))))) true := by
  refine Evt.bind (szTermSS_ev (a := 1000000) ha hm (by omega)) ?_
  by_cases hz : a.length + (a.map List.length).sum ≤ 1000000
  · rw [if_pos hz]
    have hs : Sized a := hz
    refine Evt.cfalse (by simp <;> omega) (Evt.bind (.const (szBox_eq h1 h2 (by omega))) ?_)
    by_cases hy : b.2.1.length + b.2.2.length ≤ 1000000 - (a.length + (a.map List.length).sum)
    · rw [if_pos hy]
      refine Evt.cfalse (by simp <;> omega) ?_
      have b1 : b.2.1.length ≤ 1000000 := by omega
      have b2 : b.2.2.length ≤ 1000000 := by omega
      have hr : ∀ r ∈ a, r.length < lenB := fun r hr => by have := hs.row r hr; simp only [lenB]; omega
      have hl := hs.len
      have spec := hS (by omega) hr (by simp only [lenB]; omega)
      have impl := hI (by simp only [lenB]; omega) hr (by simp only [lenB]; omega)
      refine Evt.bind (toTermSS_ev hs.len hs.row) (Evt.bind (toBox_ev b1 b2) ?_)
      simp only [toV_rows, boxR_eq]
      refine Evt.bind spec (Evt.bind (toTermSS_ev hs.len hs.row) (Evt.bind (toBox_ev b1 b2) ?_))
      simp only [toV_rows, boxR_eq]
      refine Evt.bind impl (hC (Evt.bind (toTermSS_ev hs.len hs.row) (Evt.bind (intactT_ev hs) (Evt.cfalse rfl (Evt.bind (toBox_ev b1 b2) (Evt.bind (intactBox_ev b1 b2) (Evt.cfalse rfl (Evt.bind (toTermSS_ev hs.len hs.row) (Evt.bind (toBox_ev b1 b2) ?_)))))))))
      simp only [toV_rows, boxR_eq]
      exact Evt.bind impl (hC .pure)
    · rw [if_neg hy]
      exact Evt.ctrue rfl .pure
  · rw [if_neg hz]
    exact Evt.ctrue rfl .pure
end
structure Pl (s : List (List Tm)) : Prop where
  ln : s.length = 2
  tm : ∀ p ∈ s, ∀ t ∈ p, tmW t
  lp : ∀ p ∈ s, p.length < lenB
theorem Pl.sd {s : List (List Tm)} (h : Pl s) {e : Ed} (he : EdOk e) : Sd s (sidesE e) := Sd.edge h.tm h.lp he
end Go.Ev.G

namespace Go.Ev.G
open Go Go.Ev
set_option maxRecDepth 100000

def halfD (a b : Int × Int) : (Int × Int) × Bool := mkD (sumN a b) (exA a b + 1)
theorem halfD_gd (a b : Int × Int) : gd (halfD a b).1 := mkD_gd _ _
theorem dyHalf_ev {a b : Int × Int} (ha : gd a) (hb : gd b) : Evt (fun k _ => spec_dyHalf k a b) (halfD a b) := by
  obtain ⟨n, j⟩ := a
  obtain ⟨m, i⟩ := b
  obtain ⟨a1, a2, a3, a4, a5⟩ := ha
  obtain ⟨b1, b2, b3, b4, b5⟩ := hb
  simp only at *
  obtain ⟨j, rfl⟩ := Int.eq_ofNat_of_zero_le a1
  obtain ⟨i, rfl⟩ := Int.eq_ofNat_of_zero_le b1
  refine Evt.eq (f := fun k q => _) ?_ (fun k q => by rw [spec_dyHalf])
  refine Evt.bind (.const (most_eq _ _)) ?_
  have hmax : max ((j : Nat) : Int) (i : Int) = ((max j i : Nat) : Int) := by omega
  simp only [hmax]
  have e : halfD (n, (j : Int)) (m, (i : Int)) = mkD (n * 2 ^ (max j i - j) + m * 2 ^ (max j i - i)) (max j i + 1) := by simp [halfD, sumN, exA]
  rw [e]
  refine Evt.bind (dyAt_ev (by omega) (by omega) (by omega) (by omega)) (Evt.bind (dyAt_ev (by omega) (by omega) (by omega) (by omega)) ?_)
  have hbn := mul_pow_bound (n := n) (m := max j i - j) (by omega) (B := 1099511627776) (by omega) a3 a4
  have hbm := mul_pow_bound (n := m) (m := max j i - i) (by omega) (B := 1099511627776) (by omega) b3 b4
  cases h1 : (atV (max j i - j) n).2 with
  | false =>
    refine Evt.ctrue rfl ?_
    obtain ⟨hpos, hl⟩ := atV_large _ _ h1
    have hij : max j i = i := by omega
    have hodd : m % 2 ≠ 0 := by
      rcases b5 with h | h
      · omega
      · exact h
    have hev := even_pow (n := n) hpos
    rw [hij] at hl hev ⊢
    simp only [Nat.sub_self, Int.pow_zero, Int.mul_one]
    rw [mkD_odd (by omega) (by omega)]
    exact .pure
  | true =>
    refine Evt.cfalse rfl ?_
    cases h2 : (atV (max j i - i) m).2 with
    | false =>
      refine Evt.ctrue rfl ?_
      obtain ⟨hpos, hl⟩ := atV_large _ _ h2
      have hij : max j i = j := by omega
      have hodd : n % 2 ≠ 0 := by
        rcases a5 with h | h
        · omega
        · exact h
      have hev := even_pow (n := m) hpos
      rw [hij] at hl hev ⊢
      simp only [Nat.sub_self, Int.pow_zero, Int.mul_one]
      rw [mkD_odd (by omega) (by omega)]
      exact .pure
    | true =>
      refine Evt.cfalse rfl ?_
      rw [atV_true _ _ h1, atV_true _ _ h2]
      -- neither is too large: the sum fits
      have hsum : -9223372036854775808 < n * 2 ^ (max j i - j) + m * 2 ^ (max j i - i) ∧ n * 2 ^ (max j i - j) + m * 2 ^ (max j i - i) < 9223372036854775808 := by
        have g1 : ∀ (q : Nat) (z : Int), -1099511627776 ≤ z → z ≤ 1099511627776 → (atV q z).2 = true → -2305843009213693952 ≤ z * 2 ^ q ∧ z * 2 ^ q ≤ 2305843009213693952 := by
          intro q
          induction q with
          | zero => intro z h1 h2 _; simp; omega
          | succ q ih =>
            intro z _ _ h
            have key : ∀ (q : Nat) (z : Int), (atV (q + 1) z).2 = true → -1152921504606846976 ≤ z * 2 ^ q ∧ z * 2 ^ q ≤ 1152921504606846976 := by
              intro q
              induction q with
              | zero =>
                intro z h
                unfold atV at h
                split at h
                · rename_i hc; simpa using hc
                · cases h
              | succ q ih =>
                intro z h
                unfold atV at h
                split at h
                · have := ih (z * 2) h
                  rw [show z * 2 ^ (q + 1) = z * 2 * 2 ^ q by rw [Int.pow_succ, Int.mul_assoc, Int.mul_comm 2]]
                  exact this
                · cases h
            have := key q z h
            rw [Int.pow_succ, ← Int.mul_assoc]
            omega
        have u1 := g1 _ _ a3 a4 h1
        have u2 := g1 _ _ b3 b4 h2
        omega
      have hk : IntKind.wrap .i64 (((max j i : Nat) : Int) + 1) = ((max j i + 1 : Nat) : Int) := w64_next (by simp only [lenB]; omega)
      rw [w64 (by omega) (by omega), hk]
      exact Evt.bind (dyMake_ev hsum.1 hsum.2 (by omega)) .pure

theorem middleOf_ev {a b : Int × Int} (ha : gd a) (hb : gd b) : Evt (fun k _ => impl_middleOf k a b) (halfD a b) := by
  obtain ⟨n, j, rfl, a1, a2, a3, a4⟩ := gd_nat ha
  obtain ⟨m, i, rfl, b1, b2, b3, b4⟩ := gd_nat hb
  refine Evt.eq (f := fun k q => _) ?_ (fun k q => by rw [impl_middleOf])
  simp only [max_if]
  have hmax : max ((j : Nat) : Int) (i : Int) = ((max j i : Nat) : Int) := by omega
  simp only [hmax]
  obtain ⟨u1, u2, u3, u4⟩ := wide_at (n := n) (j := j) (K := max j i) (by omega) (by omega) a2 a3
  obtain ⟨v1, v2, v3, v4⟩ := wide_at (n := m) (j := i) (K := max j i) (by omega) (by omega) b2 b3
  refine Evt.bind (.const u1) (Evt.bind (.const u2) (Evt.bind (.const v1) (Evt.bind (.const v2) ?_)))
  obtain ⟨neg, M, hM, hv, hev⟩ := add_ev (n1 := decide (n < 0)) (n2 := decide (m < 0)) (M1 := n.natAbs * 2 ^ (max j i - j)) (M2 := m.natAbs * 2 ^ (max j i - i)) (by simp only [B64] at *; omega)
  have hk : IntKind.wrap .i64 (((max j i : Nat) : Int) + 1) = ((max j i + 1 : Nat) : Int) := w64_next (by simp only [lenB]; omega)
  rw [hk]
  refine Evt.bind hev (Evt.bind (fit_ev (by simp only [B64] at *; omega) (by omega)) ?_)
  rw [hv, u4, v4]
  have e : halfD (n, (j : Int)) (m, (i : Int)) = mkD (n * 2 ^ (max j i - j) + m * 2 ^ (max j i - i)) (max j i + 1) := by simp [halfD, sumN, exA]
  rw [e]
  exact .pure


theorem EdOk.left {e : Ed} (h : EdOk e) : EdOk (e.1, e.2.1, e.2.2.1, (halfD e.2.2.1 e.2.2.2).1) := ⟨h.sd, h.a, h.f, halfD_gd _ _⟩
theorem EdOk.right {e : Ed} (h : EdOk e) : EdOk (e.1, e.2.1, (halfD e.2.2.1 e.2.2.2).1, e.2.2.2) := ⟨h.sd, h.a, halfD_gd _ _, h.t⟩
end Go.Ev.G

namespace Go.Ev.G
open Go Go.Ev
set_option maxRecDepth 100000

def nwV (s : List (List Tm)) (b : Bx) : Bool := sysV s && (bxV b && (((s.length : Int) == (b.2.1.length : Int)) && decide (b.1 ≤ 4)))
theorem nwGood_ev {s : List (List Tm)} {b : Bx} (hb : s.length < lenB) (hm : ∀ r ∈ s, r.length < lenB) (hx : b.2.1.length < lenB) : Evt (fun k _ => spec_nwGood k s b) (nwV s b) := by
  refine Evt.eq (f := fun k q => _) ?_ (fun k q => by rw [spec_nwGood, spec_vaBoth])
  unfold nwV
  have h1 := poSystem_ev hb hm
  have h2 := bxGood_ev hx
  cases hs : sysV s with
  | false =>
    rw [hs] at h1
    exact Evt.bind (Evt.bind h1 (Evt.cfalse rfl .pure)) (Evt.cfalse rfl .pure)
  | true =>
    rw [hs] at h1
    cases hv : bxV b with
    | false =>
      rw [hv] at h2
      exact Evt.bind (Evt.bind h1 (Evt.ctrue rfl (Evt.bind h2 (Evt.cfalse rfl .pure)))) (Evt.cfalse rfl .pure)
    | true =>
      rw [hv] at h2
      refine Evt.bind (Evt.bind h1 (Evt.ctrue rfl (Evt.bind h2 (Evt.ctrue rfl .pure)))) ?_
      cases hl : ((s.length : Int) == (b.2.1.length : Int)) with
      | false => exact Evt.cfalse rfl .pure
      | true => exact Evt.ctrue rfl .pure
theorem newtonFits_ev {s : List (List Tm)} {b : Bx} (hb : s.length < lenB) (hm : ∀ r ∈ s, r.length < lenB) (hx : b.2.1.length < lenB) : Evt (fun k _ => impl_newtonFits k s b) (nwV s b) := by
  refine Evt.eq (f := fun k q => _) ?_ (fun k q => by rw [impl_newtonFits, impl_systemOver])
  unfold nwV
  have h1 := isSystem_ev hb hm
  have h2 := isBox_ev hx
  cases hs : sysV s with
  | false =>
    rw [hs] at h1
    exact Evt.bind (Evt.bind h1 (Evt.cfalse rfl .pure)) (Evt.cfalse rfl .pure)
  | true =>
    rw [hs] at h1
    cases hv : bxV b with
    | false =>
      rw [hv] at h2
      exact Evt.bind (Evt.bind h1 (Evt.ctrue rfl (Evt.bind h2 (Evt.cfalse rfl .pure)))) (Evt.cfalse rfl .pure)
    | true =>
      rw [hv] at h2
      refine Evt.bind (Evt.bind h1 (Evt.ctrue rfl (Evt.bind h2 (Evt.ctrue rfl .pure)))) ?_
      cases hl : ((s.length : Int) == (b.2.1.length : Int)) with
      | false => exact Evt.cfalse rfl .pure
      | true => exact Evt.ctrue rfl .pure

structure NwOk (s : List (List Tm)) (m : Nat) (lo hi : List Int) : Prop where
  po : ∀ p ∈ s, polyV p = true
  n1 : 1 ≤ lo.length ∧ lo.length ≤ 3
  sl : s.length = lo.length
  hl : hi.length = lo.length
  m4 : m ≤ 4
  bd : ∀ p ∈ lo.zip hi, -128 ≤ p.1 ∧ p.1 < p.2 ∧ p.2 ≤ 128
  nd : ∀ p ∈ s, needs s.length p = false
  b8 : ∀ p ∈ lo.zip hi, -(8 * 2 ^ m) ≤ p.1 ∧ p.2 ≤ 8 * 2 ^ m
theorem nwV_form {s : List (List Tm)} {b : Bx} (h : nwV s b = true) : ∃ m : Nat, b = ((m : Int), b.2.1, b.2.2) ∧ NwOk s m b.2.1 b.2.2 := by
  obtain ⟨d8, los, his⟩ := b
  unfold nwV bxV sysV at h
  simp only [Bool.and_eq_true, decide_eq_true_eq, beq_iff_eq, List.all_eq_true] at h
  obtain ⟨⟨p1, p2⟩, ⟨g1, g2, g3, g4, _⟩, g5, g6⟩ := h
  refine ⟨d8.toNat, by rw [Int.toNat_of_nonneg g1.1], ?_⟩
  show NwOk s d8.toNat los his
  have g2 : 1 ≤ (los.length : Int) ∧ (los.length : Int) ≤ 3 := g2
  have g5 : (s.length : Int) = (los.length : Int) := g5
  refine ⟨fun p hp => (p1 p hp).1, by omega, by omega, g3, by omega, fun p hp => ?_, fun p hp => by simpa using (p1 p hp).2, fun p hp => by
    have hq := g4 p hp
    unfold sideOk at hq
    have hq := of_decide_eq_true hq
    exact ⟨hq.1.1, hq.2.1.2⟩⟩
  have hq := g4 p hp
  unfold sideOk at hq
  have hq := of_decide_eq_true hq
  have hp : (8 : Int) * 2 ^ d8.toNat ≤ 128 := by
    have h1 : (2 : Nat) ^ d8.toNat ≤ 2 ^ 4 := Nat.pow_le_pow_right (by omega) (by omega)
    have h2 : ((2 : Int) ^ d8.toNat) = ((2 ^ d8.toNat : Nat) : Int) := by simp
    have : (2 : Nat) ^ 4 = 16 := by decide
    rw [h2]
    omega
  omega

def sidesB (m : Nat) (lo hi : List Int) : List Iv := (lo.zip hi).map fun p => ((mkD p.1 m).1, (mkD p.2 m).1)
theorem sidesB_len {s : List (List Tm)} {m : Nat} {lo hi : List Int} (h : NwOk s m lo hi) : (sidesB m lo hi).length = lo.length := by
  have := h.hl
  simp [sidesB]
  omega
theorem sidesB_iv {s : List (List Tm)} {m : Nat} {lo hi : List Int} (h : NwOk s m lo hi) : ∀ x ∈ sidesB m lo hi, ivGd x := by
  intro x hx
  obtain ⟨p, hp, rfl⟩ := List.mem_map.1 hx
  obtain ⟨b1, b2, b3⟩ := h.bd p hp
  refine ⟨mkD_gd _ _, mkD_gd _ _, ?_⟩
  have e1 := sv_mkD (mkD_ok (n := p.1) (k := m) (by omega) (by omega) (by have := h.m4; omega))
  have e2 := sv_mkD (mkD_ok (n := p.2) (k := m) (by omega) (by omega) (by have := h.m4; omega))
  have hle : sv (mkD p.1 m).1 * 2 ^ m ≤ sv (mkD p.2 m).1 * 2 ^ m := by
    rw [e1, e2]
    omega
  exact Int.le_of_mul_le_mul_right hle (Int.pow_pos (by decide))

theorem bxNumber_ev {x : Int} {m : Nat} (hx : -128 ≤ x ∧ x ≤ 128) (hm : m ≤ 4) : Evt (fun k _ => spec_bxNumber k x (m : Int)) (mkD x m).1 := by
  refine Evt.eq (f := fun k q => _) ?_ (fun k q => by rw [spec_bxNumber])
  exact Evt.bind (dyMake_ev (n := x) (m := m) (by omega) (by omega) (by omega)) .pure
theorem boxDyadic_ev {x : Int} {m : Nat} {lo hi : List Int} (hx : -128 ≤ x ∧ x ≤ 128) (hm : m ≤ 4) : Evt (fun k _ => impl_Box_dyadic k ((m : Int), lo, hi) x) (mkD x m).1 := by
  refine Evt.eq (f := fun k q => _) ?_ (fun k q => by rw [impl_Box_dyadic])
  exact Evt.bind (.const (wideOf_eq (by omega) (by omega))) (Evt.bind (fitD_ev (n := x) (p := m) (by omega) (by omega) (by omega)) .pure)

theorem vaSides_ev {s : List (List Tm)} {m : Nat} {lo hi : List Int} (h : NwOk s m lo hi) : Evt (fun k _ => spec_vaSides k ((m : Int), lo, hi)) (sidesB m lo hi) := by
  refine Evt.eq (f := fun k q => _) ?_ (fun k q => by rw [spec_vaSides])
  have key : ∀ (r d r2 d2 : List Int), d ++ r = lo → d2 ++ r2 = hi → d.length = d2.length → Evt (fun k n => spec_vaSides_L58 k n ((m : Int), lo, hi) (sidesB m d d2) lo (lo.length : Int) d.length) (.inr (sidesB m lo hi, ())) := by
    intro r
    induction r with
    | nil =>
      intro d r2 d2 hd hd2 hl
      refine Evt.step (fun k n => spec_vaSides_L58.eq_2 k _ _ _ _ _ n) ?_
      rw [List.append_nil] at hd
      subst hd
      have hn : r2 = [] := by
        have h1 := congrArg List.length hd2
        have h2 := h.hl
        simp at h1
        exact List.eq_nil_of_length_eq_zero (by omega)
      subst hn
      rw [List.append_nil] at hd2
      subst hd2
      exact Evt.cfalse (by simp) .pure
    | cons e r ih =>
      intro d r2 d2 hd hd2 hl
      have hxl := congrArg List.length hd
      have hyl := congrArg List.length hd2
      have hh := h.hl
      have hn := h.n1
      simp at hxl hyl
      cases r2 with
      | nil => simp at hyl; omega
      | cons f r2 =>
      have ih := ih (d ++ [e]) r2 (d2 ++ [f]) (by simpa using hd) (by simpa using hd2) (by simp [hl])
      rw [← len_next (r := r) (by rw [hd]; simp only [lenB]; omega)] at ih
      have e2 : sidesB m (d ++ [e]) (d2 ++ [f]) = sidesB m d d2 ++ [((mkD e m).1, (mkD f m).1)] := by
        unfold sidesB
        rw [List.zip_append hl, List.map_append]
        rfl
      rw [e2] at ih
      have hmem : (e, f) ∈ lo.zip hi := by
        rw [← hd, ← hd2, List.zip_append hl]
        exact List.mem_append.2 (.inr (by simp))
      obtain ⟨b1, b2, b3⟩ := h.bd _ hmem
      simp only at b1 b2 b3
      have g1 : lo.getD (Int.toNat (d.length : Int)) 0 = e := by rw [← hd]; exact mid_get
      have g2 : hi.getD (Int.toNat (d.length : Int)) 0 = f := by rw [← hd2, hl]; exact mid_get
      have hsl : (sidesB m d d2).length ≤ 3 := by simp [sidesB]; omega
      refine Evt.step (fun k n => spec_vaSides_L58.eq_2 k _ _ _ _ _ n) ?_
      simp only [g1, g2]
      exact Evt.ctrue (decide_eq_true (by omega)) (Evt.ctrue mid_ge (Evt.ctrue (decide_eq_true (by omega)) (Evt.bind (bxNumber_ev (by omega) h.m4) (Evt.ctrue mid_ge (Evt.ctrue (decide_eq_true (by omega)) (Evt.bind (bxNumber_ev (by omega) h.m4) (Evt.ctrue (decide_eq_true (by simp; omega)) ih)))))))
  exact Evt.inr (Evt.diag (key lo [] hi [] rfl rfl rfl)) .pure

theorem boxSide_ev {s : List (List Tm)} {m : Nat} {lo hi d r d2 r2 : List Int} {e f : Int} (h : NwOk s m lo hi) (hd : d ++ e :: r = lo) (hd2 : d2 ++ f :: r2 = hi) (hl : d.length = d2.length) : Evt (fun k _ => impl_Box_side k ((m : Int), lo, hi) (d.length : Int)) ((mkD e m).1, (mkD f m).1) := by
  have hxl := congrArg List.length hd
  have hyl := congrArg List.length hd2
  simp at hxl hyl
  have hmem : (e, f) ∈ lo.zip hi := by
    rw [← hd, ← hd2, List.zip_append hl]
    exact List.mem_append.2 (.inr (by simp))
  obtain ⟨b1, b2, b3⟩ := h.bd _ hmem
  simp only at b1 b2 b3
  have g1 : lo.getD (Int.toNat (d.length : Int)) 0 = e := by rw [← hd]; exact mid_get
  have g2 : hi.getD (Int.toNat (d.length : Int)) 0 = f := by rw [← hd2, hl]; exact mid_get
  refine Evt.eq (f := fun k q => _) ?_ (fun k q => by rw [impl_Box_side])
  simp only [g1, g2]
  exact Evt.ctrue mid_ge (Evt.ctrue (decide_eq_true (by omega)) (Evt.bind (boxDyadic_ev (by omega) h.m4) (Evt.ctrue mid_ge (Evt.ctrue (decide_eq_true (by omega)) (Evt.bind (boxDyadic_ev (by omega) h.m4) .pure)))))
theorem boxSides_ev {s : List (List Tm)} {m : Nat} {lo hi : List Int} (h : NwOk s m lo hi) : Evt (fun k _ => impl_Box_sides k ((m : Int), lo, hi)) (sidesB m lo hi) := by
  refine Evt.eq (f := fun k q => _) ?_ (fun k q => by rw [impl_Box_sides])
  have key : ∀ (r d r2 d2 : List Int), d ++ r = lo → d2 ++ r2 = hi → d.length = d2.length → Evt (fun k n => impl_Box_sides_L58 k n ((m : Int), lo, hi) (sidesB m d d2) (lo.length : Int) d.length) (.inr (sidesB m lo hi, ())) := by
    intro r
    induction r with
    | nil =>
      intro d r2 d2 hd hd2 hl
      refine Evt.step (fun k n => impl_Box_sides_L58.eq_2 k _ _ _ _ n) ?_
      rw [List.append_nil] at hd
      subst hd
      have hn : r2 = [] := by
        have h1 := congrArg List.length hd2
        have h2 := h.hl
        simp at h1
        exact List.eq_nil_of_length_eq_zero (by omega)
      subst hn
      rw [List.append_nil] at hd2
      subst hd2
      exact Evt.cfalse (by simp) .pure
    | cons e r ih =>
      intro d r2 d2 hd hd2 hl
      have hxl := congrArg List.length hd
      have hyl := congrArg List.length hd2
      have hh := h.hl
      have hn := h.n1
      simp at hxl hyl
      cases r2 with
      | nil => simp at hyl; omega
      | cons f r2 =>
      have ih := ih (d ++ [e]) r2 (d2 ++ [f]) (by simpa using hd) (by simpa using hd2) (by simp [hl])
      rw [← len_next (r := r) (by rw [hd]; simp only [lenB]; omega)] at ih
      have e2 : sidesB m (d ++ [e]) (d2 ++ [f]) = sidesB m d d2 ++ [((mkD e m).1, (mkD f m).1)] := by
        unfold sidesB
        rw [List.zip_append hl, List.map_append]
        rfl
      rw [e2] at ih
      have hsl : (sidesB m d d2).length ≤ 3 := by simp [sidesB]; omega
      refine Evt.step (fun k n => impl_Box_sides_L58.eq_2 k _ _ _ _ n) ?_
      exact Evt.ctrue (decide_eq_true (by omega)) (Evt.bind (boxSide_ev h hd hd2 hl) (Evt.ctrue (decide_eq_true (by simp; omega)) ih))
  exact Evt.inr (Evt.diag (key lo [] hi [] rfl rfl rfl)) .pure

theorem dV_W {i : Nat} {p : List Tm} (h : polyV p = true) : ∀ t ∈ dV i p, tmW t := by
  intro t ht
  obtain ⟨u, hu, rfl⟩ := List.mem_map.1 ht
  have hu := polyV_gd h u (List.mem_filter.1 hu).1
  have h1 := lw_bd (i := i) hu
  have h2 := lw_ex (i := i) hu
  exact ⟨by omega, h2.1, h2.2.1, h2.2.2⟩
theorem dV_len {i : Nat} {p : List Tm} (h : polyV p = true) : (dV i p).length < lenB := by
  have := polyV_len h
  have h2 : (dV i p).length ≤ p.length := by unfold dV; rw [List.length_map]; exact List.length_filter_le _ _
  simp only [lenB]; omega
def allO {α β : Type} (g : α → Option β) (z : β) (l : List α) : Option (List β) := if (l.all fun x => (g x).isSome) then some (l.map fun x => (g x).getD z) else none
def grO (sides : List Iv) (p : List Tm) : Option (List Iv) := allO (fun i => valO (dV i p) sides) zI (List.range sides.length)
def jaO (sides : List Iv) (s : List (List Tm)) : Option (List (List Iv)) := allO (grO sides) [] s
def oL {β : Type} (o : Option (List β)) : List β × Bool := match o with
  | some l => (l, true)
  | none => ([], false)
theorem range_at {N : Nat} {d r : List Nat} {e : Nat} (h : d ++ e :: r = List.range N) : e = d.length ∧ d.length < N := by
  have hl := congrArg List.length h
  simp at hl
  have h1 : d.length < N := by omega
  have h2 : (d ++ e :: r)[d.length]? = some e := by simp
  rw [h, List.getElem?_range h1] at h2
  simp only [Option.some.injEq] at h2
  exact ⟨h2.symm, h1⟩

theorem vaGradient_ev {sides : List Iv} {p : List Tm} (h : polyV p = true) (hs : ∀ x ∈ sides, ivGd x) (hl : sides.length ≤ 3) : Evt (fun k _ => spec_vaGradient k p sides) (oL (grO sides p)) := by
  refine Evt.eq (f := fun k q => _) ?_ (fun k q => by rw [spec_vaGradient])
  have key : ∀ (r d : List Nat), d ++ r = List.range sides.length → Evt (fun k n => spec_vaGradient_L58 k n p sides (d.map fun i => (valO (dV i p) sides).getD zI) (sides.length : Int) d.length) (if (r.all fun i => (valO (dV i p) sides).isSome) then .inr ((List.range sides.length).map fun i => (valO (dV i p) sides).getD zI, ()) else .inl ([], false)) := by
    intro r
    induction r with
    | nil =>
      intro d hd
      refine Evt.step (fun k n => spec_vaGradient_L58.eq_2 k _ _ _ _ _ n) ?_
      rw [List.append_nil] at hd
      have := congrArg List.length hd
      simp at this
      rw [hd]
      exact Evt.cfalse (decide_eq_false (by simp)) .pure
    | cons e r ih =>
      intro d hd
      obtain ⟨rfl, hlt⟩ := range_at hd
      have ih := ih (d ++ [d.length]) (by simpa using hd)
      rw [← len_next (r := r) (by rw [hd]; simp [lenB]; omega), List.map_append] at ih
      refine Evt.step (fun k n => spec_vaGradient_L58.eq_2 k _ _ _ _ _ n) (Evt.ctrue (decide_eq_true (by omega)) ?_)
      refine Evt.bind (poDerive_ev (by omega) h) (Evt.bind (vaOver_ev (dV_W h) hs (by simp only [lenB]; omega) (dV_len h)) ?_)
      cases hv : valO (dV d.length p) sides with
      | none =>
        simp only [List.all_cons, hv, Option.isSome_none, Bool.false_and]
        exact Evt.ctrue rfl .pure
      | some v =>
        simp only [List.map_cons, List.map_nil, hv] at ih
        simp only [List.all_cons, hv, Option.isSome_some, Bool.true_and]
        exact Evt.cfalse rfl (Evt.ctrue (by simp; omega) ih)
  have h0 := key (List.range sides.length) [] rfl
  simp only [List.map_nil, List.length_nil] at h0
  unfold grO allO
  cases ha : (List.range sides.length).all fun i => (valO (dV i p) sides).isSome with
  | true => rw [ha] at h0; exact Evt.inr (Evt.diag h0) .pure
  | false => rw [ha] at h0; exact Evt.inl (Evt.diag h0) .pure

theorem gradientOver_ev {s : List (List Tm)} {m : Nat} {lo hi : List Int} {p : List Tm} (hN : NwOk s m lo hi) (h : polyV p = true) : Evt (fun k _ => impl_gradientOver k p ((m : Int), lo, hi)) (oL (grO (sidesB m lo hi) p)) := by
  refine Evt.eq (f := fun k q => _) ?_ (fun k q => by rw [impl_gradientOver])
  have hsl := sidesB_len hN
  have hn := hN.n1
  have key : ∀ (r d : List Nat), d ++ r = List.range (sidesB m lo hi).length → Evt (fun k n => impl_gradientOver_L58 k n p ((m : Int), lo, hi) (d.map fun i => (valO (dV i p) (sidesB m lo hi)).getD zI) (lo.length : Int) d.length) (if (r.all fun i => (valO (dV i p) (sidesB m lo hi)).isSome) then .inr ((List.range (sidesB m lo hi).length).map fun i => (valO (dV i p) (sidesB m lo hi)).getD zI, ()) else .inl ([], false)) := by
    intro r
    induction r with
    | nil =>
      intro d hd
      refine Evt.step (fun k n => impl_gradientOver_L58.eq_2 k _ _ _ _ _ n) ?_
      rw [List.append_nil] at hd
      have := congrArg List.length hd
      simp at this
      rw [hd]
      exact Evt.cfalse (decide_eq_false (by simp; omega)) .pure
    | cons e r ih =>
      intro d hd
      obtain ⟨rfl, hlt⟩ := range_at hd
      have ih := ih (d ++ [d.length]) (by simpa using hd)
      rw [← len_next (r := r) (by rw [hd]; simp [lenB]; omega), List.map_append] at ih
      refine Evt.step (fun k n => impl_gradientOver_L58.eq_2 k _ _ _ _ _ n) (Evt.ctrue (decide_eq_true (by omega)) ?_)
      refine Evt.bind (derive_ev (by omega) h) (Evt.bind (boxSides_ev hN) (Evt.bind (valueOver_ev (dV_W h) (sidesB_iv hN) (by omega) (dV_len h)) ?_))
      cases hv : valO (dV d.length p) (sidesB m lo hi) with
      | none =>
        simp only [List.all_cons, hv, Option.isSome_none, Bool.false_and]
        exact Evt.ctrue rfl .pure
      | some v =>
        simp only [List.map_cons, List.map_nil, hv] at ih
        simp only [List.all_cons, hv, Option.isSome_some, Bool.true_and]
        exact Evt.cfalse rfl (Evt.ctrue (by simp; omega) ih)
  have h0 := key (List.range (sidesB m lo hi).length) [] rfl
  simp only [List.map_nil, List.length_nil] at h0
  unfold grO allO
  cases ha : (List.range (sidesB m lo hi).length).all fun i => (valO (dV i p) (sidesB m lo hi)).isSome with
  | true => rw [ha] at h0; exact Evt.inr (Evt.diag h0) .pure
  | false => rw [ha] at h0; exact Evt.inl (Evt.diag h0) .pure

theorem vaJacobian_ev {s : List (List Tm)} {m : Nat} {lo hi : List Int} (h : NwOk s m lo hi) : Evt (fun k _ => spec_vaJacobian k s ((m : Int), lo, hi)) (oL (jaO (sidesB m lo hi) s)) := by
  refine Evt.eq (f := fun k q => _) ?_ (fun k q => by rw [spec_vaJacobian])
  have hsl := sidesB_len h
  have hn := h.n1
  have hss := h.sl
  have key : ∀ (r d : List (List Tm)), d ++ r = s → Evt (fun k n => spec_vaJacobian_L58 k n ((m : Int), lo, hi) (d.map fun p => (grO (sidesB m lo hi) p).getD []) s (s.length : Int) d.length) (if (r.all fun p => (grO (sidesB m lo hi) p).isSome) then .inr (s.map fun p => (grO (sidesB m lo hi) p).getD [], ()) else .inl ([], false)) := by
    intro r
    induction r with
    | nil =>
      intro d hd
      refine Evt.step (fun k n => spec_vaJacobian_L58.eq_2 k _ _ _ _ _ n) ?_
      rw [List.append_nil] at hd
      subst hd
      exact Evt.rng0 .pure
    | cons e r ih =>
      intro d hd
      have hxl := congrArg List.length hd
      simp at hxl
      have ih := ih (d ++ [e]) (by simpa using hd)
      rw [← len_next (r := r) (by rw [hd]; simp only [lenB]; omega), List.map_append] at ih
      refine Evt.step (fun k n => spec_vaJacobian_L58.eq_2 k _ _ _ _ _ n) ?_
      have g : s.getD (Int.toNat (d.length : Int)) [] = e := by rw [← hd]; exact mid_get
      rw [g]
      refine Evt.ctrue (by rw [← hd]; exact mid_lt) (Evt.ctrue mid_ge (Evt.ctrue (by rw [← hd]; exact mid_lt) (Evt.bind (vaSides_ev h) (Evt.bind (vaGradient_ev (h.po e (by rw [← hd]; simp)) (sidesB_iv h) (by omega)) ?_))))
      cases hv : grO (sidesB m lo hi) e with
      | none =>
        simp only [List.all_cons, hv, Option.isSome_none, Bool.false_and]
        exact Evt.ctrue rfl .pure
      | some v =>
        simp only [List.map_cons, List.map_nil, hv] at ih
        simp only [List.all_cons, hv, Option.isSome_some, Bool.true_and]
        exact Evt.cfalse rfl (Evt.ctrue (by simp; omega) ih)
  have h0 := key s [] rfl
  simp only [List.map_nil, List.length_nil] at h0
  unfold jaO allO
  cases ha : s.all fun p => (grO (sidesB m lo hi) p).isSome with
  | true => rw [ha] at h0; exact Evt.inr (Evt.diag h0) .pure
  | false => rw [ha] at h0; exact Evt.inl (Evt.diag h0) .pure
theorem jacobianOver_ev {s : List (List Tm)} {m : Nat} {lo hi : List Int} (h : NwOk s m lo hi) : Evt (fun k _ => impl_jacobianOver k s ((m : Int), lo, hi)) (oL (jaO (sidesB m lo hi) s)) := by
  refine Evt.eq (f := fun k q => _) ?_ (fun k q => by rw [impl_jacobianOver])
  have hsl := sidesB_len h
  have hn := h.n1
  have hss := h.sl
  have key : ∀ (r d : List (List Tm)), d ++ r = s → Evt (fun k n => impl_jacobianOver_L58 k n ((m : Int), lo, hi) (d.map fun p => (grO (sidesB m lo hi) p).getD []) s (s.length : Int) d.length) (if (r.all fun p => (grO (sidesB m lo hi) p).isSome) then .inr (s.map fun p => (grO (sidesB m lo hi) p).getD [], ()) else .inl ([], false)) := by
    intro r
    induction r with
    | nil =>
      intro d hd
      refine Evt.step (fun k n => impl_jacobianOver_L58.eq_2 k _ _ _ _ _ n) ?_
      rw [List.append_nil] at hd
      subst hd
      exact Evt.rng0 .pure
    | cons e r ih =>
      intro d hd
      have hxl := congrArg List.length hd
      simp at hxl
      have ih := ih (d ++ [e]) (by simpa using hd)
      rw [← len_next (r := r) (by rw [hd]; simp only [lenB]; omega), List.map_append] at ih
      refine Evt.step (fun k n => impl_jacobianOver_L58.eq_2 k _ _ _ _ _ n) ?_
      have g : s.getD (Int.toNat (d.length : Int)) [] = e := by rw [← hd]; exact mid_get
      rw [g]
      refine Evt.ctrue (by rw [← hd]; exact mid_lt) (Evt.ctrue mid_ge (Evt.ctrue (by rw [← hd]; exact mid_lt) (Evt.bind (gradientOver_ev h (h.po e (by rw [← hd]; simp))) ?_)))
      cases hv : grO (sidesB m lo hi) e with
      | none =>
        simp only [List.all_cons, hv, Option.isSome_none, Bool.false_and]
        exact Evt.ctrue rfl .pure
      | some v =>
        simp only [List.map_cons, List.map_nil, hv] at ih
        simp only [List.all_cons, hv, Option.isSome_some, Bool.true_and]
        exact Evt.cfalse rfl (Evt.ctrue (by simp; omega) ih)
  have h0 := key s [] rfl
  simp only [List.map_nil, List.length_nil] at h0
  unfold jaO allO
  cases ha : s.all fun p => (grO (sidesB m lo hi) p).isSome with
  | true => rw [ha] at h0; exact Evt.inr (Evt.diag h0) .pure
  | false => rw [ha] at h0; exact Evt.inl (Evt.diag h0) .pure
end Go.Ev.G

namespace Go.Ev.G
open Go Go.Ev
set_option maxRecDepth 100000

def hfO (i : Iv) : Option (Int × Int) := if (halfD i.1 i.2).2 then some (halfD i.1 i.2).1 else none
def rmO (row : List Iv) : Option Pt := allO hfO (0, 0) row
def miO (J : List (List Iv)) : Option (List Pt) := allO rmO [] J
theorem allO_some {α β : Type} {g : α → Option β} {z : β} {l : List α} {m : List β} (h : allO g z l = some m) : m = l.map (fun x => (g x).getD z) ∧ ∀ x ∈ l, (g x).isSome = true := by
  unfold allO at h
  split at h
  · rename_i ha
    cases h
    exact ⟨rfl, List.all_eq_true.1 ha⟩
  · cases h
theorem allO_len {α β : Type} {g : α → Option β} {z : β} {l : List α} {m : List β} (h : allO g z l = some m) : m.length = l.length := by
  rw [(allO_some h).1, List.length_map]
theorem allO_mem {α β : Type} {g : α → Option β} {z : β} {l : List α} {m : List β} (h : allO g z l = some m) : ∀ y ∈ m, ∃ x ∈ l, g x = some y := by
  obtain ⟨h1, h2⟩ := allO_some h
  subst h1
  intro y hy
  obtain ⟨x, hx, rfl⟩ := List.mem_map.1 hy
  refine ⟨x, hx, ?_⟩
  have := h2 x hx
  cases hg : g x with
  | none => rw [hg] at this; cases this
  | some v => rfl
theorem jaO_ok {s : List (List Tm)} {m : Nat} {lo hi : List Int} (h : NwOk s m lo hi) {J : List (List Iv)} (hJ : jaO (sidesB m lo hi) s = some J) : J.length = lo.length ∧ ∀ r ∈ J, r.length = lo.length ∧ ∀ x ∈ r, ivGd x := by
  refine ⟨by rw [allO_len hJ, h.sl], fun r hr => ?_⟩
  obtain ⟨p, hp, hg⟩ := allO_mem hJ r hr
  refine ⟨by rw [allO_len hg, List.length_range, sidesB_len h], fun x hx => ?_⟩
  obtain ⟨i, _, hv⟩ := allO_mem hg x hx
  exact valO_iv (dV_W (h.po p hp)) hv

theorem nwMiddle_ev {J : List (List Iv)} (hJ : J.length ≤ 3) (hr : ∀ r ∈ J, r.length ≤ 3 ∧ ∀ x ∈ r, ivGd x) : Evt (fun k _ => spec_nwMiddle k J) (oL (miO J)) := by
  refine Evt.eq (f := fun k q => _) ?_ (fun k q => by rw [spec_nwMiddle])
  have inner : ∀ (row : List Iv) (x4 : List Pt) (x12 : List (List Iv)) (x13 x14 : Int), row.length ≤ 3 → (∀ x ∈ row, ivGd x) → ∀ (r d : List Iv), d ++ r = row →
      Evt (fun k n => spec_nwMiddle_L59802 k n x4 (d.map fun i => (hfO i).getD (0, 0)) x12 x13 x14 row (row.length : Int) d.length) (if (r.all fun i => (hfO i).isSome) then .inr (x4, row.map fun i => (hfO i).getD (0, 0), x12, x13, x14, ()) else .inl ([], false)) := by
    intro row x4 x12 x13 x14 hl hg r
    induction r with
    | nil =>
      intro d h
      refine Evt.step (fun k n => spec_nwMiddle_L59802.eq_2 k _ _ _ _ _ _ _ _ n) ?_
      rw [List.append_nil] at h
      subst h
      exact Evt.rng0 .pure
    | cons e r ih =>
      intro d h
      have hxl := congrArg List.length h
      simp at hxl
      have ih := ih (d ++ [e]) (by simpa using h)
      rw [← len_next (r := r) (by rw [h]; simp only [lenB]; omega), List.map_append] at ih
      have he := hg e (by rw [← h]; simp)
      have g : row.getD (Int.toNat (d.length : Int)) ((0, 0), 0, 0) = e := by rw [← h]; exact mid_get
      refine Evt.step (fun k n => spec_nwMiddle_L59802.eq_2 k _ _ _ _ _ _ _ _ n) ?_
      rw [g]
      refine Evt.ctrue (by rw [← h]; exact mid_lt) (Evt.ctrue mid_ge (Evt.ctrue (by rw [← h]; exact mid_lt) (Evt.bind (dyHalf_ev he.1 he.2.1) ?_)))
      cases hh : (halfD e.1 e.2).2 with
      | false =>
        have ho : hfO e = none := by unfold hfO; rw [hh]; rfl
        simp only [List.all_cons, ho, Option.isSome_none, Bool.false_and]
        exact Evt.ctrue rfl .pure
      | true =>
        have ho : hfO e = some (halfD e.1 e.2).1 := by unfold hfO; rw [hh]; rfl
        simp only [List.map_cons, List.map_nil, ho] at ih
        simp only [List.all_cons, ho, Option.isSome_some, Bool.true_and]
        exact Evt.cfalse rfl (Evt.ctrue (by simp; omega) ih)
  have key : ∀ (r d : List (List Iv)), d ++ r = J → Evt (fun k n => spec_nwMiddle_L58 k n (d.map fun r => (rmO r).getD []) J (J.length : Int) d.length) (if (r.all fun r => (rmO r).isSome) then .inr (J.map fun r => (rmO r).getD [], ()) else .inl ([], false)) := by
    intro r
    induction r with
    | nil =>
      intro d h
      refine Evt.step (fun k n => spec_nwMiddle_L58.eq_2 k _ _ _ _ n) ?_
      rw [List.append_nil] at h
      subst h
      exact Evt.rng0 .pure
    | cons e r ih =>
      intro d h
      have hxl := congrArg List.length h
      simp at hxl
      have ih := ih (d ++ [e]) (by simpa using h)
      rw [← len_next (r := r) (by rw [h]; simp only [lenB]; omega), List.map_append] at ih
      obtain ⟨hel, heg⟩ := hr e (by rw [← h]; simp)
      have g : J.getD (Int.toNat (d.length : Int)) [] = e := by rw [← h]; exact mid_get
      refine Evt.step (fun k n => spec_nwMiddle_L58.eq_2 k _ _ _ _ n) ?_
      rw [g]
      have hi := inner e (d.map fun r => (rmO r).getD []) J (J.length : Int) (d.length : Int) hel heg e [] rfl
      simp only [List.map_nil, List.length_nil] at hi
      refine Evt.ctrue (by rw [← h]; exact mid_lt) (Evt.ctrue mid_ge (Evt.ctrue (by rw [← h]; exact mid_lt) ?_))
      cases ha : e.all fun i => (hfO i).isSome with
      | false =>
        have ho : rmO e = none := by unfold rmO allO; rw [ha]; rfl
        rw [ha] at hi
        simp only [List.all_cons, ho, Option.isSome_none, Bool.false_and]
        exact Evt.inl (Evt.diag hi) .pure
      | true =>
        have ho : rmO e = some (e.map fun i => (hfO i).getD (0, 0)) := by unfold rmO allO; rw [ha]; rfl
        rw [ha] at hi
        simp only [List.map_cons, List.map_nil, ho] at ih
        simp only [List.all_cons, ho, Option.isSome_some, Bool.true_and]
        exact Evt.inr (Evt.diag hi) (Evt.ctrue (by simp; omega) ih)
  have h0 := key J [] rfl
  simp only [List.map_nil, List.length_nil] at h0
  unfold miO allO
  cases ha : J.all fun r => (rmO r).isSome with
  | true => rw [ha] at h0; exact Evt.inr (Evt.diag h0) .pure
  | false => rw [ha] at h0; exact Evt.inl (Evt.diag h0) .pure

theorem keep_val (c : Bool) (x : Int × Int) (ok : Bool) : ∃ v, impl_reckoner_keep c x ok = some (v, c && ok) ∧ (c = true → ok = true → v = x) := by
  cases c with
  | false => exact ⟨(0, 0), rfl, fun h => by cases h⟩
  | true =>
    cases ok with
    | false => exact ⟨(0, 0), rfl, fun _ h => by cases h⟩
    | true => exact ⟨x, rfl, fun _ _ => rfl⟩

theorem middleJacobian_ev {s : List (List Tm)} {m : Nat} {lo hi : List Int} (h : NwOk s m lo hi) : Evt (fun k _ => impl_middleJacobian k s ((m : Int), lo, hi)) (oL ((jaO (sidesB m lo hi) s).bind miO)) := by
  refine Evt.eq (f := fun k q => _) ?_ (fun k q => by rw [impl_middleJacobian])
  refine Evt.bind (jacobianOver_ev h) ?_
  cases hj : jaO (sidesB m lo hi) s with
  | none => exact Evt.ctrue rfl .pure
  | some J =>
  obtain ⟨hJ, hr⟩ := jaO_ok h hj
  have hn := h.n1
  refine Evt.cfalse rfl ?_
  simp only [oL, Option.bind_some]
  have inner : ∀ (row : List Iv) (x9 : List Pt) (x25 : List (List Iv)) (x26 x27 : Int), row.length ≤ 3 → (∀ x ∈ row, ivGd x) → ∀ (b0 : Bool) (r d : List Iv) (c : Bool) (o : Pt), d ++ r = row → Flag hfO (0, 0) b0 d c o →
      ∃ c' o', Flag hfO (0, 0) b0 row c' o' ∧ Evt (fun k n => impl_middleJacobian_L518554 k n c x9 o x25 x26 x27 row (row.length : Int) d.length) (.inr (c', x9, o', x25, x26, x27, ())) := by
    intro row x9 x25 x26 x27 hl hg b0 r
    induction r with
    | nil =>
      intro d c o h hf
      rw [List.append_nil] at h
      subst h
      exact ⟨c, o, hf, Evt.step (fun k n => impl_middleJacobian_L518554.eq_2 k _ _ _ _ _ _ _ _ _ n) (Evt.cfalse (by simp) .pure)⟩
    | cons e r ih =>
      intro d c o h hf
      have hxl := congrArg List.length h
      simp at hxl
      have he := hg e (by rw [← h]; simp)
      obtain ⟨v, hv, hvx⟩ := keep_val c (halfD e.1 e.2).1 (halfD e.1 e.2).2
      have e1 : (hfO e).isSome = (halfD e.1 e.2).2 := by unfold hfO; cases (halfD e.1 e.2).2 <;> rfl
      have hst := Flag.step (e := e) (v := v) hf (by
        intro hc hs
        rw [e1] at hs
        rw [hvx hc hs]
        unfold hfO
        rw [if_pos hs])
      rw [e1] at hst
      obtain ⟨c', o', q1, q2⟩ := ih (d ++ [e]) _ _ (by simpa using h) hst
      refine ⟨c', o', q1, Evt.step (fun k n => impl_middleJacobian_L518554.eq_2 k _ _ _ _ _ _ _ _ _ n) ?_⟩
      rw [← len_next (r := r) (by rw [h]; simp only [lenB]; omega)] at q2
      have g : row.getD (Int.toNat (d.length : Int)) ((0, 0), 0, 0) = e := by rw [← h]; exact mid_get
      have hol := hf.1
      rw [g]
      exact Evt.ctrue (by rw [← h]; exact mid_lt) (Evt.ctrue mid_ge (Evt.ctrue (by rw [← h]; exact mid_lt) (Evt.bind (middleOf_ev he.1 he.2.1) (Evt.bind (.const hv) (Evt.ctrue (by simp; omega) q2)))))
  have key : ∀ (r d : List (List Iv)) (c : Bool) (o : List Pt), d ++ r = J → Flag rmO [] true d c o →
      ∃ c' o', Flag rmO [] true J c' o' ∧ Evt (fun k n => impl_middleJacobian_L506 k n c o J (J.length : Int) d.length) (.inr (c', o', ())) := by
    intro r
    induction r with
    | nil =>
      intro d c o h hf
      rw [List.append_nil] at h
      subst h
      exact ⟨c, o, hf, Evt.step (fun k n => impl_middleJacobian_L506.eq_2 k _ _ _ _ _ n) (Evt.cfalse (by simp) .pure)⟩
    | cons e r ih =>
      intro d c o h hf
      have hxl := congrArg List.length h
      simp at hxl
      obtain ⟨hel, heg⟩ := hr e (by rw [← h]; simp)
      obtain ⟨c1, o1, ⟨f1, f2, f3⟩, q0⟩ := inner e o J (J.length : Int) (d.length : Int) (by omega) heg c e [] c [] rfl Flag.nil
      simp only [List.length_nil] at q0
      have hst := Flag.step (e := e) (v := o1) hf (by
        intro hc hs
        subst hc
        unfold rmO allO at hs ⊢
        split at hs
        · rename_i hall
          rw [if_pos hall, ← f3 (by rw [f2, hall]; rfl)]
        · cases hs)
      have e2 : (c && (rmO e).isSome) = c1 := by
        rw [f2]
        unfold rmO allO
        cases e.all fun i => (hfO i).isSome <;> rfl
      rw [e2] at hst
      obtain ⟨c', o', q1, q2⟩ := ih (d ++ [e]) c1 (o ++ [o1]) (by simpa using h) hst
      refine ⟨c', o', q1, Evt.step (fun k n => impl_middleJacobian_L506.eq_2 k _ _ _ _ _ n) ?_⟩
      rw [← len_next (r := r) (by rw [h]; simp only [lenB]; omega)] at q2
      have hol := hf.1
      have g : J.getD (Int.toNat (d.length : Int)) [] = e := by rw [← h]; exact mid_get
      rw [g]
      exact Evt.ctrue (by rw [← h]; exact mid_lt) (Evt.ctrue mid_ge (Evt.ctrue (by rw [← h]; exact mid_lt) (Evt.inr (Evt.diag q0) (Evt.ctrue (by simp; omega) q2))))
  obtain ⟨c', o', ⟨f1, f2, f3⟩, q2⟩ := key J [] true [] rfl Flag.nil
  rw [Bool.true_and] at f2
  simp only [List.length_nil] at q2
  refine Evt.inr (Evt.diag q2) ?_
  unfold miO allO
  rw [← f2]
  cases c' with
  | true => rw [← f3 rfl]; exact Evt.cfalse rfl .pure
  | false => exact Evt.ctrue rfl .pure

end Go.Ev.G

namespace Go.Ev.G
open Go Go.Ev
set_option maxRecDepth 100000

def adW : Nat → List Pt → List Pt × Bool
  | 0, _ => ([[(1, 0)]], true)
  | n + 1, m => adjV n m
theorem spec_adW {n : Nat} {m : List Pt} (hn : n ≤ 2) (h : sq gd (n + 1) m) : Evt (fun k _ => spec_mxAdjoint k m) (adW n m) := by
  cases n with
  | zero =>
    have h1 := h.1
    refine Evt.eq (f := fun k q => _) ?_ (fun k q => by rw [spec_mxAdjoint])
    exact Evt.ctrue (by rw [h1]; rfl) (Evt.bind (a := (1, 0)) (.const rfl) .pure)
  | succ n => exact spec_adjoint_ev (by omega) h
theorem impl_adW {n : Nat} {m : List Pt} (hn : n ≤ 2) (h : sq gd (n + 1) m) : Evt (fun k _ => impl_adjoint k m) (adW n m) := by
  cases n with
  | zero =>
    have h1 := h.1
    refine Evt.eq (f := fun k q => _) ?_ (fun k q => by rw [impl_adjoint])
    exact Evt.ctrue (by rw [h1]; rfl) (Evt.bind (a := (1, 0)) (.const rfl) .pure)
  | succ n => exact impl_adjoint_ev (by omega) h
theorem adW_ok {n : Nat} {m : List Pt} (hn : n ≤ 2) (h : sq gd (n + 1) m) : (adW n m).1.length ≤ 3 ∧ ∀ r ∈ (adW n m).1, r.length ≤ 3 ∧ ∀ x ∈ r, gd x := by
  cases n with
  | zero =>
    refine ⟨by simp [adW], fun r hr => ?_⟩
    simp only [adW, List.mem_singleton] at hr
    subst hr
    refine ⟨by simp, fun x hx => ?_⟩
    simp only [List.mem_singleton] at hx
    subst hx
    exact gd_int (n := 1) (by omega)
  | succ n =>
    show (adjV n m).1.length ≤ 3 ∧ ∀ r ∈ (adjV n m).1, r.length ≤ 3 ∧ ∀ x ∈ r, gd x
    unfold adjV
    split
    · rename_i hall
      refine ⟨by simp; omega, fun r hr => ?_⟩
      obtain ⟨i, hi, rfl⟩ := List.mem_map.1 hr
      have hs := List.all_eq_true.1 hall i hi
      have hil := List.mem_range.1 hi
      unfold adjRow at hs ⊢
      split at hs
      · rename_i ha
        rw [if_pos ha]
        refine ⟨by simp [adjT]; omega, fun x hx => ?_⟩
        obtain ⟨o, ho, rfl⟩ := List.mem_map.1 hx
        have hos := List.all_eq_true.1 ha o ho
        unfold adjT at ho
        obtain ⟨c, hc, rfl⟩ := List.mem_map.1 ho
        have hcl := List.mem_range.1 hc
        cases hd : detO n (partV m c i) with
        | none => rw [hd] at hos; cases hos
        | some t =>
          simp only [Option.map_some, Option.getD_some]
          exact ngD_gd (detO_gd n _ t (sq_part h (by omega) (by omega)) hd)
      · cases hs
    · exact ⟨by simp, by simp⟩

def dvO (d : Int × Int) (p : Nat) (x : Int × Int) : Option (Int × Int) := if (mkD (quotV x.1 d.1 (d.2 - x.2 + p)) p).2 then some (mkD (quotV x.1 d.1 (d.2 - x.2 + p)) p).1 else none
def rwO (d : Int × Int) (p : Nat) (row : Pt) : Option Pt := allO (dvO d p) (0, 0) row
def invV (n : Nat) (m : List Pt) (p : Nat) : List Pt × Bool := match detO n m with
  | none => ([], false)
  | some d => if (adW n m).2 then (if d.1 = 0 then ([], false) else oL (allO (rwO d p) [] (adW n m).1)) else ([], false)

theorem mxInverse_ev {n : Nat} {m : List Pt} {p : Nat} (hn : n ≤ 2) (h : sq gd (n + 1) m) (hp : p ≤ 24) : Evt (fun k _ => spec_mxInverse k m (p : Int)) (invV n m p) := by
  refine Evt.eq (f := fun k q => _) ?_ (fun k q => by rw [spec_mxInverse])
  refine Evt.bind (spec_det_ev hn h) (Evt.bind (spec_adW hn h) ?_)
  obtain ⟨al, ar⟩ := adW_ok hn h
  unfold invV
  cases hd : detO n m with
  | none => exact Evt.ctrue rfl .pure
  | some d =>
  have hdg := detO_gd n m d h hd
  refine Evt.cfalse rfl ?_
  cases ha : (adW n m).2 with
  | false => exact Evt.ctrue rfl .pure
  | true =>
  refine Evt.cfalse rfl ?_
  dsimp only
  rw [if_pos rfl]
  simp only [oV]
  by_cases hz : d.1 = 0
  · rw [if_pos hz]
    exact Evt.ctrue (beq_iff_eq.2 hz) .pure
  · rw [if_neg hz]
    refine Evt.cfalse (beq_eq_false_iff_ne.2 hz) ?_
    generalize (adW n m).1 = a at al ar ⊢
    have inner : ∀ (row : Pt) (x10 x39 : List Pt) (x40 x41 : Int), row.length ≤ 3 → (∀ x ∈ row, gd x) → ∀ (r e : Pt), e ++ r = row →
        Evt (fun k n => spec_mxInverse_L518554 k n (p : Int) d x10 (e.map fun i => (dvO d p i).getD (0, 0)) x39 x40 x41 row (row.length : Int) e.length) (if (r.all fun i => (dvO d p i).isSome) then .inr ((p : Int), d, x10, row.map fun i => (dvO d p i).getD (0, 0), x39, x40, x41, ()) else .inl ([], false)) := by
      intro row x10 x39 x40 x41 hl hg r
      induction r with
      | nil =>
        intro e h
        refine Evt.step (fun k n => spec_mxInverse_L518554.eq_2 k _ _ _ _ _ _ _ _ _ _ n) ?_
        rw [List.append_nil] at h
        subst h
        exact Evt.rng0 .pure
      | cons x r ih =>
        intro e h
        have hxl := congrArg List.length h
        simp at hxl
        have ih := ih (e ++ [x]) (by simpa using h)
        rw [← len_next (r := r) (by rw [h]; simp only [lenB]; omega), List.map_append] at ih
        have hx := hg x (by rw [← h]; simp)
        have g : row.getD (Int.toNat (e.length : Int)) (0, 0) = x := by rw [← h]; exact mid_get
        refine Evt.step (fun k n => spec_mxInverse_L518554.eq_2 k _ _ _ _ _ _ _ _ _ _ n) ?_
        rw [g]
        refine Evt.ctrue (by rw [← h]; exact mid_lt) (Evt.ctrue mid_ge (Evt.ctrue (by rw [← h]; exact mid_lt) (Evt.bind (dyDivide_ev hx hdg hz hp) ?_)))
        cases hh : (mkD (quotV x.1 d.1 (d.2 - x.2 + p)) p).2 with
        | false =>
          have ho : dvO d p x = none := by unfold dvO; rw [hh]; rfl
          simp only [List.all_cons, ho, Option.isSome_none, Bool.false_and]
          exact Evt.ctrue rfl .pure
        | true =>
          have ho : dvO d p x = some (mkD (quotV x.1 d.1 (d.2 - x.2 + p)) p).1 := by unfold dvO; rw [hh]; rfl
          simp only [List.map_cons, List.map_nil, ho] at ih
          simp only [List.all_cons, ho, Option.isSome_some, Bool.true_and]
          exact Evt.cfalse rfl (Evt.ctrue (by simp; omega) ih)
    have key : ∀ (r e : List Pt), e ++ r = a → Evt (fun k n => spec_mxInverse_L506 k n (p : Int) d (e.map fun r => (rwO d p r).getD []) a (a.length : Int) e.length) (if (r.all fun r => (rwO d p r).isSome) then .inr (a.map fun r => (rwO d p r).getD [], ()) else .inl ([], false)) := by
      intro r
      induction r with
      | nil =>
        intro e h
        refine Evt.step (fun k n => spec_mxInverse_L506.eq_2 k _ _ _ _ _ _ n) ?_
        rw [List.append_nil] at h
        subst h
        exact Evt.rng0 .pure
      | cons x r ih =>
        intro e h
        have hxl := congrArg List.length h
        simp at hxl
        have ih := ih (e ++ [x]) (by simpa using h)
        rw [← len_next (r := r) (by rw [h]; simp only [lenB]; omega), List.map_append] at ih
        obtain ⟨hel, heg⟩ := ar x (by rw [← h]; simp)
        have g : a.getD (Int.toNat (e.length : Int)) [] = x := by rw [← h]; exact mid_get
        refine Evt.step (fun k n => spec_mxInverse_L506.eq_2 k _ _ _ _ _ _ n) ?_
        rw [g]
        have hi := inner x (e.map fun r => (rwO d p r).getD []) a (a.length : Int) (e.length : Int) hel heg x [] rfl
        simp only [List.map_nil, List.length_nil] at hi
        refine Evt.ctrue (by rw [← h]; exact mid_lt) (Evt.ctrue mid_ge (Evt.ctrue (by rw [← h]; exact mid_lt) ?_))
        cases hall : x.all fun i => (dvO d p i).isSome with
        | false =>
          have ho : rwO d p x = none := by unfold rwO allO; rw [hall]; rfl
          rw [hall] at hi
          simp only [List.all_cons, ho, Option.isSome_none, Bool.false_and]
          exact Evt.inl (Evt.diag hi) .pure
        | true =>
          have ho : rwO d p x = some (x.map fun i => (dvO d p i).getD (0, 0)) := by unfold rwO allO; rw [hall]; rfl
          rw [hall] at hi
          simp only [List.map_cons, List.map_nil, ho] at ih
          simp only [List.all_cons, ho, Option.isSome_some, Bool.true_and]
          exact Evt.inr (Evt.diag hi) (Evt.ctrue (by simp; omega) ih)
    have h0 := key a [] rfl
    simp only [List.map_nil, List.length_nil] at h0
    unfold allO
    cases hall : a.all fun r => (rwO d p r).isSome with
    | true => rw [hall] at h0; exact Evt.inr (Evt.diag h0) .pure
    | false => rw [hall] at h0; exact Evt.inl (Evt.diag h0) .pure

theorem roundedInverse_ev {n : Nat} {m : List Pt} {p : Nat} (hn : n ≤ 2) (h : sq gd (n + 1) m) (hp : p ≤ 24) : Evt (fun k _ => impl_roundedInverse k m (p : Int)) (invV n m p) := by
  refine Evt.eq (f := fun k q => _) ?_ (fun k q => by rw [impl_roundedInverse])
  obtain ⟨v, hv1, hv2, hv3⟩ := impl_det_ev hn h true
  refine Evt.bind hv3 (Evt.bind (impl_adW hn h) ?_)
  obtain ⟨al, ar⟩ := adW_ok hn h
  unfold invV
  cases hd : detO n m with
  | none => exact Evt.ctrue rfl .pure
  | some d =>
  have hdg := detO_gd n m d h hd
  have hvd : v = d := by
    have := hv2 rfl (by rw [hd]; rfl)
    rw [hd] at this
    cases this
    rfl
  subst hvd
  refine Evt.cfalse rfl ?_
  cases ha : (adW n m).2 with
  | false => exact Evt.ctrue rfl .pure
  | true =>
  refine Evt.cfalse rfl ?_
  dsimp only
  rw [if_pos rfl]
  by_cases hz : v.1 = 0
  · rw [if_pos hz]
    exact Evt.ctrue (beq_iff_eq.2 hz) .pure
  · rw [if_neg hz]
    refine Evt.cfalse (beq_eq_false_iff_ne.2 hz) ?_
    generalize (adW n m).1 = a at al ar ⊢
    have inner : ∀ (row : Pt) (A R : List Pt) (x39 x40 : Int), row.length ≤ 3 → (∀ x ∈ row, gd x) → ∀ (b0 : Bool) (r e : Pt) (c : Bool) (o : Pt), e ++ r = row → Flag (dvO v p) (0, 0) b0 e c o →
        ∃ c' o', Flag (dvO v p) (0, 0) b0 row c' o' ∧ Evt (fun k n => impl_roundedInverse_L129638 k n () () A.length (p : Int) c v (A ++ (o ++ r) :: R) x39 x40 (row.length : Int) e.length) (.inr ((), (p : Int), c', v, A ++ o' :: R, x39, x40, ())) := by
      intro row A R x39 x40 hl hg b0 r
      induction r with
      | nil =>
        intro e c o h hf
        rw [List.append_nil] at h
        subst h
        refine ⟨c, o, hf, Evt.step (fun k n => impl_roundedInverse_L129638.eq_2 k _ _ _ _ _ _ _ _ _ _ _ n) ?_⟩
        rw [List.append_nil]
        exact Evt.cfalse (by simp) .pure
      | cons x r ih =>
        intro e c o h hf
        have hxl := congrArg List.length h
        simp at hxl
        have hx := hg x (by rw [← h]; simp)
        have hol := hf.1
        obtain ⟨w, hw, hwx⟩ := keep_val c (mkD (quotV x.1 v.1 (v.2 - x.2 + p)) p).1 (mkD (quotV x.1 v.1 (v.2 - x.2 + p)) p).2
        have e1 : (dvO v p x).isSome = (mkD (quotV x.1 v.1 (v.2 - x.2 + p)) p).2 := by unfold dvO; cases (mkD (quotV x.1 v.1 (v.2 - x.2 + p)) p).2 <;> rfl
        have hst := Flag.step (e := x) (v := w) hf (by
          intro hc hs
          rw [e1] at hs
          rw [hwx hc hs]
          unfold dvO
          rw [if_pos hs])
        rw [e1] at hst
        obtain ⟨c', o', q1, q2⟩ := ih (e ++ [x]) _ _ (by simpa using h) hst
        refine ⟨c', o', q1, Evt.step (fun k n => impl_roundedInverse_L129638.eq_2 k _ _ _ _ _ _ _ _ _ _ _ n) ?_⟩
        rw [← len_next (r := r) (by rw [h]; simp only [lenB]; omega)] at q2
        have gr : (A ++ (o ++ x :: r) :: R).getD A.length [] = o ++ x :: r := by simp
        have hoe : (e.length : Int) = (o.length : Int) := by omega
        have gx : (o ++ x :: r).getD (Int.toNat (e.length : Int)) (0, 0) = x := by rw [hoe]; exact mid_get
        have sx : (A ++ (o ++ x :: r) :: R).set A.length ((o ++ x :: r).set (Int.toNat (e.length : Int)) w) = A ++ ((o ++ [w]) ++ r) :: R := by rw [hoe, mid_set]; simp
        have lr : (o ++ x :: r).length = row.length := by simp; omega
        have wk : IntKind.wrap .i64 (v.2 - x.2) = v.2 - x.2 := by
          obtain ⟨a1, a2, _⟩ := hdg
          obtain ⟨b1, b2, _⟩ := hx
          exact w64 (by omega) (by omega)
        have hq := quotientDown_ev (n := x.1) (k := v.2 - x.2) (d := v.1) (p := p) ⟨hx.2.2.1, hx.2.2.2.1⟩ ⟨hdg.2.2.1, hdg.2.2.2.1⟩ hz (by
          obtain ⟨a1, a2, _⟩ := hdg
          obtain ⟨b1, b2, _⟩ := hx
          omega) hp
        rw [gr, gx, lr, wk]
        have c0 : decide ((e.length : Int) < (row.length : Int)) = true := decide_eq_true (by omega)
        refine Evt.ctrue c0 (Evt.ctrue mid_ge (Evt.ctrue c0 (Evt.bind hq (Evt.bind (.const hw) (Evt.ctrue mid_ge (Evt.ctrue c0 ?_))))))
        dsimp only
        rw [sx]
        exact q2
    have key : ∀ (r e : List Pt) (c : Bool) (o : List Pt), e ++ r = a → Flag (rwO v p) [] true e c o →
        ∃ c' o', Flag (rwO v p) [] true a c' o' ∧ Evt (fun k n => impl_roundedInverse_L506 k n () (p : Int) c v (o ++ r) (a.length : Int) e.length) (.inr (c', o', ())) := by
      intro r
      induction r with
      | nil =>
        intro e c o h hf
        rw [List.append_nil] at h
        subst h
        refine ⟨c, o, hf, Evt.step (fun k n => impl_roundedInverse_L506.eq_2 k _ _ _ _ _ _ _ n) ?_⟩
        rw [List.append_nil]
        exact Evt.cfalse (by simp) .pure
      | cons x r ih =>
        intro e c o h hf
        have hxl := congrArg List.length h
        simp at hxl
        obtain ⟨hel, heg⟩ := ar x (by rw [← h]; simp)
        have hol := hf.1
        obtain ⟨c1, o1, ⟨f1, f2, f3⟩, q0⟩ := inner x o r (a.length : Int) (e.length : Int) (by omega) heg c x [] c [] rfl Flag.nil
        simp only [List.length_nil, List.nil_append] at q0
        have hst := Flag.step (e := x) (v := o1) hf (by
          intro hc hs
          subst hc
          unfold rwO allO at hs ⊢
          split at hs
          · rename_i hall
            rw [if_pos hall, ← f3 (by rw [f2, hall]; rfl)]
          · cases hs)
        have e2 : (c && (rwO v p x).isSome) = c1 := by
          rw [f2]
          unfold rwO allO
          cases x.all fun i => (dvO v p i).isSome <;> rfl
        rw [e2] at hst
        obtain ⟨c', o', q1, q2⟩ := ih (e ++ [x]) c1 (o ++ [o1]) (by simpa using h) hst
        refine ⟨c', o', q1, Evt.step (fun k n => impl_roundedInverse_L506.eq_2 k _ _ _ _ _ _ _ n) ?_⟩
        rw [← len_next (r := r) (by rw [h]; simp only [lenB]; omega)] at q2
        have hoe : (e.length : Int) = (o.length : Int) := by omega
        have gx : (o ++ x :: r).getD (Int.toNat (e.length : Int)) [] = x := by rw [hoe]; exact mid_get
        have hn2 : Int.toNat (e.length : Int) = o.length := by omega
        have lo : ((o ++ x :: r).length : Int) = (a.length : Int) := by simp; omega
        rw [gx]
        rw [hn2]
        have q3 : o ++ [o1] ++ r = o ++ o1 :: r := by simp
        rw [q3] at q2
        exact Evt.ctrue (decide_eq_true (by omega)) (Evt.ctrue mid_ge (Evt.ctrue (decide_eq_true (by omega)) (Evt.inr (Evt.diag q0) q2)))
    obtain ⟨c', o', ⟨f1, f2, f3⟩, q2⟩ := key a [] true [] rfl Flag.nil
    rw [Bool.true_and] at f2
    simp only [List.length_nil, List.nil_append] at q2
    refine Evt.inr (Evt.diag q2) ?_
    unfold allO
    rw [← f2]
    cases c' with
    | true => rw [← f3 rfl]; exact Evt.cfalse rfl .pure
    | false => exact Evt.ctrue rfl .pure
end Go.Ev.G

namespace Go.Ev.G
open Go Go.Ev
set_option maxRecDepth 100000

theorem miO_sq {s : List (List Tm)} {m : Nat} {lo hi : List Int} (h : NwOk s m lo hi) {J : List (List Iv)} {M : List Pt} (hJ : jaO (sidesB m lo hi) s = some J) (hM : miO J = some M) : sq gd (lo.length - 1 + 1) M := by
  obtain ⟨j1, j2⟩ := jaO_ok h hJ
  have hn := h.n1
  have e : lo.length - 1 + 1 = lo.length := by omega
  rw [e]
  refine ⟨by rw [allO_len hM]; exact j1, fun r hr => ?_⟩
  obtain ⟨x, hx, hg⟩ := allO_mem hM r hr
  refine ⟨by rw [allO_len hg]; exact (j2 x hx).1, fun y hy => ?_⟩
  obtain ⟨i, _, hi⟩ := allO_mem hg y hy
  unfold hfO at hi
  split at hi
  · cases hi
    exact halfD_gd _ _
  · cases hi
theorem inverseJacobian_ev {s : List (List Tm)} {m : Nat} {lo hi : List Int} (hN : NwOk s m lo hi) : Evt (fun k _ => impl_inverseJacobian k s ((m : Int), lo, hi)) (match (jaO (sidesB m lo hi) s).bind miO with
  | some M => invV (lo.length - 1) M 8
  | none => ([], false)) := by
  have hn := hN.n1
  refine Evt.eq (f := fun k q => _) ?_ (fun k q => by rw [impl_inverseJacobian])
  have hmid := middleJacobian_ev hN
  cases hj : jaO (sidesB m lo hi) s with
  | none =>
    rw [hj] at hmid
    exact Evt.bind hmid (Evt.ctrue rfl .pure)
  | some J =>
    rw [hj] at hmid
    simp only [Option.bind_some] at hmid ⊢
    cases hM : miO J with
    | none =>
      rw [hM] at hmid
      exact Evt.bind hmid (Evt.ctrue rfl .pure)
    | some M =>
      rw [hM] at hmid
      have hinv := roundedInverse_ev (p := 8) (show lo.length - 1 ≤ 2 by omega) (miO_sq hN hj hM) (by omega)
      exact Evt.bind hmid (Evt.cfalse rfl (Evt.bind hinv .pure))
end Go.Ev.G

namespace Go.Ev.G
open Go Go.Ev
set_option maxRecDepth 100000

theorem between {m D : Nat} {l h x : Int} (hl : -(8 * 2 ^ m) ≤ l) (hlh : l < h) (hh : h ≤ 8 * 2 ^ m) (h0 : 0 ≤ x) (h1 : x ≤ 2 ^ D) : (l * 2 ^ D + x * (h - l)).natAbs ≤ 8 * 2 ^ (m + D) := by
  have hP : (0 : Int) ≤ 2 ^ D := Int.le_of_lt (Int.pow_pos (by decide))
  have e1 : l * 2 ^ D + x * (h - l) = l * (2 ^ D - x) + h * x := by rw [Int.mul_sub, Int.mul_sub, Int.mul_comm x h, Int.mul_comm x l]; omega
  have a1 : -(8 * 2 ^ m) * (2 ^ D - x) ≤ l * (2 ^ D - x) := Int.mul_le_mul_of_nonneg_right hl (by omega)
  have a2 : -(8 * 2 ^ m) * x ≤ h * x := Int.mul_le_mul_of_nonneg_right (by omega) h0
  have b1 : l * (2 ^ D - x) ≤ 8 * 2 ^ m * (2 ^ D - x) := Int.mul_le_mul_of_nonneg_right (by omega) (by omega)
  have b2 : h * x ≤ 8 * 2 ^ m * x := Int.mul_le_mul_of_nonneg_right hh h0
  have e2 : (8 : Int) * 2 ^ m * (2 ^ D - x) + 8 * 2 ^ m * x = 8 * 2 ^ m * 2 ^ D := by rw [← Int.mul_add]; congr 1; omega
  have e3 : ((8 * 2 ^ (m + D) : Nat) : Int) = 8 * 2 ^ m * 2 ^ D := by rw [Nat.pow_add, ← Nat.mul_assoc]; simp
  rw [Int.neg_mul] at a1 a2
  omega
def qq (a b : Int) : Option Int := if a = 0 ∧ b = 0 then none else some (if 0 < a ∧ 0 ≤ b then 0 else if a ≤ 0 ∧ 0 < b then 1 else if a < 0 then 2 else 3)
end Go.Ev.G

namespace Go.Ev.G
open Go Go.Ev
set_option maxRecDepth 100000

theorem ivGd.gdI {x : Iv} (h : ivGd x) : gdI x := ⟨h.1, h.2.1⟩
def stT (o : Option Iv) (x : Int × Int) (y : Iv) : Option Iv := match o with
  | none => none
  | some s => match mulO (x, x) y with
    | none => none
    | some p => addO s p
def foldT : Option Iv → Pt → List Iv → Option Iv
  | o, x :: xs, y :: ys => foldT (stT o x y) xs ys
  | o, _, _ => o
theorem foldT_none : ∀ (xs : Pt) (ys : List Iv), foldT none xs ys = none
  | [], _ => by cases ‹List Iv› <;> rfl
  | _ :: _, [] => rfl
  | _ :: xs, _ :: ys => foldT_none xs ys
def colI (m : List (List Iv)) (j : Nat) : List Iv := m.map fun r => r.getD j zI
def colsI (m : List (List Iv)) : List (List Iv) := (List.range m.length).map (colI m)
def inI (row : Pt) (c : List Iv) : Option Iv := foldT (some zI) row c
def rowI (m : List (List Iv)) (row : Pt) : Option (List Iv) := if ((colsI m).all fun c => (inI row c).isSome) then some ((colsI m).map fun c => (inI row c).getD zI) else none
theorem colsI_len (b : List (List Iv)) : (colsI b).length = b.length := by simp [colsI]
theorem colsI_at {b : List (List Iv)} {d r : List (List Iv)} {e : List Iv} (h : d ++ e :: r = colsI b) : e = colI b d.length ∧ d.length < b.length := by
  have hl := congrArg List.length h
  rw [colsI_len] at hl
  simp at hl
  have h1 : d.length < b.length := by omega
  have h2 : (d ++ e :: r)[d.length]? = some e := by simp
  rw [h] at h2
  unfold colsI at h2
  rw [List.getElem?_map, List.getElem?_range h1] at h2
  simp only [Option.map_some, Option.some.injEq] at h2
  exact ⟨h2.symm, h1⟩
theorem stT_some {s : Iv} {x : Int × Int} {y : Iv} : stT (some s) x y = (mulO (x, x) y).bind (addO s) := by unfold stT; cases mulO (x, x) y <;> rfl

theorem tiSpec_in {m : List (List Iv)} {row : Pt} {c : Nat} (hm : ∀ r ∈ m, c < r.length ∧ ∀ x ∈ r, ivGd x) (hr : ∀ x ∈ row, gd x) (hl : row.length = m.length) (hb : row.length < lenB) (x6 : List (List Iv)) (x9 : List Iv) (x18 : List Pt) (x19 x20 x25 x26 : Int) : ∀ (r : Pt) (r2 : List (List Iv)) (d : Pt) (d2 : List (List Iv)) (s : Iv), d ++ r = row → d2 ++ r2 = m → d.length = d2.length → gdI s →
    Evt (fun k n => spec_mxTimesIn_L61237658 k n m x6 row x9 (c : Int) s x18 x19 x20 x25 x26 row (row.length : Int) d.length) (match foldT (some s) r (r2.map fun q => q.getD c zI) with | some t => .inr (m, x6, row, x9, t, x18, x19, x20, x25, x26, ()) | none => .inl ([], false)) := by
  intro r
  induction r with
  | nil =>
    intro r2 d d2 s h h2 hd hs
    refine Evt.step (fun k n => spec_mxTimesIn_L61237658.eq_2 k _ _ _ _ _ _ _ _ _ _ _ _ _ _ n) ?_
    rw [List.append_nil] at h
    subst h
    have e : foldT (some s) [] (r2.map fun q => q.getD c zI) = some s := by cases r2 <;> rfl
    rw [e]
    exact Evt.rng0 .pure
  | cons e r ih =>
    intro r2 d d2 s h h2 hd hs
    refine Evt.step (fun k n => spec_mxTimesIn_L61237658.eq_2 k _ _ _ _ _ _ _ _ _ _ _ _ _ _ n) ?_
    have hxl := congrArg List.length h
    have hyl := congrArg List.length h2
    simp at hxl hyl
    cases r2 with
    | nil => simp at hyl; omega
    | cons f r2 =>
    have hf := hm f (by rw [← h2]; simp)
    have e1 : row.getD (Int.toNat (d.length : Int)) (0, 0) = e := by rw [← h]; exact mid_get
    have e2 : m.getD (Int.toNat (d.length : Int)) [] = f := by rw [← h2, hd]; exact mid_get
    refine Evt.ctrue (by rw [← h]; exact mid_lt) (Evt.ctrue mid_ge (Evt.ctrue (by rw [← h]; exact mid_lt) (Evt.ctrue mid_ge (Evt.ctrue (decide_eq_true (by omega)) (Evt.ctrue (decide_eq_true (by omega)) ?_)))))
    rw [e1, e2]
    have e3 : Int.toNat (c : Int) = c := by omega
    rw [e3]
    refine Evt.ctrue (decide_eq_true (by have := hf.1; omega)) (Evt.bind (ivMul_ev ⟨hr e (by rw [← h]; simp), hr e (by rw [← h]; simp)⟩ (ivGd.gdI (hf.2 _ (getI_mem hf.1)))) ?_)
    simp only [List.map_cons, foldT, stT]
    cases hmu : mulO (e, e) (f.getD c zI) with
    | none =>
      simp only [foldT_none]
      exact Evt.ctrue rfl .pure
    | some p =>
      refine Evt.cfalse rfl (Evt.bind (ivAdd_ev hs (mulO_gd hmu)) ?_)
      simp only
      cases had : addO s p with
      | none =>
        simp only [foldT_none]
        exact Evt.ctrue rfl .pure
      | some t =>
        have ih := ih r2 (d ++ [e]) (d2 ++ [f]) t (by simpa using h) (by simpa using h2) (by simp [hd]) (addO_gd had)
        rw [← len_next (r := r) (by rw [h]; exact hb)] at ih
        exact Evt.cfalse rfl ih

theorem mxTimesIn_ev {a : List Pt} {m : List (List Iv)} (hb : a.length < 274877906944) (hm : ∀ r ∈ a, r.length < lenB) (hb' : m.length < 274877906944) (hm' : ∀ r ∈ m, r.length < lenB) (ht : tab gd a = true) (ht' : tab ivGd m = true) (hl : a.length = m.length) : Evt (fun k _ => spec_mxTimesIn k a m) (if (a.all fun r => (rowI m r).isSome) then (a.map fun r => (rowI m r).getD [], true) else ([], false)) := by
  have hg := tab_gd ht
  obtain ⟨n, hn, hsq⟩ := sq_tab ht'
  have hg' : ∀ j, j < m.length → ∀ r ∈ m, j < r.length ∧ ∀ x ∈ r, ivGd x := fun j hj r hr => ⟨by rw [(hsq.2 r hr).1, ← hsq.1]; exact hj, (hsq.2 r hr).2⟩
  have inner : ∀ (row : Pt) (x6 : List (List Iv)) (x18 : List Pt) (x19 x20 : Int), row.length = m.length → (∀ x ∈ row, gd x) → ∀ (r d : List (List Iv)), d ++ r = colsI m →
      Evt (fun k n => spec_mxTimesIn_L59802 k n m x6 row (d.map fun c => (inI row c).getD zI) x18 x19 x20 (m.length : Int) d.length) (if (r.all fun c => (inI row c).isSome) then .inr (m, x6, (colsI m).map fun c => (inI row c).getD zI, x18, x19, x20, ()) else .inl ([], false)) := by
    intro row x6 x18 x19 x20 hrl hrg r
    induction r with
    | nil =>
      intro d h
      refine Evt.step (fun k n => spec_mxTimesIn_L59802.eq_2 k _ _ _ _ _ _ _ _ _ n) ?_
      rw [List.append_nil] at h
      rw [h, colsI_len]
      exact Evt.cfalse (decide_eq_false (by omega)) .pure
    | cons e r ih =>
      intro d h
      obtain ⟨he, hd⟩ := colsI_at h
      refine Evt.step (fun k n => spec_mxTimesIn_L59802.eq_2 k _ _ _ _ _ _ _ _ _ n) (Evt.ctrue (decide_eq_true (by omega)) ?_)
      have ih := ih (d ++ [e]) (by simpa using h)
      rw [← len_next (e := e) (r := r) (by rw [h, colsI_len]; simp only [lenB]; omega)] at ih
      have hi := tiSpec_in (m := m) (row := row) (hg' d.length hd) hrg hrl (by simp only [lenB]; omega) x6 (d.map fun c => (inI row c).getD zI) x18 x19 x20 (m.length : Int) (d.length : Int) row m [] [] zI rfl rfl rfl zI_gd
      simp only [List.length_nil] at hi
      have e4 : foldT (some zI) row (m.map fun q => q.getD d.length zI) = inI row e := by rw [he]; rfl
      rw [e4] at hi
      rw [List.map_append, List.map_cons] at ih
      cases ho : inI row e with
      | none =>
        rw [ho] at hi
        simp only [List.all_cons, ho, Option.isSome_none, Bool.false_and]
        exact Evt.inl (Evt.diag hi) .pure
      | some t =>
        rw [ho] at ih hi
        simp only [List.all_cons, ho, Option.isSome_some, Bool.true_and]
        exact Evt.inr (Evt.diag hi) (Evt.ctrue (by simp; omega) ih)
  have key : ∀ (r d : List Pt), d ++ r = a → Evt (fun k n => spec_mxTimesIn_L58 k n m (d.map fun r => (rowI m r).getD []) a (a.length : Int) d.length) (if (r.all fun r => (rowI m r).isSome) then .inr (a.map fun r => (rowI m r).getD [], ()) else .inl ([], false)) := by
    intro r
    induction r with
    | nil =>
      intro d h
      refine Evt.step (fun k n => spec_mxTimesIn_L58.eq_2 k _ _ _ _ _ n) ?_
      rw [List.append_nil] at h
      subst h
      exact Evt.rng0 .pure
    | cons e r ih =>
      intro d h
      refine Evt.step (fun k n => spec_mxTimesIn_L58.eq_2 k _ _ _ _ _ n) ?_
      have hme : e ∈ a := by rw [← h]; simp
      have hge := hg e hme
      have hi := inner e (d.map fun r => (rowI m r).getD []) a (a.length : Int) (d.length : Int) (by omega) hge.2 (colsI m) [] rfl
      simp only [List.length_nil, List.map_nil] at hi
      have ih := ih (d ++ [e]) (by simpa using h)
      rw [← len_next (r := r) (by rw [h]; simp only [lenB]; omega)] at ih
      have hxl := congrArg List.length h
      simp at hxl
      subst h
      refine Evt.ctrue mid_lt (Evt.ctrue mid_ge (Evt.ctrue mid_lt ?_))
      rw [mid_get]
      rw [List.map_append, List.map_cons] at ih
      cases hall : (colsI m).all fun c => (inI e c).isSome with
      | false =>
        rw [hall] at hi
        have hmr : rowI m e = none := by unfold rowI; rw [hall]; rfl
        simp only [List.all_cons, hmr, Option.isSome_none, Bool.false_and]
        exact Evt.inl (Evt.diag hi) .pure
      | true =>
        rw [hall] at hi
        have hmr : rowI m e = some ((colsI m).map fun c => (inI e c).getD zI) := by unfold rowI; rw [hall]; rfl
        rw [hmr] at ih
        simp only [List.all_cons, hmr, Option.isSome_some, Bool.true_and]
        exact Evt.inr (Evt.diag hi) (Evt.ctrue (by simp; omega) ih)
  have h0 := key a [] rfl
  simp only [List.length_nil, List.map_nil] at h0
  refine Evt.eq (f := fun k q => _) ?_ (fun k q => by rw [spec_mxTimesIn])
  cases hall : a.all fun r => (rowI m r).isSome with
  | true => rw [hall] at h0; exact Evt.inr (Evt.diag h0) .pure
  | false => rw [hall] at h0; exact Evt.inl (Evt.diag h0) .pure

def Fl (b0 c : Bool) (o : Option Iv) (v : Iv) : Prop := gdI v ∧ c = (b0 && o.isSome) ∧ (c = true → o = some v)

theorem tiImpl_in {a : List Pt} {m : List (List Iv)} {row : Pt} {c i : Nat} (hi : i < a.length) (hrow : a.getD (Int.toNat (i : Int)) [] = row) (hm : ∀ r ∈ m, c < r.length ∧ ∀ x ∈ r, ivGd x) (hr : ∀ x ∈ row, gd x) (hl : row.length = m.length) (hb : row.length < lenB) (b0 : Bool) (x7 : List (List Iv)) (x9 : List Iv) (x16 x17 x21 x22 : Int) :
    ∀ (r : Pt) (r2 : List (List Iv)) (d : Pt) (d2 : List (List Iv)) (f0 : Bool) (o : Option Iv) (s : Iv), d ++ r = row → d2 ++ r2 = m → d.length = d2.length → Fl b0 f0 o s →
    ∃ f1 s1, Fl b0 f1 (foldT o r (r2.map fun q => q.getD c zI)) s1 ∧ Evt (fun k n => impl_timesIntervals_L128346522 k n a m f0 x7 (i : Int) x9 (c : Int) s d.length x16 x17 x21 x22) (.inr (a, m, f1, x7, (i : Int), x9, s1, x16, x17, x21, x22, ())) := by
  intro r
  induction r with
  | nil =>
    intro r2 d d2 f0 o s h h2 hd hs
    have e : foldT o [] (r2.map fun q => q.getD c zI) = o := by cases r2 <;> rfl
    rw [e]
    refine ⟨f0, s, hs, Evt.step (fun k n => impl_timesIntervals_L128346522.eq_2 k _ _ _ _ _ _ _ _ _ _ _ _ _ n) ?_⟩
    rw [List.append_nil] at h
    exact Evt.cfalse (decide_eq_false (by rw [h]; omega)) .pure
  | cons e r ih =>
    intro r2 d d2 f0 o s h h2 hd hs
    have hxl := congrArg List.length h
    have hyl := congrArg List.length h2
    simp at hxl hyl
    cases r2 with
    | nil => simp at hyl; omega
    | cons f r2 =>
    have hf := hm f (by rw [← h2]; simp)
    have he := hr e (by rw [← h]; simp)
    have e1 : row.getD (Int.toNat (d.length : Int)) (0, 0) = e := by rw [← h]; exact mid_get
    have e2 : m.getD (Int.toNat (d.length : Int)) [] = f := by rw [← h2, hd]; exact mid_get
    obtain ⟨v1, g1, w1, ev1⟩ := multiply_ev (b := f0) (i := (e, e)) (k' := f.getD c zI) ⟨he, he⟩ (ivGd.gdI (hf.2 _ (getI_mem hf.1)))
    obtain ⟨v2, g2, w2, ev2⟩ := addI_ev (b := f0 && (mulO (e, e) (f.getD c zI)).isSome) (i := s) (k' := v1) hs.1 g1
    have hfl : Fl b0 (f0 && (mulO (e, e) (f.getD c zI)).isSome && (addO s v1).isSome) (stT o e (f.getD c zI)) v2 := by
      obtain ⟨q1, q2, q3⟩ := hs
      refine ⟨g2, ?_, ?_⟩
      · cases f0 with
        | true =>
          rw [q3 rfl] at q2 ⊢
          simp only [Option.isSome_some, Bool.and_true] at q2
          subst q2
          cases hmu : mulO (e, e) (f.getD c zI) with
          | none => rw [stT_some, hmu]; rfl
          | some p =>
            have := w1 rfl (by rw [hmu]; rfl)
            rw [hmu] at this
            cases this
            rw [stT_some, hmu]
            rfl
        | false =>
          simp only [Bool.false_and]
          cases o with
          | none => simp [stT]
          | some z => simp at q2; simp [q2]
      · intro hc
        simp only [Bool.and_eq_true] at hc
        obtain ⟨⟨c1, c2⟩, c3⟩ := hc
        subst c1
        rw [q3 rfl]
        have w1 := w1 rfl c2
        have w2 := w2 (by rw [c2]; rfl) c3
        rw [stT_some, w1]
        exact w2
    obtain ⟨f1, s1, k1, k2⟩ := ih r2 (d ++ [e]) (d2 ++ [f]) _ _ v2 (by simpa using h) (by simpa using h2) (by simp [hd]) hfl
    refine ⟨f1, s1, k1, Evt.step (fun k n => impl_timesIntervals_L128346522.eq_2 k _ _ _ _ _ _ _ _ _ _ _ _ _ n) ?_⟩
    rw [← len_next (r := r) (by rw [h]; exact hb)] at k2
    refine Evt.ctrue (decide_eq_true (by omega)) (Evt.ctrue mid_ge (Evt.ctrue (decide_eq_true (by omega)) (Evt.ctrue mid_ge ?_)))
    rw [hrow]
    refine Evt.ctrue (decide_eq_true (by omega)) (Evt.bind (Evt.const (r := (e, e)) (by rw [e1]; rfl)) (Evt.ctrue mid_ge (Evt.ctrue (decide_eq_true (by omega)) (Evt.ctrue mid_ge ?_))))
    rw [e2]
    have e3 : Int.toNat (c : Int) = c := by omega
    rw [e3]
    exact Evt.ctrue (decide_eq_true (by have := hf.1; omega)) (Evt.bind ev1 (Evt.bind ev2 k2))

theorem timesIn_ev {a : List Pt} {m : List (List Iv)} (hb : a.length < lenB) (hm : ∀ r ∈ a, r.length < lenB) (hb' : m.length < lenB) (hm' : ∀ r ∈ m, r.length < lenB) (ht : tab gd a = true) (ht' : tab ivGd m = true) (hl : a.length = m.length) : Evt (fun k _ => impl_timesIntervals k a m) (if (a.all fun r => (rowI m r).isSome) then (a.map fun r => (rowI m r).getD [], true) else ([], false)) := by
  have hg := tab_gd ht
  obtain ⟨n, hn, hsq⟩ := sq_tab ht'
  have hg' : ∀ j, j < m.length → ∀ r ∈ m, j < r.length ∧ ∀ x ∈ r, ivGd x := fun j hj r hr => ⟨by rw [(hsq.2 r hr).1, ← hsq.1]; exact hj, (hsq.2 r hr).2⟩
  have inner : ∀ (row : Pt) (i : Nat) (x7 : List (List Iv)) (x16 x17 : Int), a.getD (Int.toNat (i : Int)) [] = row → i < a.length → row ∈ a → ∀ (b0 : Bool) (r d : List (List Iv)) (c : Bool) (o : List Iv), d ++ r = colsI m → Flag (fun c => inI row c) zI b0 d c o →
      ∃ c' o', Flag (fun c => inI row c) zI b0 (colsI m) c' o' ∧ Evt (fun k n => impl_timesIntervals_L125338 k n a m c x7 (i : Int) o x16 x17 (m.length : Int) d.length) (.inr (a, m, c', x7, o', x16, x17, ())) := by
    intro row i x7 x16 x17 hrow hi hra b0 r
    have hgr := hg row hra
    induction r with
    | nil =>
      intro d c o h hf
      rw [List.append_nil] at h
      subst h
      refine ⟨c, o, hf, Evt.step (fun k n => impl_timesIntervals_L125338.eq_2 k _ _ _ _ _ _ _ _ _ _ n) ?_⟩
      rw [colsI_len]
      exact Evt.cfalse (decide_eq_false (by omega)) .pure
    | cons e r ih =>
      intro d c o h hf
      obtain ⟨he, hd⟩ := colsI_at h
      have hcm := hg' d.length hd
      -- the first product
      have hdm : 0 < m.length := by omega
      obtain ⟨f0, mr, hm0⟩ := List.exists_cons_of_length_pos hdm
      obtain ⟨x0, rr, hr0⟩ := List.exists_cons_of_length_pos (show 0 < row.length by have := hgr.1; omega)
      have hf0 := hcm f0 (by rw [hm0]; simp)
      have hx0 := hgr.2 x0 (by rw [hr0]; simp)
      obtain ⟨v1, g1, w1, ev1⟩ := multiply_ev (b := c) (i := (x0, x0)) (k' := f0.getD d.length zI) ⟨hx0, hx0⟩ (ivGd.gdI (hf0.2 _ (getI_mem hf0.1)))
      have hfl : Fl c (c && (mulO (x0, x0) (f0.getD d.length zI)).isSome) (stT (some zI) x0 (f0.getD d.length zI)) v1 := by
        have ez : stT (some zI) x0 (f0.getD d.length zI) = mulO (x0, x0) (f0.getD d.length zI) := by
          unfold stT
          cases hmu : mulO (x0, x0) (f0.getD d.length zI) with
          | none => rfl
          | some p => exact addO_zero (mulO_gd hmu)
        rw [ez]
        refine ⟨g1, rfl, fun hc => ?_⟩
        simp only [Bool.and_eq_true] at hc
        exact w1 hc.1 hc.2
      obtain ⟨f1, s1, k1, k2⟩ := tiImpl_in (a := a) (m := m) (row := row) (c := d.length) (i := i) hi hrow hcm hgr.2 (by omega) (by omega) c x7 o x16 x17 (m.length : Int) (d.length : Int) rr mr [x0] [f0] _ _ v1 (by rw [hr0]; rfl) (by rw [hm0]; rfl) rfl hfl
      have hin : foldT (stT (some zI) x0 (f0.getD d.length zI)) rr (mr.map fun q => q.getD d.length zI) = inI row e := by
        rw [he, hr0]
        unfold inI colI
        rw [hm0]
        rfl
      rw [hin] at k1
      obtain ⟨q1, q2, q3⟩ := k1
      have hst := Flag.step (e := e) (v := s1) hf (by
        intro hc hs
        exact q3 (by rw [q2, hc, hs]; rfl))
      rw [← q2] at hst
      obtain ⟨c', o', p1, p2⟩ := ih (d ++ [e]) _ _ (by simpa using h) hst
      refine ⟨c', o', p1, ?_⟩
      refine Evt.step (fun k n => impl_timesIntervals_L125338.eq_2 k _ _ _ _ _ _ _ _ _ _ n) ?_
      rw [← len_next (r := r) (by rw [h, colsI_len]; exact hb')] at p2
      have hol := hf.1
      refine Evt.ctrue (decide_eq_true (by omega)) (Evt.ctrue mid_ge (Evt.ctrue (decide_eq_true (by omega)) ?_))
      have e5 : row.getD 0 (0, 0) = x0 := by rw [hr0]; rfl
      have e6 : m.getD 0 [] = f0 := by rw [hm0]; rfl
      rw [hrow, e6]
      refine Evt.ctrue (decide_eq_true (by omega)) (Evt.bind (Evt.const (r := (x0, x0)) (by rw [e5]; rfl)) (Evt.ctrue (decide_eq_true (by omega)) (Evt.ctrue mid_ge ?_)))
      have e3 : Int.toNat (d.length : Int) = d.length := by omega
      rw [e3]
      refine Evt.ctrue (decide_eq_true (by have := hf0.1; omega)) (Evt.bind ev1 ?_)
      simp only [List.length_cons, List.length_nil] at k2
      exact Evt.inr (Evt.diag k2) (Evt.ctrue (by simp; omega) p2)
  have key : ∀ (r d : List Pt) (c : Bool) (o : List (List Iv)), d ++ r = a → Flag (rowI m) [] true d c o →
      ∃ c' o', Flag (rowI m) [] true a c' o' ∧ Evt (fun k n => impl_timesIntervals_L122 k n a m c o (a.length : Int) d.length) (.inr (c', o', ())) := by
    intro r
    induction r with
    | nil =>
      intro d c o h hf
      rw [List.append_nil] at h
      subst h
      exact ⟨c, o, hf, Evt.step (fun k n => impl_timesIntervals_L122.eq_2 k _ _ _ _ _ _ n) (Evt.cfalse (decide_eq_false (by omega)) .pure)⟩
    | cons e r ih =>
      intro d c o h hf
      have hxl := congrArg List.length h
      simp at hxl
      have hme : e ∈ a := by rw [← h]; simp
      obtain ⟨c1, o1, ⟨f1, f2, f3⟩, q0⟩ := inner e d.length o (a.length : Int) (d.length : Int) (by rw [← h]; exact mid_get) (by omega) hme c (colsI m) [] c [] rfl Flag.nil
      simp only [List.length_nil] at q0
      have hst := Flag.step (e := e) (v := o1) hf (by
        intro hc hs
        subst hc
        unfold rowI at hs ⊢
        split at hs
        · rename_i hall
          rw [if_pos hall, ← f3 (by rw [f2, hall]; rfl)]
        · cases hs)
      have e2 : (c && (rowI m e).isSome) = c1 := by
        rw [f2]
        unfold rowI
        cases (colsI m).all fun c => (inI e c).isSome <;> rfl
      rw [e2] at hst
      obtain ⟨c', o', q1, q2⟩ := ih (d ++ [e]) c1 (o ++ [o1]) (by simpa using h) hst
      refine ⟨c', o', q1, Evt.step (fun k n => impl_timesIntervals_L122.eq_2 k _ _ _ _ _ _ n) ?_⟩
      rw [← len_next (r := r) (by rw [h]; exact hb)] at q2
      have hol := hf.1
      exact Evt.ctrue (decide_eq_true (by omega)) (Evt.inr (Evt.diag q0) (Evt.ctrue (by have := (hg e hme).1; simp; omega) q2))
  obtain ⟨c', o', ⟨f1, f2, f3⟩, q2⟩ := key a [] true [] rfl Flag.nil
  rw [Bool.true_and] at f2
  simp only [List.length_nil] at q2
  refine Evt.eq (f := fun k q => _) ?_ (fun k q => by rw [impl_timesIntervals])
  refine Evt.inr (Evt.diag q2) ?_
  rw [← f2]
  cases c' with
  | true => rw [← f3 rfl]; exact Evt.cfalse rfl .pure
  | false => exact Evt.ctrue rfl .pure

end Go.Ev.G

namespace Go.Ev.G
open Go Go.Ev
set_option maxRecDepth 100000

theorem adW_sq {n : Nat} {m : List Pt} (hn : n ≤ 2) (h : sq gd (n + 1) m) (h2 : (adW n m).2 = true) : sq gd (n + 1) (adW n m).1 := by
  obtain ⟨_, g⟩ := adW_ok hn h
  cases n with
  | zero =>
    refine ⟨rfl, fun r hr => ⟨?_, (g r hr).2⟩⟩
    simp only [adW, List.mem_singleton] at hr
    subst hr
    rfl
  | succ n =>
    have h2 : (adjV n m).2 = true := h2
    have g : ∀ r ∈ (adjV n m).1, r.length ≤ 3 ∧ ∀ x ∈ r, gd x := g
    show sq gd (n + 1 + 1) (adjV n m).1
    unfold adjV at h2 g ⊢
    split
    · rename_i hall
      rw [if_pos hall] at g
      refine ⟨by simp, fun r hr => ⟨?_, (g r hr).2⟩⟩
      obtain ⟨i, hi, rfl⟩ := List.mem_map.1 hr
      have hs := List.all_eq_true.1 hall i hi
      unfold adjRow at hs ⊢
      split at hs
      · rename_i ha
        rw [if_pos ha]
        simp [adjT]
      · cases hs
    · rename_i hall
      rw [if_neg hall] at h2
      cases h2
def invO (n : Nat) (m : List Pt) (p : Nat) : Option (List Pt) := match detO n m with
  | none => none
  | some d => if (adW n m).2 then (if d.1 = 0 then none else allO (rwO d p) [] (adW n m).1) else none
theorem invV_oL {n p : Nat} {m : List Pt} : invV n m p = oL (invO n m p) := by
  unfold invO invV
  cases detO n m with
  | none => rfl
  | some d =>
    simp only
    cases (adW n m).2 with
    | false => rfl
    | true =>
      simp only [if_true]
      by_cases hz : d.1 = 0
      · rw [if_pos hz, if_pos hz]; rfl
      · rw [if_neg hz, if_neg hz]
theorem invO_sq {n p : Nat} {m Y : List Pt} (hn : n ≤ 2) (h : sq gd (n + 1) m) (hY : invO n m p = some Y) : sq gd (n + 1) Y := by
  unfold invO at hY
  split at hY
  · cases hY
  · split at hY
    · rename_i h2
      split at hY
      · cases hY
      · obtain ⟨a1, a2⟩ := adW_sq hn h h2
        refine ⟨by rw [allO_len hY]; exact a1, fun r hr => ?_⟩
        obtain ⟨x, hx, hg⟩ := allO_mem hY r hr
        refine ⟨by rw [allO_len hg]; exact (a2 x hx).1, fun y hy => ?_⟩
        obtain ⟨i, _, hi⟩ := allO_mem hg y hy
        unfold dvO at hi
        split at hi
        · cases hi
          exact mkD_gd _ _
        · cases hi
    · cases hY
theorem tab_of_sq {α : Type} {g : α → Prop} [DecidablePred g] {n : Nat} {m : List (List α)} (hn : n ≤ 2) (h : sq g (n + 1) m) : tab g m = true := by
  unfold tab
  simp only [Bool.and_eq_true, decide_eq_true_eq, List.all_eq_true]
  refine ⟨by rw [h.1]; omega, fun r hr => ⟨by rw [(h.2 r hr).1, h.1], (h.2 r hr).2⟩⟩

def jyO (sides : List Iv) (s : List (List Tm)) : Option (List (List Iv) × List Pt) := (jaO sides s).bind fun J => (miO J).bind fun M => (invO (sides.length - 1) M 8).map fun Y => (J, Y)
theorem jyO_ok {s : List (List Tm)} {m : Nat} {lo hi : List Int} (h : NwOk s m lo hi) {J : List (List Iv)} {Y : List Pt} (hq : jyO (sidesB m lo hi) s = some (J, Y)) : sq ivGd (lo.length - 1 + 1) J ∧ sq gd (lo.length - 1 + 1) Y := by
  have hn := h.n1
  have hsl := sidesB_len h
  have e : lo.length - 1 + 1 = lo.length := by omega
  unfold jyO at hq
  cases hj : jaO (sidesB m lo hi) s with
  | none => rw [hj] at hq; cases hq
  | some J' =>
    rw [hj] at hq
    cases hM : miO J' with
    | none => simp only [Option.bind_some, hM] at hq; cases hq
    | some M =>
      simp only [Option.bind_some, hM] at hq
      cases hY : invO ((sidesB m lo hi).length - 1) M 8 with
      | none => rw [hY] at hq; cases hq
      | some Y' =>
        rw [hY] at hq
        simp only [Option.map_some, Option.some.injEq, Prod.mk.injEq] at hq
        obtain ⟨rfl, rfl⟩ := hq
        rw [hsl] at hY
        obtain ⟨j1, j2⟩ := jaO_ok h hj
        exact ⟨⟨by omega, fun r hr => ⟨by rw [(j2 r hr).1]; omega, (j2 r hr).2⟩⟩, invO_sq (by omega) (miO_sq h hj hM) hY⟩
theorem nwInverse_ev {s : List (List Tm)} {m : Nat} {lo hi : List Int} (h : NwOk s m lo hi) : ∃ r, Evt (fun k _ => spec_nwInverse k s ((m : Int), lo, hi)) r ∧ match jyO (sidesB m lo hi) s with | some q => r = (q.1, q.2, true) | none => r.2.2 = false := by
  have hn := h.n1
  have hsl := sidesB_len h
  have hja := vaJacobian_ev h
  unfold jyO
  cases hj : jaO (sidesB m lo hi) s with
  | none =>
    rw [hj] at hja
    refine ⟨([], [], false), Evt.eq (f := fun k q => _) ?_ (fun k q => by rw [spec_nwInverse]), rfl⟩
    exact Evt.bind hja (Evt.ctrue rfl .pure)
  | some J =>
    rw [hj] at hja
    obtain ⟨hJ, hr⟩ := jaO_ok h hj
    have hmid := nwMiddle_ev (J := J) (by omega) (fun r h => ⟨by have := (hr r h).1; omega, (hr r h).2⟩)
    simp only [Option.bind_some]
    cases hM : miO J with
    | none =>
      rw [hM] at hmid
      refine ⟨([], [], false), Evt.eq (f := fun k q => _) ?_ (fun k q => by rw [spec_nwInverse]), rfl⟩
      exact Evt.bind hja (Evt.cfalse rfl (Evt.bind hmid (Evt.ctrue rfl .pure)))
    | some M =>
      rw [hM] at hmid
      have hinv := mxInverse_ev (p := 8) (show lo.length - 1 ≤ 2 by omega) (miO_sq h hj hM) (by omega)
      rw [invV_oL] at hinv
      simp only [Option.bind_some, hsl]
      refine ⟨(J, (oL (invO (lo.length - 1) M 8)).1, (oL (invO (lo.length - 1) M 8)).2), Evt.eq (f := fun k q => _) ?_ (fun k q => by rw [spec_nwInverse]), ?_⟩
      · exact Evt.bind hja (Evt.cfalse rfl (Evt.bind hmid (Evt.cfalse rfl (Evt.bind hinv .pure))))
      · cases invO (lo.length - 1) M 8 <;> rfl
theorem inverseJ_ev {s : List (List Tm)} {m : Nat} {lo hi : List Int} (h : NwOk s m lo hi) : ∃ r, Evt (fun k _ => impl_inverseJacobian k s ((m : Int), lo, hi)) r ∧ match jyO (sidesB m lo hi) s with | some q => r = (q.2, true) | none => r.2 = false := by
  have hn := h.n1
  have hsl := sidesB_len h
  have hij := inverseJacobian_ev h
  refine ⟨_, hij, ?_⟩
  unfold jyO
  cases hj : jaO (sidesB m lo hi) s with
  | none => rfl
  | some J =>
    simp only [Option.bind_some]
    cases hM : miO J with
    | none => rfl
    | some M =>
      simp only [Option.bind_some, hsl, invV_oL]
      cases invO (lo.length - 1) M 8 <;> rfl
end Go.Ev.G

namespace Go.Ev.G
open Go Go.Ev
set_option maxRecDepth 100000

def unI (i k : Nat) : Iv := if i = k then ((1, 0), 1, 0) else zI
def rsE (i : Nat) (row : List Iv) (k : Nat) : Option Iv := subO (unI i k) (row.getD k zI)
def rsR (P : List (List Iv)) (i : Nat) : Option (List Iv) := allO (rsE i (P.getD i [])) zI (List.range (P.getD i []).length)
def rsO (P : List (List Iv)) : Option (List (List Iv)) := allO (rsR P) [] (List.range P.length)
theorem unI_iv (i k : Nat) : ivGd (unI i k) := by
  unfold unI
  split
  · exact ⟨by decide, by decide, by decide⟩
  · exact ⟨by decide, by decide, by decide⟩
theorem unI_eq (i k : Nat) : (((if i = k then (1 : Int) else 0), (0 : Int)), (if i = k then (1 : Int) else 0), (0 : Int)) = unI i k := by
  unfold unI
  split <;> rfl
theorem subO_iv {i k t : Iv} (hi : ivGd i) (hk : ivGd k) (h : subO i k = some t) : ivGd t := by
  unfold subO at h
  refine addO_iv hi ⟨gd_neg hk.2.1, gd_neg hk.1, ?_⟩ h
  have := hk.2.2
  show sv (ng k.2) ≤ sv (ng k.1)
  unfold ng
  rw [sv_neg, sv_neg]
  omega

theorem spec_rest_in {row : List Iv} {i : Nat} (hl : row.length ≤ 3) (hg : ∀ x ∈ row, gdI x) (x8 x25 : List (List Iv)) (x26 x27 : Int) : ∀ (r d : List Nat), d ++ r = List.range row.length →
    Evt (fun k n => spec_nwRest_L256410 k n x8 (i : Int) (d.map fun j => (rsE i row j).getD zI) x25 x26 x27 row (row.length : Int) d.length) (if (r.all fun j => (rsE i row j).isSome) then .inr (x8, (List.range row.length).map fun j => (rsE i row j).getD zI, x25, x26, x27, ()) else .inl ([], false)) := by
  intro r
  induction r with
  | nil =>
    intro d hd
    refine Evt.step (fun k n => spec_nwRest_L256410.eq_2 k _ _ _ _ _ _ _ _ _ n) ?_
    rw [List.append_nil] at hd
    have := congrArg List.length hd
    simp at this
    rw [hd]
    exact Evt.cfalse (decide_eq_false (by simp)) .pure
  | cons e r ih =>
    intro d hd
    obtain ⟨rfl, hlt⟩ := range_at hd
    have ih := ih (d ++ [d.length]) (by simpa using hd)
    rw [← len_next (r := r) (by rw [hd]; simp [lenB]; omega), List.map_append] at ih
    have hx : gdI (row.getD d.length zI) := hg _ (getI_mem hlt)
    have hs := ivSub_ev (i := unI i d.length) (k' := row.getD d.length zI) ⟨(unI_iv _ _).1, (unI_iv _ _).2.1⟩ hx
    refine Evt.step (fun k n => spec_nwRest_L256410.eq_2 k _ _ _ _ _ _ _ _ _ n) (Evt.ctrue (decide_eq_true (by omega)) (Evt.ctrue mid_ge (Evt.ctrue (decide_eq_true (by omega)) ?_)))
    refine Evt.inr (y := (x8, (i : Int), d.map (fun j => (rsE i row j).getD zI), row.getD (Int.toNat (d.length : Int)) ((0, 0), 0, 0), (if i = d.length then (1 : Int) else 0), x25, x26, x27, row, (row.length : Int), (d.length : Int), ())) (Evt.const ?_) ?_
    · by_cases h : i = d.length
      · subst h; simp
      · have h1 : ((i : Int) == (d.length : Int)) = false := by simp; omega
        rw [h1, if_neg h]
        rfl
    · simp only
      have e1 : Int.toNat (d.length : Int) = d.length := by omega
      rw [e1]
      refine Evt.bind (.const rfl) (Evt.bind (.const rfl) ?_)
      rw [unI_eq]
      refine Evt.bind hs ?_
      have e2 : rsE i row d.length = subO (unI i d.length) (row.getD d.length zI) := rfl
      cases ho : subO (unI i d.length) (row.getD d.length zI) with
      | none =>
        rw [ho] at e2
        simp only [List.all_cons, e2, Option.isSome_none, Bool.false_and]
        exact Evt.ctrue rfl .pure
      | some v =>
        rw [ho] at e2
        simp only [List.map_cons, List.map_nil, e2] at ih
        simp only [List.all_cons, e2, Option.isSome_some, Bool.true_and]
        exact Evt.cfalse rfl (Evt.ctrue (decide_eq_true (by simp; omega)) ih)

theorem getR_mem {P : List (List Iv)} {i : Nat} (h : i < P.length) : P.getD i [] ∈ P := by
  rw [List.getD_eq_getElem?_getD, List.getElem?_eq_getElem h]
  exact List.getElem_mem h
theorem spec_rest_ev {P : List (List Iv)} (hP : P.length ≤ 3) (hr : ∀ r ∈ P, r.length ≤ 3 ∧ ∀ x ∈ r, gdI x) : ∀ (r d : List Nat), d ++ r = List.range P.length →
    Evt (fun k n => spec_nwRest_L250 k n (d.map fun i => (rsR P i).getD []) P (P.length : Int) d.length) (if (r.all fun i => (rsR P i).isSome) then .inr ((List.range P.length).map fun i => (rsR P i).getD [], ()) else .inl ([], false)) := by
  intro r
  induction r with
  | nil =>
    intro d hd
    refine Evt.step (fun k n => spec_nwRest_L250.eq_2 k _ _ _ _ n) ?_
    rw [List.append_nil] at hd
    have := congrArg List.length hd
    simp at this
    rw [hd]
    exact Evt.cfalse (decide_eq_false (by simp)) .pure
  | cons e r ih =>
    intro d hd
    obtain ⟨rfl, hlt⟩ := range_at hd
    have ih := ih (d ++ [d.length]) (by simpa using hd)
    rw [← len_next (r := r) (by rw [hd]; simp [lenB]; omega), List.map_append] at ih
    obtain ⟨h1, h2⟩ := hr _ (getR_mem hlt)
    have hi := spec_rest_in (i := d.length) h1 h2 (d.map fun i => (rsR P i).getD []) P (P.length : Int) (d.length : Int) (List.range (P.getD d.length []).length) [] rfl
    simp only [List.map_nil, List.length_nil] at hi
    refine Evt.step (fun k n => spec_nwRest_L250.eq_2 k _ _ _ _ n) (Evt.ctrue (decide_eq_true (by omega)) (Evt.ctrue mid_ge (Evt.ctrue (decide_eq_true (by omega)) ?_)))
    have e1 : Int.toNat (d.length : Int) = d.length := by omega
    rw [e1]
    have e2 : rsR P d.length = allO (rsE d.length (P.getD d.length [])) zI (List.range (P.getD d.length []).length) := rfl
    unfold allO at e2
    cases ha : (List.range (P.getD d.length []).length).all fun j => (rsE d.length (P.getD d.length []) j).isSome with
    | false =>
      rw [ha] at hi e2
      simp only [List.all_cons, e2, Bool.false_eq_true, if_false, Option.isSome_none, Bool.false_and]
      exact Evt.inl (Evt.diag hi) .pure
    | true =>
      rw [ha] at hi e2
      simp only [if_true] at e2
      simp only [List.map_cons, List.map_nil, e2] at ih
      simp only [List.all_cons, e2, Option.isSome_some, Bool.true_and]
      exact Evt.inr (Evt.diag hi) (Evt.ctrue (decide_eq_true (by simp; omega)) ih)
theorem allO_dec {α β : Type} {g : α → Option β} {z : β} {l : List α} : (if (l.all fun x => (g x).isSome) then (l.map fun x => (g x).getD z, true) else ([], false)) = oL (allO g z l) := by
  unfold allO
  split <;> rfl

theorem nwRest_ev {n : Nat} {J : List (List Iv)} {Y : List Pt} (hn : n ≤ 2) (hJ : sq ivGd (n + 1) J) (hY : sq gd (n + 1) Y) (hP : ∀ P, allO (rowI J) [] Y = some P → P.length ≤ 3 ∧ ∀ r ∈ P, r.length ≤ 3 ∧ ∀ x ∈ r, gdI x) :
    Evt (fun k _ => spec_nwRest k J Y) (oL ((allO (rowI J) [] Y).bind rsO)) := by
  refine Evt.eq (f := fun k q => _) ?_ (fun k q => by rw [spec_nwRest])
  have h1 := mxTimesIn_ev (a := Y) (m := J) (by rw [hY.1]; omega) (fun r hr => by rw [(hY.2 r hr).1]; simp only [lenB]; omega) (by rw [hJ.1]; omega) (fun r hr => by rw [(hJ.2 r hr).1]; simp only [lenB]; omega) (tab_of_sq hn hY) (tab_of_sq hn hJ) (by rw [hY.1, hJ.1])
  rw [allO_dec] at h1
  refine Evt.bind h1 ?_
  cases hp : allO (rowI J) [] Y with
  | none => exact Evt.ctrue rfl .pure
  | some P =>
    obtain ⟨p1, p2⟩ := hP P hp
    have h0 := spec_rest_ev p1 p2 (List.range P.length) [] rfl
    simp only [List.map_nil, List.length_nil] at h0
    refine Evt.cfalse rfl ?_
    simp only [Option.bind_some, oL]
    unfold rsO allO
    cases ha : (List.range P.length).all fun i => (rsR P i).isSome with
    | true => rw [ha] at h0; exact Evt.inr (Evt.diag h0) .pure
    | false => rw [ha] at h0; exact Evt.inl (Evt.diag h0) .pure

theorem set_same {X : List (List Iv)} {i : Nat} (h : i < X.length) : X.set i (X.getD i []) = X := by
  rw [List.getD_eq_getElem?_getD, List.getElem?_eq_getElem h]
  simp
theorem impl_rest_in {row : List Iv} {i : Nat} (hl : row.length ≤ 3) (hg : ∀ x ∈ row, gdI x) (x46 x47 : Int) (b0 : Bool) : ∀ (r d : List Nat) (c : Bool) (o : List Iv) (X : List (List Iv)), d ++ r = List.range row.length → i < X.length → X.getD i [] = o ++ row.drop d.length → Flag (rsE i row) zI b0 d c o →
    ∃ c' o', Flag (rsE i row) zI b0 (List.range row.length) c' o' ∧ Evt (fun k n => impl_remainderTable_L522854 k n () i X c (i : Int) x46 x47 (row.length : Int) d.length) (.inr ((), X.set i o', c', x46, x47, ())) := by
  intro r
  induction r with
  | nil =>
    intro d c o X hd hi hX hf
    rw [List.append_nil] at hd
    subst hd
    refine ⟨c, o, hf, Evt.step (fun k n => impl_remainderTable_L522854.eq_2 k _ _ _ _ _ _ _ _ _ n) ?_⟩
    simp only [List.length_range, List.drop_length, List.append_nil] at hX
    rw [← hX, set_same hi]
    exact Evt.cfalse (decide_eq_false (by simp)) .pure
  | cons e r ih =>
    intro d c o X hd hi hX hf
    obtain ⟨rfl, hlt⟩ := range_at hd
    have hx : gdI (row.getD d.length zI) := hg _ (getI_mem hlt)
    obtain ⟨v, gv, hv, hev⟩ := subI_ev (b := c) (i := unI i d.length) (k' := row.getD d.length zI) ⟨(unI_iv _ _).1, (unI_iv _ _).2.1⟩ hx
    have hst := Flag.step (e := d.length) (v := v) hf hv
    have hol := hf.1
    have edrop : row.drop d.length = row.getD d.length zI :: row.drop (d.length + 1) := by
      rw [List.getD_eq_getElem?_getD, List.getElem?_eq_getElem hlt]
      exact List.drop_eq_getElem_cons hlt
    have hset : (X.getD i []).set d.length v = (o ++ [v]) ++ row.drop (d.length + 1) := by
      rw [hX, edrop, ← hol]
      simp
    obtain ⟨c', o', q1, q2⟩ := ih (d ++ [d.length]) _ _ (X.set i ((X.getD i []).set d.length v)) (by simpa using hd) (by simp; exact hi) (by
      rw [hset]
      simp [List.getD_eq_getElem?_getD, hi]) hst
    refine ⟨c', o', q1, Evt.step (fun k n => impl_remainderTable_L522854.eq_2 k _ _ _ _ _ _ _ _ _ n) ?_⟩
    rw [← len_next (r := r) (by rw [hd]; simp [lenB]; omega), List.set_set] at q2
    have hXl : (X.getD i []).length = row.length := by rw [hX]; simp; omega
    have e1 : Int.toNat (d.length : Int) = d.length := by omega
    have e3 : (X.getD i []).getD d.length ((0, 0), 0, 0) = row.getD d.length zI := by
      rw [hX, edrop, ← hol]
      simp [List.getD_eq_getElem?_getD]
    refine Evt.ctrue (decide_eq_true (by omega)) (Evt.inr (y := ((), i, X, c, (i : Int), (d.length : Int), unI i d.length, x46, x47, (row.length : Int), (d.length : Int), ())) (Evt.const ?_) ?_)
    · by_cases h : i = d.length
      · subst h
        simp [unI, impl_integer, impl_single]
      · have h1 : ((i : Int) == (d.length : Int)) = false := by simp; omega
        rw [h1]
        unfold unI
        rw [if_neg h]
        rfl
    · simp only
      rw [e1, e3]
      exact Evt.ctrue mid_ge (Evt.ctrue (decide_eq_true (by omega)) (Evt.bind hev (Evt.ctrue mid_ge (Evt.ctrue (decide_eq_true (by omega)) q2))))
theorem impl_rest_ev {P : List (List Iv)} (hP : P.length ≤ 3) (hr : ∀ r ∈ P, r.length ≤ 3 ∧ ∀ x ∈ r, gdI x) : ∀ (r d : List Nat) (c : Bool) (o : List (List Iv)), d ++ r = List.range P.length → Flag (rsR P) [] true d c o →
    ∃ c' o', Flag (rsR P) [] true (List.range P.length) c' o' ∧ Evt (fun k n => impl_remainderTable_L2042 k n () (o ++ P.drop d.length) c (P.length : Int) d.length) (.inr (o', c', ())) := by
  intro r
  induction r with
  | nil =>
    intro d c o hd hf
    rw [List.append_nil] at hd
    subst hd
    refine ⟨c, o, hf, Evt.step (fun k n => impl_remainderTable_L2042.eq_2 k _ _ _ _ _ n) ?_⟩
    simp only [List.length_range, List.drop_length, List.append_nil]
    exact Evt.cfalse (decide_eq_false (by simp)) .pure
  | cons e r ih =>
    intro d c o hd hf
    obtain ⟨rfl, hlt⟩ := range_at hd
    have hol := hf.1
    obtain ⟨h1, h2⟩ := hr _ (getR_mem hlt)
    have edrop : P.drop d.length = P.getD d.length [] :: P.drop (d.length + 1) := by
      rw [List.getD_eq_getElem?_getD, List.getElem?_eq_getElem hlt]
      exact List.drop_eq_getElem_cons hlt
    have hXl : (o ++ P.drop d.length).length = P.length := by simp; omega
    have hX : (o ++ P.drop d.length).getD d.length [] = P.getD d.length [] := by
      rw [edrop, ← hol]
      simp [List.getD_eq_getElem?_getD]
    obtain ⟨c1, o1, ⟨f1, f2, f3⟩, q0⟩ := impl_rest_in (i := d.length) h1 h2 (P.length : Int) (d.length : Int) c (List.range (P.getD d.length []).length) [] c [] (o ++ P.drop d.length) rfl (by omega) (by rw [hX]; rfl) Flag.nil
    have hset : (o ++ P.drop d.length).set d.length o1 = (o ++ [o1]) ++ P.drop (d.length + 1) := by
      rw [edrop, ← hol]
      simp
    rw [hset] at q0
    have e2 : rsR P d.length = allO (rsE d.length (P.getD d.length [])) zI (List.range (P.getD d.length []).length) := rfl
    have hst := Flag.step (e := d.length) (v := o1) hf (by
      intro hc hs
      subst hc
      rw [e2] at hs ⊢
      unfold allO at hs ⊢
      split at hs
      · rename_i hall
        rw [if_pos hall, ← f3 (by rw [f2, hall]; rfl)]
      · cases hs)
    have e3 : (c && (rsR P d.length).isSome) = c1 := by
      rw [f2, e2]
      unfold allO
      cases (List.range (P.getD d.length []).length).all fun j => (rsE d.length (P.getD d.length []) j).isSome <;> rfl
    rw [e3] at hst
    obtain ⟨c', o', q1, q2⟩ := ih (d ++ [d.length]) c1 (o ++ [o1]) (by simpa using hd) hst
    refine ⟨c', o', q1, Evt.step (fun k n => impl_remainderTable_L2042.eq_2 k _ _ _ _ _ n) ?_⟩
    rw [← len_next (r := r) (by rw [hd]; simp [lenB]; omega)] at q2
    have e1 : Int.toNat (d.length : Int) = d.length := by omega
    have e4 : (d ++ [d.length]).length = d.length + 1 := by simp
    rw [e4] at q2
    refine Evt.ctrue (decide_eq_true (by omega)) (Evt.ctrue mid_ge (Evt.ctrue (decide_eq_true (by omega)) ?_))
    rw [e1, hX]
    simp only [List.length_nil] at q0
    exact Evt.inr (Evt.diag q0) q2
end Go.Ev.G

