/- What the plain functions of the law compute, for all inputs within the sizes that the theorems name. -/
import Derived.Test.YtiglamoomghakaaGreatPIsContracting1
import Derived.Test.YtiglamoomghakaaGreatAIsContracting2
set_option linter.unusedVariables false
namespace Go.Ev.G
open Go Go.Ev
set_option maxRecDepth 100000

theorem stT_iv {s y t : Iv} {x : Int × Int} (hs : ivGd s) (h : stT (some s) x y = some t) : ivGd t := by
  rw [stT_some] at h
  cases hm : mulO (x, x) y with
  | none => rw [hm] at h; cases h
  | some p =>
    rw [hm] at h
    exact addO_iv hs (mulO_iv hm) h
theorem foldT_iv : ∀ (xs : Pt) (ys : List Iv) (s t : Iv), ivGd s → foldT (some s) xs ys = some t → ivGd t
  | [], ys, s, t, hs, h => by
    have : foldT (some s) [] ys = some s := by cases ys <;> rfl
    rw [this] at h
    cases h
    exact hs
  | x :: xs, [], s, t, hs, h => by
    cases h
    exact hs
  | x :: xs, y :: ys, s, t, hs, h => by
    rw [foldT] at h
    cases ho : stT (some s) x y with
    | none => rw [ho, foldT_none] at h; cases h
    | some u =>
      rw [ho] at h
      exact foldT_iv xs ys u t (stT_iv hs ho) h
theorem prod_ok {n : Nat} {J : List (List Iv)} {Y : List Pt} {P : List (List Iv)} (hJ : sq ivGd (n + 1) J) (hY : sq gd (n + 1) Y) (h : allO (rowI J) [] Y = some P) : sq ivGd (n + 1) P := by
  refine ⟨by rw [allO_len h, hY.1], fun r hr => ?_⟩
  obtain ⟨x, hx, hg⟩ := allO_mem h r hr
  have hg : allO (inI x) zI (colsI J) = some r := hg
  refine ⟨by rw [allO_len hg, colsI_len, hJ.1], fun y hy => ?_⟩
  obtain ⟨c, hc, hi⟩ := allO_mem hg y hy
  exact foldT_iv x c zI y (unI_iv 0 1) hi
theorem rsO_ok {n : Nat} {P R : List (List Iv)} (hP : sq ivGd (n + 1) P) (h : rsO P = some R) : sq ivGd (n + 1) R := by
  refine ⟨by rw [allO_len h, List.length_range, hP.1], fun r hr => ?_⟩
  obtain ⟨i, hi, hg⟩ := allO_mem h r hr
  have hg : allO (rsE i (P.getD i [])) zI (List.range (P.getD i []).length) = some r := hg
  have hil := List.mem_range.1 hi
  obtain ⟨h1, h2⟩ := hP.2 _ (getR_mem hil)
  refine ⟨by rw [allO_len hg, List.length_range, h1], fun y hy => ?_⟩
  obtain ⟨k, hk, hs⟩ := allO_mem hg y hy
  have hkl := List.mem_range.1 hk
  exact subO_iv (unI_iv _ _) (h2 _ (getI_mem hkl)) hs
def rtO (sides : List Iv) (s : List (List Tm)) : Option (List (List Iv)) := (jyO sides s).bind fun q => (allO (rowI q.1) [] q.2).bind rsO
theorem rtO_ok {s : List (List Tm)} {m : Nat} {lo hi : List Int} (h : NwOk s m lo hi) {R : List (List Iv)} (hR : rtO (sidesB m lo hi) s = some R) : sq ivGd (lo.length - 1 + 1) R := by
  unfold rtO at hR
  cases hq : jyO (sidesB m lo hi) s with
  | none => rw [hq] at hR; cases hR
  | some q =>
    obtain ⟨J, Y⟩ := q
    rw [hq] at hR
    simp only [Option.bind_some] at hR
    obtain ⟨g1, g2⟩ := jyO_ok h hq
    cases hp : allO (rowI J) [] Y with
    | none => rw [hp] at hR; cases hR
    | some P =>
      rw [hp] at hR
      exact rsO_ok (prod_ok g1 g2 hp) hR
theorem jyO_ja {sides : List Iv} {s : List (List Tm)} {J : List (List Iv)} {Y : List Pt} (h : jyO sides s = some (J, Y)) : jaO sides s = some J := by
  unfold jyO at h
  cases hj : jaO sides s with
  | none => rw [hj] at h; cases h
  | some J' =>
    rw [hj] at h
    simp only [Option.bind_some] at h
    cases hM : miO J' with
    | none => rw [hM] at h; cases h
    | some M =>
      rw [hM] at h
      simp only [Option.bind_some] at h
      cases hY : invO (sides.length - 1) M 8 with
      | none => rw [hY] at h; cases h
      | some Y' => rw [hY] at h; cases h; rfl
theorem small_sq {n : Nat} {P : List (List Iv)} (hn : n ≤ 2) (h : sq ivGd (n + 1) P) : P.length ≤ 3 ∧ ∀ r ∈ P, r.length ≤ 3 ∧ ∀ x ∈ r, gdI x :=
  ⟨by rw [h.1]; omega, fun r hr => ⟨by rw [(h.2 r hr).1]; omega, fun x hx => ((h.2 r hr).2 x hx).gdI⟩⟩

theorem impl_remainderTable_ev {s : List (List Tm)} {m : Nat} {lo hi : List Int} (h : NwOk s m lo hi) : Evt (fun k _ => impl_remainderTable k s ((m : Int), lo, hi)) (oL (rtO (sidesB m lo hi) s)) := by
  have hn := h.n1
  refine Evt.eq (f := fun k q => _) ?_ (fun k q => by rw [impl_remainderTable])
  obtain ⟨r, hr, hr2⟩ := inverseJ_ev h
  have hja := jacobianOver_ev h
  refine Evt.bind hr (Evt.bind hja ?_)
  unfold rtO
  cases hq : jyO (sidesB m lo hi) s with
  | none =>
    rw [hq] at hr2
    simp only at hr2
    rw [hr2]
    exact Evt.ctrue rfl .pure
  | some q =>
    obtain ⟨J, Y⟩ := q
    rw [hq] at hr2
    simp only at hr2
    subst hr2
    rw [jyO_ja hq]
    obtain ⟨g1, g2⟩ := jyO_ok h hq
    have h1 := timesIn_ev (a := Y) (m := J) (by rw [g2.1]; simp only [lenB]; omega) (fun r hr => by rw [(g2.2 r hr).1]; simp only [lenB]; omega) (by rw [g1.1]; simp only [lenB]; omega) (fun r hr => by rw [(g1.2 r hr).1]; simp only [lenB]; omega) (tab_of_sq (by omega) g2) (tab_of_sq (by omega) g1) (by rw [g2.1, g1.1])
    rw [allO_dec] at h1
    refine Evt.cfalse rfl (Evt.cfalse rfl (Evt.bind h1 ?_))
    simp only [Option.bind_some]
    cases hp : allO (rowI J) [] Y with
    | none => exact Evt.ctrue rfl .pure
    | some P =>
      obtain ⟨p1, p2⟩ := small_sq (by omega) (prod_ok g1 g2 hp)
      obtain ⟨c', o', ⟨f1, f2, f3⟩, q2⟩ := impl_rest_ev p1 p2 (List.range P.length) [] true [] rfl Flag.nil
      simp only [List.nil_append, List.length_nil, List.drop_zero] at q2
      rw [Bool.true_and] at f2
      refine Evt.cfalse rfl (Evt.inr (Evt.diag q2) ?_)
      simp only [Option.bind_some]
      unfold rsO allO
      rw [← f2]
      cases c' with
      | true => rw [← f3 rfl]; exact Evt.cfalse rfl .pure
      | false => exact Evt.ctrue rfl .pure
def rtV (s : List (List Tm)) (b : Bx) : List (List Iv) × Bool := if nwV s b then oL (rtO (sidesB b.1.toNat b.2.1 b.2.2) s) else ([], false)
theorem spec_remainder_ev {s : List (List Tm)} {b : Bx} (hb : s.length < lenB) (hm : ∀ r ∈ s, r.length < lenB) (hx : b.2.1.length < lenB) : Evt (fun k _ => spec_RemainderTable k s b) (rtV s b) := by
  refine Evt.eq (f := fun k q => _) ?_ (fun k q => by rw [spec_RemainderTable])
  refine Evt.bind (nwGood_ev hb hm hx) ?_
  unfold rtV
  cases hv : nwV s b with
  | false => exact Evt.ctrue rfl .pure
  | true =>
    obtain ⟨m, hbm, hN⟩ := nwV_form hv
    have e1 : b.1.toNat = m := by rw [hbm]; exact Int.toNat_natCast m
    have hn := hN.n1
    refine Evt.cfalse rfl ?_
    rw [if_pos rfl, e1]
    obtain ⟨r, hr, hr2⟩ := nwInverse_ev hN
    rw [← hbm] at hr
    refine Evt.bind hr ?_
    unfold rtO
    cases hq : jyO (sidesB m b.2.1 b.2.2) s with
    | none =>
      rw [hq] at hr2
      simp only at hr2
      rw [hr2]
      exact Evt.ctrue rfl .pure
    | some q =>
      obtain ⟨J, Y⟩ := q
      rw [hq] at hr2
      simp only at hr2
      subst hr2
      obtain ⟨g1, g2⟩ := jyO_ok hN hq
      exact Evt.cfalse rfl (Evt.bind (nwRest_ev (by omega) g1 g2 (fun P hp => small_sq (by omega) (prod_ok g1 g2 hp))) .pure)
end Go.Ev.G

namespace Go.Ev.G
open Go Go.Ev
set_option maxRecDepth 100000

def icV (s : List (List Tm)) (b : Bx) : Bool × Bool := if (rtV s b).2 then shV (rtV s b).1 else (false, false)
theorem rtV_sq {s : List (List Tm)} {b : Bx} (h : (rtV s b).2 = true) : ∃ n, n ≤ 2 ∧ sq ivGd (n + 1) (rtV s b).1 := by
  unfold rtV at h ⊢
  split at h
  · rename_i hv
    rw [if_pos hv]
    obtain ⟨m, hbm, hN⟩ := nwV_form hv
    have e1 : b.1.toNat = m := by rw [hbm]; exact Int.toNat_natCast m
    have hn := hN.n1
    rw [e1] at h ⊢
    cases hR : rtO (sidesB m b.2.1 b.2.2) s with
    | none => rw [hR] at h; cases h
    | some R => exact ⟨_, by omega, rtO_ok hN hR⟩
  · cases h
theorem spec_contracting_ev {s : List (List Tm)} {b : Bx} (hb : s.length < lenB) (hm : ∀ r ∈ s, r.length < lenB) (hx : b.2.1.length < lenB) : Evt (fun k _ => spec_IsContracting k s b) (icV s b) := by
  refine Evt.eq (f := fun k q => _) ?_ (fun k q => by rw [spec_IsContracting])
  refine Evt.bind (spec_remainder_ev hb hm hx) ?_
  unfold icV
  cases h2 : (rtV s b).2 with
  | false => exact Evt.ctrue rfl .pure
  | true =>
    obtain ⟨n, hn, hsq⟩ := rtV_sq h2
    refine Evt.cfalse rfl (Evt.bind (mxShrinking_ev (by rw [hsq.1]; omega) (fun r hr => by rw [(hsq.2 r hr).1]; simp only [lenB]; omega) (fun r hr => (hsq.2 r hr).2)) ?_)
    exact .pure
theorem impl_contracting_ev {s : List (List Tm)} {b : Bx} (hb : s.length < lenB) (hm : ∀ r ∈ s, r.length < lenB) (hx : b.2.1.length < lenB) : Evt (fun k _ => impl_IsContracting k s b) (icV s b) := by
  refine Evt.eq (f := fun k q => _) ?_ (fun k q => by rw [impl_IsContracting])
  refine Evt.bind (newtonFits_ev hb hm hx) ?_
  have hr : nwV s b = true → Evt (fun k _ => impl_remainderTable k s b) (rtV s b) := by
    intro hv
    obtain ⟨m, hbm, hN⟩ := nwV_form hv
    have e1 : b.1.toNat = m := by rw [hbm]; exact Int.toNat_natCast m
    have hrt := impl_remainderTable_ev hN
    rw [← hbm] at hrt
    unfold rtV
    rw [if_pos hv, e1]
    exact hrt
  unfold icV
  cases hv : nwV s b with
  | false =>
    have : (rtV s b).2 = false := by unfold rtV; rw [hv]; rfl
    rw [this]
    exact Evt.ctrue rfl .pure
  | true =>
    refine Evt.cfalse rfl (Evt.bind (hr hv) ?_)
    cases h2 : (rtV s b).2 with
    | false => exact Evt.ctrue rfl .pure
    | true =>
      obtain ⟨n, hn, hsq⟩ := rtV_sq h2
      exact Evt.cfalse rfl (Evt.bind (impl_isShrinking_ev (tab_of_sq hn hsq)) .pure)
theorem isContracting_row (a : List (List Tm)) (b : Bx) (h : WfT (.sl (.sl tTerm)) a) (hb : WfT tBox b) : ∃ k, laws_FnExactIsContracting k a b = some true :=
  Evt.get (Evt.eq (frame_sb (S := fun k a b => spec_IsContracting k a b) (I := fun k a b => impl_IsContracting k a b) (C := fun _ r5 r8 x => (bif (!(r8.1 == r5.1)) then some false else (bif (!(r8.2 == r5.2)) then some false else x))) (v := icV a b) h.1 (fun x hx => (h.2 x hx).1) hb.2.1.1 hb.2.2.1
    (fun hf => Evt.cfalse (by simp) (Evt.cfalse (by simp) hf)) (fun h1 h2 h3 => spec_contracting_ev (by simp only [lenB]; omega) h2 h3) (fun h1 h2 h3 => impl_contracting_ev h1 h2 h3)) (fun k _ => rfl))
end Go.Ev.G

