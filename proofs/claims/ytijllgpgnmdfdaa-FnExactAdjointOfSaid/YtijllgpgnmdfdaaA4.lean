/- What the plain functions of the laws compute, for all inputs within the sizes that the theorems name. -/
import Derived.Test.YtijllgpgnmdfdaaA2
import Derived.Test.YtijllgpgnmdfdaaP2
set_option linter.unusedVariables false
namespace Go.Ev.G
open Go Go.Ev
set_option maxRecDepth 100000

/-! Products. -/
def B32 : Nat := 4294967296
theorem andw32 {a : Nat} (ha : a < B64) : (BitVec.toNat (BitVec.ofInt (IntKind.bits .u64) (a : Int) &&& BitVec.ofInt (IntKind.bits .u64) 4294967295) : Int) = ((a % B32 : Nat) : Int) := by
  have h1 : BitVec.ofInt (IntKind.bits .u64) (a : Int) = BitVec.ofNat 64 a := by rfl
  have h2 : BitVec.ofInt (IntKind.bits .u64) 4294967295 = BitVec.ofNat 64 4294967295 := by rfl
  rw [h1, h2]
  have : (BitVec.toNat (BitVec.ofNat 64 a &&& BitVec.ofNat 64 4294967295)) = a % B32 := by
    rw [BitVec.toNat_and, BitVec.toNat_ofNat, BitVec.toNat_ofNat]
    have e1 : a % 2 ^ 64 = a := Nat.mod_eq_of_lt (by simpa [B64] using ha)
    rw [e1]
    have e2 : 4294967295 % 2 ^ 64 = 2 ^ 32 - 1 := by decide
    rw [e2, Nat.and_two_pow_sub_one_eq_mod]
    rfl
  exact congrArg _ this
theorem fdiv32 (a : Nat) : Int.fdiv (a : Int) (2 ^ min (Int.toNat 32) (IntKind.bits .u64)) = ((a / B32 : Nat) : Int) := by
  have : min (Int.toNat 32) (IntKind.bits .u64) = 32 := by decide
  rw [this, fdiv_pow]
  rfl

theorem mul64_eq {a b : Nat} (ha : a ≤ 1099511627776) (hb : b ≤ 1099511627776) : math_bits_Mul64 a b = some (((a * b / B64 : Nat) : Int), ((a * b % B64 : Nat) : Int)) := by
  have la : a < B64 := by simp only [B64]; omega
  have lb : b < B64 := by simp only [B64]; omega
  unfold math_bits_Mul64
  rw [andw32 la, andw32 lb, fdiv32, fdiv32]
  obtain ⟨x1, x0, ea, hx0⟩ : ∃ x1 x0, a = B32 * x1 + x0 ∧ x0 < B32 := ⟨a / B32, a % B32, (Nat.div_add_mod a B32).symm, Nat.mod_lt _ (by decide)⟩
  obtain ⟨y1, y0, eb, hy0⟩ : ∃ y1 y0, b = B32 * y1 + y0 ∧ y0 < B32 := ⟨b / B32, b % B32, (Nat.div_add_mod b B32).symm, Nat.mod_lt _ (by decide)⟩
  have da : a / B32 = x1 := by rw [ea, Nat.mul_add_div (by decide), Nat.div_eq_of_lt hx0]; rfl
  have ma : a % B32 = x0 := by rw [ea, Nat.mul_add_mod, Nat.mod_eq_of_lt hx0]
  have db : b / B32 = y1 := by rw [eb, Nat.mul_add_div (by decide), Nat.div_eq_of_lt hy0]; rfl
  have mb : b % B32 = y0 := by rw [eb, Nat.mul_add_mod, Nat.mod_eq_of_lt hy0]
  rw [da, ma, db, mb]
  have lx1 : x1 ≤ 256 := by simp only [B32] at ea hx0; omega
  have ly1 : y1 ≤ 256 := by simp only [B32] at eb hy0; omega
  have p00 : x0 * y0 ≤ 4294967295 * 4294967295 := Nat.mul_le_mul (by simp only [B32] at hx0; omega) (by simp only [B32] at hy0; omega)
  have p01 : x0 * y1 ≤ 4294967295 * 256 := Nat.mul_le_mul (by simp only [B32] at hx0; omega) ly1
  have p10 : x1 * y0 ≤ 256 * 4294967295 := Nat.mul_le_mul lx1 (by simp only [B32] at hy0; omega)
  have p11 : x1 * y1 ≤ 256 * 256 := Nat.mul_le_mul lx1 ly1
  have full : a * b = B64 * (x1 * y1) + B32 * (x0 * y1 + x1 * y0) + x0 * y0 := by
    rw [ea, eb, show B64 = B32 * B32 from rfl]
    simp only [Nat.mul_add, Nat.add_mul]
    have e1 : B32 * x1 * (B32 * y1) = B32 * B32 * (x1 * y1) := by ac_rfl
    have e2 : x0 * (B32 * y1) = B32 * (x0 * y1) := by ac_rfl
    have e3 : B32 * x1 * y0 = B32 * (x1 * y0) := by ac_rfl
    rw [e1, e2, e3]; omega
  have w : ∀ n : Nat, n < B64 → IntKind.wrap .u64 (n : Int) = (n : Int) := fun n h => wu64 (by omega) (by simp only [B64] at h; omega)
  have m1 : ∀ x y : Nat, ((x : Int) * (y : Int)) = ((x * y : Nat) : Int) := fun x y => (Int.natCast_mul x y).symm
  have m2 : ∀ x y : Nat, ((x : Int) + (y : Int)) = ((x + y : Nat) : Int) := fun x y => (Int.natCast_add x y).symm
  rw [w x0 (by simp only [B64, B32] at hx0 ⊢; omega), w y0 (by simp only [B64, B32] at hy0 ⊢; omega)]
  simp only [m1]
  rw [w (x0 * y0) (by simp only [B64]; omega), w (x1 * y0) (by simp only [B64]; omega), w (x1 * y1) (by simp only [B64]; omega), w (x0 * y1) (by simp only [B64]; omega)]
  rw [fdiv32]
  simp only [m2]
  have c0 : x0 * y0 / B32 ≤ 4294967295 := by simp only [B32]; omega
  rw [w (x1 * y0 + x0 * y0 / B32) (by simp only [B64]; omega)]
  rw [andw32 (by simp only [B64]; omega), fdiv32]
  rw [w ((x1 * y0 + x0 * y0 / B32) % B32) (by simp only [B64, B32]; omega)]
  simp only [m2]
  rw [w ((x1 * y0 + x0 * y0 / B32) % B32 + x0 * y1) (by simp only [B64, B32]; omega), fdiv32]
  rw [w (x1 * y1 + (x1 * y0 + x0 * y0 / B32) / B32) (by simp only [B64, B32]; omega)]
  simp only [m2]
  rw [w _ (by simp only [B64, B32]; omega), wu64_mod]
  congr 2
  · congr 1
    rw [full]
    simp only [B64, B32]
    omega
end Go.Ev.G
namespace Go.Ev.G
open Go Go.Ev
set_option maxRecDepth 100000

def prodD (a b : Int × Int) : (Int × Int) × Bool := mkD (a.1 * b.1) (a.2.toNat + b.2.toNat)
theorem prodD_gd (a b : Int × Int) : gd (prodD a b).1 := mkD_gd _ _

theorem wV_mul (a b : Int) : wV (!(decide (a < 0) == decide (b < 0))) (a.natAbs * b.natAbs) = a * b := by
  unfold wV
  by_cases ha : a < 0 <;> by_cases hb : b < 0
  · simp only [decide_eq_true ha, decide_eq_true hb]
    rw [if_neg (by simp), Int.natCast_mul, show (a.natAbs : Int) = -a by omega, show (b.natAbs : Int) = -b by omega, Int.neg_mul_neg]
  · simp only [decide_eq_true ha, decide_eq_false hb]
    rw [if_pos (by simp), Int.natCast_mul, show (a.natAbs : Int) = -a by omega, show (b.natAbs : Int) = b by omega, Int.neg_mul, Int.neg_neg]
  · simp only [decide_eq_false ha, decide_eq_true hb]
    rw [if_pos (by simp), Int.natCast_mul, show (a.natAbs : Int) = a by omega, show (b.natAbs : Int) = -b by omega, Int.mul_neg, Int.neg_neg]
  · simp only [decide_eq_false ha, decide_eq_false hb]
    rw [if_neg (by simp), Int.natCast_mul, show (a.natAbs : Int) = a by omega, show (b.natAbs : Int) = b by omega]

theorem natAbs_bound {a : Int} (h1 : -1099511627776 ≤ a) (h2 : a ≤ 1099511627776) : a.natAbs ≤ 1099511627776 := by omega
theorem mul_bound {a b : Nat} (ha : a ≤ 1099511627776) (hb : b ≤ 1099511627776) : a * b < B64 * B64 := by
  have : a * b ≤ 1099511627776 * 1099511627776 := Nat.mul_le_mul ha hb
  simp only [B64]; omega

theorem productOf_ev {a b : Int × Int} (ha : gd a) (hb : gd b) : Evt (fun k _ => impl_productOf k a b) (prodD a b) := by
  refine Evt.eq (f := fun k q => _) ?_ (fun k q => by rw [impl_productOf])
  have a1 := ha.2.2
  have b1 := hb.2.2
  have na := natAbs_bound a1.1 a1.2.1
  have nb := natAbs_bound b1.1 b1.2.1
  have htw : impl_timesWide a.1 b.1 = some (wN (!(decide (a.1 < 0) == decide (b.1 < 0))) (a.1.natAbs * b.1.natAbs)) := by
    unfold impl_timesWide
    rw [size_eq (by omega) (by omega), Option.bind_some, size_eq (by omega) (by omega), Option.bind_some, mul64_eq na nb]
    rfl
  refine Evt.bind (.const htw) ?_
  have e : IntKind.wrap .i64 (a.2 + b.2) = ((a.2.toNat + b.2.toNat : Nat) : Int) := by
    have := ha.1; have := ha.2.1; have := hb.1; have := hb.2.1
    rw [w64 (by omega) (by omega)]; omega
  rw [e]
  have hf := fit_ev (neg := !(decide (a.1 < 0) == decide (b.1 < 0))) (M := a.1.natAbs * b.1.natAbs) (m := a.2.toNat + b.2.toNat) (mul_bound na nb) (by have := ha.2.1; have := hb.2.1; omega)
  rw [wV_mul] at hf
  exact Evt.bind hf .pure

theorem reckoner_product_ev {b : Bool} {s x : Int × Int} (hs : gd s) (hx : gd x) : Evt (fun k _ => impl_reckoner_product k b s x) (if b then prodD s x else ((0, 0), false)) := by
  refine Evt.eq (f := fun k q => _) ?_ (fun k q => by rw [impl_reckoner_product])
  refine Evt.bind (productOf_ev hs hx) (.const ?_)
  unfold impl_reckoner_keep
  cases b with
  | true =>
    cases h : (prodD s x).2 with
    | true => simp [h, Prod.ext_iff]
    | false =>
      have h3 : prodD s x = ((0, 0), false) := Prod.ext (mkD_false h) h
      rw [h3]; simp
  | false => rfl

/-- twos are taken off a number, as long as there are places -/
def stripM : Nat → Int → Int × Nat := strip
theorem mkD_strip_left : ∀ (p : Nat) (x y : Int), mkD (x * y) p = mkD ((strip p x).1 * y) (strip p x).2
  | 0, _, _ => rfl
  | p + 1, x, y => by
    unfold strip
    split
    · rename_i h
      rw [← mkD_strip_left p (x / 2) y]
      have e : x * y = 2 * (x / 2 * y) := by rw [← Int.mul_assoc, Int.mul_comm 2, Int.ediv_mul_cancel (Int.dvd_of_emod_eq_zero h)]
      unfold mkD
      have e2 : strip (p + 1) (x * y) = strip p (x / 2 * y) := by
        rw [e]
        conv => lhs; unfold strip
        rw [if_pos (by omega)]
        congr 1
        omega
      rw [e2]
    · rfl

theorem dyMul_loop1 {b z : Int × Int} : ∀ (m : Nat) (n j : Int), -9223372036854775808 < n → n < 9223372036854775808 → m < 9223372036854775808 →
    Evt (fun k q => spec_dyMul_L60 k q (n, j) b z (m : Int)) (.inr (((strip m n).1, j), b, z, ((strip m n).2 : Int), ()))
  | 0, n, j, h1, h2, hm => Evt.step (fun k q => spec_dyMul_L60.eq_2 k _ _ _ _ q) (Evt.cfalse (by simp) .pure)
  | m + 1, n, j, h1, h2, hm => by
    refine Evt.step (fun k q => spec_dyMul_L60.eq_2 k _ _ _ _ q) (Evt.ctrue (decide_eq_true (by omega)) ?_)
    unfold strip
    by_cases h : n % 2 = 0
    · refine Evt.ctrue (by simpa using (tmod2 n).2 h) ?_
      rw [if_pos h]
      simp only
      rw [tdiv2 h, w64 (n := n / 2) (by omega) (by omega), show IntKind.wrap .i64 (((m + 1 : Nat) : Int) - 1) = (m : Int) by rw [w64 (by omega) (by omega)]; omega]
      exact dyMul_loop1 m (n / 2) j (by omega) (by omega) (by omega)
    · rw [if_neg h]
      exact Evt.cfalse (by simpa using fun hh => h ((tmod2 n).1 hh)) .pure

theorem dyMul_loop2 {a z : Int × Int} : ∀ (m : Nat) (n j : Int), -9223372036854775808 < n → n < 9223372036854775808 → m < 9223372036854775808 →
    Evt (fun k q => spec_dyMul_L124 k q a (n, j) z (m : Int)) (.inr (a, ((strip m n).1, j), z, ((strip m n).2 : Int), ()))
  | 0, n, j, h1, h2, hm => Evt.step (fun k q => spec_dyMul_L124.eq_2 k _ _ _ _ q) (Evt.cfalse (by simp) .pure)
  | m + 1, n, j, h1, h2, hm => by
    refine Evt.step (fun k q => spec_dyMul_L124.eq_2 k _ _ _ _ q) (Evt.ctrue (decide_eq_true (by omega)) ?_)
    unfold strip
    by_cases h : n % 2 = 0
    · refine Evt.ctrue (by simpa using (tmod2 n).2 h) ?_
      rw [if_pos h]
      simp only
      rw [tdiv2 h, w64 (n := n / 2) (by omega) (by omega), show IntKind.wrap .i64 (((m + 1 : Nat) : Int) - 1) = (m : Int) by rw [w64 (by omega) (by omega)]; omega]
      exact dyMul_loop2 m (n / 2) j (by omega) (by omega) (by omega)
    · rw [if_neg h]
      exact Evt.cfalse (by simpa using fun hh => h ((tmod2 n).1 hh)) .pure

theorem abs_eq {n : Int} (h1 : -9223372036854775808 < n) (h2 : n < 9223372036854775808) : spec_l1Abs n = some (n.natAbs : Int) := by
  unfold spec_l1Abs
  rw [most_eq, w64 (by omega) (by omega)]
  simp only [Option.bind_some]
  congr 1
  omega

theorem strip_abs_le (m : Nat) (n : Int) : (strip m n).1.natAbs ≤ n.natAbs := by
  by_cases h : 0 ≤ n
  · have := strip_bound m n h
    omega
  · have h1 := strip_bound m (-n) (by omega)
    rw [strip_neg] at h1
    simp only at h1
    omega

theorem odd_mul {x y : Int} (hx : x % 2 ≠ 0) (hy : y % 2 ≠ 0) : (x * y) % 2 ≠ 0 := by
  have hx' : x % 2 = 1 := by omega
  have hy' : y % 2 = 1 := by omega
  rw [Int.mul_emod, hx', hy']
  decide

theorem dyMul_ev {a b : Int × Int} (ha : gd a) (hb : gd b) : Evt (fun k _ => spec_dyMul k a b) (prodD a b) := by
  refine Evt.eq (f := fun k q => _) ?_ (fun k q => by rw [spec_dyMul])
  have a1 := ha.2.2
  have b1 := hb.2.2
  unfold prodD
  by_cases ha0 : a.1 = 0
  · refine Evt.ctrue (by simp [ha0]) ?_
    rw [ha0, Int.zero_mul, mkD_zero]
    exact .pure
  refine Evt.cfalse (by simpa using ha0) ?_
  by_cases hb0 : b.1 = 0
  · refine Evt.ctrue (by simp [hb0]) ?_
    rw [hb0, Int.mul_zero, mkD_zero]
    exact .pure
  refine Evt.cfalse (by simpa using hb0) ?_
  have e : IntKind.wrap .i64 (a.2 + b.2) = ((a.2.toNat + b.2.toNat : Nat) : Int) := by
    have := ha.1; have := ha.2.1; have := hb.1; have := hb.2.1
    rw [w64 (by omega) (by omega)]; omega
  rw [e]
  have hp : a.2.toNat + b.2.toNat ≤ 48 := by have := ha.2.1; have := hb.2.1; omega
  generalize a.2.toNat + b.2.toNat = p at hp ⊢
  have l1 := dyMul_loop1 (b := b) (z := (0, 0)) p a.1 a.2 (by omega) (by omega) (by omega)
  rw [show ((a.1, a.2) : Int × Int) = a from rfl] at l1
  refine Evt.inr (Evt.diag l1) ?_
  have l2 := dyMul_loop2 (a := ((strip p a.1).1, a.2)) (z := (0, 0)) (strip p a.1).2 b.1 b.2 (by omega) (by omega) (by have := strip_le p a.1; omega)
  rw [show ((b.1, b.2) : Int × Int) = b from rfl] at l2
  refine Evt.inr (Evt.diag l2) ?_
  simp only
  rw [mkD_strip_left p a.1 b.1, Int.mul_comm (strip p a.1).1 b.1, mkD_strip_left (strip p a.1).2 b.1]
  have fa := strip_form p a.1
  have fb := strip_form (strip p a.1).2 b.1
  have na := strip_ne p a.1 ha0
  have nb := strip_ne (strip p a.1).2 b.1 hb0
  have la := strip_abs_le p a.1
  have lb := strip_abs_le (strip p a.1).2 b.1
  have lp := strip_le p a.1
  have lp2 := strip_le (strip p a.1).2 b.1
  generalize (strip p a.1).1 = x at fa na la ⊢
  generalize (strip p a.1).2 = q at fa fb nb lb lp lp2 ⊢
  generalize (strip q b.1).1 = y at fb nb lb ⊢
  generalize (strip q b.1).2 = r at fb lp2 ⊢
  rw [Int.mul_comm y x]
  refine Evt.bind (.const (abs_eq (by omega) (by omega))) (Evt.bind (.const (abs_eq (by omega) (by omega))) (Evt.cfalse (by simp; omega) ?_))
  have hM : IntKind.wrap .i64 (Int.tdiv 1099511627776 (y.natAbs : Int)) = ((1099511627776 / y.natAbs : Nat) : Int) := by
    have : Int.tdiv 1099511627776 (y.natAbs : Int) = ((1099511627776 / y.natAbs : Nat) : Int) := rfl
    rw [this]
    have hq : 1099511627776 / y.natAbs ≤ 1099511627776 := Nat.div_le_self _ _
    generalize 1099511627776 / y.natAbs = qq at hq ⊢
    rw [w64 (by omega) (by omega)]
  rw [hM]
  have habs : (x * y).natAbs = x.natAbs * y.natAbs := Int.natAbs_mul x y
  have hy0 : 0 < y.natAbs := by omega
  by_cases hbig : x.natAbs > 1099511627776 / y.natAbs
  · refine Evt.ctrue (decide_eq_true (by omega)) ?_
    have : 1099511627776 < x.natAbs * y.natAbs := (Nat.div_lt_iff_lt_mul hy0).1 hbig
    have hodd : r = 0 ∨ (x * y) % 2 ≠ 0 := by
      rcases fb with h | h
      · exact .inl h
      · rcases fa with h2 | h2
        · exact .inl (by omega)
        · exact .inr (odd_mul h2 h)
    have : mkD (x * y) r = ((0, 0), false) := by
      rcases hodd with rfl | h
      · unfold mkD strip
        rw [if_neg (by simp only; omega)]
      · exact mkD_odd h (by omega)
    rw [this]
    exact .pure
  · refine Evt.cfalse (decide_eq_false (by omega)) ?_
    have hle : x.natAbs * y.natAbs ≤ 1099511627776 := by
      have := (Nat.le_div_iff_mul_le hy0).1 (Nat.le_of_not_gt hbig)
      exact this
    rw [w64 (n := x * y) (by omega) (by omega)]
    exact Evt.bind (dyMake_ev (by omega) (by omega) (by omega)) .pure
end Go.Ev.G
namespace Go.Ev.G
open Go Go.Ev
set_option maxRecDepth 100000

/-! What is reckoned with a flag: once one fails, none is told. -/
section
variable {α β : Type}
def Flag (g : α → Option β) (z : β) (b0 : Bool) (d : List α) (b : Bool) (o : List β) : Prop :=
  o.length = d.length ∧ b = (b0 && d.all fun x => (g x).isSome) ∧ (b = true → o = d.map fun x => (g x).getD z)
theorem Flag.nil {g : α → Option β} {z : β} {b0 : Bool} : Flag g z b0 [] b0 [] := ⟨rfl, by simp, fun _ => rfl⟩
theorem Flag.step {g : α → Option β} {z : β} {b0 b : Bool} {d : List α} {o : List β} {e : α} {v : β} (h : Flag g z b0 d b o) (hv : b = true → (g e).isSome = true → g e = some v) : Flag g z b0 (d ++ [e]) (b && (g e).isSome) (o ++ [v]) := by
  obtain ⟨h1, h2, h3⟩ := h
  refine ⟨by simp [h1], ?_, ?_⟩
  · rw [h2, List.all_append]
    simp only [List.all_cons, List.all_nil, Bool.and_true, Bool.and_assoc]
  · intro hh
    rw [Bool.and_eq_true] at hh
    rw [List.map_append, h3 hh.1]
    simp only [List.map_cons, List.map_nil, hv hh.1 hh.2, Option.getD_some]
end

abbrev Pt := List (Int × Int)
def prO (p : (Int × Int) × (Int × Int)) : Option (Int × Int) := if (prodD p.1 p.2).2 then some (prodD p.1 p.2).1 else none
/-- the sum of the products of numbers -/
def inn (xs ys : Pt) : Option (Int × Int) := if ((xs.zip ys).all fun p => (prO p).isSome) then osum (0, 0) ((xs.zip ys).map fun p => (prO p).getD (0, 0)) else none

theorem mxSum_ev {xs ys : Pt} (hb : xs.length < lenB) (hl : xs.length = ys.length) (hx : ∀ x ∈ xs, gd x) (hy : ∀ y ∈ ys, gd y) : Evt (fun k _ => spec_mxSum k xs ys) (match inn xs ys with | some t => (t, true) | none => ((0, 0), false)) := by
  refine Evt.eq (f := fun k q => _) ?_ (fun k q => by rw [spec_mxSum])
  have key : ∀ (r r' d d' : Pt) (s : Int × Int), d ++ r = xs → d' ++ r' = ys → d.length = d'.length → r.length = r'.length → gd s →
      Evt (fun k n => spec_mxSum_L58 k n ys (0, 0) s xs (xs.length : Int) d.length) (match (if ((r.zip r').all fun p => (prO p).isSome) then osum s ((r.zip r').map fun p => (prO p).getD (0, 0)) else none) with | some t => .inr ((0, 0), t, ()) | none => .inl ((0, 0), false)) := by
    intro r
    induction r with
    | nil =>
      intro r' d d' s h h' hdl hr hs
      refine Evt.step (fun k n => spec_mxSum_L58.eq_2 k _ _ _ _ _ _ n) ?_
      rw [List.append_nil] at h
      subst h
      exact Evt.rng0 .pure
    | cons e r ih =>
      intro r' d d' s h h' hdl hr hs
      obtain ⟨e', r', rfl⟩ : ∃ x y, r' = x :: y := by cases r' with
        | nil => simp at hr
        | cons x y => exact ⟨x, y, rfl⟩
      have ge : gd e := hx e (by rw [← h]; simp)
      have ge' : gd e' := hy e' (by rw [← h']; simp)
      refine Evt.step (fun k n => spec_mxSum_L58.eq_2 k _ _ _ _ _ _ n) ?_
      have ih := ih r' (d ++ [e]) (d' ++ [e']) (sumD s (prodD e e').1).1 (by simpa using h) (by simpa using h') (by simp [hdl]) (by simpa using hr) (sumD_gd _ _)
      rw [← len_next (r := r) (by rw [h]; exact hb)] at ih
      subst h
      subst h'
      refine Evt.ctrue mid_lt (Evt.ctrue mid_ge (Evt.ctrue mid_lt (Evt.ctrue mid_ge (Evt.ctrue (two_lt (r := r) hdl) ?_))))
      rw [mid_get, two_get hdl]
      refine Evt.bind (dyMul_ev ge ge') (Evt.bind (dyAdd_ev hs (prodD_gd _ _)) ?_)
      cases h1 : (prodD e e').2 with
      | false =>
        have hp : prO (e, e') = none := by unfold prO; rw [h1]; rfl
        simp only [List.zip_cons_cons, List.all_cons, hp, Option.isSome_none, Bool.false_and]
        exact Evt.ctrue rfl .pure
      | true =>
        have hp : prO (e, e') = some (prodD e e').1 := by unfold prO; rw [h1]; rfl
        refine Evt.cfalse rfl ?_
        simp only [List.zip_cons_cons, List.all_cons, List.map_cons, hp, Option.isSome_some, Bool.true_and, Option.getD_some, osum]
        cases h2 : (sumD s (prodD e e').1).2 with
        | false =>
          refine Evt.ctrue rfl ?_
          simp only [Bool.false_eq_true, if_false, ite_self]
          exact .pure
        | true => exact Evt.cfalse rfl ih
  have h0 := key xs ys [] [] (0, 0) rfl rfl rfl hl (by decide)
  simp only [List.length_nil] at h0
  unfold inn
  generalize (if ((xs.zip ys).all fun p => (prO p).isSome) then osum (0, 0) ((xs.zip ys).map fun p => (prO p).getD (0, 0)) else none) = res at h0 ⊢
  cases res with
  | some t => exact Evt.inr (Evt.diag h0) .pure
  | none => exact Evt.inl (Evt.diag h0) .pure

theorem inner_ev {b : Bool} {xs ys : Pt} (h1 : 1 ≤ xs.length) (h3 : xs.length ≤ 3) (hl : xs.length = ys.length) (hx : ∀ x ∈ xs, gd x) (hy : ∀ y ∈ ys, gd y) :
    ∃ v, (b = true → (inn xs ys).isSome = true → inn xs ys = some v) ∧ Evt (fun k _ => impl_reckoner_inner k b xs ys) (v, b && (inn xs ys).isSome) := by
  have key : ∀ (r r' d d' o : Pt) (c : Bool), d ++ r = xs → d' ++ r' = ys → d.length = d'.length → r.length = r'.length → (∀ y ∈ o, gd y) → Flag prO (0, 0) b (d.zip d') c o →
      ∃ c' o', Flag prO (0, 0) b (xs.zip ys) c' o' ∧ (∀ y ∈ o', gd y) ∧ Evt (fun k n => impl_reckoner_inner_L58 k n c xs ys (0, 0) o (xs.length : Int) d.length) (.inr (c', (0, 0), o', ())) := by
    intro r
    induction r with
    | nil =>
      intro r' d d' o c h h' hdl hr ho hf
      have hr' : r' = [] := by cases r' with
        | nil => rfl
        | cons x y => simp at hr
      subst hr'
      rw [List.append_nil] at h h'
      subst h
      subst h'
      refine ⟨c, o, hf, ho, Evt.step (fun k n => impl_reckoner_inner_L58.eq_2 k _ _ _ _ _ _ _ n) ?_⟩
      exact Evt.rng0 .pure
    | cons e r ih =>
      intro r' d d' o c h h' hdl hr ho hf
      obtain ⟨e', r', rfl⟩ : ∃ x y, r' = x :: y := by cases r' with
        | nil => simp at hr
        | cons x y => exact ⟨x, y, rfl⟩
      have ge : gd e := hx e (by rw [← h]; simp)
      have ge' : gd e' := hy e' (by rw [← h']; simp)
      have hrp := reckoner_product_ev (b := c) ge ge'
      have hfl : Flag prO (0, 0) b ((d ++ [e]).zip (d' ++ [e'])) (if c then prodD e e' else ((0, 0), false)).2 (o ++ [(if c then prodD e e' else ((0, 0), false)).1]) := by
        have hz : (d ++ [e]).zip (d' ++ [e']) = d.zip d' ++ [(e, e')] := List.zip_append hdl
        rw [hz]
        have hst := Flag.step (e := (e, e')) (v := (if c then prodD e e' else ((0, 0), false)).1) hf (by
          intro hc hs
          subst hc
          rw [if_pos rfl]
          unfold prO at hs ⊢
          split
          · rfl
          · rename_i hn; rw [if_neg hn] at hs; cases hs)
        have e2 : (if c then prodD e e' else ((0, 0), false)).2 = (c && (prO (e, e')).isSome) := by
          cases c with
          | false => rfl
          | true =>
            unfold prO
            simp only [if_true, Bool.true_and]
            cases (prodD e e').2 <;> rfl
        rw [e2]
        exact hst
      have hgo : gd (if c then prodD e e' else ((0, 0), false)).1 := by
        split
        · exact prodD_gd _ _
        · decide
      obtain ⟨c', o', q1, q2, q3⟩ := ih r' (d ++ [e]) (d' ++ [e']) (o ++ [(if c then prodD e e' else ((0, 0), false)).1]) (if c then prodD e e' else ((0, 0), false)).2 (by simpa using h) (by simpa using h') (by simp [hdl]) (by simpa using hr) (by
        intro y hy
        rcases List.mem_append.1 hy with hy | hy
        · exact ho y hy
        · simp at hy; subst hy; exact hgo) hfl
      refine ⟨c', o', q1, q2, Evt.step (fun k n => impl_reckoner_inner_L58.eq_2 k _ _ _ _ _ _ _ n) ?_⟩
      rw [← len_next (r := r) (by rw [h]; simp only [lenB]; omega)] at q3
      have hlen : o.length + 1 < 274877906944 := by
        have hol := hf.1
        have : (d.zip d').length ≤ d.length := by simp; omega
        have hxl := congrArg List.length h
        simp at hxl
        omega
      subst h
      subst h'
      refine Evt.ctrue mid_lt (Evt.ctrue mid_ge (Evt.ctrue mid_lt (Evt.ctrue mid_ge (Evt.ctrue (two_lt (r := r) hdl) ?_))))
      rw [mid_get, two_get hdl]
      exact Evt.bind hrp (Evt.ctrue (decide_eq_true hlen) q3)
  obtain ⟨c', o', ⟨f1, f2, f3⟩, q2, q3⟩ := key xs ys [] [] [] b rfl rfl rfl hl (by simp) Flag.nil
  simp only [List.length_nil] at q3
  have hol : 1 ≤ o'.length ∧ o'.length ≤ 3 := by rw [f1]; simp; omega
  obtain ⟨x, xs', rfl⟩ : ∃ x y, o' = x :: y := by cases o' with
    | nil => simp at hol
    | cons x y => exact ⟨x, y, rfl⟩
  have hgx : gd x := q2 x (by simp)
  refine ⟨(fsum c' x xs').1, ?_, ?_⟩
  · intro hb hs
    subst hb
    unfold inn at hs ⊢
    split at hs
    · rename_i hall
      rw [if_pos hall] at ⊢
      have hc : c' = true := by rw [f2, hall]; rfl
      subst hc
      rw [← f3 rfl] at hs ⊢
      rw [osum, sumD_zero hgx, if_pos rfl] at hs ⊢
      rw [fsum_true]
      cases ho : osum x xs' with
      | none => rw [ho] at hs; cases hs
      | some t => rfl
    · cases hs
  · refine Evt.eq (f := fun k q => _) ?_ (fun k q => by rw [impl_reckoner_inner])
    have hsn : (fsum c' x xs').2 = (b && (inn xs ys).isSome) := by
      unfold inn
      cases c' with
      | false =>
        rw [fsum_false]
        cases b with
        | false => rfl
        | true =>
          rw [Bool.true_and] at f2 ⊢
          rw [if_neg (by rw [← f2]; simp)]
          rfl
      | true =>
        have hh := f2.symm
        rw [Bool.and_eq_true] at hh
        rw [hh.1, if_pos hh.2, Bool.true_and, ← f3 rfl, osum, sumD_zero hgx, if_pos rfl, fsum_true]
        cases osum x xs' <;> rfl
    refine Evt.inr (Evt.diag q3) (Evt.bind (total_ev hgx (fun y hy => q2 y (by simp [hy])) (by simp at hol; simp only [lenB]; omega)) (.const ?_))
    rw [← hsn]
end Go.Ev.G
namespace Go.Ev.G
open Go Go.Ev
set_option maxRecDepth 100000

theorem timesPoint1_eq (x : Int × Int) : impl_TimesPoint_1 x = some (!decide (gd x)) := by
  unfold impl_TimesPoint_1
  rw [isDyadic_eq]; rfl

theorem contains3_ev {xs : List (Int × Int)} (hb : xs.length < lenB) : Evt (fun k _ => slices_ContainsFunc_Dyadic_Dyadic_impl_TimesPoint_1 k xs ()) (xs.any fun x => !decide (gd x)) := by
  refine Evt.eq (f := fun k q => _) ?_ (fun k q => by rw [slices_ContainsFunc_Dyadic_Dyadic_impl_TimesPoint_1])
  have h := index_all (d0 := (0, 0)) (L := fun k n i => slices_IndexFunc_Dyadic_Dyadic_impl_TimesPoint_1_L26 k n xs () (xs.length : Int) i) (xs := xs) (p := fun _ x => impl_TimesPoint_1 x) (P := fun x => !decide (gd x)) (fun x _ => .const (timesPoint1_eq x)) (fun _ _ _ => rfl) hb
  rw [← findIdx?_any]
  have h2 : Evt (fun k _ => slices_IndexFunc_Dyadic_Dyadic_impl_TimesPoint_1 k xs ()) (match xs.findIdx? (fun x => !decide (gd x)) with | some j => (j : Int) | none => -1) := by
    refine Evt.eq (f := fun k q => _) ?_ (fun k q => by rw [slices_IndexFunc_Dyadic_Dyadic_impl_TimesPoint_1])
    cases hf : xs.findIdx? (fun x => !decide (gd x)) with
    | none => rw [hf] at h; exact Evt.inr (Evt.diag h) .pure
    | some j => rw [hf] at h; exact Evt.inl (Evt.diag h) .pure
  refine Evt.bind h2 (.const ?_)
  cases hf : xs.findIdx? (fun x => !decide (gd x)) with
  | none => rfl
  | some j => simp

theorem bxPoint_ev {p : Pt} {n : Nat} (hb : p.length < lenB) : Evt (fun k _ => spec_bxPoint k p n) (p.all (fun x => decide (gd x)) && decide (p.length = n)) := by
  refine Evt.eq (f := fun k q => _) ?_ (fun k q => by rw [spec_bxPoint])
  have key : ∀ (r d : Pt), d ++ r = p → Evt (fun k m => spec_bxPoint_L26 k m p n p (p.length : Int) d.length) (if (r.all fun x => decide (gd x)) then .inr (p, (n : Int), ()) else .inl false) := by
    intro r
    induction r with
    | nil =>
      intro d h
      refine Evt.step (fun k m => spec_bxPoint_L26.eq_2 k _ _ _ _ _ m) ?_
      rw [List.append_nil] at h
      subst h
      exact Evt.rng0 .pure
    | cons e r ih =>
      intro d h
      refine Evt.step (fun k m => spec_bxPoint_L26.eq_2 k _ _ _ _ _ m) ?_
      have ih := ih (d ++ [e]) (by simpa using h)
      rw [← len_next (r := r) (by rw [h]; exact hb)] at ih
      subst h
      refine Evt.ctrue mid_lt (Evt.ctrue mid_ge (Evt.ctrue mid_lt ?_))
      rw [mid_get]
      refine Evt.bind (.const (dyGood_eq _)) ?_
      by_cases h1 : gd e
      · refine Evt.cfalse (by simp [h1]) ?_
        simp only [List.all_cons, h1, decide_true, Bool.true_and]
        exact ih
      · refine Evt.ctrue (by simp [h1]) ?_
        simp only [List.all_cons, h1, decide_false, Bool.false_and]
        exact .pure
  have h0 := key p [] rfl
  simp only [List.length_nil] at h0
  cases hall : p.all fun x => decide (gd x) with
  | true =>
    rw [hall] at h0
    refine Evt.inr (Evt.diag h0) (.const ?_)
    congr 1
    rw [Bool.eq_iff_iff]
    simp only [beq_iff_eq, Bool.true_and, decide_eq_true_eq]
    omega
  | false => rw [hall] at h0; exact Evt.inl (Evt.diag h0) .pure

def tpV (m : List Pt) (p : Pt) : Pt × Bool :=
  if tab gd m && ((p.all (fun x => decide (gd x)) && decide (p.length = m.length)) && m.all fun r => (inn r p).isSome) then (m.map fun r => (inn r p).getD (0, 0), true) else ([], false)

theorem spec_timesPoint_ev {m : List Pt} {p : Pt} (hb : m.length < 274877906944) (hm : ∀ r ∈ m, r.length < lenB) (hp : p.length < lenB) : Evt (fun k _ => spec_TimesPoint k m p) (tpV m p) := by
  refine Evt.eq (f := fun k q => _) ?_ (fun k q => by rw [spec_TimesPoint])
  refine Evt.bind (mxGood_ev hb hm) ?_
  unfold tpV
  cases ht : tab gd m with
  | false => exact Evt.ctrue rfl .pure
  | true =>
  refine Evt.cfalse rfl (Evt.bind (bxPoint_ev hp) ?_)
  cases hpp : (p.all (fun x => decide (gd x)) && decide (p.length = m.length)) with
  | false => exact Evt.ctrue rfl .pure
  | true =>
  refine Evt.cfalse rfl ?_
  simp only [Bool.and_eq_true, decide_eq_true_eq, List.all_eq_true] at hpp
  have hg := tab_gd ht
  have key : ∀ (r d : List Pt), d ++ r = m → Evt (fun k n => spec_mxTimes_L58 k n p (d.map fun r => (inn r p).getD (0, 0)) m (m.length : Int) d.length) (if (r.all fun r => (inn r p).isSome) then .inr (m.map fun r => (inn r p).getD (0, 0), ()) else .inl ([], false)) := by
    intro r
    induction r with
    | nil =>
      intro d h
      refine Evt.step (fun k n => spec_mxTimes_L58.eq_2 k _ _ _ _ _ n) ?_
      rw [List.append_nil] at h
      subst h
      exact Evt.rng0 .pure
    | cons e r ih =>
      intro d h
      refine Evt.step (fun k n => spec_mxTimes_L58.eq_2 k _ _ _ _ _ n) ?_
      have hme : e ∈ m := by rw [← h]; simp
      have hge := hg e hme
      have hsum := mxSum_ev (xs := e) (ys := p) (hm e hme) (by omega) hge.2 hpp.1
      have ih := ih (d ++ [e]) (by simpa using h)
      rw [← len_next (r := r) (by rw [h]; simp only [lenB]; omega)] at ih
      have hl := congrArg List.length h
      simp at hl
      subst h
      refine Evt.ctrue mid_lt (Evt.ctrue mid_ge (Evt.ctrue mid_lt ?_))
      rw [mid_get]
      refine Evt.bind hsum ?_
      rw [List.map_append, List.map_cons] at ih
      cases ho : inn e p with
      | none =>
        simp only [List.all_cons, ho, Option.isSome_none, Bool.false_and]
        exact Evt.ctrue rfl .pure
      | some t =>
        rw [ho] at ih
        simp only [List.all_cons, ho, Option.isSome_some, Bool.true_and]
        exact Evt.cfalse rfl (Evt.ctrue (by simp; omega) ih)
  have h0 := key m [] rfl
  simp only [List.length_nil, List.map_nil] at h0
  have hmt : Evt (fun k _ => spec_mxTimes k m p) (if (m.all fun r => (inn r p).isSome) then (m.map fun r => (inn r p).getD (0, 0), true) else ([], false)) := by
    refine Evt.eq (f := fun k q => _) ?_ (fun k q => by rw [spec_mxTimes])
    cases hall : m.all fun r => (inn r p).isSome with
    | true => rw [hall] at h0; exact Evt.inr (Evt.diag h0) .pure
    | false => rw [hall] at h0; exact Evt.inl (Evt.diag h0) .pure
  exact Evt.bind hmt .pure

theorem impl_timesPoint_ev {m : List Pt} {p : Pt} (hb : m.length < lenB) (hm : ∀ r ∈ m, r.length < lenB) (hp : p.length < lenB) : Evt (fun k _ => impl_TimesPoint k m p) (tpV m p) := by
  refine Evt.eq (f := fun k q => _) ?_ (fun k q => by rw [impl_TimesPoint])
  refine Evt.bind (isTable_ev hb hm) ?_
  unfold tpV
  cases ht : tab gd m with
  | false => exact Evt.ctrue rfl .pure
  | true =>
  refine Evt.cfalse rfl ?_
  by_cases hl : p.length = m.length
  · refine Evt.cfalse (by simp [hl]) (Evt.bind (contains3_ev hp) ?_)
    rw [decide_eq_true hl, Bool.and_true, Bool.true_and]
    cases ha : p.any fun x => !decide (gd x) with
    | true =>
      refine Evt.ctrue rfl ?_
      have : (p.all fun x => decide (gd x)) = false := by
        rw [List.any_eq_not_all_not] at ha
        simpa using ha
      rw [this]
      exact .pure
    | false =>
      refine Evt.cfalse rfl ?_
      have hpg : (p.all fun x => decide (gd x)) = true := by
        rw [List.any_eq_not_all_not] at ha
        simpa using ha
      rw [hpg, Bool.true_and]
      simp only [List.all_eq_true, decide_eq_true_eq] at hpg
      have hg := tab_gd ht
      have key : ∀ (r d : List Pt) (b : Bool) (o : Pt), d ++ r = m → Flag (fun r => inn r p) (0, 0) true d b o → ∃ b' o', Flag (fun r => inn r p) (0, 0) true m b' o' ∧ Evt (fun k n => impl_timesPoint_L122 k n p b o m (m.length : Int) d.length) (.inr (b', o', ())) := by
        intro r
        induction r with
        | nil =>
          intro d b o h hf
          rw [List.append_nil] at h
          subst h
          exact ⟨b, o, hf, Evt.step (fun k n => impl_timesPoint_L122.eq_2 k _ _ _ _ _ _ n) (Evt.rng0 .pure)⟩
        | cons e r ih =>
          intro d b o h hf
          have hge := hg e (by rw [← h]; simp)
          obtain ⟨v, hv, hev⟩ := inner_ev (b := b) (xs := e) (ys := p) (by omega) (by omega) (by omega) hge.2 hpg
          obtain ⟨b', o', q1, q2⟩ := ih (d ++ [e]) _ _ (by simpa using h) (Flag.step hf hv)
          refine ⟨b', o', q1, Evt.step (fun k n => impl_timesPoint_L122.eq_2 k _ _ _ _ _ _ n) ?_⟩
          rw [← len_next (r := r) (by rw [h]; exact hb)] at q2
          have hxl := congrArg List.length h
          simp at hxl
          have hol := hf.1
          subst h
          refine Evt.ctrue mid_lt (Evt.ctrue mid_ge (Evt.ctrue mid_lt ?_))
          rw [mid_get]
          exact Evt.bind hev (Evt.ctrue (by simp; omega) q2)
      obtain ⟨b', o', ⟨f1, f2, f3⟩, q2⟩ := key m [] true [] rfl Flag.nil
      rw [Bool.true_and] at f2
      simp only [List.length_nil] at q2
      have hmt : Evt (fun k _ => impl_timesPoint k m p) (if (m.all fun r => (inn r p).isSome) then (m.map fun r => (inn r p).getD (0, 0), true) else ([], false)) := by
        refine Evt.eq (f := fun k q => _) ?_ (fun k q => by rw [impl_timesPoint])
        refine Evt.inr (Evt.diag q2) ?_
        rw [← f2]
        cases b' with
        | true => rw [← f3 rfl]; exact Evt.cfalse rfl .pure
        | false => exact Evt.ctrue rfl .pure
      exact Evt.bind hmt .pure
  · refine Evt.ctrue (by rw [bne_iff_ne]; omega) ?_
    rw [decide_eq_false hl, Bool.and_false, Bool.false_and, Bool.and_false]
    exact .pure

theorem tpV_len {m : List Pt} {p : Pt} (h : m.length ≤ 1000000) : (tpV m p).1.length ≤ 1000000 := by
  unfold tpV
  split
  · simp; exact h
  · simp
theorem szDyadicS_ev {x : Pt} (hx : x.length ≤ maxLen) {a : Nat} (ha : a ≤ 1000000) : laws_szDyadicS x a = some (if x.length ≤ a then ((a - x.length : Nat) : Int) else -1) := sz_one (fun _ _ => rfl) hx ha
theorem markOfS {x : Pt} {a : Nat} (h : a + 2 * x.length < lenB) : ∃ y, Evt (fun k _ => laws_markDyadicS k x a) (((a + 2 * x.length : Nat) : Int), y) ∧ Evt (fun k _ => laws_heldDyadicS k y a) ((a + 2 * x.length : Nat) : Int) := by
  obtain ⟨y, h1, h2, _⟩ := markDyadicS_ok x a h
  exact ⟨y, h1, h2⟩

theorem timesPoint_law (a : List Pt) (p : Pt) (ha : a.length ≤ maxLen) (hm : ∀ x ∈ a, x.length ≤ maxLen) (hp : p.length ≤ maxLen) : ∃ k, laws_FnExactTimesPoint k a p = some true := by
  refine Evt.get (Evt.eq (f := fun k q => _) ?_ (fun k q => by rw [laws_FnExactTimesPoint]))
  refine Evt.bind (szDyadicSS_ev (a := 1000000) ha hm (by omega)) ?_
  by_cases hz : a.length + (a.map List.length).sum ≤ 1000000
  · rw [if_pos hz]
    have hs : Sized a := hz
    refine Evt.cfalse (by simp <;> omega) (Evt.bind (.const (szDyadicS_ev hp (by omega))) ?_)
    by_cases hy : p.length ≤ 1000000 - (a.length + (a.map List.length).sum)
    · rw [if_pos hy]
      refine Evt.cfalse (by simp <;> omega) ?_
      have p1 : p.length ≤ 1000000 := by omega
      have hb : a.length < 274877906944 := by have := hs.len; omega
      have hr : ∀ r ∈ a, r.length < lenB := fun r hr => by have := hs.row r hr; simp only [lenB]; omega
      have hpl : p.length < lenB := by simp only [lenB]; omega
      have spec := spec_timesPoint_ev hb hr hpl
      have impl := impl_timesPoint_ev (m := a) (by simp only [lenB]; omega) hr hpl
      have hl := tpV_len (p := p) hs.len
      have hl2 : (tpV a p).1.length < lenB := by simp only [lenB]; omega
      obtain ⟨y, hy1, hy2⟩ := markOfS (x := (tpV a p).1) (a := 101) (by simp only [lenB]; omega)
      obtain ⟨z, hz1, _⟩ := markDyadicSS_ev (x := a) (a := 101) (by simp only [lenB]; omega) hs.marks
      have hms : (a.map fun r => 2 * r.length).sum ≤ 2000000 := by rw [sum_twice]; unfold Sized at hs; omega
      obtain ⟨w, hw1, _⟩ := markOfS (x := p) (a := 101 + (a.map fun r => 2 * r.length).sum) (by simp only [lenB]; omega)
      refine Evt.bind (toDyadicSS_ev hs.len hs.row) (Evt.bind (toDyadicS_ev p1) ?_)
      simp only [toV_rows, toV_fst]
      refine Evt.bind spec (Evt.bind (toDyadicSS_ev hs.len hs.row) (Evt.bind (toDyadicS_ev p1) ?_))
      simp only [toV_rows, toV_fst]
      refine Evt.bind impl (Evt.bind (eqDyadicS_ev hl2) (Evt.cfalse rfl (Evt.cfalse (by simp) (Evt.bind (toDyadicSS_ev hs.len hs.row) (Evt.bind (intactD_ev hs) (Evt.cfalse rfl (Evt.bind (toDyadicS_ev p1) (Evt.bind (intactDyadicS_ev (room_toV p1)) (Evt.cfalse rfl (Evt.bind hz1 (Evt.bind hw1 (Evt.cfalse (by simp <;> omega) ?_))))))))))))
      refine Evt.bind (eqDyadicS_ev hl2) (Evt.cfalse rfl (Evt.cfalse (by simp) (Evt.bind hy1 (Evt.bind hy2 (Evt.cfalse (by simp <;> omega) (Evt.cfalse (by simp) (Evt.bind (toDyadicSS_ev hs.len hs.row) (Evt.bind (toDyadicS_ev p1) ?_))))))))
      simp only [toV_rows, toV_fst]
      exact Evt.bind impl (Evt.bind (eqDyadicS_ev hl2) (Evt.cfalse rfl (Evt.cfalse (by simp) (Evt.bind hy2 (Evt.cfalse (by simp <;> omega) (Evt.cfalse (by simp) .pure))))))
    · rw [if_neg hy]
      exact Evt.ctrue rfl .pure
  · rw [if_neg hz]
    exact Evt.ctrue rfl .pure
theorem timesPoint_row (a : List Pt) (p : Pt) (h : WfT (.sl (.sl tDyadic)) a) (hp : WfT (.sl tDyadic) p) : ∃ k, laws_FnExactTimesPoint k a p = some true := timesPoint_law a p h.1 (fun x hx => (h.2 x hx).1) hp.1
end Go.Ev.G
