/- A part of a verified evaluator of the model's code: what it evaluates is what a call returns; no condition beyond the theorems' own hypotheses. -/
import Derived.Test.YtdlpejdadikggaaEv13
set_option linter.unusedVariables false
namespace Go.Ev
open Go

section
variable {X : Ctx} {σ σ' : St} {ι : Nat → Home} {a : Act} {w : World} {α : Type} {o : Oper} {nid : Nat}

/-- cells that stand at a slice's begin -/
def At (w : World) (A : Option Addr) (cs : List Value) : Prop := ∀ j u, cs[j]? = some u → ∃ a, A = some a ∧ w.cell? (a.add j) = some u

theorem run_firstCells {P : Program} {A : Option Addr} {cs : List Value} (h : At w A cs) {size k n c : Nat} (hl : cs.length = k * size) : (Builtin.firstCells size k (.slice A n c)).run P w = .ok cs.toArray w := by
  cases A with
  | none =>
    have : cs = [] := by
      cases cs with
      | nil => rfl
      | cons u cs => obtain ⟨a, h, _⟩ := h 0 u rfl; cases h
    subst this
    simp [Builtin.firstCells]
  | some b =>
    simp only [Builtin.firstCells]
    rw [← hl]
    exact run_loadCells_list w b cs (fun j u hj => by obtain ⟨a, e, h⟩ := h j u hj; cases e; exact h)

theorem At.grow {A : Option Addr} {cs : List Value} (h : At w A cs) {w' : World} (hw : w'.heap = w.heap) : At w' A cs := by
  intro j u hj
  obtain ⟨a, e, h⟩ := h j u hj
  exact ⟨a, e, by simpa [World.cell?, hw] using h⟩

theorem lenOf_slice {P : Program} {A : Option Addr} {n c : Nat} : (Builtin.lenOf (.slice A n c)).run P w = .ok n w := rfl

/-- the builtin append, when it fits -/
theorem run_append_fit {P : Program} {ts tx e : TypeId} {ex : TypeId} {inf : TypeInfo} (hs : P.underlying ts = some (.slice e)) (hx : P.underlying tx = some (.slice ex)) (hi : P.info? e = some inf)
    {A B : Option Addr} {n c m c' : Nat} {news : List Value} (hB : At w B news) (hl : news.length = m * inf.size) (hfit : n + m ≤ c) (ty : TypeId)
    {b o' : Nat} {arr : Array Value} {el : TypeId} (hA : A = some ⟨b, o', none⟩) (hb : w.heap[b]? = some (.cells arr el (0, 0))) (hsz : o' + n * inf.size + news.length ≤ arr.size) (h1 : ∀ u ∈ news, u.oneCell' = true) :
    (Builtin.append_ #[ts, tx] ty #[.slice A n c, .slice B m c']).run P w = .ok (.slice A (n + m) c) (w.setRow b (arr.toList.take (o' + n * inf.size) ++ news ++ arr.toList.drop (o' + n * inf.size + news.length)).toArray) := by
  subst hA
  have hst := run_storeCells_at P b (o' + n * inf.size) el news 0 arr w hb (by simpa using hsz) h1
  simp only [Nat.add_zero] at hst
  simp [Builtin.append_, run_underlying hs, run_underlying hx, sizeOf, typeInfo, hi, Builtin.lenOf, hfit, run_firstCells hB hl, Addr_add, hst]

/-- the builtin append of nothing to nothing -/
theorem run_append_none {P : Program} {ts tx e : TypeId} {ex : TypeId} {inf : TypeInfo} (hs : P.underlying ts = some (.slice e)) (hx : P.underlying tx = some (.slice ex)) (hi : P.info? e = some inf)
    {A B : Option Addr} {c c' : Nat} (hB : At w B []) (ty : TypeId) (hA : A = none ∨ ∃ b o' arr el, A = some ⟨b, o', none⟩ ∧ w.heap[b]? = some (.cells arr el (0, 0)) ∧ o' ≤ arr.size) :
    (Builtin.append_ #[ts, tx] ty #[.slice A 0 c, .slice B 0 c']).run P w = .ok (.slice A 0 c) w := by
  have h0 := run_firstCells (P := P) (n := 0) (c := c') (size := inf.size) (k := 0) hB (by simp)
  cases A with
  | none => simp [Builtin.append_, run_underlying hs, run_underlying hx, sizeOf, typeInfo, hi, Builtin.lenOf, h0]
  | some a0 => simp [Builtin.append_, run_underlying hs, run_underlying hx, sizeOf, typeInfo, hi, Builtin.lenOf, h0, storeCells]

/-- the builtin append, when it doesn't -/
theorem run_append_grown {P : Program} {ts tx e : TypeId} {ex : TypeId} {inf : TypeInfo} {z : Value} (hs : P.underlying ts = some (.slice e)) (hx : P.underlying tx = some (.slice ex)) (hi : P.info? e = some inf) (hz : inf.zero = some z)
    {A B : Option Addr} {n c m c' : Nat} {olds news : List Value} (hA : At w A olds) (hB : At w B news) (hlo : olds.length = n * inf.size) (hl : news.length = m * inf.size) (hg : c < n + m) (ty : TypeId)
    (h63 : n + m ≤ 274877906944) (hby : inf.bytes ≤ 128) (hby1 : 1 ≤ inf.bytes) :
    ∃ w', (Builtin.append_ #[ts, tx] ty #[.slice A n c, .slice B m c']).run P w = .ok (.slice (some ⟨w.heap.size, 0, none⟩) (n + m) (grownCap w (n + m) c e)) w' ∧
      w'.heap = w.heap.push (.cells (olds.toArray ++ news.toArray ++ Builtin.zeroCells z.cells (grownCap w (n + m) c e - (n + m))) e) ∧ w'.os = w.os ∧ w'.output = w.output ∧ w'.tape = w.tape := by
  have hn : ¬ (n + m ≤ c) := by omega
  have h63' : ¬ (9223372036854775807 < ((n : Int) + (m : Int))) := by omega
  have hb0 : ¬ inf.bytes = 0 := by omega
  have h48' : ¬ (281474976710656 < Builtin.nextslicecap (n + m) c * inf.bytes) := by
    have := growslice_fits (need := n + m) (old := c) (bytes := inf.bytes) hg (by
      have : (n + m) * inf.bytes ≤ 274877906944 * 128 := Nat.mul_le_mul h63 hby
      omega)
    omega
  have hf := run_firstCells (P := P) (w := w.drew) (n := m) (c := c') (hB.grow rfl) hl
  have hfo := run_firstCells (P := P) (w := w.drew) (n := n) (c := c) (hA.grow rfl) hlo
  refine ⟨w.drew.alloc (.cells (olds.toArray ++ news.toArray ++ Builtin.zeroCells z.cells (grownCap w (n + m) c e - (n + m))) e), ?_, rfl, rfl, rfl, rfl⟩
  simp [Builtin.append_, run_underlying hs, run_underlying hx, sizeOf, typeInfo, zeroValue, hi, hz, Builtin.lenOf, hn, h63', h48', Question.forced, hf, hfo, newRow, grownCap, hb0]
  congr 2
  apply Array.ext'
  simp

theorem isIntT_run {P : Program} {t : TypeId} (h : isIntT P t = true) : ∃ k, P.underlying t = some (.int k) := by
  unfold isIntT at h
  split at h
  · rename_i k hk; exact ⟨k, hk⟩
  · cases h

/-- the builtin append of zeros to nothing -/
theorem run_append_zeros {P : Program} {ts tx e : TypeId} {kx q : IntKind} {inf : TypeInfo} {z : Value} (hs : P.underlying ts = some (.slice e)) (hx : P.underlying tx = some (.int kx)) (hi : P.info? e = some inf) (hz : inf.zero = some z)
    {m : Nat} (h0 : 0 < m) (hm : m < 274877906944) (ty : TypeId) (hby : inf.bytes ≤ 128) (hby1 : 1 ≤ inf.bytes) (hsz : 1 ≤ inf.size) :
    ∃ w', (Builtin.append_ #[ts, tx] ty #[.slice none 0 0, .int q m]).run P w = .ok (.slice (some ⟨w.heap.size, 0, none⟩) m (grownCap w m 0 e)) w' ∧
      w'.heap = w.heap.push (.cells (Builtin.zeroCells z.cells m ++ Builtin.zeroCells z.cells (grownCap w m 0 e - m)) e) ∧ w'.os = w.os ∧ w'.output = w.output ∧ w'.tape = w.tape := by
  have hw : IntKind.i64.wrap (m : Int) = m := wrap_small (by omega) (by omega)
  have hmn : m ≠ 0 := by omega
  have hb1 : ¬ ((281474976710656 : Int) < (m : Int) * (inf.bytes : Int)) := by
    have : m * inf.bytes ≤ 274877906944 * 128 := Nat.mul_le_mul (by omega) hby
    have h2 : ((m * inf.bytes : Nat) : Int) = (m : Int) * (inf.bytes : Int) := by simp
    omega
  have h63' : ¬ (9223372036854775807 < (m : Int)) := by omega
  have hb0 : ¬ inf.bytes = 0 := by omega
  have hs0 : ¬ inf.size = 0 := by omega
  have h48' : ¬ (281474976710656 < Builtin.nextslicecap m 0 * inf.bytes) := by
    have := growslice_fits (need := m) (old := 0) (bytes := inf.bytes) h0 (by
      have : m * inf.bytes ≤ 274877906944 * 128 := Nat.mul_le_mul (by omega) hby
      omega)
    omega
  refine ⟨w.drew.alloc (.cells (Builtin.zeroCells z.cells m ++ Builtin.zeroCells z.cells (grownCap w m 0 e - m)) e), ?_, rfl, rfl, rfl, rfl⟩
  simp [Builtin.append_, run_underlying hs, run_underlying hx, sizeOf, typeInfo, zeroValue, hi, hz, asInt, asIntOf, hw, hmn, hb1, h63', h48', Question.forced, newRow, grownCap, hb0, hs0, Builtin.firstCells]
  rw [if_neg (by omega), if_neg (by intro h9; rcases Nat.mul_eq_zero.1 h9 with h9 | h9 <;> omega)]

/-- what append takes, read -/
theorem src_run {ty : Ty} {vx : AV} {u : Value} {G : List Nat} {k : List ty.T → List Nat → Pg α} {r : α × St} (hR : Rel X σ ι a w) (hF : Free X σ ι w G) (hv : RAV ι vx u) (hsz : 1 ≤ ty.size)
    (h : (appendSrc ty vx k).run σ = some r) :
    ∃ ys us cs Gs σ1 B m c', u = .slice B m c' ∧ m = ys.length ∧ RowL true w ty ys cs Gs ∧ At w B cs ∧ Rel X σ1 ι a w ∧ Free X σ1 ι w (G ++ Gs.flatten) ∧ (k ys us).run σ1 = some r := by
  unfold appendSrc at h
  split at h
  · rename_i l
    cases hfl : ty.flat with
    | true =>
      rw [hfl] at h
      simp only [cond_true] at h
      obtain ⟨ys, rest, us, vs1, vs2, F, hvs, hrest, hre, _, h⟩ := rdT_run hR h (RVs_list hv)
      split at h
      · cases vs2 with
        | cons _ _ => exact hrest.elim
        | nil =>
          obtain ⟨B, m, c', rfl, hrow⟩ := hre
          rw [List.append_nil] at hvs
          obtain ⟨cs, Fs, hl, hat, _⟩ := RR_list hrow
          have hu : u = .slice B m c' := by simpa [cellsOf] using hvs
          exact ⟨ys, us, cs, List.replicate ys.length [], σ, B, m, c', hu, hrow.1, hl.flat hfl true w, hat, hR, by simpa using hF, h⟩
      · cases h
    | false =>
      rw [hfl] at h
      simp only [cond_false] at h
      obtain ⟨ys, rest, σ1, vs1, vs2, F, hvs, hrest, hre, hR1, hF1, h⟩ := rdO_run hR hF h (RVs_list hv)
      split at h
      · cases vs2 with
        | cons _ _ => exact hrest.elim
        | nil =>
          obtain ⟨B, m, c', rfl, hrow⟩ := hre
          rw [List.append_nil] at hvs
          obtain ⟨cs, Fs, hl, hat, hFF⟩ := RR_list hrow
          have hu : u = .slice B m c' := by simpa [cellsOf] using hvs
          refine ⟨ys, [], cs, Fs, σ1, B, m, c', hu, hrow.1, hl, hat, hR1, ?_, h⟩
          rcases hFF with ⟨h1, h2, _⟩ | ⟨b, o, arr, e, fr, G9, _, _, _, h1, _, _⟩
          · rw [h2]; rw [h1] at hF1; exact hF1
          · rw [h1] at hF1
            have hnd := hF1.nd
            rw [List.nodup_append] at hnd
            refine hF1.sub (fun b' hb' => ?_) ?_
            · rcases List.mem_append.1 hb' with h | h
              · exact List.mem_append.2 (.inl h)
              · exact List.mem_append.2 (.inr (List.mem_cons_of_mem _ (List.mem_append.2 (.inl h))))
            · rw [List.nodup_append]
              exact ⟨hnd.1, (List.nodup_append.1 (List.nodup_cons.1 hnd.2.1).2).1, fun x hx y hy => hnd.2.2 x hx y (List.mem_cons_of_mem _ (List.mem_append.2 (.inl hy)))⟩
      · cases h
  · cases h

theorem asNil_run0 {ι : Nat → Home} {av : AV} {v : Value} (h : asNil av = true) (hv : RAV ι av v) : v = .slice none 0 0 := by
  unfold asNil at h
  split at h
  · exact (RAV_v.1 hv).1
  · cases h

theorem append_args {P : Program} {c : Call} {s x : Operand} {ts tx : TypeId} (hc : c.callee = .builtin .append) (ha : c.args.toList = [s, x]) (ht : c.argTypes.toList = [ts, tx]) (ho : o.op = .call c) {v : Value} {w' : World}
    (h : (Builtin.append_ #[ts, tx] o.type #[a.eval s, a.eval x]).run P w = .ok v w') : (execOp a.eval o).run P w = .ok (.value v) w' := by
  have h1 : c.args = #[s, x] := by rw [← Array.toArray_toList (xs := c.args), ha]
  have h2 : c.argTypes = #[ts, tx] := by rw [← Array.toArray_toList (xs := c.argTypes), ht]
  simp [execOp, ho, resolve, hc, h1, h2, invoke, builtin, h]

theorem op_append {c : Call} (hty : ∀ e t, X.C.ty e = some t → TyOk X.C.P e t) (ho : o.op = .call c) (hc : c.callee = .builtin .append) (hR : Rel X σ ι a w) (h : (opPg X.C nid o).run σ = some ((), σ')) : Done X o σ' a w := by
  simp only [opPg, ho, hc] at h
  split at h
  · rename_i s x ts tx ha ht
    unfold appendPg at h
    split at h
    · rename_i e ty ex he hxe
      obtain ⟨hu, hte⟩ := elemT_run he
      have hux := sliceOf_run hxe
      obtain ⟨inf, z, hi, hsz, hz, hzc⟩ := hty e ty hte
      cases hcc : (bytesOk X.C.P e && Nat.ble 1 ty.size) with
      | false => rw [hcc] at h; cases h
      | true =>
        rw [hcc] at h
        simp only [cond_true] at h
        rw [Bool.and_eq_true] at hcc
        obtain ⟨i', hi', hby, hby1⟩ := bytesOk_run hcc.1
        rw [hi] at hi'
        cases hi'
        have h1 : 1 ≤ ty.size := Nat.le_of_ble_eq_true hcc.2
        have hzs : z.cells.size = ty.size := by
          have := RE_len (RE_zero (own := true) (w := w) ty)
          rw [← hzc] at this
          simpa using this
        obtain ⟨vs, hvs, h2⟩ := opnd_run hR h
        clear h
        obtain ⟨vx, hvx, h3⟩ := opnd_run hR h2
        clear h2
        obtain ⟨ys, us, ds, Gs, σ1, B, m, c', hux', hm, hlG, hatG, hR1, hF1, h⟩ := src_run (G := []) hR Free.nil hvx h1 h3
        clear h3
        simp only [List.nil_append] at hF1
        have hds := hlG.1
        split at h
        · -- nothing yet
          obtain ⟨hs0, _⟩ := RAV_v.1 hvs
          simp only [Pg.run] at h
          cases hlt : decide (ys.length < lim) with
          | false => rw [hlt] at h; cases h
          | true =>
            rw [hlt] at h
            have hlt := of_decide_eq_true hlt
            simp only [lim] at hlt
            obtain ⟨hun, h⟩ := newB_run h
            by_cases hm0 : m = 0
            · have hys : ys = [] := List.eq_nil_of_length_eq_zero (by omega)
              subst hys
              have hds0 : ds = [] := List.eq_nil_of_length_eq_zero (by rw [hds]; simp)
              subst hds0
              have hrun := run_append_none (P := X.C.P) (w := w) hu hux hi (c := 0) (c' := c') (A := none) (B := B) hatG o.type (.inl rfl)
              have hGs : Gs = [] := List.eq_nil_of_length_eq_zero (by simpa using hlG.2.1)
              have hrr : RR true w ty [] none 0 0 [] := ⟨rfl, Nat.le_refl _, .inl ⟨rfl, rfl, fun _ => rfl⟩⟩
              have hR2 := (hR1.take (F := []) (G := []) Free.nil hun (blk := .row ty [] true 0 []) (home := .row none 0 0 []) rfl ⟨_, _, _, _, rfl, fun _ => hrr⟩ rfl (by simp)).1
              refine Done.put hR2 (RAV_sl (upd_same _ _ _)) (append_args hc ha ht ho ?_) h
              rw [hs0, hux', hm0]
              exact hrun
            · obtain ⟨w', hrun, hw', hio⟩ := run_append_grown (P := X.C.P) (w := w) hu hux hi hz (A := none) (B := B) (n := 0) (c := 0) (m := m) (c' := c') (olds := []) (news := ds)
                (fun j u hj => by simp at hj) hatG (by simp) (by rw [hds, hsz, hm]) (by omega) o.type (by omega) hby hby1
              simp only [Nat.zero_add] at hw' hrun
              have hge := grownCap_ge w m 0 e
              have hR2 := hR1.newRow hF1 hun hw' hio hlG (c := grownCap w m 0 e) (by simp) (by omega) (by
                simp only [Array.size_append, List.size_toArray, size_zeroCells, hzs, hds]
                rw [← hm, List.length_nil, Nat.zero_add, ← Nat.add_mul]
                exact Nat.mul_le_mul_right _ (by omega)) (fun b hb => hb) hF1.nd
              rw [← hm] at hR2
              refine Done.put hR2 (RAV_sl (upd_same _ _ _)) (append_args hc ha ht ho ?_) h
              rw [hs0, hux']
              exact hrun
        · rename_i id
          obtain ⟨A, n, cp, F, eι, hs0⟩ := RAV_sc.1 hvs
          have key : ∀ (xs' : List ty.T), (σ1.H id).excl = true → RR true w ty xs' A n cp F →
              (bif disj us [id] then Pg.br (decide (xs'.length + ys.length < lim)) (Pg.putB id .dead (newB nid (.row ty (xs' ++ ys) true 0 []) (putD X.C o.dst (.sc (.sl nid)) (.ret ())))) .fail else .fail : Pg Unit).run σ1 = some ((), σ') → Done X o σ' a w := by
              intro xs' hex hr h
              cases hdj : disj us [id] with
              | false => rw [hdj] at h; cases h
              | true =>
                rw [hdj] at h
                simp only [cond_true, Pg.run] at h
                cases hlt : decide (xs'.length + ys.length < lim) with
                | false => rw [hlt] at h; cases h
                | true =>
                  rw [hlt] at h
                  have hlt := of_decide_eq_true hlt
                  simp only [lim] at hlt
                  simp only [cond_true] at h
                  have hn := hr.1
                  obtain ⟨cs, Fs, hl, hat, hFF⟩ := RR_list hr
                  have hR2 := hR1.kill (id := id) (by intro e9; rw [e9] at hex; cases hex)
                  have hF2 := hF1.give hR1 (id := id) hex
                  rw [eι] at hF2
                  simp only [Home.foot] at hF2
                  obtain ⟨hun, h⟩ := newB_run h
                  have hlcs := hl.1
                  by_cases hfit : n + m ≤ cp
                  · -- it fits
                    rcases hFF with ⟨hF0, hFs0, hcp⟩ | ⟨b, o', arr, el, fr, G9, hA, hbb, hfr, hFe, htk, hroom⟩
                    · have hcp := hcp rfl
                      have hn0 : n = 0 := by omega
                      have hm0 : m = 0 := by omega
                      have hxs : xs' = [] := List.eq_nil_of_length_eq_zero (by omega)
                      have hys : ys = [] := List.eq_nil_of_length_eq_zero (by omega)
                      subst hxs; subst hys
                      have hds0 : ds = [] := List.eq_nil_of_length_eq_zero (by rw [hds]; simp)
                      subst hds0
                      have hrun : (Builtin.append_ #[ts, tx] o.type #[.slice A 0 cp, .slice B 0 c']).run X.C.P w = .ok (.slice A 0 cp) w := by
                        have h0 := run_firstCells (P := X.C.P) (w := w) (n := 0) (c := c') (size := inf.size) (k := 0) hatG (by simp)
                        cases A with
                        | none => simp [Builtin.append_, run_underlying hu, run_underlying hux, sizeOf, typeInfo, hi, Builtin.lenOf, h0]
                        | some a0 => simp [Builtin.append_, run_underlying hu, run_underlying hux, sizeOf, typeInfo, hi, Builtin.lenOf, h0, storeCells]
                      have hrr : RR true w ty ([] ++ []) A 0 cp [] := ⟨rfl, Nat.zero_le _, .inl ⟨rfl, rfl, fun _ => hcp⟩⟩
                      have hR3 := (hR2.take (F := []) (G := []) Free.nil hun (blk := .row ty ([] ++ []) true 0 []) (home := .row A 0 cp []) rfl ⟨_, _, _, _, rfl, fun _ => hrr⟩ rfl (by simp)).1
                      refine Done.put hR3 (RAV_sl (upd_same _ _ _)) (append_args hc ha ht ho ?_) h
                      rw [hs0, hux', hn0, hm0]
                      exact hrun
                    · have hfr := hfr rfl
                      subst hfr
                      simp only [if_true] at hroom
                      have hmul : (n + m) * ty.size ≤ cp * ty.size := Nat.mul_le_mul_right _ hfit
                      rw [Nat.add_mul] at hmul
                      have hrun := run_append_fit (P := X.C.P) (w := w) hu hux hi (A := A) (B := B) (n := n) (c := cp) (m := m) (c' := c') (news := ds) hatG (by rw [hds, hsz, hm]) hfit o.type hA hbb (by rw [hsz, hds, ← hm]; omega) (hlG.one h1)
                      rw [hsz] at hrun
                      let arr' := (arr.toList.take (o' + n * ty.size) ++ ds ++ arr.toList.drop (o' + n * ty.size + ds.length)).toArray
                      have hnd := hF2.nd
                      rw [hFe, List.nodup_append, List.nodup_cons] at hnd
                      obtain ⟨hndG, ⟨hbF, hndF⟩, hdjF⟩ := hnd
                      have hbF : b ∉ Fs.flatten := fun h => hbF (List.mem_append.2 (.inl h))
                      have hndF := (List.nodup_append.1 hndF).1
                      have hbG : b ∉ Gs.flatten := fun hm => hdjF b hm b (by simp) rfl
                      obtain ⟨hR3, hF3⟩ := hR2.freeWrite hF2 (b := b) (by rw [hFe]; simp) (w' := w.setRow b arr') (setRow_size _ _ _) ⟨rfl, rfl, rfl⟩ (fun k hk => setRow_other _ _ _ _ hk)
                      have hl3 : RowL true (w.setRow b arr') ty (xs' ++ ys) (cs ++ ds) (Fs ++ Gs) :=
                        (hl.frame (fun x => x) (fun k hk => setRow_other _ _ _ _ (by intro e; rw [e] at hk; exact hbF hk))).append (hlG.frame (fun x => x) (fun k hk => setRow_other _ _ _ _ (by intro e; rw [e] at hk; exact hbG hk)))
                      have hp0 : o' + n * ty.size + ds.length ≤ arr.size := by rw [hds, ← hm]; omega
                      have harr' : arr'.size = arr.size := by simp [arr']; omega
                      have hlen : (xs' ++ ys).length = n + m := by simp; omega
                      have hrr : RR true (w.setRow b arr') ty (xs' ++ ys) (some ⟨b, o', none⟩) (xs' ++ ys).length cp (b :: (Fs ++ Gs).flatten) := by
                        refine RR_of (arr := arr') (e := el) hl3 (setRow_arr hbb) ?_ (by omega) (by rw [harr']; exact hroom)
                        have hp : o' + n * ty.size + ds.length ≤ arr.toList.length := by simp; rw [hds, ← hm]; omega
                        simp only [arr', List.toList_toArray, List.length_append]
                        apply List.ext_getElem?
                        intro k
                        rw [List.getElem?_take, List.getElem?_append, hlcs]
                        split
                        · rename_i hk
                          rw [List.getElem?_drop, seg_get hp]
                          by_cases hk2 : k < xs'.length * ty.size
                          · rw [if_neg (by rw [hn]; omega), if_pos hk2]
                            have := congrArg (fun l => l[k]?) htk
                            simp only [List.getElem?_take] at this
                            rw [if_pos (by rw [hlcs]; exact hk2), List.getElem?_drop] at this
                            exact this
                          · rw [if_pos (by rw [hn]; omega), if_neg hk2]
                            congr 1
                            rw [hn]; omega
                        · rename_i hk
                          rw [if_neg (by omega), List.getElem?_eq_none (by omega)]
                      rw [hlen] at hrr
                      have hR4 := (hR3.take (F := b :: (Fs ++ Gs).flatten) (G := []) (by
                        rw [List.append_nil]
                        refine hF3.sub (fun k hk => ?_) ?_
                        · rw [hFe]
                          rcases List.mem_cons.1 hk with rfl | hk
                          · simp
                          · rw [List.flatten_append] at hk
                            rcases List.mem_append.1 hk with hk | hk
                            · simp only [List.mem_append, List.mem_cons]; exact .inr (.inr (.inl hk))
                            · simp only [List.mem_append]; exact .inl hk
                        · rw [List.nodup_cons, List.flatten_append, List.nodup_append]
                          exact ⟨fun hm => by rcases List.mem_append.1 hm with hm | hm; exact hbF hm; exact hbG hm, hndF, hndG, fun p hp q hq e => hdjF q hq p (List.mem_cons_of_mem _ (List.mem_append.2 (.inl hp))) e.symm⟩) hun
                        (blk := .row ty (xs' ++ ys) true 0 []) (home := .row (some ⟨b, o', none⟩) (n + m) cp (b :: (Fs ++ Gs).flatten)) rfl ⟨_, _, _, _, rfl, fun _ => hrr⟩ rfl (by simp)).1
                      refine Done.put hR4 (RAV_sl (upd_same _ _ _)) (append_args hc ha ht ho ?_) h
                      rw [hs0, hux', hrun, hA]
                  · obtain ⟨w', hrun, hw', hio⟩ := run_append_grown (P := X.C.P) (w := w) hu hux hi hz (A := A) (B := B) (n := n) (c := cp) (m := m) (c' := c') (olds := cs) (news := ds)
                      hat hatG (by rw [hlcs, hsz, hn]) (by rw [hds, hsz, hm]) (by omega) o.type (by omega) hby hby1
                    have hge := grownCap_ge w (n + m) cp e
                    have hlen : (xs' ++ ys).length = n + m := by simp; omega
                    have hsub : ∀ k ∈ Fs.flatten, k ∈ F := by
                      rcases hFF with ⟨_, h0, _⟩ | ⟨b, _, _, _, _, _, _, _, _, h0, _, _⟩
                      · rw [h0]; simp
                      · rw [h0]; exact fun k hk => List.mem_cons_of_mem _ (List.mem_append.2 (.inl hk))
                    have hndFs : Fs.flatten.Nodup := by
                      have := hF2.nd
                      rw [List.nodup_append] at this
                      rcases hFF with ⟨_, h0, _⟩ | ⟨b, _, _, _, _, _, _, _, _, h0, _, _⟩
                      · rw [h0]; simp
                      · rw [h0] at this; exact (List.nodup_append.1 (List.nodup_cons.1 this.2.1).2).1
                    have hnd := hF2.nd
                    rw [List.nodup_append] at hnd
                    have hR3 := hR2.newRow hF2 hun hw' hio (hl.append hlG) (c := grownCap w (n + m) cp e) (by
                        rw [show (cs.toArray ++ ds.toArray ++ Builtin.zeroCells z.cells (grownCap w (n + m) cp e - (n + m))).toList = (cs ++ ds) ++ (Builtin.zeroCells z.cells (grownCap w (n + m) cp e - (n + m))).toList by simp]
                        exact List.take_left) (by omega) (by
                        simp only [Array.size_append, List.size_toArray, size_zeroCells, hzs, hds, hlcs]
                        rw [← hm, ← hn, ← Nat.add_mul, ← Nat.add_mul]
                        exact Nat.mul_le_mul_right _ (by omega)) (fun b hb => by
                          rw [List.flatten_append] at hb
                          rcases List.mem_append.1 hb with hb | hb
                          · exact List.mem_append.2 (.inr (hsub b hb))
                          · exact List.mem_append.2 (.inl hb)) (by
                          rw [List.flatten_append, List.nodup_append]
                          exact ⟨hndFs, hnd.1, fun p hp q hq e => hnd.2.2 q hq p (hsub p hp) e.symm⟩)
                    rw [hlen] at hR3
                    refine Done.put hR3 (RAV_sl (upd_same _ _ _)) (append_args hc ha ht ho ?_) h
                    rw [hs0, hux']
                    exact hrun
          replace h := getB_run h
          split at h
          · rename_i t' xs ver hb
            split at h
            · rename_i xs' hx'
              obtain ⟨rfl, rfl⟩ := castRow_some hx'
              exact key _ (by rw [hb]; rfl) (row_of hR1 hb (chk_none rfl) eι) h
            · cases h
          · rename_i t' xs xs2 ver hb
            split at h
            · rename_i xs' hx'
              obtain ⟨rfl, rfl⟩ := castRow_some hx'
              obtain ⟨hnw, hrw⟩ := win_of hR1 hb (chk_none rfl) eι
              exact key _ (by rw [hb]; rfl) (RR_pre hnw hrw) h
            · cases h
          · cases h
        · cases h
    · rename_i e ty he hxe
      obtain ⟨hu, hte⟩ := elemT_run he
      obtain ⟨inf, z, hi, hsz, hz, hzc⟩ := hty e ty hte
      cases hcc : (isIntT X.C.P tx && bytesOk X.C.P e && Nat.ble 1 ty.size) with
      | false => rw [hcc] at h; cases h
      | true =>
        rw [hcc] at h
        simp only [cond_true] at h
        rw [Bool.and_eq_true, Bool.and_eq_true] at hcc
        obtain ⟨kx, hux⟩ := isIntT_run hcc.1.1
        obtain ⟨i', hi', hby, hby1⟩ := bytesOk_run hcc.1.2
        rw [hi] at hi'
        cases hi'
        have h1 : 1 ≤ ty.size := Nat.le_of_ble_eq_true hcc.2
        have hzs : z.cells.size = ty.size := by
          have := RE_len (RE_zero (own := true) (w := w) ty)
          rw [← hzc] at this
          simpa using this
        obtain ⟨vs, hvs, h2⟩ := opnd_run hR h
        clear h
        cases hn : asNil vs with
        | false => rw [hn] at h2; cases h2
        | true =>
          rw [hn] at h2
          simp only [cond_true] at h2
          have hs0 := asNil_run0 hn hvs
          obtain ⟨vx, hvx, h⟩ := opnd_run hR h2
          clear h2
          split at h
          · rename_i q m
            obtain ⟨hx, _⟩ := RAV_v.1 hvx
            simp only [Pg.run] at h
            cases h0 : decide (0 ≤ m) with
            | false => rw [h0] at h; cases h
            | true =>
              rw [h0] at h
              simp only [cond_true] at h
              cases hl : decide (m < (lim : Int)) with
              | false => rw [hl] at h; cases h
              | true =>
                rw [hl] at h
                simp only [cond_true] at h
                have h0 := of_decide_eq_true h0
                have hl := of_decide_eq_true hl
                simp only [lim] at hl
                obtain ⟨hun, h⟩ := newB_run h
                obtain ⟨m, rfl⟩ := Int.eq_ofNat_of_zero_le h0
                simp only [Int.toNat_natCast] at h hun
                by_cases hm0 : m = 0
                · subst hm0
                  have hrun : (Builtin.append_ #[ts, tx] o.type #[.slice none 0 0, .int q 0]).run X.C.P w = .ok (.slice none 0 0) w := by
                    have hw : IntKind.i64.wrap (0 : Int) = 0 := wrap_small (by omega) (by omega)
                    simp [Builtin.append_, run_underlying hu, run_underlying hux, sizeOf, typeInfo, hi, asInt, asIntOf, hw]
                  have hrr : RR true w ty [] none 0 0 [] := ⟨rfl, Nat.le_refl _, .inl ⟨rfl, rfl, fun _ => rfl⟩⟩
                  have hR2 := (hR.take (F := []) (G := []) Free.nil hun (blk := .row ty [] true 0 []) (home := .row none 0 0 []) rfl ⟨_, _, _, _, rfl, fun _ => hrr⟩ rfl (by simp)).1
                  refine Done.put hR2 (RAV_sl (upd_same _ _ _)) (append_args hc ha ht ho ?_) h
                  rw [hs0, hx]
                  exact hrun
                · obtain ⟨w', hrun, hw', hio⟩ := run_append_zeros (P := X.C.P) (w := w) (q := q) hu hux hi hz (m := m) (by omega) (by omega) o.type hby hby1 (by omega)
                  have hge := grownCap_ge w m 0 e
                  have hzl : (Builtin.zeroCells z.cells m).size = m * ty.size := by rw [size_zeroCells, hzs]
                  have hrl : RowL true w ty (List.replicate m ty.dflt) (Builtin.zeroCells z.cells m).toList (List.replicate m []) := by
                    refine ⟨by simp [hzl], by simp, fun i x Fi hx hF => ?_⟩
                    have hi : i < m := by have := (List.getElem?_eq_some_iff.1 hx).1; simpa using this
                    rw [List.getElem?_replicate, if_pos hi] at hx hF
                    cases hx
                    cases hF
                    have := periodic (z := z.cells) (n := m * ty.size) (i := i) hzs h1 (Nat.mul_le_mul_right _ hi)
                    have e2 : Builtin.zeroCells z.cells m = (Array.range (m * ty.size)).map (fun j => z.cells[j % z.cells.size]!) := by simp [Builtin.zeroCells, hzs]
                    rw [e2, this, hzc]
                    exact RE_zero ty
                  have hfl : (List.replicate m ([] : List Nat)).flatten = [] := by simp
                  have hR2 := hR.newRow (G := []) Free.nil hun hw' hio hrl (c := grownCap w m 0 e) (by
                      rw [show (Builtin.zeroCells z.cells m ++ Builtin.zeroCells z.cells (grownCap w m 0 e - m)).toList = (Builtin.zeroCells z.cells m).toList ++ (Builtin.zeroCells z.cells (grownCap w m 0 e - m)).toList by simp]
                      exact List.take_left) (by simpa using hge) (by
                      simp only [Array.size_append, size_zeroCells, hzs]
                      rw [← Nat.add_mul]
                      exact Nat.mul_le_mul_right _ (by omega)) (by rw [hfl]; simp) (by rw [hfl]; simp)
                  simp only [List.length_replicate] at hR2
                  refine Done.put hR2 (RAV_sl (upd_same _ _ _)) (append_args hc ha ht ho ?_) h
                  rw [hs0, hx]
                  exact hrun
          · cases h
    · cases h
  · cases h
end
end Go.Ev
