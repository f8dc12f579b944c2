/- A part of a verified evaluator of the model's code: what it evaluates is what a call returns; no condition beyond the theorems' own hypotheses. -/
import Derived.Test.YtdlpejdadikggaaEv3
set_option linter.unusedVariables false
namespace Go.Ev
open Go
noncomputable section

/-! Operations. -/
section
variable {α : Type}

def plainPg (C : Cfg) (o : Oper) (k : AV → Pg α) : Pg α :=
  opnds o.op.operands.toList fun vs => match plainAVs vs with
    | none => .fail
    | some xs => match pureNext C.P 60 (execOp (look o.op.operands.toList xs) o) with
      | some (.tuple _) => .fail
      | some (.agg cs) => bif cs.toList.all (·.oneCell') then k (.one (cs.toList.map .v) true) else .fail
      | some v => k (.sc (.v v))
      | none => .fail

def intOp (op : BinOp) (q : IntKind) (a : Int) (q' : IntKind) (b : Int) (put : AV → Pg α) : Pg α :=
  match op with
  | .shl => .br (decide (b < 0)) .fail (put (.sc (.v (.int q (q.wrap (a * 2 ^ min b.toNat q.bits))))))
  | .shr => .br (decide (b < 0)) .fail (put (.sc (.v (.int q (a.fdiv (2 ^ min b.toNat q.bits))))))
  | op => if q = q' then match op with
    | .add => put (.sc (.v (.int q (q.wrap (a + b)))))
    | .sub => put (.sc (.v (.int q (q.wrap (a - b)))))
    | .mul => put (.sc (.v (.int q (q.wrap (a * b)))))
    | .quo => .br (b == 0) .fail (put (.sc (.v (.int q (q.wrap (a.tdiv b))))))
    | .rem => .br (b == 0) .fail (put (.sc (.v (.int q (a.tmod b)))))
    | .and => put (.sc (.v (.int q (q.wrap (BitVec.ofInt q.bits a &&& BitVec.ofInt q.bits b).toNat))))
    | .or => put (.sc (.v (.int q (q.wrap (BitVec.ofInt q.bits a ||| BitVec.ofInt q.bits b).toNat))))
    | .xor => put (.sc (.v (.int q (q.wrap (BitVec.ofInt q.bits a ^^^ BitVec.ofInt q.bits b).toNat))))
    | .andNot => put (.sc (.v (.int q (q.wrap (BitVec.ofInt q.bits a &&& ~~~ BitVec.ofInt q.bits b).toNat))))
    | .eql => put (.sc (.v (.bool (a == b))))
    | .neq => put (.sc (.v (.bool (a != b))))
    | .lss => put (.sc (.v (.bool (decide (a < b)))))
    | .leq => put (.sc (.v (.bool (decide (a ≤ b)))))
    | .gtr => put (.sc (.v (.bool (decide (a > b)))))
    | .geq => put (.sc (.v (.bool (decide (a ≥ b)))))
    | _ => .fail
    else .fail

def noTops : List Sc → Bool
  | [] => true
  | .top :: _ => false
  | .und :: _ => false
  | _ :: l => noTops l

def placesOf (P : Program) (t : TypeId) : Option (Nat → Option (Nat × Nat)) :=
  match P.underlying t with
  | some (.struct fs) => match fs.toList.mapM (fun f => (P.info? f.type).map fun i => (f.offset, i.size)) with
    | some pl => some fun i => pl.toArray[i]?
    | none => none
  | some (.array _ e) => match P.info? e with
    | some inf => some fun i => some (i * inf.size, inf.size)
    | none => none
  | _ => none

def zipParts : List (Nat × Operand) → List AV → List (Nat × AV)
  | (i, _) :: ps, v :: vs => (i, v) :: zipParts ps vs
  | _, _ => []

/-- the element type of a slice type, with what is known of it -/
def elemT (C : Cfg) (t : TypeId) : Option (TypeId × Ty) :=
  match sliceOf C.P t with
  | some e => match C.ty e with
    | some ty => some (e, ty)
    | none => none
  | none => none

def bytesOk (P : Program) (e : TypeId) : Bool :=
  match P.info? e with
  | some i => Nat.ble i.bytes 128 && Nat.ble 1 i.bytes
  | none => false

def appendSrc (ty : Ty) (vx : AV) (k : List ty.T → List Nat → Pg α) : Pg α :=
  match vx with
  | .one l false => bif ty.flat then rdT (.sl ty) l fun ys r u => match r with
      | [] => k ys u
      | _ => .fail
    else rdO (.sl ty) l fun ys r => match r with
      | [] => k ys []
      | _ => .fail
  | _ => .fail

def isIntT (P : Program) (t : TypeId) : Bool :=
  match P.underlying t with
  | some (.int _) => true
  | _ => false

def appendPg (C : Cfg) (ts tx : TypeId) (s x : Operand) (nid : Nat) (put : AV → Pg α) : Pg α :=
  match elemT C ts, sliceOf C.P tx with
  | some (e, ty), some _ => bif bytesOk C.P e && Nat.ble 1 ty.size then
      opnd s fun vs => opnd x fun vx =>
        appendSrc ty vx fun ys u => match vs with
          | .one [.v (.slice none 0 0)] false => .br (decide (ys.length < lim)) (newB nid (.row ty ys true 0 []) (put (.sc (.sl nid)))) .fail
          | .one [.sl id] false => .getB id fun
            | .row t' xs true _ [] => match castRow t' ty xs with
              | some xs => bif disj u [id] then .br (decide (xs.length + ys.length < lim)) (.putB id .dead (newB nid (.row ty (xs ++ ys) true 0 []) (put (.sc (.sl nid))))) .fail else .fail
              | none => .fail
            | .win t' xs _ true _ [] => match castRow t' ty xs with
              | some xs => bif disj u [id] then .br (decide (xs.length + ys.length < lim)) (.putB id .dead (newB nid (.row ty (xs ++ ys) true 0 []) (put (.sc (.sl nid))))) .fail else .fail
              | none => .fail
            | _ => .fail
          | _ => .fail
    else .fail
  | some (e, ty), none => bif isIntT C.P tx && bytesOk C.P e && Nat.ble 1 ty.size then
      opnd s fun vs => bif asNil vs then opnd x fun
        | .one [.v (.int _ n)] false => .br (decide (0 ≤ n)) (.br (decide (n < (lim : Int))) (newB nid (.row ty (List.replicate n.toNat ty.dflt) true 0 []) (put (.sc (.sl nid)))) .fail) .fail
        | _ => .fail
      else .fail
    else .fail
  | none, _ => .fail

def optInt (x : Option Operand) (d : Int) (k : Int → Pg α) : Pg α :=
  match x with
  | none => k d
  | some o => opnd o fun
    | .one [.v (.int _ n)] false => k n
    | _ => .fail

def brIf (c : Bool) (b : Bool) (k : Pg α) : Pg α := bif c then .br b k .fail else k

def sameOp : Operand → Operand → Bool
  | .tmp a, .tmp b => Nat.beq a b
  | .const (.int _ a), .const (.int _ b) => a == b
  | _, _ => false

def isSl : List AV → Bool
  | .one [.sl _] false :: _ => true
  | _ => false

def allOnes : List AV → Option (List (List Sc × Bool))
  | [] => some []
  | .one l g :: vs => match allOnes vs with
    | some r => some ((l, g) :: r)
    | none => none
  | _ => none
end

/-- a row that stands in a row of one's own, lent to a call -/
structure Loan where
  t : Ty
  xs : List (List t.T)
  sid : Nat
  i : Nat
  pid : Nat
  ver : Nat

def ownFirst : List BTy → Bool
  | .own _ :: _ => true
  | _ => false

def slFirst : List AV → Option Nat
  | .one [.sl id] false :: _ => some id
  | _ => none

def borrow {α : Type} (ps : List BTy) (avs : List AV) (k : Option Loan → Pg α) : Pg α :=
  bif ownFirst ps then match slFirst avs with
    | some sid => .getB sid fun
      | .row _ _ false sv _ => .getB (sid + 4) fun
        | .idx t xs sid' i pid ver => bif Nat.beq sid sid' && !Nat.beq sid pid then .getB pid fun
            | .row _ _ true ver' [] => bif Nat.beq ver ver' then .putB pid .dead (.putB sid .dead (.putB sid (.row t (xs.getD i []) true (sv + 1) []) (k (some ⟨t, xs, sid, i, pid, ver⟩)))) else .fail
            | _ => .fail
          else .fail
        | _ => k none
      | _ => k none
    | none => k none
  else k none

def giveBack {α : Type} (l : Option Loan) (k : Pg α) : Pg α :=
  match l with
  | none => k
  | some l => .getB l.sid fun
    | .row t' y true _ [] => match castRow t' l.t y with
      | some y => .getB l.pid fun
        | .dead => .putB l.sid .dead (.putB l.pid (.row (.sl l.t) (l.xs.set l.i y) true (l.ver + 1) []) k)
        | _ => .fail
      | none => .fail
    | _ => .fail

/-- where a row was found that stands in a row of one's own -/
def idxB {α : Type} : (own : Bool) → (ty : Ty) → List ty.T → (nid i id ver : Nat) → (par : List (Nat × Nat)) → Pg α → Pg α
  | true, .sl t, xs, nid, i, id, ver, [], k => newB (nid + 4) (.idx t xs nid i id ver) k
  | _, _, _, _, _, _, _, _, k => k

/-- the first part of a row of one's own; what stands behind it stays behind -/
def winPg {α : Type} (C : Cfg) (nid : Nat) (t : TypeId) (id : Nat) (hi : Option Operand) (b : Blk) (put : AV → Pg α) : Pg α :=
  match b with
  | .row ty xs true _ [] => bif elemSz C.P t ty.size then optInt hi xs.length fun h => .br (decide (0 ≤ h)) (.br (decide (h ≤ (xs.length : Int)))
      (.putB id .dead (newB nid (.win ty (xs.take h.toNat) (xs.drop h.toNat) true 0 []) (put (.sc (.sl nid))))) .fail) .fail
    else .fail
  | .win ty xs ys true _ [] => bif elemSz C.P t ty.size then optInt hi xs.length fun h => .br (decide (0 ≤ h)) (.br (decide (h ≤ ((xs ++ ys).length : Int)))
      (.putB id .dead (newB nid (.win ty ((xs ++ ys).take h.toNat) ((xs ++ ys).drop h.toNat) true 0 []) (put (.sc (.sl nid))))) .fail) .fail
    else .fail
  | _ => .fail

/-- a row has a new id: what names it is put anew -/
def retgt {α : Type} (id nid : Nat) : List Nat → Pg α → Pg α
  | [], k => k
  | t :: l, k => .get t fun
    | .one [.sl id'] false => bif Nat.beq id id' then .put t (.sc (.sl nid)) (retgt id nid l k) else retgt id nid l k
    | _ => retgt id nid l k

def opPg (C : Cfg) (nid : Nat) (o : Oper) : Pg Unit :=
  let put (v : AV) : Pg Unit := putD C o.dst v (.ret ())
  match o.op with
  | .move x => opnd x put
  | .assign x => opnd x put
  | .pick c a b => match c with
    | .tmp t => .brT t (opnd a put) (opnd b put)
    | _ => .fail
  | .alloc e => match zeroS C.P e with
    | some l => newB nid (.cells l false) (put (.sc (.ptr nid 0)))
    | none => .fail
  | .box _ x => opnd x fun
    | .one l g => bif g || notTop l then newB nid (.cells l false) (put (.sc (.ptr nid 0))) else .fail
    | _ => .fail
  | .build t ps => opnds (ps.toList.map (·.2)) fun vs => match zeroS C.P t with
    | some z => match placesOf C.P t with
      | some pl => match fillS pl z (zipParts ps.toList vs) with
        | some l => put (.one l true)
        | none => .fail
      | none => .fail
    | none => .fail
  | .buildSlice t n ps => match elemT C t with
    | some (e, ty) => bif Nat.beq ps.size n && Nat.ble (n * ty.size) 16777216 && Nat.ble 1 ty.size then
        opnds (ps.toList.map (·.2)) fun vs => bif C.share && !ty.flat then rdPartsS ty (isAggB C.P e) 0 (zipParts ps.toList vs) fun xs p => newB nid (.row ty xs false 0 p) (put (.sc (.sl nid)))
        else rdParts ty (isAggB C.P e) 0 (zipParts ps.toList vs) fun xs => newB nid (.row ty xs true 0 []) (put (.sc (.sl nid)))
      else .fail
    | none => .fail
  | .load t a => opnd a fun
    | .one [.ptr id off] false => .getB id fun
      | .cells l _ => match partS C.P t l off with
        | some v => put v
        | none => .fail
      | _ => .fail
    | .one [.elt id i j sz] false => .getB id fun
      | .row ty xs own ver par => bif Nat.beq ty.size sz then chkPar par (
          let u := unT false ((bif own then [(id, ver)] else []) ++ par) ty (xs.getD i ty.dflt) nid
          match partS C.P t u.1 j with
          | some v => newBs nid u.2 (idxB own ty xs nid i id ver par (put v))
          | none => .fail) else .fail
      | .win ty xs _ false _ par => bif Nat.beq ty.size sz then chkPar par (
          let u := unT false par ty (xs.getD i ty.dflt) nid
          match partS C.P t u.1 j with
          | some v => newBs nid u.2 (put v)
          | none => .fail) else .fail
      | _ => .fail
    | _ => .fail
  | .store t a x => opnd a fun va => opnd x fun
    | .one v _ => bif noTops v && szIs C.P t v.length then match va with
      | .one [.ptr id off] false => .getB id fun
        | .cells l false => bif Nat.ble (off + v.length) l.length then .putB id (.cells (setS l off v) false) (put (.sc .top)) else .fail
        | _ => .fail
      | .one [.elt id i j sz] false => .getB id fun
        | .row ty xs true ver [] => bif Nat.beq ty.size sz then
            (bif ty.flat then
              (bif Nat.ble (j + v.length) ty.size then rdT ty (setS (unT false [] ty (xs.getD i ty.dflt) nid).1 j v) fun x' r _ => match r with
                | [] => .putB id (.row ty (xs.set i x') true (ver + 1) []) (put (.sc .top))
                | _ => .fail
              else .fail)
            else (bif Nat.beq j 0 && Nat.beq v.length ty.size then .putB id .dead (rdO ty v fun x' r => match r with
                | [] => newB nid (.row ty (xs.set i x') true 0 []) (retgt id nid C.rt (put (.sc .top)))
                | _ => .fail)
              else .fail))
          else .fail
        | _ => .fail
      | _ => .fail
      else .fail
    | _ => .fail
  | .nilCheck x => opnd x fun v => match v with
    | .one [.ptr _ _] false => put v
    | .one [.elt _ _ _ _] false => put v
    | .one [.fn _ _] false => put v
    | .one [.v (.func (.func _) _ _)] false => put v
    | _ => .fail
  | .fieldAddr s x f => match fieldOf C.P s f with
    | some (off, _, _) => opnd x fun
      | .one [.ptr id o] false => put (.sc (.ptr id (o + off)))
      | .one [.elt id i j sz] false => put (.sc (.elt id i (j + off) sz))
      | _ => .fail
    | none => .fail
  | .field s x f => match fieldOf C.P s f with
    | some (off, t, _) => opnd x fun
      | .one l true => match partS C.P t l off with
        | some v => put v
        | none => .fail
      | _ => .fail
    | none => .fail
  | .indexAddr t x i => opnd x fun
    | .one [.sl id] false => opnd i fun
      | .one [.v (.int _ n)] false => .getB id fun
        | .row ty xs _ _ par => bif elemSz C.P t ty.size then
            chkPar par (.br (decide (0 ≤ n)) (.br (decide (n < (xs.length : Int))) (put (.sc (.elt id n.toNat 0 ty.size))) .fail) .fail)
          else .fail
        | .win ty xs _ _ _ par => bif elemSz C.P t ty.size then
            chkPar par (.br (decide (0 ≤ n)) (.br (decide (n < (xs.length : Int))) (put (.sc (.elt id n.toNat 0 ty.size))) .fail) .fail)
          else .fail
        | _ => .fail
      | _ => .fail
    | .one [.ptr id off] false => match arrayOf C.P t with
      | some (m, _, sz) => opnd i fun
        | .one [.v (.int _ n)] false => among m n (fun j => put (.sc (.ptr id (off + j * sz)))) m
        | _ => .fail
      | none => .fail
    | _ => .fail
  | .index t x i => opnd x fun
    | .one l true => match arrayOf C.P t with
      | some (m, e, sz) => opnd i fun
        | .one [.v (.int _ n)] false => among m n (fun j => match partS C.P e l (j * sz) with
            | some v => put v
            | none => .fail) m
        | _ => .fail
      | none => .fail
    | _ => .fail
  | .slice t x lo hi mx => opnd x fun
    | .one [.sl id] false => .getB id fun b => bif C.win && (ownVer b).isSome && lo.isNone && mx.isNone then winPg C nid t id hi b put else match b with
      | .row ty xs own ver par => bif elemSz C.P t ty.size && (hi.isSome || mx.isNone) then
          chkPar par (optInt lo 0 fun l => optInt hi xs.length fun h => optInt mx xs.length fun m =>
            brIf lo.isSome (decide (0 ≤ l)) (brIf (lo.isSome || hi.isSome) (decide (l ≤ h)) (brIf (hi.isSome || mx.isSome) (decide (h ≤ m)) (brIf mx.isSome (decide (m ≤ (xs.length : Int)))
              (newB nid (.row ty ((xs.take h.toNat).drop l.toNat) false 0 ((bif own then [(id, ver)] else []) ++ par)) (put (.sc (.sl nid))))))))
        else .fail
      | .win ty xs ys false _ par => bif elemSz C.P t ty.size && mx.isNone then
          chkPar par (optInt lo 0 fun l => optInt hi xs.length fun h =>
            brIf lo.isSome (decide (0 ≤ l)) (brIf (lo.isSome || hi.isSome) (decide (l ≤ h)) (brIf hi.isSome (decide (h ≤ ((xs ++ ys).length : Int)))
              (newB nid (.row ty (((xs ++ ys).take h.toNat).drop l.toNat) false 0 par) (put (.sc (.sl nid)))))))
        else .fail
      | _ => .fail
    | _ => plainPg C o put
  | .makeSlice t len cap => match elemT C t with
    | some (e, ty) => bif sameOp len cap && bytesOk C.P e && Nat.ble 1 ty.size then opnd len fun
        | .one [.v (.int _ n)] false => .br (decide (0 ≤ n)) (.br (decide (n < (lim : Int))) (newB nid (.row ty (List.replicate n.toNat ty.dflt) true 0 []) (put (.sc (.sl nid)))) .fail) .fail
        | _ => .fail
      else .fail
    | none => .fail
  | .extract x i => opnd x fun
    | .tup l => match l[i]? with
      | some c => put (.one c.1 c.2)
      | none => .fail
    | _ => .fail
  | .makeFunc (.func f) first caps => bif Nat.beq first.size 0 then opnds caps.toList fun vs => match allOnes vs with
      | some l => newB nid (.clo l) (put (.sc (.fn f nid)))
      | none => .fail
    else .fail
  | .binOp op _ x y _ => opnd x fun vx => opnd y fun vy => match vx, vy with
    | .one [.v (.int q a)] false, .one [.v (.int q' b)] false => intOp op q a q' b put
    | _, _ => plainPg C o put
  | .unOp _ _ _ => plainPg C o put
  | .convert _ _ _ => plainPg C o put
  | .call c => match c.callee with
    | .builtin .len => opnds c.args.toList fun
      | [.one [.sl id] false] => match c.argTypes[0]? with
        | some t => match sliceOf C.P t with
          | some _ => .getB id fun
            | .row _ xs _ _ par => chkPar par (put (.sc (.v (.int .i64 xs.length))))
            | .win _ xs _ _ _ par => chkPar par (put (.sc (.v (.int .i64 xs.length))))
            | _ => .fail
          | none => .fail
        | none => .fail
      | _ => plainPg C o put
    | .builtin .append => match c.args.toList, c.argTypes.toList with
      | [s, x], [ts, tx] => appendPg C ts tx s x nid put
      | _, _ => .fail
    | .builtin _ => plainPg C o put
    | .value f => opnd f fun fv => opnds c.args.toList fun avs => match asFn0 fv with
      | some g => match C.G g (fnIds avs) with
        | some v => borrow v.ps avs fun l => callV C v avs o.dst nid (giveBack l (.ret ()))
        | none => .fail
      | none => match asFn fv with
        | some (g, id) => .getB id fun
          | .clo l => match C.G g (fnIds avs) with
            | some v => callV C v (avs ++ l.map fun p => .one p.1 p.2) o.dst nid (.ret ())
            | none => .fail
          | _ => .fail
        | none => .fail
    | .invoke _ _ => .fail
  | _ => .fail

def isUnd : AV → Bool
  | .one [.und] false => true
  | _ => false

def gopPg (C : Cfg) (ops : Array Oper) (nid : Nat) (o : Oper) : Pg Unit :=
  match o.guard with
  | none => opPg C nid o
  | some (j, want) => match (ops[j]?).bind (·.dst) with
    | some t => match want with
      | true => .get t fun v => bif isUnd v then putD C o.dst (.sc .und) (.ret ()) else .brT t (opPg C nid o) (putD C o.dst (.sc .und) (.ret ()))
      | false => .get t fun v => bif isUnd v then putD C o.dst (.sc .und) (.ret ()) else .brT t (putD C o.dst (.sc .und) (.ret ())) (opPg C nid o)
    | none => .fail

/-! Regions. -/
section
variable {A : Type}
def evOps (C : Cfg) (ops : Array Oper) : List Oper → Nat → St → (St → Option A) → Option A
  | [], _, s, K => K s
  | o :: l, nid, s, K => (gopPg C ops nid o).runK s fun _ s => evOps C ops l (nid + 8) s K

abbrev Fp := List Loc × List Loc
def evOpsF (C : Cfg) (ops : Array Oper) : List Oper → Nat → St → List Fp → (St → List Fp → Option A) → Option A
  | [], _, s, fs, K => K s fs
  | o :: l, nid, s, fs, K => (gopPg C ops nid o).runF s [] [] fun _ s r w => evOpsF C ops l (nid + 8) s (fs ++ [(r, w)]) K
end

def locBeq (a b : Loc) : Bool := a.1 == b.1 && Nat.beq a.2 b.2
def meetL (a b : List Loc) : Bool := a.any fun x => b.any fun y => locBeq x y
def conflictF (a b : Fp) : Bool := meetL a.2 b.1 || meetL a.2 b.2 || meetL b.2 a.1

def directs (o : Oper) : List Nat := (o.after.toList.filter (Region.binds .any)).map (·.on)

/-- what each operation waits for, told forward -/
def ancs : List Oper → List (List Nat) → List (List Nat)
  | [], acc => acc
  | o :: l, acc => ancs l (acc ++ [(directs o ++ (directs o).flatMap fun i => acc.getD i []).eraseDups])

def forwardB : List Oper → Nat → Bool
  | [], _ => true
  | o :: l, n => ((directs o).all fun i => Nat.blt i n) && (match o.guard with | some (j, _) => (directs o).any fun i => Nat.beq i j | none => true) && forwardB l (n + 1)

def indepAt (an : List (List Nat)) (fj : Fp) (j : Nat) : List Fp → Nat → Bool
  | [], _ => true
  | fi :: l, i => (!conflictF fi fj || (an.getD j []).any fun x => Nat.beq x i) && indepAt an fj j l (i + 1)

def indepF (an : List (List Nat)) : List Fp → List Fp → Nat → Bool
  | _, [], _ => true
  | done, f :: l, j => indepAt an f j done 0 && indepF an (done ++ [f]) l (j + 1)

def indep (ops : Array Oper) (fs : List Fp) : Bool := forwardB ops.toList 0 && indepF (ancs ops.toList []) [] fs 0

/-! Patterns. -/
structure PE where
  tmp : Nat
  id : Nat
  b : BTy
  pin : Bool

def mkCaps : (caps : List (Ty × CK)) → CapT caps → Nat → List (List Sc × Bool) × List Blk
  | [], _, _ => ([], [])
  | (t, .sc) :: cs, x, i => (((unT false [] t x.1 i).1, false) :: (mkCaps cs x.2 (i + (unT false [] t x.1 i).2.length)).1, (unT false [] t x.1 i).2 ++ (mkCaps cs x.2 (i + (unT false [] t x.1 i).2.length)).2)
  | (t, .ag) :: cs, x, i => (((unT false [] t x.1 i).1, true) :: (mkCaps cs x.2 (i + (unT false [] t x.1 i).2.length)).1, (unT false [] t x.1 i).2 ++ (mkCaps cs x.2 (i + (unT false [] t x.1 i).2.length)).2)
  | (t, .pr) :: cs, x, i => (([.ptr (i + (unT false [] t x.1 i).2.length) 0], false) :: (mkCaps cs x.2 (i + (unT false [] t x.1 i).2.length + 1)).1, (unT false [] t x.1 i).2 ++ .cells (unT false [] t x.1 i).1 true :: (mkCaps cs x.2 (i + (unT false [] t x.1 i).2.length + 1)).2)

def St.empty : St := ⟨fun _ => .sc .top, fun _ => .unborn⟩

abbrev PTe (l : List PE) : Type := PT (l.map (·.b))

def mkE {α : Type} (C : Cfg) (e : PE) (x : e.b.T) (k : Pg α) : Pg α :=
  match e, x with
  | ⟨tmp, id, .val t g, _⟩, x => newBs id (unT false [] t x id).2 (putD C (some tmp) (.one (unT false [] t x id).1 g) k)
  | ⟨tmp, id, .ptr t mu, _⟩, x => newBs (id + 1) (unT false [] t x (id + 1)).2 (newB id (.cells (unT false [] t x (id + 1)).1 (!mu)) (putD C (some tmp) (.sc (.ptr id 0)) k))
  | ⟨tmp, id, .own t, _⟩, x => newB id (.row t x true 0 []) (putD C (some tmp) (.sc (.sl id)) k)
  | ⟨tmp, id, .eat t, _⟩, x => newB id (.row t x true 0 []) (putD C (some tmp) (.sc (.sl id)) k)
  | ⟨tmp, id, .fn f caps, _⟩, x => newBs (id + 1) (mkCaps caps x (id + 1)).2 (newB id (.clo (mkCaps caps x (id + 1)).1) (putD C (some tmp) (.sc (.fn f id)) k))
  | ⟨tmp, _, .lit v, _⟩, _ => putD C (some tmp) (.sc (.v v)) k
  | ⟨tmp, id, .gob t g, _⟩, x => newBs id (unT true [] t x id).2 (putD C (some tmp) (.one (unT true [] t x id).1 g) k)
  | ⟨tmp, id, .box t own, _⟩, x => newBs (id + 1) (unT own [] t x (id + 1)).2 (newB id (.cells (unT own [] t x (id + 1)).1 false) (putD C (some tmp) (.sc (.ptr id 0)) k))

def mkPat {α : Type} (C : Cfg) : (l : List PE) → PTe l → Pg α → Pg α
  | [], _, k => k
  | e :: l, x, k => mkE C e x.1 (mkPat C l x.2 k)

section
variable {α : Type}
/-- what has been read is still there -/
def chkLive : List Nat → Pg α → Pg α
  | [], k => k
  | i :: l, k => .getB i fun
    | .row _ _ _ _ par => chkPar par (chkLive l k)
    | .win _ _ _ _ _ par => chkPar par (chkLive l k)
    | .cells _ _ => chkLive l k
    | _ => .fail

/-- an entry of a pattern: its value, what it leans on; what is one's own is given up -/
def rdE (e : PE) (v : AV) (k : e.b.T → List Nat → Pg α) : Pg α :=
  match e, k with
  | ⟨_, id, .ptr t true, true⟩, k => rdP t true v fun x id' u => bif Nat.beq id' id then .putB id' .dead (k x u) else .fail
  | ⟨_, id, .own t, true⟩, k => match asSl v with
    | some id' => bif Nat.beq id' id then rdRow t id' fun x => .putB id' .dead (k x []) else .fail
    | none => .fail
  | ⟨_, _, .box t true, false⟩, k => match asPtr v with
    | some id' => .getB id' fun
      | .cells l false => rdO t l fun x r => match r with
        | [] => .putB id' .dead (k x [])
        | _ => .fail
      | _ => .fail
    | none => .fail
  | ⟨_, _, .box t false, false⟩, k => rdP t true v fun x id' u => .putB id' .dead (k x u)
  | ⟨_, _, .ptr t false, false⟩, k => rdP t false v fun x id' u => k x (id' :: u)
  | ⟨_, _, .val t g, false⟩, k => rdV t g v k
  | ⟨_, _, .eat t, false⟩, k => bif asNil v then k [] [] else match asSl v with
    | some id => rdRow t id fun x => .putB id .dead (k x [])
    | none => .fail
  | ⟨_, _, .fn f c, false⟩, k => rdArg (.fn f c) v (fun x u _ _ => k x u)
  | ⟨_, _, .lit w, false⟩, k => rdArg (.lit w) v (fun x u _ _ => k x u)
  | ⟨_, _, .gob t g, false⟩, k => rdArg (.gob t g) v (fun x _ _ _ => k x [])
  | _, _ => .fail

def rdPat0 : (l : List PE) → (PTe l → List Nat → Pg α) → Pg α
  | [], k => k () []
  | e :: l, k => .get e.tmp fun v => rdE e v fun x u => rdPat0 l fun y u' => k (x, y) (u ++ u')

def rdPat (l : List PE) (k : PTe l → Pg α) : Pg α := rdPat0 l fun x u => chkLive u (k x)
end

/-! Results. -/
section
variable {α : Type}
def ccons : (t : Ty) → (l : List Ty) → t.T → CT l → CT (t :: l)
  | _, [], x, _ => x
  | _, _ :: _, x, y => (x, y)

def rdOuts : (os : List PE) → (CT (outs (os.map (·.b))) → Pg α) → Pg α
  | [], k => k ()
  | ⟨_, id, .ptr t true, _⟩ :: os, k => .getB id fun
    | .cells l false => bif t.flat then rdT t l fun x r _ => match r with
      | [] => rdOuts os fun y => k (ccons t _ x y)
      | _ => .fail
      else .fail
    | _ => .fail
  | ⟨_, id, .own t, _⟩ :: os, k => .getB id fun
    | .row t' x true _ [] => match castRow t' t x with
      | some x => rdOuts os fun y => k (ccons (.sl t) _ x y)
      | none => .fail
    | _ => .fail
  | ⟨_, _, .ptr _ false, _⟩ :: os, k => rdOuts os k
  | ⟨_, _, .val _ _, _⟩ :: os, k => rdOuts os k
  | ⟨_, _, .eat _, _⟩ :: os, k => rdOuts os k
  | ⟨_, _, .fn _ _, _⟩ :: os, k => rdOuts os k
  | ⟨_, _, .lit _, _⟩ :: os, k => rdOuts os k
  | ⟨_, _, .box _ _, _⟩ :: os, k => rdOuts os k
  | ⟨_, _, .gob _ _, _⟩ :: os, k => rdOuts os k

def rdRes (P : Program) (os : List PE) : (rs : List (Ty × Bool)) → List ResultVar → (CT (rs.map (·.1) ++ outs (os.map (·.b))) → Pg α) → Pg α
  | [], [], k => rdOuts os k
  | (t, g) :: rs, .tmp i :: vs, k => .get i fun
    | .one l g' => bif g == g' then rdO t l fun x r => match r with
      | [] => rdRes P os rs vs fun y => k (ccons t _ x y)
      | _ => .fail
      else .fail
    | _ => .fail
  | (t, g) :: rs, .cell i ty :: vs, k => .get i fun
    | .one [.ptr id 0] false => .getB id fun
      | .cells l _ => match partS P ty l 0 with
        | some (.one l' g') => bif g == g' then rdO t l' fun x r => match r with
          | [] => rdRes P os rs vs fun y => k (ccons t _ x y)
          | _ => .fail
          else .fail
        | _ => .fail
      | _ => .fail
    | _ => .fail
  | _, _, _ => .fail
end

/-! Code. -/
inductive Ex where
  | normal
  | exit (id : Nat)
  | ret

inductive Ann (R : Type) where
  | loop (pin pout : List PE) (ex : Nat) (nx : Nat) (L : PTe pin → Option (R ⊕ PTe pout))
  | cut (pout : List PE) (nx : Nat)

structure Fn (R : Type) where
  C : Cfg
  fin : Pg R
  an : Nat → Option (Ann R)
  k : Nat
  pins : List Nat

/-- which entries may be pinned -/
def pinTy : List PE → Bool
  | [] => true
  | ⟨_, _, .own _, _⟩ :: l => pinTy l
  | ⟨_, _, .ptr _ true, _⟩ :: l => pinTy l
  | e :: l => !e.pin && pinTy l

def pinsOk (pins : List Nat) (l : List PE) : Bool := (pins.all fun p => l.any fun e => e.pin && Nat.beq e.id p) && pinTy l

section
variable {R : Type}
def loopN {A : Type} (f : St → Nat → (Ex → St → Nat → Option A) → Option A) : Nat → St → Nat → (Ex → St → Nat → Option A) → Option A
  | 0, _, _, _ => none
  | n + 1, s, x, K => f s x fun e s' x' => match e with
    | .normal => loopN f n s' x' K
    | e => K e s' x'

/-- read a pattern -/
def rdK {A : Type} (F : Fn R) (l : List PE) (s : St) (K : PTe l → Option A) : Option A :=
  bif pinsOk F.pins l then (rdPat l fun x => .ret x).runK s fun x _ => K x else none
/-- a state that is told by a pattern alone -/
def mkK {A : Type} (F : Fn R) (l : List PE) (x : PTe l) (K : St → Option A) : Option A := (mkPat F.C l x (.ret ())).runK St.empty fun _ s => K s

def cutW (F : Fn R) (p : Nat) (f : (A : Type) → St → Nat → (R → Option A) → (Ex → St → Nat → Option A) → Option A) (A : Type) (s : St) (nx : Nat) (Kr : R → Option A) (K : Ex → St → Nat → Option A) : Option A :=
  match F.an p with
  | some (.cut pout nx') => (f (R ⊕ PTe pout) s nx (fun r => some (.inl r)) fun e s' _ => match e with
      | .normal => rdK F pout s' fun y => some (.inr y)
      | _ => none).bind fun o => match o with
    | .inl r => Kr r
    | .inr y => mkK F pout y fun s => K .normal s nx'
  | _ => f A s nx Kr K

def ev (F : Fn R) : Code → (A : Type) → Nat → St → Nat → (R → Option A) → (Ex → St → Nat → Option A) → Option A
  | .skip, _, _, s, nx, _, K => K .normal s nx
  | .seq a b, A, p, s, nx, Kr, K => cutW F (2 * p) (fun A s nx Kr K => ev F a A (2 * p) s nx Kr K) A s nx Kr fun e s' nx' => match e with
    | .normal => ev F b A (2 * p + 1) s' nx' Kr K
    | e => K e s' nx'
  | .cond (.tmp t) x y, A, p, s, nx, Kr, K => match s.T t with
    | .one [.v (.bool b)] false => bif b then ev F x A (2 * p) (s.setT t (.sc (.v (.bool true)))) nx Kr K else ev F y A (2 * p + 1) (s.setT t (.sc (.v (.bool false)))) nx Kr K
    | _ => none
  | .block id c, A, p, s, nx, Kr, K => ev F c A (2 * p) s nx Kr fun e s' nx' => match e with
    | .exit j => bif Nat.beq j id then K .normal s' nx' else K (.exit j) s' nx'
    | e => K e s' nx'
  | .loop c, A, p, s, nx, Kr, K => match F.an p with
    | some (.loop pin pout ex nx' L) => rdK F pin s fun x => (L x).bind fun o => match o with
      | .inl r => Kr r
      | .inr y => mkK F pout y fun s => K (.exit ex) s nx'
    | _ => loopN (fun s nx K => ev F c A (2 * p) s nx Kr K) F.k s nx K
  | .exit id, _, _, s, nx, _, K => K (.exit id) s nx
  | .ret, _, _, s, _, Kr, _ => F.fin.runK s fun r _ => Kr r
  | .region _ ops draw, _, _, s, nx, _, K => bif draw then evOpsF F.C ops ops.toList nx s [] fun s' fs => bif indep ops fs then K .normal s' (nx + 8 * ops.size) else none
    else evOps F.C ops ops.toList nx s fun s' => K .normal s' (nx + 8 * ops.size)
  | _, _, _, _, _, _, _ => none

/-- a loop's one round -/
def roundOf (F : Fn R) (c : Code) (p : Nat) (pin pout : List PE) (ex nx : Nat) (L : PTe pin → Option (R ⊕ PTe pout)) (x : PTe pin) : Option (R ⊕ PTe pout) :=
  mkK F pin x fun s => ev F c (R ⊕ PTe pout) (2 * p) s nx (fun r => some (.inl r)) fun e s' _ => match e with
    | .normal => rdK F pin s' L
    | .exit j => bif Nat.beq j ex then rdK F pout s' fun y => some (.inr y) else none
    | .ret => none

/-- a function's body -/
def evFn (F : Fn R) (c : Code) (params : List PE) (nx : Nat) (x : PTe params) : Option R :=
  mkK F params x fun s => ev F c R 1 s nx some fun e s' _ => match e with
    | .normal => F.fin.runK s' fun r _ => some r
    | _ => none
end
end
end Go.Ev
