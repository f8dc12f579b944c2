/- A part of a verified evaluator of the model's code: what it evaluates is what a call returns; no condition beyond the theorems' own hypotheses. -/
import Derived.Test.YtdlpejdadikggaaEv2
set_option linter.unusedVariables false
namespace Go.Ev
open Go
noncomputable section

section
variable {α : Type}

def asPtr : AV → Option Nat
  | .one [.ptr id 0] false => some id
  | _ => none
def asSl : AV → Option Nat
  | .one [.sl id] false => some id
  | _ => none
def asNil : AV → Bool
  | .one [.v (.slice none 0 0)] false => true
  | _ => false
def asFn : AV → Option (FuncId × Nat)
  | .one [.fn f id] false => some (f, id)
  | _ => none
def asFn0 : AV → Option FuncId
  | .one [.v (.func (.func f) x y)] false => bif Nat.beq x.size 0 && Nat.beq y.size 0 then some f else none
  | _ => none

/-- a whole value of a type -/
def rdV (t : Ty) (g : Bool) (v : AV) (k : t.T → List Nat → Pg α) : Pg α :=
  match v with
  | .one l g' => bif g == g' then rdT t l fun x r u => match r with
    | [] => k x u
    | _ => .fail
    else .fail
  | _ => .fail

/-- what a pointer leads to -/
def rdP (t : Ty) (mu : Bool) (v : AV) (k : t.T → Nat → List Nat → Pg α) : Pg α :=
  match asPtr v with
  | some id => .getB id fun
    | .cells l ro => bif mu && ro then .fail else rdT t l fun x r u => match r with
      | [] => k x id u
      | _ => .fail
    | _ => .fail
  | none => .fail

def rdCaps : (caps : List (Ty × CK)) → List (List Sc × Bool) → (CapT caps → List Nat → Pg α) → Pg α
  | [], [], k => k () []
  | [], _ :: _, _ => .fail
  | _ :: _, [], _ => .fail
  | (t, .sc) :: cs, p :: ls, k => rdV t false (.one p.1 p.2) fun x u => rdCaps cs ls fun y u' => k (x, y) (u ++ u')
  | (t, .ag) :: cs, p :: ls, k => rdV t true (.one p.1 p.2) fun x u => rdCaps cs ls fun y u' => k (x, y) (u ++ u')
  | (t, .pr) :: cs, p :: ls, k => rdP t false (.one p.1 p.2) fun x id u => rdCaps cs ls fun y u' => k (x, y) (id :: (u ++ u'))

/-- a row of one's own -/
def rdRow (t : Ty) (id : Nat) (k : List t.T → Pg α) : Pg α :=
  .getB id fun
    | .row t' x true _ [] => match castL t' t x with
      | some x => k x
      | none => .fail
    | .win t' x _ true _ [] => match castL t' t x with
      | some x => k x
      | none => .fail
    | _ => .fail

/-- an argument: its value, what it leans on, what is given up, what is told behind -/
def rdArg : (b : BTy) → AV → (b.T → List Nat → List Nat → List Nat → Pg α) → Pg α
  | .val t g, v, k => rdV t g v fun x u => k x u [] []
  | .ptr t true, v, k => rdP t true v fun x id u => k x u [] [id]
  | .ptr t false, v, k => rdP t false v fun x id u => k x (id :: u) [] []
  | .own t, v, k => match asSl v with
    | some id => rdRow t id fun x => k x [] [] [id]
    | none => .fail
  | .eat t, v, k => bif asNil v then k [] [] [] [] else match asSl v with
    | some id => rdRow t id fun x => .putB id .dead (k x [] [id] [])
    | none => .fail
  | .fn f caps, v, k => match asFn v with
    | some (f', id) => bif Nat.beq f f' then .getB id fun
      | .clo l => rdCaps caps l fun x u => k x u [] []
      | _ => .fail
      else .fail
    | none => match asFn0 v with
      | some f' => bif Nat.beq f f' then rdCaps caps [] fun x u => k x u [] [] else .fail
      | none => .fail
  | .lit l, v, k => match l with
    | .slice none 0 0 => bif asNil v then k () [] [] [] else .fail
    | _ => .fail
  | .box _ _, _, _ => .fail
  | .gob t g, v, k => match v with
    | .one l g' => bif g == g' then rdG t l fun x r e => match r with
      | [] => k x [] e []
      | _ => .fail
      else .fail
    | _ => .fail

def rdArgs : (ps : List BTy) → List AV → (PT ps → List Nat → List Nat → List Nat → Pg α) → Pg α
  | [], [], k => k () [] [] []
  | b :: ps, v :: vs, k => rdArg b v fun x u o i => rdArgs ps vs fun y u' o' i' => k (x, y) (u ++ u') (o ++ o') (i ++ i')
  | _, _, _ => .fail

def csplit : (l1 l2 : List Ty) → CT (l1 ++ l2) → CT l1 × CT l2
  | [], _, x => ((), x)
  | [_], [], x => (x, ())
  | [_], _ :: _, x => (x.1, x.2)
  | _ :: t' :: l1, l2, x => ((x.1, (csplit (t' :: l1) l2 x.2).1), (csplit (t' :: l1) l2 x.2).2)

def chead : (t : Ty) → (l : List Ty) → CT (t :: l) → t.T × CT l
  | _, [], x => (x, ())
  | _, _ :: _, x => (x.1, x.2)

def ownVer : Blk → Option Nat
  | .row _ _ true ver [] => some ver
  | .win _ _ _ true ver [] => some ver
  | _ => none

def putOuts : (ps : List BTy) → List Nat → CT (outs ps) → Pg α → Pg α
  | [], [], _, k => k
  | .ptr t true :: ps, id :: is, y, k => bif t.flat then .putB id (.cells (unT true [] t (chead t _ y).1 0).1 false) (putOuts ps is (chead t _ y).2 k) else .fail
  | .own t :: ps, id :: is, y, k => .getB id fun b => match ownVer b with
    | some ver => .putB id (.row t (chead (.sl t) _ y).1 true (ver + 1) []) (putOuts ps is (chead (.sl t) _ y).2 k)
    | none => .fail
  | .ptr _ false :: ps, is, y, k => putOuts ps is y k
  | .val _ _ :: ps, is, y, k => putOuts ps is y k
  | .eat _ :: ps, is, y, k => putOuts ps is y k
  | .fn _ _ :: ps, is, y, k => putOuts ps is y k
  | .lit _ :: ps, is, y, k => putOuts ps is y k
  | .box _ _ :: ps, is, y, k => putOuts ps is y k
  | .gob _ _ :: ps, is, y, k => putOuts ps is y k
  | _, _, _, _ => .fail

/-- results: their values and new rows -/
def comps : (rs : List (Ty × Bool)) → CT (rs.map (·.1)) → Nat → List (List Sc × Bool) × List Blk
  | [], _, _ => ([], [])
  | r :: rs, x, i =>
    let y := chead r.1 (rs.map (·.1)) x
    let p := unT true [] r.1 y.1 i
    let q := comps rs y.2 (i + p.2.length)
    ((p.1, r.2) :: q.1, p.2 ++ q.2)

def tupAV : List (List Sc × Bool) → AV
  | [c] => .one c.1 c.2
  | l => .tup l

def putD (C : Cfg) (dst : Option Tmp) (v : AV) (k : Pg α) : Pg α :=
  match dst with
  | none => k
  | some d => bif Nat.ble C.ntmps d then .fail else .put d v k

def callV (C : Cfg) (v : Variant) (avs : List AV) (dst : Option Tmp) (nid : Nat) (k : Pg α) : Pg α :=
  rdArgs v.ps avs fun x u e i => bif disj u (i ++ e) && nodupB (i ++ e) then
    .bnd (v.fn x) fun r =>
      putOuts v.ps i (csplit _ _ r).2 (newBs nid (comps v.rs (csplit _ _ r).1 nid).2 (putD C dst (tupAV (comps v.rs (csplit _ _ r).1 nid).1) k))
    else .fail

def fnIds : List AV → List FuncId
  | [] => []
  | .one [.fn f _] false :: l => f :: fnIds l
  | .one [.v (.func (.func f) _ _)] false :: l => f :: fnIds l
  | _ :: l => fnIds l

def plainSc : Sc → Option Value
  | .v x => some x
  | _ => none

def plainScs : List Sc → Option (List Value)
  | [] => some []
  | c :: l => match plainSc c, plainScs l with
    | some x, some xs => some (x :: xs)
    | _, _ => none

def plainAV : AV → Option Value
  | .one [.v x] false => some x
  | .one l true => match plainScs l with
    | some xs => some (.agg xs.toArray)
    | none => none
  | _ => none

def plainAVs : List AV → Option (List Value)
  | [] => some []
  | c :: l => match plainAV c, plainAVs l with
    | some x, some xs => some (x :: xs)
    | _, _ => none

def ofPlain : Value → AV
  | .agg cs => .one (cs.toList.map .v) true
  | v => .sc (.v v)

/-- operands by their values -/
def look : List Operand → List Value → Operand → Value
  | .tmp t :: xs, v :: vs, .tmp u => bif Nat.beq t u then v else look xs vs (.tmp u)
  | _ :: xs, _ :: vs, .tmp u => look xs vs (.tmp u)
  | _, _, .const v => v
  | _, _, .global g => .pointer (some ⟨g, 0, none⟩)
  | _, _, .func f => .func (.func f) #[] #[]
  | _, _, .tmp _ => undef

/-- an operation that looks at no memory, at values that are plain -/
def pureNext (P : Program) : Nat → Sem Next → Option Value
  | _, .pure (.value v) => some v
  | n + 1, .program k => pureNext P n (k P)
  | n + 1, .mark _ k => pureNext P n k
  | _, _ => none

def fieldOf (P : Program) (s : TypeId) (f : Nat) : Option (Nat × TypeId × Nat) :=
  match P.underlying s with
  | some (.struct fs) => match fs[f]? with
    | some fd => match P.info? fd.type with
      | some i => bif Nat.beq i.size 0 then none else some (fd.offset, fd.type, i.size)
      | none => none
    | none => none
  | _ => none

def arrayOf (P : Program) (t : TypeId) : Option (Nat × TypeId × Nat) :=
  match P.underlying t with
  | some (.array n e) => match P.info? e with
    | some i => bif Nat.beq i.size 0 then none else some (n, e, i.size)
    | none => none
  | _ => none

def sliceOf (P : Program) (t : TypeId) : Option TypeId :=
  match P.underlying t with
  | some (.slice e) => some e
  | _ => none

def sizeB (P : Program) (t : TypeId) : Option Nat :=
  match P.info? t with
  | some i => some i.size
  | none => none

def elemSz (P : Program) (t : TypeId) (n : Nat) : Bool :=
  match sliceOf P t with
  | some e => match sizeB P e with
    | some sz => Nat.beq sz n
    | none => false
  | none => false

def szIs (P : Program) (t : TypeId) (n : Nat) : Bool :=
  match sizeB P t with
  | some sz => Nat.beq n sz
  | none => false

/-- a part of cells, as a value of a type -/
def partS (P : Program) (t : TypeId) (l : List Sc) (off : Nat) : Option AV :=
  match sizeB P t with
  | none => none
  | some sz => bif (P.underlying t).isNone then none else bif isAggB P t then (bif Nat.ble (off + sz) l.length then some (.one ((l.drop off).take sz) true) else none)
    else match l[off]? with
      | some c => some (.sc c)
      | none => none

def setS (l : List Sc) (off : Nat) : List Sc → List Sc
  | [] => l
  | c :: cs => setS (l.set off c) (off + 1) cs

def notTop : List Sc → Bool
  | [.top] => false
  | [.und] => false
  | _ => true

def fillS (place : Nat → Option (Nat × Nat)) (l : List Sc) : List (Nat × AV) → Option (List Sc)
  | [] => some l
  | (i, .one v agg) :: rest => match place i with
    | none => none
    | some (off, size) => bif !Nat.beq v.length size || !Nat.ble (off + v.length) l.length || (!agg && !notTop v) then none
      else fillS place (setS l off v) rest
  | _ => none

def zeroS (P : Program) (t : TypeId) : Option (List Sc) :=
  match P.info? t with
  | some i => match i.zero with
    | some z => bif z.cells.toList.all (·.oneCell') then some (z.cells.toList.map .v) else none
    | none => none
  | none => none

/-- which one of n places a number names -/
def among (n : Nat) (i : Int) (k : Nat → Pg α) : Nat → Pg α
  | 0 => .fail
  | m + 1 => .br (i == ((n - (m + 1) : Nat) : Int)) (k (n - (m + 1))) (among n i k m)

def lim : Nat := 274877906944

/-- the same of parts that are shared -/
def rdPartsS (t : Ty) (agg : Bool) : Nat → List (Nat × AV) → (List t.T → List (Nat × Nat) → Pg α) → Pg α
  | _, [], k => k [] []
  | n, (i, .one l agg') :: rest, k => bif Nat.beq n i && (agg == agg') then rdS t l fun x r p => match r with
      | [] => rdPartsS t agg (n + 1) rest fun xs p' => k (x :: xs) (p ++ p')
      | _ => .fail
    else .fail
  | _, _, _ => .fail

/-- one part of a slice's literal after the other -/
def rdParts (t : Ty) (agg : Bool) : Nat → List (Nat × AV) → (List t.T → Pg α) → Pg α
  | _, [], k => k []
  | n, (i, .one l agg') :: rest, k => bif Nat.beq n i && (agg == agg') then rdO t l fun x r => match r with
      | [] => rdParts t agg (n + 1) rest fun xs => k (x :: xs)
      | _ => .fail
    else .fail
  | _, _, _ => .fail

end
end
end Go.Ev
