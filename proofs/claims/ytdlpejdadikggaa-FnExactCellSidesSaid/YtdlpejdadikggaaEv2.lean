/- A part of a verified evaluator of the model's code: what it evaluates is what a call returns; no condition beyond the theorems' own hypotheses. -/
import Derived.Test.YtdlpejdadikggaaEv1
set_option linter.unusedVariables false
namespace Go.Ev
open Go
noncomputable section

/-! The abstract states. -/
inductive Sc where
  | top
  | und
  | v (x : Value)
  | ptr (id off : Nat)
  | elt (id i j sz : Nat)
  | sl (id : Nat)
  | fn (f : FuncId) (id : Nat)

inductive AV where
  | one (l : List Sc) (agg : Bool)
  | tup (l : List (List Sc × Bool))

abbrev AV.sc (c : Sc) : AV := .one [c] false

inductive Blk where
  | unborn
  | dead
  | cells (l : List Sc) (ro : Bool)
  | row (t : Ty) (x : List t.T) (own : Bool) (ver : Nat) (par : List (Nat × Nat))
  | clo (l : List (List Sc × Bool))
  | idx (t : Ty) (xs : List (List t.T)) (sid i pid ver : Nat)
  | win (t : Ty) (x y : List t.T) (own : Bool) (ver : Nat) (par : List (Nat × Nat))

structure St where
  T : Nat → AV
  H : Nat → Blk

def St.setT (s : St) (i : Nat) (v : AV) : St := ⟨fun j => bif Nat.beq j i then v else s.T j, s.H⟩
def St.setH (s : St) (i : Nat) (v : Blk) : St := ⟨s.T, fun j => bif Nat.beq j i then v else s.H j⟩

abbrev Loc := Bool × Nat

inductive Pg (α : Type) : Type 1 where
  | ret (a : α)
  | get (i : Nat) (k : AV → Pg α)
  | getB (id : Nat) (k : Blk → Pg α)
  | put (i : Nat) (v : AV) (k : Pg α)
  | putB (id : Nat) (b : Blk) (k : Pg α)
  | br (b : Bool) (x y : Pg α)
  | brT (i : Nat) (x y : Pg α)
  | bnd {β : Type} (o : Option β) (k : β → Pg α)
  | fail

def Pg.run {α : Type} : Pg α → St → Option (α × St)
  | .ret a, s => some (a, s)
  | .get i k, s => (k (s.T i)).run s
  | .getB i k, s => (k (s.H i)).run s
  | .put i v k, s => k.run (s.setT i v)
  | .putB i v k, s => k.run (s.setH i v)
  | .br b x y, s => bif b then x.run s else y.run s
  | .brT i x y, s => match s.T i with
    | .one [.v (.bool b)] false => bif b then x.run (s.setT i (.sc (.v (.bool true)))) else y.run (s.setT i (.sc (.v (.bool false))))
    | _ => none
  | .bnd o k, s => o.bind fun a => (k a).run s
  | .fail, _ => none

/-- the same, the rest of the way handed along -/
def Pg.runK {α A : Type} : Pg α → St → (α → St → Option A) → Option A
  | .ret a, s, K => K a s
  | .get i k, s, K => (k (s.T i)).runK s K
  | .getB i k, s, K => (k (s.H i)).runK s K
  | .put i v k, s, K => k.runK (s.setT i v) K
  | .putB i v k, s, K => k.runK (s.setH i v) K
  | .br b x y, s, K => bif b then x.runK s K else y.runK s K
  | .brT i x y, s, K => match s.T i with
    | .one [.v (.bool b)] false => bif b then x.runK (s.setT i (.sc (.v (.bool true)))) K else y.runK (s.setT i (.sc (.v (.bool false)))) K
    | _ => none
  | .bnd o k, s, K => o.bind fun a => (k a).runK s K
  | .fail, _, _ => none

theorem Pg.runK_eq {α A : Type} : ∀ (p : Pg α) (s : St) (K : α → St → Option A), p.runK s K = (p.run s).bind fun q => K q.1 q.2
  | .ret a, s, K => rfl
  | .get i k, s, K => Pg.runK_eq (k (s.T i)) s K
  | .getB i k, s, K => Pg.runK_eq (k (s.H i)) s K
  | .put i v k, s, K => Pg.runK_eq k _ K
  | .putB i v k, s, K => Pg.runK_eq k _ K
  | .br b x y, s, K => by
    cases b
    · exact Pg.runK_eq y s K
    · exact Pg.runK_eq x s K
  | .brT i x y, s, K => by
    simp only [Pg.runK, Pg.run]
    split
    · rename_i b _
      cases b
      · exact Pg.runK_eq y _ K
      · exact Pg.runK_eq x _ K
    · rfl
  | .bnd o k, s, K => by
    cases o with
    | none => rfl
    | some a => exact Pg.runK_eq (k a) s K
  | .fail, s, K => rfl

/-- with what is read and what is written -/
def Pg.runF {α A : Type} : Pg α → St → List Loc → List Loc → (α → St → List Loc → List Loc → Option A) → Option A
  | .ret a, s, r, w, K => K a s r w
  | .get i k, s, r, w, K => (k (s.T i)).runF s ((false, i) :: r) w K
  | .getB i k, s, r, w, K => (k (s.H i)).runF s ((true, i) :: r) w K
  | .put i v k, s, r, w, K => k.runF (s.setT i v) r ((false, i) :: w) K
  | .putB i v k, s, r, w, K => k.runF (s.setH i v) r ((true, i) :: w) K
  | .br b x y, s, r, w, K => bif b then x.runF s r w K else y.runF s r w K
  | .brT i x y, s, r, w, K => match s.T i with
    | .one [.v (.bool b)] false => bif b then x.runF (s.setT i (.sc (.v (.bool true)))) ((false, i) :: r) w K else y.runF (s.setT i (.sc (.v (.bool false)))) ((false, i) :: r) w K
    | _ => none
  | .bnd o k, s, r, w, K => o.bind fun a => (k a).runF s r w K
  | .fail, _, _, _, _ => none

def Pg.bind {α β : Type} : Pg α → (α → Pg β) → Pg β
  | .ret a, f => f a
  | .get i k, f => .get i fun v => (k v).bind f
  | .getB i k, f => .getB i fun v => (k v).bind f
  | .put i v k, f => .put i v (k.bind f)
  | .putB i v k, f => .putB i v (k.bind f)
  | .br b x y, f => .br b (x.bind f) (y.bind f)
  | .brT i x y, f => .brT i (x.bind f) (y.bind f)
  | .bnd o k, f => .bnd o fun a => (k a).bind f
  | .fail, _ => .fail

/-! What functions take and give. -/
inductive CK where
  | sc | ag | pr

inductive BTy where
  | val (t : Ty) (agg : Bool)
  | ptr (t : Ty) (mu : Bool)
  | own (t : Ty)
  | eat (t : Ty)
  | fn (f : FuncId) (caps : List (Ty × CK))
  | lit (v : Value)
  | box (t : Ty) (own : Bool)
  | gob (t : Ty) (agg : Bool)

abbrev CapT : List (Ty × CK) → Type
  | [] => Unit
  | c :: l => c.1.T × CapT l

abbrev BTy.T : BTy → Type
  | .val t _ => t.T
  | .ptr t _ => t.T
  | .own t => List t.T
  | .eat t => List t.T
  | .fn _ caps => CapT caps
  | .lit _ => Unit
  | .box t _ => t.T
  | .gob t _ => t.T

abbrev PT : List BTy → Type
  | [] => Unit
  | b :: l => b.T × PT l

abbrev CT : List Ty → Type
  | [] => Unit
  | [t] => t.T
  | t :: t' :: l => t.T × CT (t' :: l)

def outs : List BTy → List Ty
  | [] => []
  | .ptr t true :: l => t :: outs l
  | .own t :: l => .sl t :: outs l
  | _ :: l => outs l

structure Variant where
  ps : List BTy
  rs : List (Ty × Bool)
  fn : PT ps → Option (CT (rs.map (·.1) ++ outs ps))

structure Cfg where
  P : Program
  ty : TypeId → Option Ty
  ntmps : Nat
  G : FuncId → List FuncId → Option Variant
  win : Bool
  rt : List Nat
  share : Bool

/-! Reading and making values. -/
section
variable {α : Type}

def opnd (x : Operand) (k : AV → Pg α) : Pg α :=
  match x with
  | .tmp t => .get t k
  | .const (.agg cs) => bif cs.toList.all (·.oneCell') then k (.one (cs.toList.map .v) true) else .fail
  | .const (.tuple _) => .fail
  | .const v => k (.sc (.v v))
  | .global g => k (.sc (.v (.pointer (some ⟨g, 0, none⟩))))
  | .func f => k (.sc (.v (.func (.func f) #[] #[])))

def opnds : List Operand → (List AV → Pg α) → Pg α
  | [], k => k []
  | x :: l, k => opnd x fun v => opnds l fun vs => k (v :: vs)

def chkPar : List (Nat × Nat) → Pg α → Pg α
  | [], k => k
  | (p, v) :: l, k => .getB p fun
    | .row _ _ true v' _ => bif Nat.beq v v' then chkPar l k else .fail
    | _ => .fail

def castRow (t t' : Ty) (x : List t.T) : Option (List t'.T) := if h : t = t' then some (h ▸ x) else none
def castL (t t' : Ty) (x : List t.T) : Option (List t'.T) := if h : t = t' then some (h ▸ x) else match castF t t' with
  | some f => some (x.map f)
  | none => none

/-- a value of a type, read out of cells; with the rows' ids (and those that they lean on) -/
def rdT : (t : Ty) → List Sc → (t.T → List Sc → List Nat → Pg α) → Pg α
  | .unit, l, k => k () l []
  | .int q, l, k => match l with
    | .v (.int q' n) :: l => if q = q' then k n l [] else .fail
    | _ => .fail
  | .bool, l, k => match l with
    | .v (.bool b) :: l => k b l []
    | _ => .fail
  | .str, l, k => match l with
    | .v (.string b) :: l => k b l []
    | _ => .fail
  | .pair a b, l, k => rdT a l fun x l u => rdT b l fun y l u' => k (x, y) l (u ++ u')
  | .sl t, l, k => match l with
    | .v (.slice none 0 0) :: l => k [] l []
    | .sl id :: l => .getB id fun
      | .row t' x _ _ par => match castL t' t x with
        | some x => chkPar par (k x l (id :: par.map (·.1)))
        | none => .fail
      | .win t' x _ _ _ par => match castL t' t x with
        | some x => chkPar par (k x l (id :: par.map (·.1)))
        | none => .fail
      | _ => .fail
    | _ => .fail
  | .rm t, l, k => match l with
    | .v (.slice none 0 0) :: l => k ([], []) l []
    | .sl id :: l => .getB id fun
      | .row t' x _ _ par => match castRow t' t x with
        | some x => chkPar par (k (x, []) l (id :: par.map (·.1)))
        | none => .fail
      | .win t' x y _ _ par => match castRow t' t x, castRow t' t y with
        | some x, some y => chkPar par (k (x, y) l (id :: par.map (·.1)))
        | _, _ => .fail
      | _ => .fail
    | _ => .fail

/-- the same of rows that are one's own; they are given up -/
def rdO : (t : Ty) → List Sc → (t.T → List Sc → Pg α) → Pg α
  | .unit, l, k => k () l
  | .int q, l, k => match l with
    | .v (.int q' n) :: l => if q = q' then k n l else .fail
    | _ => .fail
  | .bool, l, k => match l with
    | .v (.bool b) :: l => k b l
    | _ => .fail
  | .str, l, k => match l with
    | .v (.string b) :: l => k b l
    | _ => .fail
  | .pair a b, l, k => rdO a l fun x l => rdO b l fun y l => k (x, y) l
  | .sl t, l, k => match l with
    | .v (.slice none 0 0) :: l => k [] l
    | .sl id :: l => .getB id fun
      | .row t' x true _ [] => match castRow t' t x with
        | some x => .putB id .dead (k x l)
        | none => .fail
      | .win t' x _ true _ [] => match castRow t' t x with
        | some x => .putB id .dead (k x l)
        | none => .fail
      | _ => .fail
    | _ => .fail
  | .rm t, l, k => match l with
    | .v (.slice none 0 0) :: l => k ([], []) l
    | .sl id :: l => .getB id fun
      | .row t' x true _ [] => match castRow t' t x with
        | some x => .putB id .dead (k (x, []) l)
        | none => .fail
      | .win t' x y true _ [] => match castRow t' t x, castRow t' t y with
        | some x, some y => .putB id .dead (k (x, y) l)
        | _, _ => .fail
      | _ => .fail
    | _ => .fail

/-- the same, with the ids that have been given up -/
def rdG : (t : Ty) → List Sc → (t.T → List Sc → List Nat → Pg α) → Pg α
  | .unit, l, k => k () l []
  | .int q, l, k => match l with
    | .v (.int q' n) :: l => if q = q' then k n l [] else .fail
    | _ => .fail
  | .bool, l, k => match l with
    | .v (.bool b) :: l => k b l []
    | _ => .fail
  | .str, l, k => match l with
    | .v (.string b) :: l => k b l []
    | _ => .fail
  | .pair a b, l, k => rdG a l fun x l e => rdG b l fun y l e' => k (x, y) l (e ++ e')
  | .sl t, l, k => match l with
    | .v (.slice none 0 0) :: l => k [] l []
    | .sl id :: l => .getB id fun
      | .row t' x true _ [] => match castL t' t x with
        | some x => .putB id .dead (k x l [id])
        | none => .fail
      | .win t' x _ true _ [] => match castL t' t x with
        | some x => .putB id .dead (k x l [id])
        | none => .fail
      | _ => .fail
    | _ => .fail
  | .rm _, _, _ => .fail

/-- a value whose rows stay where they are; with what they lean on -/
def rdS : (t : Ty) → List Sc → (t.T → List Sc → List (Nat × Nat) → Pg α) → Pg α
  | .unit, l, k => k () l []
  | .int q, l, k => match l with
    | .v (.int q' n) :: l => if q = q' then k n l [] else .fail
    | _ => .fail
  | .bool, l, k => match l with
    | .v (.bool b) :: l => k b l []
    | _ => .fail
  | .str, l, k => match l with
    | .v (.string b) :: l => k b l []
    | _ => .fail
  | .pair a b, l, k => rdS a l fun x l u => rdS b l fun y l u' => k (x, y) l (u ++ u')
  | .sl t, l, k => match l with
    | .v (.slice none 0 0) :: l => k [] l []
    | .sl id :: l => .getB id fun
      | .row t' x own ver par => match castL t' t x with
        | some x => chkPar par (k x l ((bif own then [(id, ver)] else []) ++ par))
        | none => .fail
      | .win t' x _ false _ par => match castL t' t x with
        | some x => chkPar par (k x l par)
        | none => .fail
      | _ => .fail
    | _ => .fail
  | .rm _, _, _ => .fail

/-- the cells of a value, its rows under new ids -/
def unT (own : Bool) (par : List (Nat × Nat)) : (t : Ty) → t.T → Nat → List Sc × List Blk
  | .unit, _, _ => ([], [])
  | .int q, n, _ => ([.v (.int q n)], [])
  | .bool, b, _ => ([.v (.bool b)], [])
  | .str, s, _ => ([.v (.string s)], [])
  | .pair a b, x, i =>
    ((unT own par a x.1 i).1 ++ (unT own par b x.2 (i + (unT own par a x.1 i).2.length)).1, (unT own par a x.1 i).2 ++ (unT own par b x.2 (i + (unT own par a x.1 i).2.length)).2)
  | .sl t, xs, i => ([.sl i], [.row t xs own 0 par])
  | .rm t, xs, i => ([.sl i], [.win t xs.1 xs.2 own 0 par])

def newB (id : Nat) (b : Blk) (k : Pg α) : Pg α :=
  .getB id fun
  | .unborn => .putB id b k
  | _ => .fail

def newBs : Nat → List Blk → Pg α → Pg α
  | _, [], k => k
  | i, b :: l, k => newB i b (newBs (i + 1) l k)

def isAggB (P : Program) (t : TypeId) : Bool :=
  match P.underlying t with
  | some (.struct _) => true
  | some (.array _ _) => true
  | _ => false

def disj (a b : List Nat) : Bool := a.all fun x => b.all fun y => !Nat.beq x y
def nodupB : List Nat → Bool
  | [] => true
  | x :: l => (l.all fun y => !Nat.beq x y) && nodupB l
end
end
end Go.Ev
