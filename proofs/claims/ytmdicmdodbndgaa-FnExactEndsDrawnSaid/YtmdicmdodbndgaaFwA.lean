/-
  The abstract evaluator: it runs a function's Code over plain values in place of memory. No condition.
-/
import Derived.WalkKit
namespace Go.Proofs.Ytmdicmdodbndgaa.Fw
open Go Go.RowKit

/-- Shapes of plain values. -/
inductive Sh where
  | int (k : IntKind)
  | bool
  | flt (k : FloatKind)
  | sl (s : Sh)
  | pair (a b : Sh)
  | bx (s : Sh)
  | clo (f : Nat) (s : Sh)
  | un
  | nw (s : Sh)
  deriving DecidableEq

@[reducible] def Sh.den : Sh → Type
  | .int _ => Int
  | .bool => Bool
  | .flt _ => Option Nat
  | .sl s => List s.den
  | .pair a b => a.den × b.den
  | .bx s => s.den
  | .clo _ s => s.den
  | .un => Unit
  | .nw s => s.den

def Sh.size : Sh → Nat
  | .pair a b => a.size + b.size
  | .un => 0
  | .nw s => s.size
  | _ => 1

def Sh.isAgg : Sh → Bool
  | .pair _ _ => true
  | .nw s => s.isAgg
  | _ => false

def Sh.ref : Sh → Bool
  | .sl _ | .bx _ | .clo _ _ => true
  | .pair a b => a.ref || b.ref
  | .nw s => s.ref
  | _ => false

/-- Shapes that ask of nothing that it be new. -/
def Sh.plain : Sh → Bool
  | .sl s | .bx s | .clo _ s => s.plain
  | .pair a b => a.plain && b.plain
  | .nw _ => false
  | _ => true

/-- The shape of the elements of a new array: what they name is new too. -/
def Sh.mk (s : Sh) : Sh := cond s.ref (.nw s) s

def Sh.zero : (s : Sh) → s.den
  | .int _ => (0 : Int)
  | .bool => false
  | .flt _ => some 0
  | .sl _ => []
  | .pair a b => (a.zero, b.zero)
  | .bx s => s.zero
  | .clo _ s => s.zero
  | .un => ()
  | .nw s => s.zero

/-- May a new array be filled with zeros of this shape? -/
def Sh.zeroed : Sh → Bool
  | .int _ | .bool | .flt _ | .sl _ => true
  | .pair a b => a.zeroed && b.zeroed
  | .nw s => s.zeroed
  | _ => false

def castSh (s s' : Sh) (x : s'.den) : Option s.den := if h : s' = s then some (h ▸ x) else none

/-- A value of shape s' read as one of shape s, where what it names need not be new. -/
def castW (s : Sh) : (s' : Sh) → s'.den → Option s.den
  | .nw t, x => cond (decide (Sh.nw t = s)) (castSh s (.nw t) x) (castSh s t x)
  | .sl (.nw t), x => cond (decide (Sh.sl (.nw t) = s)) (castSh s (.sl (.nw t)) x) (castSh s (.sl t) x)
  | s', x => castSh s s' x

inductive AV where
  | top
  | g (s : Sh) (x : s.den)
  | full (h : Nat)
  | slc (h off len : Nat)
  | ptr (h off : Nat)
  | el (h i : Nat)
  | rp (s : Sh) (x : s.den)
  | nil
  | agg (l : List AV)
  | tup (l : List AV)
  | fn (f : Nat) (caps : List AV)

inductive AO where
  | arr (s : Sh) (xs : List s.den)
  | box (cells : List AV)

structure TD where
  known : Bool
  size : Nat
  agg : Bool
  zero : List AV
  elem : Option (Sh × Nat)
  fields : List (Nat × Nat × Bool)
  kind : Option Sh
  eqs : Option Sh := none

/-- A value that fits one cell. -/
def AV.one : AV → Bool
  | .g s _ => !s.isAgg && Nat.beq s.size 1
  | .top | .agg _ | .tup _ => false
  | _ => true

structure Env where
  slots : List AV
  objs : List (Nat × AO)
  args : List AV := []
  mutb : Bool := false

structure St where
  slots : List AV
  objs : List (Nat × AO)

def look (l : List (Nat × AO)) (h : Nat) : Option AO :=
  match l with
  | [] => none
  | (k, o) :: r => cond (Nat.beq k h) (some o) (look r h)

def del (l : List (Nat × AO)) (h : Nat) : List (Nat × AO) :=
  match l with
  | [] => []
  | (k, o) :: r => cond (Nat.beq k h) (del r h) ((k, o) :: del r h)

def put (l : List (Nat × AO)) (h : Nat) (o : AO) : List (Nat × AO) := (h, o) :: del l h

def Env.ob (E : Env) (st : St) (h : Nat) : Option AO :=
  match look st.objs h with
  | some o => some o
  | none => look E.objs h

def AV.isTop : AV → Bool
  | .top => true
  | _ => false

def Env.rd (E : Env) (st : St) (t : Nat) : AV :=
  match st.slots.getD t .top with
  | .top => E.slots.getD t .top
  | v => v

def toF (k : FloatKind) (b : Nat) : Option Nat := cond (k.decode b).isNaN none (some b)

def ofV0 : Value → AV
  | .int k n => .g (.int k) n
  | .bool b => .g .bool b
  | .float k b => .g (.flt k) (toF k b)
  | .slice none 0 0 => .nil
  | _ => .top

/-- A value that fits one cell. -/
def oneV : Value → Bool
  | .agg _ => false
  | .tuple _ => false
  | _ => true

def ofV : Value → AV
  | .agg cs => cond (cs.toList.all oneV) (.agg (cs.toList.map ofV0)) .top
  | v => ofV0 v

def Env.ev (E : Env) (st : St) : Operand → AV
  | .tmp t => E.rd st t
  | .const v => ofV v
  | .func f => .fn f []
  | .global _ => .top

/-- Write a slot. -/
def Env.wr {ρ : Type} (E : Env) (d : Option Nat) (v : AV) (st : St) (K : St → Option ρ) : Option ρ :=
  match d with
  | none => K st
  | some d => cond ((E.slots.getD d .top).isTop && (E.args.getD d .top).isTop) (K { st with slots := st.slots.set d v }) none

/-- Field i of n fields of a struct's plain value, and where its cells begin. -/
def projF : (n i : Nat) → (s : Sh) → s.den → (acc : Nat) → Option (Nat × (Σ s : Sh, s.den))
  | 0, _, _, _, _ => none
  | 1, i, s, x, acc => cond (Nat.beq i 0) (some (acc, ⟨s, x⟩)) none
  | n + 2, i, s, x, acc => match s, x with
    | .pair a b, x => match i with
      | 0 => some (acc, ⟨a, x.1⟩)
      | i + 1 => projF (n + 1) i b x.2 (acc + a.size)
    | _, _ => none

/-- The same, where all that the value names is new. -/
def gndN (O : Nat → Option AO) : (s : Sh) → List AV → Option s.den
  | .pair a b, l =>
    match gndN O a (l.take a.size), gndN O b (l.drop a.size) with
    | some x, some y => some (x, y)
    | _, _ => none
  | .sl s, l => match l with
    | [.g (.nw t) x] => castSh (.sl s) t x
    | [.nil] => some []
    | [.full h] => match O h with
      | some (.arr s' xs) => cond s'.ref none (castSh (.sl s) (.sl s') xs)
      | _ => none
    | _ => none
  | s, l => match l with
    | [.g s' x] => cond s'.ref none (castSh s s' x)
    | _ => none

/-- A list of cells read as a plain value of a shape. -/
def gnd (O : Nat → Option AO) : (s : Sh) → List AV → Option s.den
  | .pair a b, l =>
    match gnd O a (l.take a.size), gnd O b (l.drop a.size) with
    | some x, some y => some (x, y)
    | _, _ => none
  | .un, l => match l with
    | [] => some ()
    | _ => none
  | .sl s, l => match l with
    | [.g s' x] => castW (.sl s) s' x
    | [.nil] => some []
    | [.full h] => match O h with
      | some (.arr s' xs) => castW (.sl s) (.sl s') xs
      | _ => none
    | [.slc h off len] => match O h with
      | some (.arr s' xs) => castW (.sl s) (.sl s') ((xs.drop off).take len)
      | _ => none
    | _ => none
  | .bx s, l => match l with
    | [.g s' x] => castSh (.bx s) s' x
    | [.rp s' x] => castW s s' x
    | [.ptr h off] => match O h with
      | some (.box cells) => gnd O s ((cells.drop off).take s.size)
      | _ => none
    | _ => none
  | .clo f s, l => match l with
    | [.g s' x] => castSh (.clo f s) s' x
    | [.fn f' caps] => cond (Nat.beq f f') (gnd O s caps) none
    | _ => none
  | .nw s, l => gndN O s l
  | s, l => match l with
    | [.g s' x] => castW s s' x
    | _ => none

def gndV (O : Nat → Option AO) (s : Sh) : AV → Option s.den
  | .g s' x => castW s s' x
  | .agg l => cond s.isAgg (gnd O s l) none
  | v => cond s.isAgg none (gnd O s [v])

/-- Does a value name object d? -/
def ment (d : Nat) : Nat → AV → Bool
  | 0, _ => true
  | n + 1, v => match v with
    | .full h | .slc h _ _ | .ptr h _ | .el h _ => Nat.beq h d
    | .agg l | .tup l | .fn _ l => l.any (ment d n)
    | _ => false

def mentO (d : Nat) : List (Nat × AO) → Bool
  | [] => false
  | (k, o) :: r => Nat.beq k d || (match o with | .box cells => cells.any (ment d 6) | _ => false) || mentO d r

def Env.fresh (E : Env) (st : St) (d : Nat) : Bool :=
  !(st.slots.any (ment d 6)) && !(E.slots.any (ment d 6)) && !(mentO d st.objs) && !(mentO d E.objs)

/-- A new object under the name of the slot that the operation writes. -/
def Env.nw {ρ : Type} (E : Env) (d : Option Nat) (o : AO) (v : Nat → AV) (st : St) (K : St → Option ρ) : Option ρ :=
  match d with
  | none => none
  | some d => cond (E.fresh st d) (E.wr (some d) (v d) { st with objs := (d, o) :: st.objs } K) none

end Go.Proofs.Ytmdicmdodbndgaa.Fw
