/-
  The abstract evaluator, second part: operations, calls, loops, code. No condition.
-/
import Derived.Test.YtmdicmdodbndgaaFwA
import Derived.Deep.QuietTactic
namespace Go.Proofs.Ytmdicmdodbndgaa.Fw
open Go Go.RowKit

def LIM : Nat := 4294967296

@[irreducible] def FUEL : Nat := 18446744073709551616

def fop (op : BinOp) (k : FloatKind) (x y : Option Nat) : Option Nat :=
  x.bind fun a => y.bind fun b => match op with
    | .add => k.format.add a b
    | .sub => k.format.sub a b
    | .mul => k.format.mul a b
    | .quo => k.format.div a b
    | _ => none

def ford (k : FloatKind) (x y : Option Nat) : Option Ordering := x.bind fun a => y.bind fun b => k.format.order a b

def ibits (op : BinOp) (k : IntKind) (x y : Int) : Int :=
  let a := BitVec.ofInt k.bits x
  let b := BitVec.ofInt k.bits y
  match op with
  | .and => k.wrap ((a &&& b).toNat)
  | .or => k.wrap ((a ||| b).toNat)
  | .xor => k.wrap ((a ^^^ b).toNat)
  | _ => k.wrap ((a &&& ~~~b).toNat)

def ishl (k : IntKind) (a b : Int) : Int := k.wrap (a * 2 ^ (min b.toNat k.bits))
def ishr (k : IntKind) (a b : Int) : Int := a.fdiv (2 ^ (min b.toNat k.bits))

def imax (x y : Int) : Int := if y > x then y else x
def imin (x y : Int) : Int := if y < x then y else x

/-- Element n of a list, n an integer. -/
def idx {α : Type} (xs : List α) (n : Int) : Option α := cond (decide (0 ≤ n)) xs[n.toNat]? none

def inB (n : Int) (len : Nat) : Bool := decide (0 ≤ n) && decide (n < (len : Int))

/-- Equality of plain values of numbers and booleans. -/
def Sh.beq : (s : Sh) → s.den → s.den → Bool
  | .int _, a, b => a == b
  | .bool, a, b => a == b
  | .pair s t, a, b => s.beq a.1 b.1 && t.beq a.2 b.2
  | _, _, _ => false

def bop {ρ : Type} (eqs : Option Sh) (op : BinOp) (x y : AV) (K : AV → Option ρ) : Option ρ :=
  match x, y with
  | .g (.int k) a, .g (.int k') b =>
    match op with
    | .shl => cond (decide (b < 0)) none (K (.g (.int k) (ishl k a b)))
    | .shr => cond (decide (b < 0)) none (K (.g (.int k) (ishr k a b)))
    | _ => cond (decide (k = k')) (match op with
      | .add => K (.g (.int k) (k.wrap (a + b)))
      | .sub => K (.g (.int k) (k.wrap (a - b)))
      | .mul => K (.g (.int k) (k.wrap (a * b)))
      | .quo => cond (b == 0) none (K (.g (.int k) (k.wrap (Int.tdiv a b))))
      | .rem => cond (b == 0) none (K (.g (.int k) (Int.tmod a b)))
      | .and | .or | .xor | .andNot => K (.g (.int k) (ibits op k a b))
      | .eql => K (.g .bool (a == b))
      | .neq => K (.g .bool (a != b))
      | .lss => K (.g .bool (decide (a < b)))
      | .leq => K (.g .bool (decide (a ≤ b)))
      | .gtr => K (.g .bool (decide (a > b)))
      | .geq => K (.g .bool (decide (a ≥ b)))
      | _ => none) none
  | .g s a, .g s' b => match eqs with
    | some q => cond (decide (s = q)) (match castSh s s' b with
      | some b => match op with
        | .eql => K (.g .bool (s.beq a b))
        | .neq => K (.g .bool (!(s.beq a b)))
        | _ => none
      | none => none) none
    | none => none
  | _, _ => none

/-- Arithmetic on floats: the bits where the operation is valid. -/
def fbits (op : BinOp) (k : FloatKind) (x y : Nat) : Option Nat :=
  match op with
  | .add => k.format.add x y
  | .sub => k.format.sub x y
  | .mul => k.format.mul x y
  | .quo => k.format.div x y
  | _ => none

def farith (op : BinOp) (k : FloatKind) (a b : Option Nat) : Option Nat :=
  match a with
  | some x => match b with
    | some y => match fbits op k x y with
      | some r => toF k r
      | none => none
    | none => none
  | none => none

def forder (k : FloatKind) (a b : Option Nat) : Option Ordering :=
  match a with
  | some x => match b with
    | some y => k.format.order x y
    | none => none
  | none => none

def fcmp (op : BinOp) (k : FloatKind) (a b : Option Nat) : Bool :=
  match op with
  | .eql => forder k a b == some .eq
  | .neq => forder k a b != some .eq
  | .lss => forder k a b == some .lt
  | .leq => forder k a b == some .lt || forder k a b == some .eq
  | .gtr => forder k a b == some .gt
  | .geq => forder k a b == some .gt || forder k a b == some .eq
  | _ => false

def isFArith : BinOp → Bool
  | .add | .sub | .mul | .quo => true
  | _ => false
def isFCmp : BinOp → Bool
  | .eql | .neq | .lss | .leq | .gtr | .geq => true
  | _ => false

/-- An operation on floats; one that may yield a NaN draws its bits: not where the order is drawn. -/
def fltOp {ρ : Type} (q : Bool) (op : BinOp) (x y : AV) (K : AV → Option ρ) (L : Option ρ) : Option ρ :=
  match x with
  | .g (.flt k) a => match y with
    | .g (.flt k') b => cond (decide (k = k')) (cond (isFArith op) (cond q none (K (.g (.flt k) (farith op k a b)))) (cond (isFCmp op) (K (.g .bool (fcmp op k a b))) none)) none
    | _ => none
  | _ => L

/-- A float of one kind as one of the other, where it is no NaN and not too great. -/
def fconv (s : FloatKind) (x : Nat) (k : FloatKind) : Option Nat :=
  match s.decode x with
  | .nan _ _ => none
  | .infinity g => some (k.encode (.infinity g))
  | .number g m e => cond (k.decode (k.encode (.number g m e))).isInfinity none (some (k.encode (.number g m e)))

def fconvA (s : FloatKind) (a : Option Nat) (k : FloatKind) : Option Nat :=
  match a with
  | some x => fconv s x k
  | none => none

/-- A float as one of the other kind. -/
def fconvB {ρ : Type} (s : FloatKind) (a : Option Nat) (k : FloatKind) (K : Option Nat → Option ρ) : Option ρ :=
  match a with
  | some x => match fconv s x k with
    | some r => K (toF k r)
    | none => none
  | none => K none

/-- A float to a float: a NaN draws its bits: not where the order is drawn. -/
def fltConv {ρ : Type} (q : Bool) (dst : Sh) (x : AV) (K : AV → Option ρ) (L : Option ρ) : Option ρ :=
  match dst with
  | .flt k => match x with
    | .g (.flt s) a => cond (decide (s = k)) (K (.g (.flt k) a)) (cond q (match a with
        | some x => match fconv s x k with
          | some r => K (.g (.flt k) (toF k r))
          | none => none
        | none => none) (fconvB s a k fun v => K (.g (.flt k) v)))
    | _ => L
  | _ => L

/-- A root; none: a NaN. -/
def fsqrtT (a : Option Nat) : Option Nat :=
  match a with
  | some x => match FloatKind.f64.format.sqrt x with
    | some r => toF .f64 r
    | none => none
  | none => none

/-- An element put into a list. -/
def insF (xs : List Int) (i : Int) (y : List Int ⊕ Int) : Option (List Int) :=
  match y with
  | .inl ys => cond (decide (0 ≤ i) && decide (i ≤ (xs.length : Int)) && decide (xs.length ≤ 1000000) && Nat.beq ys.length 1) (some (xs.take i.toNat ++ (ys ++ xs.drop i.toNat))) none
  | .inr _ => none

/-- A part taken out of a list. -/
def delF (xs : List Int) (i : Int) (y : List Int ⊕ Int) : Option (List Int) :=
  match y with
  | .inr j => cond (decide (0 ≤ i) && decide (i < j) && decide (j ≤ (xs.length : Int)) && decide (xs.length ≤ 1000000)) (some (xs.take i.toNat ++ xs.drop j.toNat)) none
  | .inl _ => none

/-- A slice against nil: told where it has elements. -/
def nilEq {ρ : Type} (S : Nat → Option AO) (e : Option (Sh × Nat)) (op : BinOp) (x y : AV) (K : AV → Option ρ) (L : Option ρ) : Option ρ :=
  match y with
  | .nil => match e with
    | some _ => match x with
      | .nil => match op with
        | .eql => K (.g .bool true)
        | .neq => K (.g .bool false)
        | _ => none
      | .full h => match S h with
        | some (.arr _ a) => match op with
          | .eql => cond (List.isEmpty a) none (K (.g .bool false))
          | .neq => cond (List.isEmpty a) none (K (.g .bool true))
          | _ => none
        | _ => none
      | .g (.sl _) a => match op with
        | .eql => cond (List.isEmpty a) none (K (.g .bool false))
        | .neq => cond (List.isEmpty a) none (K (.g .bool true))
        | _ => none
      | _ => none
    | none => none
  | _ => L

def uop (op : UnOp) : AV → Option AV
  | .g (.int k) n => match op with
    | .neg => some (.g (.int k) (k.wrap (0 - n)))
    | _ => none
  | .g .bool b => match op with
    | .not => some (.g .bool (!b))
    | _ => none
  | _ => none

def conv {ρ : Type} (dst : Sh) (x : AV) (K : AV → Option ρ) : Option ρ :=
  match dst, x with
  | .int k, .g (.int _) n => K (.g (.int k) (k.wrap n))
  | .flt k, .g (.int _) n => K (.g (.flt k) (toF k (k.nearest n)))
  | .flt k, .g (.flt s) a => cond (decide (s = k)) (K (.g (.flt k) a)) (match fconvA s a k with
    | some r => K (.g (.flt k) (toF k r))
    | none => none)
  | _, _ => none

def flat : (s : Sh) → s.den → List AV
  | .pair a b, x => flat a x.1 ++ flat b x.2
  | .un, _ => []
  | .nw s, x => flat s x
  | s, x => [.g s x]

def cellsOf : AV → Option (List AV)
  | .agg l => some l
  | .tup _ => none
  | .top => none
  | .g s x => some (flat s x)
  | v => some [v]

/-- What stands in n cells from off on, as a value. -/
def cut (l : List AV) (off n : Nat) (agg : Bool) : Option AV :=
  cond agg (cond (decide (off + n ≤ l.length)) (some (.agg ((l.drop off).take n))) none) l[off]?

def paste (l : List AV) (off : Nat) (new : List AV) : List AV := l.take off ++ new ++ l.drop (off + new.length)

def intA : AV → Option Int
  | .g (.int _) n => some n
  | _ => none

/-- Result kinds of a callee: an array of its own, or a value. -/
inductive RK where
  | own (s : Sh)
  | val (s : Sh)

@[reducible] def RK.sh : RK → Sh
  | .own s => .sl s
  | .val s => s

@[reducible] def dens : List Sh → Type
  | [] => Unit
  | s :: r => s.den × dens r

structure Ent where
  ins : List Sh
  outs : List RK
  F : dens ins → Option (dens (outs.map RK.sh))

/-- A function that changes the array that it takes first. -/
structure EntM where
  io : Sh
  ins : List Sh
  outs : List RK
  F : List io.den → dens ins → Option (List io.den × dens (outs.map RK.sh))

/-- A function that changes the array that it takes first and all that this one names; nothing is told of what it leaves there. -/
structure EntD where
  io : Sh
  F : List io.den → Int → Option Int

/-- A function that uses up the array of numbers that it takes first, and yields one; behind it a number, and a number or another array. -/
structure EntA where
  F : List Int → Int → (List Int ⊕ Int) → Option (List Int)

/-- A function that changes what a pointer names that it takes at a place: an array of numbers, and a number behind it. -/
structure EntB where
  pos : Nat := 0
  ins : List Sh
  outs : List RK
  F : List Int → Int → dens ins → Option ((List Int × Int) × dens (outs.map RK.sh))

inductive EntX where
  | pl (e : Ent)
  | mu (e : EntM)
  | dp (e : EntD)
  | ap (e : EntA)
  | bm (e : EntB)

def takeN {α : Type} : Nat → List α → Option (α × List α)
  | _, [] => none
  | 0, a :: l => some (a, l)
  | n + 1, a :: l => match takeN n l with
    | some (b, r) => some (b, a :: r)
    | none => none

def insN {α : Type} : Nat → α → List α → List α
  | 0, v, l => v :: l
  | n + 1, v, a :: l => a :: insN n v l
  | _ + 1, v, [] => [v]

def nodup : List Nat → Bool
  | [] => true
  | h :: r => !(r.contains h) && nodup r

def delAll (l : List (Nat × AO)) : List Nat → List (Nat × AO)
  | [] => l
  | h :: r => delAll (del l h) r

/-- The arguments of a call as plain values. -/
def argsA (O : Nat → Option AO) : (ins : List Sh) → List AV → Option (dens ins)
  | [], [] => some ()
  | s :: r, a :: l => match gndV O s a, argsA O r l with
    | some x, some y => some (x, y)
    | _, _ => none
  | _, _ => none

def AV.handle : Nat → AV → Bool
  | 0, _ => true
  | n + 1, v => match v with
    | .full _ | .slc _ _ _ | .ptr _ _ | .el _ _ => true
    | .agg l | .tup l | .fn _ l => l.any (AV.handle n)
    | _ => false

/-- The results of a call as values; own arrays get names from base on. -/
def resA (base : Nat) : (outs : List RK) → dens (outs.map RK.sh) → List AV × List (Nat × AO)
  | [], _ => ([], [])
  | .own s :: r, x => let y := resA (base + 10000) r x.2; (.full base :: y.1, (base, .arr s x.1) :: y.2)
  | .val s :: r, x => let y := resA (base + 10000) r x.2; (.g s x.1 :: y.1, y.2)

/-- One value, or a tuple. -/
def tupA : List AV → AV
  | [v] => v
  | l => .tup l

def Env.freshAll (E : Env) (st : St) : List (Nat × AO) → Bool
  | [] => true
  | (h, _) :: r => E.fresh st h && E.freshAll st r

def RK.ref : RK → Bool
  | .val s => s.ref
  | .own s => s.ref

/-- Is a value's form in memory told by the plain value alone? -/
def Sh.det : Sh → Bool
  | .int _ | .bool => true
  | .pair a b => a.det && b.det
  | _ => false

def RK.det : RK → Bool
  | .val s => s.det
  | .own _ => false

/-- A value of which nothing is known but what it names is told by its object. -/
def AV.safe : Nat → AV → Bool
  | 0, _ => false
  | n + 1, v => match v with
    | .g s _ => !s.ref
    | .full _ | .slc _ _ _ | .ptr _ _ | .el _ _ | .nil => true
    | .agg l | .tup l | .fn _ l => l.all (AV.safe n)
    | _ => false

def AO.safe : AO → Bool
  | .arr s _ => !s.ref
  | .box cells => cells.all (AV.safe 6)

/-- What is left of the objects when all that is named by new plain values is lost. -/
def keepO (h : Nat) : List (Nat × AO) → List (Nat × AO)
  | [] => []
  | (k, o) :: r => cond (Nat.beq k h || !o.safe) (del (keepO h r) k) ((k, o) :: keepO h r)

/-- What is left of the slots. -/
def keepV : List AV → List AV → List AV
  | [], _ => []
  | v :: r, l => (match l with
    | .g s x :: _ => .g s x
    | _ => cond (AV.safe 6 v) v .top) :: keepV r l.tail

/-- All objects but one. -/
def exceptO (O : Nat → Option AO) (h k : Nat) : Option AO := cond (Nat.beq k h) none (O k)

def noArgs (E : Env) : Bool := E.objs.isEmpty && E.slots.all AV.isTop && !E.mutb

/-- What such a function takes last. -/
def thirdA (st : St) (h : Nat) : AV → Option (List Int ⊕ Int)
  | .g (.int .i64) j => some (.inr j)
  | .full k => cond (Nat.beq k h) none (match look st.objs k with
    | some (.arr s ys) => match castSh (.sl (.int .i64)) (.sl s) ys with
      | some ys => some (.inl ys)
      | none => none
    | _ => none)
  | _ => none

/-- What a pointer names: an array of numbers, and a number behind it. -/
def boxA (S : Nat → Option AO) : AV → Option (Nat × Option Nat × List Int × Int)
  | .ptr h 0 => match S h with
    | some (.box [v, .g (.int .i64) c]) => match v with
      | .nil => some (h, none, [], c)
      | .full k => match S k with
        | some (.arr s xs) => match castSh (.sl (.int .i64)) (.sl s) xs with
          | some xs => some (h, some k, xs, c)
          | none => none
        | _ => none
      | _ => none
    | _ => none
  | _ => none

/-- The same without the number: a captured variable that holds an array of numbers. -/
def box1A (S : Nat → Option AO) : AV → Option (Nat × Option Nat × List Int)
  | .ptr h 0 => match S h with
    | some (.box [v]) => match v with
      | .nil => some (h, none, [])
      | .full k => match S k with
        | some (.arr s xs) => match castSh (.sl (.int .i64)) (.sl s) xs with
          | some xs => some (h, some k, xs)
          | none => none
        | _ => none
      | _ => none
    | _ => none
  | _ => none

/-- All objects but some. -/
def exceptL (O : Nat → Option AO) (hs : List Nat) (k : Nat) : Option AO := cond (hs.contains k) none (O k)

/-- The objects behind such a function. -/
def boxed (l : List (Nat × AO)) (h n : Nat) (k : Option Nat) (z : List Int × Int) : List (Nat × AO) :=
  put ((n, .arr (.int .i64) z.1) :: delAll l k.toList) h (.box [.full n, .g (.int .i64) z.2])

def doCall {ρ : Type} (E : Env) (quiet : Bool) (d : Option Nat) (args : List AV) (st : St) (K : St → Option ρ) : List EntX → Option ρ
  | [] => none
  | .mu e :: r =>
    match args with
    | .full h :: args => match look st.objs h with
      | some (.arr s xs) => match castSh (.sl e.io) (.sl s) xs, argsA (exceptO (E.ob st) h) e.ins args with
        | some xs, some x => cond (quiet || e.io.ref || !e.outs.all RK.det) none
          (Option.bind (e.F xs x) fun z => cond (Nat.beq z.1.length xs.length) (E.wr d (tupA (resA 0 e.outs z.2).1) { st with objs := put st.objs h (.arr e.io z.1) } K) none)
        | _, _ => doCall E quiet d (.full h :: args) st K r
      | _ => none
    | _ => doCall E quiet d args st K r
  | .dp e :: r =>
    match args with
    | [.full h, .g (.int .i64) k] => match look st.objs h with
      | some (.arr s xs) => match castSh (.sl (.nw e.io)) (.sl s) xs with
        | some xs => cond (!quiet && noArgs E) (Option.bind (e.F xs k) fun z =>
            E.wr d (.g (.int .i64) z) { slots := keepV st.slots E.args, objs := keepO h st.objs } K) none
        | none => match castSh (.sl e.io) (.sl s) xs with
          | some xs => cond (!e.io.ref && (!quiet && noArgs E)) (Option.bind (e.F xs k) fun z =>
              E.wr d (.g (.int .i64) z) { slots := keepV st.slots E.args, objs := keepO h st.objs } K) none
          | none => doCall E quiet d args st K r
      | _ => none
    | _ => doCall E quiet d args st K r
  | .bm e :: r =>
    match takeN e.pos args with
    | some (a, rest) => match boxA (look st.objs) a with
      | some (h, k, xs, c) => match argsA (exceptL (E.ob st) (h :: k.toList)) e.ins rest with
        | some x => cond (quiet || !e.outs.all RK.det) none (Option.bind (e.F xs c x) fun z =>
            cond (E.fresh { st with objs := delAll st.objs k.toList } (d.getD 0 + 20000) && !Nat.beq h (d.getD 0 + 20000))
              (E.wr d (tupA (resA 0 e.outs z.2).1) { st with objs := boxed st.objs h (d.getD 0 + 20000) k z.1 } K) none)
        | none => doCall E quiet d args st K r
      | none => doCall E quiet d args st K r
    | none => doCall E quiet d args st K r
  | .ap e :: r =>
    match args with
    | [.full h, .g (.int .i64) i, u] => match look st.objs h, thirdA st h u with
      | some (.arr s xs), some y => match castSh (.sl (.int .i64)) (.sl s) xs with
        | some xs => cond quiet none (Option.bind (e.F xs i y) fun z => E.nw d (.arr (.int .i64) z) .full { st with objs := del st.objs h } K)
        | none => doCall E quiet d args st K r
      | _, _ => none
    | _ => doCall E quiet d args st K r
  | .pl e :: r =>
    match argsA (cond (args.any (AV.handle 6)) (E.ob st) (fun _ => none)) e.ins args with
    | none => doCall E quiet d args st K r
    | some x => cond (args.any (AV.handle 6) && e.outs.any RK.ref || quiet && !e.outs.all RK.det) none
        (Option.bind (e.F x) fun z =>
          let q := resA (d.getD 0 + 10000) e.outs z
          cond (E.freshAll st q.2)
            (E.wr d (tupA q.1) { st with objs := q.2 ++ st.objs } K) none)

/-- Parts laid into a list. -/
def layAll (O : Nat → Option AO) (s : Sh) : List (Nat × AV) → List s.den → Option (List s.den)
  | [], l => some l
  | (i, v) :: r, l => match gndV O s v with
    | some x => cond (decide (i < l.length)) (layAll O s r (l.set i x)) none
    | none => none

def fillAll (fs : List (Nat × Nat × Bool)) : List (Nat × AV) → List AV → Option (List AV)
  | [], l => some l
  | (i, v) :: r, l => match fs[i]?, cellsOf v with
    | some (off, n, _), some cs => cond (decide (cs.length = n ∧ off + n ≤ l.length)) (fillAll fs r (paste l off cs)) none
    | _, _ => none

def lenOfA (O : Nat → Option AO) : AV → Option Nat
  | .g (.sl _) xs => some xs.length
  | .full h => match O h with
    | some (.arr _ xs) => some xs.length
    | _ => none
  | .slc h _ len => match O h with
    | some (.arr _ _) => some len
    | _ => none
  | .nil => some 0
  | _ => none

/-- What an append may extend: the name of the object (none: nil) and its first cells. -/
def baseOf (S : Nat → Option AO) (s : Sh) : AV → Option (Option Nat × List s.den)
  | .nil => some (none, [])
  | .full h => match S h with
    | some (.arr s' xs) => match castSh (.sl s) (.sl s') xs with
      | some ys => some (some h, ys)
      | none => none
    | _ => none
  | .slc h 0 len => match S h with
    | some (.arr s' xs) => match castSh (.sl s) (.sl s') (xs.take len) with
      | some ys => some (some h, ys)
      | none => none
    | _ => none
  | _ => none

/-- Where a copy writes: the name of the object, from where, how far, all of it. -/
def dstOf (S : Nat → Option AO) (s : Sh) : AV → Option (Nat × Nat × Nat × List s.den)
  | .full h => match S h with
    | some (.arr s' xs) => match castSh (.sl s) (.sl s') xs with
      | some ys => some (h, 0, List.length ys, ys)
      | none => none
    | _ => none
  | .slc h off len => match S h with
    | some (.arr s' xs) => match castSh (.sl s) (.sl s') xs with
      | some ys => some (h, off, len, ys)
      | none => none
    | _ => none
  | _ => none

def copyN {α : Type} (len : Nat) (ys : List α) : Nat := Nat.min (List.length ys) len

def copyL {α : Type} (xs : List α) (off n : Nat) (ys : List α) : List α := xs.take off ++ (ys.take n ++ xs.drop (off + n))

def foldI (f : Int → Int → Int) : Int → List AV → Option Int
  | a, [] => some a
  | a, .g (.int _) b :: r => foldI f (f a b) r
  | _, _ => none

def allKind (k : IntKind) : List AV → Bool
  | [] => true
  | .g (.int k') _ :: r => decide (k = k') && allKind k r
  | _ => false

def Sh.isNw : Sh → Bool
  | .nw _ => true
  | _ => false

/-- The arrays of the call's own that a value of a new array's element may name: they are given away with it. -/
def giveO (E : Env) (st : St) (hs : List Nat) (k : Nat) : Option AO := cond (!E.mutb && hs.contains k) (look st.objs k) none

def fullHs : Nat → AV → List Nat
  | 0, _ => []
  | n + 1, v => match v with
    | .full h => [h]
    | .agg l => l.flatMap (fullHs n)
    | _ => []

def givesOf (s : Sh) (v : AV) : List Nat := cond s.isNw (fullHs 2 v) []

section
variable {ρ : Type} (tt : Nat → TD) (T : Nat → List EntX) (E : Env) (quiet : Bool)

/-- The elements of a new row. -/
def rowA (s : Sh) : List AV → Option (List s.den)
  | [] => some []
  | v :: r => match gndV (fun _ => none) s v, rowA s r with
    | some x, some xs => some (x :: xs)
    | _, _ => none

/-- Parts of one cell laid into the cells of a struct. -/
def fillA (fields : List (Nat × Nat × Bool)) : List (Nat × AV) → List AV → Option (List AV)
  | [], cells => some cells
  | (i, v) :: r, cells => match fields[i]? with
    | some (off, n, _) => cond (decide (n = 1 ∧ off < cells.length) && v.one) (fillA fields r (cells.set off v)) none
    | none => none

def aop (o : Oper) (st : St) (K : St → Option ρ) : Option ρ :=
  let ev := E.ev st
  let O := E.ob st
  let S := look st.objs
  match o.op with
  | .move x | .assign x => E.wr o.dst (ev x) st K
  | .pick c a b => match ev c with
    | .g .bool t => cond t (E.wr o.dst (ev a) st K) (E.wr o.dst (ev b) st K)
    | _ => none
  | .binOp op t x y _ => fltOp quiet op (ev x) (ev y) (fun v => E.wr o.dst v st K) <| nilEq O (tt t).elem op (ev x) (ev y) (fun v => E.wr o.dst v st K) (bop (tt t).eqs op (ev x) (ev y) fun v => E.wr o.dst v st K)
  | .unOp op _ x => match uop op (ev x) with
    | some v => E.wr o.dst v st K
    | none => none
  | .convert src dst x => match (tt src).kind, (tt dst).kind with
    | some _, some s => fltConv quiet s (ev x) (fun v => E.wr o.dst v st K) (conv s (ev x) fun v => E.wr o.dst v st K)
    | _, _ => none
  | .extract x i => match ev x with
    | .tup l => match l[i]? with
      | some v => E.wr o.dst v st K
      | none => none
    | _ => none
  | .nilCheck x => match ev x with
    | .ptr h off => match O h with
      | some (.box _) => E.wr o.dst (.ptr h off) st K
      | _ => none
    | .rp s v => E.wr o.dst (.rp s v) st K
    | .el h i => match O h with
      | some (.arr _ _) => E.wr o.dst (.el h i) st K
      | _ => none
    | .fn f l => E.wr o.dst (.fn f l) st K
    | _ => none
  | .indexAddr t x i => match (tt t).elem, intA (ev i) with
    | some (s0, _), some n => match ev x with
      | .g (.sl s) xs => cond (Nat.beq s.size s0.size) (Option.bind (idx xs n) fun v => E.wr o.dst (.rp s v) st K) none
      | .full h => match O h with
        | some (.arr s xs) => cond (Nat.beq s.size s0.size) (cond (inB n xs.length) (E.wr o.dst (.el h n.toNat) st K) none) none
        | _ => none
      | .slc h off len => match O h with
        | some (.arr s _) => cond (Nat.beq s.size s0.size) (cond (inB n len) (E.wr o.dst (.el h (off + n.toNat)) st K) none) none
        | _ => none
      | _ => none
    | _, _ => none
  | .fieldAddr t x f => match (tt t).fields[f]?, ev x with
    | some (off, _, _), .ptr h b => match O h with
      | some (.box _) => E.wr o.dst (.ptr h (b + off)) st K
      | _ => none
    | some (off, _, _), .rp s v => match projF (tt t).fields.length f s v 0 with
      | some (q, ⟨s', v'⟩) => cond (Nat.beq q off) (E.wr o.dst (.rp s' v') st K) none
      | none => none
    | _, _ => none
  | .field t x f => match (tt t).fields[f]?, ev x with
    | some (off, n, ag), .g s v => match projF (tt t).fields.length f s v 0 with
      | some (q, ⟨s', v'⟩) => cond (decide (q = off ∧ s'.size = n ∧ s'.isAgg = ag ∧ s.isAgg = true)) (E.wr o.dst (.g s' v') st K) none
      | none => none
    | some (off, n, ag), .agg l => match cut l off n ag with
      | some v => E.wr o.dst v st K
      | none => none
    | _, _ => none
  | .load t x => match ev x with
    | .rp s v => cond (decide (s.isAgg = (tt t).agg ∧ s.size = (tt t).size ∧ s.size ≠ 0 ∧ (tt t).known = true)) (E.wr o.dst (.g s v) st K) none
    | .ptr h off => match O h with
      | some (.box cells) => match cut cells off (tt t).size (tt t).agg with
        | some v => cond (tt t).known (E.wr o.dst v st K) none
        | none => none
      | _ => none
    | .el h i => match O h with
      | some (.arr s xs) => cond (decide (s.isAgg = (tt t).agg ∧ s.size = (tt t).size ∧ s.size ≠ 0 ∧ (tt t).known = true)) (Option.bind xs[i]? fun v => E.wr o.dst (.g s v) st K) none
      | _ => none
    | _ => none
  | .store t x y => match ev x with
    | .ptr h off => match S h, cellsOf (ev y) with
      | some (.box cells), some cs => cond (decide (cs.length = (tt t).size ∧ off + cs.length ≤ cells.length ∧ (tt t).known = true)) (E.wr o.dst .top { st with objs := put st.objs h (.box (paste cells off cs)) } K) none
      | _, _ => none
    | .el h i => match S h with
      | some (.arr s xs) => match gndV (giveO E st (givesOf s (ev y))) s (ev y) with
        | some v => cond (decide (s.size = (tt t).size ∧ (tt t).known = true) && !((givesOf s (ev y)).contains h)) (E.wr o.dst .top { st with objs := put (delAll st.objs (givesOf s (ev y))) h (.arr s (xs.set i v)) } K) none
        | none => none
      | _ => none
    | _ => none
  | .alloc t => cond (!(tt t).zero.isEmpty && !((tt t).zero.any fun v => AV.handle 6 v)) (E.nw o.dst (.box (tt t).zero) (fun d => .ptr d 0) st K) none
  | .box t x => match cellsOf (ev x) with
    | some cs => E.nw o.dst (.box cs) (fun d => .ptr d 0) st K
    | none => none
  | .makeSlice t l c => match (tt t).elem, intA (ev l), intA (ev c) with
    | some (s, _), some n, some m => cond (decide (0 ≤ n ∧ n ≤ m ∧ m ≤ (LIM : Int)) && s.zeroed) (E.nw o.dst (.arr s.mk (List.replicate n.toNat s.mk.zero)) .full st K) none
    | _, _, _ => none
  | .slice t x lo hi none => match (tt t).elem, ev x with
    | some (s0, _), .g (.sl s) xs => cond (Nat.beq s.size s0.size)
      (match lo.map (fun y => intA (ev y)), hi.map (fun y => intA (ev y)) with
      | none, none => E.wr o.dst (.g (.sl s) xs) st K
      | some (some a), none => cond (decide (0 ≤ a) && decide (a ≤ (xs.length : Int))) (E.wr o.dst (.g (.sl s) (xs.drop a.toNat)) st K) none
      | none, some (some b) => cond (decide (0 ≤ b) && decide (b ≤ (xs.length : Int))) (E.wr o.dst (.g (.sl s) (xs.take b.toNat)) st K) none
      | some (some a), some (some b) => cond (decide (0 ≤ a) && decide (a ≤ b) && decide (b ≤ (xs.length : Int))) (E.wr o.dst (.g (.sl s) ((xs.take b.toNat).drop a.toNat)) st K) none
      | _, _ => none) none
    | some (s0, _), .full h => match O h with
      | some (.arr s xs) => cond (Nat.beq s.size s0.size)
        (match (match lo with | none => some 0 | some y => intA (ev y)), (match hi with | none => some (xs.length : Int) | some y => intA (ev y)) with
        | some a, some b => cond (decide (0 ≤ a) && decide (a ≤ b) && decide (b ≤ (xs.length : Int))) (E.wr o.dst (.slc h a.toNat (b.toNat - a.toNat)) st K) none
        | _, _ => none) none
      | _ => none
    | some (s0, _), .slc h off len => match O h with
      | some (.arr s _) => cond (Nat.beq s.size s0.size)
        (match (match lo with | none => some 0 | some y => intA (ev y)), (match hi with | none => some (len : Int) | some y => intA (ev y)) with
        | some a, some b => cond (decide (0 ≤ a) && decide (a ≤ b) && decide (b ≤ (len : Int))) (E.wr o.dst (.slc h (off + a.toNat) (b.toNat - a.toNat)) st K) none
        | _, _ => none) none
      | _ => none
    | _, _ => none
  | .build t parts => match fillA (tt t).fields (parts.toList.map fun p => (p.1, ev p.2)) (tt t).zero with
    | some l => cond ((tt t).agg && !(tt t).zero.isEmpty) (E.wr o.dst (.agg l) st K) none
    | none => none
  | .buildSlice t n parts => match (tt t).elem with
    | some (s, _) => cond (decide (parts.toList.map (·.1) = List.range n) && s.zeroed && (Nat.beq n 0 || (!s.isAgg && Nat.beq s.size 1)) && decide (n ≤ 65536))
      (match rowA s (parts.toList.map fun p => ev p.2) with
      | some xs => E.nw o.dst (.arr s xs) .full st K
      | none => none) none
    | none => none
  | .makeFunc (.func f) first caps => cond (first.isEmpty && (caps.toList.map ev).all AV.one) (E.wr o.dst (.fn f (caps.toList.map ev)) st K) none
  | .call { callee := .builtin b, args, argTypes } => match b, args.toList.map ev with
    | .len, [x] => match argTypes[0]? with
      | some t => match (tt t).elem, lenOfA O x with
        | some _, some n => E.wr o.dst (.g (.int .i64) (n : Int)) st K
        | _, _ => none
      | none => none
    | .max, .g (.int k) a :: r => cond (allKind k r) (match foldI imax a r with
      | some m => E.wr o.dst (.g (.int k) m) st K
      | none => none) none
    | .min, .g (.int k) a :: r => cond (allKind k r) (match foldI imin a r with
      | some m => E.wr o.dst (.g (.int k) m) st K
      | none => none) none
    | .append, [x, y] => match argTypes[0]? with
      | some t => match (tt t).elem with
        | some (s, _) => match baseOf S s x, gnd O (.sl s) [y] with
          | some (h, xs), some ys => cond (!quiet && decide (xs.length + ys.length ≤ LIM) && s.zeroed && !s.ref && decide (argTypes[1]? = some t))
              (match h with
              | none => E.nw o.dst (.arr s (xs ++ ys)) .full st K
              | some h => E.nw o.dst (.arr s (xs ++ ys)) .full { st with objs := del st.objs h } K) none
          | _, _ => none
        | none => none
      | none => none
    | .copy, [x, y] => match argTypes[0]? with
      | some t => match (tt t).elem with
        | some (s, _) => match dstOf S s x, gnd O (.sl s) [y] with
          | some (h, off, len, xs), some ys => cond (!quiet && Nat.beq s.size 1 && !s.ref)
              (E.wr o.dst (.g (.int .i64) ((copyN len ys : Nat) : Int)) { st with objs := put st.objs h (.arr s (copyL xs off (copyN len ys) ys)) } K) none
          | _, _ => none
        | none => none
      | none => none
    | _, _ => none
  | .call { callee := .value f, args, .. } => match ev f with
    | .fn f caps => doCall E quiet o.dst (args.toList.map ev ++ caps) st K (T f)
    | .g (.clo f s) x => doCall E quiet o.dst (args.toList.map ev ++ flat s x) st K (T f)
    | _ => none
  | _ => none

end

section
variable {ρ : Type} (tt : Nat → TD) (T : Nat → List EntX) (E : Env) (quiet : Oper → Bool)

def aops (all : List Oper) : List Oper → St → (St → Option ρ) → Option ρ
  | [], st, K => K st
  | o :: r, st, K => match o.guard with
    | none => aop tt T E (quiet o) o st fun st' => aops all r st' K
    | some (j, want) => match (all[j]?).bind (·.dst) with
      | none => none
      | some t => match E.rd st t with
        | .g .bool b =>
          let step (v : Bool) : Option ρ := E.wr (some t) (.g .bool v) st fun st1 =>
            cond (v == want) (aop tt T E (quiet o) o st1 fun st' => aops all r st' K) (E.wr o.dst (.tup []) st1 fun st' => aops all r st' K)
          cond b (step true) (step false)
        | .tup [] => E.wr o.dst (.tup []) st fun st' => aops all r st' K
        | _ => none

end

/-- Loop templates. -/
inductive TK where
  | v (s : Sh)
  | own (s : Sh)
  | ownN (s : Sh)
  | bx
  | b1

@[reducible] def TK.sh : TK → Sh
  | .v s => s
  | .own s => .sl s
  | .ownN s => .sl s
  | .bx => .pair (.sl (.int .i64)) (.int .i64)
  | .b1 => .sl (.int .i64)

def cname (t : Nat) : Nat := 1000000 + t
def bname (t : Nat) : Nat := 1500000 + t

/-- The state at a loop's head; of each array that is nil where it is empty, it is told which it is. -/
def tmIn (tm : List (Nat × TK)) (x : dens (tm.map fun p => p.2.sh)) (bs : List Bool) (st : St) : St :=
  match tm with
  | [] => st
  | (t, .v s) :: r => tmIn r x.2 bs { st with slots := st.slots.set t (.g s x.1) }
  | (t, .own s) :: r => tmIn r x.2 bs { slots := st.slots.set t (.full (cname t)), objs := (cname t, .arr s x.1) :: st.objs }
  | (t, .ownN s) :: r => cond (bs.headD false) (tmIn r x.2 bs.tail { st with slots := st.slots.set t .nil })
    (tmIn r x.2 bs.tail { slots := st.slots.set t (.full (cname t)), objs := (cname t, .arr s x.1) :: st.objs })
  | (t, .b1) :: r => tmIn r x.2 bs { slots := st.slots.set t (.ptr (cname t) 0), objs := (cname t, .box [.full (bname t)]) :: (bname t, .arr (.int .i64) x.1) :: st.objs }
  | (t, .bx) :: r => tmIn r x.2 bs { slots := st.slots.set t (.ptr (cname t) 0), objs := (cname t, .box [.full (bname t), .g (.int .i64) x.1.2]) :: (bname t, .arr (.int .i64) x.1.1) :: st.objs }

def tmAsk {ρ : Type} : (tm : List (Nat × TK)) → dens (tm.map fun p => p.2.sh) → (List Bool → Option ρ) → Option ρ
  | [], _, K => K []
  | (_, .v _) :: r, x, K => tmAsk r x.2 K
  | (_, .own _) :: r, x, K => tmAsk r x.2 K
  | (_, .bx) :: r, x, K => tmAsk r x.2 K
  | (_, .b1) :: r, x, K => tmAsk r x.2 K
  | (_, .ownN _) :: r, x, K => cond (List.isEmpty x.1) (tmAsk r x.2 fun bs => K (true :: bs)) (tmAsk r x.2 fun bs => K (false :: bs))

def tmOut (E : Env) (st : St) : (tm : List (Nat × TK)) → Option (dens (tm.map fun p => p.2.sh))
  | [] => some ()
  | (t, .v s) :: r => match gndV (fun _ => none) s (E.rd st t), tmOut E st r with
    | some x, some y => some (x, y)
    | _, _ => none
  | (t, .own s) :: r => match baseOf (look st.objs) s (match E.rd st t with | .slc _ _ _ => .top | v => v), tmOut E st r with
    | some (_, x), some y => some (x, y)
    | _, _ => none
  | (t, .ownN s) :: r => match baseOf (look st.objs) s (match E.rd st t with | .slc _ _ _ => .top | v => v), tmOut E st r with
    | some (_, x), some y => some (x, y)
    | _, _ => none
  | (t, .bx) :: r => match boxA (look st.objs) (E.rd st t), tmOut E st r with
    | some (_, _, xs, c), some y => some ((xs, c), y)
    | _, _ => none
  | (t, .b1) :: r => match box1A (look st.objs) (E.rd st t), tmOut E st r with
    | some (_, _, xs), some y => some (xs, y)
    | _, _ => none

/-- The arrays that shall be nil where they are empty: those that are not nil are not empty. -/
def tmNe {ρ : Type} (E : Env) (st : St) (k : Option ρ) : List (Nat × TK) → Option ρ
  | [] => k
  | (_, .v _) :: r => tmNe E st k r
  | (_, .own _) :: r => tmNe E st k r
  | (_, .bx) :: r => tmNe E st k r
  | (_, .b1) :: r => tmNe E st k r
  | (t, .ownN _) :: r => match E.rd st t with
    | .full h => match look st.objs h with
      | some (.arr _ xs) => cond (List.isEmpty xs) none (tmNe E st k r)
      | _ => none
    | _ => tmNe E st k r

def tmHs (E : Env) (st : St) : List (Nat × TK) → List Nat
  | [] => []
  | (_, .v _) :: r => tmHs E st r
  | (t, .own _) :: r => match E.rd st t with
    | .full h => h :: tmHs E st r
    | _ => tmHs E st r
  | (t, .ownN _) :: r => match E.rd st t with
    | .full h => h :: tmHs E st r
    | _ => tmHs E st r
  | (t, .bx) :: r => match boxA (look st.objs) (E.rd st t) with
    | some (h, k, _, _) => h :: (k.toList ++ tmHs E st r)
    | none => tmHs E st r
  | (t, .b1) :: r => match box1A (look st.objs) (E.rd st t) with
    | some (h, k, _) => h :: (k.toList ++ tmHs E st r)
    | none => tmHs E st r

def opsDst : List Oper → List Nat
  | [] => []
  | o :: r => match o.dst with
    | some d => d :: opsDst r
    | none => opsDst r

def dsts : Code → List Nat
  | .region _ ops _ => opsDst ops.toList
  | .seq a b => dsts a ++ dsts b
  | .cond _ a b => dsts a ++ dsts b
  | .block _ c => dsts c
  | .loop c => dsts c
  | .scope c => dsts c
  | _ => []

def firstId : Code → Nat
  | .region id _ _ => id
  | .seq a _ => firstId a
  | .block _ c => firstId c
  | .loop c => 100000 + firstId c
  | .scope c => firstId c
  | .cond _ a _ => firstId a
  | _ => 0

def keepSlots (ds hs : List Nat) (i : Nat) : List AV → List AV
  | [] => []
  | v :: r => cond (ds.contains i || hs.any (fun h => ment h 6 v)) .top v :: keepSlots ds hs (i + 1) r

def mergeSlots : List AV → List AV → List AV
  | [], l => l
  | v :: r, l => match l with
    | [] => v :: r
    | u :: l => (match v with | .top => u | v => v) :: mergeSlots r l

def excl : List AV → List AV → Bool
  | v :: r, u :: l => (v.isTop || u.isTop) && excl r l
  | _, _ => true

def ownNames : List (Nat × TK) → List Nat
  | [] => []
  | (_, .v _) :: r => ownNames r
  | (t, .own _) :: r => cname t :: ownNames r
  | (t, .ownN _) :: r => cname t :: ownNames r
  | (t, .bx) :: r => cname t :: bname t :: ownNames r
  | (t, .b1) :: r => cname t :: bname t :: ownNames r

def loopN {σ ρ : Type} (body : σ → (σ → Option ρ) → Option ρ) : Nat → σ → Option ρ
  | 0, _ => none
  | n + 1, s => body s (loopN body n)

inductive Ex where
  | normal
  | exit (id : Nat)
  | ret

/-- Operations that leave memory as it is. -/
def quietOp (o : Oper) : Bool :=
  match o.op with
  | .move _ | .assign _ | .pick .. | .binOp .. | .unOp .. | .convert .. | .extract .. | .nilCheck _ | .fieldAddr .. | .field .. | .makeFunc .. | .build .. => true
  | .load .. | .indexAddr .. | .slice .. => true
  | .call { callee := .builtin .len, .. } | .call { callee := .builtin .max, .. } | .call { callee := .builtin .min, .. } => true
  | .call { callee := .value _, .. } => true
  | _ => false

/-- Operations that read memory. -/
def memOp (o : Oper) : Bool :=
  match o.op with
  | .load .. => true
  | .call { callee := .value _, .. } => true
  | _ => false

def EntX.wide : EntX → Bool
  | .pl e => !e.outs.all RK.det
  | _ => true

/-- Operations that change memory, or yield what lies there anew. -/
def wideOp (T : Nat → List EntX) (o : Oper) : Bool :=
  match o.op with
  | .store .. | .alloc _ | .box .. | .buildSlice .. | .makeSlice .. => true
  | .call { callee := .builtin .append, .. } | .call { callee := .builtin .copy, .. } => true
  | .call { callee := .value (.func f), .. } => (T f).any EntX.wide
  | _ => false

def EntX.isPl : EntX → Bool
  | .pl _ => true
  | _ => false

/-- Calls that change nothing that was there. -/
def growOp (T : Nat → List EntX) (o : Oper) : Bool :=
  match o.op with
  | .call { callee := .value (.func f), .. } => (T f).all EntX.isPl
  | _ => false

def loadOp (o : Oper) : Bool :=
  match o.op with
  | .load .. => true
  | _ => false

/-- Operations on floats that may draw the bits of a NaN. -/
def fltDr (tt : Nat → TD) (o : Oper) : Bool :=
  match o.op with
  | .binOp op t _ _ _ => isFArith op && (match (tt t).kind with | some (.flt _) => true | _ => false)
  | .convert _ dst _ => match (tt dst).kind with | some (.flt _) => true | _ => false
  | _ => false

/-- Two operations that may change places, whatever the world: oi stands first in the text. -/
def compat (Wd Gr Dr : Oper → Bool) (oi oj : Oper) : Bool :=
  !Wd oi && !Wd oj && (!Dr oi || !memOp oj || loadOp oj) || Wd oi && (!Wd oj && !memOp oj && !Dr oj) || (!Wd oi && !Dr oi && (!memOp oi || loadOp oi && Gr oj)) && Wd oj

def depStep (ops : Array Oper) (k : Nat) (acc : Array Bool) (j : Nat) : Array Bool :=
  match ops[j]? with
  | some oj => acc.setIfInBounds j (oj.after.any fun e => Region.binds .any e && (e.on == k || acc.getD e.on false))
  | none => acc

/-- Which operations wait for k, by whatever chain. -/
def depsOf (ops : Array Oper) (k : Nat) : Array Bool := (List.range ops.size).foldl (depStep ops k) (Array.replicate ops.size false)

def mixFree (Wd Gr Dr : Oper → Bool) (ops : Array Oper) (listed : Array Bool) (k : Nat) : Bool :=
  let ds := depsOf ops k
  match ops[k]? with
  | none => false
  | some ok => (List.range ops.size).all fun j => listed.getD j true || j == k || ds.getD j false || (match ops[j]? with | some oj => ok.apart ops oj && compat Wd Gr Dr ok oj | none => true)

def mixFrom (Wd Gr Dr : Oper → Bool) (ops : Array Oper) : Nat → Nat → Array Bool → Bool
  | 0, _, listed => (Region.ready .any ops listed).isEmpty
  | f + 1, k, listed => (Region.ready .any ops listed).contains k && mixFree Wd Gr Dr ops listed k && mixFrom Wd Gr Dr ops f (k + 1) (listed.setIfInBounds k true)

def mixB (Wd Gr Dr : Oper → Bool) (ops : Array Oper) : Bool := Region.noSelect ops && mixFrom Wd Gr Dr ops ops.size 0 (Array.replicate ops.size false)

/-- May the operations of a region that draws its order be run in the text's order? -/
def drawOk (tt : Nat → TD) (T : Nat → List EntX) (ops : Array Oper) : Bool := Region.lexB .any ops && ops.toList.all fun o => quietOp o && !(wideOp T o || fltDr tt o)
def drawMix (tt : Nat → TD) (T : Nat → List EntX) (ops : Array Oper) : Bool := mixB (wideOp T) (growOp T) (fltDr tt) ops && ops.toList.all fun o => quietOp o || wideOp T o

section
variable {ρ : Type} (N : Nat) (tt : Nat → TD) (T : Nat → List EntX) (L : Nat → List (Nat × TK))

def ex : Env → Code → St → (Ex → St → Option ρ) → Option ρ
  | _, .skip, st, K => K .normal st
  | E, .region _ ops draw, st, K => cond (!draw || drawOk tt T ops || drawMix tt T ops) (aops tt T E (fun o => draw && !(wideOp T o || fltDr tt o)) ops.toList ops.toList st (K .normal)) none
  | E, .seq a b, st, K => ex E a st fun e st' => match e with
    | .normal => ex E b st' K
    | e => K e st'
  | E, .cond c a b, st, K => match E.ev st c with
    | .g .bool t => cond t (ex E a st K) (ex E b st K)
    | _ => none
  | E, .block id c, st, K => ex E c st fun e st' => match e with
    | .exit j => cond (Nat.beq j id) (K .normal st') (K (.exit j) st')
    | e => K e st'
  | E, .loop c, st, K =>
    let tm := L (firstId c)
    let hs := tmHs E st tm
    let ds := dsts c ++ tm.map (·.1)
    let kept := keepSlots ds (hs ++ ownNames tm) 0 st.slots
    let objs := delAll st.objs hs
    let E' : Env := { slots := mergeSlots E.slots kept, objs := E.objs ++ objs, args := E.args, mutb := E.mutb }
    let st0 : St := { slots := List.replicate st.slots.length .top, objs := [] }
    cond (excl E.slots st.slots && nodup hs && nodup (tm.map (·.1)) && (ownNames tm).all (fun n => !(E'.slots.any (ment n 6)) && !(mentO n E'.objs)) && hs.all (fun h => !(mentO h E'.objs)) && tm.all (fun p => decide (p.1 < 500000)))
    (tmNe E st (match tmOut E st tm with
    | none => none
    | some x => loopN (fun s next => tmAsk tm s fun bs => ex E' c (tmIn tm s bs st0) fun e st' => match e with
        | .normal => cond (nodup (tmHs E' st' tm)) (tmNe E' st' (match tmOut E' st' tm with
          | some y => next y
          | none => none) tm) none
        | e => K e { slots := mergeSlots st'.slots kept, objs := st'.objs ++ objs }) N x) tm) none
  | _, .exit id, st, K => K (.exit id) st
  | _, .ret, st, K => K .ret st
  | _, _, _, _ => none

end

/-- The arrays of the call's own that a result's value may name: they are given away with it. -/
def giveR (E : Env) (st : St) (s : Sh) (hs : List Nat) (k : Nat) : Option AO := cond (s.isNw && !E.mutb && !(hs.contains k)) (look st.objs k) none

/-- The results of a function: read off the slots at its end. -/
def outA (E : Env) (st : St) (hs : List Nat) : (outs : List RK) → List Nat → Option (dens (outs.map RK.sh))
  | [], [] => some ()
  | .own s :: r, t :: ts => match baseOf (look st.objs) s (match E.rd st t with | .slc _ _ _ => .top | v => v), outA E st hs r ts with
    | some (_, x), some y => some (x, y)
    | _, _ => none
  | .val s :: r, t :: ts => match gndV (giveR E st s hs) s (E.rd st t), outA E st hs r ts with
    | some x, some y => some (x, y)
    | _, _ => none
  | _, _ => none

/-- A parameter's value: behind a pointer, what lies there. -/
def inV : (s : Sh) → s.den → AV
  | .bx s, x => .rp s x
  | s, x => .g s x

def inSlots : (ins : List Sh) → dens ins → List AV
  | [], _ => []
  | s :: r, x => inV s x.1 :: inSlots r x.2

def E0 : Env := { slots := [], objs := [] }

/-- The parameters' values, to be kept through the call. -/
def EA (l : List AV) : Env := { slots := [], objs := [], args := l }

def outHs (E : Env) (st : St) : List RK → List Nat → List Nat
  | .own _ :: r, t :: ts => match E.rd st t with
    | .full h => h :: outHs E st r ts
    | _ => outHs E st r ts
  | .val _ :: r, _ :: ts => outHs E st r ts
  | _, _ => []

/-- A function's answer: its body run over plain values. -/
def runF (N : Nat) (tt : Nat → TD) (T : Nat → List EntX) (L : Nat → List (Nat × TK)) (ins : List Sh) (outs : List RK) (body : Code) (ntmps : Nat) (res : List Nat)
    (x : dens ins) : Option (dens (outs.map RK.sh)) :=
  cond (ins.all Sh.plain) (ex N tt T L E0 body { slots := inSlots ins x ++ List.replicate (ntmps - ins.length) .top, objs := [] } fun e st =>
    match e with
    | .exit _ => none
    | _ => cond (nodup (outHs E0 st outs res)) (outA E0 st (outHs E0 st outs res) outs res) none) none

/-- The same, the parameters' values kept in their slots. -/
def runL (N : Nat) (tt : Nat → TD) (T : Nat → List EntX) (L : Nat → List (Nat × TK)) (ins : List Sh) (outs : List RK) (body : Code) (ntmps : Nat) (res : List Nat)
    (x : dens ins) : Option (dens (outs.map RK.sh)) :=
  cond (ins.all Sh.plain) (ex N tt T L (EA (inSlots ins x)) body { slots := inSlots ins x ++ List.replicate (ntmps - ins.length) .top, objs := [] } fun e st =>
    match e with
    | .exit _ => none
    | _ => cond (nodup (outHs (EA (inSlots ins x)) st outs res)) (outA (EA (inSlots ins x)) st (outHs (EA (inSlots ins x)) st outs res) outs res) none) none

/-- The name of the array that a function takes to change. -/
def MUT : Nat := 3000000

def EM : Env := { slots := [], objs := [], args := [.nil], mutb := true }

/-- The answer of a function that changes the array that it takes first. -/
def runM (N : Nat) (tt : Nat → TD) (T : Nat → List EntX) (L : Nat → List (Nat × TK)) (io : Sh) (ins : List Sh) (outs : List RK) (body : Code) (ntmps : Nat) (res : List Nat)
    (xs : List io.den) (x : dens ins) : Option (List io.den × dens (outs.map RK.sh)) :=
  cond (ins.all Sh.plain && outs.all RK.det) (ex N tt T L EM body { slots := .full MUT :: (inSlots ins x ++ List.replicate (ntmps - 1 - ins.length) .top), objs := [(MUT, .arr io xs)] } fun e st =>
    match e with
    | .exit _ => none
    | _ => match EM.rd st 0 with
      | .full h => match look st.objs h with
        | some (.arr s ys) => match castSh (.sl io) (.sl s) ys, outA EM st [] outs res with
          | some ys, some z => some (ys, z)
          | _, _ => none
        | _ => none
      | _ => none) none

def EMp (p : Nat) : Env := { slots := [], objs := [], args := List.replicate p .top ++ [.nil], mutb := true }

/-- The answer of a function that changes what a pointer names that it takes at a place. -/
def runB (N : Nat) (tt : Nat → TD) (T : Nat → List EntX) (L : Nat → List (Nat × TK)) (pos : Nat) (ins : List Sh) (outs : List RK) (body : Code) (ntmps : Nat) (res : List Nat)
    (xs : List Int) (c : Int) (x : dens ins) : Option ((List Int × Int) × dens (outs.map RK.sh)) :=
  cond (ins.all Sh.plain && outs.all RK.det) (ex N tt T L (EMp pos) body { slots := insN pos (.ptr MUT 0) (inSlots ins x) ++ List.replicate (ntmps - 1 - ins.length) .top, objs := [(MUT, .box [.full (MUT + 1), .g (.int .i64) c]), (MUT + 1, .arr (.int .i64) xs)] } fun e st =>
    match e with
    | .exit _ => none
    | _ => match boxA (look st.objs) ((EMp pos).rd st pos) with
      | some (_, _, ys, c') => match outA (EMp pos) st [] outs res with
        | some z => some ((ys, c'), z)
        | none => none
      | none => none) none

end Go.Proofs.Ytmdicmdodbndgaa.Fw
