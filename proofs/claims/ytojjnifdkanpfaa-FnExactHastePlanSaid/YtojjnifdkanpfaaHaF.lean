/-
  What impl.HastePlan computes, over plain values. No condition.
-/
import Derived.Test.YtojjnifdkanpfaaFwV
namespace Go.Proofs.Ytojjnifdkanpfaa.Ha
open Go Go.Proofs.Ytojjnifdkanpfaa Go.Proofs.Ytojjnifdkanpfaa.Fw
set_option linter.unusedVariables false
set_option linter.unusedSimpArgs false

abbrev Tk := Int × Int × List Int × List Int
/-- The best cuts so far, and what they cost. -/
abbrev HS := Option (List Int) × Int
/-- The shorter tasks, the cuts, the best so far. -/
abbrev HT := List Tk × List Int × HS

def tkD : Tk := (0, 0, [], [])

/-- One after another. -/
def goH {α : Type} (f : Nat → α → Option α) : Nat → Nat → α → Option α
  | 0, _, a => some a
  | d + 1, j, a => Option.bind (f j a) (goH f d (j + 1))

theorem goH_step {α : Type} {f : Nat → α → Option α} {d j : Nat} {a a' : α} (h : goH f (d + 1) j a = some a') : ∃ a1, f j a = some a1 ∧ goH f d (j + 1) a1 = some a' := Option.bind_eq_some_iff.1 h

def minI (a b : Int) : Int := if b < a then b else a

def leafH (fE : List Tk → Option (List Int × Unit)) (fL : List Tk → List Int → Option (Int × Unit)) (fC : List Int → Option (List Int × Unit)) (fin cost : Int) (sh : List Tk) (cu : List Int) (a : HS) : Option HS :=
  Option.bind (fE sh) fun s => cond (decide (s.1.length = sh.length)) (Option.bind (fL sh s.1) fun e =>
    cond (decide (e.1 ≤ fin) && (a.1.isNone || decide (cost < a.2))) (cond (decide (fC cu = some (cu, ()))) (some (some cu, cost)) none) (some a)) none

def okH (t mo co cost : Int) : Bool := decide (0 ≤ t) && (decide (t ≤ 100000) && (decide (0 ≤ mo) && (decide (mo ≤ 100000) && (decide (0 ≤ co) && (decide (co ≤ 100000) && (decide (0 ≤ cost) && decide (cost ≤ 1000000000000)))))))

def putH (fE : List Tk → Option (List Int × Unit)) (fL : List Tk → List Int → Option (Int × Unit)) (fC : List Int → Option (List Int × Unit)) (list : List Tk) (most costs : List Int) (fin : Int) : Nat → Int → HT → Option HT
  | 0, cost, S => Option.bind (leafH fE fL fC fin cost S.1 S.2.1 S.2.2) fun a => some (S.1, S.2.1, a)
  | r + 1, cost, S =>
    cond (okH (list.getD (list.length - (r + 1)) tkD).1 (most.getD (list.length - (r + 1)) 0) (costs.getD (list.length - (r + 1)) 0) cost)
      (goH (fun by_ S => putH fE fL fC list most costs fin r (cost + (by_ : Int) * costs.getD (list.length - (r + 1)) 0)
          (S.1.set (list.length - (r + 1)) ((list.getD (list.length - (r + 1)) tkD).1 - (by_ : Int), (S.1.getD (list.length - (r + 1)) tkD).2), S.2.1.set (list.length - (r + 1)) (by_ : Int), S.2.2))
        (minI (most.getD (list.length - (r + 1)) 0) (list.getD (list.length - (r + 1)) tkD).1 + 1).toNat 0 S) none

def noH : Option (List Int × Int × Bool × Unit) := some ([], 0, false, ())

def haF (fA : List Tk → Option (Bool × Unit)) (fM : List Int → Int → Int → Int → Int → Option (Bool × Unit)) (fW : Int → Int → Int → Option (Bool × Unit)) (fE : List Tk → Option (List Int × Unit)) (fL : List Tk → List Int → Option (Int × Unit)) (fC : List Int → Option (List Int × Unit)) (list : List Tk) (most costs : List Int) (fin : Int) : Option (List Int × Int × Bool × Unit) :=
  Option.bind (fA list) fun a => cond a.1 (cond (decide (list.length > 5)) noH (Option.bind (fM most list.length list.length 0 3) fun b => cond b.1 (Option.bind (fM costs list.length list.length 0 1000) fun c => cond c.1 (Option.bind (fW fin 0 100000) fun d => cond d.1
    (cond (decide (1 ≤ list.length) && (decide (most.length = list.length) && decide (costs.length = list.length)))
      (Option.bind (putH fE fL fC list most costs fin list.length 0 (list, List.replicate list.length 0, (none, 0))) fun S => some (S.2.2.1.getD [], S.2.2.2, S.2.2.1.isSome, ())) none) noH) noH) noH)) noH

end Go.Proofs.Ytojjnifdkanpfaa.Ha
