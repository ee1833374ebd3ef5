/-
  What impl.permute and impl.firstLeast compute, over plain values. No condition.
-/
import Derived.Test.YtnnfapnpijjbdaaFwV
namespace Go.Proofs.Ytnnfapnpijjbdaa
open Go Go.Proofs.Ytnnfapnpijjbdaa.Fw

/-- All orders that begin so, one after another. -/
def runP {α : Type} (f : α → List Int → Option α) (n : Nat) : Nat → List Int → List Bool → α → Option α
  | 0, ord, _, a => f a ord
  | r + 1, ord, us, a => (List.range n).foldlM (fun a i => cond (us.getD i false) (some a) (runP f n r (ord ++ [(i : Int)]) (us.set i true) a)) a

/-- One more order. -/
def stepL (tf : List Int → Option (Int × Bool × Unit)) (acc : Option (List Int) × Int) (ord : List Int) : Option (Option (List Int) × Int) :=
  Option.bind (tf ord) fun r => some (cond (r.2.1 && (acc.1.isNone || decide (r.1 < acc.2))) (some ord, r.1) acc)

/-- All orders of n, each asked for its number: the first of the least ones. -/
def leastF (tf : List Int → Option (Int × Bool × Unit)) (n : Int) : Option (List Int × Int × Bool × Unit) :=
  cond (decide (1 ≤ n) && decide (n ≤ 1000))
    (Option.bind (runP (stepL tf) n.toNat n.toNat [] (List.replicate n.toNat false) (none, 0)) fun a => some (a.1.getD [], a.2, a.1.isSome, ())) none

end Go.Proofs.Ytnnfapnpijjbdaa
