/-
  What impl.BestShop computes, over plain values. No condition.
-/
import Derived.Test.YtgcmklniacjcfaaShopF
namespace Go.Proofs.Ytgcmklniacjcfaa
open Go Go.Proofs.Ytgcmklniacjcfaa.Fw

abbrev BS := Option (List Int) × Int

def leafP (fM : List Int → Option (Int × Unit)) (fCL : List Int → Option (List Int × Unit)) (s : TS) (tu : List Int) (a : BS) : Option BS :=
  Option.bind (fM s.2.2) fun v => cond (a.1.isNone || decide (v.1 < a.2)) (cond (decide (fCL tu = some (tu, ()))) (some (some tu, v.1)) none) (some a)

/-- One after another. -/
def goJ {α : Type} (f : Nat → α → Option α) : Nat → Nat → α → Option α
  | 0, _, a => some a
  | d + 1, j, a => Option.bind (f j a) (goJ f d (j + 1))

def okB (fCI fCL : List Int → Option (List Int × Unit)) (m q : Nat) (rt xs : List Int) (s : TS) (j : Nat) : Bool :=
  okT m q rt xs s (j : Int) && (decide (fCI s.1 = some (s.1, ())) && (decide (fCL s.2.1 = some (s.2.1, ())) && decide (fCL s.2.2 = some (s.2.2, ()))))

def searchP (fM : List Int → Option (Int × Unit)) (fCI fCL : List Int → Option (List Int × Unit)) (m q : Nat) (rt xs : List Int) : Nat → TS → List Int → BS → Option BS
  | 0, s, tu, a => leafP fM fCL s tu a
  | r + 1, s, tu, a => goJ (fun j a => cond (s.1.getD j 0 == (m : Int)) (some a) (cond (okB fCI fCL m q rt xs s j) (searchP fM fCI fCL m q rt xs r (turnT m rt xs s j) (tu ++ [(j : Int)]) a) none)) q 0 a

def bestF (fR : List Int → List Int → Int → Option ((List Int × Int × Int) × Bool × Unit)) (fM : List Int → Option (Int × Unit)) (fCI fCL : List Int → Option (List Int × Unit)) (rt xs : List Int) (M : Int) : Option (List Int × Int × Bool × Unit) :=
  Option.bind (fR rt xs M) fun r => cond r.2.1
    (cond (decide (r.1.1 = xs) && (decide (r.1.2.2 = M) && (decide (1 ≤ M) && (decide (M ≤ 8) && (decide (1 ≤ r.1.2.1) && (decide (r.1.2.1 ≤ 24) && (decide (r.1.2.1 * M = (xs.length : Int)) && decide (rt.length = xs.length))))))))
      (cond (decide (8 < xs.length)) (some ([], 0, false, ()))
        (Option.bind (searchP fM fCI fCL M.toNat r.1.2.1.toNat rt xs xs.length (zeroT M.toNat r.1.2.1.toNat) [] (none, 0)) fun a => some (a.1.getD [], a.2, true, ()))) none)
    (some ([], 0, false, ()))

/-- The reference's search. -/
def lookP (fT : List Int → Option (List Int × Int × Unit)) (q : Nat) : Nat → List Int → List Int → List Int × Int → Option (List Int × Int)
  | 0, _, tu, a => Option.bind (fT tu) fun v => some (cond (decide (a.1.length = 0) || decide (v.2.1 < a.2)) (tu, v.2.1) a)
  | r + 1, left, tu, a => goJ (fun i a => cond (left.getD i 0 == 0) (some a) (cond (decide (0 ≤ left.getD i 0) && decide (left.getD i 0 ≤ 1000)) (lookP fT q r (left.set i (left.getD i 0 - 1)) (tu ++ [(i : Int)]) a) none)) q 0 a

def lookF (fS : List Int → List Int → Int → Option (Bool × Unit)) (fC : List Int → Int → Option (Int × Unit)) (fT : List Int → List Int → Int → List Int → Option (List Int × Int × Unit)) (rt xs : List Int) (M : Int) : Option (List Int × Int × Bool × Unit) :=
  Option.bind (fS rt xs M) fun r => cond r.1
    (cond (decide (8 < xs.length)) (some ([], 0, false, ()))
      (Option.bind (fC xs M) fun k => cond (decide (0 ≤ k.1) && (decide (k.1 ≤ 24) && (decide (1 ≤ xs.length) && (decide (0 ≤ M) && decide (M ≤ 8)))))
        (Option.bind (lookP (fT rt xs M) k.1.toNat xs.length (List.replicate k.1.toNat M) [] ([], 0)) fun a => some (a.1, a.2, true, ())) none))
    (some ([], 0, false, ()))

end Go.Proofs.Ytgcmklniacjcfaa
