/-
  What impl.ShopStarts computes, over plain values. No condition.
-/
import Derived.Test.YtgcmklniacjcfaaFwV
namespace Go.Proofs.Ytgcmklniacjcfaa
open Go Go.Proofs.Ytgcmklniacjcfaa.Fw

/-- How many steps each job has begun, when each job is free, when each machine is. -/
abbrev TS := List Int × List Int × List Int

def stepX (m : Nat) (s : TS) (j : Nat) : Nat := j * m + (s.1.getD j 0).toNat
def stepR (m : Nat) (rt : List Int) (s : TS) (j : Nat) : Nat := (rt.getD (stepX m s j) 0).toNat
def stepAt (m : Nat) (rt : List Int) (s : TS) (j : Nat) : Int := imax (s.2.1.getD j 0) (s.2.2.getD (stepR m rt s j) 0)
def turnT (m : Nat) (rt xs : List Int) (s : TS) (j : Nat) : TS :=
  (s.1.set j (s.1.getD j 0 + 1), s.2.1.set j (stepAt m rt s j + xs.getD (stepX m s j) 0), s.2.2.set (stepR m rt s j) (stepAt m rt s j + xs.getD (stepX m s j) 0))

/-- Nothing goes wrong at this turn. -/
def okT (m q : Nat) (rt xs : List Int) (s : TS) (j : Int) : Bool :=
  decide (0 ≤ j) && (decide (j < q) && (decide (0 ≤ s.1.getD j.toNat 0) && (decide (s.1.getD j.toNat 0 ≤ m) && (decide (s.1.getD j.toNat 0 = m) ||
    (decide (0 ≤ rt.getD (stepX m s j.toNat) 0) && (decide (rt.getD (stepX m s j.toNat) 0 < m) && (decide (0 ≤ stepAt m rt s j.toNat) && (decide (stepAt m rt s j.toNat ≤ 1000000000) &&
      (decide (0 ≤ xs.getD (stepX m s j.toNat) 0) && decide (xs.getD (stepX m s j.toNat) 0 ≤ 1000000000)))))))))) 

def zeroT (m q : Nat) : TS := (List.replicate q 0, List.replicate q 0, List.replicate m 0)

/-- The state after some turns; a turn of a job that has no step left changes nothing. -/
def shopT (m q : Nat) (rt xs tu : List Int) : Nat → TS × List Int
  | 0 => (zeroT m q, List.replicate xs.length 0)
  | t + 1 => cond ((shopT m q rt xs tu t).1.1.getD (tu.getD t 0).toNat 0 == (m : Int)) (shopT m q rt xs tu t)
      (turnT m rt xs (shopT m q rt xs tu t).1 (tu.getD t 0).toNat, (shopT m q rt xs tu t).2.set (stepX m (shopT m q rt xs tu t).1 (tu.getD t 0).toNat) (stepAt m rt (shopT m q rt xs tu t).1 (tu.getD t 0).toNat))

def startF (fR : List Int → List Int → Int → Option ((List Int × Int × Int) × Bool × Unit)) (fW : List Int → Int → Int → Option (Bool × Unit)) (fM : List Int → Option (Int × Unit))
    (rt xs : List Int) (M : Int) (tu : List Int) : Option (List Int × Int × Bool × Unit) :=
  Option.bind (fR rt xs M) fun r => cond r.2.1
    (cond (decide (r.1.1 = xs) && (decide (r.1.2.2 = M) && (decide (1 ≤ M) && (decide (M ≤ 8) && (decide (1 ≤ r.1.2.1) && (decide (r.1.2.1 ≤ 24) && (decide (r.1.2.1 * M = (xs.length : Int)) && decide (rt.length = xs.length))))))))
      (cond (decide (tu.length = xs.length))
        (Option.bind (fW tu 0 (r.1.2.1 - 1)) fun a => cond a.1
          (cond ((List.range xs.length).all fun t => okT M.toNat r.1.2.1.toNat rt xs (shopT M.toNat r.1.2.1.toNat rt xs tu t).1 (tu.getD t 0))
            (cond ((List.range xs.length).all fun t => !((shopT M.toNat r.1.2.1.toNat rt xs tu t).1.1.getD (tu.getD t 0).toNat 0 == M))
              (Option.bind (fM (shopT M.toNat r.1.2.1.toNat rt xs tu xs.length).1.2.2) fun v => some ((shopT M.toNat r.1.2.1.toNat rt xs tu xs.length).2, v.1, true, ()))
              (some ([], 0, false, ()))) none)
          (some ([], 0, false, ())))
        (some ([], 0, false, ()))) none)
    (some ([], 0, false, ()))

theorem shopT_len {m q : Nat} {rt xs tu : List Int} : ∀ t, (shopT m q rt xs tu t).1.1.length = q ∧ (shopT m q rt xs tu t).1.2.1.length = q ∧ (shopT m q rt xs tu t).1.2.2.length = m ∧ (shopT m q rt xs tu t).2.length = xs.length := by
  intro t
  induction t with
  | zero => simp [shopT, zeroT]
  | succ t ih =>
    unfold shopT
    cases (shopT m q rt xs tu t).1.1.getD (tu.getD t 0).toNat 0 == (m : Int) with
    | true => exact ih
    | false =>
      simp only [cond_false, turnT, List.length_set]
      exact ih

end Go.Proofs.Ytgcmklniacjcfaa
