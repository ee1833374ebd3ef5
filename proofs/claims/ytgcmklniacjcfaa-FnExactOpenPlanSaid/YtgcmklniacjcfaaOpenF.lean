/-
  What impl.OpenPlan computes, over plain values. No condition.
-/
import Derived.Test.YtgcmklniacjcfaaFwV
namespace Go.Proofs.Ytgcmklniacjcfaa
open Go Go.Proofs.Ytgcmklniacjcfaa.Fw

/-- The next step of a plan, and when it begins. -/
def pickO (m : Nat) (xs out J Fr : List Int) : Nat → Int × Int
  | 0 => (-1, 0)
  | k + 1 => cond (decide (out.getD k 0 ≥ 0)) (pickO m xs out J Fr k)
      (cond (decide ((pickO m xs out J Fr k).1 < 0) || (decide (imax (J.getD (k / m) 0) (Fr.getD (k % m) 0) < (pickO m xs out J Fr k).2) ||
        (decide (imax (J.getD (k / m) 0) (Fr.getD (k % m) 0) = (pickO m xs out J Fr k).2) && decide (xs.getD k 0 > xs.getD (pickO m xs out J Fr k).1.toNat 0))))
        ((k : Int), imax (J.getD (k / m) 0) (Fr.getD (k % m) 0)) (pickO m xs out J Fr k))

abbrev OS := List Int × List Int × List Int

def pickS (m : Nat) (xs : List Int) (s : OS) : Int × Int := pickO m xs s.1 s.2.1 s.2.2 xs.length

def stepO (m : Nat) (xs : List Int) (s : OS) : OS :=
  (s.1.set (pickS m xs s).1.toNat (pickS m xs s).2, s.2.1.set ((pickS m xs s).1.toNat / m) ((pickS m xs s).2 + xs.getD (pickS m xs s).1.toNat 0), s.2.2.set ((pickS m xs s).1.toNat % m) ((pickS m xs s).2 + xs.getD (pickS m xs s).1.toNat 0))

def openL (m q : Nat) (xs : List Int) : Nat → OS
  | 0 => (List.replicate xs.length (-1), List.replicate q 0, List.replicate m 0)
  | t + 1 => stepO m xs (openL m q xs t)

/-- The step is one, and no number grows too large. -/
def okO (m : Nat) (xs : List Int) (s : OS) : Bool :=
  decide (0 ≤ (pickS m xs s).1) && (decide (-1000000000 ≤ (pickS m xs s).2) && (decide ((pickS m xs s).2 ≤ 1000000000) && xs.all (fun v => decide (-1000000000 ≤ v) && decide (v ≤ 1000000000))))

def openF (fS : List Int → Int → Option ((List Int × Int × Int) × Bool × Unit)) (fN : Int → Option (List Int × Unit)) (fM : List Int → Option (Int × Unit)) (xs : List Int) (M : Int) : Option (List Int × Int × Bool × Unit) :=
  Option.bind (fS xs M) fun r => cond r.2.1
    (cond (decide (r.1.2.2 = M) && (decide (1 ≤ M) && (decide (M ≤ 8) && (decide (1 ≤ r.1.2.1) && (decide (r.1.2.1 ≤ 24) && (decide (r.1.2.1 * M = (xs.length : Int)) && (List.range xs.length).all fun t => okO M.toNat xs (openL M.toNat r.1.2.1.toNat xs t)))))))
      (Option.bind (fN (xs.length : Int)) fun o => cond (decide (o.1 = List.replicate xs.length (-1)))
        (Option.bind (fM (openL M.toNat r.1.2.1.toNat xs xs.length).2.2) fun v => some ((openL M.toNat r.1.2.1.toNat xs xs.length).1, v.1, true, ())) none) none)
    (some ([], 0, false, ()))

theorem pickO_lt {m : Nat} {xs out J Fr : List Int} : ∀ k : Nat, (pickO m xs out J Fr k).1 = -1 ∨ (0 ≤ (pickO m xs out J Fr k).1 ∧ (pickO m xs out J Fr k).1 < (k : Int)) := by
  intro k
  induction k with
  | zero => exact .inl rfl
  | succ k ih =>
    unfold pickO
    have old : (pickO m xs out J Fr k).1 = -1 ∨ (0 ≤ (pickO m xs out J Fr k).1 ∧ (pickO m xs out J Fr k).1 < ((k + 1 : Nat) : Int)) := ih.imp id fun h => ⟨h.1, by omega⟩
    cases decide (out.getD k 0 ≥ 0) with
    | true => exact old
    | false =>
      rw [cond_false]
      generalize (decide ((pickO m xs out J Fr k).1 < 0) || _) = c
      cases c with
      | true => exact .inr ⟨by show (0 : Int) ≤ (k : Int); omega, by show (k : Int) < ((k + 1 : Nat) : Int); omega⟩
      | false => exact old

theorem openL_len {m q : Nat} {xs : List Int} : ∀ t, (openL m q xs t).1.length = xs.length ∧ (openL m q xs t).2.1.length = q ∧ (openL m q xs t).2.2.length = m := by
  intro t
  induction t with
  | zero => simp [openL]
  | succ t ih =>
    unfold openL stepO
    simp only [List.length_set]
    exact ih

end Go.Proofs.Ytgcmklniacjcfaa
