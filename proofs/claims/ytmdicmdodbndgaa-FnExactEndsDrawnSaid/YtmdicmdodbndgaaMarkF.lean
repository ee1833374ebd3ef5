/-
  How far marking counts. No condition.
-/
import Derived.Test.YtmdicmdodbndgaaFwB
namespace Go.Proofs.Ytmdicmdodbndgaa
open Go Go.Proofs.Ytmdicmdodbndgaa.Fw

def tksLen : List (Int × Int × List Int × List Int) → Int
  | [] => 0
  | t :: r => 2 + (t.2.2.1.length : Int) + (t.2.2.2.length : Int) + tksLen r

theorem tksLen_nonneg : ∀ xs : List (Int × Int × List Int × List Int), 0 ≤ tksLen xs
  | [] => Int.le_refl _
  | t :: r => by
    have := tksLen_nonneg r
    unfold tksLen
    omega

theorem tksLen_len : ∀ xs : List (Int × Int × List Int × List Int), 2 * (xs.length : Int) ≤ tksLen xs
  | [] => by simp [tksLen]
  | t :: r => by
    have := tksLen_len r
    unfold tksLen
    simp only [List.length_cons]
    omega

theorem tksLen_le : ∀ xs : List (Int × Int × List Int × List Int), (∀ t ∈ xs, t.2.2.1.length ≤ 1048576 ∧ t.2.2.2.length ≤ 1048576) → tksLen xs ≤ 2097154 * (xs.length : Int)
  | [], _ => by simp [tksLen]
  | t :: r, h => by
    have h1 := tksLen_le r (fun u hu => h u (List.mem_cons_of_mem _ hu))
    have h2 := h t List.mem_cons_self
    unfold tksLen
    simp only [List.length_cons]
    omega

def laws_markTaskS_d (xs : List (Int × Int × List Int × List Int)) (k : Int) : Option Int := cond (decide (0 ≤ k) && decide (k + tksLen xs ≤ 4611686018427387904)) (some (k + tksLen xs)) none

def listsLen : List (List Int) → Int
  | [] => 0
  | t :: r => (t.length : Int) + listsLen r

theorem listsLen_nonneg : ∀ xs : List (List Int), 0 ≤ listsLen xs
  | [] => Int.le_refl _
  | t :: r => by
    have := listsLen_nonneg r
    unfold listsLen
    omega

theorem listsLen_le : ∀ xs : List (List Int), (∀ t ∈ xs, t.length ≤ 1048576) → listsLen xs ≤ 1048576 * (xs.length : Int)
  | [], _ => by simp [listsLen]
  | t :: r, h => by
    have h1 := listsLen_le r (fun u hu => h u (List.mem_cons_of_mem _ hu))
    have h2 := h t List.mem_cons_self
    unfold listsLen
    simp only [List.length_cons]
    omega

def laws_markInt64SS_d (xs : List (List Int)) (k : Int) : Option Int := cond (decide (0 ≤ k) && (decide (k + listsLen xs ≤ 4611686018427387904) && decide (xs.length ≤ 4611686018427387904))) (some (k + listsLen xs)) none

def laws_markJobS_d (xs : List (Int × Int × Int × Int)) (k : Int) : Option Int := cond (decide (0 ≤ k) && decide (k + 4 * (xs.length : Int) ≤ 4611686018427387904)) (some (k + 4 * (xs.length : Int))) none

end Go.Proofs.Ytmdicmdodbndgaa
