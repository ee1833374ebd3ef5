/-
  What spec.HastePlan computes, over plain values. No condition.
-/
import Derived.Test.YtojjnifdkanpfaaHaF
namespace Go.Proofs.Ytojjnifdkanpfaa.Ha
open Go Go.Proofs.Ytojjnifdkanpfaa Go.Proofs.Ytojjnifdkanpfaa.Fw
set_option linter.unusedVariables false
set_option linter.unusedSimpArgs false

/-- The tasks, the first k of them made shorter. -/
def nowT (list : List Tk) (sh : List Int) : Nat → List Tk
  | 0 => list
  | k + 1 => (nowT list sh k).set k ((list.getD k tkD).1 - sh.getD k 0, (list.getD k tkD).2)

def costT (sh costs : List Int) : Nat → Int
  | 0 => 0
  | k + 1 => costT sh costs k + sh.getD k 0 * costs.getD k 0

def okT (list : List Tk) (sh costs : List Int) : Bool :=
  (List.range list.length).all fun i => decide (0 ≤ (list.getD i tkD).1) && (decide ((list.getD i tkD).1 ≤ 100000) && (decide (0 ≤ sh.getD i 0) && (decide (sh.getD i 0 ≤ 100000) && (decide (0 ≤ costs.getD i 0) && decide (costs.getD i 0 ≤ 100000)))))

/-- One more, from the last place on; whether there is one. -/
def incT (fN : Int → Int → Option (Int × Unit)) (list : List Tk) (most : List Int) : Nat → List Int → Option (List Int × Bool)
  | 0, sh => some (sh, false)
  | d + 1, sh => Option.bind (fN (most.getD d 0) (list.getD d tkD).1) fun m => cond (decide (sh.getD d 0 + 1 ≤ m.1)) (some (sh.set d (sh.getD d 0 + 1), true)) (incT fN list most d (sh.set d 0))

def tryT (fY : List Tk → Option (List Int × Unit)) (fZ : List Tk → List Int → Option (Int × Unit)) (fin : Int) (list : List Tk) (costs sh : List Int) (b : List Int × Int) : Option (List Int × Int) :=
  cond (okT list sh costs) (Option.bind (fY (nowT list sh list.length)) fun s => cond (decide (s.1.length = list.length)) (Option.bind (fZ (nowT list sh list.length) s.1) fun e =>
    some (cond (decide (e.1 ≤ fin) && (decide (b.2 < 0) || decide (costT sh costs list.length < b.2))) (sh, costT sh costs list.length) b)) none) none

def outT (fN : Int → Int → Option (Int × Unit)) (fY : List Tk → Option (List Int × Unit)) (fZ : List Tk → List Int → Option (Int × Unit)) (fin : Int) (list : List Tk) (most costs : List Int) : Nat → List Int → List Int × Int → Option (List Int × Int)
  | 0, _, _ => none
  | f + 1, sh, b => Option.bind (tryT fY fZ fin list costs sh b) fun b' => Option.bind (incT fN list most list.length sh) fun q => cond q.2 (outT fN fY fZ fin list most costs f q.1 b') (some b')

/-- Whether the numbers lie in their bounds. -/
def chkT (fI : Int → Int → Int → Option (Bool × Unit)) (most costs : List Int) : Nat → Nat → Option Bool
  | 0, _ => some true
  | d + 1, i => Option.bind (fI (most.getD i 0) 0 3) fun a => cond a.1 (Option.bind (fI (costs.getD i 0) 0 1000) fun b => cond b.1 (chkT fI most costs d (i + 1)) (some false)) (some false)

def hgF (fA : List Tk → Option (Bool × Unit)) (fI : Int → Int → Int → Option (Bool × Unit)) (fN : Int → Int → Option (Int × Unit)) (fY : List Tk → Option (List Int × Unit)) (fZ : List Tk → List Int → Option (Int × Unit)) (list : List Tk) (most costs : List Int) (fin : Int) : Option (List Int × Int × Bool × Unit) :=
  Option.bind (fA list) fun a => cond a.1 (cond (decide (list.length > 5)) noH (cond (decide (most.length = list.length)) (cond (decide (costs.length = list.length)) (Option.bind (fI fin 0 100000) fun d => cond d.1
    (cond (decide (1 ≤ list.length)) (Option.bind (chkT fI most costs list.length 0) fun ok => cond ok
      (Option.bind (outT fN fY fZ fin list most costs (4 ^ list.length) (List.replicate list.length 0) ([], -1)) fun b => cond (decide (b.2 < 0)) noH (some (b.1, b.2, true, ()))) noH) none) noH) noH) noH)) noH

theorem nowT_length (list : List Tk) (sh : List Int) (k : Nat) : (nowT list sh k).length = list.length := by
  induction k with
  | zero => rfl
  | succ k ih => rw [nowT, List.length_set, ih]

theorem nowT_get (list : List Tk) (sh : List Int) (k j : Nat) (h : k ≤ j) : (nowT list sh k)[j]? = list[j]? := by
  induction k with
  | zero => rfl
  | succ k ih => rw [nowT, List.getElem?_set_ne (by omega), ih (by omega)]

theorem okT_get {list : List Tk} {sh costs : List Int} (h : okT list sh costs = true) {i : Nat} (hi : i < list.length) : 0 ≤ (list.getD i tkD).1 ∧ (list.getD i tkD).1 ≤ 100000 ∧ 0 ≤ sh.getD i 0 ∧ sh.getD i 0 ≤ 100000 ∧ 0 ≤ costs.getD i 0 ∧ costs.getD i 0 ≤ 100000 := by
  have := List.all_eq_true.1 h i (List.mem_range.2 hi)
  simp only [Bool.and_eq_true, decide_eq_true_eq] at this
  exact this

theorem costT_bound {list : List Tk} {sh costs : List Int} (h : okT list sh costs = true) (k : Nat) (hk : k ≤ list.length) : 0 ≤ costT sh costs k ∧ costT sh costs k ≤ (k : Int) * 10000000000 := by
  induction k with
  | zero => exact ⟨Int.le_refl _, by simp [costT]⟩
  | succ k ih =>
    obtain ⟨h1, h2⟩ := ih (by omega)
    obtain ⟨_, _, a1, a2, a3, a4⟩ := okT_get h (i := k) (by omega)
    have b1 : 0 ≤ sh.getD k 0 * costs.getD k 0 := Int.mul_nonneg a1 a3
    have b2 : sh.getD k 0 * costs.getD k 0 ≤ 100000 * costs.getD k 0 := Int.mul_le_mul_of_nonneg_right a2 a3
    rw [costT]
    omega

end Go.Proofs.Ytojjnifdkanpfaa.Ha
