/-
  SameArcs and SameRules: the plain laws. No condition.
-/
import Derived.Test.YtakmpiljijhcbaaPB
namespace Go.Proofs.Ytakmpiljijhcbaa
open Go Go.Proofs.Ytakmpiljijhcbaa.Fw
set_option linter.unusedVariables false
set_option linter.unusedSimpArgs false

theorem beq4 (a b : Int × Int × Int × Int) : ((a.1 == b.1) && ((a.2.1 == b.2.1) && ((a.2.2.1 == b.2.2.1) && (a.2.2.2 == b.2.2.2)))) = decide (a = b) := by
  obtain ⟨a1, a2, a3, a4⟩ := a
  obtain ⟨b1, b2, b3, b4⟩ := b
  by_cases h1 : a1 = b1 <;> by_cases h2 : a2 = b2 <;> by_cases h3 : a3 = b3 <;> by_cases h4 : a4 = b4 <;> simp [h1, h2, h3, h4]

section
variable {N : Nat} (hN : 9223372036854775808 ≤ N)
include hN

theorem same4 {xs ys : List (Int × Int × Int × Int)} (hx : xs.length ≤ 4294967296) : cond ((List.length xs : Int) != (List.length ys : Int))
    (some (false, ()))
    (loopN (fun (s1 : Int × Unit) next2 =>
      cond (decide (s1.1 < (List.length xs : Int)))
        (Option.bind (idx xs s1.1) fun v3 =>
        Option.bind (idx ys s1.1) fun v4 =>
        cond (!((v3.1 == v4.1) && ((v3.2.1 == v4.2.1) && ((v3.2.2.1 == v4.2.2.1) && (v3.2.2.2 == v4.2.2.2)))))
          (some (false, ()))
          (next2 ((w64 (s1.1 + 1)), ())))
        (some (true, ()))) N (0, ())) = some (decide (xs = ys), ()) := by
  by_cases hl : ys.length = xs.length
  · rw [show ((List.length xs : Int) != (List.length ys : Int)) = false by simp [hl], cond_false]
    refine eq_loop_gen hN hx hl (fun s next h => ?_) (fun s next v u h1 h2 h3 h4 h5 => ?_)
    · simp only [h, Int.lt_irrefl, decide_false, cond_false]
    · simp only [h2, decide_true, cond_true, h3, h4, Option.bind_some, beq4, h5]
      cases decide (v = u) <;> rfl
  · rw [show ((List.length xs : Int) != (List.length ys : Int)) = true by simp; omega, cond_true, decide_eq_false (fun h => hl (by rw [h]))]

theorem toArcS_eq {xs : List (Int × Int × Int × Int)} (hx : xs.length ≤ 1048576) : laws_toArcS N xs = some (xs, ()) := by
  unfold laws_toArcS
  rw [mkOk_of (by omega)]
  exact copy_loop (xs := xs) (z := (0, 0, 0, 0)) (by omega) (by omega) (K := fun l => some (l, ()))

theorem eqArcS_eq {xs : List (Int × Int × Int × Int)} (hx : xs.length ≤ 1048576) : laws_eqArcS N xs xs = some (true, ()) := by
  unfold laws_eqArcS
  rw [show ((List.length xs : Int) != (List.length xs : Int)) = false by simp]
  exact loop_list (xs := xs) (i := fun s : Int × Unit => s.1) (f := fun _ _ => some (true, ())) (inv := fun _ => True) (by omega)
    (fun s next _ h => by simp only [h, Int.lt_irrefl, decide_false, cond_false])
    (fun s next v r _ h1 h2 h3 h4 h5 hn => by
      simp only [h2, decide_true, cond_true, h3, Option.bind_some, laws_eqArc, bne_self_eq_false, cond_false, h5, Bool.not_true]
      exact hn _ trivial rfl)
    (by omega) (s := (0, ())) trivial (Int.le_refl _) (by simp only; omega)

theorem FnExactSameArcs_eq (xs ys : List (Int × Int × Int × Int)) (hx : xs.length ≤ 9223372036854775807) (hy : ys.length ≤ 9223372036854775807) : laws_FnExactSameArcs N xs ys = some (true, ()) := by
  unfold laws_FnExactSameArcs laws_szArcS
  rw [w64_in (n := 1048576 - (xs.length : Int)) (by omega)]
  by_cases h1 : (1048576 : Int) - (xs.length : Int) < 0
  · simp [h1]
  · simp only [h1, decide_false, cond_false, Option.bind_some]
    rw [w64_in (n := 1048576 - (xs.length : Int) - (ys.length : Int)) (by omega)]
    by_cases h2 : (1048576 : Int) - (xs.length : Int) - (ys.length : Int) < 0
    · simp [h2]
    · have e1 : spec_SameArcs N xs ys = some (decide (xs = ys), ()) := same4 hN (by omega)
      have e2 : slices_Equal_impl_Arc_impl_Arc N xs ys = some (decide (xs = ys), ()) := same4 hN (by omega)
      simp only [h2, decide_false, cond_false, Option.bind_some, toArcS_eq hN (xs := xs) (by omega), toArcS_eq hN (xs := ys) (by omega), e1, impl_SameArcs, e2, eqArcS_eq hN (xs := xs) (by omega), eqArcS_eq hN (xs := ys) (by omega), BEq.rfl, Bool.not_true]

theorem toRuleS_eq {xs : List (Int × Int × Int × Int)} (hx : xs.length ≤ 1048576) : laws_toRuleS N xs = some (xs, ()) := by
  unfold laws_toRuleS
  rw [mkOk_of (by omega)]
  exact copy_loop (xs := xs) (z := (0, 0, 0, 0)) (by omega) (by omega) (K := fun l => some (l, ()))

theorem eqRuleS_eq {xs : List (Int × Int × Int × Int)} (hx : xs.length ≤ 1048576) : laws_eqRuleS N xs xs = some (true, ()) := by
  unfold laws_eqRuleS
  rw [show ((List.length xs : Int) != (List.length xs : Int)) = false by simp]
  exact loop_list (xs := xs) (i := fun s : Int × Unit => s.1) (f := fun _ _ => some (true, ())) (inv := fun _ => True) (by omega)
    (fun s next _ h => by simp only [h, Int.lt_irrefl, decide_false, cond_false])
    (fun s next v r _ h1 h2 h3 h4 h5 hn => by
      simp only [h2, decide_true, cond_true, h3, Option.bind_some, laws_eqRule, bne_self_eq_false, cond_false, h5, Bool.not_true]
      exact hn _ trivial rfl)
    (by omega) (s := (0, ())) trivial (Int.le_refl _) (by simp only; omega)

theorem FnExactSameRules_eq (xs ys : List (Int × Int × Int × Int)) (hx : xs.length ≤ 9223372036854775807) (hy : ys.length ≤ 9223372036854775807) : laws_FnExactSameRules N xs ys = some (true, ()) := by
  unfold laws_FnExactSameRules laws_szRuleS
  rw [w64_in (n := 1048576 - (xs.length : Int)) (by omega)]
  by_cases h1 : (1048576 : Int) - (xs.length : Int) < 0
  · simp [h1]
  · simp only [h1, decide_false, cond_false, Option.bind_some]
    rw [w64_in (n := 1048576 - (xs.length : Int) - (ys.length : Int)) (by omega)]
    by_cases h2 : (1048576 : Int) - (xs.length : Int) - (ys.length : Int) < 0
    · simp [h2]
    · have e1 : spec_SameRules N xs ys = some (decide (xs = ys), ()) := same4 hN (by omega)
      have e2 : slices_Equal_impl_Rule_impl_Rule N xs ys = some (decide (xs = ys), ()) := same4 hN (by omega)
      simp only [h2, decide_false, cond_false, Option.bind_some, toRuleS_eq hN (xs := xs) (by omega), toRuleS_eq hN (xs := ys) (by omega), e1, impl_SameRules, e2, eqRuleS_eq hN (xs := xs) (by omega), eqRuleS_eq hN (xs := ys) (by omega), BEq.rfl, Bool.not_true]
end

end Go.Proofs.Ytakmpiljijhcbaa
