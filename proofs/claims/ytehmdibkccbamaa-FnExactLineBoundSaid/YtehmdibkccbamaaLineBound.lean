/-
  LineBound: the plain law. No condition.
-/
import Derived.Test.YtehmdibkccbamaaIsLine
namespace Go.Proofs.Ytehmdibkccbamaa
open Go Go.Proofs.Ytehmdibkccbamaa.Fw
set_option linter.unusedVariables false
set_option linter.unusedSimpArgs false

section
variable {N : Nat} (hN : 9223372036854775808 ≤ N)
include hN

theorem l02Sum_eq {xs : List Int} (hx : xs.length ≤ 1048576) : spec_l02Sum N xs = some (xs.foldl (fun a v => w64 (a + v)) 0, ()) := by
  unfold spec_l02Sum
  exact loop_list (xs := xs) (i := fun s : Int × Int × Unit => s.2.1) (f := fun l s => some (l.foldl (fun a v => w64 (a + v)) s.1, ())) (inv := fun _ => True) (by omega)
    (fun s next _ h => by simp only [h, Int.lt_irrefl, decide_false, cond_false, List.foldl_nil])
    (fun s next v r _ h1 h2 h3 h4 h5 hn => by
      simp only [h2, decide_true, cond_true, h3, Option.bind_some, h5, List.foldl_cons]
      exact hn _ trivial rfl)
    (by omega) (s := (0, 0, ())) trivial (Int.le_refl _) (by simp only; omega)

theorem sumOf_eq {xs : List Int} (hx : xs.length ≤ 1048576) : impl_sumOf N xs = some (xs.foldl (fun a v => w64 (a + v)) 0, ()) := l02Sum_eq hN hx

theorem lineBound_eq {xs : List Int} {c : Int} (hx : xs.length ≤ 1048576) : ∃ a b, spec_LineBound N xs c = some (a, b, ()) ∧ impl_LineBound N xs c = some (a, b, ()) := by
  unfold spec_LineBound impl_LineBound impl_isCycle spec_l04Fewest impl_upward
  rw [l04Tasks_eq hN hx, areLine_eq hN hx, l02Sum_eq hN hx, sumOf_eq hN hx]
  simp only [Option.bind_some, l00In_eq, within_eq]
  cases within 1 12 xs.length && xs.all (within 1 10000)
  · exact ⟨0, false, rfl, rfl⟩
  · cases h : within 1 10000 c
    · exact ⟨0, false, rfl, rfl⟩
    · have hc : (c == 0) = false := by
        simp only [within, Bool.and_eq_true, decide_eq_true_eq] at h
        simp only [beq_eq_false_iff_ne]
        omega
      simp only [Bool.not_true, cond_false, hc, Option.bind_some]
      exact ⟨_, _, rfl, rfl⟩

theorem FnExactLineBound_eq (xs : List Int) (c : Int) : laws_FnExactLineBound N xs c = some (true, ()) := by
  unfold laws_FnExactLineBound
  by_cases hx : (xs.length : Int) > 1048576
  · simp only [hx, decide_true, cond_true]
  · obtain ⟨a, b, h1, h2⟩ := lineBound_eq hN (xs := xs) (c := c) (by omega)
    simp only [hx, decide_false, cond_false, toInt64S_eq hN (xs := xs) (by omega), Option.bind_some, h1, h2, eqInt64S_eq hN (xs := xs) (by omega), BEq.rfl, Bool.not_true, bne_self_eq_false]
end

end Go.Proofs.Ytehmdibkccbamaa
