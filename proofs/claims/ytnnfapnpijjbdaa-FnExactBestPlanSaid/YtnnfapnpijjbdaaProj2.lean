/-
  Projects: the laws EarlyStarts, LateStarts, CrewUse, BehindOf, PlanBound, LevelPlan. No condition.
-/
import Derived.Test.YtnnfapnpijjbdaaProj
namespace Go.Proofs.Ytnnfapnpijjbdaa
open Go Go.Proofs.Ytnnfapnpijjbdaa.Fw
set_option linter.unusedVariables false
set_option linter.unusedSimpArgs false

theorem fin_lb {Q : List Int → Prop} {A B : Option (List Int × Bool × Unit)} (h : ∃ r, A = some r ∧ B = some r ∧ Q r.1) : ∃ l b, A = some (l, b, ()) ∧ B = some (l, b, ()) ∧ Q l := by
  obtain ⟨⟨l, b, u⟩, h1, h2, h3⟩ := h
  exact ⟨l, b, h1, h2, h3⟩

theorem fin_lib {Q : List Int → Prop} {A B : Option (List Int × Int × Bool × Unit)} (h : ∃ r, A = some r ∧ B = some r ∧ Q r.1) : ∃ l i b, A = some (l, i, b, ()) ∧ B = some (l, i, b, ()) ∧ Q l := by
  obtain ⟨⟨l, i, b, u⟩, h1, h2, h3⟩ := h
  exact ⟨l, i, b, h1, h2, h3⟩

section
variable {N : Nat} (hN : 9223372036854775808 ≤ N)
include hN






/-- Tasks, and a crew that is enough for each of them. -/
theorem l03Crew_eq {xs : List Tk} {c : Int} (h : Small 1048576 xs) : spec_l03Crew N xs c = some (tasksOk xs && (within 0 20 c && (List.range xs.length).all fun k => !decide ((xs.getD k NL).2.1 > c)), ()) := by
  unfold spec_l03Crew
  simp only [l03Are_eq hN h, l00In_eq, Option.bind_some]
  cases ht : tasksOk xs
  · rfl
  cases within 0 20 c
  · rfl
  have hl := h.1
  simp only [Bool.not_true, cond_false, Bool.true_and]
  rw [range_loop hN (n := xs.length) (by omega) (fun k => !decide ((xs.getD k NL).2.1 > c)) (some (false, ())) (some (true, ()))]
  · cases (List.range xs.length).all fun k => !decide ((xs.getD k NL).2.1 > c) <;> rfl
  · intro s next e
    simp only [e, Int.lt_irrefl, decide_false, cond_false]
  · rintro k ⟨_, u⟩ next rfl hk g
    simp only [show decide ((k : Int) < (xs.length : Int)) = true from by simpa using hk, cond_true, idx_at hk, Option.bind_some, g]
    cases decide ((xs.getD k NL).2.1 > c) <;> rfl

end

end Go.Proofs.Ytnnfapnpijjbdaa
