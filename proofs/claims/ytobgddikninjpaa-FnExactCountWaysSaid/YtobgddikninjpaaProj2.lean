/-
  Projects: the laws EarlyStarts, LateStarts, CrewUse, BehindOf, PlanBound, LevelPlan. No condition.
-/
import Derived.Test.YtobgddikninjpaaProj
namespace Go.Proofs.Ytobgddikninjpaa
open Go Go.Proofs.Ytobgddikninjpaa.Fw
set_option linter.unusedVariables false
set_option linter.unusedSimpArgs false

theorem fin_lb {Q : List Int → Prop} {A B : Option (List Int × Bool × Unit)} (h : ∃ r, A = some r ∧ B = some r ∧ Q r.1) : ∃ l b, A = some (l, b, ()) ∧ B = some (l, b, ()) ∧ Q l := by
  obtain ⟨⟨l, b, u⟩, h1, h2, h3⟩ := h
  exact ⟨l, b, h1, h2, h3⟩

theorem fin_lib {Q : List Int → Prop} {A B : Option (List Int × Int × Bool × Unit)} (h : ∃ r, A = some r ∧ B = some r ∧ Q r.1) : ∃ l i b, A = some (l, i, b, ()) ∧ B = some (l, i, b, ()) ∧ Q l := by
  obtain ⟨⟨l, i, b, u⟩, h1, h2, h3⟩ := h
  exact ⟨l, i, b, h1, h2, h3⟩

section
variable {N : Nat} (hN : 9223372036854775808 ≤ N)
include hN







end

end Go.Proofs.Ytobgddikninjpaa
