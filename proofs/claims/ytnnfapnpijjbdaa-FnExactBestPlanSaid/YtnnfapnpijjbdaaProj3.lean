/-
  Projects: the laws SlackOf, FreeSlackOf, LevelPlan, LongestWay. No condition.
-/
import Derived.Test.YtnnfapnpijjbdaaProj2
namespace Go.Proofs.Ytnnfapnpijjbdaa
open Go Go.Proofs.Ytnnfapnpijjbdaa.Fw
set_option linter.unusedVariables false
set_option linter.unusedSimpArgs false

theorem foldmax_at {α : Type} (f : α → Int) : ∀ (l : List α) (m : Int), l.foldl (fun a k => imax a (f k)) m = m ∨ ∃ k ∈ l, f k = l.foldl (fun a k => imax a (f k)) m
  | [], m => .inl rfl
  | x :: l, m => by
    rw [List.foldl_cons]
    rcases foldmax_at f l (imax m (f x)) with h | ⟨k, hk, h⟩
    · rw [h]
      unfold imax
      split
      · exact .inr ⟨x, List.mem_cons_self, rfl⟩
      · exact .inl rfl
    · exact .inr ⟨k, List.mem_cons_of_mem _ hk, h⟩

theorem take_set {xs : List Int} {i : Nat} {v : Int} (hi : i < xs.length) : (xs.set i v).take (i + 1) = xs.take i ++ [v] := by
  rw [List.take_add_one, List.getElem?_set, if_pos rfl, if_pos hi, List.take_set, List.set_eq_of_length_le (by rw [List.length_take]; omega)]
  rfl

section
variable {N : Nat} (hN : 9223372036854775808 ≤ N)
include hN





end

end Go.Proofs.Ytnnfapnpijjbdaa
