/-
  Projects: the laws SlackOf, FreeSlackOf, LevelPlan, LongestWay. No condition.
-/
import Derived.Test.YtmdicmdodbndgaaProj2
namespace Go.Proofs.Ytmdicmdodbndgaa
open Go Go.Proofs.Ytmdicmdodbndgaa.Fw
set_option linter.unusedVariables false
set_option linter.unusedSimpArgs false

theorem foldmax_at {α : Type} (f : α → Int) : ∀ (l : List α) (m : Int), l.foldl (fun a k => imax a (f k)) m = m ∨ ∃ k ∈ l, f k = l.foldl (fun a k => imax a (f k)) m
  | [], m => .inl rfl
  | x :: l, m => by
    rw [List.foldl_cons]
    rcases foldmax_at f l (imax m (f x)) with h | ⟨k, hk, h⟩
    · rw [h]
      unfold imax
      split
      · exact .inr ⟨x, List.mem_cons_self, rfl⟩
      · exact .inl rfl
    · exact .inr ⟨k, List.mem_cons_of_mem _ hk, h⟩

theorem take_set {xs : List Int} {i : Nat} {v : Int} (hi : i < xs.length) : (xs.set i v).take (i + 1) = xs.take i ++ [v] := by
  rw [List.take_add_one, List.getElem?_set, if_pos rfl, if_pos hi, List.take_set, List.set_eq_of_length_le (by rw [List.length_take]; omega)]
  rfl

section
variable {N : Nat} (hN : 9223372036854775808 ≤ N)
include hN

theorem slack_eq {xs : List Tk} (h : Small 1048576 xs) (ht : tasksOk xs = true) : ∃ l, spec_l03Slack N xs = some (l, ()) ∧ impl_slack N xs = some (l, ()) ∧ l.length = xs.length := by
  unfold spec_l03Slack impl_slack
  obtain ⟨es, e1, e2, e3, e4⟩ := early_eq hN h ht
  obtain ⟨ls, d1, d2, d3⟩ := late_eq hN h ht (e := endW xs es)
  have hl := h.1
  have fin : ∀ {A B : Option (List Int × Unit)}, (∃ r, A = some r ∧ B = some r ∧ r.1.length = xs.length) → ∃ g, A = some (g, ()) ∧ B = some (g, ()) ∧ g.length = xs.length := by
    rintro A B ⟨⟨g, u⟩, h1, h2, h3⟩
    exact ⟨g, h1, h2, h3⟩
  simp only [e1, e2, Option.bind_some, l03End_eq hN (xs := xs) (by omega) e3, lastEnd_eq hN (xs := xs) (by omega) e3, d1, d2]
  refine fin (loop_rel (I := fun s t : List Int × Int × Unit => s.2.1 = t.2.1 ∧ 0 ≤ s.2.1 ∧ s.2.1 ≤ ls.length ∧ t.1.length = ls.length ∧ s.1 = t.1.take s.2.1.toNat ∧ t.1.drop s.2.1.toNat = ls.drop s.2.1.toNat) (μ := fun s => (ls.length - s.2.1).toNat) (Q := fun r : List Int × Unit => r.1.length = xs.length) ?_ N N _ _
    ⟨rfl, Int.le_refl _, by simp only; omega, rfl, by simp, rfl⟩ (by simp only; omega) (by simp only; omega))
  rintro ⟨a, i, u⟩ ⟨b, i', u'⟩ nA nB ⟨hi', h1, h2, h3, h4, h5⟩ hn
  simp only at hi' h1 h2 h3 h4 h5 ⊢
  subst hi'
  by_cases hi : i < (ls.length : Int)
  · have hlt : i.toNat < ls.length := by omega
    have hg : b.getD i.toNat 0 = ls.getD i.toNat 0 := by
      have := congrArg (fun l => l.getD 0 0) h5
      simpa [List.getD_eq_getElem?_getD, List.getElem?_drop] using this
    have hla : a.length = i.toNat := by rw [h4, List.length_take]; omega
    simp only [hi, decide_true, cond_true, inB_of (n := i) (len := ls.length) (by omega), inB_of (n := i) (len := es.length) (by omega), inB_of (n := i) (len := b.length) (by omega), get_getD 0 (xs := ls) (n := i.toNat) (by omega), get_getD 0 (xs := es) (n := i.toNat) (by omega),
      get_getD 0 (xs := b) (n := i.toNat) (by omega), Option.bind_some, w64_in (n := i + 1) (by omega), hg, appOk_of (n := a.length) (m := ([w64 (ls.getD i.toNat 0 - es.getD i.toNat 0)] : List Int).length) (by simp; omega)]
    refine hn _ _ ⟨rfl, by simp only; omega, by simp only; omega, by simp only [List.length_set]; exact h3, ?_, ?_⟩ (by simp only; omega)
    · simp only
      rw [show (i + 1).toNat = i.toNat + 1 by omega, take_set (by omega), ← h4]
    · simp only
      rw [show (i + 1).toNat = i.toNat + 1 by omega, List.drop_set_of_lt (by omega), ← List.drop_drop, ← List.drop_drop, h5]
  · simp only [hi, decide_false, cond_false, h3]
    rw [List.take_of_length_le (by omega)] at h4
    subst h4
    exact ⟨_, rfl, rfl, by simp only; omega⟩




end

end Go.Proofs.Ytmdicmdodbndgaa
