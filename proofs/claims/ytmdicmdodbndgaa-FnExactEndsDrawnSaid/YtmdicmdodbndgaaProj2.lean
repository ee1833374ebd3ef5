/-
  Projects: the laws EarlyStarts, LateStarts, CrewUse, BehindOf, PlanBound, LevelPlan. No condition.
-/
import Derived.Test.YtmdicmdodbndgaaProj
namespace Go.Proofs.Ytmdicmdodbndgaa
open Go Go.Proofs.Ytmdicmdodbndgaa.Fw
set_option linter.unusedVariables false
set_option linter.unusedSimpArgs false

theorem fin_lb {Q : List Int → Prop} {A B : Option (List Int × Bool × Unit)} (h : ∃ r, A = some r ∧ B = some r ∧ Q r.1) : ∃ l b, A = some (l, b, ()) ∧ B = some (l, b, ()) ∧ Q l := by
  obtain ⟨⟨l, b, u⟩, h1, h2, h3⟩ := h
  exact ⟨l, b, h1, h2, h3⟩

theorem fin_lib {Q : List Int → Prop} {A B : Option (List Int × Int × Bool × Unit)} (h : ∃ r, A = some r ∧ B = some r ∧ Q r.1) : ∃ l i b, A = some (l, i, b, ()) ∧ B = some (l, i, b, ()) ∧ Q l := by
  obtain ⟨⟨l, i, b, u⟩, h1, h2, h3⟩ := h
  exact ⟨l, i, b, h1, h2, h3⟩

section
variable {N : Nat} (hN : 9223372036854775808 ≤ N)
include hN


theorem late_eq {xs : List Tk} (h : Small 1048576 xs) (ht : tasksOk xs = true) {e : Int} : ∃ ls, spec_l03Late N xs e = some (ls, ()) ∧ impl_lateStarts N xs e = some (ls, ()) ∧ ls.length = xs.length := by
  unfold spec_l03Late impl_lateStarts
  obtain ⟨f1, f2, f3⟩ := task_facts ht
  rw [mkOk_of (by omega), cond_true, cond_true]
  have hr := loop_rel (ρ := List Int × Unit) (I := fun s t : List Int × Int × Unit => s = t ∧ -1 ≤ s.2.1 ∧ s.2.1 < xs.length ∧ s.1.length = xs.length) (μ := fun s => (s.2.1 + 1).toNat) (Q := fun r => r.1.length = xs.length)
    (A := fun (s2 : List (Int) × Int × Unit) next3 =>
      cond (decide (s2.2.1 ≥ 0))
        (Option.bind (spec_l03Greatest N xs s2.1 s2.2.1 e) fun r4 =>
        cond (inB s2.2.1 (List.length s2.1))
          (let xs5 := (List.set s2.1 (Int.toNat s2.2.1) r4.1)
          next3 (xs5, (w64 (s2.2.1 - 1)), ())) none)
        (some (s2.1, ())))
    (B := fun (s2 : List (Int) × Int × Unit) next3 =>
      cond (decide (s2.2.1 ≥ 0))
        (Option.bind (impl_latest N xs s2.1 s2.2.1 e) fun r4 =>
        cond (inB s2.2.1 (List.length s2.1))
          (let xs5 := (List.set s2.1 (Int.toNat s2.2.1) r4.1)
          next3 (xs5, (w64 (s2.2.1 - 1)), ())) none)
        (some (s2.1, ())))
    (by
      rintro ⟨a, i, u⟩ _ nA nB ⟨rfl, h1, h2, h3⟩ hn
      simp only at h1 h2 h3 ⊢
      by_cases hi : i ≥ 0
      · obtain ⟨k, rfl⟩ : ∃ k : Nat, i = (k : Int) := ⟨i.toNat, by omega⟩
        have hk : k < xs.length := by omega
        obtain ⟨g, g1, g2, _⟩ := latest_eq hN h ht h3 hk (e := e)
        simp only [hi, decide_true, cond_true, g1, g2, Option.bind_some, inB_of (n := (k : Int)) (len := a.length) (by omega), w64_in (n := (k : Int) - 1) (by omega)]
        exact hn _ _ ⟨rfl, by simp only; omega, by simp only; omega, by simp only [List.length_set]; exact h3⟩ (by simp only; omega)
      · simp only [hi, decide_false, cond_false]
        exact ⟨_, rfl, rfl, h3⟩) N N (List.replicate (Int.toNat (xs.length : Int)) 0, (w64 ((xs.length : Int) - 1)), ()) (List.replicate (Int.toNat (xs.length : Int)) 0, (w64 ((xs.length : Int) - 1)), ())
    ⟨rfl, by simp only; rw [w64_in (by omega)]; omega, by simp only; rw [w64_in (by omega)]; omega, by simp⟩ (by simp only; rw [w64_in (by omega)]; omega) (by simp only; rw [w64_in (by omega)]; omega)
  obtain ⟨⟨ls, u⟩, e1, e2, e3⟩ := hr
  exact ⟨ls, e1, e2, e3⟩





end

end Go.Proofs.Ytmdicmdodbndgaa
