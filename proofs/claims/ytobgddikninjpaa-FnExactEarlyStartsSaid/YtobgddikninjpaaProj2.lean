/-
  Projects: the laws EarlyStarts, LateStarts, CrewUse, BehindOf, PlanBound, LevelPlan. No condition.
-/
import Derived.Test.YtobgddikninjpaaProj
namespace Go.Proofs.Ytobgddikninjpaa
open Go Go.Proofs.Ytobgddikninjpaa.Fw
set_option linter.unusedVariables false
set_option linter.unusedSimpArgs false

theorem fin_lb {Q : List Int → Prop} {A B : Option (List Int × Bool × Unit)} (h : ∃ r, A = some r ∧ B = some r ∧ Q r.1) : ∃ l b, A = some (l, b, ()) ∧ B = some (l, b, ()) ∧ Q l := by
  obtain ⟨⟨l, b, u⟩, h1, h2, h3⟩ := h
  exact ⟨l, b, h1, h2, h3⟩

theorem fin_lib {Q : List Int → Prop} {A B : Option (List Int × Int × Bool × Unit)} (h : ∃ r, A = some r ∧ B = some r ∧ Q r.1) : ∃ l i b, A = some (l, i, b, ()) ∧ B = some (l, i, b, ()) ∧ Q l := by
  obtain ⟨⟨l, i, b, u⟩, h1, h2, h3⟩ := h
  exact ⟨l, i, b, h1, h2, h3⟩

section
variable {N : Nat} (hN : 9223372036854775808 ≤ N)
include hN

theorem EarlyStarts_law {xs : List Tk} (h : Small 1048576 xs) : ∃ l i b, spec_EarlyStarts N xs = some (l, i, b, ()) ∧ impl_EarlyStarts N xs = some (l, i, b, ()) ∧ l.length ≤ 1048576 := by
  unfold spec_EarlyStarts impl_EarlyStarts
  simp only [l03Are_eq hN h, AreTasks_eq hN h, Option.bind_some]
  cases ht : tasksOk xs
  · exact ⟨[], 0, false, rfl, rfl, by simp⟩
  obtain ⟨es, e1, e2, e3, e4⟩ := early_eq hN h ht
  have hl := h.1
  simp only [Bool.not_true, cond_false, e1, e2, Option.bind_some, l03End_eq hN (xs := xs) (by omega) e3, lastEnd_eq hN (xs := xs) (by omega) e3]
  exact ⟨es, _, true, rfl, rfl, by omega⟩

theorem FnExactEarlyStarts_eq (xs : List Tk) (hx : Small 9223372036854775807 xs) : laws_FnExactEarlyStarts N xs = some (true, ()) := by
  unfold laws_FnExactEarlyStarts
  rcases szTaskS_eq hN (k := 1048576) hx (by omega) with e | ⟨r, e, h1, h2, h3⟩
  · simp [e]
  obtain ⟨a0, a1, a2, e1, e2, l_a0⟩ := EarlyStarts_law hN h3
  simp only [e, Option.bind_some, show decide (r < 0) = false from by simp; omega, cond_false, toTaskS_eq hN h3, e1, e2, eqTaskS_eq hN h3, bne_self_eq_false, BEq.rfl, Bool.not_true, markTS_eq h3, Nat.beq_refl, cond_true, decide_eq_false (show ¬ ((1 : Int) + tksLen xs < 0) by have := tksLen_nonneg xs; omega), eqInt64S_eq hN (xs := a0) (by omega), markInt64S_eq hN (xs := a0) (k := 1) (by omega) (by omega), heldInt64S_eq hN (xs := a0) (k := 1) (by omega) (by omega), decide_eq_false (show ¬ ((1 + a0.length : Int) < 0) by omega), counted_len]

theorem late_eq {xs : List Tk} (h : Small 1048576 xs) (ht : tasksOk xs = true) {e : Int} : ∃ ls, spec_l03Late N xs e = some (ls, ()) ∧ impl_lateStarts N xs e = some (ls, ()) ∧ ls.length = xs.length := by
  unfold spec_l03Late impl_lateStarts
  obtain ⟨f1, f2, f3⟩ := task_facts ht
  rw [mkOk_of (by omega), cond_true, cond_true]
  have hr := loop_rel (ρ := List Int × Unit) (I := fun s t : List Int × Int × Unit => s = t ∧ -1 ≤ s.2.1 ∧ s.2.1 < xs.length ∧ s.1.length = xs.length) (μ := fun s => (s.2.1 + 1).toNat) (Q := fun r => r.1.length = xs.length)
    (A := fun (s2 : List (Int) × Int × Unit) next3 =>
      cond (decide (s2.2.1 ≥ 0))
        (Option.bind (spec_l03Greatest N xs s2.1 s2.2.1 e) fun r4 =>
        cond (inB s2.2.1 (List.length s2.1))
          (let xs5 := (List.set s2.1 (Int.toNat s2.2.1) r4.1)
          next3 (xs5, (w64 (s2.2.1 - 1)), ())) none)
        (some (s2.1, ())))
    (B := fun (s2 : List (Int) × Int × Unit) next3 =>
      cond (decide (s2.2.1 ≥ 0))
        (Option.bind (impl_latest N xs s2.1 s2.2.1 e) fun r4 =>
        cond (inB s2.2.1 (List.length s2.1))
          (let xs5 := (List.set s2.1 (Int.toNat s2.2.1) r4.1)
          next3 (xs5, (w64 (s2.2.1 - 1)), ())) none)
        (some (s2.1, ())))
    (by
      rintro ⟨a, i, u⟩ _ nA nB ⟨rfl, h1, h2, h3⟩ hn
      simp only at h1 h2 h3 ⊢
      by_cases hi : i ≥ 0
      · obtain ⟨k, rfl⟩ : ∃ k : Nat, i = (k : Int) := ⟨i.toNat, by omega⟩
        have hk : k < xs.length := by omega
        obtain ⟨g, g1, g2, _⟩ := latest_eq hN h ht h3 hk (e := e)
        simp only [hi, decide_true, cond_true, g1, g2, Option.bind_some, inB_of (n := (k : Int)) (len := a.length) (by omega), w64_in (n := (k : Int) - 1) (by omega)]
        exact hn _ _ ⟨rfl, by simp only; omega, by simp only; omega, by simp only [List.length_set]; exact h3⟩ (by simp only; omega)
      · simp only [hi, decide_false, cond_false]
        exact ⟨_, rfl, rfl, h3⟩) N N (List.replicate (Int.toNat (xs.length : Int)) 0, (w64 ((xs.length : Int) - 1)), ()) (List.replicate (Int.toNat (xs.length : Int)) 0, (w64 ((xs.length : Int) - 1)), ())
    ⟨rfl, by simp only; rw [w64_in (by omega)]; omega, by simp only; rw [w64_in (by omega)]; omega, by simp⟩ (by simp only; rw [w64_in (by omega)]; omega) (by simp only; rw [w64_in (by omega)]; omega)
  obtain ⟨⟨ls, u⟩, e1, e2, e3⟩ := hr
  exact ⟨ls, e1, e2, e3⟩

theorem LateStarts_law {xs : List Tk} {en : Int} (h : Small 1048576 xs) : ∃ l b, spec_LateStarts N xs en = some (l, b, ()) ∧ impl_LateStarts N xs en = some (l, b, ()) ∧ l.length ≤ 1048576 := by
  unfold spec_LateStarts impl_LateStarts
  simp only [l03Are_eq hN h, AreTasks_eq hN h, l00In_eq, within_eq, Option.bind_some]
  cases ht : tasksOk xs
  · exact ⟨[], false, rfl, rfl, by simp⟩
  cases within 0 100000 en
  · exact ⟨[], false, rfl, rfl, by simp⟩
  obtain ⟨es, e1, e2, e3, e4⟩ := early_eq hN h ht
  obtain ⟨ls, d1, d2, d3⟩ := late_eq hN h ht (e := en)
  have hl := h.1
  simp only [Bool.not_true, cond_false, e1, e2, d1, d2, Option.bind_some]
  refine fin_lb (Q := fun l => l.length ≤ 1048576) (loop_rel (I := fun s t : Int × Unit => s = t ∧ 0 ≤ s.1 ∧ s.1 ≤ ls.length) (μ := fun s => (ls.length - s.1).toNat) (Q := fun r : List Int × Bool × Unit => r.1.length ≤ 1048576) ?_ N N _ _ ⟨rfl, Int.le_refl _, by simp only; omega⟩ (by simp only; omega) (by simp only; omega))
  rintro ⟨i, u⟩ _ nA nB ⟨rfl, h1, h2⟩ hn
  simp only at h1 h2 ⊢
  by_cases hi : i < (ls.length : Int)
  · simp only [hi, decide_true, cond_true, inB_of (n := i) (len := ls.length) (by omega), inB_of (n := i) (len := es.length) (by omega), get_getD 0 (xs := ls) (n := i.toNat) (by omega), get_getD 0 (xs := es) (n := i.toNat) (by omega), Option.bind_some, w64_in (n := i + 1) (by omega)]
    cases decide (ls.getD i.toNat 0 < es.getD i.toNat 0)
    · exact hn _ _ ⟨rfl, by simp only; omega, by simp only; omega⟩ (by simp only; omega)
    · exact ⟨_, rfl, rfl, by simp⟩
  · simp only [hi, decide_false, cond_false]
    exact ⟨_, rfl, rfl, by simp only; omega⟩

theorem FnExactLateStarts_eq (xs : List Tk) (en : Int) (hx : Small 9223372036854775807 xs) : laws_FnExactLateStarts N xs en = some (true, ()) := by
  unfold laws_FnExactLateStarts
  rcases szTaskS_eq hN (k := 1048576) hx (by omega) with e | ⟨r, e, h1, h2, h3⟩
  · simp [e]
  obtain ⟨a0, a1, e1, e2, l_a0⟩ := LateStarts_law hN h3 (en := en)
  simp only [e, Option.bind_some, show decide (r < 0) = false from by simp; omega, cond_false, toTaskS_eq hN h3, e1, e2, eqTaskS_eq hN h3, bne_self_eq_false, BEq.rfl, Bool.not_true, markTS_eq h3, Nat.beq_refl, cond_true, decide_eq_false (show ¬ ((1 : Int) + tksLen xs < 0) by have := tksLen_nonneg xs; omega), eqInt64S_eq hN (xs := a0) (by omega), markInt64S_eq hN (xs := a0) (k := 1) (by omega) (by omega), heldInt64S_eq hN (xs := a0) (k := 1) (by omega) (by omega), decide_eq_false (show ¬ ((1 + a0.length : Int) < 0) by omega), counted_len]

theorem CrewUse_law {xs : List Tk} {st : List Int} (h : Small 1048576 xs) (hs : st.length ≤ 1048576) : ∃ l b, spec_CrewUse N xs st = some (l, b, ()) ∧ impl_CrewUse N xs st = some (l, b, ()) ∧ l.length ≤ 1048576 := by
  obtain ⟨us, b, e1, e2, e3, _⟩ := crew_eq hN h hs
  exact ⟨us, b, e1, e2, by omega⟩

theorem FnExactCrewUse_eq (xs : List Tk) (st : List Int) (hx : Small 9223372036854775807 xs) : laws_FnExactCrewUse N xs st = some (true, ()) := by
  unfold laws_FnExactCrewUse
  by_cases h_st : (List.length st : Int) > 1048576
  · simp [h_st]
  rcases szTaskS_eq hN (k := 1048576) hx (by omega) with e | ⟨r, e, h1, h2, h3⟩
  · simp [h_st, e]
  obtain ⟨a0, a1, e1, e2, l_a0⟩ := CrewUse_law hN h3 (st := st) (by omega)
  simp only [e, Option.bind_some, show decide (r < 0) = false from by simp; omega, cond_false, toTaskS_eq hN h3, e1, e2, eqTaskS_eq hN h3, bne_self_eq_false, BEq.rfl, Bool.not_true, h_st, decide_false, toInt64S_eq hN (xs := st) (by omega), eqInt64S_eq hN (xs := st) (by omega), markTS_eq h3, Nat.beq_refl, cond_true, decide_eq_false (show ¬ ((1 : Int) + tksLen xs < 0) by have := tksLen_nonneg xs; omega), markInt64S_eq hN (xs := st) (k := 1 + tksLen xs) (by omega) (by have := tksLen_nonneg xs; have := tksLen_le xs h3.2; have := h3.1; omega), decide_eq_false (show ¬ (1 + tksLen xs + st.length < (0 : Int)) by have := tksLen_nonneg xs; omega), eqInt64S_eq hN (xs := a0) (by omega), markInt64S_eq hN (xs := a0) (k := 1) (by omega) (by omega), heldInt64S_eq hN (xs := a0) (k := 1) (by omega) (by omega), decide_eq_false (show ¬ ((1 + a0.length : Int) < 0) by omega), counted_len]

theorem BehindOf_law {xs : List Tk} (h : Small 1048576 xs) : ∃ l b, spec_BehindOf N xs = some (l, b, ()) ∧ impl_BehindOf N xs = some (l, b, ()) ∧ l.length ≤ 1048576 := by
  unfold spec_BehindOf impl_BehindOf
  simp only [l03Are_eq hN h, AreTasks_eq hN h, Option.bind_some]
  cases ht : tasksOk xs
  · exact ⟨[], false, rfl, rfl, by simp⟩
  obtain ⟨f1, f2, f3⟩ := task_facts ht
  simp only [Bool.not_true, cond_false]
  rw [mkOk_of (by omega), cond_true, cond_true]
  refine fin_lb (Q := fun l => l.length ≤ 1048576) (loop_rel (I := fun s t : List Int × Int × Unit => s = t ∧ 0 ≤ s.2.1 ∧ s.2.1 ≤ xs.length ∧ s.1.length = xs.length) (μ := fun s => (xs.length - s.2.1).toNat) (Q := fun r : List Int × Bool × Unit => r.1.length ≤ 1048576) ?_ N N _ _ ⟨rfl, Int.le_refl _, by simp only; omega, by simp⟩ (by simp only; omega) (by simp only; omega))
  rintro ⟨a, i, u⟩ _ nA nB ⟨rfl, h1, h2, h3⟩ hn
  simp only at h1 h2 h3 ⊢
  by_cases hi : i < (xs.length : Int)
  · obtain ⟨k, rfl⟩ : ∃ k : Nat, i = (k : Int) := ⟨i.toNat, by omega⟩
    have hk : k < xs.length := by omega
    obtain ⟨_, _, _, _, f5, f6, _⟩ := f3 k hk
    have hks := h.get k
    simp only [hi, decide_true, cond_true, idx_at hk, Option.bind_some]
    refine loop_rel (I := fun s t : List Int × Int × Unit => s = t ∧ 0 ≤ s.2.1 ∧ s.2.1 ≤ (xs.getD k NL).2.2.1.length ∧ s.1.length = xs.length) (μ := fun s => ((xs.getD k NL).2.2.1.length - s.2.1).toNat) (Q := fun r : List Int × Bool × Unit => r.1.length ≤ 1048576) ?_ N N _ _ ⟨rfl, Int.le_refl _, by simp only; omega, h3⟩ (by simp only; omega) (by simp only; omega)
    rintro ⟨b, j, u⟩ _ mA mB ⟨rfl, g1, g2, g3⟩ hm
    simp only at g1 g2 g3 ⊢
    by_cases hj : j < ((xs.getD k NL).2.2.1.length : Int)
    · obtain ⟨q, rfl⟩ : ∃ q : Nat, j = (q : Int) := ⟨j.toNat, by omega⟩
      have hq : q < (xs.getD k NL).2.2.1.length := by omega
      have hb := f6 q hq
      simp only [hj, decide_true, cond_true, idx_int hq, Option.bind_some, inB_of (n := (k : Int)) (len := b.length) (by omega), inB_of (n := (xs.getD k NL).2.2.1.getD q 0) (len := b.length) (by omega), get_getD 0 (xs := b) (n := Int.toNat (k : Int)) (by omega),
        get_getD 0 (xs := b) (n := ((xs.getD k NL).2.2.1.getD q 0).toNat) (by omega), decide_eq_false (show ¬ (xs.getD k NL).2.2.1.getD q 0 < 0 by omega), cond_false, w64_in (n := (q : Int) + 1) (by omega)]
      exact hm _ _ ⟨rfl, by simp only; omega, by simp only; omega, by simp only [List.length_set]; exact g3⟩ (by simp only; omega)
    · simp only [hj, decide_false, cond_false, w64_in (n := (k : Int) + 1) (by omega)]
      exact hn _ _ ⟨rfl, by simp only; omega, by simp only; omega, g3⟩ (by simp only; omega)
  · simp only [hi, decide_false, cond_false]
    exact ⟨_, rfl, rfl, by simp only; omega⟩

theorem FnExactBehindOf_eq (xs : List Tk) (hx : Small 9223372036854775807 xs) : laws_FnExactBehindOf N xs = some (true, ()) := by
  unfold laws_FnExactBehindOf
  rcases szTaskS_eq hN (k := 1048576) hx (by omega) with e | ⟨r, e, h1, h2, h3⟩
  · simp [e]
  obtain ⟨a0, a1, e1, e2, l_a0⟩ := BehindOf_law hN h3
  simp only [e, Option.bind_some, show decide (r < 0) = false from by simp; omega, cond_false, toTaskS_eq hN h3, e1, e2, eqTaskS_eq hN h3, bne_self_eq_false, BEq.rfl, Bool.not_true, markTS_eq h3, Nat.beq_refl, cond_true, decide_eq_false (show ¬ ((1 : Int) + tksLen xs < 0) by have := tksLen_nonneg xs; omega), eqInt64S_eq hN (xs := a0) (by omega), markInt64S_eq hN (xs := a0) (k := 1) (by omega) (by omega), heldInt64S_eq hN (xs := a0) (k := 1) (by omega) (by omega), decide_eq_false (show ¬ ((1 + a0.length : Int) < 0) by omega), counted_len]


end

end Go.Proofs.Ytobgddikninjpaa
