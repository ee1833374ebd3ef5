/-
  Projects: the laws EarlyStarts, LateStarts, CrewUse, BehindOf, PlanBound, LevelPlan. No condition.
-/
import Derived.Test.YtobgddikninjpaaProj
namespace Go.Proofs.Ytobgddikninjpaa
open Go Go.Proofs.Ytobgddikninjpaa.Fw
set_option linter.unusedVariables false
set_option linter.unusedSimpArgs false

theorem fin_lb {Q : List Int → Prop} {A B : Option (List Int × Bool × Unit)} (h : ∃ r, A = some r ∧ B = some r ∧ Q r.1) : ∃ l b, A = some (l, b, ()) ∧ B = some (l, b, ()) ∧ Q l := by
  obtain ⟨⟨l, b, u⟩, h1, h2, h3⟩ := h
  exact ⟨l, b, h1, h2, h3⟩

theorem fin_lib {Q : List Int → Prop} {A B : Option (List Int × Int × Bool × Unit)} (h : ∃ r, A = some r ∧ B = some r ∧ Q r.1) : ∃ l i b, A = some (l, i, b, ()) ∧ B = some (l, i, b, ()) ∧ Q l := by
  obtain ⟨⟨l, i, b, u⟩, h1, h2, h3⟩ := h
  exact ⟨l, i, b, h1, h2, h3⟩

section
variable {N : Nat} (hN : 9223372036854775808 ≤ N)
include hN


theorem late_eq {xs : List Tk} (h : Small 1048576 xs) (ht : tasksOk xs = true) {e : Int} : ∃ ls, spec_l03Late N xs e = some (ls, ()) ∧ impl_lateStarts N xs e = some (ls, ()) ∧ ls.length = xs.length := by
  unfold spec_l03Late impl_lateStarts
  obtain ⟨f1, f2, f3⟩ := task_facts ht
  rw [mkOk_of (by omega), cond_true, cond_true]
  have hr := loop_rel (ρ := List Int × Unit) (I := fun s t : List Int × Int × Unit => s = t ∧ -1 ≤ s.2.1 ∧ s.2.1 < xs.length ∧ s.1.length = xs.length) (μ := fun s => (s.2.1 + 1).toNat) (Q := fun r => r.1.length = xs.length)
    (A := fun (s2 : List (Int) × Int × Unit) next3 =>
      cond (decide (s2.2.1 ≥ 0))
        (Option.bind (spec_l03Greatest N xs s2.1 s2.2.1 e) fun r4 =>
        cond (inB s2.2.1 (List.length s2.1))
          (let xs5 := (List.set s2.1 (Int.toNat s2.2.1) r4.1)
          next3 (xs5, (w64 (s2.2.1 - 1)), ())) none)
        (some (s2.1, ())))
    (B := fun (s2 : List (Int) × Int × Unit) next3 =>
      cond (decide (s2.2.1 ≥ 0))
        (Option.bind (impl_latest N xs s2.1 s2.2.1 e) fun r4 =>
        cond (inB s2.2.1 (List.length s2.1))
          (let xs5 := (List.set s2.1 (Int.toNat s2.2.1) r4.1)
          next3 (xs5, (w64 (s2.2.1 - 1)), ())) none)
        (some (s2.1, ())))
    (by
      rintro ⟨a, i, u⟩ _ nA nB ⟨rfl, h1, h2, h3⟩ hn
      simp only at h1 h2 h3 ⊢
      by_cases hi : i ≥ 0
      · obtain ⟨k, rfl⟩ : ∃ k : Nat, i = (k : Int) := ⟨i.toNat, by omega⟩
        have hk : k < xs.length := by omega
        obtain ⟨g, g1, g2, _⟩ := latest_eq hN h ht h3 hk (e := e)
        simp only [hi, decide_true, cond_true, g1, g2, Option.bind_some, inB_of (n := (k : Int)) (len := a.length) (by omega), w64_in (n := (k : Int) - 1) (by omega)]
        exact hn _ _ ⟨rfl, by simp only; omega, by simp only; omega, by simp only [List.length_set]; exact h3⟩ (by simp only; omega)
      · simp only [hi, decide_false, cond_false]
        exact ⟨_, rfl, rfl, h3⟩) N N (List.replicate (Int.toNat (xs.length : Int)) 0, (w64 ((xs.length : Int) - 1)), ()) (List.replicate (Int.toNat (xs.length : Int)) 0, (w64 ((xs.length : Int) - 1)), ())
    ⟨rfl, by simp only; rw [w64_in (by omega)]; omega, by simp only; rw [w64_in (by omega)]; omega, by simp⟩ (by simp only; rw [w64_in (by omega)]; omega) (by simp only; rw [w64_in (by omega)]; omega)
  obtain ⟨⟨ls, u⟩, e1, e2, e3⟩ := hr
  exact ⟨ls, e1, e2, e3⟩




/-- Tasks, and a crew that is enough for each of them. -/
theorem l03Crew_eq {xs : List Tk} {c : Int} (h : Small 1048576 xs) : spec_l03Crew N xs c = some (tasksOk xs && (within 0 20 c && (List.range xs.length).all fun k => !decide ((xs.getD k NL).2.1 > c)), ()) := by
  unfold spec_l03Crew
  simp only [l03Are_eq hN h, l00In_eq, Option.bind_some]
  cases ht : tasksOk xs
  · rfl
  cases within 0 20 c
  · rfl
  have hl := h.1
  simp only [Bool.not_true, cond_false, Bool.true_and]
  rw [range_loop hN (n := xs.length) (by omega) (fun k => !decide ((xs.getD k NL).2.1 > c)) (some (false, ())) (some (true, ()))]
  · cases (List.range xs.length).all fun k => !decide ((xs.getD k NL).2.1 > c) <;> rfl
  · intro s next e
    simp only [e, Int.lt_irrefl, decide_false, cond_false]
  · rintro k ⟨_, u⟩ next rfl hk g
    simp only [show decide ((k : Int) < (xs.length : Int)) = true from by simpa using hk, cond_true, idx_at hk, Option.bind_some, g]
    cases decide ((xs.getD k NL).2.1 > c) <;> rfl

theorem neg_eq {l : List Int} (hl : l.length ≤ 1048576) : slices_ContainsFunc_int64_int64_impl_PlanBound_1 N l () = some (l.any (fun v => decide (v < 0)), ()) := by
  unfold slices_ContainsFunc_int64_int64_impl_PlanBound_1
  have h : ∃ i : Int, slices_IndexFunc_int64_int64_impl_PlanBound_1 N l () = some (i, ()) ∧ decide (i ≥ 0) = l.any (fun v => decide (v < 0)) := by
    unfold slices_IndexFunc_int64_int64_impl_PlanBound_1
    refine loop_inv (Q := fun o : Option (Int × Unit) => ∃ i : Int, o = some (i, ()) ∧ decide (i ≥ 0) = l.any (fun v => decide (v < 0)))
      (inv := fun s : Int × Unit => 0 ≤ s.1 ∧ s.1 ≤ l.length ∧ (l.drop s.1.toNat).any (fun v => decide (v < 0)) = l.any (fun v => decide (v < 0))) (μ := fun s => (l.length - s.1).toNat) ?_ N _ ⟨Int.le_refl _, by simp only; omega, by simp⟩ (by simp only; omega)
    rintro ⟨i, u⟩ next ⟨h1, h2, h3⟩ hn
    simp only at h1 h2 h3 ⊢
    by_cases hi : i < (l.length : Int)
    · have hlt : i.toNat < l.length := by omega
      rw [List.drop_eq_getElem_cons hlt, List.any_cons] at h3
      simp only [hi, decide_true, cond_true, idx_some h1 hi, Option.bind_some, impl_PlanBound_1, w64_in (n := i + 1) (by omega)]
      cases hd : decide (l[i.toNat] < 0)
      · rw [hd, Bool.false_or] at h3
        exact hn _ ⟨by simp only; omega, by simp only; omega, by simp only; rw [show (i + 1).toNat = i.toNat + 1 by omega]; exact h3⟩ (by simp only; omega)
      · rw [hd, Bool.true_or] at h3
        exact ⟨i, rfl, by rw [← h3, decide_eq_true h1]⟩
    · simp only [hi, decide_false, cond_false]
      rw [List.drop_eq_nil_of_le (by omega), List.any_nil] at h3
      exact ⟨-1, rfl, by rw [← h3]; rfl⟩
  obtain ⟨i, h1, h2⟩ := h
  rw [h1, Option.bind_some, h2]

theorem PlanBound_law {xs : List Tk} {c : Int} (h : Small 1048576 xs) : ∃ i b, spec_PlanBound N xs c = some (i, b, ()) ∧ impl_PlanBound N xs c = some (i, b, ()) := by
  unfold spec_PlanBound impl_PlanBound impl_EarlyStarts impl_upward
  simp only [l03Crew_eq hN h, AreTasks_eq hN h, Option.bind_some, within_eq]
  cases ht : tasksOk xs
  · exact ⟨0, false, rfl, rfl⟩
  obtain ⟨es, e1, e2, e3, e4⟩ := early_eq hN h ht
  obtain ⟨f1, f2, f3⟩ := task_facts ht
  have hl := h.1
  simp only [Bool.not_true, cond_false, e1, e2, Option.bind_some, l03End_eq hN (xs := xs) (by omega) e3, lastEnd_eq hN (xs := xs) (by omega) e3, Bool.true_and, l00Max_eq]
  by_cases hc1 : 1 ≤ c
  · by_cases hc2 : c ≤ 20
    · rw [show within 0 20 c = true from within_iff.2 ⟨by omega, hc2⟩, show within 1 20 c = true from within_iff.2 ⟨hc1, hc2⟩, decide_eq_false (show ¬ c < 1 by omega), show (c == 0) = false from by simp only [beq_eq_false_iff_ne]; omega]
      simp only [Bool.not_true, cond_false, Bool.true_and]
      have hs := fold_range hN (ρ := Int × Bool × Unit) (n := xs.length) (by omega) (inv := fun _ => True) (fun s : Int × Int × Unit => s.2.1)
        (body := fun (s3 : Int × Int × Unit) next4 =>
        cond (decide (s3.2.1 < (List.length xs : Int)))
          (Option.bind (idx xs s3.2.1) fun v5 =>
          cond (decide (v5.2.1 > c))
            (some (0, false, ()))
            (Option.bind (slices_ContainsFunc_int64_int64_impl_PlanBound_1 N v5.2.2.2 ()) fun r6 =>
            cond r6.1
              (some (0, false, ()))
              (next4 ((w64 (s3.1 + (w64 (v5.1 * v5.2.1)))), (w64 (s3.2.1 + 1)), ()))))
          (Option.bind (some ((w64 (Int.tdiv (w64 ((w64 (s3.1 + c)) - 1)) c)), ())) fun r7 => some ((imax (endW xs es) r7.1), true, ())))
        (fun l s => cond (l.all (fun k => !decide ((xs.getD k NL).2.1 > c)) && l.all (fun k => !((xs.getD k NL).2.2.2.any (fun v => decide (v < 0)))))
          (some ((imax (endW xs es) (w64 (Int.tdiv (w64 ((w64 (l.foldl (fun a k => w64 (a + (w64 ((xs.getD k NL).1 * (xs.getD k NL).2.1)))) s.1 + c)) - 1)) c))), true, ())) (some (0, false, ())))
        (fun s next _ g => by simp only [g, Int.lt_irrefl, decide_false, cond_false, List.all_nil, Bool.and_true, cond_true, List.foldl_nil, Option.bind_some])
        (fun k s next r _ g1 g2 g3 hn => by
          have hks := h.get k
          simp only [g1, show decide ((k : Int) < (xs.length : Int)) = true from by simpa using g2, cond_true, idx_at g2, Option.bind_some, neg_eq hN hks.2, g3, List.all_cons, List.foldl_cons]
          cases decide ((xs.getD k NL).2.1 > c)
          · cases (xs.getD k NL).2.2.2.any (fun v => decide (v < 0))
            · simp only [cond_false, Bool.not_false, Bool.true_and]
              exact hn _ trivial rfl
            · simp
          · simp)
        (s := (0, 0, ())) trivial rfl
      rw [hs]
      cases hall : (List.range xs.length).all (fun k => !decide ((xs.getD k NL).2.1 > c))
      · exact ⟨0, false, rfl, rfl⟩
      simp only [Bool.not_true, cond_false, Bool.true_and]
      have hs2 := fold_range hN (ρ := Int × Bool × Unit) (n := xs.length) (by omega) (inv := fun _ => True) (fun s : Int × Int × Unit => s.2.1)
        (body := fun (s2 : Int × Int × Unit) next3 =>
        cond (decide (s2.2.1 < (List.length xs : Int)))
          (Option.bind (idx xs s2.2.1) fun v4 =>
          Option.bind (idx xs s2.2.1) fun v5 =>
          Option.bind (idx xs s2.2.1) fun v6 =>
          loopN (fun (s7 : Int × Unit) next8 =>
            cond (decide (s7.1 < (List.length v6.2.2.2 : Int)))
              (Option.bind (idx xs s2.2.1) fun v9 =>
              Option.bind (idx v9.2.2.2 s7.1) fun v10 =>
              cond (decide (v10 < 0))
                (some (0, false, ()))
                (next8 ((w64 (s7.1 + 1)), ())))
              (next3 ((w64 (s2.1 + (w64 (v4.1 * v5.2.1)))), (w64 (s2.2.1 + 1)), ()))) N (0, ()))
          (some ((imax (endW xs es) (w64 (Int.tdiv (w64 ((w64 (s2.1 + c)) - 1)) c))), true, ())))
        (fun l s => cond (l.all (fun k => !((xs.getD k NL).2.2.2.any (fun v => decide (v < 0)))))
          (some ((imax (endW xs es) (w64 (Int.tdiv (w64 ((w64 (l.foldl (fun a k => w64 (a + (w64 ((xs.getD k NL).1 * (xs.getD k NL).2.1)))) s.1 + c)) - 1)) c))), true, ())) (some (0, false, ())))
        (fun s next _ g => by simp only [g, Int.lt_irrefl, decide_false, cond_false, List.all_nil, cond_true, List.foldl_nil])
        (fun k s next r _ g1 g2 g3 hn => by
          have hks := h.get k
          simp only [g1, show decide ((k : Int) < (xs.length : Int)) = true from by simpa using g2, cond_true, idx_at g2, Option.bind_some, g3, List.all_cons, List.foldl_cons]
          rw [all_loop hN (xs := (xs.getD k NL).2.2.2) (by omega) (fun v => !decide (v < 0)) (some (0, false, ())) (next ((w64 (s.1 + (w64 ((xs.getD k NL).1 * (xs.getD k NL).2.1)))), (k : Int) + 1, ()))]
          · rw [show (xs.getD k NL).2.2.2.all (fun v => !decide (v < 0)) = !(xs.getD k NL).2.2.2.any (fun v => decide (v < 0)) from by rw [List.not_any_eq_all_not]]
            cases (xs.getD k NL).2.2.2.any (fun v => decide (v < 0))
            · simp only [Bool.not_false, cond_true, Bool.true_and]
              exact hn _ trivial rfl
            · simp
          · intro s' next' e
            simp only [e, Int.lt_irrefl, decide_false, cond_false]
          · intro s' next' v k1 k2 k3 k4
            simp only [k2, decide_true, cond_true, k3, Option.bind_some, k4]
            cases decide (v < 0) <;> rfl)
        (s := (0, 0, ())) trivial rfl
      rw [hs2]
      cases (List.range xs.length).all (fun k => !((xs.getD k NL).2.2.2.any (fun v => decide (v < 0))))
      · exact ⟨0, false, rfl, rfl⟩
      · exact ⟨_, true, rfl, rfl⟩
    · rw [show within 0 20 c = false from by simp [within]; omega, show within 1 20 c = false from by simp [within]; omega]
      exact ⟨0, false, rfl, rfl⟩
  · rw [show within 1 20 c = false from by simp [within]; omega, decide_eq_true (show c < 1 by omega)]
    cases (within 0 20 c && (List.range xs.length).all fun k => !decide ((xs.getD k NL).2.1 > c))
    · exact ⟨0, false, rfl, rfl⟩
    · exact ⟨0, false, rfl, rfl⟩

theorem FnExactPlanBound_eq (xs : List Tk) (c : Int) (hx : Small 9223372036854775807 xs) : laws_FnExactPlanBound N xs c = some (true, ()) := by
  unfold laws_FnExactPlanBound
  rcases szTaskS_eq hN (k := 1048576) hx (by omega) with e | ⟨r, e, h1, h2, h3⟩
  · simp [e]
  obtain ⟨a0, a1, e1, e2⟩ := PlanBound_law hN h3 (c := c)
  simp only [e, Option.bind_some, show decide (r < 0) = false from by simp; omega, cond_false, toTaskS_eq hN h3, e1, e2, eqTaskS_eq hN h3, bne_self_eq_false, BEq.rfl, Bool.not_true]
end

end Go.Proofs.Ytobgddikninjpaa
