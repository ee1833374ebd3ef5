/-
  CrewsShared: the plain laws, for lists of any length. No condition.
-/
import Derived.Test.YtggpodcpjkafhaaCrew
namespace Go.Proofs.Ytggpodcpjkafhaa
open Go Go.Proofs.Ytggpodcpjkafhaa.Fw
set_option linter.unusedVariables false
set_option linter.unusedSimpArgs false

theorem bef_len {xs : List Tk} (ht : tasksOk xs = true) {i : Nat} (hi : i < xs.length) : (xs.getD i NL).2.2.1.length ≤ 16 := by
  obtain ⟨f1, f2, f3⟩ := task_facts ht
  obtain ⟨_, _, _, _, g5, g6, g7⟩ := f3 i hi
  have hok : taskOk i (xs.getD i NL) = true := by
    unfold tasksOk at ht
    simp only [Bool.and_eq_true] at ht
    exact List.all_eq_true.1 ht.1 i (List.mem_range.2 hi)
  have hinc := incr_of hok
  have key : ∀ k : Nat, k < (xs.getD i NL).2.2.1.length → (k : Int) ≤ (xs.getD i NL).2.2.1.getD k 0 := by
    intro k
    induction k with
    | zero => intro hk; exact (g6 0 hk).1
    | succ k ih =>
      intro hk
      have h1 := ih (by omega)
      have h2 := hinc k (k + 1) (by omega) hk
      omega
  by_cases hl : (xs.getD i NL).2.2.1.length ≤ 16
  · exact hl
  · have h1 := key 16 (by omega)
    have h2 := g6 16 (by omega)
    omega

theorem small_ok {xs : List Tk} (ht : tasksOk xs = true) : Small 1048576 xs := by
  obtain ⟨f1, f2, f3⟩ := task_facts ht
  refine ⟨by omega, fun t hm => ?_⟩
  obtain ⟨j, hj, rfl⟩ := List.getElem_of_mem hm
  have h1 := bef_len ht hj
  obtain ⟨_, _, _, _, g5, g6, g7⟩ := f3 j hj
  rw [List.getD_eq_getElem?_getD, List.getElem?_eq_getElem hj] at h1 g5
  simp only [Option.getD_some] at h1 g5
  omega

section
variable {N : Nat} (hN : 9223372036854775808 ≤ N)
include hN

theorem range_big {ρ : Type} {n : Nat} (hn : n ≤ 9223372036854775807) (p : Nat → Bool) (bad good : Option ρ) {body : (Int × Unit) → ((Int × Unit) → Option ρ) → Option ρ}
    (h0 : ∀ (s : Int × Unit) next, s.1 = (n : Int) → body s next = good)
    (h1 : ∀ (k : Nat) (s : Int × Unit) next, s.1 = (k : Int) → k < n → w64 ((k : Int) + 1) = (k : Int) + 1 → body s next = cond (p k) (next ((k : Int) + 1, ())) bad) :
    loopN body N (0, ()) = cond ((List.range n).all p) good bad := by
  refine loop_eq (inv := fun s : Int × Unit => ∃ k : Nat, k ≤ n ∧ s = ((k : Int), ())) (μ := fun s => (n - s.1).toNat) (R := fun s => cond (((List.range n).drop s.1.toNat).all p) good bad) ?_ N _ ⟨0, Nat.zero_le _, rfl⟩ (by simp only; omega)
  rintro _ next ⟨k, hk, rfl⟩ hn'
  simp only at hn' ⊢
  rw [Int.toNat_natCast]
  by_cases hlt : k < n
  · rw [h1 k _ next rfl hlt (w64_in (by omega)), hn' ((k : Int) + 1, ()) ⟨k + 1, hlt, rfl⟩ (by simp only; omega), show ((k : Int) + 1).toNat = k + 1 by omega, List.drop_eq_getElem_cons (show k < (List.range n).length by simpa using hlt), List.all_cons, List.getElem_range]
    cases p k <;> rfl
  · obtain rfl : k = n := by omega
    rw [h0 _ next rfl, List.drop_eq_nil_of_le (by simp)]
    rfl

theorem areWithin_big {xs : List Int} (hx : xs.length ≤ 9223372036854775807) (lo hi : Int) : impl_areWithin N xs lo hi = some (xs.all (within lo hi), ()) := by
  unfold impl_areWithin
  rw [range_big hN hx (fun k => within lo hi (xs.getD k 0)) (some (false, ())) (some (true, ())), all_range (within lo hi)]
  · cases xs.all (within lo hi) <;> rfl
  · intro s next e
    simp only [e, Int.lt_irrefl, decide_false, cond_false]
  · intro k s next e hk g
    simp only [e, show decide ((k : Int) < (xs.length : Int)) = true from by simpa using hk, cond_true, idx_int hk, Option.bind_some, within_eq, g]
    cases within lo hi (xs.getD k 0) <;> rfl

theorem l03Task_big {i : Nat} {t : Tk} (hi : i ≤ 4294967296) (h : t.2.2.1.length ≤ 9223372036854775807 ∧ t.2.2.2.length ≤ 9223372036854775807) : spec_l03Task N t i = some (taskOk i t, ()) := by
  unfold spec_l03Task taskOk
  simp only [l00In_eq, Option.bind_some]
  cases within 0 100 t.1
  · rfl
  cases within 0 20 t.2.1
  · rfl
  simp only [Bool.not_true, cond_false, Bool.true_and]
  by_cases hl : t.2.2.1.length = t.2.2.2.length
  · rw [show ((List.length t.2.2.2 : Int) != (List.length t.2.2.1 : Int)) = false by simp [hl], cond_false, decide_eq_true hl, Bool.true_and]
    rw [range_big hN (n := t.2.2.1.length) (by omega) (fun k => (within 0 ((i : Int) - 1) (t.2.2.1.getD k 0) && (decide (k = 0) || decide (t.2.2.1.getD (k - 1) 0 < t.2.2.1.getD k 0))) && within (-100) 100 (t.2.2.2.getD k 0)) (some (false, ())) (some (true, ()))]
    · rw [all_and, ← all_range (within (-100) 100) t.2.2.2, ← hl, Bool.and_comm]
      generalize ((List.range t.2.2.1.length).all _ && _) = b
      cases b <;> rfl
    · intro s next e
      simp only [e, Int.lt_irrefl, decide_false, cond_false]
    · rintro k ⟨_, u⟩ next rfl hk g
      simp only [show decide ((k : Int) < (t.2.2.1.length : Int)) = true from by simpa using hk, cond_true, idx_int hk, idx_int (show k < t.2.2.2.length by omega), Option.bind_some, w64_in (n := (i : Int) - 1) (by omega), g]
      cases within 0 ((i : Int) - 1) (t.2.2.1.getD k 0)
      · rfl
      · by_cases h0 : k = 0
        · subst h0
          simp only [Bool.not_true, cond_false, show decide (((0 : Nat) : Int) > 0) = false from rfl, decide_true, Bool.true_or, Bool.true_and]
          cases within (-100) 100 (t.2.2.2.getD 0 0) <;> rfl
        · have e1 : decide ((k : Int) > 0) = true := by simp; omega
          rw [w64_in (n := (k : Int) - 1) (by omega), show (k : Int) - 1 = ((k - 1 : Nat) : Int) by omega, idx_int (show k - 1 < t.2.2.1.length by omega)]
          simp only [e1, Bool.not_true, cond_false, cond_true, Option.bind_some, h0, decide_false, Bool.false_or, Bool.true_and]
          by_cases h2 : t.2.2.1.getD (k - 1) 0 < t.2.2.1.getD k 0
          · rw [decide_eq_true h2, show decide (t.2.2.1.getD k 0 ≤ t.2.2.1.getD (k - 1) 0) = false from by simp only [decide_eq_false_iff_not]; omega]
            cases within (-100) 100 (t.2.2.2.getD k 0) <;> rfl
          · rw [decide_eq_false h2, show decide (t.2.2.1.getD k 0 ≤ t.2.2.1.getD (k - 1) 0) = true from by simp only [decide_eq_true_eq]; omega]
            rfl
  · rw [show ((List.length t.2.2.2 : Int) != (List.length t.2.2.1 : Int)) = true by simp; omega, cond_true, decide_eq_false hl]
    rfl

theorem l03Are_big {xs : List Tk} (hlen : xs.length ≤ 1048576) (h : Small 9223372036854775807 xs) : spec_l03Are N xs = some (tasksOk xs, ()) := by
  unfold spec_l03Are tasksOk
  rw [range_loop hN (n := xs.length) (by omega) (fun i => taskOk i (xs.getD i NL)) (some (false, ())) (cond (decide ((List.length xs : Int) ≥ 1)) (some ((decide ((List.length xs : Int) ≤ 16)), ())) (some (false, ())))]
  · exact end_eq hN xs _
  · intro s next e
    simp only [e, Int.lt_irrefl, decide_false, cond_false]
  · rintro k ⟨_, u⟩ next rfl hk g
    simp only [show decide ((k : Int) < (xs.length : Int)) = true from by simpa using hk, cond_true, idx_at hk, Option.bind_some, l03Task_big hN (i := k) (by omega) (h.get k), g]
    cases taskOk k (xs.getD k NL) <;> rfl

theorem AreTasks_big {xs : List Tk} (hlen : xs.length ≤ 1048576) (h : Small 9223372036854775807 xs) : impl_AreTasks N xs = some (tasksOk xs, ()) := by
  unfold impl_AreTasks tasksOk
  rw [range_big hN (n := xs.length) (by omega) (fun i => taskOk i (xs.getD i NL)) (some (false, ())) (cond (decide ((List.length xs : Int) ≥ 1)) (some ((decide ((List.length xs : Int) ≤ 16)), ())) (some (false, ())))]
  · exact end_eq hN xs _
  · intro s next e
    simp only [e, Int.lt_irrefl, decide_false, cond_false]
  · rintro k ⟨_, u⟩ next rfl hk g
    have hg := h.get k
    revert hg
    simp only [show decide ((k : Int) < (xs.length : Int)) = true from by simpa using hk, cond_true, idx_at hk, Option.bind_some, g]
    generalize xs.getD k NL = t
    intro hg
    unfold taskOk
    simp only [within_eq, Option.bind_some]
    cases within 0 100 t.1
    · rfl
    cases within 0 20 t.2.1
    · rfl
    simp only [Bool.not_true, cond_false, Bool.true_and]
    by_cases hl : t.2.2.1.length = t.2.2.2.length
    · rw [show ((List.length t.2.2.1 : Int) != (List.length t.2.2.2 : Int)) = false by simp [hl], cond_false, decide_eq_true hl, Bool.true_and]
      rw [areWithin_big hN (by omega)]
      simp only [Option.bind_some]
      cases t.2.2.2.all (within (-100) 100)
      · rfl
      simp only [Bool.not_true, cond_false, Bool.true_and]
      rw [range_big hN (n := t.2.2.1.length) (by omega) (fun j => within 0 ((k : Int) - 1) (t.2.2.1.getD j 0) && (decide (j = 0) || decide (t.2.2.1.getD (j - 1) 0 < t.2.2.1.getD j 0))) (some (false, ())) (next ((k : Int) + 1, ()))]
      · intro s next e
        simp only [e, Int.lt_irrefl, decide_false, cond_false]
      · rintro j ⟨_, u⟩ next' rfl hj g'
        simp only [show decide ((j : Int) < (t.2.2.1.length : Int)) = true from by simpa using hj, cond_true, idx_int hj, Option.bind_some, w64_in (n := (k : Int) - 1) (by omega), within_eq, g']
        cases within 0 ((k : Int) - 1) (t.2.2.1.getD j 0)
        · rfl
        · by_cases h0 : j = 0
          · subst h0
            rfl
          · have e1 : decide ((j : Int) > 0) = true := by simp; omega
            rw [w64_in (n := (j : Int) - 1) (by omega), show (j : Int) - 1 = ((j - 1 : Nat) : Int) by omega, idx_int (show j - 1 < t.2.2.1.length by omega)]
            simp only [e1, Bool.not_true, cond_false, cond_true, Option.bind_some, h0, decide_false, Bool.false_or, Bool.true_and]
            by_cases h2 : t.2.2.1.getD (j - 1) 0 < t.2.2.1.getD j 0
            · rw [decide_eq_true h2, show decide (t.2.2.1.getD j 0 ≤ t.2.2.1.getD (j - 1) 0) = false from by simp only [decide_eq_false_iff_not]; omega]
              rfl
            · rw [decide_eq_false h2, show decide (t.2.2.1.getD j 0 ≤ t.2.2.1.getD (j - 1) 0) = true from by simp only [decide_eq_true_eq]; omega]
              rfl
    · rw [show ((List.length t.2.2.1 : Int) != (List.length t.2.2.2 : Int)) = true by simp; omega, cond_true, decide_eq_false hl]
      rfl

theorem crews_eq {xs : List Tk} {cs : List Int} {k : Int} (hl : xs.length ≤ 1048576) (h : Small 9223372036854775807 xs) (hc : cs.length ≤ 1048576) : ∃ r, spec_CrewsShared N xs cs k = some r ∧ impl_CrewsShared N xs cs k = some r ∧ r.1.length ≤ 16 := by
  unfold spec_CrewsShared impl_CrewsShared impl_areWorkers
  simp only [l03Are_big hN hl h, AreTasks_big hN hl h, l00In_eq, within_eq, Option.bind_some]
  cases ht : tasksOk xs with
  | false => exact ⟨_, rfl, rfl, by simp⟩
  | true =>
    have hs := small_ok ht
    simp only [Bool.not_true, cond_false]
    by_cases c2 : (cs.length : Int) > 16
    · rw [decide_eq_true c2]
      exact ⟨_, rfl, rfl, by simp⟩
    · rw [decide_eq_false c2, cond_false, cond_false]
      cases within 1 8 k with
      | false => exact ⟨_, rfl, rfl, by simp⟩
      | true =>
        simp only [Bool.not_true, cond_false]
        refine loop_rel (I := fun (s t : List Int × Int × Unit) => s = t ∧ 0 ≤ s.2.1 ∧ s.2.1 ≤ cs.length ∧ (s.1.length : Int) = s.2.1) (μ := fun s => (cs.length - s.2.1).toNat) (Q := fun (r : List Int × Bool × Unit) => r.1.length ≤ 16) ?_ N N _ _
          ⟨rfl, Int.le_refl _, by simp only; omega, rfl⟩ (by simp only; omega) (by simp only; omega)
        rintro ⟨out, i, u⟩ _ nA nB ⟨rfl, h1, h2, h3⟩ hn
        simp only at h1 h2 h3 ⊢
        by_cases hi : i < (cs.length : Int)
        · have hlt : i.toNat < cs.length := by omega
          simp only [hi, decide_true, cond_true, idx_get 0 ⟨h1, hi⟩, Option.bind_some]
          obtain ⟨l, e, b, e1, e2, e3⟩ := RulePlan_law hN hs (r := 0) (c := cs.getD i.toNat 0)
          rw [e1, e2]
          simp only [Option.bind_some]
          cases b with
          | false => exact ⟨_, rfl, rfl, by simp⟩
          | true =>
            simp only [Bool.not_true, cond_false]
            rw [appOk_of (by simp; omega), cond_true, cond_true, w64_in (n := i + 1) (by omega)]
            exact hn _ _ ⟨rfl, by simp only; omega, by simp only; omega, by simp; omega⟩ (by simp only; omega)
        · simp only [hi, decide_false, cond_false]
          exact ⟨_, rfl, rfl, by simp only; omega⟩

theorem crew_any {xs : List Tk} {cs : List Int} {k k' : Int} (hk : within 1 8 k = true) (hk' : within 1 8 k' = true) : impl_CrewsShared N xs cs k = impl_CrewsShared N xs cs k' := by
  have _ := hN
  unfold impl_CrewsShared impl_areWorkers
  rw [within_eq, within_eq, hk, hk']

theorem CrewsShared_law {xs : List Tk} {cs : List Int} {k : Int} (h : Small 1048576 xs) (hc : cs.length ≤ 1048576) : ∃ l b, spec_CrewsShared N xs cs k = some (l, b, ()) ∧ impl_CrewsShared N xs cs k = some (l, b, ()) ∧ l.length ≤ 1048576 := by
  obtain ⟨⟨l, b, u⟩, e1, e2, e3⟩ := crews_eq hN (cs := cs) (k := k) h.1 (h.mono (by omega)) hc
  exact ⟨l, b, e1, e2, by simp only at e3; omega⟩

theorem FnExactCrewsShared_eq (xs : List Tk) (cs : List Int) (k : Int) (hx : Small 9223372036854775807 xs) : laws_FnExactCrewsShared N xs cs k = some (true, ()) := by
  unfold laws_FnExactCrewsShared
  by_cases h_cs : (List.length cs : Int) > 1048576
  · simp [h_cs]
  rcases szTaskS_eq hN (k := 1048576) hx (by omega) with e | ⟨r, e, h1, h2, h3⟩
  · simp [h_cs, e]
  obtain ⟨a0, a1, e1, e2, l_a0⟩ := CrewsShared_law hN h3 (cs := cs) (k := k) (by omega)
  simp only [e, Option.bind_some, show decide (r < 0) = false from by simp; omega, cond_false, toTaskS_eq hN h3, e1, e2, eqTaskS_eq hN h3, bne_self_eq_false, BEq.rfl, Bool.not_true, h_cs, decide_false, toInt64S_eq hN (xs := cs) (by omega), eqInt64S_eq hN (xs := cs) (by omega), markTS_eq h3, Nat.beq_refl, cond_true, decide_eq_false (show ¬ ((1 : Int) + tksLen xs < 0) by have := tksLen_nonneg xs; omega), markInt64S_eq hN (xs := cs) (k := 1 + tksLen xs) (by omega) (by have := tksLen_nonneg xs; have := tksLen_le xs h3.2; have := h3.1; omega), decide_eq_false (show ¬ (1 + tksLen xs + cs.length < (0 : Int)) by have := tksLen_nonneg xs; omega), eqInt64S_eq hN (xs := a0) (by omega), markInt64S_eq hN (xs := a0) (k := 1) (by omega) (by omega), heldInt64S_eq hN (xs := a0) (k := 1) (by omega) (by omega), decide_eq_false (show ¬ ((1 + a0.length : Int) < 0) by omega), counted_len]


theorem sameInts_eq {xs : List Int} (hx : xs.length ≤ 4294967296) : laws_sameInts N xs xs = some (true, ()) := by
  have e : laws_sameInts N xs xs = laws_eqInt64S N xs xs := rfl
  rw [e, eqInt64S_eq hN hx]

theorem FnCrewsSharedOfAll_eq (xs : List Tk) (cs : List Int) (k k' : Int) (hx : Small 9223372036854775807 xs) : laws_FnCrewsSharedOfAll N xs cs k k' = some (true, ()) := by
  unfold laws_FnCrewsSharedOfAll
  by_cases hl : (xs.length : Int) > 10000
  · rw [decide_eq_true hl]
    rfl
  · rw [decide_eq_false hl, cond_false]
    by_cases hc : (cs.length : Int) > 10000
    · rw [decide_eq_true hc]
      rfl
    · rw [decide_eq_false hc, cond_false]
      obtain ⟨⟨a, b, u⟩, h1, h2, h3⟩ := crews_eq hN (xs := xs) (cs := cs) (k := k) (by omega) hx (by omega)
      obtain ⟨⟨a', b', u'⟩, _, g2, _⟩ := crews_eq hN (xs := xs) (cs := cs) (k := k') (by omega) hx (by omega)
      have hw : within 1 8 k = true → within 1 8 k' = true → a' = a ∧ b' = b := fun e1 e2 => by
        have := crew_any hN (xs := xs) (cs := cs) e1 e2
        rw [h2, g2] at this
        cases this
        exact ⟨rfl, rfl⟩
      rw [h2, g2, h1]
      simp only [Option.bind_some, BEq.rfl, Bool.not_true, cond_false]
      rw [sameInts_eq hN (xs := a) (by simp only at h3; omega)]
      simp only [Option.bind_some, Bool.not_true, cond_false]
      by_cases c1 : k < 1
      · rw [decide_eq_true c1]
        cases b <;> rfl
      · rw [decide_eq_false c1]
        by_cases c2 : k > 8
        · rw [decide_eq_true c2]
          cases b <;> rfl
        · rw [decide_eq_false c2]
          by_cases c3 : k' < 1
          · rw [decide_eq_true c3]
            cases b <;> rfl
          · rw [decide_eq_false c3]
            by_cases c4 : k' > 8
            · rw [decide_eq_true c4]
              cases b <;> rfl
            · rw [decide_eq_false c4]
              obtain ⟨rfl, rfl⟩ := hw (within_iff.2 (by omega)) (within_iff.2 (by omega))
              simp only [cond_false, BEq.rfl, cond_true]
              rw [sameInts_eq hN (xs := a') (by simp only at h3; omega)]
              cases b' <;> rfl
end

end Go.Proofs.Ytggpodcpjkafhaa
