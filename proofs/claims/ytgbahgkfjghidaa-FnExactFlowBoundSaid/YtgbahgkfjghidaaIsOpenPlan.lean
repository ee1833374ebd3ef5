/-
  IsOpenPlan: the plain law. No condition.
-/
import Derived.Test.YtgbahgkfjghidaaMixedGap
namespace Go.Proofs.Ytgbahgkfjghidaa
open Go Go.Proofs.Ytgbahgkfjghidaa.Fw
set_option linter.unusedVariables false
set_option linter.unusedSimpArgs false

theorem idx_getD {xs : List Int} {n : Int} (h0 : 0 ≤ n) (h : n < xs.length) : idx xs n = some (xs.getD n.toNat 0) := by
  have hlt : n.toNat < xs.length := by omega
  rw [idx_some h0 h]
  simp [hlt]

def over (a p b q : Int) : Bool := decide (a < w64 (b + q)) && decide (b < w64 (a + p))

theorem over_eq {N : Nat} {xs ys : List Int} {i j : Int} (hl : ys.length = xs.length) (hi0 : 0 ≤ i) (hi : i < xs.length) (hj0 : 0 ≤ j) (hj : j < xs.length) :
    spec_l04Over N xs ys i j = some (over (ys.getD i.toNat 0) (xs.getD i.toNat 0) (ys.getD j.toNat 0) (xs.getD j.toNat 0), ()) := by
  unfold spec_l04Over over
  rw [idx_getD hi0 hi, idx_getD hj0 hj, idx_getD hi0 (by omega), idx_getD hj0 (by omega)]
  simp only [Option.bind_some]
  cases decide (ys.getD i.toNat 0 < w64 (ys.getD j.toNat 0 + xs.getD j.toNat 0)) <;> rfl

theorem apart_eq {N : Nat} (a p b q : Int) : impl_apart N a p b q = some (!over a p b q, ()) := by
  unfold impl_apart over
  by_cases h1 : w64 (a + p) ≤ b
  · rw [show decide (w64 (a + p) ≤ b) = true by simpa using h1, show decide (b < w64 (a + p)) = false by simpa using h1]
    simp
  · rw [show decide (w64 (a + p) ≤ b) = false by simpa using h1, show decide (b < w64 (a + p)) = true by simpa using h1]
    by_cases h2 : w64 (b + q) ≤ a
    · simp [h2, show ¬ a < w64 (b + q) by omega]
    · simp [h2, show a < w64 (b + q) by omega]

def quot (xs : List Int) (m : Int) : Int := w64 (Int.tdiv xs.length m)

def shopOk (xs : List Int) (m : Int) : Bool := within 1 8 m && (((Int.tmod xs.length m) == 0) && (xs.all (within 1 10000) && (decide (quot xs m ≥ 1) && decide (quot xs m ≤ 24))))

section
variable {N : Nat} (hN : 9223372036854775808 ≤ N)
include hN

theorem l04Can_eq {xs : List Int} {m : Int} (hx : xs.length ≤ 1048576) : spec_l04Can N xs m = some (shopOk xs m, ()) := by
  have ha : loopN (fun (s2 : Int × Unit) next3 =>
                cond (decide (s2.1 < (List.length xs : Int)))
                  (Option.bind (idx xs s2.1) fun v4 =>
                  Option.bind (spec_l00In N v4 1 10000) fun r5 =>
                  cond (!r5.1)
                    (some (false, ()))
                    (next3 ((w64 (s2.1 + 1)), ())))
                  (some (true, ()))) N (0, ()) = some (xs.all (within 1 10000), ()) := areWithin_eq hN hx 1 10000
  unfold spec_l04Can spec_l02Unlike spec_l02Machines
  rw [ha]
  simp only [l00In_eq, Option.bind_some]
  cases hm : within 1 8 m
  · simp [shopOk, hm]
  · have hm' := hm
    simp only [within, Bool.and_eq_true, decide_eq_true_eq] at hm'
    have h0 : (m == 0) = false := by simp only [beq_eq_false_iff_ne]; omega
    simp only [Bool.not_true, cond_false, h0, shopOk, hm, Bool.true_and]
    have hq : quot xs m = Int.tdiv xs.length m := by
      unfold quot
      refine w64_in ?_
      have h1 : 0 ≤ Int.tdiv (xs.length : Int) m := Int.tdiv_nonneg (by omega) (by omega)
      have h2 : Int.tdiv (xs.length : Int) m ≤ xs.length := Int.tdiv_le_self _ (by omega)
      omega
    by_cases h1 : (xs.length : Int) < 1
    · have hz : (xs.length : Int) = 0 := by omega
      have hq0 : ¬ quot xs m ≥ 1 := by rw [hq, hz]; simp
      simp [h1, hq0]
    · simp only [h1, decide_false, cond_false]
      cases hmod : (Int.tmod (xs.length : Int) m == 0)
      · rw [show (Int.tmod (xs.length : Int) m != 0) = true by simp only [bne, hmod]; rfl]
        rfl
      · rw [show (Int.tmod (xs.length : Int) m != 0) = false by simp only [bne, hmod]; rfl]
        have hmod' : Int.tmod (xs.length : Int) m = 0 := by simpa using hmod
        have hq1 : quot xs m ≥ 1 := by
          rw [hq]
          have e := Int.mul_tdiv_add_tmod (xs.length : Int) m
          rw [hmod'] at e
          have h3 : 0 ≤ Int.tdiv (xs.length : Int) m := Int.tdiv_nonneg (by omega) (by omega)
          rcases Int.lt_or_eq_of_le h3 with h4 | h4
          · omega
          · rw [← h4] at e
            simp at e
            omega
        have hw : w64 (Int.tdiv (xs.length : Int) m) = quot xs m := rfl
        simp only [cond_false, hw, hq1, decide_true, Bool.true_and]
        by_cases h5 : quot xs m > 24
        · simp [h5, show ¬ quot xs m ≤ 24 by omega]
        · simp [h5, show quot xs m ≤ 24 by omega]

theorem asShop_eq {xs : List Int} {m : Int} (hx : xs.length ≤ 1048576) : ∃ j, impl_asShop N xs m = some ((xs, (j, m)), shopOk xs m, ()) ∧ (shopOk xs m = true → j = quot xs m) := by
  unfold impl_asShop impl_unlikeJobs impl_areMachines
  rw [areWithin_eq hN hx]
  simp only [within_eq, Option.bind_some]
  cases hm : within 1 8 m
  · exact ⟨0, by simp [shopOk, hm], fun h => by simp [shopOk, hm] at h⟩
  · have hm' := hm
    simp only [within, Bool.and_eq_true, decide_eq_true_eq] at hm'
    have h0 : (m == 0) = false := by simp only [beq_eq_false_iff_ne]; omega
    simp only [Bool.not_true, cond_false, h0, shopOk, hm, Bool.true_and]
    cases hmod : (Int.tmod (xs.length : Int) m == 0)
    · rw [show (Int.tmod (xs.length : Int) m != 0) = true by simp only [bne, hmod]; rfl]
      exact ⟨0, rfl, fun h => by cases h⟩
    · rw [show (Int.tmod (xs.length : Int) m != 0) = false by simp only [bne, hmod]; rfl]
      simp only [cond_false, Bool.true_and]
      cases xs.all (within 1 10000)
      · exact ⟨0, rfl, fun h => by cases h⟩
      · simp only [Bool.not_true, cond_false, Bool.true_and]
        have hw : w64 (Int.tdiv (xs.length : Int) m) = quot xs m := rfl
        rw [hw]
        refine ⟨quot xs m, ?_, fun _ => rfl⟩
        cases decide (quot xs m ≥ 1) <;> rfl

def startsOk (xs ys : List Int) : Bool := ys.all (within 0 1000000) && ((ys.length : Int) == (xs.length : Int))

theorem l04Starts_eq {xs ys : List Int} (hy : ys.length ≤ 1048576) : spec_l04Starts N xs ys = some (startsOk xs ys, ()) := by
  unfold spec_l04Starts startsOk
  exact loop_list (xs := ys) (i := fun s : Int × Unit => s.1) (f := fun l _ => some (l.all (within 0 1000000) && ((ys.length : Int) == (xs.length : Int)), ())) (inv := fun _ => True) (by omega)
    (fun s next _ h => by simp only [h, Int.lt_irrefl, decide_false, cond_false, List.all_nil, Bool.true_and])
    (fun s next v r _ h1 h2 h3 h4 h5 hn => by
      simp only [h2, decide_true, cond_true, h3, Option.bind_some, l00In_eq, h5, List.all_cons]
      cases within 0 1000000 v
      · rfl
      · exact hn _ trivial rfl)
    (by omega) (s := (0, ())) trivial (Int.le_refl _) (by simp only; omega)

theorem areStarts_eq {xs ys : List Int} (hy : ys.length ≤ 1048576) : impl_areStarts N ys xs.length = some (startsOk xs ys, ()) := by
  unfold impl_areStarts startsOk
  rw [areMany_eq hN hy]
  simp only [Option.bind_some, within]
  rw [Bool.and_comm]
  by_cases h : (ys.length : Int) = xs.length
  · simp [h]
  · rcases Int.lt_or_gt_of_ne h with h1 | h1
    · simp [show ¬ (ys.length : Int) ≥ xs.length by omega, h]
    · simp [show ¬ (ys.length : Int) ≤ xs.length by omega, h]

theorem isOpenPlan_eq {xs ys : List Int} {m : Int} (hx : xs.length ≤ 1048576) (hy : ys.length ≤ 1048576) : ∃ a b, spec_IsOpenPlan N xs m ys = some (a, b, ()) ∧ impl_IsOpenPlan N xs m ys = some (a, b, ()) := by
  unfold spec_IsOpenPlan impl_IsOpenPlan
  obtain ⟨j, hj, _⟩ := asShop_eq hN (m := m) hx
  rw [l04Can_eq hN hx, hj, l04Starts_eq hN hy]
  simp only [Option.bind_some]
  rw [areStarts_eq hN hy]
  cases hs : shopOk xs m
  · exact ⟨false, false, rfl, rfl⟩
  · simp only [Option.bind_some]
    cases hst : startsOk xs ys
    · exact ⟨false, false, rfl, rfl⟩
    · simp only [Bool.not_true, cond_false]
      have hm0 : (m == 0) = false := by
        simp only [shopOk, within, Bool.and_eq_true, decide_eq_true_eq] at hs
        simp only [beq_eq_false_iff_ne]
        omega
      have hl : ys.length = xs.length := by
        simp only [startsOk, Bool.and_eq_true, beq_iff_eq] at hst
        omega
      have fin : ∀ {A B : Option (Bool × Bool × Unit)}, (∃ r, A = some r ∧ B = some r ∧ True) → ∃ a b, A = some (a, b, ()) ∧ B = some (a, b, ()) := by
        rintro A B ⟨⟨a, b, u⟩, h1, h2, _⟩
        exact ⟨a, b, h1, h2⟩
      apply fin
      refine loop_rel (I := fun (s t : Int × Unit) => s = t ∧ 0 ≤ s.1 ∧ s.1 ≤ (xs.length : Int)) (μ := fun s => ((xs.length : Int) - s.1).toNat) (Q := fun _ => True) ?_ N N _ _ ⟨rfl, Int.le_refl _, by simp only; omega⟩ (by simp only; omega) (by simp only; omega)
      rintro s _ nA nB ⟨rfl, h0, h1⟩ hn
      by_cases hlt : s.1 < xs.length
      · simp only [hlt, decide_true, cond_true]
        refine loop_rel (I := fun (a b : Int × Unit) => a = b ∧ 0 ≤ a.1 ∧ a.1 ≤ s.1) (μ := fun a => (s.1 - a.1).toNat) (Q := fun _ => True) ?_ N N _ _ ⟨rfl, Int.le_refl _, h0⟩ (by simp only; omega) (by simp only; omega)
        rintro t _ mA mB ⟨rfl, t0, t1⟩ hmm
        by_cases htl : t.1 < s.1
        · have ht : t.1 < xs.length := by omega
          simp only [htl, decide_true, cond_true, hm0, cond_false, over_eq hl h0 hlt t0 ht, idx_getD h0 hlt, idx_getD t0 ht, idx_getD (xs := ys) h0 (by omega), idx_getD (xs := ys) t0 (by omega), Option.bind_some, apart_eq, Bool.not_not,
            w64_in (n := t.1 + 1) (by omega)]
          have step : ∃ r, mA (t.1 + 1, ()) = some r ∧ mB (t.1 + 1, ()) = some r ∧ True := hmm _ _ ⟨rfl, by simp only; omega, by simp only; omega⟩ (by simp only; omega)
          cases (w64 (Int.tdiv s.1 m) == w64 (Int.tdiv t.1 m))
          · simp only [cond_false]
            cases (Int.tmod s.1 m == Int.tmod t.1 m)
            · exact step
            · simp only [cond_true]
              cases over (ys.getD s.1.toNat 0) (xs.getD s.1.toNat 0) (ys.getD t.1.toNat 0) (xs.getD t.1.toNat 0)
              · exact step
              · exact ⟨_, rfl, rfl, trivial⟩
          · simp only [cond_true]
            cases over (ys.getD s.1.toNat 0) (xs.getD s.1.toNat 0) (ys.getD t.1.toNat 0) (xs.getD t.1.toNat 0)
            · exact step
            · exact ⟨_, rfl, rfl, trivial⟩
        · simp only [htl, decide_false, cond_false, w64_in (n := s.1 + 1) (by omega)]
          exact hn _ _ ⟨rfl, by simp only; omega, by simp only; omega⟩ (by simp only; omega)
      · simp only [hlt, decide_false, cond_false]
        exact ⟨_, rfl, rfl, trivial⟩

theorem FnExactIsOpenPlan_eq (xs : List Int) (m : Int) (ys : List Int) : laws_FnExactIsOpenPlan N xs m ys = some (true, ()) := by
  unfold laws_FnExactIsOpenPlan
  by_cases hx : (xs.length : Int) > 1048576
  · simp only [hx, decide_true, cond_true]
  · by_cases hy : (ys.length : Int) > 1048576
    · simp only [hx, hy, decide_true, decide_false, cond_true, cond_false]
    · obtain ⟨a, b, h1, h2⟩ := isOpenPlan_eq hN (xs := xs) (ys := ys) (m := m) (by omega) (by omega)
      simp only [hx, hy, decide_false, cond_false, toInt64S_eq hN (xs := xs) (by omega), toInt64S_eq hN (xs := ys) (by omega), Option.bind_some, h1, h2, eqInt64S_eq hN (xs := xs) (by omega), eqInt64S_eq hN (xs := ys) (by omega), BEq.rfl, Bool.not_true]
end

end Go.Proofs.Ytgbahgkfjghidaa
