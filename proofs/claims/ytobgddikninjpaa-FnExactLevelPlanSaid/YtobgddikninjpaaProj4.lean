/-
  Projects: the law LongestWay. No condition.
-/
import Derived.Test.YtobgddikninjpaaProj3
namespace Go.Proofs.Ytobgddikninjpaa
open Go Go.Proofs.Ytobgddikninjpaa.Fw
set_option linter.unusedVariables false
set_option linter.unusedSimpArgs false

theorem least_ex {p : Nat → Prop} : ∀ k, p k → ∃ q, q ≤ k ∧ p q ∧ ∀ j, j < q → ¬ p j := by
  intro k
  induction k using Nat.strongRecOn with
  | _ k ih =>
    intro hk
    by_cases h : ∃ j, j < k ∧ p j
    · obtain ⟨j, h1, h2⟩ := h
      obtain ⟨q, h3, h4, h5⟩ := ih j h1 h2
      exact ⟨q, by omega, h4, h5⟩
    · exact ⟨k, Nat.le_refl _, hk, fun j hj hp => h ⟨j, hj, hp⟩⟩

section
variable {N : Nat} (hN : 9223372036854775808 ≤ N)
include hN

theorem reverse_eq {xs : List Int} (hx : xs.length ≤ 4294967296) : slices_Reverse_int64_int64 N xs = some (xs.reverse, ()) := by
  unfold slices_Reverse_int64_int64
  rw [w64_in (n := (xs.length : Int) - 1) (by omega)]
  refine loop_eq (inv := fun s : List Int × Int × Int × Unit => 0 ≤ s.2.1 ∧ s.2.2.1 = xs.length - 1 - s.2.1 ∧ s.2.1 ≤ s.2.2.1 + 1 ∧ s.1.length = xs.length ∧ ∀ k : Nat, k < xs.length → s.1.getD k 0 = if (k : Int) < s.2.1 ∨ s.2.2.1 < (k : Int) then xs.getD (xs.length - 1 - k) 0 else xs.getD k 0)
    (μ := fun s => (s.2.2.1 - s.2.1 + 1).toNat) (R := fun _ => some (xs.reverse, ())) ?_ N _ ⟨Int.le_refl _, by simp, by simp only; omega, rfl, fun k hk => by rw [if_neg (by simp only; omega)]⟩ (by simp only; omega)
  rintro ⟨ys, i, j, u⟩ next ⟨h0, h1, h2, h3, h4⟩ hn
  simp only at h0 h1 h2 h3 h4 ⊢
  by_cases hij : i < j
  · have hi : i.toNat < ys.length := by omega
    have hj : j.toNat < ys.length := by omega
    have gi := h4 i.toNat (by omega)
    have gj := h4 j.toNat (by omega)
    rw [if_neg (by omega)] at gi gj
    simp only [hij, decide_true, cond_true, inB_of (n := j) (len := ys.length) (by omega), inB_of (n := i) (len := ys.length) (by omega), get_getD 0 hi, get_getD 0 hj, Option.bind_some, List.length_set, gi, gj, w64_in (n := i + 1) (by omega), w64_in (n := j - 1) (by omega)]
    refine hn _ ⟨by simp only; omega, by simp only; omega, by simp only; omega, by simp only [List.length_set]; exact h3, fun k hk => ?_⟩ (by simp only; omega)
    simp only
    rw [getD_set (by rw [List.length_set]; exact hj), getD_set hi]
    by_cases hkj : j.toNat = k
    · subst hkj
      rw [if_pos rfl, if_pos (by omega)]
      congr 1
      omega
    · rw [if_neg hkj]
      by_cases hki : i.toNat = k
      · subst hki
        rw [if_pos rfl, if_pos (by omega)]
        congr 1
        omega
      · rw [if_neg hki, h4 k hk]
        by_cases hc : (k : Int) < i ∨ j < (k : Int)
        · rw [if_pos hc, if_pos (by omega)]
        · rw [if_neg hc, if_neg (by omega)]
  · simp only [hij, decide_false, cond_false]
    have : ys = xs.reverse := List.ext_getElem (by simp [h3]) fun k k1 k2 => by
      have hk : k < xs.length := by omega
      have g := h4 k hk
      rw [List.getElem_reverse]
      rw [List.getD_eq_getElem?_getD, List.getElem?_eq_getElem k1, Option.getD_some] at g
      rw [g]
      by_cases hc : (k : Int) < i ∨ j < (k : Int)
      · rw [if_pos hc, List.getD_eq_getElem?_getD, List.getElem?_eq_getElem (by omega), Option.getD_some]
      · rw [if_neg hc, List.getD_eq_getElem?_getD, List.getElem?_eq_getElem hk, Option.getD_some]
        congr 1
        omega
    rw [this]

theorem counting_eq {n : Nat} (hn : n ≤ 1048576) : ∃ c, impl_counting N (n : Int) = some (c, ()) ∧ c.length = n ∧ ∀ k, k < n → c.getD k 0 = (k : Int) := by
  unfold impl_counting
  refine loop_inv (Q := fun o : Option (List Int × Unit) => ∃ c, o = some (c, ()) ∧ c.length = n ∧ ∀ k, k < n → c.getD k 0 = (k : Int)) (inv := fun s : List Int × Int × Unit => 0 ≤ s.2.1 ∧ s.2.1 ≤ n ∧ (s.1.length : Int) = s.2.1 ∧ ∀ k : Nat, (k : Int) < s.2.1 → s.1.getD k 0 = (k : Int))
    (μ := fun s => (n - s.2.1).toNat) ?_ N _ ⟨Int.le_refl _, by simp only; omega, rfl, fun k hk => by simp only at hk; omega⟩ (by simp only; omega)
  rintro ⟨c, i, u⟩ next ⟨h1, h2, h3, h4⟩ hk
  simp only at h1 h2 h3 h4 ⊢
  by_cases hi : i < (n : Int)
  · simp only [hi, decide_true, cond_true, appOk_of (n := c.length) (m := ([i] : List Int).length) (by simp; omega), w64_in (n := i + 1) (by omega)]
    refine hk _ ⟨by simp only; omega, by simp only; omega, by simp; omega, fun k hk' => ?_⟩ (by simp only; omega)
    simp only at hk' ⊢
    rw [List.getD_eq_getElem?_getD, List.getElem?_append]
    by_cases hkc : k < c.length
    · rw [if_pos hkc, ← List.getD_eq_getElem?_getD]
      exact h4 k (by omega)
    · rw [if_neg hkc, show k - c.length = 0 by omega]
      simp
      omega
  · simp only [hi, decide_false, cond_false]
    exact ⟨c, rfl, by omega, fun k hk => h4 k (by omega)⟩

theorem LongestWay_law {xs : List Tk} (h : Small 1048576 xs) : ∃ l b, spec_LongestWay N xs = some (l, b, ()) ∧ impl_LongestWay N xs = some (l, b, ()) ∧ l.length ≤ 1048576 := by
  unfold spec_LongestWay impl_LongestWay impl_EarlyStarts
  simp only [l03Are_eq hN h, AreTasks_eq hN h, Option.bind_some]
  cases ht : tasksOk xs
  · exact ⟨[], false, rfl, rfl, by simp⟩
  obtain ⟨es, e1, e2, e3, e4⟩ := early_eq hN h ht
  obtain ⟨f1, f2, f3⟩ := task_facts ht
  have hl := h.1
  simp only [Bool.not_true, cond_false, e1, e2, Option.bind_some, l03End_eq hN (xs := xs) (by omega) e3, lastEnd_eq hN (xs := xs) (by omega) e3]
  obtain ⟨c, c1, c2, c3⟩ := counting_eq hN (n := xs.length) (by omega)
  rw [c1]
  simp only [Option.bind_some]
  -- the first task that ends last
  have hex : ∃ k, k < xs.length ∧ w64 (es.getD k 0 + (xs.getD k NL).1) = endW xs es := by
    have hE := end_nonneg (xs := xs) (st := es)
    have h0 : w64 (es.getD 0 0 + (xs.getD 0 NL).1) ≤ endW xs es := end_ge (by omega)
    rcases foldmax_at (fun k => w64 (es.getD k 0 + (xs.getD k NL).1)) (List.range xs.length) 0 with g | ⟨k, hk, g⟩
    · refine ⟨0, by omega, ?_⟩
      have g : endW xs es = 0 := g
      have := e4 0
      have := f3 0 (by omega)
      rw [g] at h0 ⊢
      rw [w64_in (by omega)] at h0 ⊢
      omega
    · exact ⟨k, List.mem_range.1 hk, g⟩
  obtain ⟨k, hk, hp⟩ := hex
  obtain ⟨q, q1, q2, q3⟩ := least_ex (p := fun k => w64 (es.getD k 0 + (xs.getD k NL).1) = endW xs es) k hp
  have hq : q < xs.length := by omega
  have hI : slices_IndexFunc_int64_int64_impl_LongestWay_1 N c (es, (xs, endW xs es)) = some ((q : Int), ()) := by
    unfold slices_IndexFunc_int64_int64_impl_LongestWay_1
    refine loop_eq (inv := fun s : Int × Unit => 0 ≤ s.1 ∧ s.1 ≤ q) (μ := fun s => ((q : Int) - s.1).toNat) (R := fun _ => some ((q : Int), ())) ?_ N _ ⟨Int.le_refl _, by simp only; omega⟩ (by simp only; omega)
    rintro ⟨i, u⟩ next ⟨h1, h2⟩ hn
    simp only at h1 h2 ⊢
    obtain ⟨j, rfl⟩ : ∃ j : Nat, i = (j : Int) := ⟨i.toNat, by omega⟩
    have hj : j < xs.length := by omega
    simp only [decide_eq_true (show (j : Int) < (c.length : Int) by omega), cond_true, idx_int (show j < c.length by omega), c3 j hj, Option.bind_some, impl_LongestWay_1_c0, idx_int (show j < es.length by omega), idx_at hj, w64_in (n := (j : Int) + 1) (by omega)]
    by_cases hjq : j = q
    · subst hjq
      rw [show (w64 (es.getD j 0 + (xs.getD j NL).1) == endW xs es) = true by simpa using q2, cond_true]
    · rw [show (w64 (es.getD j 0 + (xs.getD j NL).1) == endW xs es) = false by simpa using q3 j (by omega), cond_false]
      exact hn _ ⟨by simp only; omega, by simp only; omega⟩ (by simp only; omega)
  rw [hI]
  simp only [Option.bind_some]
  refine fin_lb (Q := fun l => l.length ≤ 1048576) ?_
  rw [loop_eq (inv := fun s : Int × Unit => 0 ≤ s.1 ∧ s.1 ≤ q) (μ := fun s => ((q : Int) - s.1).toNat) (ρ := List Int × Bool × Unit) (R := fun _ => loopN (fun (s8 : Int × List (Int) × Unit) next9 =>
            cond (inB s8.1 (List.length es))
              (Option.bind (es[(Int.toNat s8.1)]?) fun v10 =>
              cond (decide (v10 > 0))
                (Option.bind (idx xs s8.1) fun v11 =>
                loopN (fun (s12 : Int × Int × Unit) next13 =>
                  cond (decide (s12.2.1 < (List.length v11.2.2.1 : Int)))
                    (Option.bind (idx xs s8.1) fun v14 =>
                    Option.bind (idx v14.2.2.1 s12.2.1) fun v15 =>
                    cond (decide (s12.1 < 0))
                      (cond (inB v15 (List.length es))
                        (Option.bind (es[(Int.toNat v15)]?) fun v16 =>
                        Option.bind (idx xs v15) fun v17 =>
                        Option.bind (idx xs s8.1) fun v18 =>
                        Option.bind (idx v18.2.2.2 s12.2.1) fun v19 =>
                        cond (inB s8.1 (List.length es))
                          (Option.bind (es[(Int.toNat s8.1)]?) fun v20 =>
                          cond ((w64 ((w64 (v16 + v17.1)) + v19)) == v20)
                            (next13 (v15, (w64 (s12.2.1 + 1)), ()))
                            (next13 (s12.1, (w64 (s12.2.1 + 1)), ()))) none) none)
                      (next13 (s12.1, (w64 (s12.2.1 + 1)), ())))
                    (cond (decide (s12.1 < 0))
                      (some (s8.2.1, true, ()))
                      (cond (appOk (List.length ([s12.1] : List Int)) (List.length s8.2.1))
                        (let xs21 := (([s12.1] : List Int) ++ s8.2.1)
                        next9 (s12.1, xs21, ())) none))) N ((-1), 0, ()))
                (some (s8.2.1, true, ()))) none) N ((q : Int), ([(q : Int)] : List Int), ())) ?_ N _ ⟨Int.le_refl _, by simp only; omega⟩ (by simp only; omega)]
  · refine loop_rel (I := fun s t : Int × List Int × Unit => s.1 = t.1 ∧ t.2.1 = s.2.1.reverse ∧ 0 ≤ s.1 ∧ s.1 < xs.length ∧ (s.2.1.length : Int) + s.1 ≤ xs.length) (μ := fun s => s.1.toNat) (Q := fun r : List Int × Bool × Unit => r.1.length ≤ 1048576) ?_ N N _ _ ⟨rfl, rfl, by simp only; omega, by simp only; omega, by simp; omega⟩ (by simp only; omega) (by simp only; omega)
    rintro ⟨a, o, u⟩ ⟨a', o', u'⟩ nA nB ⟨g1, g2, g3, g4, g5⟩ hn
    simp only at g1 g2 g3 g4 g5 ⊢
    subst g1 g2
    obtain ⟨k, rfl⟩ : ∃ k : Nat, a = (k : Int) := ⟨a.toNat, by omega⟩
    have hk : k < xs.length := by omega
    have hks := h.get k
    obtain ⟨_, _, _, _, f5, f6, _⟩ := f3 k hk
    have hrev : ∀ l : List Int, l.length ≤ 1048576 → Option.bind (slices_Reverse_int64_int64 N l.reverse) (fun r16 => cond (Nat.beq (List.length r16.1) (List.length l.reverse)) (some (r16.1, true, ())) none) = some (l, true, ()) := fun l hl => by
      rw [reverse_eq hN (by rw [List.length_reverse]; omega)]
      simp
    simp only [inB_of (n := (k : Int)) (len := es.length) (by omega), cond_true, get_getD 0 (xs := es) (n := Int.toNat (k : Int)) (by omega), Option.bind_some, idx_at hk]
    by_cases hpos : es.getD (Int.toNat (k : Int)) 0 > 0
    · simp only [hpos, decide_true, cond_true]
      refine loop_rel (I := fun s t : Int × Int × Unit => s = t ∧ 0 ≤ s.2.1 ∧ s.2.1 ≤ (xs.getD k NL).2.2.1.length ∧ s.1 < k) (μ := fun s => ((xs.getD k NL).2.2.1.length - s.2.1).toNat) (Q := fun r : List Int × Bool × Unit => r.1.length ≤ 1048576) ?_ N N _ _
        ⟨rfl, Int.le_refl _, by simp only; omega, by simp only; omega⟩ (by simp only; omega) (by simp only; omega)
      rintro ⟨f, j, u⟩ _ mA mB ⟨rfl, p1, p2, p3⟩ hm
      simp only at p1 p2 p3 ⊢
      by_cases hj : j < ((xs.getD k NL).2.2.1.length : Int)
      · obtain ⟨z, rfl⟩ : ∃ z : Nat, j = (z : Int) := ⟨j.toNat, by omega⟩
        have hz : z < (xs.getD k NL).2.2.1.length := by omega
        have hb := f6 z hz
        simp only [hj, decide_true, cond_true, idx_int hz, Option.bind_some, w64_in (n := (z : Int) + 1) (by omega)]
        by_cases hf : f < 0
        · simp only [hf, decide_true, cond_true, inB_of (n := (xs.getD k NL).2.2.1.getD z 0) (len := es.length) (by omega), get_getD 0 (xs := es) (n := ((xs.getD k NL).2.2.1.getD z 0).toNat) (by omega), idx_get NL (xs := xs) (n := (xs.getD k NL).2.2.1.getD z 0) (by omega), idx_int (show z < (xs.getD k NL).2.2.2.length by omega), Option.bind_some]
          cases w64 (w64 (es.getD ((xs.getD k NL).2.2.1.getD z 0).toNat 0 + (xs.getD ((xs.getD k NL).2.2.1.getD z 0).toNat NL).1) + (xs.getD k NL).2.2.2.getD z 0) == es.getD (Int.toNat (k : Int)) 0
          · exact hm _ _ ⟨rfl, by simp only; omega, by simp only; omega, by simp only; omega⟩ (by simp only; omega)
          · exact hm _ _ ⟨rfl, by simp only; omega, by simp only; omega, by simp only; omega⟩ (by simp only; omega)
        · simp only [hf, decide_false, cond_false]
          exact hm _ _ ⟨rfl, by simp only; omega, by simp only; omega, by simp only; omega⟩ (by simp only; omega)
      · simp only [hj, decide_false, cond_false]
        by_cases hf : f < 0
        · simp only [hf, decide_true, cond_true]
          rw [hrev o (by omega)]
          exact ⟨_, rfl, rfl, by simp only; omega⟩
        · simp only [hf, decide_false, cond_false, appOk_of (n := ([f] : List Int).length) (m := o.length) (by simp; omega), appOk_of (n := o.reverse.length) (m := ([f] : List Int).length) (by simp; omega), cond_true]
          exact hn _ _ ⟨rfl, by simp, by simp only; omega, by simp only; omega, by simp; omega⟩ (by simp only; omega)
    · simp only [hpos, decide_false, cond_false]
      rw [hrev o (by omega)]
      exact ⟨_, rfl, rfl, by simp only; omega⟩
  · rintro ⟨i, u⟩ next ⟨h1, h2⟩ hn
    simp only at h1 h2 ⊢
    obtain ⟨j, rfl⟩ : ∃ j : Nat, i = (j : Int) := ⟨i.toNat, by omega⟩
    have hj : j < xs.length := by omega
    simp only [inB_of (n := (j : Int)) (len := es.length) (by omega), cond_true, Int.toNat_natCast, get_getD 0 (xs := es) (n := j) (by omega), Option.bind_some, idx_at hj, w64_in (n := (j : Int) + 1) (by omega)]
    by_cases hjq : j = q
    · subst hjq
      rw [show (w64 (es.getD j 0 + (xs.getD j NL).1) != endW xs es) = false by simpa using q2, cond_false]
    · rw [show (w64 (es.getD j 0 + (xs.getD j NL).1) != endW xs es) = true by simpa using q3 j (by omega), cond_true]
      exact hn _ ⟨by simp only; omega, by simp only; omega⟩ (by simp only; omega)

theorem FnExactLongestWay_eq (xs : List Tk) (hx : Small 9223372036854775807 xs) : laws_FnExactLongestWay N xs = some (true, ()) := by
  unfold laws_FnExactLongestWay
  rcases szTaskS_eq hN (k := 1048576) hx (by omega) with e | ⟨r, e, h1, h2, h3⟩
  · simp [e]
  obtain ⟨a0, a1, e1, e2, l_a0⟩ := LongestWay_law hN h3
  simp only [e, Option.bind_some, show decide (r < 0) = false from by simp; omega, cond_false, toTaskS_eq hN h3, e1, e2, eqTaskS_eq hN h3, bne_self_eq_false, BEq.rfl, Bool.not_true, markTS_eq h3, Nat.beq_refl, cond_true, decide_eq_false (show ¬ ((1 : Int) + tksLen xs < 0) by have := tksLen_nonneg xs; omega), eqInt64S_eq hN (xs := a0) (by omega), markInt64S_eq hN (xs := a0) (k := 1) (by omega) (by omega), heldInt64S_eq hN (xs := a0) (k := 1) (by omega) (by omega), decide_eq_false (show ¬ ((1 + a0.length : Int) < 0) by omega), counted_len]
end

end Go.Proofs.Ytobgddikninjpaa
