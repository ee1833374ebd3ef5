/-
  NoWaitGaps and NoWaitLast: the plain laws. No condition.
-/
import Derived.Test.YtakmpiljijhcbaaFlow
namespace Go.Proofs.Ytakmpiljijhcbaa
open Go Go.Proofs.Ytakmpiljijhcbaa.Fw
set_option linter.unusedVariables false
set_option linter.unusedSimpArgs false

section
variable {N : Nat} (hN : 9223372036854775808 ≤ N)
include hN

/-- The gap of two jobs. -/
theorem gap_eq {xs : List Int} {q m i k : Int} (hq : q * m = xs.length) (hm : 1 ≤ m ∧ m ≤ 8) (hx : xs.length ≤ 1048576) (ha : xs.all (within 1 10000) = true) (hi : 0 ≤ i ∧ i < q) (hk : 0 ≤ k ∧ k < q) (hne : i ≠ k) :
    ∃ g, spec_l04Gap N xs m i k = some (g, ()) ∧ impl_shop_gap N (xs, (q, m)) i k = some (g, ()) := by
  unfold spec_l04Gap impl_shop_gap
  rw [show (i == k) = false by simpa using hne, cond_false]
  have fin : ∀ {A B : Option (Int × Unit)}, (∃ r, A = some r ∧ B = some r ∧ True) → ∃ g, A = some (g, ()) ∧ B = some (g, ()) := by
    rintro A B ⟨⟨g, u⟩, h1, h2, _⟩
    exact ⟨g, h1, h2⟩
  simp only
  refine fin (loop_rel (I := fun (s t : Int × Int × Int × Int × Unit) => s = t ∧ 0 ≤ s.2.2.2.1 ∧ s.2.2.2.1 ≤ m ∧ (s.2.2.2.1 = 0 → s.1 = 0 ∧ s.2.1 = 0 ∧ s.2.2.1 = 0)) (μ := fun s => (m - s.2.2.2.1).toNat) (Q := fun (_ : Int × Unit) => True) ?_ N N _ _
    ⟨rfl, Int.le_refl _, by simp only; omega, fun _ => ⟨rfl, rfl, rfl⟩⟩ (by simp only; omega) (by simp only; omega))
  rintro ⟨most, up, before, j, u⟩ _ nA nB ⟨rfl, h1, h2, h3⟩ hn
  simp only at h1 h2 h3 ⊢
  by_cases hj : j < m
  · obtain ⟨a1, a2, a3, a4, a5⟩ := at_eq hN hq hm hx hi ⟨h1, hj⟩
    obtain ⟨b1, b2, b3, b4, b5⟩ := at_eq hN hq hm hx hk ⟨h1, hj⟩
    have r1 := all_getD ha (n := (i * m + j).toNat) (by omega)
    simp only [hj, decide_true, cond_true, a4, a5, b4, b5, Option.bind_some, l00Max_eq, idx_getD (xs := xs) (n := i * m + j) ⟨a1, a2⟩, idx_getD (xs := xs) (n := k * m + j) ⟨b1, b2⟩, w64_in (n := j + 1) (by omega)]
    by_cases h0 : j = 0
    · obtain ⟨e1, e2, e3⟩ := h3 h0
      subst e1 e2 e3 h0
      rw [show ((0 : Int) == 0) = true from rfl, cond_true]
      have : imax 0 (w64 (w64 (0 + xs.getD (i * m + 0).toNat 0) - 0)) = w64 (w64 (0 + xs.getD (i * m + 0).toNat 0) - 0) := by
        rw [w64_in (n := 0 + xs.getD (i * m + 0).toNat 0) (by omega), w64_in (by omega)]
        unfold imax
        rw [if_pos (by omega)]
      rw [this]
      exact hn _ _ ⟨rfl, by simp only; omega, by simp only; omega, fun h => by simp only at h; omega⟩ (by simp only; omega)
    · rw [show (j == 0) = false by simpa using h0, cond_false]
      unfold imax
      by_cases hd : w64 (w64 (up + xs.getD (i * m + j).toNat 0) - before) > most
      · simp only [hd, decide_true, cond_true, if_true]
        exact hn _ _ ⟨rfl, by simp only; omega, by simp only; omega, fun h => by simp only at h; omega⟩ (by simp only; omega)
      · simp only [hd, decide_false, cond_false, if_false]
        exact hn _ _ ⟨rfl, by simp only; omega, by simp only; omega, fun h => by simp only at h; omega⟩ (by simp only; omega)
  · simp only [hj, decide_false, cond_false]
    exact ⟨_, rfl, rfl, trivial⟩

theorem gaps_eq {xs : List Int} {m : Int} (hx : xs.length ≤ 1048576) : ∃ l b, spec_NoWaitGaps N xs m = some (l, b, ()) ∧ impl_NoWaitGaps N xs m = some (l, b, ()) ∧ l.length ≤ 1048576 := by
  obtain ⟨j, hj, hjq⟩ := asShop_eq hN (m := m) hx
  unfold spec_NoWaitGaps impl_NoWaitGaps
  rw [l04Can_eq hN hx, hj]
  simp only [Option.bind_some]
  cases hs : shopOk xs m
  · exact ⟨[], false, rfl, rfl, by simp⟩
  · obtain ⟨f1, f2, f3, f4, f5, f6, f7, f8, f9⟩ := shop_facts hx hs
    have hjq := hjq hs
    subst hjq
    rw [l04Count_eq hN hx hs]
    simp only [Bool.not_true, cond_false, Option.bind_some]
    generalize quot xs m = q at f3 f4 f5
    refine fin2 (P := fun (l : List Int) (_ : Bool) => l.length ≤ 1048576) (loop_rel (I := fun (s t : List Int × Int × Unit) => s = t ∧ 0 ≤ s.2.1 ∧ s.2.1 ≤ q ∧ (s.1.length : Int) ≤ s.2.1 * 24) (μ := fun s => (q - s.2.1).toNat) (Q := fun (r : List Int × Bool × Unit) => r.1.length ≤ 1048576) ?_ N N _ _
      ⟨rfl, Int.le_refl _, by simp only; omega, by simp⟩ (by simp only; omega) (by simp only; omega))
    rintro ⟨out, i, u⟩ _ nA nB ⟨rfl, h1, h2, h3⟩ hn
    simp only at h1 h2 h3 ⊢
    by_cases hi : i < q
    · simp only [hi, decide_true, cond_true]
      refine loop_rel (I := fun (s t : List Int × Int × Unit) => s = t ∧ 0 ≤ s.2.1 ∧ s.2.1 ≤ q ∧ (s.1.length : Int) ≤ i * 24 + s.2.1) (μ := fun s => (q - s.2.1).toNat) (Q := fun (r : List Int × Bool × Unit) => r.1.length ≤ 1048576) ?_ N N _ _
        ⟨rfl, Int.le_refl _, by simp only; omega, by simp only; omega⟩ (by simp only; omega) (by simp only; omega)
      rintro ⟨out, k, u⟩ _ mA mB ⟨rfl, g1, g2, g3⟩ hmm
      simp only at g1 g2 g3 ⊢
      by_cases hk : k < q
      · simp only [hk, decide_true, cond_true]
        by_cases hik : i = k
        · subst hik
          have hg : impl_shop_gap N (xs, (q, m)) i i = some (0, ()) := by
            unfold impl_shop_gap
            simp
          rw [show (i == i) = true by simp, cond_true, hg]
          simp only [Option.bind_some, appOk_of (n := out.length) (m := ([0] : List Int).length) (by simp; omega), cond_true, w64_in (n := i + 1) (by omega)]
          exact hmm _ _ ⟨rfl, by simp only; omega, by simp only; omega, by simp; omega⟩ (by simp only; omega)
        · obtain ⟨g, q1, q2⟩ := gap_eq hN f5 ⟨f1, f2⟩ hx f6 ⟨h1, hi⟩ ⟨g1, hk⟩ hik
          rw [show (i == k) = false by simpa using hik, cond_false, q1, q2]
          simp only [Option.bind_some, appOk_of (n := out.length) (m := ([g] : List Int).length) (by simp; omega), cond_true, w64_in (n := k + 1) (by omega)]
          exact hmm _ _ ⟨rfl, by simp only; omega, by simp only; omega, by simp; omega⟩ (by simp only; omega)
      · simp only [hk, decide_false, cond_false, w64_in (n := i + 1) (by omega)]
        exact hn _ _ ⟨rfl, by simp only; omega, by simp only; omega, by simp only; omega⟩ (by simp only; omega)
    · simp only [hi, decide_false, cond_false]
      exact ⟨_, rfl, rfl, by simp only; omega⟩

theorem FnExactNoWaitGaps_eq (xs : List Int) (m : Int) : laws_FnExactNoWaitGaps N xs m = some (true, ()) := by
  unfold laws_FnExactNoWaitGaps
  by_cases hx : (xs.length : Int) > 1048576
  · simp only [hx, decide_true, cond_true]
  · obtain ⟨a, b, h1, h2, h3⟩ := gaps_eq hN (xs := xs) (m := m) (by omega)
    simp only [hx, decide_false, cond_false, toInt64S_eq hN (xs := xs) (by omega), Option.bind_some, h1, h2, eqInt64S_eq hN (xs := xs) (by omega), eqInt64S_eq hN (xs := a) (by omega), BEq.rfl, Bool.not_true, bne_self_eq_false,
      markInt64S_eq hN (xs := xs) (k := 1) (by omega) (by omega), markInt64S_eq hN (xs := a) (k := 1) (by omega) (by omega), heldInt64S_eq hN (xs := a) (k := 1) (by omega) (by omega), counted_len, Nat.beq_refl, cond_true,
      show ¬ ((1 : Int) + xs.length < 0) by omega, show ¬ ((1 : Int) + a.length < 0) by omega]
end

end Go.Proofs.Ytakmpiljijhcbaa
