/-
  NoWaitGaps and NoWaitLast: the plain laws. No condition.
-/
import Derived.Test.YtblmginpolckoaaFlow
namespace Go.Proofs.Ytblmginpolckoaa
open Go Go.Proofs.Ytblmginpolckoaa.Fw
set_option linter.unusedVariables false
set_option linter.unusedSimpArgs false

section
variable {N : Nat} (hN : 9223372036854775808 ≤ N)
include hN

/-- The gap of two jobs. -/
theorem gap_eq {xs : List Int} {q m i k : Int} (hq : q * m = xs.length) (hm : 1 ≤ m ∧ m ≤ 8) (hx : xs.length ≤ 1048576) (ha : xs.all (within 1 10000) = true) (hi : 0 ≤ i ∧ i < q) (hk : 0 ≤ k ∧ k < q) (hne : i ≠ k) :
    ∃ g, spec_l04Gap N xs m i k = some (g, ()) ∧ impl_shop_gap N (xs, (q, m)) i k = some (g, ()) := by
  unfold spec_l04Gap impl_shop_gap
  rw [show (i == k) = false by simpa using hne, cond_false]
  have fin : ∀ {A B : Option (Int × Unit)}, (∃ r, A = some r ∧ B = some r ∧ True) → ∃ g, A = some (g, ()) ∧ B = some (g, ()) := by
    rintro A B ⟨⟨g, u⟩, h1, h2, _⟩
    exact ⟨g, h1, h2⟩
  simp only
  refine fin (loop_rel (I := fun (s t : Int × Int × Int × Int × Unit) => s = t ∧ 0 ≤ s.2.2.2.1 ∧ s.2.2.2.1 ≤ m ∧ (s.2.2.2.1 = 0 → s.1 = 0 ∧ s.2.1 = 0 ∧ s.2.2.1 = 0)) (μ := fun s => (m - s.2.2.2.1).toNat) (Q := fun (_ : Int × Unit) => True) ?_ N N _ _
    ⟨rfl, Int.le_refl _, by simp only; omega, fun _ => ⟨rfl, rfl, rfl⟩⟩ (by simp only; omega) (by simp only; omega))
  rintro ⟨most, up, before, j, u⟩ _ nA nB ⟨rfl, h1, h2, h3⟩ hn
  simp only at h1 h2 h3 ⊢
  by_cases hj : j < m
  · obtain ⟨a1, a2, a3, a4, a5⟩ := at_eq hN hq hm hx hi ⟨h1, hj⟩
    obtain ⟨b1, b2, b3, b4, b5⟩ := at_eq hN hq hm hx hk ⟨h1, hj⟩
    have r1 := all_getD ha (n := (i * m + j).toNat) (by omega)
    simp only [hj, decide_true, cond_true, a4, a5, b4, b5, Option.bind_some, l00Max_eq, idx_getD (xs := xs) (n := i * m + j) ⟨a1, a2⟩, idx_getD (xs := xs) (n := k * m + j) ⟨b1, b2⟩, w64_in (n := j + 1) (by omega)]
    by_cases h0 : j = 0
    · obtain ⟨e1, e2, e3⟩ := h3 h0
      subst e1 e2 e3 h0
      rw [show ((0 : Int) == 0) = true from rfl, cond_true]
      have : imax 0 (w64 (w64 (0 + xs.getD (i * m + 0).toNat 0) - 0)) = w64 (w64 (0 + xs.getD (i * m + 0).toNat 0) - 0) := by
        rw [w64_in (n := 0 + xs.getD (i * m + 0).toNat 0) (by omega), w64_in (by omega)]
        unfold imax
        rw [if_pos (by omega)]
      rw [this]
      exact hn _ _ ⟨rfl, by simp only; omega, by simp only; omega, fun h => by simp only at h; omega⟩ (by simp only; omega)
    · rw [show (j == 0) = false by simpa using h0, cond_false]
      unfold imax
      by_cases hd : w64 (w64 (up + xs.getD (i * m + j).toNat 0) - before) > most
      · simp only [hd, decide_true, cond_true, if_true]
        exact hn _ _ ⟨rfl, by simp only; omega, by simp only; omega, fun h => by simp only at h; omega⟩ (by simp only; omega)
      · simp only [hd, decide_false, cond_false, if_false]
        exact hn _ _ ⟨rfl, by simp only; omega, by simp only; omega, fun h => by simp only at h; omega⟩ (by simp only; omega)
  · simp only [hj, decide_false, cond_false]
    exact ⟨_, rfl, rfl, trivial⟩


/-- The sum of a job's times. -/
theorem of_eq {xs : List Int} {q m v : Int} (hq : q * m = xs.length) (hm : 1 ≤ m ∧ m ≤ 8) (hx : xs.length ≤ 1048576) (hv : 0 ≤ v ∧ v < q) : ∃ r, spec_l04Job N xs m v = some (r, ()) ∧ impl_shop_of N (xs, (q, m)) v = some (r, ()) := by
  have hle : (v + 1) * m ≤ q * m := Int.mul_le_mul_of_nonneg_right (by omega) (by omega)
  have he : (v + 1) * m = v * m + m := by rw [Int.add_mul, Int.one_mul]
  have hp : 0 ≤ v * m := Int.mul_nonneg hv.1 (by omega)
  have hvq : v < 1048577 := by
    have : v * 1 ≤ v * m := Int.mul_le_mul_of_nonneg_left hm.1 hv.1
    omega
  unfold spec_l04Job impl_shop_of
  simp only [w64_in (n := v + 1) (by omega), w64_in (n := v * m) (by omega), w64_in (n := (v + 1) * m) (by omega)]
  rw [decide_eq_true hp, decide_eq_true (show v * m ≤ (v + 1) * m by omega), decide_eq_true (show (v + 1) * m ≤ (xs.length : Int) by omega)]
  simp only [Bool.and_self, cond_true]
  have hl : (List.drop (Int.toNat (v * m)) (List.take (Int.toNat ((v + 1) * m)) xs)).length ≤ 4294967296 := by
    rw [List.length_drop, List.length_take]
    omega
  rw [l02Sum_eq hN hl, sumOf_eq hN hl]
  exact ⟨_, rfl, rfl⟩

theorem nowait_eq {xs ys : List Int} {m : Int} (hx : xs.length ≤ 1048576) (hy : ys.length ≤ 1048576) : ∃ v b, spec_NoWaitLast N xs m ys = some (v, b, ()) ∧ impl_NoWaitLast N xs m ys = some (v, b, ()) ∧ True := by
  obtain ⟨j, hj, hjq⟩ := ordered_eq hN (m := m) hx hy
  unfold spec_NoWaitLast impl_NoWaitLast
  rw [l04Flow_eq hN hx hy, hj]
  simp only [Option.bind_some]
  cases hb : shopOk xs m && ordB (quot xs m) ys
  · exact ⟨0, false, rfl, rfl, trivial⟩
  · simp only [Bool.and_eq_true] at hb
    obtain ⟨f1, f2, f3, f4, f5, f6, f7, f8, f9⟩ := shop_facts hx hb.1
    obtain ⟨o1, o2⟩ := ord_facts hb.2
    have hnd : ys.Nodup := by
      have := hb.2
      simp only [ordB, Bool.and_eq_true] at this
      exact (ordG_nodup this.2).1
    have hjq := hjq hb.1
    subst hjq
    generalize quot xs m = q at f3 f4 f5 o1 o2
    have hlast := o2 _ (getD_mem (xs := ys) (n := (Int.toNat ((ys.length : Int) - 1))) (by omega))
    obtain ⟨r, r1, r2⟩ := of_eq hN f5 ⟨f1, f2⟩ hx hlast
    simp only [Bool.not_true, cond_false, w64_in (n := (ys.length : Int) - 1) (by omega), idx_getD (xs := ys) (n := (ys.length : Int) - 1) (by omega), Option.bind_some, r1, r2]
    rw [show decide ((0 : Nat) ≤ 1) = true from rfl, decide_eq_true (show (1 : Int) ≤ (ys.length : Int) by omega), Bool.and_self, cond_true]
    refine fin2 (P := fun (_ : Int) (_ : Bool) => True) (loop_rel (I := fun (s t : Int × Int × Unit) => s.1 = t.1 ∧ s.2.1 = t.2.1 + 1 ∧ 0 ≤ t.2.1 ∧ s.2.1 ≤ ys.length) (μ := fun s => (ys.length - s.2.1).toNat) (Q := fun (_ : Int × Bool × Unit) => True) ?_ N N _ _
      ⟨rfl, rfl, Int.le_refl _, by simp only; omega⟩ (by simp only; omega) (by simp only; omega))
    rintro ⟨a, i, u⟩ ⟨a', k, u'⟩ nA nB ⟨e1, e2, h1, h2⟩ hn
    simp only at e1 e2 h1 h2 ⊢
    subst e1 e2
    rw [List.length_drop]
    by_cases hk : k + 1 < (ys.length : Int)
    · have hd : idx (List.drop (Int.toNat 1) ys) k = some (ys.getD (k + 1).toNat 0) := by
        rw [idx_getD (xs := List.drop (Int.toNat 1) ys) (n := k) (by rw [List.length_drop]; omega)]
        simp only [List.getD_eq_getElem?_getD, List.getElem?_drop]
        rw [show Int.toNat 1 + k.toNat = (k + 1).toNat by omega]
      have v1 := o2 _ (getD_mem (xs := ys) (n := k.toNat) (by omega))
      have v2 := o2 _ (getD_mem (xs := ys) (n := (k + 1).toNat) (by omega))
      have hne : ys.getD k.toNat 0 ≠ ys.getD (k + 1).toNat 0 := fun he => by
        have l1 : k.toNat < ys.length := by omega
        have l2 : (k + 1).toNat < ys.length := by omega
        rw [List.getD_eq_getElem?_getD, List.getD_eq_getElem?_getD, List.getElem?_eq_getElem l1, List.getElem?_eq_getElem l2] at he
        exact (List.pairwise_iff_getElem.1 hnd) _ _ l1 l2 (by omega) he
      obtain ⟨g, g1, g2⟩ := gap_eq hN f5 ⟨f1, f2⟩ hx f6 v1 v2 hne
      rw [decide_eq_true hk, decide_eq_true (show k < ((ys.length - Int.toNat 1 : Nat) : Int) by omega)]
      simp only [cond_true, show k + 1 - 1 = k by omega, w64_in (n := k) (by omega), idx_getD (xs := ys) (n := k) (by omega), idx_getD (xs := ys) (n := k + 1) (by omega), hd, Option.bind_some, g1, g2, w64_in (n := k + 1 + 1) (by omega), w64_in (n := k + 1) (by omega)]
      exact hn _ _ ⟨rfl, rfl, by simp only; omega, by simp only; omega⟩ (by simp only; omega)
    · rw [decide_eq_false hk, decide_eq_false (show ¬ k < ((ys.length - Int.toNat 1 : Nat) : Int) by omega)]
      exact ⟨_, rfl, rfl, trivial⟩

theorem FnExactNoWaitLast_eq (xs : List Int) (m : Int) (ys : List Int) : laws_FnExactNoWaitLast N xs m ys = some (true, ()) := by
  unfold laws_FnExactNoWaitLast
  by_cases hx : (xs.length : Int) > 1048576
  · simp only [hx, decide_true, cond_true]
  · by_cases hy : (ys.length : Int) > 1048576
    · simp only [hx, hy, decide_true, decide_false, cond_true, cond_false]
    · obtain ⟨a, b, h1, h2, _⟩ := nowait_eq hN (xs := xs) (ys := ys) (m := m) (by omega) (by omega)
      simp only [hx, hy, decide_false, cond_false, toInt64S_eq hN (xs := xs) (by omega), toInt64S_eq hN (xs := ys) (by omega), Option.bind_some, h1, h2, eqInt64S_eq hN (xs := xs) (by omega), eqInt64S_eq hN (xs := ys) (by omega), BEq.rfl, Bool.not_true, bne_self_eq_false]
end

end Go.Proofs.Ytblmginpolckoaa
