/-
  FlowBound: the plain law . No condition.
-/
import Derived.Test.YtgbahgkfjghidaaIsOpenPlan
namespace Go.Proofs.Ytgbahgkfjghidaa
open Go Go.Proofs.Ytgbahgkfjghidaa.Fw
set_option linter.unusedVariables false
set_option linter.unusedSimpArgs false

def sum64 (l : List Int) : Int := l.foldl (fun a v => w64 (a + v)) 0

/-- The sum of one machine's times in the first jobs. -/
def onSum (xs : List Int) (M m : Int) : Nat → Int
  | 0 => 0
  | k + 1 => w64 (onSum xs M m k + xs.getD ((k : Int) * M + m).toNat 0)

theorem before_eq {xs : List Int} {i M m : Int} (hi : 0 ≤ i * M) (h0 : 0 ≤ m) (hm : m ≤ M) (he : (i + 1) * M = i * M + M) :
    (((xs.take ((i + 1) * M).toNat).drop (i * M).toNat).take m.toNat) = (xs.take (i * M + m).toNat).drop (i * M).toNat := by
  rw [List.drop_take, List.drop_take, List.take_take, he]
  congr 1
  omega

theorem after_eq {xs : List Int} {i M m : Int} (hi : 0 ≤ i * M) (h0 : 0 ≤ m) (hm : m < M) (he : (i + 1) * M = i * M + M) :
    (((xs.take ((i + 1) * M).toNat).drop (i * M).toNat).drop (m + 1).toNat) = (xs.take ((i + 1) * M).toNat).drop (i * M + m + 1).toNat := by
  rw [List.drop_drop]
  congr 1
  omega

section
variable {N : Nat} (hN : 9223372036854775808 ≤ N)
include hN

theorem on_eq {xs : List Int} {q M m : Int} (hM : 1 ≤ M) (hM8 : M ≤ 8) (hm : 0 ≤ m) (hmM : m < M) (hq : 0 ≤ q) (hql : q * M = xs.length) (hx : xs.length ≤ 1048576) :
    impl_shop_on N (xs, (q, M)) m = some (onSum xs M m q.toNat, ()) := by
  have hq' : q ≤ 1048576 := by
    have := Int.mul_le_mul_of_nonneg_left hM hq
    omega
  unfold impl_shop_on impl_shop_at
  refine loop_eq (inv := fun s : Int × Int × Unit => 0 ≤ s.2.1 ∧ s.2.1 ≤ q ∧ s.1 = onSum xs M m s.2.1.toNat) (μ := fun s => (q - s.2.1).toNat) (R := fun _ => some (onSum xs M m q.toNat, ())) ?_ N _ ⟨Int.le_refl _, hq, rfl⟩ (by simp only; omega)
  rintro s next ⟨h0, h1, h2⟩ hn
  by_cases hlt : s.2.1 < q
  · have hle : (s.2.1 + 1) * M ≤ q * M := Int.mul_le_mul_of_nonneg_right (by omega) (by omega)
    have he : (s.2.1 + 1) * M = s.2.1 * M + M := by rw [Int.add_mul, Int.one_mul]
    have hp : 0 ≤ s.2.1 * M := Int.mul_nonneg h0 (by omega)
    simp only [hlt, decide_true, cond_true, w64_in (n := s.2.1 * M) (by omega), w64_in (n := s.2.1 * M + m) (by omega), w64_in (n := s.2.1 + 1) (by omega)]
    rw [idx_getD (by omega) (by omega)]
    simp only [Option.bind_some]
    refine hn _ ⟨by simp only; omega, by simp only; omega, ?_⟩ (by simp only; omega)
    simp only
    rw [show (s.2.1 + 1).toNat = s.2.1.toNat + 1 by omega, onSum, h2, show ((s.2.1.toNat : Nat) : Int) = s.2.1 by omega]
  · simp only [hlt, decide_false, cond_false]
    rw [h2, show s.2.1 = q by omega]
theorem flowBound_eq {xs : List Int} {m : Int} (hx : xs.length ≤ 1048576) : ∃ a b, spec_FlowBound N xs m = some (a, b, ()) ∧ impl_FlowBound N xs m = some (a, b, ()) := by
  unfold spec_FlowBound impl_FlowBound spec_l04Count
  obtain ⟨j, hj, hjq⟩ := asShop_eq hN (m := m) hx
  rw [l04Can_eq hN hx, hj]
  simp only [Option.bind_some]
  cases hs : shopOk xs m
  · exact ⟨0, false, rfl, rfl⟩
  · have hj' := hjq hs
    subst hj'
    simp only [shopOk, within, Bool.and_eq_true, decide_eq_true_eq, beq_iff_eq] at hs
    obtain ⟨⟨m1, m8⟩, hmod, _, q1, q24⟩ := hs
    have hm0 : (m == 0) = false := by simp only [beq_eq_false_iff_ne]; omega
    have hq : quot xs m = Int.tdiv xs.length m := by
      unfold quot
      refine w64_in ?_
      have h1 : 0 ≤ Int.tdiv (xs.length : Int) m := Int.tdiv_nonneg (by omega) (by omega)
      have h2 : Int.tdiv (xs.length : Int) m ≤ xs.length := Int.tdiv_le_self _ (by omega)
      omega
    have hql : quot xs m * m = xs.length := by
      have e := Int.mul_tdiv_add_tmod (xs.length : Int) m
      rw [hmod, ← hq, Int.mul_comm] at e
      omega
    have hw : w64 (Int.tdiv (xs.length : Int) m) = quot xs m := rfl
    simp only [Bool.not_true, cond_false, hm0, hw, Option.bind_some]
    generalize quot xs m = q at q1 q24 hql ⊢
    have fin : ∀ {A B : Option (Int × Bool × Unit)}, (∃ r, A = some r ∧ B = some r ∧ True) → ∃ a b, A = some (a, b, ()) ∧ B = some (a, b, ()) := by
      rintro A B ⟨⟨a, b, u⟩, h1, h2, _⟩
      exact ⟨a, b, h1, h2⟩
    apply fin
    refine loop_rel (I := fun (s t : Int × Int × Unit) => s = t ∧ 0 ≤ s.2.1 ∧ s.2.1 ≤ m) (μ := fun s => (m - s.2.1).toNat) (Q := fun _ => True) ?_ N N _ _ ⟨rfl, Int.le_refl _, by simp only; omega⟩ (by simp only; omega) (by simp only; omega)
    rintro ⟨mo, k, u⟩ _ nA nB ⟨rfl, h0, h1⟩ hn
    simp only at h0 h1 ⊢
    by_cases hk : k < m
    · simp only [hk, decide_true, cond_true]
      refine loop_rel (I := fun (s : Int × Int × Int × Int × Unit) (t : Int × Int × Int × Unit) => s.2 = t ∧ 0 ≤ s.2.2.2.1 ∧ s.2.2.2.1 ≤ q ∧ s.1 = onSum xs m k s.2.2.2.1.toNat) (μ := fun s => (q - s.2.2.2.1).toNat) (Q := fun _ => True) ?_ N N _ _
        ⟨rfl, Int.le_refl _, by simp only; omega, rfl⟩ (by simp only; omega) (by simp only; omega)
      rintro ⟨on, t⟩ _ mA mB ⟨rfl, t0, t1, t2⟩ hmm
      obtain ⟨b, a, i, u'⟩ := t
      simp only at t0 t1 t2 ⊢
      by_cases hi : i < q
      · have hle : (i + 1) * m ≤ q * m := Int.mul_le_mul_of_nonneg_right (by omega) (by omega)
        have he : (i + 1) * m = i * m + m := by rw [Int.add_mul, Int.one_mul]
        have hp : 0 ≤ i * m := Int.mul_nonneg t0 (by omega)
        have hlen : ((List.drop (i * m).toNat (List.take ((i + 1) * m).toNat xs)).length : Int) = m := by
          rw [List.length_drop, List.length_take]
          omega
        simp only [hi, decide_true, cond_true, w64_in (n := i * m) (by omega), w64_in (n := i * m + k) (by omega), w64_in (n := i * m + k + 1) (by omega), w64_in (n := i + 1) (by omega), w64_in (n := (i + 1) * m) (by omega), w64_in (n := k + 1) (by omega), hlen]
        rw [idx_getD (xs := xs) (n := i * m + k) (by omega) (by omega), show (decide (0 ≤ i * m) && decide (i * m ≤ i * m + k) && decide (i * m + k ≤ (xs.length : Int))) = true by simp; omega,
          show (decide (0 ≤ i * m + k + 1) && decide (i * m + k + 1 ≤ (i + 1) * m) && decide ((i + 1) * m ≤ (xs.length : Int))) = true by simp; omega,
          show (decide (0 ≤ i * m) && decide (i * m ≤ (i + 1) * m) && decide ((i + 1) * m ≤ (xs.length : Int))) = true by simp; omega,
          show (decide (0 ≤ k) && decide (k ≤ m)) = true by simp; omega, show (decide (0 ≤ k + 1) && decide (k + 1 ≤ m)) = true by simp; omega,
          before_eq hp h0 h1 he, after_eq hp h0 hk he,
          l02Sum_eq hN (xs := List.drop (i * m).toNat (List.take (i * m + k).toNat xs)) (by simp only [List.length_drop, List.length_take]; omega),
          l02Sum_eq hN (xs := List.drop (i * m + k + 1).toNat (List.take ((i + 1) * m).toNat xs)) (by simp only [List.length_drop, List.length_take]; omega),
          sumOf_eq hN (xs := List.drop (i * m).toNat (List.take (i * m + k).toNat xs)) (by simp only [List.length_drop, List.length_take]; omega),
          sumOf_eq hN (xs := List.drop (i * m + k + 1).toNat (List.take ((i + 1) * m).toNat xs)) (by simp only [List.length_drop, List.length_take]; omega)]
        simp only [cond_true, Option.bind_some]
        generalize List.foldl (fun a v => w64 (a + v)) 0 (List.drop (i * m).toNat (List.take (i * m + k).toNat xs)) = r6
        generalize List.foldl (fun a v => w64 (a + v)) 0 (List.drop (i * m + k + 1).toNat (List.take ((i + 1) * m).toNat xs)) = r7
        have step : ∀ b a, ∃ r, mA (w64 (on + xs.getD (i * m + k).toNat 0), b, a, i + 1, ()) = some r ∧ mB (b, a, i + 1, ()) = some r ∧ True := fun b a =>
          hmm _ _ ⟨rfl, by simp only; omega, by simp only; omega, by
            simp only
            rw [show (i + 1).toNat = i.toNat + 1 by omega, onSum, t2, show ((i.toNat : Nat) : Int) = i by omega]⟩ (by simp only; omega)
        cases decide (b < 0) <;> cases decide (r6 < b) <;> cases decide (a < 0) <;> cases decide (r7 < a) <;> exact step _ _
      · simp only [hi, decide_false, cond_false]
        rw [on_eq hN m1 m8 h0 hk (by omega) hql hx, t2, show i = q by omega]
        simp only [Option.bind_some, l00Max_eq, w64_in (n := k + 1) (by omega)]
        rw [Int.add_comm b]
        exact hn _ _ ⟨rfl, by simp only; omega, by simp only; omega⟩ (by simp only; omega)
    · simp only [hk, decide_false, cond_false]
      exact ⟨_, rfl, rfl, trivial⟩

theorem FnExactFlowBound_eq (xs : List Int) (m : Int) : laws_FnExactFlowBound N xs m = some (true, ()) := by
  unfold laws_FnExactFlowBound
  by_cases hx : (xs.length : Int) > 1048576
  · simp only [hx, decide_true, cond_true]
  · obtain ⟨a, b, h1, h2⟩ := flowBound_eq hN (xs := xs) (m := m) (by omega)
    simp only [hx, decide_false, cond_false, toInt64S_eq hN (xs := xs) (by omega), Option.bind_some, h1, h2, eqInt64S_eq hN (xs := xs) (by omega), BEq.rfl, Bool.not_true, bne_self_eq_false]
end

end Go.Proofs.Ytgbahgkfjghidaa
