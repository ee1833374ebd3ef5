/-
  ShopBound: the plain law. No condition.
-/
import Derived.Test.YtblmginpolckoaaRoutes
import Derived.Test.YtblmginpolckoaaLoads
namespace Go.Proofs.Ytblmginpolckoaa
open Go Go.Proofs.Ytblmginpolckoaa.Fw
set_option linter.unusedVariables false
set_option linter.unusedSimpArgs false

/-- The sum of a job's times. -/
def jobSum (xs : List Int) (M i : Int) : Int := sumW (List.drop (i * M).toNat (List.take ((i + 1) * M).toNat xs))

/-- The machines' sums behind the first steps. -/
def sumsAt (rs xs : List Int) (m : Nat) : Nat → List Int
  | 0 => List.replicate m 0
  | t + 1 => (sumsAt rs xs m t).set (rs.getD t 0).toNat (w64 ((sumsAt rs xs m t).getD (rs.getD t 0).toNat 0 + xs.getD t 0))

theorem sumsAt_len (rs xs : List Int) (m : Nat) : ∀ t, (sumsAt rs xs m t).length = m
  | 0 => by simp [sumsAt]
  | t + 1 => by simp [sumsAt, sumsAt_len rs xs m t]

/-- The greatest sum of the jobs that are reached. -/
def mostF (xs : List Int) (m : Nat) : Nat → Int
  | 0 => 0
  | t + 1 => imax (mostF xs m t) (jobSum xs m ((t / m : Nat) : Int))

theorem w64_nat {n : Nat} (h : n ≤ 9223372036854775807) : w64 (n : Int) = n := w64_in (by omega)

theorem imax_self (a : Int) : imax a a = a := by
  unfold imax
  split <;> rfl

theorem mostF_job {xs : List Int} {m i : Nat} : ∀ {k : Nat}, k < m → mostF xs m (i * m + k + 1) = imax (mostF xs m (i * m)) (jobSum xs m (i : Int))
  | 0, h => by
    simp only [mostF, Nat.add_zero, Nat.mul_div_cancel _ h]
  | k + 1, h => by
    have hd : (i * m + k + 1) / m = i := by
      rw [Nat.add_assoc, Nat.mul_comm, Nat.mul_add_div (by omega), Nat.div_eq_of_lt (by omega), Nat.add_zero]
    show imax (mostF xs m (i * m + k + 1)) (jobSum xs m (((i * m + k + 1) / m : Nat) : Int)) = _
    rw [hd, mostF_job (k := k) (by omega), ← imax_assoc, imax_self]

section
variable {N : Nat} (hN : 9223372036854775808 ≤ N)
include hN

theorem jobs_eq {xs : List Int} {q m i : Int} (hq : q * m = xs.length) (hm : 1 ≤ m ∧ m ≤ 8) (hx : xs.length ≤ 1048576) (hi : 0 ≤ i ∧ i < q) :
    spec_l04Job N xs m i = some (jobSum xs m i, ()) ∧ impl_shop_of N (xs, (q, m)) i = some (jobSum xs m i, ()) := by
  have hle : (i + 1) * m ≤ q * m := Int.mul_le_mul_of_nonneg_right (by omega) (by omega)
  have he : (i + 1) * m = i * m + m := by rw [Int.add_mul, Int.one_mul]
  have hp : 0 ≤ i * m := Int.mul_nonneg hi.1 (by omega)
  have hq' : q ≤ 1048576 := by
    have := Int.mul_le_mul_of_nonneg_left hm.1 (show 0 ≤ q by omega)
    omega
  unfold spec_l04Job impl_shop_of
  simp only [w64_in (n := i * m) (by omega), w64_in (n := i + 1) (by omega), w64_in (n := (i + 1) * m) (by omega)]
  rw [show (decide (0 ≤ i * m) && decide (i * m ≤ (i + 1) * m) && decide ((i + 1) * m ≤ (xs.length : Int))) = true by simp; omega,
    l02Sum_eq hN (by simp only [List.length_drop, List.length_take]; omega), sumOf_eq hN (by simp only [List.length_drop, List.length_take]; omega)]
  exact ⟨rfl, rfl⟩

theorem greatest_both {l : List Int} (h : 1 ≤ l.length) (hl : l.length ≤ 4294967296) : ∃ g, spec_l02Greatest N l = some (g, ()) ∧ slices_Max_int64_int64 N l = some (g, ()) := by
  match l, h with
  | x :: l, _ => exact ⟨_, l02Greatest_eq hN hl, slicesMax_eq hN hl⟩

theorem shopBound_spec {rs xs : List Int} {m q : Nat} {g : Int} (hx : xs.length ≤ 1048576) (hl : rs.length = xs.length) (hs : shopOk xs m = true) (hqq : quot xs m = q) (hr : ∀ n : Nat, n < rs.length → 0 ≤ rs.getD n 0 ∧ rs.getD n 0 < m)
    (hg : spec_l02Greatest N (sumsAt rs xs m xs.length) = some (g, ())) : spec_l04Bound N xs rs m = some (imax (mostF xs m xs.length) g, ()) := by
  obtain ⟨f1, f2, f3, f4, f5, f6, f7, f8, f9⟩ := shop_facts hx hs
  rw [hqq] at f3 f4 f5
  have hql : q * m = xs.length := by
    have : ((q * m : Nat) : Int) = xs.length := by rw [Int.natCast_mul]; exact f5
    omega
  have hpos : (List.length rs : Int) > 0 := by
    have := Nat.mul_le_mul (show 1 ≤ q by omega) (show 1 ≤ m by omega)
    omega
  unfold spec_l04Bound
  rw [l04Count_eq hN hx hs, mkOk_of (by omega), cond_true, hqq]
  simp only [Option.bind_some, hpos, decide_true, cond_true]
  refine loop_eq (inv := fun s : List Int × Int × Int × Unit => ∃ i : Nat, s.2.2.1 = i ∧ i ≤ q ∧ s.1 = sumsAt rs xs m (i * m) ∧ s.2.1 = mostF xs m (i * m)) (μ := fun s => (q - s.2.2.1).toNat)
    (R := fun _ => some (imax (mostF xs m xs.length) g, ())) ?_ N _ ⟨0, rfl, Nat.zero_le _, by simp [sumsAt], by simp [mostF]⟩ (by simp only; omega)
  rintro ⟨_, _, _, u⟩ next ⟨i, rfl, hi, rfl, rfl⟩ hn
  simp only
  by_cases hlt : i < q
  · have hle : (i + 1) * m ≤ q * m := Nat.mul_le_mul_right _ hlt
    have he : (i + 1) * m = i * m + m := by rw [Nat.add_mul, Nat.one_mul]
    rw [decide_eq_true (show (i : Int) < (q : Int) by omega), cond_true, (jobs_eq hN f5 ⟨f1, f2⟩ hx (i := (i : Int)) (by omega)).1]
    simp only [Option.bind_some, l00Max_eq]
    refine loop_eq (inv := fun s : List Int × Int × Unit => ∃ k : Nat, s.2.1 = k ∧ k ≤ m ∧ s.1 = sumsAt rs xs m (i * m + k)) (μ := fun s => (m - s.2.1).toNat)
      (R := fun _ => some (imax (mostF xs m xs.length) g, ())) ?_ N _ ⟨0, rfl, Nat.zero_le _, rfl⟩ (by simp only; omega)
    rintro ⟨_, _, u⟩ next2 ⟨k, rfl, hk, rfl⟩ hm2
    simp only
    by_cases hkl : k < m
    · have hw : w64 (w64 ((i : Int) * m) + k) = ((i * m + k : Nat) : Int) := by
        rw [← Int.natCast_mul, w64_in (n := ((i * m : Nat) : Int)) (by omega), w64_in (n := ((i * m : Nat) : Int) + k) (by omega)]
        omega
      have hrk := hr (i * m + k) (by omega)
      have hL := sumsAt_len rs xs m (i * m + k)
      rw [decide_eq_true (show (k : Int) < (m : Int) by omega), cond_true, hw, idx_getD (xs := rs) (n := ((i * m + k : Nat) : Int)) (by omega), idx_getD (xs := xs) (n := ((i * m + k : Nat) : Int)) (by omega)]
      simp only [Option.bind_some, Int.toNat_natCast]
      rw [inB_of (n := rs.getD (i * m + k) 0) (len := (sumsAt rs xs m (i * m + k)).length) (by omega), get_getD (0 : Int) (xs := sumsAt rs xs m (i * m + k)) (n := (rs.getD (i * m + k) 0).toNat) (by omega)]
      simp only [cond_true, Option.bind_some, w64_in (n := (k : Int) + 1) (by omega)]
      exact hm2 _ ⟨k + 1, by simp only; omega, by omega, rfl⟩ (by simp only; omega)
    · obtain rfl : k = m := by omega
      rw [decide_eq_false (show ¬ (k : Int) < (k : Int) by omega), cond_false, w64_in (n := (i : Int) + 1) (by omega)]
      refine hn _ ⟨i + 1, by simp only; omega, by omega, by simp only; rw [he], ?_⟩ (by simp only; omega)
      simp only
      rw [he]
      obtain ⟨k', rfl⟩ : ∃ k', k = k' + 1 := ⟨k - 1, by omega⟩
      exact (mostF_job (k := k') (by omega)).symm
  · obtain rfl : i = q := by omega
    rw [decide_eq_false (show ¬ (i : Int) < (i : Int) by omega), cond_false, hql, hg]
    simp only [Option.bind_some, l00Max_eq]

theorem shopBound_eq {rs xs : List Int} {m : Int} (hr : rs.length ≤ 1048576) (hx : xs.length ≤ 1048576) :
    ∃ a b, spec_ShopBound N rs xs m = some (a, b, ()) ∧ impl_ShopBound N rs xs m = some (a, b, ()) := by
  unfold spec_ShopBound impl_ShopBound
  obtain ⟨j, hj, hjq⟩ := routed_eq hN (m := m) hr hx
  rw [l04Shop_eq hN hr hx, hj]
  simp only [Option.bind_some]
  cases hs : (routesB rs m && (shopOk xs m && ((xs.length : Int) == (rs.length : Int))))
  · exact ⟨0, false, rfl, rfl⟩
  · simp only [Bool.and_eq_true, beq_iff_eq] at hs
    obtain ⟨h1, h2, h3⟩ := hs
    obtain ⟨f1, f2, f3, f4, f5, f6, f7, f8, f9⟩ := shop_facts hx h2
    obtain ⟨_, _, hro⟩ := routes_facts h1
    rw [hjq h2]
    obtain ⟨m, rfl⟩ : ∃ k : Nat, m = (k : Int) := ⟨m.toNat, by omega⟩
    obtain ⟨q, hq⟩ : ∃ k : Nat, quot xs m = (k : Int) := ⟨(quot xs m).toNat, by omega⟩
    have hL := sumsAt_len rs xs m xs.length
    obtain ⟨g, g1, g2⟩ := greatest_both hN (l := sumsAt rs xs m xs.length) (by omega) (by omega)
    rw [shopBound_spec hN hx (by omega) h2 hq hro g1, mkOk_of (by omega)]
    simp only [Option.bind_some, Bool.not_true, cond_false, cond_true, f8, hq]
    refine ⟨_, _, rfl, ?_⟩
    rw [hq] at f5 f3 f4
    have hql : q * m = xs.length := by
      have : ((q * m : Nat) : Int) = xs.length := by rw [Int.natCast_mul]; exact f5
      omega
    refine loop_eq (inv := fun s : Int × List Int × Int × Unit => ∃ t : Nat, s.2.2.1 = t ∧ t ≤ xs.length ∧ s.2.1 = sumsAt rs xs m t ∧ s.1 = mostF xs m t) (μ := fun s => (xs.length - s.2.2.1).toNat)
      (R := fun _ => some (imax (mostF xs m xs.length) g, true, ())) ?_ N _ ⟨0, rfl, Nat.zero_le _, rfl, rfl⟩ (by simp only; omega)
    rintro ⟨_, _, _, u⟩ next ⟨t, rfl, ht, rfl, rfl⟩ hn
    simp only
    by_cases hlt : t < xs.length
    · have hrk := hro t (by omega)
      have hLt := sumsAt_len rs xs m t
      have hdq : t / m < q := by
        rw [Nat.div_lt_iff_lt_mul (by omega)]
        omega
      have htm : t / m ≤ t := Nat.div_le_self _ _
      have hdiv : w64 (Int.tdiv (t : Int) m) = ((t / m : Nat) : Int) := by
        rw [← Int.ofNat_tdiv]
        exact w64_nat (by omega)
      rw [decide_eq_true (show (t : Int) < (xs.length : Int) by omega), cond_true, idx_getD (xs := rs) (n := (t : Int)) (by omega), idx_getD (xs := xs) (n := (t : Int)) (by omega), hdiv, (jobs_eq hN f5 ⟨f1, f2⟩ hx (i := ((t / m : Nat) : Int)) ⟨Int.natCast_nonneg _, Int.ofNat_lt.2 hdq⟩).2]
      simp only [Option.bind_some, Int.toNat_natCast]
      rw [inB_of (n := rs.getD t 0) (len := (sumsAt rs xs m t).length) (by omega), get_getD (0 : Int) (xs := sumsAt rs xs m t) (n := (rs.getD t 0).toNat) (by omega)]
      simp only [cond_true, Option.bind_some, w64_in (n := (t : Int) + 1) (by omega)]
      exact hn _ ⟨t + 1, by simp only; omega, by omega, rfl, rfl⟩ (by simp only; omega)
    · obtain rfl : t = xs.length := by omega
      rw [decide_eq_false (show ¬ (xs.length : Int) < (xs.length : Int) by omega), cond_false, g2]
      rfl

theorem FnExactShopBound_eq (rs xs : List Int) (m : Int) : laws_FnExactShopBound N rs xs m = some (true, ()) := by
  unfold laws_FnExactShopBound
  by_cases hr : (rs.length : Int) > 1048576
  · simp only [hr, decide_true, cond_true]
  · by_cases hx : (xs.length : Int) > 1048576
    · simp only [hr, hx, decide_true, decide_false, cond_true, cond_false]
    · obtain ⟨a, b, h1, h2⟩ := shopBound_eq hN (rs := rs) (xs := xs) (m := m) (by omega) (by omega)
      simp only [hr, hx, decide_false, cond_false, toInt64S_eq hN (xs := rs) (by omega), toInt64S_eq hN (xs := xs) (by omega), Option.bind_some, h1, h2, eqInt64S_eq hN (xs := rs) (by omega), eqInt64S_eq hN (xs := xs) (by omega), BEq.rfl, bne_self_eq_false, Bool.not_true]
end

end Go.Proofs.Ytblmginpolckoaa
