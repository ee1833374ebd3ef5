/-
  OpenBound: the plain law. No condition.
-/
import Derived.Test.YtakmpiljijhcbaaFlow
namespace Go.Proofs.Ytakmpiljijhcbaa
open Go Go.Proofs.Ytakmpiljijhcbaa.Fw
set_option linter.unusedVariables false
set_option linter.unusedSimpArgs false

/-- The sum of one machine's times in the first jobs. -/
def onSum (xs : List Int) (M m : Int) : Nat → Int
  | 0 => 0
  | k + 1 => w64 (onSum xs M m k + xs.getD ((k : Int) * M + m).toNat 0)

/-- The sum of a job's times. -/
def ofSum (xs : List Int) (M i : Int) : Int := sumW (List.drop (i * M).toNat (List.take ((i + 1) * M).toNat xs))

/-- The greatest of the jobs' sums from job i on. -/
def ofMax (xs : List Int) (M q : Int) : Nat → Int → Int → Int
  | 0, _, a => a
  | n + 1, i, a => ofMax xs M q n (i + 1) (imax a (ofSum xs M i))

theorem foldl_imax_assoc (l : List Int) (a b : Int) : l.foldl imax (imax a b) = imax a (l.foldl imax b) := by
  induction l generalizing b with
  | nil => rfl
  | cons x l ih => rw [List.foldl_cons, List.foldl_cons, ← imax_assoc, ih]

section
variable {N : Nat} (hN : 9223372036854775808 ≤ N)
include hN

theorem on_eq {xs : List Int} {q M m : Int} (hM : 1 ≤ M ∧ M ≤ 8) (hm : 0 ≤ m ∧ m < M) (hq : 0 ≤ q) (hql : q * M = xs.length) (hx : xs.length ≤ 1048576) :
    impl_shop_on N (xs, (q, M)) m = some (onSum xs M m q.toNat, ()) := by
  have hq' : q ≤ 1048576 := by
    have := Int.mul_le_mul_of_nonneg_left hM.1 hq
    omega
  unfold impl_shop_on
  simp only
  refine loop_eq (inv := fun s : Int × Int × Unit => 0 ≤ s.2.1 ∧ s.2.1 ≤ q ∧ s.1 = onSum xs M m s.2.1.toNat) (μ := fun s => (q - s.2.1).toNat) (R := fun _ => some (onSum xs M m q.toNat, ())) ?_ N _ ⟨Int.le_refl _, hq, rfl⟩ (by simp only; omega)
  rintro s next ⟨h0, h1, h2⟩ hn
  by_cases hlt : s.2.1 < q
  · obtain ⟨a1, a2, a3, a4, a5⟩ := at_eq hN hql hM hx ⟨h0, hlt⟩ hm
    simp only [hlt, decide_true, cond_true, a4, Option.bind_some, w64_in (n := s.2.1 + 1) (by omega)]
    refine hn _ ⟨by simp only; omega, by simp only; omega, ?_⟩ (by simp only; omega)
    simp only
    rw [show (s.2.1 + 1).toNat = s.2.1.toNat + 1 by omega, onSum, h2, show ((s.2.1.toNat : Nat) : Int) = s.2.1 by omega]
  · simp only [hlt, decide_false, cond_false]
    rw [h2, show s.2.1 = q by omega]

theorem greatest_eq {x : Int} {l : List Int} (hx : (x :: l).length ≤ 4294967296) : spec_l02Greatest N (x :: l) = some (l.foldl imax x, ()) := by
  unfold spec_l02Greatest
  rw [show idx (x :: l) 0 = some x from rfl]
  simp only [Option.bind_some]
  have h := loop_list (ρ := Int × Unit) (σ := Int × Int × Unit) (body := fun (s2 : Int × Int × Unit) next3 =>
    cond (decide (s2.2.1 < (List.length (x :: l) : Int)))
      (Option.bind (idx (x :: l) s2.2.1) fun v4 =>
      Option.bind (spec_l00Max N s2.1 v4) fun r5 =>
      next3 (r5.1, (w64 (s2.2.1 + 1)), ()))
      (some (s2.1, ()))) (xs := x :: l) (i := fun s => s.2.1) (f := fun l s => some (l.foldl imax s.1, ())) (inv := fun _ => True) (by omega)
    (fun s next _ h => by simp only [h, Int.lt_irrefl, decide_false, cond_false, List.foldl_nil])
    (fun s next v r _ h1 h2 h3 h4 h5 hn => by
      simp only [h2, decide_true, cond_true, h3, Option.bind_some, h5, List.foldl_cons, l00Max_eq]
      exact hn _ trivial rfl)
    (N := N) (by omega) (s := (x, 1, ())) trivial (by simp) (by simp; omega)
  exact h

theorem of_eq {xs : List Int} {q m i : Int} (hq : q * m = xs.length) (hm : 1 ≤ m ∧ m ≤ 8) (hx : xs.length ≤ 1048576) (hi : 0 ≤ i ∧ i < q) :
    spec_l04Job N xs m i = some (ofSum xs m i, ()) ∧ impl_shop_of N (xs, (q, m)) i = some (ofSum xs m i, ()) := by
  have hle : (i + 1) * m ≤ q * m := Int.mul_le_mul_of_nonneg_right (by omega) (by omega)
  have he : (i + 1) * m = i * m + m := by rw [Int.add_mul, Int.one_mul]
  have hp : 0 ≤ i * m := Int.mul_nonneg hi.1 (by omega)
  have hq' : q ≤ 1048576 := by
    have := Int.mul_le_mul_of_nonneg_left hm.1 (show 0 ≤ q by omega)
    omega
  unfold spec_l04Job impl_shop_of
  simp only [w64_in (n := i * m) (by omega), w64_in (n := i + 1) (by omega), w64_in (n := (i + 1) * m) (by omega)]
  rw [show (decide (0 ≤ i * m) && decide (i * m ≤ (i + 1) * m) && decide ((i + 1) * m ≤ (xs.length : Int))) = true by simp; omega,
    l02Sum_eq hN (by simp only [List.length_drop, List.length_take]; omega), sumOf_eq hN (by simp only [List.length_drop, List.length_take]; omega)]
  exact ⟨rfl, rfl⟩

theorem bound_impl {xs : List Int} {q m : Int} (hq : q * m = xs.length) (hm : 1 ≤ m ∧ m ≤ 8) (hx : xs.length ≤ 1048576) (h1q : 1 ≤ q) :
    impl_shop_bound N (xs, (q, m)) = some (((List.range m.toNat).map fun (k : Nat) => onSum xs m (k : Int) q.toNat).foldl imax (ofMax xs m q q.toNat 0 0), ()) := by
  have hq' : q ≤ 1048576 := by
    have := Int.mul_le_mul_of_nonneg_left hm.1 (show 0 ≤ q by omega)
    omega
  unfold impl_shop_bound
  simp only
  refine loop_eq (inv := fun s : Int × Int × Unit => 0 ≤ s.2.1 ∧ s.2.1 ≤ q ∧ ofMax xs m q (q - s.2.1).toNat s.2.1 s.1 = ofMax xs m q q.toNat 0 0) (μ := fun s => (q - s.2.1).toNat)
    (R := fun _ => some (((List.range m.toNat).map fun (k : Nat) => onSum xs m (k : Int) q.toNat).foldl imax (ofMax xs m q q.toNat 0 0), ())) ?_ N _ ⟨Int.le_refl _, by simp only; omega, by simp⟩ (by simp only; omega)
  rintro ⟨most, i, u⟩ next ⟨h0, h1, h2⟩ hn
  simp only at h0 h1 h2 ⊢
  by_cases hi : i < q
  · simp only [hi, decide_true, cond_true, (of_eq hN hq hm hx ⟨h0, hi⟩).2, Option.bind_some, w64_in (n := i + 1) (by omega)]
    refine hn _ ⟨by simp only; omega, by simp only; omega, ?_⟩ (by simp only; omega)
    simp only
    rw [← h2, show (q - i).toNat = (q - (i + 1)).toNat + 1 by omega]
    rfl
  · simp only [hi, decide_false, cond_false]
    have hm0 : most = ofMax xs m q q.toNat 0 0 := by
      rw [← h2, show (q - i).toNat = 0 by omega]
      rfl
    rw [hm0]
    generalize ofMax xs m q q.toNat 0 0 = b
    refine loop_eq (inv := fun s : Int × Int × Unit => 0 ≤ s.2.1 ∧ s.2.1 ≤ m ∧ (((List.range m.toNat).drop s.2.1.toNat).map fun (k : Nat) => onSum xs m (k : Int) q.toNat).foldl imax s.1 = ((List.range m.toNat).map fun (k : Nat) => onSum xs m (k : Int) q.toNat).foldl imax b) (μ := fun s => (m - s.2.1).toNat)
      (R := fun _ => some (((List.range m.toNat).map fun (k : Nat) => onSum xs m (k : Int) q.toNat).foldl imax b, ())) ?_ N _ ⟨Int.le_refl _, by simp only; omega, by simp⟩ (by simp only; omega)
    rintro ⟨a, k, u⟩ next ⟨g0, g1, g2⟩ hm2
    simp only at g0 g1 g2 ⊢
    by_cases hk : k < m
    · simp only [hk, decide_true, cond_true, on_eq hN hm ⟨g0, hk⟩ (by omega) hq hx, Option.bind_some, w64_in (n := k + 1) (by omega)]
      refine hm2 _ ⟨by simp only; omega, by simp only; omega, ?_⟩ (by simp only; omega)
      simp only
      rw [← g2, List.drop_eq_getElem_cons (show k.toNat < (List.range m.toNat).length by simp; omega)]
      simp only [List.getElem_range, List.map_cons, List.foldl_cons, show ((k.toNat : Nat) : Int) = k by omega, show (k + 1).toNat = k.toNat + 1 by omega]
    · simp only [hk, decide_false, cond_false]
      rw [← g2, List.drop_eq_nil_of_le (by simp; omega)]
      rfl

theorem bound_spec {xs : List Int} {m : Int} (hx : xs.length ≤ 1048576) (hs : shopOk xs m = true) :
    spec_l04Bound N xs [] m = some (((List.range m.toNat).map fun (k : Nat) => onSum xs m (k : Int) (quot xs m).toNat).foldl imax (ofMax xs m (quot xs m) (quot xs m).toNat 0 0), ()) := by
  obtain ⟨f1, f2, f3, f4, f5, f6, f7, f8, f9⟩ := shop_facts hx hs
  unfold spec_l04Bound
  rw [l04Count_eq hN hx hs, mkOk_of (by omega), cond_true]
  simp only [Option.bind_some]
  generalize quot xs m = q at f3 f4 f5
  refine loop_eq (inv := fun s : List Int × Int × Int × Unit => 0 ≤ s.2.2.1 ∧ s.2.2.1 ≤ q ∧ ofMax xs m q (q - s.2.2.1).toNat s.2.2.1 s.2.1 = ofMax xs m q q.toNat 0 0 ∧ s.1 = (List.range m.toNat).map fun (k : Nat) => onSum xs m (k : Int) s.2.2.1.toNat) (μ := fun s => (q - s.2.2.1).toNat)
    (R := fun _ => some (((List.range m.toNat).map fun (k : Nat) => onSum xs m (k : Int) q.toNat).foldl imax (ofMax xs m q q.toNat 0 0), ())) ?_ N _ ⟨Int.le_refl _, by simp only; omega, by simp, ?_⟩ (by simp only; omega)
  · rintro ⟨sums, most, i, u⟩ next ⟨h0, h1, h2, h3⟩ hn
    simp only at h0 h1 h2 h3 ⊢
    by_cases hi : i < q
    · simp only [hi, decide_true, cond_true, (of_eq hN f5 ⟨f1, f2⟩ hx ⟨h0, hi⟩).1, Option.bind_some, l00Max_eq, List.length_nil, Int.natCast_zero, gt_iff_lt, Int.lt_irrefl, decide_false, cond_false]
      refine loop_eq (inv := fun s : List Int × Int × Unit => 0 ≤ s.2.1 ∧ s.2.1 ≤ m ∧ s.1.length = m.toNat ∧ ∀ k : Nat, k < m.toNat → s.1.getD k 0 = if (k : Int) < s.2.1 then onSum xs m k (i.toNat + 1) else onSum xs m k i.toNat) (μ := fun s => (m - s.2.1).toNat)
        (R := fun _ => some (((List.range m.toNat).map fun (k : Nat) => onSum xs m (k : Int) q.toNat).foldl imax (ofMax xs m q q.toNat 0 0), ())) ?_ N _ ⟨Int.le_refl _, by simp only; omega, by rw [h3]; simp, fun k hk => ?_⟩ (by simp only; omega)
      · rintro ⟨sums, k, u⟩ next2 ⟨g0, g1, g2, g3⟩ hm2
        simp only at g0 g1 g2 g3 ⊢
        by_cases hk : k < m
        · obtain ⟨a1, a2, a3, a4, a5⟩ := at_eq hN f5 ⟨f1, f2⟩ hx ⟨h0, hi⟩ ⟨g0, hk⟩
          have hg := g3 k.toNat (by omega)
          rw [show ((k.toNat : Nat) : Int) = k by omega, if_neg (by omega)] at hg
          simp only [hk, decide_true, cond_true, inB_of (n := k) (len := sums.length) (by omega), get_getD (0 : Int) (xs := sums) (n := k.toNat) (by omega), hg, Option.bind_some, a5, idx_getD (xs := xs) (n := i * m + k) ⟨a1, a2⟩, w64_in (n := k + 1) (by omega)]
          refine hm2 _ ⟨by simp only; omega, by simp only; omega, by simp [g2], fun j hj => ?_⟩ (by simp only; omega)
          simp only
          rw [List.getD_eq_getElem?_getD, List.getElem?_set]
          by_cases hjk : k.toNat = j
          · subst hjk
            rw [if_pos rfl, if_pos (by omega), if_pos (by omega), onSum]
            simp only [Option.getD_some, show ((i.toNat : Nat) : Int) = i by omega, show ((k.toNat : Nat) : Int) = k by omega]
          · rw [if_neg hjk, ← List.getD_eq_getElem?_getD, g3 j hj]
            by_cases hjl : (j : Int) < k
            · rw [if_pos hjl, if_pos (by omega)]
            · rw [if_neg hjl, if_neg (by omega)]
        · simp only [hk, decide_false, cond_false, w64_in (n := i + 1) (by omega)]
          refine hn _ ⟨by simp only; omega, by simp only; omega, ?_, ?_⟩ (by simp only; omega)
          · simp only
            rw [← h2, show (q - i).toNat = (q - (i + 1)).toNat + 1 by omega]
            rfl
          · simp only
            rw [show (i + 1).toNat = i.toNat + 1 by omega]
            refine List.ext_getElem (by simp [g2]) fun j j1 j2 => ?_
            have hj1 : j < m.toNat := by rw [← g2]; exact j1
            have hjk : (j : Int) < k := by omega
            have := g3 j hj1
            rw [if_pos hjk] at this
            simp only [List.getElem_map, List.getElem_range]
            rw [← this]
            simp [j1]
      · simp only
        rw [if_neg (by omega), h3]
        simp [hk]
    · simp only [hi, decide_false, cond_false]
      have hm0 : most = ofMax xs m q q.toNat 0 0 := by
        rw [← h2, show (q - i).toNat = 0 by omega]
        rfl
      rw [h3, hm0, show i = q by omega]
      obtain ⟨n, hn⟩ : ∃ n, m.toNat = n + 1 := ⟨m.toNat - 1, by omega⟩
      rw [hn, List.range_succ_eq_map, List.map_cons, greatest_eq hN (by simp; omega)]
      simp only [Option.bind_some, l00Max_eq, List.foldl_cons, ← foldl_imax_assoc]
  · simp only [Int.toNat_zero]
    refine List.ext_getElem (by simp) fun j j1 j2 => ?_
    simp [onSum]

theorem FnExactOpenBound_eq (xs : List Int) (m : Int) : laws_FnExactOpenBound N xs m = some (true, ()) := by
  unfold laws_FnExactOpenBound
  by_cases hx : (xs.length : Int) > 1048576
  · simp only [hx, decide_true, cond_true]
  · have key : ∃ a b, spec_OpenBound N xs m = some (a, b, ()) ∧ impl_OpenBound N xs m = some (a, b, ()) := by
      obtain ⟨j, hj, hjq⟩ := asShop_eq hN (xs := xs) (m := m) (by omega)
      unfold spec_OpenBound impl_OpenBound
      rw [l04Can_eq hN (by omega), hj]
      simp only [Option.bind_some]
      cases hs : shopOk xs m
      · exact ⟨0, false, rfl, rfl⟩
      · obtain ⟨f1, f2, f3, f4, f5, f6, f7, f8, f9⟩ := shop_facts (by omega) hs
        have hjq := hjq hs
        subst hjq
        simp only [Bool.not_true, cond_false, bound_spec hN (by omega) hs, bound_impl hN f5 ⟨f1, f2⟩ (by omega) f3, Option.bind_some]
        exact ⟨_, _, rfl, rfl⟩
    obtain ⟨a, b, h1, h2⟩ := key
    simp only [hx, decide_false, cond_false, toInt64S_eq hN (xs := xs) (by omega), Option.bind_some, h1, h2, eqInt64S_eq hN (xs := xs) (by omega), BEq.rfl, Bool.not_true, bne_self_eq_false]
end

end Go.Proofs.Ytakmpiljijhcbaa
