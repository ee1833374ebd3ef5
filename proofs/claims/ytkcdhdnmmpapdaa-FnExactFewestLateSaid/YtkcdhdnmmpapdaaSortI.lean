/-
  The instances of the stable sort in this seat, printed by a program. No condition.
-/
import Derived.Test.YtkcdhdnmmpapdaaSortC
import Derived.Test.YtkcdhdnmmpapdaaPB
namespace Go.Proofs.Ytkcdhdnmmpapdaa
open Go Go.Proofs.Ytkcdhdnmmpapdaa.Fw
set_option linter.unusedVariables false
set_option linter.unusedSimpArgs false

theorem counting_eq {N : Nat} (hN : 9223372036854775808 ≤ N) {n : Nat} (hn : n ≤ 1048576) : impl_counting N n = some ((List.range n).map Int.ofNat, ()) := by
  unfold impl_counting
  refine loop_eq (inv := fun s : List Int × Int × Unit => ∃ i : Nat, i ≤ n ∧ s.1 = (List.range i).map Int.ofNat ∧ s.2.1 = i) (μ := fun s => (n - s.2.1).toNat) (R := fun _ => some ((List.range n).map Int.ofNat, ())) ?_ N _ ⟨0, Nat.zero_le _, rfl, rfl⟩ (by simp only; omega)
  rintro ⟨ys, i, u⟩ next ⟨i, hi, rfl, rfl⟩ hm
  simp only at hm ⊢
  by_cases h : i < n
  · rw [decide_eq_true (by omega), cond_true, appOk_of (by simp; omega), cond_true]
    exact hm _ ⟨i + 1, by omega, by simp only; rw [List.range_succ]; simp, by simp only; rw [w64_in (by omega)]; rfl⟩ (by simp only; rw [w64_in (by omega)]; omega)
  · obtain rfl : i = n := by omega
    rw [decide_eq_false (by omega), cond_false]

theorem range_asc (n : Nat) : ((List.range n).map Int.ofNat).Pairwise (· < ·) := by
  rw [List.pairwise_map]
  exact List.pairwise_lt_range.imp (fun h => Int.ofNat_lt.2 h)

theorem mem_rangeI {n : Nat} {x : Int} (h : x ∈ (List.range n).map Int.ofNat) : 0 ≤ x ∧ x < n := by
  obtain ⟨i, hi, rfl⟩ := List.mem_map.1 h
  have := List.mem_range.1 hi
  exact ⟨Int.natCast_nonneg _, Int.ofNat_lt.2 this⟩

theorem compare_eq {N : Nat} (x y : Int) : ∃ r : Int, cmp_Compare_int64 N x y = some (r, ()) ∧ decide (r < 0) = decide (x < y) := by
  unfold cmp_Compare_int64 cmp_isNaN_int64
  simp only [Option.bind_some, bne_self_eq_false, cond_false]
  by_cases h : x < y
  · exact ⟨-1, by simp [h], by simp [h]⟩
  · by_cases h2 : x > y
    · exact ⟨1, by simp [h, h2], by simp [h]⟩
    · exact ⟨0, by simp [h, h2], by simp [h]⟩

/- _impl_sortedBy_1 -/
theorem sortI_impl_sortedBy_1_step (N : Nat) (self : List Int → Int → Int → Int → List (Int × Int × Int × Int) → Option (List Int × Unit)) (xs : List Int) (a m b : Int) (c : List (Int × Int × Int × Int)) : slices_symMergeCmpFunc_int64_impl_sortedBy_1_step N self xs a m b c = symG_step N (fun x y => impl_sortedBy_1_c0 N x y c) (fun xs a m b => self xs a m b c) xs a m b := rfl
theorem sortI_impl_sortedBy_1_r (N F : Nat) (c : List (Int × Int × Int × Int)) : ∀ (xs : List Int) (a m b : Int), slices_symMergeCmpFunc_int64_impl_sortedBy_1_r N F xs a m b c = symG_r N (fun x y => impl_sortedBy_1_c0 N x y c) F xs a m b := by
  induction F with
  | zero => intros; rfl
  | succ F ih =>
    intro xs a m b
    show slices_symMergeCmpFunc_int64_impl_sortedBy_1_step N (slices_symMergeCmpFunc_int64_impl_sortedBy_1_r N F) xs a m b c = symG_step N (fun x y => impl_sortedBy_1_c0 N x y c) (symG_r N (fun x y => impl_sortedBy_1_c0 N x y c) F) xs a m b
    rw [sortI_impl_sortedBy_1_step]
    congr 1
    funext xs a m b
    exact ih xs a m b
theorem sortI_impl_sortedBy_1_sort (N : Nat) (c : List (Int × Int × Int × Int)) (xs : List Int) : slices_SortStableFunc_int64_int64_impl_sortedBy_1 N xs c = sortG N (fun x y => impl_sortedBy_1_c0 N x y c) xs := by
  have h : ∀ (xs : List Int) (a m b : Int), slices_symMergeCmpFunc_int64_impl_sortedBy_1 N xs a m b c = symG N (fun x y => impl_sortedBy_1_c0 N x y c) xs a m b := fun xs a m b => sortI_impl_sortedBy_1_r N N c xs a m b
  unfold slices_SortStableFunc_int64_int64_impl_sortedBy_1 sortG slices_stableCmpFunc_int64_impl_sortedBy_1 stableG
  simp only [h]
  rfl

/- _impl_sortedBy_1_1 -/
theorem sortI_impl_sortedBy_1_1_step (N : Nat) (self : List Int → Int → Int → Int → List (Int × Int × Int × Int) → Option (List Int × Unit)) (xs : List Int) (a m b : Int) (c : List (Int × Int × Int × Int)) : slices_symMergeCmpFunc_int64_impl_sortedBy_1_1_step N self xs a m b c = symG_step N (fun x y => impl_sortedBy_1_c0_1 N x y c) (fun xs a m b => self xs a m b c) xs a m b := rfl
theorem sortI_impl_sortedBy_1_1_r (N F : Nat) (c : List (Int × Int × Int × Int)) : ∀ (xs : List Int) (a m b : Int), slices_symMergeCmpFunc_int64_impl_sortedBy_1_1_r N F xs a m b c = symG_r N (fun x y => impl_sortedBy_1_c0_1 N x y c) F xs a m b := by
  induction F with
  | zero => intros; rfl
  | succ F ih =>
    intro xs a m b
    show slices_symMergeCmpFunc_int64_impl_sortedBy_1_1_step N (slices_symMergeCmpFunc_int64_impl_sortedBy_1_1_r N F) xs a m b c = symG_step N (fun x y => impl_sortedBy_1_c0_1 N x y c) (symG_r N (fun x y => impl_sortedBy_1_c0_1 N x y c) F) xs a m b
    rw [sortI_impl_sortedBy_1_1_step]
    congr 1
    funext xs a m b
    exact ih xs a m b
theorem sortI_impl_sortedBy_1_1_sort (N : Nat) (c : List (Int × Int × Int × Int)) (xs : List Int) : slices_SortStableFunc_int64_int64_impl_sortedBy_1_1 N xs c = sortG N (fun x y => impl_sortedBy_1_c0_1 N x y c) xs := by
  have h : ∀ (xs : List Int) (a m b : Int), slices_symMergeCmpFunc_int64_impl_sortedBy_1_1 N xs a m b c = symG N (fun x y => impl_sortedBy_1_c0_1 N x y c) xs a m b := fun xs a m b => sortI_impl_sortedBy_1_1_r N N c xs a m b
  unfold slices_SortStableFunc_int64_int64_impl_sortedBy_1_1 sortG slices_stableCmpFunc_int64_impl_sortedBy_1_1 stableG
  simp only [h]
  rfl

/- _impl_sortedBy_1_2 -/
theorem sortI_impl_sortedBy_1_2_step (N : Nat) (self : List Int → Int → Int → Int → List (Int × Int × Int × Int) → Option (List Int × Unit)) (xs : List Int) (a m b : Int) (c : List (Int × Int × Int × Int)) : slices_symMergeCmpFunc_int64_impl_sortedBy_1_2_step N self xs a m b c = symG_step N (fun x y => impl_sortedBy_1_c0_2 N x y c) (fun xs a m b => self xs a m b c) xs a m b := rfl
theorem sortI_impl_sortedBy_1_2_r (N F : Nat) (c : List (Int × Int × Int × Int)) : ∀ (xs : List Int) (a m b : Int), slices_symMergeCmpFunc_int64_impl_sortedBy_1_2_r N F xs a m b c = symG_r N (fun x y => impl_sortedBy_1_c0_2 N x y c) F xs a m b := by
  induction F with
  | zero => intros; rfl
  | succ F ih =>
    intro xs a m b
    show slices_symMergeCmpFunc_int64_impl_sortedBy_1_2_step N (slices_symMergeCmpFunc_int64_impl_sortedBy_1_2_r N F) xs a m b c = symG_step N (fun x y => impl_sortedBy_1_c0_2 N x y c) (symG_r N (fun x y => impl_sortedBy_1_c0_2 N x y c) F) xs a m b
    rw [sortI_impl_sortedBy_1_2_step]
    congr 1
    funext xs a m b
    exact ih xs a m b
theorem sortI_impl_sortedBy_1_2_sort (N : Nat) (c : List (Int × Int × Int × Int)) (xs : List Int) : slices_SortStableFunc_int64_int64_impl_sortedBy_1_2 N xs c = sortG N (fun x y => impl_sortedBy_1_c0_2 N x y c) xs := by
  have h : ∀ (xs : List Int) (a m b : Int), slices_symMergeCmpFunc_int64_impl_sortedBy_1_2 N xs a m b c = symG N (fun x y => impl_sortedBy_1_c0_2 N x y c) xs a m b := fun xs a m b => sortI_impl_sortedBy_1_2_r N N c xs a m b
  unfold slices_SortStableFunc_int64_int64_impl_sortedBy_1_2 sortG slices_stableCmpFunc_int64_impl_sortedBy_1_2 stableG
  simp only [h]
  rfl

/- _impl_orderBy_4 -/
theorem sortI_impl_orderBy_4_step (N : Nat) (self : List Int → Int → Int → Int → List (Int × Int × Int × Int) → Option (List Int × Unit)) (xs : List Int) (a m b : Int) (c : List (Int × Int × Int × Int)) : slices_symMergeCmpFunc_int64_impl_orderBy_4_step N self xs a m b c = symG_step N (fun x y => impl_orderBy_4_c0 N x y c) (fun xs a m b => self xs a m b c) xs a m b := rfl
theorem sortI_impl_orderBy_4_r (N F : Nat) (c : List (Int × Int × Int × Int)) : ∀ (xs : List Int) (a m b : Int), slices_symMergeCmpFunc_int64_impl_orderBy_4_r N F xs a m b c = symG_r N (fun x y => impl_orderBy_4_c0 N x y c) F xs a m b := by
  induction F with
  | zero => intros; rfl
  | succ F ih =>
    intro xs a m b
    show slices_symMergeCmpFunc_int64_impl_orderBy_4_step N (slices_symMergeCmpFunc_int64_impl_orderBy_4_r N F) xs a m b c = symG_step N (fun x y => impl_orderBy_4_c0 N x y c) (symG_r N (fun x y => impl_orderBy_4_c0 N x y c) F) xs a m b
    rw [sortI_impl_orderBy_4_step]
    congr 1
    funext xs a m b
    exact ih xs a m b
theorem sortI_impl_orderBy_4_sort (N : Nat) (c : List (Int × Int × Int × Int)) (xs : List Int) : slices_SortStableFunc_int64_int64_impl_orderBy_4 N xs c = sortG N (fun x y => impl_orderBy_4_c0 N x y c) xs := by
  have h : ∀ (xs : List Int) (a m b : Int), slices_symMergeCmpFunc_int64_impl_orderBy_4 N xs a m b c = symG N (fun x y => impl_orderBy_4_c0 N x y c) xs a m b := fun xs a m b => sortI_impl_orderBy_4_r N N c xs a m b
  unfold slices_SortStableFunc_int64_int64_impl_orderBy_4 sortG slices_stableCmpFunc_int64_impl_orderBy_4 stableG
  simp only [h]
  rfl

/- impl_sortedBy_impl_orderBy_1 -/
theorem impl_sortedBy_impl_orderBy_1_ok {N : Nat} (hN : 9223372036854775808 ≤ N) {n : Nat} (hn : n < 40) {c : List (Int × Int × Int × Int)} {k : Int → Int} (hk : ∀ x : Int, 0 ≤ x → x < n → impl_orderBy_1_c0 N x c = some (k x, ())) :
    ∃ C, impl_sortedBy_impl_orderBy_1 N n c = some (C, ()) ∧ C.Perm ((List.range n).map Int.ofNat) ∧ C.Pairwise (St.R k) := by
  have hc : St.ByKey (fun x y => impl_sortedBy_1_c0 N x y c) (fun x => 0 ≤ x ∧ x < n) k := fun x y hx hy => by
    unfold impl_sortedBy_1_c0
    dsimp only
    rw [hk x hx.1 hx.2, hk y hy.1 hy.2]
    obtain ⟨r, h1, h2⟩ := compare_eq (N := N) (k x) (k y)
    simp only [Option.bind_some, h1]
    exact ⟨r, rfl, h2⟩
  obtain ⟨C, h1, h2, h3⟩ := St.sort_ok hN hc (range_asc n) (fun x h => mem_rangeI h) (by simpa using hn)
  refine ⟨C, ?_, h2, h3⟩
  unfold impl_sortedBy_impl_orderBy_1
  rw [counting_eq hN (by omega)]
  simp only [Option.bind_some]
  rw [sortI_impl_sortedBy_1_sort, h1]
  simp only [Option.bind_some]
  rw [St.nbeq h2.length_eq, cond_true]

/- impl_sortedBy_impl_orderBy_2 -/
theorem impl_sortedBy_impl_orderBy_2_ok {N : Nat} (hN : 9223372036854775808 ≤ N) {n : Nat} (hn : n < 40) {c : List (Int × Int × Int × Int)} {k : Int → Int} (hk : ∀ x : Int, 0 ≤ x → x < n → impl_orderBy_2_c0 N x c = some (k x, ())) :
    ∃ C, impl_sortedBy_impl_orderBy_2 N n c = some (C, ()) ∧ C.Perm ((List.range n).map Int.ofNat) ∧ C.Pairwise (St.R k) := by
  have hc : St.ByKey (fun x y => impl_sortedBy_1_c0_1 N x y c) (fun x => 0 ≤ x ∧ x < n) k := fun x y hx hy => by
    unfold impl_sortedBy_1_c0_1
    dsimp only
    rw [hk x hx.1 hx.2, hk y hy.1 hy.2]
    obtain ⟨r, h1, h2⟩ := compare_eq (N := N) (k x) (k y)
    simp only [Option.bind_some, h1]
    exact ⟨r, rfl, h2⟩
  obtain ⟨C, h1, h2, h3⟩ := St.sort_ok hN hc (range_asc n) (fun x h => mem_rangeI h) (by simpa using hn)
  refine ⟨C, ?_, h2, h3⟩
  unfold impl_sortedBy_impl_orderBy_2
  rw [counting_eq hN (by omega)]
  simp only [Option.bind_some]
  rw [sortI_impl_sortedBy_1_1_sort, h1]
  simp only [Option.bind_some]
  rw [St.nbeq h2.length_eq, cond_true]

/- impl_sortedBy_impl_orderBy_3 -/
theorem impl_sortedBy_impl_orderBy_3_ok {N : Nat} (hN : 9223372036854775808 ≤ N) {n : Nat} (hn : n < 40) {c : List (Int × Int × Int × Int)} {k : Int → Int} (hk : ∀ x : Int, 0 ≤ x → x < n → impl_orderBy_3_c0 N x c = some (k x, ())) :
    ∃ C, impl_sortedBy_impl_orderBy_3 N n c = some (C, ()) ∧ C.Perm ((List.range n).map Int.ofNat) ∧ C.Pairwise (St.R k) := by
  have hc : St.ByKey (fun x y => impl_sortedBy_1_c0_2 N x y c) (fun x => 0 ≤ x ∧ x < n) k := fun x y hx hy => by
    unfold impl_sortedBy_1_c0_2
    dsimp only
    rw [hk x hx.1 hx.2, hk y hy.1 hy.2]
    obtain ⟨r, h1, h2⟩ := compare_eq (N := N) (k x) (k y)
    simp only [Option.bind_some, h1]
    exact ⟨r, rfl, h2⟩
  obtain ⟨C, h1, h2, h3⟩ := St.sort_ok hN hc (range_asc n) (fun x h => mem_rangeI h) (by simpa using hn)
  refine ⟨C, ?_, h2, h3⟩
  unfold impl_sortedBy_impl_orderBy_3
  rw [counting_eq hN (by omega)]
  simp only [Option.bind_some]
  rw [sortI_impl_sortedBy_1_2_sort, h1]
  simp only [Option.bind_some]
  rw [St.nbeq h2.length_eq, cond_true]

end Go.Proofs.Ytkcdhdnmmpapdaa
