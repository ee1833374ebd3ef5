/-
  Plain rules: repeated values, small whole numbers' bits. No condition.
-/
import Derived.Test.YtgcmklniacjcfaaPB
import Derived.Test.YtgcmklniacjcfaaFwY
namespace Go.Proofs.Ytgcmklniacjcfaa
open Go Go.Proofs.Ytgcmklniacjcfaa.Fw
set_option linter.unusedVariables false
set_option linter.unusedSimpArgs false

theorem and_mask {x : Int} (h : 0 ≤ x ∧ x < 4294967296) : ibits .and .u64 x 4294967295 = x := by
  obtain ⟨n, rfl⟩ : ∃ n : Nat, x = n := ⟨x.toNat, by omega⟩
  have hn : n < 4294967296 := by omega
  unfold ibits
  simp only
  have h1 : (BitVec.ofInt 64 (n : Int)).toNat = n := by
    rw [BitVec.ofInt_natCast, BitVec.toNat_ofNat]
    omega
  have h2 : (BitVec.ofInt 64 (4294967295 : Int)).toNat = 2 ^ 32 - 1 := by decide
  show IntKind.wrap .u64 ((BitVec.toNat (BitVec.ofInt 64 (n : Int) &&& BitVec.ofInt 64 4294967295) : Nat) : Int) = n
  rw [BitVec.toNat_and, h1, h2, Nat.and_two_pow_sub_one_eq_mod, Nat.mod_eq_of_lt (by omega)]
  exact IntWalk.u64_in _ (by omega)

theorem shr_small {x : Int} (h : 0 ≤ x ∧ x < 4294967296) : ishr .u64 x 32 = 0 := by
  unfold ishr
  rw [show (2 : Int) ^ (min (Int.toNat 32) IntKind.u64.bits) = 4294967296 from by decide]
  rw [Int.fdiv_eq_ediv_of_nonneg _ (by omega)]
  exact Int.ediv_eq_zero_of_lt h.1 h.2

theorem rep_step {α : Type} {v : α} {s : List α} {c : Nat} (hs : c ≤ s.length) (hv : ∀ i, i < c → s[i]? = some v) :
    ∀ i, i < c + Nat.min c (s.length - c) → (copyL s c (copyN (s.length - c) (s.take c)) (s.take c))[i]? = some v := by
  intro i hi
  have hn : copyN (s.length - c) (s.take c) = Nat.min c (s.length - c) := by
    unfold copyN
    rw [List.length_take, Nat.min_eq_left hs]
  rw [hn]
  have hm1 : Nat.min c (s.length - c) ≤ c := Nat.min_le_left _ _
  have hm2 : Nat.min c (s.length - c) ≤ s.length - c := Nat.min_le_right _ _
  rw [copyL_get (by omega) (by rw [List.length_take]; omega)]
  by_cases h : c ≤ i ∧ i < c + Nat.min c (s.length - c)
  · rw [if_pos h, List.getElem?_take, if_pos (by omega)]
    exact hv _ (by omega)
  · rw [if_neg h]
    exact hv i (by omega)

section
variable {N : Nat} (hN : 9223372036854775808 ≤ N)
include hN

theorem mul_one_eq {n : Int} (h : 0 ≤ n ∧ n ≤ 1048576) : math_bits_Mul N (IntKind.wrap .u64 ((1 : Nat) : Int)) (IntKind.wrap .u64 n) = some (0, n, ()) := by
  have _ := hN
  unfold math_bits_Mul math_bits_Mul64
  rw [IntWalk.u64_in n (by omega), show IntKind.wrap .u64 ((1 : Nat) : Int) = 1 from by decide]
  simp only [Option.bind_some, and_mask (x := n) (by omega), shr_small (x := n) (by omega), and_mask (x := 1) (by omega), shr_small (x := 1) (by omega), Int.zero_mul, Int.mul_zero, Int.one_mul, IntWalk.u64_in n (by omega), IntWalk.u64_in 0 (by omega), Int.add_zero, and_mask (x := 0) (by omega), shr_small (x := 0) (by omega)]

theorem rep_loop {α ρ : Type} {v z : α} {n : Nat} (hn : n ≤ 1048576) {K : List α → Option ρ} :
    loopN (fun (s4 : List α × Int × Unit) next5 =>
      cond (decide (s4.2.1 < (List.length s4.1 : Int)))
        (cond (decide (0 ≤ s4.2.1) && decide (s4.2.1 ≤ (List.length s4.1 : Int)) && decide ((List.length s4.1 : Int) ≤ (List.length s4.1 : Int)))
          (cond (decide (0 ≤ (0 : Int)) && decide ((0 : Int) ≤ s4.2.1) && decide (s4.2.1 ≤ (List.length s4.1 : Int)))
            (let xs6 := (copyL s4.1 (Int.toNat s4.2.1) (copyN (Int.toNat (List.length s4.1 : Int) - Int.toNat s4.2.1) ((s4.1.drop (Int.toNat (0 : Int))).take (Int.toNat s4.2.1 - Int.toNat (0 : Int)))) ((s4.1.drop (Int.toNat (0 : Int))).take (Int.toNat s4.2.1 - Int.toNat (0 : Int))))
            next5 (xs6, (w64 (s4.2.1 + ((copyN (Int.toNat (List.length s4.1 : Int) - Int.toNat s4.2.1) ((s4.1.drop (Int.toNat (0 : Int))).take (Int.toNat s4.2.1 - Int.toNat (0 : Int)))) : Int))), ())) none) none)
        (K s4.1)) N ((copyL (List.replicate n z) 0 (copyN (List.length (List.replicate n z)) [v]) [v]), ((copyN (List.length (List.replicate n z)) [v]) : Int), ()) = K (List.replicate n v) := by
  have hc : copyN (List.length (List.replicate n z)) [v] = Nat.min 1 n := by simp [copyN]
  have hm0 : Nat.min 1 n ≤ n := Nat.min_le_right _ _
  have hm1 : Nat.min 1 n ≤ 1 := Nat.min_le_left _ _
  refine loop_eq (inv := fun s : List α × Int × Unit => 0 ≤ s.2.1 ∧ s.2.1 ≤ n ∧ s.1.length = n ∧ (1 ≤ n → 1 ≤ s.2.1) ∧ ∀ i : Nat, (i : Int) < s.2.1 → s.1[i]? = some v) (μ := fun s => (n - s.2.1).toNat) (R := fun _ => K (List.replicate n v)) ?_ N _ ⟨by simp only; omega, by simp only [hc]; omega, ?_, fun h => ?_, fun i hi => ?_⟩ (by simp only [hc]; omega)
  · rintro ⟨s, c, u⟩ next ⟨h0, h1, h2, h3, h4⟩ hk
    simp only at h0 h1 h2 h3 h4 ⊢
    obtain ⟨k, rfl⟩ : ∃ k : Nat, c = (k : Int) := ⟨c.toNat, by omega⟩
    by_cases hi : (k : Int) < (s.length : Int)
    · have hks : k ≤ s.length := by omega
      have hst := rep_step (s := s) (c := k) hks (fun i hi => h4 i (by omega))
      have hn' : copyN (s.length - k) (s.take k) = Nat.min k (s.length - k) := by
        unfold copyN
        rw [List.length_take, Nat.min_eq_left hks]
      have g1 : 1 ≤ Nat.min k (s.length - k) := by
        have := h3 (by omega)
        exact Nat.le_min.2 ⟨by omega, by omega⟩
      have g2 : Nat.min k (s.length - k) ≤ s.length - k := Nat.min_le_right _ _
      simp only [hi, decide_true, cond_true, h0, show (k : Int) ≤ (s.length : Int) by omega, Int.le_refl, Bool.and_self, Int.toNat_natCast, Int.toNat_zero, List.drop_zero, Nat.sub_zero]
      rw [hn'] at hst ⊢
      rw [w64_in (n := (k : Int) + ((Nat.min k (s.length - k) : Nat) : Int)) (by omega)]
      refine hk _ ⟨by simp only; omega, by simp only; omega, ?_, fun _ => by simp only; omega, fun i hi => ?_⟩ (by simp only; omega)
      · simp only
        rw [copyL_len (by omega) (by rw [List.length_take]; have g3 : Nat.min k (s.length - k) ≤ k := Nat.min_le_left _ _; omega)]
        exact h2
      · simp only at hi ⊢
        exact hst i (by omega)
    · simp only [hi, decide_false, cond_false]
      congr 1
      refine List.ext_getElem? fun i => ?_
      by_cases hin : i < n
      · rw [h4 i (by omega), List.getElem?_replicate, if_pos hin]
      · rw [List.getElem?_eq_none (by omega), List.getElem?_eq_none (by rw [List.length_replicate]; omega)]
  · simp only [hc]
    rw [copyL_len (by rw [List.length_replicate]; omega) (by simp; omega), List.length_replicate]
  · simp only [hc]
    have : 1 ≤ Nat.min 1 n := Nat.le_min.2 ⟨by omega, by omega⟩
    omega
  · simp only [hc] at hi ⊢
    rw [copyL_get (by rw [List.length_replicate]; omega) (by simp; omega), if_pos (by omega)]
    have : i = 0 := by omega
    subst this
    rfl

theorem repeat_eq {v : Int} {n : Nat} (hn : n ≤ 1048576) : slices_Repeat_int64_int64 N [v] (n : Int) = some (List.replicate n v, ()) := by
  unfold slices_Repeat_int64_int64
  rw [decide_eq_false (show ¬ (n : Int) < 0 by omega), show List.length [v] = 1 from rfl, mul_one_eq hN (n := (n : Int)) (by omega)]
  simp only [cond_false, Option.bind_some, show decide ((0 : Int) > 0) = false from rfl, decide_eq_false (show ¬ (n : Int) > 9223372036854775807 by omega), IntWalk.i64_in (n : Int) (by omega), mkOk_of (n := (n : Int)) (m := (n : Int)) (by omega), cond_true, Int.toNat_natCast]
  exact rep_loop hN hn (K := fun l => some (l, ()))


end

end Go.Proofs.Ytgcmklniacjcfaa
