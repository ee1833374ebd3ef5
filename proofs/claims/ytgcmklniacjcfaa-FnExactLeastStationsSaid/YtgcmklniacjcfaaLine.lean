/-
  LineStations: the plain law. No condition.
-/
import Derived.Test.YtgcmklniacjcfaaLoads
import Derived.Test.YtgcmklniacjcfaaRep
namespace Go.Proofs.Ytgcmklniacjcfaa
open Go Go.Proofs.Ytgcmklniacjcfaa.Fw
set_option linter.unusedVariables false
set_option linter.unusedSimpArgs false

theorem shl_one {i : Nat} (hi : i ≤ 24) : ishl .i64 1 (i : Int) = ((2 ^ i : Nat) : Int) := by
  unfold ishl
  have h1 : min (Int.toNat (i : Int)) IntKind.i64.bits = i := by
    rw [Int.toNat_natCast]
    exact Nat.min_eq_left (show i ≤ 64 by omega)
  have h2 : 2 ^ i ≤ 2 ^ 24 := Nat.pow_le_pow_right (by decide) hi
  rw [h1, Int.one_mul, show ((2 : Int) ^ i) = ((2 ^ i : Nat) : Int) by simp]
  have h3 : 2 ^ i ≤ 16777216 := h2
  generalize 2 ^ i = p at h3
  exact IntWalk.i64_in _ (by omega)

theorem pow_small {i : Nat} (hi : i ≤ 24) : 1 ≤ 2 ^ i ∧ 2 ^ i ≤ 16777216 := ⟨Nat.one_le_two_pow, by
  have h2 : 2 ^ i ≤ 2 ^ 24 := Nat.pow_le_pow_right (by decide) hi
  omega⟩

theorem bv_nat {n : Nat} (h : n < 4611686018427387904) : (BitVec.ofInt 64 (n : Int)).toNat = n := by
  rw [BitVec.ofInt_natCast, BitVec.toNat_ofNat]
  omega

theorem or_nat {a b : Nat} (ha : a < 4096) (hb : b < 4096) : ibits .or .i64 (a : Int) (b : Int) = ((a ||| b : Nat) : Int) := by
  unfold ibits
  show IntKind.wrap .i64 ((BitVec.toNat (BitVec.ofInt 64 (a : Int) ||| BitVec.ofInt 64 (b : Int)) : Nat) : Int) = _
  rw [BitVec.toNat_or, bv_nat (by omega), bv_nat (by omega)]
  have : a ||| b < 2 ^ 12 := Nat.or_lt_two_pow (by omega) (by omega)
  exact IntWalk.i64_in _ (by omega)

theorem bit_nat {d i : Nat} (hd : d < 4096) (hi : i ≤ 24) : (ibits .and .i64 (ishr .i64 (d : Int) (i : Int)) 1 == 1) = d.testBit i := by
  have h1 : ishr .i64 (d : Int) (i : Int) = ((d >>> i : Nat) : Int) := by
    unfold ishr
    have h1 : min (Int.toNat (i : Int)) IntKind.i64.bits = i := by
      rw [Int.toNat_natCast]
      exact Nat.min_eq_left (show i ≤ 64 by omega)
    rw [h1, show ((2 : Int) ^ i) = ((2 ^ i : Nat) : Int) by simp, Int.fdiv_eq_ediv_of_nonneg _ (Int.natCast_nonneg _), Nat.shiftRight_eq_div_pow]
    rfl
  have hs : d >>> i ≤ d := Nat.shiftRight_le d i
  rw [h1]
  unfold ibits
  show (IntKind.wrap .i64 ((BitVec.toNat (BitVec.ofInt 64 ((d >>> i : Nat) : Int) &&& BitVec.ofInt 64 ((1 : Nat) : Int)) : Nat) : Int) == 1) = _
  rw [BitVec.toNat_and, bv_nat (by omega), bv_nat (by omega), Nat.and_one_is_mod]
  have hm : d >>> i % 2 < 2 := Nat.mod_lt _ (by decide)
  rw [IntWalk.i64_in _ (by omega)]
  unfold Nat.testBit
  rw [Nat.one_and_eq_mod_two]
  rcases Nat.lt_or_ge 0 (d >>> i % 2) with h | h
  · rw [show d >>> i % 2 = 1 by omega]; rfl
  · rw [show d >>> i % 2 = 0 by omega]; rfl

theorem andnot_zero {a d i : Nat} (ha : a < 2 ^ i) (hi : i ≤ 12) (hd : d < 4096) (hb : ∀ j, j < i → d.testBit j = true) : ibits .andNot .i64 (a : Int) (d : Int) = 0 := by
  have := pow_small (i := i) (by omega)
  have h12 : 2 ^ i ≤ 2 ^ 12 := Nat.pow_le_pow_right (by decide) hi
  unfold ibits
  show IntKind.wrap .i64 ((BitVec.toNat (BitVec.ofInt 64 (a : Int) &&& ~~~BitVec.ofInt 64 (d : Int)) : Nat) : Int) = 0
  have hz : BitVec.ofInt 64 (a : Int) &&& ~~~BitVec.ofInt 64 (d : Int) = 0#64 := by
    apply BitVec.eq_of_getLsbD_eq
    intro j hj
    rw [BitVec.getLsbD_and, BitVec.getLsbD_not, BitVec.getLsbD, BitVec.getLsbD, bv_nat (by omega), bv_nat (by omega)]
    by_cases hji : j < i
    · rw [hb j hji]
      simp
    · rw [Nat.testBit_lt_two_pow (Nat.lt_of_lt_of_le ha (Nat.pow_le_pow_right (by decide) (by omega)))]
      simp
  rw [hz]
  rfl

/-- How many of the first bits are not set. -/
def und : Nat → Nat → Nat
  | 0, _ => 0
  | n + 1, d => und n d + (if d.testBit n then 0 else 1)

theorem und_le (n d : Nat) : und n d ≤ n := by
  induction n with
  | zero => exact Nat.le_refl _
  | succ n ih =>
    unfold und
    split <;> omega

theorem und_or_ge {n d i : Nat} (h : n ≤ i) : und n (d ||| 2 ^ i) = und n d := by
  induction n with
  | zero => rfl
  | succ n ih =>
    unfold und
    rw [ih (by omega), Nat.testBit_or, Nat.testBit_two_pow_of_ne (by omega), Bool.or_false]

theorem und_or {n d i : Nat} (h : i < n) (hd : d.testBit i = false) : und n (d ||| 2 ^ i) + 1 = und n d := by
  induction n with
  | zero => omega
  | succ n ih =>
    unfold und
    by_cases hin : i = n
    · subst hin
      rw [und_or_ge (Nat.le_refl _), Nat.testBit_or, Nat.testBit_two_pow_self, hd]
      simp
    · rw [Nat.testBit_or, Nat.testBit_two_pow_of_ne hin, Bool.or_false, ← ih (by omega)]
      omega

theorem full_of {n d : Nat} (hd : d < 2 ^ n) (h : ∀ i, i < n → d.testBit i = true) : d = 2 ^ n - 1 := by
  apply Nat.eq_of_testBit_eq
  intro i
  rw [Nat.testBit_two_pow_sub_one]
  by_cases hi : i < n
  · rw [h i hi, decide_eq_true hi]
  · rw [Nat.testBit_lt_two_pow (Nat.lt_of_lt_of_le hd (Nat.pow_le_pow_right (by decide) (by omega))), decide_eq_false hi]

theorem low_ex {p : Nat → Prop} : ∀ k, p k → ∃ q, q ≤ k ∧ p q ∧ ∀ j, j < q → ¬ p j := by
  intro k
  induction k using Nat.strongRecOn with
  | _ k ih =>
    intro hk
    by_cases h : ∃ j, j < k ∧ p j
    · obtain ⟨j, h1, h2⟩ := h
      obtain ⟨q, h3, h4, h5⟩ := ih j h1 h2
      exact ⟨q, by omega, h4, h5⟩
    · exact ⟨k, Nat.le_refl _, hk, fun j hj hp => h ⟨j, hj, hp⟩⟩

def lineB (xs bs : List Int) : Bool := lineOk xs && (decide (bs.length = xs.length) && (List.range bs.length).all fun i => within 0 (((2 ^ i : Nat) : Int) - 1) (bs.getD i 0))

theorem fin_lb' {Q : List Int → Prop} {A B : Option (List Int × Bool × Unit)} (h : ∃ r, A = some r ∧ B = some r ∧ Q r.1) : ∃ l b, A = some (l, b, ()) ∧ B = some (l, b, ()) ∧ Q l := by
  obtain ⟨⟨l, b, u⟩, h1, h2, h3⟩ := h
  exact ⟨l, b, h1, h2, h3⟩

section
variable {N : Nat} (hN : 9223372036854775808 ≤ N)
include hN

theorem l04Line_eq {xs bs : List Int} (hx : xs.length ≤ 1048576) : spec_l04Line N xs bs = some (lineB xs bs, ()) := by
  unfold spec_l04Line lineB
  rw [l04Tasks_eq hN hx]
  simp only [Option.bind_some]
  cases hk : lineOk xs
  · rfl
  simp only [Bool.not_true, cond_false, Bool.true_and]
  unfold lineOk at hk
  simp only [Bool.and_eq_true] at hk
  have hk := within_iff.1 hk.1
  by_cases hl : bs.length = xs.length
  · rw [show ((List.length bs : Int) != (List.length xs : Int)) = false by simp [hl], cond_false, decide_eq_true hl, Bool.true_and]
    rw [range_loop hN (n := bs.length) (by omega) (fun i => within 0 (((2 ^ i : Nat) : Int) - 1) (bs.getD i 0)) (some (false, ())) (some (true, ()))]
    · cases (List.range bs.length).all fun i => within 0 (((2 ^ i : Nat) : Int) - 1) (bs.getD i 0) <;> rfl
    · intro s next e
      simp only [e, Int.lt_irrefl, decide_false, cond_false]
    · rintro k ⟨_, u⟩ next rfl hkn g
      have hp := pow_small (i := k) (by omega)
      simp only [show decide ((k : Int) < (bs.length : Int)) = true from by simpa using hkn, cond_true, idx_int hkn, Option.bind_some, IntWalk.u64_in (k : Int) (by omega), decide_eq_false (show ¬ (k : Int) < 0 by omega), cond_false, shl_one (i := k) (by omega), w64_in (n := ((2 ^ k : Nat) : Int) - 1) (by omega), l00In_eq, g]
      cases within 0 (((2 ^ k : Nat) : Int) - 1) (bs.getD k 0) <;> rfl
  · rw [show ((List.length bs : Int) != (List.length xs : Int)) = true by simp; omega, cond_true, decide_eq_false hl]
    rfl

theorem IsLineB_eq {xs bs : List Int} (hx : xs.length ≤ 1048576) : impl_IsLine N xs bs = some (lineB xs bs, ()) := by
  unfold impl_IsLine lineB
  rw [areLine_eq hN hx]
  simp only [Option.bind_some]
  cases hk : lineOk xs
  · rfl
  simp only [Bool.not_true, cond_false, Bool.true_and]
  unfold lineOk at hk
  simp only [Bool.and_eq_true] at hk
  have hk := within_iff.1 hk.1
  by_cases hl : bs.length = xs.length
  · rw [show ((List.length bs : Int) != (List.length xs : Int)) = false by simp [hl], cond_false, decide_eq_true hl, Bool.true_and]
    rw [range_loop hN (n := bs.length) (by omega) (fun i => within 0 (((2 ^ i : Nat) : Int) - 1) (bs.getD i 0)) (some (false, ())) (some (true, ()))]
    · cases (List.range bs.length).all fun i => within 0 (((2 ^ i : Nat) : Int) - 1) (bs.getD i 0) <;> rfl
    · intro s next e
      simp only [e, Int.lt_irrefl, decide_false, cond_false]
    · rintro k ⟨_, u⟩ next rfl hkn g
      have hp := pow_small (i := k) (by omega)
      simp only [show decide ((k : Int) < (bs.length : Int)) = true from by simpa using hkn, cond_true, idx_int hkn, Option.bind_some, decide_eq_false (show ¬ (k : Int) < 0 by omega), cond_false, shl_one (i := k) (by omega), w64_in (n := ((2 ^ k : Nat) : Int) - 1) (by omega), within_eq, g]
      cases within 0 (((2 ^ k : Nat) : Int) - 1) (bs.getD k 0) <;> rfl
  · rw [show ((List.length bs : Int) != (List.length xs : Int)) = true by simp; omega, cond_true, decide_eq_false hl]
    rfl

end

end Go.Proofs.Ytgcmklniacjcfaa
