/-
  What impl.fewestStations and impl.LeastStations compute, over plain values. No condition.
-/
import Derived.Test.YtgcmklniacjcfaaFwV
namespace Go.Proofs.Ytgcmklniacjcfaa.Ls
open Go Go.Proofs.Ytgcmklniacjcfaa Go.Proofs.Ytgcmklniacjcfaa.Fw
set_option linter.unusedVariables false
set_option linter.unusedSimpArgs false

/-- The table: for each set of tasks the stations and the last one's load, and whether they are known. -/
abbrev TabS := (Nat → Int × Int) × (Nat → Bool)

def upd {α : Type} (f : Nat → α) (i : Nat) (v : α) : Nat → α := fun j => if j = i then v else f j

/-- A task more. -/
def nextT (c : Int) (o : Int × Int) (x : Int) : Int × Int := if o.2 + x > c then (o.1 + 1, x) else (o.1, o.2 + x)

def lessT (a b : Int × Int) : Bool := decide (a.1 < b.1) || (a.1 == b.1 && decide (a.2 < b.2))

def skipT (bs : List Int) (d i : Nat) : Bool := d.testBit i || (ibits .andNot .i64 (bs.getD i 0) (d : Int) != 0)

/-- One task, put behind a set. -/
def stepT (xs bs : List Int) (c : Int) (d i : Nat) (S : TabS) : TabS :=
  cond (skipT bs d i) S (cond (!S.2 (d ||| 2 ^ i) || lessT (nextT c (S.1 d) (xs.getD i 0)) (S.1 (d ||| 2 ^ i)))
    (upd S.1 (d ||| 2 ^ i) (nextT c (S.1 d) (xs.getD i 0)), upd S.2 (d ||| 2 ^ i) true) S)

def inT (xs bs : List Int) (c : Int) (d : Nat) (S : TabS) : Nat → TabS
  | 0 => S
  | k + 1 => stepT xs bs c d k (inT xs bs c d S k)

def outT (xs bs : List Int) (c : Int) : Nat → TabS
  | 0 => (upd (fun _ => (0, 0)) 0 (1, 0), upd (fun _ => false) 0 true)
  | d + 1 => cond ((outT xs bs c d).2 d) (inT xs bs c d (outT xs bs c d) xs.length) (outT xs bs c d)

def fewT (xs bs : List Int) (c : Int) : Int := ((outT xs bs c (2 ^ xs.length)).1 (2 ^ xs.length - 1)).1

/-- No number grows too great. -/
structure OkS (c : Int) (S : TabS) : Prop where
  st : ∀ j, 0 ≤ (S.1 j).1 ∧ (S.1 j).1 ≤ (j : Int) + 1
  ld : ∀ j, 0 ≤ (S.1 j).2 ∧ (S.1 j).2 ≤ c

theorem or_gt {d i : Nat} (h : d.testBit i = false) : d + 1 ≤ d ||| 2 ^ i := by
  have h1 : d ≤ d ||| 2 ^ i := Nat.left_le_or
  rcases Nat.lt_or_ge d (d ||| 2 ^ i) with h2 | h2
  · exact h2
  · have h3 : d ||| 2 ^ i = d := Nat.le_antisymm h2 h1
    have : (d ||| 2 ^ i).testBit i = true := by rw [Nat.testBit_or, Nat.testBit_two_pow_self, Bool.or_true]
    rw [h3, h] at this
    cases this

theorem shl_one {i : Nat} (hi : i ≤ 24) : ishl .i64 1 (i : Int) = ((2 ^ i : Nat) : Int) := by
  unfold ishl
  have h1 : min (Int.toNat (i : Int)) IntKind.i64.bits = i := by
    rw [Int.toNat_natCast]
    exact Nat.min_eq_left (show i ≤ 64 by omega)
  have h2 : 2 ^ i ≤ 2 ^ 24 := Nat.pow_le_pow_right (by decide) hi
  rw [h1, Int.one_mul, show ((2 : Int) ^ i) = ((2 ^ i : Nat) : Int) by simp]
  have h3 : 2 ^ i ≤ 16777216 := h2
  generalize 2 ^ i = p at h3
  exact IntWalk.i64_in _ (by omega)

theorem pow_small {i : Nat} (hi : i ≤ 24) : 1 ≤ 2 ^ i ∧ 2 ^ i ≤ 16777216 := ⟨Nat.one_le_two_pow, by
  have h2 : 2 ^ i ≤ 2 ^ 24 := Nat.pow_le_pow_right (by decide) hi
  omega⟩

theorem bv_nat {n : Nat} (h : n < 4611686018427387904) : (BitVec.ofInt 64 (n : Int)).toNat = n := by
  rw [BitVec.ofInt_natCast, BitVec.toNat_ofNat]
  omega

theorem or_nat {a b : Nat} (ha : a < 4096) (hb : b < 4096) : ibits .or .i64 (a : Int) (b : Int) = ((a ||| b : Nat) : Int) := by
  unfold ibits
  show IntKind.wrap .i64 ((BitVec.toNat (BitVec.ofInt 64 (a : Int) ||| BitVec.ofInt 64 (b : Int)) : Nat) : Int) = _
  rw [BitVec.toNat_or, bv_nat (by omega), bv_nat (by omega)]
  have : a ||| b < 2 ^ 12 := Nat.or_lt_two_pow (by omega) (by omega)
  exact IntWalk.i64_in _ (by omega)

theorem bit_nat {d i : Nat} (hd : d < 4096) (hi : i ≤ 24) : (ibits .and .i64 (ishr .i64 (d : Int) (i : Int)) 1 == 1) = d.testBit i := by
  have h1 : ishr .i64 (d : Int) (i : Int) = ((d >>> i : Nat) : Int) := by
    unfold ishr
    have h1 : min (Int.toNat (i : Int)) IntKind.i64.bits = i := by
      rw [Int.toNat_natCast]
      exact Nat.min_eq_left (show i ≤ 64 by omega)
    rw [h1, show ((2 : Int) ^ i) = ((2 ^ i : Nat) : Int) by simp, Int.fdiv_eq_ediv_of_nonneg _ (Int.natCast_nonneg _), Nat.shiftRight_eq_div_pow]
    rfl
  have hs : d >>> i ≤ d := Nat.shiftRight_le d i
  rw [h1]
  unfold ibits
  show (IntKind.wrap .i64 ((BitVec.toNat (BitVec.ofInt 64 ((d >>> i : Nat) : Int) &&& BitVec.ofInt 64 ((1 : Nat) : Int)) : Nat) : Int) == 1) = _
  rw [BitVec.toNat_and, bv_nat (by omega), bv_nat (by omega), Nat.and_one_is_mod]
  have hm : d >>> i % 2 < 2 := Nat.mod_lt _ (by decide)
  rw [IntWalk.i64_in _ (by omega)]
  unfold Nat.testBit
  rw [Nat.one_and_eq_mod_two]
  rcases Nat.lt_or_ge 0 (d >>> i % 2) with h | h
  · rw [show d >>> i % 2 = 1 by omega]; rfl
  · rw [show d >>> i % 2 = 0 by omega]; rfl

theorem andnot_zero {a d i : Nat} (ha : a < 2 ^ i) (hi : i ≤ 12) (hd : d < 4096) (hb : ∀ j, j < i → d.testBit j = true) : ibits .andNot .i64 (a : Int) (d : Int) = 0 := by
  have := pow_small (i := i) (by omega)
  have h12 : 2 ^ i ≤ 2 ^ 12 := Nat.pow_le_pow_right (by decide) hi
  unfold ibits
  show IntKind.wrap .i64 ((BitVec.toNat (BitVec.ofInt 64 (a : Int) &&& ~~~BitVec.ofInt 64 (d : Int)) : Nat) : Int) = 0
  have hz : BitVec.ofInt 64 (a : Int) &&& ~~~BitVec.ofInt 64 (d : Int) = 0#64 := by
    apply BitVec.eq_of_getLsbD_eq
    intro j hj
    rw [BitVec.getLsbD_and, BitVec.getLsbD_not, BitVec.getLsbD, BitVec.getLsbD, bv_nat (by omega), bv_nat (by omega)]
    by_cases hji : j < i
    · rw [hb j hji]
      simp
    · rw [Nat.testBit_lt_two_pow (Nat.lt_of_lt_of_le ha (Nat.pow_le_pow_right (by decide) (by omega)))]
      simp
  rw [hz]
  rfl


theorem bit_val {d i : Nat} (hd : d < 4096) (hi : i ≤ 24) : ibits .and .i64 ((d : Int) / 2 ^ i) 1 = if d.testBit i then 1 else 0 := by
  have h1 : ((d : Int) / 2 ^ i) = ((d >>> i : Nat) : Int) := by
    rw [show ((2 : Int) ^ i) = ((2 ^ i : Nat) : Int) by simp, Nat.shiftRight_eq_div_pow]
    rfl
  have hs : d >>> i ≤ d := Nat.shiftRight_le d i
  rw [h1]
  unfold ibits
  show IntKind.wrap .i64 ((BitVec.toNat (BitVec.ofInt 64 ((d >>> i : Nat) : Int) &&& BitVec.ofInt 64 ((1 : Nat) : Int)) : Nat) : Int) = _
  rw [BitVec.toNat_and, bv_nat (by omega), bv_nat (by omega), Nat.and_one_is_mod]
  have hm : d >>> i % 2 < 2 := Nat.mod_lt _ (by decide)
  rw [IntWalk.i64_in _ (by omega)]
  unfold Nat.testBit
  rw [Nat.one_and_eq_mod_two]
  rcases Nat.lt_or_ge 0 (d >>> i % 2) with h | h
  · rw [show d >>> i % 2 = 1 by omega]; rfl
  · rw [show d >>> i % 2 = 0 by omega]; rfl

theorem okS_zero {c : Int} (hc : 0 ≤ c) : OkS c (upd (fun _ => (0, 0)) 0 (1, 0), upd (fun _ => false) 0 true) := by
  refine ⟨fun j => ?_, fun j => ?_⟩ <;> simp only [upd] <;> split <;> simp <;> omega

theorem okS_step {xs bs : List Int} {c : Int} (hx : ∀ i, i < xs.length → 0 ≤ xs.getD i 0 ∧ xs.getD i 0 ≤ c) {d i : Nat} (hi : i < xs.length) (hn : xs.length ≤ 12) (hd : d < 2 ^ xs.length) {S : TabS} (h : OkS c S) : OkS c (stepT xs bs c d i S) := by
  unfold stepT
  cases hs : skipT bs d i with
  | true => exact h
  | false =>
    rw [cond_false]
    have hd12 : d < 4096 := Nat.lt_of_lt_of_le hd (Nat.pow_le_pow_right (by decide) hn)
    have hb : d.testBit i = false := by
      unfold skipT at hs
      rw [Bool.or_eq_false_iff] at hs
      exact hs.1
    have hgt := or_gt hb
    generalize d ||| 2 ^ i = to at *
    cases !S.2 to || lessT (nextT c (S.1 d) (xs.getD i 0)) (S.1 to) with
    | false => exact h
    | true =>
      rw [cond_true]
      have h1 := h.st d
      have h2 := h.ld d
      have h3 := hx i hi
      refine ⟨fun j => ?_, fun j => ?_⟩
      all_goals
        simp only [upd]
        split
        · unfold nextT
          split <;> simp only <;> omega
        · first | exact h.st j | exact h.ld j

theorem okS_in {xs bs : List Int} {c : Int} (hx : ∀ i, i < xs.length → 0 ≤ xs.getD i 0 ∧ xs.getD i 0 ≤ c) {d : Nat} (hn : xs.length ≤ 12) (hd : d < 2 ^ xs.length) {S : TabS} (h : OkS c S) : ∀ k, k ≤ xs.length → OkS c (inT xs bs c d S k) := by
  intro k
  induction k with
  | zero => intro _; exact h
  | succ k ih => intro hk; exact okS_step hx (by omega) hn hd (ih (by omega))

theorem okS_out {xs bs : List Int} {c : Int} (hc : 0 ≤ c) (hx : ∀ i, i < xs.length → 0 ≤ xs.getD i 0 ∧ xs.getD i 0 ≤ c) (hn : xs.length ≤ 12) : ∀ d, d ≤ 2 ^ xs.length → OkS c (outT xs bs c d) := by
  intro d
  induction d with
  | zero => intro _; exact okS_zero hc
  | succ d ih =>
    intro hd
    have h := ih (by omega)
    unfold outT
    cases (outT xs bs c d).2 d with
    | false => exact h
    | true => exact okS_in hx hn (by omega) h _ (Nat.le_refl _)

end Go.Proofs.Ytgcmklniacjcfaa.Ls
