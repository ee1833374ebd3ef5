/-
  LineStations: the plain law. No condition.
-/
import Derived.Test.YtblmginpolckoaaLoads
import Derived.Test.YtblmginpolckoaaRep
namespace Go.Proofs.Ytblmginpolckoaa
open Go Go.Proofs.Ytblmginpolckoaa.Fw
set_option linter.unusedVariables false
set_option linter.unusedSimpArgs false

theorem shl_one {i : Nat} (hi : i ≤ 24) : ishl .i64 1 (i : Int) = ((2 ^ i : Nat) : Int) := by
  unfold ishl
  have h1 : min (Int.toNat (i : Int)) IntKind.i64.bits = i := by
    rw [Int.toNat_natCast]
    exact Nat.min_eq_left (show i ≤ 64 by omega)
  have h2 : 2 ^ i ≤ 2 ^ 24 := Nat.pow_le_pow_right (by decide) hi
  rw [h1, Int.one_mul, show ((2 : Int) ^ i) = ((2 ^ i : Nat) : Int) by simp]
  have h3 : 2 ^ i ≤ 16777216 := h2
  generalize 2 ^ i = p at h3
  exact IntWalk.i64_in _ (by omega)

theorem pow_small {i : Nat} (hi : i ≤ 24) : 1 ≤ 2 ^ i ∧ 2 ^ i ≤ 16777216 := ⟨Nat.one_le_two_pow, by
  have h2 : 2 ^ i ≤ 2 ^ 24 := Nat.pow_le_pow_right (by decide) hi
  omega⟩

theorem bv_nat {n : Nat} (h : n < 4611686018427387904) : (BitVec.ofInt 64 (n : Int)).toNat = n := by
  rw [BitVec.ofInt_natCast, BitVec.toNat_ofNat]
  omega

theorem or_nat {a b : Nat} (ha : a < 4096) (hb : b < 4096) : ibits .or .i64 (a : Int) (b : Int) = ((a ||| b : Nat) : Int) := by
  unfold ibits
  show IntKind.wrap .i64 ((BitVec.toNat (BitVec.ofInt 64 (a : Int) ||| BitVec.ofInt 64 (b : Int)) : Nat) : Int) = _
  rw [BitVec.toNat_or, bv_nat (by omega), bv_nat (by omega)]
  have : a ||| b < 2 ^ 12 := Nat.or_lt_two_pow (by omega) (by omega)
  exact IntWalk.i64_in _ (by omega)

theorem bit_nat {d i : Nat} (hd : d < 4096) (hi : i ≤ 24) : (ibits .and .i64 (ishr .i64 (d : Int) (i : Int)) 1 == 1) = d.testBit i := by
  have h1 : ishr .i64 (d : Int) (i : Int) = ((d >>> i : Nat) : Int) := by
    unfold ishr
    have h1 : min (Int.toNat (i : Int)) IntKind.i64.bits = i := by
      rw [Int.toNat_natCast]
      exact Nat.min_eq_left (show i ≤ 64 by omega)
    rw [h1, show ((2 : Int) ^ i) = ((2 ^ i : Nat) : Int) by simp, Int.fdiv_eq_ediv_of_nonneg _ (Int.natCast_nonneg _), Nat.shiftRight_eq_div_pow]
    rfl
  have hs : d >>> i ≤ d := Nat.shiftRight_le d i
  rw [h1]
  unfold ibits
  show (IntKind.wrap .i64 ((BitVec.toNat (BitVec.ofInt 64 ((d >>> i : Nat) : Int) &&& BitVec.ofInt 64 ((1 : Nat) : Int)) : Nat) : Int) == 1) = _
  rw [BitVec.toNat_and, bv_nat (by omega), bv_nat (by omega), Nat.and_one_is_mod]
  have hm : d >>> i % 2 < 2 := Nat.mod_lt _ (by decide)
  rw [IntWalk.i64_in _ (by omega)]
  unfold Nat.testBit
  rw [Nat.one_and_eq_mod_two]
  rcases Nat.lt_or_ge 0 (d >>> i % 2) with h | h
  · rw [show d >>> i % 2 = 1 by omega]; rfl
  · rw [show d >>> i % 2 = 0 by omega]; rfl

theorem andnot_zero {a d i : Nat} (ha : a < 2 ^ i) (hi : i ≤ 12) (hd : d < 4096) (hb : ∀ j, j < i → d.testBit j = true) : ibits .andNot .i64 (a : Int) (d : Int) = 0 := by
  have := pow_small (i := i) (by omega)
  have h12 : 2 ^ i ≤ 2 ^ 12 := Nat.pow_le_pow_right (by decide) hi
  unfold ibits
  show IntKind.wrap .i64 ((BitVec.toNat (BitVec.ofInt 64 (a : Int) &&& ~~~BitVec.ofInt 64 (d : Int)) : Nat) : Int) = 0
  have hz : BitVec.ofInt 64 (a : Int) &&& ~~~BitVec.ofInt 64 (d : Int) = 0#64 := by
    apply BitVec.eq_of_getLsbD_eq
    intro j hj
    rw [BitVec.getLsbD_and, BitVec.getLsbD_not, BitVec.getLsbD, BitVec.getLsbD, bv_nat (by omega), bv_nat (by omega)]
    by_cases hji : j < i
    · rw [hb j hji]
      simp
    · rw [Nat.testBit_lt_two_pow (Nat.lt_of_lt_of_le ha (Nat.pow_le_pow_right (by decide) (by omega)))]
      simp
  rw [hz]
  rfl

/-- How many of the first bits are not set. -/
def und : Nat → Nat → Nat
  | 0, _ => 0
  | n + 1, d => und n d + (if d.testBit n then 0 else 1)

theorem und_le (n d : Nat) : und n d ≤ n := by
  induction n with
  | zero => exact Nat.le_refl _
  | succ n ih =>
    unfold und
    split <;> omega

theorem und_or_ge {n d i : Nat} (h : n ≤ i) : und n (d ||| 2 ^ i) = und n d := by
  induction n with
  | zero => rfl
  | succ n ih =>
    unfold und
    rw [ih (by omega), Nat.testBit_or, Nat.testBit_two_pow_of_ne (by omega), Bool.or_false]

theorem und_or {n d i : Nat} (h : i < n) (hd : d.testBit i = false) : und n (d ||| 2 ^ i) + 1 = und n d := by
  induction n with
  | zero => omega
  | succ n ih =>
    unfold und
    by_cases hin : i = n
    · subst hin
      rw [und_or_ge (Nat.le_refl _), Nat.testBit_or, Nat.testBit_two_pow_self, hd]
      simp
    · rw [Nat.testBit_or, Nat.testBit_two_pow_of_ne hin, Bool.or_false, ← ih (by omega)]
      omega

theorem full_of {n d : Nat} (hd : d < 2 ^ n) (h : ∀ i, i < n → d.testBit i = true) : d = 2 ^ n - 1 := by
  apply Nat.eq_of_testBit_eq
  intro i
  rw [Nat.testBit_two_pow_sub_one]
  by_cases hi : i < n
  · rw [h i hi, decide_eq_true hi]
  · rw [Nat.testBit_lt_two_pow (Nat.lt_of_lt_of_le hd (Nat.pow_le_pow_right (by decide) (by omega))), decide_eq_false hi]

theorem low_ex {p : Nat → Prop} : ∀ k, p k → ∃ q, q ≤ k ∧ p q ∧ ∀ j, j < q → ¬ p j := by
  intro k
  induction k using Nat.strongRecOn with
  | _ k ih =>
    intro hk
    by_cases h : ∃ j, j < k ∧ p j
    · obtain ⟨j, h1, h2⟩ := h
      obtain ⟨q, h3, h4, h5⟩ := ih j h1 h2
      exact ⟨q, by omega, h4, h5⟩
    · exact ⟨k, Nat.le_refl _, hk, fun j hj hp => h ⟨j, hj, hp⟩⟩

def lineB (xs bs : List Int) : Bool := lineOk xs && (decide (bs.length = xs.length) && (List.range bs.length).all fun i => within 0 (((2 ^ i : Nat) : Int) - 1) (bs.getD i 0))

theorem fin_lb' {Q : List Int → Prop} {A B : Option (List Int × Bool × Unit)} (h : ∃ r, A = some r ∧ B = some r ∧ Q r.1) : ∃ l b, A = some (l, b, ()) ∧ B = some (l, b, ()) ∧ Q l := by
  obtain ⟨⟨l, b, u⟩, h1, h2, h3⟩ := h
  exact ⟨l, b, h1, h2, h3⟩

section
variable {N : Nat} (hN : 9223372036854775808 ≤ N)
include hN

theorem l04Line_eq {xs bs : List Int} (hx : xs.length ≤ 1048576) : spec_l04Line N xs bs = some (lineB xs bs, ()) := by
  unfold spec_l04Line lineB
  rw [l04Tasks_eq hN hx]
  simp only [Option.bind_some]
  cases hk : lineOk xs
  · rfl
  simp only [Bool.not_true, cond_false, Bool.true_and]
  unfold lineOk at hk
  simp only [Bool.and_eq_true] at hk
  have hk := within_iff.1 hk.1
  by_cases hl : bs.length = xs.length
  · rw [show ((List.length bs : Int) != (List.length xs : Int)) = false by simp [hl], cond_false, decide_eq_true hl, Bool.true_and]
    rw [range_loop hN (n := bs.length) (by omega) (fun i => within 0 (((2 ^ i : Nat) : Int) - 1) (bs.getD i 0)) (some (false, ())) (some (true, ()))]
    · cases (List.range bs.length).all fun i => within 0 (((2 ^ i : Nat) : Int) - 1) (bs.getD i 0) <;> rfl
    · intro s next e
      simp only [e, Int.lt_irrefl, decide_false, cond_false]
    · rintro k ⟨_, u⟩ next rfl hkn g
      have hp := pow_small (i := k) (by omega)
      simp only [show decide ((k : Int) < (bs.length : Int)) = true from by simpa using hkn, cond_true, idx_int hkn, Option.bind_some, IntWalk.u64_in (k : Int) (by omega), decide_eq_false (show ¬ (k : Int) < 0 by omega), cond_false, shl_one (i := k) (by omega), w64_in (n := ((2 ^ k : Nat) : Int) - 1) (by omega), l00In_eq, g]
      cases within 0 (((2 ^ k : Nat) : Int) - 1) (bs.getD k 0) <;> rfl
  · rw [show ((List.length bs : Int) != (List.length xs : Int)) = true by simp; omega, cond_true, decide_eq_false hl]
    rfl

theorem IsLineB_eq {xs bs : List Int} (hx : xs.length ≤ 1048576) : impl_IsLine N xs bs = some (lineB xs bs, ()) := by
  unfold impl_IsLine lineB
  rw [areLine_eq hN hx]
  simp only [Option.bind_some]
  cases hk : lineOk xs
  · rfl
  simp only [Bool.not_true, cond_false, Bool.true_and]
  unfold lineOk at hk
  simp only [Bool.and_eq_true] at hk
  have hk := within_iff.1 hk.1
  by_cases hl : bs.length = xs.length
  · rw [show ((List.length bs : Int) != (List.length xs : Int)) = false by simp [hl], cond_false, decide_eq_true hl, Bool.true_and]
    rw [range_loop hN (n := bs.length) (by omega) (fun i => within 0 (((2 ^ i : Nat) : Int) - 1) (bs.getD i 0)) (some (false, ())) (some (true, ()))]
    · cases (List.range bs.length).all fun i => within 0 (((2 ^ i : Nat) : Int) - 1) (bs.getD i 0) <;> rfl
    · intro s next e
      simp only [e, Int.lt_irrefl, decide_false, cond_false]
    · rintro k ⟨_, u⟩ next rfl hkn g
      have hp := pow_small (i := k) (by omega)
      simp only [show decide ((k : Int) < (bs.length : Int)) = true from by simpa using hkn, cond_true, idx_int hkn, Option.bind_some, decide_eq_false (show ¬ (k : Int) < 0 by omega), cond_false, shl_one (i := k) (by omega), w64_in (n := ((2 ^ k : Nat) : Int) - 1) (by omega), within_eq, g]
      cases within 0 (((2 ^ k : Nat) : Int) - 1) (bs.getD k 0) <;> rfl
  · rw [show ((List.length bs : Int) != (List.length xs : Int)) = true by simp; omega, cond_true, decide_eq_false hl]
    rfl

theorem LineStations_law {xs bs : List Int} {cy : Int} (hx : xs.length ≤ 1048576) : ∃ l b, spec_LineStations N xs bs cy = some (l, b, ()) ∧ impl_LineStations N xs bs cy = some (l, b, ()) ∧ l.length ≤ 1048576 := by
  unfold spec_LineStations impl_LineStations spec_l04Cycle impl_isCycle
  simp only [l04Line_eq hN hx, IsLineB_eq hN hx, Option.bind_some, l00In_eq, within_eq]
  cases hb : lineB xs bs
  · exact ⟨[], false, rfl, rfl, by simp⟩
  unfold lineB lineOk at hb
  simp only [Bool.and_eq_true, decide_eq_true_eq] at hb
  obtain ⟨⟨b1, b2⟩, b3, b4⟩ := hb
  have b1 := within_iff.1 b1
  have hbs : ∀ i, i < xs.length → 0 ≤ bs.getD i 0 ∧ bs.getD i 0 ≤ ((2 ^ i : Nat) : Int) - 1 := fun i hi => within_iff.1 (List.all_eq_true.1 b4 i (List.mem_range.2 (by omega)))
  have hxs : ∀ i, i < xs.length → 1 ≤ xs.getD i 0 ∧ xs.getD i 0 ≤ 10000 := fun i hi => all_getD b2 hi
  simp only [Bool.not_true, cond_false]
  cases hc : within 1 10000 cy
  · exact ⟨[], false, rfl, rfl, by simp⟩
  have hc := within_iff.1 hc
  simp only [cond_true, Bool.not_true, cond_false]
  have hmax : ∃ g, spec_l02Greatest N xs = some (g, ()) ∧ slices_Max_int64_int64 N xs = some (g, ()) ∧ ∀ i, i < xs.length → xs.getD i 0 ≤ g := by
    match xs, b1, hx with
    | [], b1, _ => simp at b1
    | x :: l, b1, hx =>
      refine ⟨l.foldl imax x, l02Greatest_eq hN (by omega), slicesMax_eq hN (by omega), fun i hi => ?_⟩
      have hg := foldImax_ge l x
      rcases List.mem_cons.1 (getD_mem hi) with he | he
      · rw [he]; exact hg.1
      · exact hg.2 _ he
  obtain ⟨g, g1, g2, g3⟩ := hmax
  simp only [g1, g2, Option.bind_some]
  by_cases hg : g ≤ cy
  · rw [decide_eq_true hg, decide_eq_false (show ¬ g > cy by omega), none_eq hN (n := xs.length) (by omega), mkOk_of (by omega)]
    simp only [Bool.not_true, cond_false, cond_true, Option.bind_some, Int.toNat_natCast, IntWalk.u64_in (xs.length : Int) (by omega), decide_eq_false (show ¬ (xs.length : Int) < 0 by omega), shl_one (i := xs.length) (by omega)]
    have hP := pow_small (i := xs.length) (by omega)
    have hP12 : 2 ^ xs.length ≤ 4096 := by
      have : 2 ^ xs.length ≤ 2 ^ 12 := Nat.pow_le_pow_right (by decide) (by omega)
      omega
    simp only [w64_in (n := ((2 ^ xs.length : Nat) : Int) - 1) (by omega)]
    have hcast : ((2 ^ xs.length : Nat) : Int) - 1 = ((2 ^ xs.length - 1 : Nat) : Int) := (Int.ofNat_sub hP.1).symm
    refine fin_lb' (Q := fun l => l.length ≤ 1048576) (loop_rel (I := fun s t : List Int × Int × Int × Int × Unit => s.2 = t.2 ∧ s.1.length = xs.length ∧ t.1.length = xs.length ∧ ∃ d : Nat, s.2.1 = (d : Int) ∧ d < 2 ^ xs.length ∧ 0 ≤ s.2.2.1 ∧ s.2.2.1 + (2 * und xs.length d + (if s.2.2.2.1 = 0 then 0 else 1) : Nat) ≤ 100 ∧ 0 ≤ s.2.2.2.1 ∧ s.2.2.2.1 ≤ 10000 ∧
        ∀ i, i < xs.length → if d.testBit i then s.1.getD i 0 = t.1.getD i 0 ∧ 0 ≤ t.1.getD i 0 else t.1.getD i 0 < 0)
      (μ := fun s => 2 * und xs.length s.2.1.toNat + (if s.2.2.2.1 = 0 then 0 else 1)) (Q := fun r : List Int × Bool × Unit => r.1.length ≤ 1048576) ?_ N N _ _
      ⟨rfl, by simp, by simp, 0, rfl, by omega, by simp only; omega, ?_, by simp only; omega, by simp only; omega, fun i hi => ?_⟩ ?_ ?_)
    · rintro ⟨o1, dn, st, ld, u⟩ ⟨o2, _⟩ nA nB ⟨rfl, h1, h2, d, rfl, h3, h4, h5, h6, h7, h8⟩ hn
      simp only at h1 h2 h3 h4 h5 h6 h7 h8 ⊢
      by_cases hfull : d = 2 ^ xs.length - 1
      · rw [show ((d : Int) != ((2 ^ xs.length : Nat) : Int) - 1) = false from by rw [hcast, hfull]; simp, cond_false, cond_false]
        have ho : o1 = o2 := List.ext_getElem (by omega) fun i k1 k2 => by
          have := h8 i (by omega)
          rw [if_pos (by rw [hfull, Nat.testBit_two_pow_sub_one]; simp; omega)] at this
          have := this.1
          rwa [List.getD_eq_getElem?_getD, List.getD_eq_getElem?_getD, List.getElem?_eq_getElem k1, List.getElem?_eq_getElem k2] at this
        subst ho
        exact ⟨_, rfl, rfl, by simp only; omega⟩
      · rw [show ((d : Int) != ((2 ^ xs.length : Nat) : Int) - 1) = true from by
          rw [hcast]
          simp only [bne_iff_ne, ne_eq]
          exact fun h => hfull (Int.ofNat.inj h), cond_true, cond_true]
        have hd : d < 4096 := by omega
        -- there is a task that may come now, if the station is empty
        have hex : ld = 0 → ∃ i, i < xs.length ∧ d.testBit i = false ∧ ibits .andNot .i64 (bs.getD i 0) (d : Int) = 0 ∧ ld + xs.getD i 0 ≤ cy := by
          intro h0
          have : ∃ i, i < xs.length ∧ d.testBit i = false := by
            rcases Classical.em (∃ i, i < xs.length ∧ d.testBit i = false) with h | h
            · exact h
            · refine absurd (full_of h3 (fun i hi => ?_)) hfull
              cases hb : d.testBit i
              · exact absurd ⟨i, hi, hb⟩ h
              · rfl
          obtain ⟨i, hi, hb⟩ := this
          obtain ⟨q, q1, q2, q3⟩ := low_ex (p := fun i => d.testBit i = false) i hb
          have hbq := hbs q (by omega)
          have hxq := hxs q (by omega)
          have hgq := g3 q (by omega)
          refine ⟨q, by omega, q2, ?_, by omega⟩
          obtain ⟨a, ha⟩ : ∃ a : Nat, bs.getD q 0 = (a : Int) := ⟨(bs.getD q 0).toNat, by omega⟩
          rw [ha] at hbq ⊢
          exact andnot_zero (i := q) (by omega) (by omega) hd (fun j hj => by
            have := q3 j hj
            simpa using this)
        refine loop_rel (I := fun s t : Int × Int × Unit => s = t ∧ 0 ≤ s.2.1 ∧ s.2.1 ≤ xs.length ∧ s.1 < s.2.1 ∧ (0 ≤ s.1 → d.testBit s.1.toNat = false ∧ ld + xs.getD s.1.toNat 0 ≤ cy) ∧
            (s.1 < 0 → ∀ j : Nat, (j : Int) < s.2.1 → ¬ (d.testBit j = false ∧ ibits .andNot .i64 (bs.getD j 0) (d : Int) = 0 ∧ ld + xs.getD j 0 ≤ cy))) (μ := fun s => (xs.length - s.2.1).toNat) (Q := fun r : List Int × Bool × Unit => r.1.length ≤ 1048576) ?_ N N _ _
          ⟨rfl, Int.le_refl _, by simp only; omega, by simp only; omega, fun h => by simp only at h; omega, fun _ j hj => by simp only at hj; omega⟩ (by simp only; omega) (by simp only; omega)
        rintro ⟨b, i, u⟩ _ mA mB ⟨rfl, p1, p2, p3, p4, p5⟩ hm
        simp only at p1 p2 p3 p4 p5 ⊢
        by_cases hi : i < (xs.length : Int)
        · obtain ⟨k, rfl⟩ : ∃ k : Nat, i = (k : Int) := ⟨i.toNat, by omega⟩
          have hk : k < xs.length := by omega
          have hxk := hxs k hk
          have h8k := h8 k hk
          simp only [hi, decide_true, cond_true, IntWalk.u64_in (k : Int) (by omega), decide_eq_false (show ¬ (k : Int) < 0 by omega), cond_false, bit_nat hd (i := k) (by omega), idx_int hk, idx_int (show k < bs.length by omega), Option.bind_some, inB_of (n := (k : Int)) (len := o2.length) (by omega), Int.toNat_natCast, get_getD 0 (xs := o2) (n := k) (by omega), w64_in (n := (k : Int) + 1) (by omega), w64_in (n := ld + xs.getD k 0) (by omega)]
          have skip : (¬ (d.testBit k = false ∧ ibits .andNot .i64 (bs.getD k 0) (d : Int) = 0 ∧ ld + xs.getD k 0 ≤ cy)) → ∃ r, mA (b, (k : Int) + 1, ()) = some r ∧ mB (b, (k : Int) + 1, ()) = some r ∧ r.1.length ≤ 1048576 := fun hno =>
            hm _ _ ⟨rfl, by simp only; omega, by simp only; omega, by simp only; omega, p4, fun h j hj => by
              simp only at h hj
              by_cases hjk : j = k
              · subst hjk; exact hno
              · exact p5 h j (by omega)⟩ (by simp only; omega)
          cases hbit : d.testBit k
          · rw [hbit] at h8k
            simp only [Bool.false_eq_true, if_false] at h8k
            rw [decide_eq_false (show ¬ o2.getD k 0 ≥ 0 by omega)]
            simp only [cond_false]
            by_cases han : ibits .andNot .i64 (bs.getD k 0) (d : Int) = 0
            · rw [show (ibits .andNot .i64 (bs.getD k 0) (d : Int) != 0) = false by rw [han]; rfl]
              simp only [cond_false]
              by_cases hld : ld + xs.getD k 0 ≤ cy
              · rw [decide_eq_false (show ¬ ld + xs.getD k 0 > cy by omega)]
                simp only [cond_false]
                have take : ∃ r, mA ((k : Int), (k : Int) + 1, ()) = some r ∧ mB ((k : Int), (k : Int) + 1, ()) = some r ∧ r.1.length ≤ 1048576 :=
                  hm _ _ ⟨rfl, by simp only; omega, by simp only; omega, by simp only; omega, fun _ => ⟨by simpa using hbit, by simpa using hld⟩, fun h => by simp only at h; omega⟩ (by simp only; omega)
                by_cases hb0 : b < 0
                · simp only [hb0, decide_true, cond_true]
                  exact take
                · simp only [hb0, decide_false, cond_false, idx_getD (xs := xs) (n := b) (by omega), Option.bind_some]
                  cases hgt : decide (xs.getD k 0 > xs.getD b.toNat 0)
                  · simp only [cond_false]
                    exact hm _ _ ⟨rfl, by simp only; omega, by simp only; omega, by simp only; omega, p4, fun h => by simp only at h; omega⟩ (by simp only; omega)
                  · simp only [cond_true]
                    exact take
              · rw [decide_eq_true (show ld + xs.getD k 0 > cy by omega)]
                simp only [cond_true]
                exact skip (fun h => hld h.2.2)
            · rw [show (ibits .andNot .i64 (bs.getD k 0) (d : Int) != 0) = true by simp only [bne_iff_ne, ne_eq]; exact han]
              simp only [cond_true]
              exact skip (fun h => han h.2.1)
          · rw [hbit] at h8k
            simp only [if_true] at h8k
            rw [decide_eq_true (show o2.getD k 0 ≥ 0 from h8k.2)]
            simp only [cond_true]
            exact skip (fun h => by rw [hbit] at h; cases h.1)
        · simp only [hi, decide_false, cond_false]
          by_cases hb0 : b < 0
          · have hld : ld ≠ 0 := fun h0 => by
              obtain ⟨j, j1, j2, j3, j4⟩ := hex h0
              exact p5 hb0 j (by omega) ⟨j2, j3, j4⟩
            rw [if_neg hld] at h5
            simp only [hb0, decide_true, cond_true, w64_in (n := st + 1) (by omega)]
            refine hn _ _ ⟨rfl, h1, h2, d, rfl, h3, by simp only; omega, by simp only [if_true]; omega, by simp only; omega, by simp only; omega, h8⟩ ?_
            simp only [Int.toNat_natCast, if_true, if_neg hld]
            omega
          · obtain ⟨k, rfl⟩ : ∃ k : Nat, b = (k : Int) := ⟨b.toNat, by omega⟩
            have hk : k < xs.length := by omega
            obtain ⟨q1, q2⟩ := p4 (by omega)
            simp only [Int.toNat_natCast] at q1 q2
            have hxk := hxs k hk
            have hpk := pow_small (i := k) (by omega)
            have hpk12 : 2 ^ k < 2 ^ xs.length := Nat.pow_lt_pow_right (by decide) hk
            have hor : d ||| 2 ^ k < 2 ^ xs.length := Nat.or_lt_two_pow h3 hpk12
            have hun := und_or hk q1
            simp only [hb0, decide_false, cond_false, inB_of (n := (k : Int)) (len := o1.length) (by omega), inB_of (n := (k : Int)) (len := o2.length) (by omega), cond_true, IntWalk.u64_in (k : Int) (by omega), idx_int hk, Option.bind_some, shl_one (i := k) (by omega), or_nat hd (show 2 ^ k < 4096 by omega), Int.toNat_natCast, w64_in (n := ld + xs.getD k 0) (by omega)]
            refine hn _ _ ⟨rfl, by simp only [List.length_set]; exact h1, by simp only [List.length_set]; exact h2, d ||| 2 ^ k, rfl, hor, h4, ?_, by simp only; omega, by simp only; omega, fun i hi => ?_⟩ ?_
            · simp only
              rw [if_neg (by omega)]
              split at h5 <;> omega
            · simp only
              rw [getD_set' (by omega), getD_set' (by omega), Nat.testBit_or]
              by_cases hik : k = i
              · subst hik
                rw [if_pos rfl, if_pos rfl, Nat.testBit_two_pow_self, Bool.or_true, if_pos rfl]
                exact ⟨rfl, h4⟩
              · rw [if_neg hik, if_neg hik, Nat.testBit_two_pow_of_ne hik, Bool.or_false]
                exact h8 i hi
            · simp only [Int.toNat_natCast]
              rw [if_neg (show ¬ ld + xs.getD k 0 = 0 by omega)]
              split <;> omega
    · have := und_le xs.length 0
      simp only [if_true]
      omega
    · simp only [Nat.zero_testBit, Bool.false_eq_true, if_false]
      rw [List.getD_eq_getElem?_getD, List.getElem?_replicate, if_pos hi]
      decide
    · have := und_le xs.length (Int.toNat 0)
      simp only [if_true]
      omega
    · have := und_le xs.length (Int.toNat 0)
      simp only [if_true]
      omega
  · rw [decide_eq_false hg, decide_eq_true (show g > cy by omega)]
    exact ⟨[], false, rfl, rfl, by simp⟩

theorem FnExactLineStations_eq (xs ys : List Int) (cy : Int) : laws_FnExactLineStations N xs ys cy = some (true, ()) := by
  unfold laws_FnExactLineStations
  by_cases hx : (xs.length : Int) > 1048576
  · simp only [hx, decide_true, cond_true]
  · by_cases hy : (ys.length : Int) > 1048576
    · simp only [hx, decide_false, cond_false, hy, decide_true, cond_true]
    · obtain ⟨a, b, h1, h2, h3⟩ := LineStations_law hN (xs := xs) (bs := ys) (cy := cy) (by omega)
      simp only [hx, hy, decide_false, cond_false, toInt64S_eq hN (xs := xs) (by omega), toInt64S_eq hN (xs := ys) (by omega), Option.bind_some, h1, h2, eqInt64S_eq hN (xs := xs) (by omega), eqInt64S_eq hN (xs := ys) (by omega), eqInt64S_eq hN (xs := a) (by omega),
        BEq.rfl, Bool.not_true, bne_self_eq_false,
        markInt64S_eq hN (xs := xs) (k := 1) (by omega) (by omega), markInt64S_eq hN (xs := ys) (k := 1 + xs.length) (by omega) (by omega), markInt64S_eq hN (xs := a) (k := 1) (by omega) (by omega), heldInt64S_eq hN (xs := a) (k := 1) (by omega) (by omega), counted_len, Nat.beq_refl, cond_true,
        show ¬ ((1 : Int) + xs.length + ys.length < 0) by omega, show ¬ ((1 : Int) + a.length < 0) by omega]
end

end Go.Proofs.Ytblmginpolckoaa
