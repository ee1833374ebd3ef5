/-
  A draw lies within bounds. No condition.
-/
import Derived.Test.YtmdicmdodbndgaaEdB
namespace Go.Proofs.Ytmdicmdodbndgaa
open Go Go.Proofs.Ytmdicmdodbndgaa.Fw
set_option linter.unusedVariables false
set_option linter.unusedSimpArgs false

theorem cmp_eq (a b : Int) : compare a b = if a < b then .lt else if a = b then .eq else .gt := rfl

theorem cmp_le {a b : Int} (h : compare a b = .lt ∨ compare a b = .eq) : a ≤ b := by
  rw [cmp_eq] at h
  split at h
  · omega
  · split at h
    · omega
    · rcases h with h | h <;> cases h

theorem cmp_ge {a b : Int} (h : compare a b = .gt ∨ compare a b = .eq) : b ≤ a := by
  rw [cmp_eq] at h
  split at h
  · rcases h with h | h <;> cases h
  · split at h
    · omega
    · omega

theorem cmp_lt {a b : Int} (h : compare a b = .lt) : a < b := by
  rw [cmp_eq] at h
  split at h
  · assumption
  · split at h <;> cases h

/-- The order of two numbers. -/
theorem ord_num {x y m n : Nat} {s t : Bool} {i j : Int} (hx : Ieee.single.read x = .number s m i) (hy : Ieee.single.read y = .number t n j) : FloatKind.f32.format.order x y = some (compare (Ieee.signed s m (i - min i j).toNat) (Ieee.signed t n (j - min i j).toNat)) := by
  show (Ieee.single.read x).order (Ieee.single.read y) = _
  rw [hx, hy]
  rfl

theorem one_read : Ieee.single.read 1065353216 = .number false 8388608 (-23) := by decide +kernel
theorem four_read : Ieee.single.read 1082130432 = .number false 8388608 (-21) := by decide +kernel
theorem zero_read2 : Ieee.single.read 0 = .number false 0 (-149) := by decide +kernel
theorem k1000_read : Ieee.single.read 1148846080 = .number false 16384000 (-14) := by decide +kernel
theorem one_toF : toF .f32 1065353216 = some 1065353216 := by decide +kernel
theorem k1000_toF : toF .f32 1148846080 = some 1148846080 := by decide +kernel

theorem signed_nn {t : Bool} {n k : Nat} (h : 0 ≤ Ieee.signed t n k) : ∀ l, 0 ≤ Ieee.signed t n l := fun l => by
  cases t with
  | false => rw [signed_pos]; exact Int.natCast_nonneg _
  | true =>
    have e : ∀ q, Ieee.signed true n q = - ((n * 2 ^ q : Nat) : Int) := fun q => by
      have := signed_opp false n q
      rw [signed_pos] at this
      exact this
    rw [e] at h ⊢
    have h0 : n * 2 ^ k = 0 := by
      generalize n * 2 ^ k = z at h
      omega
    rcases Nat.mul_eq_zero.1 h0 with h1 | h1
    · rw [h1]; simp
    · have : 0 < 2 ^ k := Nat.pow_pos (by omega)
      omega

/-- What lies between two numbers is one. -/
theorem is_num {x : Nat} {y z n q : Nat} {j r : Int} {t u : Bool} (hy : Ieee.single.read y = .number t n j) (hz : Ieee.single.read z = .number u q r) (h1 : FloatKind.f32.format.order x y = some .gt ∨ FloatKind.f32.format.order x y = some .eq) (h2 : FloatKind.f32.format.order x z = some .lt ∨ FloatKind.f32.format.order x z = some .eq) : ∃ g m i, Ieee.single.read x = .number g m i := by
  cases hx : Ieee.single.read x with
  | number g m i => exact ⟨g, m, i, rfl⟩
  | nan g f =>
    exfalso
    have e : FloatKind.f32.format.order x y = none := by
      show (Ieee.single.read x).order (Ieee.single.read y) = _
      rw [hx]
      rfl
    rw [e] at h1
    rcases h1 with h | h <;> cases h
  | infinity g =>
    exfalso
    have e1 : FloatKind.f32.format.order x y = some (if g then .lt else .gt) := by
      show (Ieee.single.read x).order (Ieee.single.read y) = _
      rw [hx, hy]
      rfl
    have e2 : FloatKind.f32.format.order x z = some (if g then .lt else .gt) := by
      show (Ieee.single.read x).order (Ieee.single.read z) = _
      rw [hx, hz]
      rfl
    rw [e1] at h1
    rw [e2] at h2
    cases g with
    | true => rcases h1 with h | h <;> cases h
    | false => rcases h2 with h | h <;> cases h

/-- The place of a number up to 2 to the c + 23. -/
theorem place_le {m : Nat} {i c : Int} (hn : i = -149 ∨ 8388608 ≤ m) (hc : -100 ≤ c) (h : m * 2 ^ (i - min i c).toNat ≤ 8388608 * 2 ^ (c - min i c).toNat) : i ≤ c := by
  rcases Int.lt_or_le c i with hlt | hle
  · exfalso
    have hm : 8388608 ≤ m := by
      rcases hn with h | h
      · omega
      · exact h
    rw [show min i c = c by omega, show (c - c).toNat = 0 by omega, Nat.pow_zero, Nat.mul_one] at h
    have h2 : 2 ≤ 2 ^ (i - c).toNat := by
      have : (2 : Nat) ^ 1 ≤ 2 ^ (i - c).toNat := Nat.pow_le_pow_right (by omega) (by omega)
      exact this
    have h3 : m * 2 ≤ m * 2 ^ (i - c).toNat := Nat.mul_le_mul_left _ h2
    omega
  · exact hle

/-- The two factors, as numbers. -/
theorem gd_reads {lo hi : Nat} (hg : Ed.Gd lo hi) : (∃ t n j, Ieee.single.read lo = .number t n j ∧ n < 16777216 ∧ j ≤ -23 ∧ (∀ l, 0 ≤ Ieee.signed t n l) ∧ Ieee.signed t n (j - min (-23) j).toNat ≤ Ieee.signed false 8388608 (-23 - min (-23) j).toNat) ∧
    ∃ m i, Ieee.single.read hi = .number false m i ∧ m < 16777216 ∧ i ≤ -21 ∧ Ieee.signed false 8388608 (-23 - min i (-23)).toNat ≤ Ieee.signed false m (i - min i (-23)).toNat := by
  obtain ⟨g1, g2, g3, g4, g5⟩ := hg
  obtain ⟨t, n, j, hlo⟩ := is_num zero_read2 one_read g1 g2
  obtain ⟨s, m, i, hhi⟩ := is_num one_read four_read g3 g4
  obtain ⟨b1, b2, b3, b4⟩ := read_norm hlo
  obtain ⟨d1, d2, d3, d4⟩ := read_norm hhi
  rw [ord_num hlo zero_read2] at g1
  rw [ord_num hlo one_read] at g2
  rw [ord_num hhi one_read] at g3
  rw [ord_num hhi four_read] at g4
  simp only [Option.some.injEq] at g1 g2 g3 g4
  have g1 := cmp_ge g1
  have g2 := cmp_le g2
  have g3 := cmp_ge g3
  have g4 := cmp_le g4
  have z0 : Ieee.signed false 0 (-149 - min j (-149)).toNat = 0 := by rw [signed_pos]; simp
  rw [z0] at g1
  have hnn := signed_nn g1
  refine ⟨⟨t, n, j, hlo, b1, ?_, hnn, by rw [Int.min_comm]; exact g2⟩, ?_⟩
  · have h1 := hnn (j - min j (-23)).toNat
    have e1 := signed_abs t n (j - min j (-23)).toNat
    have e2 := signed_pos 8388608 (-23 - min j (-23)).toNat
    refine place_le b4 (by omega) ?_
    generalize Ieee.signed t n (j - min j (-23)).toNat = A at h1 e1 g2
    rw [e2] at g2
    omega
  · have hs : s = false := by
      cases s with
      | false => rfl
      | true =>
        exfalso
        have e1 := signed_opp false m (i - min i (-23)).toNat
        rw [signed_pos] at e1
        have e1 : Ieee.signed true m (i - min i (-23)).toNat = _ := e1
        rw [e1, signed_pos] at g3
        have : 0 < 8388608 * 2 ^ (-23 - min i (-23)).toNat := Nat.mul_pos (by omega) (Nat.pow_pos (by omega))
        omega
    subst hs
    refine ⟨m, i, hhi, d1, ?_, g3⟩
    rw [signed_pos, signed_pos] at g4
    exact place_le d4 (by omega) (by exact_mod_cast g4)

/-- A 24-bit number's part of 2 to the 24th: below one. -/
theorem part_pos {n : Nat} (hn : n < 16777216) : Pos (-1) (farith .mul .f32 (toF .f32 (FloatKind.nearest .f32 (n : Int))) (toF .f32 864026624)) := by
  by_cases hz : n = 0
  · subst hz
    refine ⟨0, 0, -149, by decide +kernel, zero_read2, by omega, by omega⟩
  · have hl : n.log2 < 24 := (Nat.log2_lt hz).2 hn
    have hl1 : 2 ^ n.log2 ≤ n := Nat.log2_self_le hz
    have hl2 : n < 2 ^ (n.log2 + 1) := Nat.lt_log2_self
    obtain ⟨M, hM⟩ : ∃ M, M = n * 2 ^ (23 - n.log2) := ⟨_, rfl⟩
    have hM0 : 8388608 ≤ M := by
      have := Nat.mul_le_mul_right (2 ^ (23 - n.log2)) hl1
      rw [← Nat.pow_add, show n.log2 + (23 - n.log2) = 23 by omega] at this
      rw [hM]
      exact this
    have hM1 : M < 16777216 := by
      have := Nat.mul_lt_mul_of_pos_right hl2 (show 0 < 2 ^ (23 - n.log2) from Nat.pow_pos (by omega))
      rw [← Nat.pow_add, show n.log2 + 1 + (23 - n.log2) = 24 by omega] at this
      rw [hM]
      exact this
    have hx : FloatKind.nearest .f32 (n : Int) = (((n.log2 : Int) - 23) + 149).toNat * 8388608 + M := by
      show Ieee.single.nearest (decide ((n : Int) < 0)) (n : Int).natAbs 0 = _
      rw [decide_eq_false (by omega), Int.natAbs_natCast]
      unfold Ieee.Format.nearest
      rw [if_neg hz]
      rw [show Ieee.single.leastPlace = -149 from rfl, show Ieee.single.binade = 8388608 from rfl, show Ieee.single.infRung = 2139095040 from rfl, show Ieee.single.fractionBits = 23 from rfl]
      have hmax : max (0 + (n.log2 : Int) - ((23 : Nat) : Int)) (-149) = (n.log2 : Int) - 23 := by omega
      simp only [hmax]
      rw [show (0 - ((n.log2 : Int) - 23)).toNat = 23 - n.log2 by omega, show ((n.log2 : Int) - 23 - 0).toNat = 0 by omega, cut_zero, Nat.shiftLeft_eq, ← hM, show ((n.log2 : Int) - 23 - -149).toNat = ((n.log2 : Int) - 23 + 149).toNat by omega]
      unfold Ieee.Format.word
      rw [Nat.min_eq_left (by omega)]
      rfl
    have hr : Ieee.single.read (FloatKind.nearest .f32 (n : Int)) = .number false M ((n.log2 : Int) - 23) := by
      rw [hx]
      exact read_pow hM0 hM1 (by omega) (by omega)
    have hm : Ieee.single.read 864026624 = .number false 8388608 (-47) := by decide +kernel
    have hmt : toF .f32 864026624 = some 864026624 := by decide +kernel
    have hxt := toF_num (k := .f32) hr
    have hp : fbits .mul .f32 (FloatKind.nearest .f32 (n : Int)) 864026624 = some (((n.log2 : Int) - 47 + 149).toNat * 8388608 + M) := by
      show ((Ieee.single.read _).product (Ieee.single.read 864026624)).map Ieee.single.write = _
      rw [hr, hm]
      show some (Ieee.single.nearest false (M * 2 ^ 23) ((n.log2 : Int) - 23 + -47)) = _
      rw [show (n.log2 : Int) - 23 + -47 = (n.log2 : Int) - 47 - (23 : Nat) by omega, near_pow hM0 hM1 (by omega) (by omega)]
    have hres := read_pow (M := M) (p := (n.log2 : Int) - 47) hM0 hM1 (by omega) (by omega)
    refine ⟨_, M, (n.log2 : Int) - 47, ?_, hres, hM1, by omega⟩
    rw [hxt, hmt]
    unfold farith
    dsimp only
    rw [hp]
    exact toF_num (k := .f32) hres

section
variable {N : Nat}

/-- A draw: within bounds, and alike in both. -/
theorem draw_num {lo hi : Nat} (hg : Ed.Gd lo hi) {s : Int} (h0 : 0 ≤ s) (h1 : s ≤ 4294967295) : ∃ t n, spec_l03Draw N (some lo) (toF .f32 1065353216) (some hi) s = some (t, n, ()) ∧ impl_timeDrawn N (some lo) (toF .f32 1065353216) (some hi) s = some (t, n, ()) ∧ Num 17 t ∧ 0 ≤ n ∧ n ≤ 4294967295 := by
  obtain ⟨⟨lt, ln, lj, hlo, l1, l2, l3, l4⟩, m, i, hhi, m1, m2, m3⟩ := gd_reads hg
  have g5 := hg.g5
  rw [ord_num hlo hhi] at g5
  have g5 := Int.le_of_lt (cmp_lt (Option.some.inj g5))
  -- the differences
  have dw : Pos 3 (farith .sub .f32 (some hi) (some lo)) := sub_pos hhi m1 (W := 2) (by omega) hlo (l3 _) (by rw [Int.min_comm]; exact g5) (by omega) (by omega)
  have dl : Pos 1 (farith .sub .f32 (toF .f32 1065353216) (some lo)) := by
    rw [one_toF]
    exact sub_pos one_read (by omega) (W := 0) (by omega) hlo (l3 _) l4 (by omega) (by omega)
  have dh : Pos 3 (farith .sub .f32 (some hi) (toF .f32 1065353216)) := by
    rw [one_toF]
    exact sub_pos hhi m1 (W := 2) (by omega) one_read (by rw [signed_pos]; exact Int.natCast_nonneg _) m3 (by omega) (by omega)
  have nlo : Num 14 (some lo) := ⟨lo, lt, ln, lj, rfl, hlo, l1, by omega⟩
  have nhi : Num 15 (some hi) := ⟨hi, false, m, i, rfl, hhi, m1, by omega⟩
  unfold spec_l03Draw impl_timeDrawn impl_nextSeed
  rw [w64_in (n := 1664525 * s) (by omega), w64_in (n := 1664525 * s + 1013904223) (by omega)]
  obtain ⟨q, hq⟩ : ∃ q, q = Int.tmod (1664525 * s + 1013904223) 4294967296 := ⟨_, rfl⟩
  have hq0 : 0 ≤ q ∧ q < 4294967296 := by
    rw [hq, Int.tmod_eq_emod_of_nonneg (by omega)]
    omega
  rw [← hq]
  have hdiv : Int.tdiv q 256 = ((q / 256).toNat : Int) := by
    rw [Int.tdiv_eq_ediv_of_nonneg hq0.1]
    omega
  rw [hdiv, w64_in (by omega)]
  simp only [Option.bind_some]
  rw [part_eq (n := (q / 256).toNat) (by omega)]
  have du := part_pos (n := (q / 256).toNat) (by omega)
  revert du
  generalize farith .mul .f32 (toF .f32 (FloatKind.nearest .f32 (((q / 256).toNat : Nat) : Int))) (toF .f32 864026624) = u
  intro du
  cases fcmp .lss .f32 u (farith .quo .f32 (farith .sub .f32 (toF .f32 1065353216) (some lo)) (farith .sub .f32 (some hi) (some lo))) with
  | true =>
    obtain ⟨v, k1, k2, k3⟩ := root_pos (N := N) (mul_pos (mul_pos du dw (by omega) (by omega)) dl (by omega) (by omega)) (by omega) (by omega)
    simp only [cond_true, k1, k2, Option.bind_some]
    have hv : Num 14 v := by
      obtain ⟨x, m, p, e1, e2, e3, e4⟩ := k3
      exact ⟨x, false, m, p, e1, e2, e3, by omega⟩
    obtain ⟨x, g, m, p, e1, e2, e3, e4⟩ := add_num nlo hv (by omega) (by omega)
    exact ⟨_, _, rfl, rfl, ⟨x, g, m, p, e1, e2, e3, by omega⟩, by omega, by omega⟩
  | false =>
    have dm : Pos 1 (farith .sub .f32 (toF .f32 1065353216) u) := by
      obtain ⟨ux, um, up, rfl, hu, u1, u2⟩ := du
      rw [one_toF]
      refine sub_pos one_read (by omega) (W := 0) (by omega) hu (by rw [signed_pos]; exact Int.natCast_nonneg _) ?_ (by omega) (by omega)
      rw [signed_pos, signed_pos, show min (-23) up = up by omega, show (up - up).toNat = 0 by omega, Nat.pow_zero, Nat.mul_one]
      have h2 : (2 : Nat) ^ 1 ≤ 2 ^ (-23 - up).toNat := Nat.pow_le_pow_right (by omega) (by omega)
      have h3 : 8388608 * 2 ^ 1 ≤ 8388608 * 2 ^ (-23 - up).toNat := Nat.mul_le_mul_left _ h2
      omega
    obtain ⟨v, k1, k2, k3⟩ := root_pos (N := N) (mul_pos (mul_pos dm dw (by omega) (by omega)) dh (by omega) (by omega)) (by omega) (by omega)
    simp only [cond_false, k1, k2, Option.bind_some]
    have hv : Num 15 v := by
      obtain ⟨x, m, p, e1, e2, e3, e4⟩ := k3
      exact ⟨x, false, m, p, e1, e2, e3, by omega⟩
    exact ⟨_, _, rfl, rfl, sub_num nhi hv (by omega) (by omega), by omega, by omega⟩

/-- In thousandths: a whole number. -/
theorem mil_some {t : Option Nat} (h : Num 17 t) : ∃ r, Ed.milT t = some r := by
  have h2 := mul_num h (b := some 1148846080) (Wb := 9) ⟨1148846080, false, 16384000, -14, rfl, k1000_read, by omega, by omega⟩ (by omega) (by omega)
  obtain ⟨x, g, m, p, rfl, _⟩ := h
  obtain ⟨y, g2, m2, p2, e1, e2, e3, e4⟩ := h2
  unfold farith at e1
  dsimp only at e1
  cases e : fbits .mul .f32 x 1148846080 with
  | none => rw [e] at e1; cases e1
  | some b =>
    rw [e] at e1
    dsimp only at e1
    have hb : b = y := fl_some e1
    subst hb
    have hz : ∃ z, (Ieee.single.read b).toInt .zero = some z ∧ -1000000000 ≤ z ∧ z ≤ 1000000000 := by
      rw [e2]
      have hcut : Ieee.Toward.zero.cut g2 (m2 <<< p2.toNat) (-p2).toNat ≤ 1000000000 := by
        have hle : Ieee.Toward.zero.cut g2 (m2 <<< p2.toNat) (-p2).toNat ≤ m2 <<< p2.toNat := by
          unfold Ieee.Toward.cut
          simp only [Bool.toNat_false, Nat.add_zero]
          exact Nat.div_le_self _ _
        rw [Nat.shiftLeft_eq] at hle ⊢
        have h3 : m2 * 2 ^ p2.toNat ≤ 16777215 * 2 ^ 5 := Nat.mul_le_mul (by omega) (Nat.pow_le_pow_right (by omega) (by omega))
        omega
      refine ⟨Ieee.signed g2 (Ieee.Toward.zero.cut g2 (m2 <<< p2.toNat) (-p2).toNat) 0, rfl, ?_⟩
      have ha := signed_abs g2 (Ieee.Toward.zero.cut g2 (m2 <<< p2.toNat) (-p2).toNat) 0
      rw [Nat.pow_zero, Nat.mul_one] at ha
      omega
    obtain ⟨z, z1, z2, z3⟩ := hz
    refine ⟨(x, b, z), ?_⟩
    unfold Ed.milT
    simp only [e, z1]
    rw [decide_eq_true z2, decide_eq_true z3, e1]
    simp
end

end Go.Proofs.Ytmdicmdodbndgaa
