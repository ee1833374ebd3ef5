/-
  TimeDrawn: the plain law. No condition.
-/
import Derived.Test.YtblmginpolckoaaBuffer
namespace Go.Proofs.Ytblmginpolckoaa
open Go Go.Proofs.Ytblmginpolckoaa.Fw
set_option linter.unusedVariables false
set_option linter.unusedSimpArgs false

theorem log_mul {M k : Nat} (h0 : 8388608 ≤ M) (h1 : M < 16777216) : (M * 2 ^ k).log2 = 23 + k := by
  have hp : 0 < 2 ^ k := Nat.pow_pos (by omega)
  have hne : M * 2 ^ k ≠ 0 := Nat.mul_ne_zero (by omega) (by omega)
  refine (Nat.log2_eq_iff hne).2 ⟨?_, ?_⟩
  · rw [Nat.pow_add]
    exact Nat.mul_le_mul_right _ h0
  · rw [show 23 + k + 1 = 24 + k by omega, Nat.pow_add]
    exact Nat.mul_lt_mul_of_pos_right h1 hp

theorem cut_pow {M k : Nat} (h0 : 8388608 ≤ M) (h1 : M < 16777216) : Ieee.Toward.even.cut false (M * 2 ^ k) k = M := by
  unfold Ieee.Toward.cut
  have hp : 0 < 2 ^ k := Nat.pow_pos (by omega)
  have hg : (1 : Nat) <<< min k ((M * 2 ^ k).log2 + 2) = 2 ^ k := by
    rw [log_mul h0 h1, Nat.min_eq_left (by omega), Nat.shiftLeft_eq, Nat.one_mul]
  simp only [hg, Nat.mul_div_cancel _ hp, Nat.mul_mod_left, Nat.mul_zero]
  have hne : (2 ^ k == 0) = false := by
    rw [beq_eq_false_iff_ne]
    omega
  simp [hne]

/-- A number that is a full significand and zeros behind it: what it is written as. -/
theorem near_pow {M k : Nat} {p : Int} (h0 : 8388608 ≤ M) (h1 : M < 16777216) (hp : -149 ≤ p) (hp2 : p ≤ 100) : Ieee.single.nearest false (M * 2 ^ k) (p - k) = (p + 149).toNat * 8388608 + M := by
  have hpos : 0 < 2 ^ k := Nat.pow_pos (by omega)
  have hne : M * 2 ^ k ≠ 0 := Nat.mul_ne_zero (by omega) (by omega)
  unfold Ieee.Format.nearest
  rw [if_neg hne, log_mul h0 h1]
  rw [show Ieee.single.leastPlace = -149 from rfl, show Ieee.single.binade = 8388608 from rfl, show Ieee.single.infRung = 2139095040 from rfl, show Ieee.single.fractionBits = 23 from rfl]
  have hmax : max (p - (k : Int) + ((23 + k : Nat) : Int) - ((23 : Nat) : Int)) (-149) = p := by omega
  simp only [hmax]
  rw [show (p - (k : Int) - p).toNat = 0 by omega, show (p - (p - (k : Int))).toNat = k by omega, Nat.shiftLeft_zero, cut_pow h0 h1, show (p - -149).toNat = (p + 149).toNat by omega]
  unfold Ieee.Format.word
  rw [Nat.min_eq_left (by omega)]
  rfl

/-- .. and read again. -/
theorem read_pow {M : Nat} {p : Int} (h0 : 8388608 ≤ M) (h1 : M < 16777216) (hp : -149 ≤ p) (hp2 : p ≤ 100) : Ieee.single.read ((p + 149).toNat * 8388608 + M) = .number false M p := by
  unfold Ieee.Format.read
  rw [show Ieee.single.leastPlace = -149 from rfl, show Ieee.single.binade = 8388608 from rfl, show Ieee.single.infRung = 2139095040 from rfl, show Ieee.single.signWeight = 2147483648 from rfl]
  have hs : (p + 149).toNat * 8388608 + M < 2147483648 := by omega
  simp only [Nat.mod_eq_of_lt hs, Nat.div_eq_of_lt hs]
  rw [if_neg (by omega), if_pos (by omega)]
  have e1 : 8388608 + ((p + 149).toNat * 8388608 + M) % 8388608 = M := by omega
  have e2 : -149 + ((((p + 149).toNat * 8388608 + M) / 8388608 - 1 : Nat) : Int) = p := by omega
  rw [e1, e2]
  rfl

/-- A part of 2 to the 24th, by division and by multiplication. -/
theorem part_eq {n : Nat} (hn : n < 16777216) : farith .quo .f32 (toF .f32 (FloatKind.nearest .f32 (n : Int))) (toF .f32 1266679808) = farith .mul .f32 (toF .f32 (FloatKind.nearest .f32 (n : Int))) (toF .f32 864026624) := by
  by_cases hz : n = 0
  · subst hz
    decide +kernel
  · have hl : n.log2 < 24 := (Nat.log2_lt hz).2 hn
    have hl1 : 2 ^ n.log2 ≤ n := Nat.log2_self_le hz
    have hl2 : n < 2 ^ (n.log2 + 1) := Nat.lt_log2_self
    obtain ⟨M, hM⟩ : ∃ M, M = n * 2 ^ (23 - n.log2) := ⟨_, rfl⟩
    have hM0 : 8388608 ≤ M := by
      have := Nat.mul_le_mul_right (2 ^ (23 - n.log2)) hl1
      rw [← Nat.pow_add, show n.log2 + (23 - n.log2) = 23 by omega] at this
      rw [hM]
      exact this
    have hM1 : M < 16777216 := by
      have := Nat.mul_lt_mul_of_pos_right hl2 (show 0 < 2 ^ (23 - n.log2) from Nat.pow_pos (by omega))
      rw [← Nat.pow_add, show n.log2 + 1 + (23 - n.log2) = 24 by omega] at this
      rw [hM]
      exact this
    have hx : FloatKind.nearest .f32 (n : Int) = (((n.log2 : Int) - 23) + 149).toNat * 8388608 + M := by
      show Ieee.single.nearest (decide ((n : Int) < 0)) (n : Int).natAbs 0 = _
      rw [decide_eq_false (by omega), Int.natAbs_natCast]
      unfold Ieee.Format.nearest
      rw [if_neg hz]
      rw [show Ieee.single.leastPlace = -149 from rfl, show Ieee.single.binade = 8388608 from rfl, show Ieee.single.infRung = 2139095040 from rfl, show Ieee.single.fractionBits = 23 from rfl]
      have hmax : max (0 + (n.log2 : Int) - ((23 : Nat) : Int)) (-149) = (n.log2 : Int) - 23 := by omega
      simp only [hmax]
      rw [show (0 - ((n.log2 : Int) - 23)).toNat = 23 - n.log2 by omega, show ((n.log2 : Int) - 23 - 0).toNat = 0 by omega, cut_zero, Nat.shiftLeft_eq, ← hM, show ((n.log2 : Int) - 23 - -149).toNat = ((n.log2 : Int) - 23 + 149).toNat by omega]
      unfold Ieee.Format.word
      rw [Nat.min_eq_left (by omega)]
      rfl
    have hr : Ieee.single.read (FloatKind.nearest .f32 (n : Int)) = .number false M ((n.log2 : Int) - 23) := by
      rw [hx]
      exact read_pow hM0 hM1 (by omega) (by omega)
    have hd : Ieee.single.read 1266679808 = .number false 8388608 1 := by decide +kernel
    have hm : Ieee.single.read 864026624 = .number false 8388608 (-47) := by decide +kernel
    have hdt : toF .f32 1266679808 = some 1266679808 := by decide +kernel
    have hmt : toF .f32 864026624 = some 864026624 := by decide +kernel
    have hxt := toF_num (k := .f32) hr
    have hML : M.log2 = 23 := by have := log_mul (k := 0) hM0 hM1; simpa using this
    have hq : fbits .quo .f32 (FloatKind.nearest .f32 (n : Int)) 1266679808 = some (((n.log2 : Int) - 47 + 149).toNat * 8388608 + M) := by
      show ((Ieee.single.read _).quotient 25 (Ieee.single.read 1266679808)).map Ieee.single.write = _
      rw [hr, hd]
      have e : (Ieee.Datum.number false M ((n.log2 : Int) - 23)).quotient 25 (.number false 8388608 1) = some (.number false (M * 2 ^ 3) ((n.log2 : Int) - 47 - (3 : Nat))) := by
        unfold Ieee.Datum.quotient
        have hk : (25 + Nat.log2 8388608 - M.log2) = 25 := by rw [hML]; decide +kernel
        simp only [hk, Nat.shiftLeft_eq]
        have e1 : M * 2 ^ 25 / 8388608 = M * 4 := by omega
        have e2 : M * 2 ^ 25 % 8388608 = 0 := by omega
        rw [if_neg (by omega), e1, e2]
        have e3 : (2 * (M * 4) + ((0 : Nat) != 0).toNat) = M * 2 ^ 3 := by
          show 2 * (M * 4) + 0 = M * 8
          omega
        rw [e3, show (n.log2 : Int) - 23 - 1 - ((25 : Nat) : Int) - 1 = (n.log2 : Int) - 47 - (3 : Nat) by omega]
        rfl
      rw [e]
      show some (Ieee.single.nearest false (M * 2 ^ 3) ((n.log2 : Int) - 47 - (3 : Nat))) = _
      rw [near_pow hM0 hM1 (by omega) (by omega)]
    have hp : fbits .mul .f32 (FloatKind.nearest .f32 (n : Int)) 864026624 = some (((n.log2 : Int) - 47 + 149).toNat * 8388608 + M) := by
      show ((Ieee.single.read _).product (Ieee.single.read 864026624)).map Ieee.single.write = _
      rw [hr, hm]
      show some (Ieee.single.nearest false (M * 2 ^ 23) ((n.log2 : Int) - 23 + -47)) = _
      rw [show (n.log2 : Int) - 23 + -47 = (n.log2 : Int) - 47 - (23 : Nat) by omega, near_pow hM0 hM1 (by omega) (by omega)]
    rw [hxt, hdt, hmt]
    unfold farith
    dsimp only
    rw [hq, hp]

/-- A root is always told. -/
theorem root_total {N : Nat} {a : Option Nat} (h : ∃ b, a = toF .f32 b) : ∃ v, spec_l01Sqrt N a = some (v, ()) ∧ impl_RootNumber N a = some (v, ()) := by
  obtain ⟨b, rfl⟩ := h
  cases hb : toF .f32 b with
  | none => exact ⟨none, rfl, rfl⟩
  | some x =>
    obtain rfl := fl_some hb
    cases hd : Ieee.single.read b with
    | nan s t => rw [toF_nan (k := .f32) hd] at hb; cases hb
    | number g m e =>
      cases g with
      | false => exact root_both ⟨b, rfl, .inl ⟨m, e, hd⟩⟩
      | true =>
        obtain ⟨r, hr⟩ := widen_ok hb
        have hcase : fsqrtT (toF .f64 r) = none ∨ ∃ q z, fsqrtT (toF .f64 r) = some q ∧ fconv .f64 q .f32 = some z := by
          cases hrr : toF .f64 r with
          | none => exact .inl rfl
          | some r' =>
            obtain rfl := fl_some hrr
            have hsg : ∃ m2 p2, Ieee.double.read r = .number true m2 p2 := by
              unfold fconv at hr
              rw [show FloatKind.f32.decode b = .number true m e from hd] at hr
              dsimp only at hr
              cases hi : (FloatKind.f64.decode (FloatKind.f64.encode (.number true m e))).isInfinity with
              | true => rw [hi] at hr; cases hr
              | false =>
                rw [hi] at hr
                simp only [cond_false, Option.some.injEq] at hr
                subst hr
                have hlow : ∀ z : Nat, z ≤ 9218868437227405312 → (Ieee.double.read (9223372036854775808 + z)).isInfinity = false → ∃ m2 p2, Ieee.double.read (9223372036854775808 + z) = .number true m2 p2 := fun z hz hinf => by
                  revert hinf
                  unfold Ieee.Format.read
                  rw [show Ieee.double.signWeight = 9223372036854775808 from rfl, show Ieee.double.binade = 4503599627370496 from rfl, show Ieee.double.infRung = 9218868437227405312 from rfl]
                  simp only [Nat.add_mod_left, Nat.mod_eq_of_lt (show z < 9223372036854775808 by omega)]
                  have hneg : ((9223372036854775808 + z) / 9223372036854775808 % 2 == 1) = true := by
                    rw [show (9223372036854775808 + z) / 9223372036854775808 = 1 by omega]
                    rfl
                  rw [hneg]
                  split
                  · intro _; exact ⟨_, _, rfl⟩
                  · split
                    · intro _; exact ⟨_, _, rfl⟩
                    · rw [if_pos (by omega)]
                      intro hc
                      cases hc
                have hform : ∃ z, z ≤ 9218868437227405312 ∧ Ieee.double.nearest true m e = 9223372036854775808 + z := by
                  unfold Ieee.Format.nearest Ieee.Format.word
                  split
                  · exact ⟨0, by omega, rfl⟩
                  · exact ⟨_, Nat.min_le_right _ _, rfl⟩
                obtain ⟨z, hz, hzz⟩ := hform
                have hi : (Ieee.double.read (Ieee.double.nearest true m e)).isInfinity = false := hi
                show ∃ m2 p2, Ieee.double.read (Ieee.double.nearest true m e) = _
                rw [hzz] at hi ⊢
                exact hlow z hz hi
            obtain ⟨m2, p2, hs⟩ := hsg
            have hsq : FloatKind.f64.format.sqrt r = ((Ieee.Datum.number true m2 p2).root 54).map Ieee.double.write := by
              show ((Ieee.double.read r).root 54).map _ = _
              rw [hs]
              rfl
            by_cases hm2 : m2 = 0
            · subst hm2
              refine .inr ⟨9223372036854775808, 2147483648, ?_, by decide +kernel⟩
              unfold fsqrtT
              dsimp only
              rw [hsq, show (Ieee.Datum.number true 0 p2).root 54 = some (.number true 0 p2) from by
                unfold Ieee.Datum.root
                dsimp only
                rw [if_pos rfl]]
              show toF .f64 (Ieee.double.nearest true 0 p2) = _
              rw [show Ieee.double.nearest true 0 p2 = 9223372036854775808 from by
                unfold Ieee.Format.nearest
                rw [if_pos rfl]
                rfl]
              decide +kernel
            · refine .inl ?_
              unfold fsqrtT
              dsimp only
              rw [hsq, show (Ieee.Datum.number true m2 p2).root 54 = none from by
                unfold Ieee.Datum.root
                dsimp only
                rw [if_neg hm2, if_pos rfl]]
              rfl
        rcases hcase with h | ⟨q, z, h, hz⟩
        · refine ⟨none, ?_, ?_⟩
          · unfold spec_l01Sqrt spec_l01Narrow math_Sqrt fconvB
            simp only [hr, h, Option.bind_some]
          · unfold impl_RootNumber math_Sqrt fconvB
            simp only [hr, h, Option.bind_some]
        · refine ⟨toF .f32 z, ?_, ?_⟩
          · unfold spec_l01Sqrt spec_l01Narrow math_Sqrt fconvB
            simp only [hr, h, hz, Option.bind_some]
          · unfold impl_RootNumber math_Sqrt fconvB
            simp only [hr, h, hz, Option.bind_some]
    | infinity g =>
      cases g with
      | false => exact root_both ⟨b, rfl, .inr hd⟩
      | true =>
        obtain ⟨r, hr⟩ := widen_ok hb
        have hr2 : r = Ieee.double.write (.infinity true) := by
          unfold fconv at hr
          rw [show FloatKind.f32.decode b = .infinity true from hd] at hr
          exact (Option.some.inj hr).symm
        have h : fsqrtT (toF .f64 r) = none := by
          rw [hr2]
          decide +kernel
        refine ⟨none, ?_, ?_⟩
        · unfold spec_l01Sqrt spec_l01Narrow math_Sqrt fconvB
          simp only [hr, h, Option.bind_some]
        · unfold impl_RootNumber math_Sqrt fconvB
          simp only [hr, h, Option.bind_some]

section
variable {N : Nat} (hN : 9223372036854775808 ≤ N)
include hN

omit hN in
theorem draw_eq (x y z : Option Nat) {s : Int} (h0 : 0 ≤ s) (h1 : s ≤ 4294967295) : ∃ t n, spec_l03Draw N x y z s = some (t, n, ()) ∧ impl_timeDrawn N x y z s = some (t, n, ()) ∧ ∃ b, t = toF .f32 b := by
  unfold spec_l03Draw impl_timeDrawn impl_nextSeed
  rw [w64_in (n := 1664525 * s) (by omega), w64_in (n := 1664525 * s + 1013904223) (by omega)]
  obtain ⟨q, hq⟩ : ∃ q, q = Int.tmod (1664525 * s + 1013904223) 4294967296 := ⟨_, rfl⟩
  have hq0 : 0 ≤ q ∧ q < 4294967296 := by
    rw [hq, Int.tmod_eq_emod_of_nonneg (by omega)]
    omega
  rw [← hq]
  have hdiv : Int.tdiv q 256 = ((q / 256).toNat : Int) := by
    rw [Int.tdiv_eq_ediv_of_nonneg hq0.1]
    omega
  rw [hdiv, w64_in (by omega)]
  simp only [Option.bind_some]
  rw [part_eq (n := (q / 256).toNat) (by omega)]
  generalize farith .mul .f32 (toF .f32 (FloatKind.nearest .f32 (((q / 256).toNat : Nat) : Int))) (toF .f32 864026624) = u
  cases fcmp .lss .f32 u (farith .quo .f32 (farith .sub .f32 y x) (farith .sub .f32 z x)) with
  | true =>
    obtain ⟨v, k1, k2⟩ := root_total (N := N) (farith_toF (op := .mul) (farith .mul .f32 u (farith .sub .f32 z x)) (farith .sub .f32 y x))
    simp only [cond_true, k1, k2, Option.bind_some]
    exact ⟨_, _, rfl, rfl, farith_toF _ _⟩
  | false =>
    obtain ⟨v, k1, k2⟩ := root_total (N := N) (farith_toF (op := .mul) (farith .mul .f32 (farith .sub .f32 (toF .f32 1065353216) u) (farith .sub .f32 z x)) (farith .sub .f32 z y))
    simp only [cond_false, k1, k2, Option.bind_some]
    exact ⟨_, _, rfl, rfl, farith_toF _ _⟩

theorem time_both (x y z : Option Nat) (s : Int) : ∃ t n c, spec_TimeDrawn N x y z s = some (t, n, c, ()) ∧ impl_TimeDrawn N x y z s = some (t, n, c, ()) ∧ ∃ b, t = toF .f32 b := by
  unfold spec_TimeDrawn impl_TimeDrawn spec_l03Three
  rw [areFinite_eq hN (by simp)]
  have fs : ∀ a, spec_l01Finite N a = some (fin32 a, ()) := fun a => rfl
  have fi : ∀ a, impl_IsFinite N a = some (fin32 a, ()) := fun a => rfl
  simp only [fs, fi, Option.bind_some, List.all_cons, List.all_nil, Bool.and_true]
  have z0 : ∃ (t : Option Nat) (n : Int) (c : Bool), some (toF .f32 0, (0 : Int), false, ()) = some (t, n, c, ()) ∧ some (toF .f32 0, (0 : Int), false, ()) = some (t, n, c, ()) ∧ ∃ b, t = toF .f32 b := ⟨_, _, _, rfl, rfl, 0, rfl⟩
  have hsd : spec_l03Seed N s = some (decide (0 ≤ s ∧ s ≤ 4294967295), ()) ∧ impl_isSeed N s = some (decide (0 ≤ s ∧ s ≤ 4294967295), ()) := by
    unfold spec_l03Seed spec_l00In impl_isSeed impl_within
    by_cases a : s ≥ 0
    · rw [decide_eq_true a]
      have : decide (0 ≤ s ∧ s ≤ 4294967295) = decide (s ≤ 4294967295) := by
        by_cases b : s ≤ 4294967295
        · rw [decide_eq_true b, decide_eq_true ⟨a, b⟩]
        · rw [decide_eq_false b, decide_eq_false fun h => b h.2]
      rw [this]
      exact ⟨rfl, rfl⟩
    · rw [decide_eq_false a, decide_eq_false (show ¬ (0 ≤ s ∧ s ≤ 4294967295) by omega)]
      exact ⟨rfl, rfl⟩
  rw [hsd.1, hsd.2]
  cases fin32 x with
  | false => exact z0
  | true =>
    cases fin32 y with
    | false => exact z0
    | true =>
      cases fin32 z with
      | false => exact z0
      | true =>
        simp only [cond_true, Option.bind_some, Bool.and_true, Bool.not_true, cond_false]
        cases fcmp .leq .f32 x y with
        | false => exact z0
        | true =>
          simp only [cond_true, Option.bind_some]
          cases fcmp .leq .f32 y z with
          | false => exact z0
          | true =>
            simp only [Bool.not_true, cond_false]
            cases fcmp .gtr .f32 (farith .sub .f32 z x) (toF .f32 0) with
            | false => exact z0
            | true =>
              simp only [Bool.not_true, cond_false]
              by_cases hs : 0 ≤ s ∧ s ≤ 4294967295
              · rw [decide_eq_true hs]
                obtain ⟨t, n, h1, h2, h3⟩ := draw_eq (N := N) x y z hs.1 hs.2
                simp only [Bool.not_true, cond_false, h1, h2, Option.bind_some]
                cases fin32 t with
                | false => exact z0
                | true => exact ⟨t, n, true, rfl, rfl, h3⟩
              · rw [decide_eq_false hs]
                exact z0

theorem FnExactTimeDrawn_eq (x y z : Option Nat) (s : Int) : laws_FnExactTimeDrawn N x y z s = some (true, ()) := by
  unfold laws_FnExactTimeDrawn
  obtain ⟨t, n, c, h1, h2, h3⟩ := time_both hN x y z s
  rw [h1, h2]
  simp only [Option.bind_some]
  obtain ⟨q, hq⟩ := fconvB_ok h3
  rw [hq, hq, sameFloat_self hN]
  simp
end

end Go.Proofs.Ytblmginpolckoaa
