/-
  Floats of a draw: their bounds; floats told apart and marked. No condition.
-/
import Derived.Test.YtmdicmdodbndgaaFun
import Derived.Test.YtmdicmdodbndgaaFlt
import Derived.Test.YtmdicmdodbndgaaPB
namespace Go.Proofs.Ytmdicmdodbndgaa
open Go Go.Proofs.Ytmdicmdodbndgaa.Fw
set_option linter.unusedVariables false
set_option linter.unusedSimpArgs false

theorem log_mul {M k : Nat} (h0 : 8388608 ≤ M) (h1 : M < 16777216) : (M * 2 ^ k).log2 = 23 + k := by
  have hp : 0 < 2 ^ k := Nat.pow_pos (by omega)
  have hne : M * 2 ^ k ≠ 0 := Nat.mul_ne_zero (by omega) (by omega)
  refine (Nat.log2_eq_iff hne).2 ⟨?_, ?_⟩
  · rw [Nat.pow_add]
    exact Nat.mul_le_mul_right _ h0
  · rw [show 23 + k + 1 = 24 + k by omega, Nat.pow_add]
    exact Nat.mul_lt_mul_of_pos_right h1 hp

theorem cut_pow {M k : Nat} (h0 : 8388608 ≤ M) (h1 : M < 16777216) : Ieee.Toward.even.cut false (M * 2 ^ k) k = M := by
  unfold Ieee.Toward.cut
  have hp : 0 < 2 ^ k := Nat.pow_pos (by omega)
  have hg : (1 : Nat) <<< min k ((M * 2 ^ k).log2 + 2) = 2 ^ k := by
    rw [log_mul h0 h1, Nat.min_eq_left (by omega), Nat.shiftLeft_eq, Nat.one_mul]
  simp only [hg, Nat.mul_div_cancel _ hp, Nat.mul_mod_left, Nat.mul_zero]
  have hne : (2 ^ k == 0) = false := by
    rw [beq_eq_false_iff_ne]
    omega
  simp [hne]

/-- A number that is a full significand and zeros behind it: what it is written as. -/
theorem near_pow {M k : Nat} {p : Int} (h0 : 8388608 ≤ M) (h1 : M < 16777216) (hp : -149 ≤ p) (hp2 : p ≤ 100) : Ieee.single.nearest false (M * 2 ^ k) (p - k) = (p + 149).toNat * 8388608 + M := by
  have hpos : 0 < 2 ^ k := Nat.pow_pos (by omega)
  have hne : M * 2 ^ k ≠ 0 := Nat.mul_ne_zero (by omega) (by omega)
  unfold Ieee.Format.nearest
  rw [if_neg hne, log_mul h0 h1]
  rw [show Ieee.single.leastPlace = -149 from rfl, show Ieee.single.binade = 8388608 from rfl, show Ieee.single.infRung = 2139095040 from rfl, show Ieee.single.fractionBits = 23 from rfl]
  have hmax : max (p - (k : Int) + ((23 + k : Nat) : Int) - ((23 : Nat) : Int)) (-149) = p := by omega
  simp only [hmax]
  rw [show (p - (k : Int) - p).toNat = 0 by omega, show (p - (p - (k : Int))).toNat = k by omega, Nat.shiftLeft_zero, cut_pow h0 h1, show (p - -149).toNat = (p + 149).toNat by omega]
  unfold Ieee.Format.word
  rw [Nat.min_eq_left (by omega)]
  rfl

/-- .. and read again. -/
theorem read_pow {M : Nat} {p : Int} (h0 : 8388608 ≤ M) (h1 : M < 16777216) (hp : -149 ≤ p) (hp2 : p ≤ 100) : Ieee.single.read ((p + 149).toNat * 8388608 + M) = .number false M p := by
  unfold Ieee.Format.read
  rw [show Ieee.single.leastPlace = -149 from rfl, show Ieee.single.binade = 8388608 from rfl, show Ieee.single.infRung = 2139095040 from rfl, show Ieee.single.signWeight = 2147483648 from rfl]
  have hs : (p + 149).toNat * 8388608 + M < 2147483648 := by omega
  simp only [Nat.mod_eq_of_lt hs, Nat.div_eq_of_lt hs]
  rw [if_neg (by omega), if_pos (by omega)]
  have e1 : 8388608 + ((p + 149).toNat * 8388608 + M) % 8388608 = M := by omega
  have e2 : -149 + ((((p + 149).toNat * 8388608 + M) / 8388608 - 1 : Nat) : Int) = p := by omega
  rw [e1, e2]
  rfl

/-- A part of 2 to the 24th, by division and by multiplication. -/
theorem part_eq {n : Nat} (hn : n < 16777216) : farith .quo .f32 (toF .f32 (FloatKind.nearest .f32 (n : Int))) (toF .f32 1266679808) = farith .mul .f32 (toF .f32 (FloatKind.nearest .f32 (n : Int))) (toF .f32 864026624) := by
  by_cases hz : n = 0
  · subst hz
    decide +kernel
  · have hl : n.log2 < 24 := (Nat.log2_lt hz).2 hn
    have hl1 : 2 ^ n.log2 ≤ n := Nat.log2_self_le hz
    have hl2 : n < 2 ^ (n.log2 + 1) := Nat.lt_log2_self
    obtain ⟨M, hM⟩ : ∃ M, M = n * 2 ^ (23 - n.log2) := ⟨_, rfl⟩
    have hM0 : 8388608 ≤ M := by
      have := Nat.mul_le_mul_right (2 ^ (23 - n.log2)) hl1
      rw [← Nat.pow_add, show n.log2 + (23 - n.log2) = 23 by omega] at this
      rw [hM]
      exact this
    have hM1 : M < 16777216 := by
      have := Nat.mul_lt_mul_of_pos_right hl2 (show 0 < 2 ^ (23 - n.log2) from Nat.pow_pos (by omega))
      rw [← Nat.pow_add, show n.log2 + 1 + (23 - n.log2) = 24 by omega] at this
      rw [hM]
      exact this
    have hx : FloatKind.nearest .f32 (n : Int) = (((n.log2 : Int) - 23) + 149).toNat * 8388608 + M := by
      show Ieee.single.nearest (decide ((n : Int) < 0)) (n : Int).natAbs 0 = _
      rw [decide_eq_false (by omega), Int.natAbs_natCast]
      unfold Ieee.Format.nearest
      rw [if_neg hz]
      rw [show Ieee.single.leastPlace = -149 from rfl, show Ieee.single.binade = 8388608 from rfl, show Ieee.single.infRung = 2139095040 from rfl, show Ieee.single.fractionBits = 23 from rfl]
      have hmax : max (0 + (n.log2 : Int) - ((23 : Nat) : Int)) (-149) = (n.log2 : Int) - 23 := by omega
      simp only [hmax]
      rw [show (0 - ((n.log2 : Int) - 23)).toNat = 23 - n.log2 by omega, show ((n.log2 : Int) - 23 - 0).toNat = 0 by omega, cut_zero, Nat.shiftLeft_eq, ← hM, show ((n.log2 : Int) - 23 - -149).toNat = ((n.log2 : Int) - 23 + 149).toNat by omega]
      unfold Ieee.Format.word
      rw [Nat.min_eq_left (by omega)]
      rfl
    have hr : Ieee.single.read (FloatKind.nearest .f32 (n : Int)) = .number false M ((n.log2 : Int) - 23) := by
      rw [hx]
      exact read_pow hM0 hM1 (by omega) (by omega)
    have hd : Ieee.single.read 1266679808 = .number false 8388608 1 := by decide +kernel
    have hm : Ieee.single.read 864026624 = .number false 8388608 (-47) := by decide +kernel
    have hdt : toF .f32 1266679808 = some 1266679808 := by decide +kernel
    have hmt : toF .f32 864026624 = some 864026624 := by decide +kernel
    have hxt := toF_num (k := .f32) hr
    have hML : M.log2 = 23 := by have := log_mul (k := 0) hM0 hM1; simpa using this
    have hq : fbits .quo .f32 (FloatKind.nearest .f32 (n : Int)) 1266679808 = some (((n.log2 : Int) - 47 + 149).toNat * 8388608 + M) := by
      show ((Ieee.single.read _).quotient 25 (Ieee.single.read 1266679808)).map Ieee.single.write = _
      rw [hr, hd]
      have e : (Ieee.Datum.number false M ((n.log2 : Int) - 23)).quotient 25 (.number false 8388608 1) = some (.number false (M * 2 ^ 3) ((n.log2 : Int) - 47 - (3 : Nat))) := by
        unfold Ieee.Datum.quotient
        have hk : (25 + Nat.log2 8388608 - M.log2) = 25 := by rw [hML]; decide +kernel
        simp only [hk, Nat.shiftLeft_eq]
        have e1 : M * 2 ^ 25 / 8388608 = M * 4 := by omega
        have e2 : M * 2 ^ 25 % 8388608 = 0 := by omega
        rw [if_neg (by omega), e1, e2]
        have e3 : (2 * (M * 4) + ((0 : Nat) != 0).toNat) = M * 2 ^ 3 := by
          show 2 * (M * 4) + 0 = M * 8
          omega
        rw [e3, show (n.log2 : Int) - 23 - 1 - ((25 : Nat) : Int) - 1 = (n.log2 : Int) - 47 - (3 : Nat) by omega]
        rfl
      rw [e]
      show some (Ieee.single.nearest false (M * 2 ^ 3) ((n.log2 : Int) - 47 - (3 : Nat))) = _
      rw [near_pow hM0 hM1 (by omega) (by omega)]
    have hp : fbits .mul .f32 (FloatKind.nearest .f32 (n : Int)) 864026624 = some (((n.log2 : Int) - 47 + 149).toNat * 8388608 + M) := by
      show ((Ieee.single.read _).product (Ieee.single.read 864026624)).map Ieee.single.write = _
      rw [hr, hm]
      show some (Ieee.single.nearest false (M * 2 ^ 23) ((n.log2 : Int) - 23 + -47)) = _
      rw [show (n.log2 : Int) - 23 + -47 = (n.log2 : Int) - 47 - (23 : Nat) by omega, near_pow hM0 hM1 (by omega) (by omega)]
    rw [hxt, hdt, hmt]
    unfold farith
    dsimp only
    rw [hq, hp]

section
variable {N : Nat} (hN : 9223372036854775808 ≤ N)
include hN

theorem sameFloat_self (v : Option Nat) : laws_sameFloat N v v = some (true, ()) := by
  have _ := hN
  unfold laws_sameFloat
  cases h : fcmp .neq .f64 v v
  · have h2 : fcmp .eql .f64 v v = true := by
      unfold fcmp at h ⊢
      simp only at h ⊢
      simpa using h
    simp only [cond_false]
    cases fcmp .eql .f64 v (toF .f64 0)
    · simp [h2]
    · simp
  · rfl

omit hN in
theorem fconvB_ok {a : Option Nat} (h : ∃ b, a = toF .f32 b) : ∃ v, ∀ {ρ : Type} (K : Option Nat → Option ρ), fconvB .f32 a .f64 K = K v := by
  obtain ⟨b, rfl⟩ := h
  cases hb : toF .f32 b with
  | none => exact ⟨none, fun K => rfl⟩
  | some x =>
    obtain rfl := fl_some hb
    obtain ⟨r, hr⟩ := widen_ok hb
    refine ⟨toF .f64 r, fun K => ?_⟩
    unfold fconvB
    dsimp only
    rw [hr]

omit hN in
theorem farith_toF {op : BinOp} (a b : Option Nat) : ∃ x, farith op .f32 a b = toF .f32 x := by
  have hn : toF .f32 2143289344 = none := by decide +kernel
  unfold farith
  cases a with
  | none => exact ⟨_, hn.symm⟩
  | some x =>
    cases b with
    | none => exact ⟨_, hn.symm⟩
    | some y =>
      dsimp only
      cases fbits op .f32 x y with
      | none => exact ⟨_, hn.symm⟩
      | some r => exact ⟨r, rfl⟩

theorem eqFloat_self {xs : List (Option Nat)} (hx : xs.length ≤ 4294967296) (hw : ∀ x ∈ xs, ∃ b, x = toF .f32 b) : laws_eqFloat32S N xs xs = some (true, ()) := by
  unfold laws_eqFloat32S
  rw [show ((List.length xs : Int) != (List.length xs : Int)) = false by simp]
  simp only [cond_false]
  refine loop_list (xs := xs) (inv := fun _ => True) (i := fun s : Int × Unit => s.1) (f := fun _ _ => some (true, ())) (by omega) (fun s next _ hi => ?_) (fun s next v r _ h0 hlt hv hd hw1 hn => ?_) (by omega) (s := (0, ())) trivial (Int.le_refl _) (by simp only; omega)
  · try simp only at hi ⊢
    rw [decide_eq_false (by omega), cond_false]
  · try simp only at h0 hlt hv hw1 hn ⊢
    rw [decide_eq_true hlt, cond_true, hv]
    have hm : v ∈ xs := by
      have : v ∈ xs.drop s.1.toNat := by rw [hd]; exact List.mem_cons_self
      exact List.mem_of_mem_drop this
    obtain ⟨q, hq⟩ := fconvB_ok (hw v hm)
    simp only [Option.bind_some]
    rw [hq, hq, sameFloat_self hN]
    simp only [Option.bind_some, Bool.not_true, cond_false]
    rw [hw1]
    exact hn _ trivial rfl

omit hN in
theorem root_both {a : Option Nat} (h : NonNeg a) : ∃ v, spec_l01Sqrt N a = some (v, ()) ∧ impl_RootNumber N a = some (v, ()) := by
  obtain ⟨x, r, q, v, rfl, h1, h2, h3, h4, h5⟩ := root_chain h
  refine ⟨toF .f32 v, ?_, ?_⟩
  · unfold spec_l01Sqrt spec_l01Narrow math_Sqrt fsqrtT fconvB
    simp only [h1, h2, h3, h4, h5, Option.bind_some]
  · unfold impl_RootNumber math_Sqrt fsqrtT fconvB
    simp only [h1, h2, h3, h4, h5, Option.bind_some]


end

/-- A root is always told. -/
theorem root_total {N : Nat} {a : Option Nat} (h : ∃ b, a = toF .f32 b) : ∃ v, spec_l01Sqrt N a = some (v, ()) ∧ impl_RootNumber N a = some (v, ()) := by
  obtain ⟨b, rfl⟩ := h
  cases hb : toF .f32 b with
  | none => exact ⟨none, rfl, rfl⟩
  | some x =>
    obtain rfl := fl_some hb
    cases hd : Ieee.single.read b with
    | nan s t => rw [toF_nan (k := .f32) hd] at hb; cases hb
    | number g m e =>
      cases g with
      | false => exact root_both ⟨b, rfl, .inl ⟨m, e, hd⟩⟩
      | true =>
        obtain ⟨r, hr⟩ := widen_ok hb
        have hcase : fsqrtT (toF .f64 r) = none ∨ ∃ q z, fsqrtT (toF .f64 r) = some q ∧ fconv .f64 q .f32 = some z := by
          cases hrr : toF .f64 r with
          | none => exact .inl rfl
          | some r' =>
            obtain rfl := fl_some hrr
            have hsg : ∃ m2 p2, Ieee.double.read r = .number true m2 p2 := by
              unfold fconv at hr
              rw [show FloatKind.f32.decode b = .number true m e from hd] at hr
              dsimp only at hr
              cases hi : (FloatKind.f64.decode (FloatKind.f64.encode (.number true m e))).isInfinity with
              | true => rw [hi] at hr; cases hr
              | false =>
                rw [hi] at hr
                simp only [cond_false, Option.some.injEq] at hr
                subst hr
                have hlow : ∀ z : Nat, z ≤ 9218868437227405312 → (Ieee.double.read (9223372036854775808 + z)).isInfinity = false → ∃ m2 p2, Ieee.double.read (9223372036854775808 + z) = .number true m2 p2 := fun z hz hinf => by
                  revert hinf
                  unfold Ieee.Format.read
                  rw [show Ieee.double.signWeight = 9223372036854775808 from rfl, show Ieee.double.binade = 4503599627370496 from rfl, show Ieee.double.infRung = 9218868437227405312 from rfl]
                  simp only [Nat.add_mod_left, Nat.mod_eq_of_lt (show z < 9223372036854775808 by omega)]
                  have hneg : ((9223372036854775808 + z) / 9223372036854775808 % 2 == 1) = true := by
                    rw [show (9223372036854775808 + z) / 9223372036854775808 = 1 by omega]
                    rfl
                  rw [hneg]
                  split
                  · intro _; exact ⟨_, _, rfl⟩
                  · split
                    · intro _; exact ⟨_, _, rfl⟩
                    · rw [if_pos (by omega)]
                      intro hc
                      cases hc
                have hform : ∃ z, z ≤ 9218868437227405312 ∧ Ieee.double.nearest true m e = 9223372036854775808 + z := by
                  unfold Ieee.Format.nearest Ieee.Format.word
                  split
                  · exact ⟨0, by omega, rfl⟩
                  · exact ⟨_, Nat.min_le_right _ _, rfl⟩
                obtain ⟨z, hz, hzz⟩ := hform
                have hi : (Ieee.double.read (Ieee.double.nearest true m e)).isInfinity = false := hi
                show ∃ m2 p2, Ieee.double.read (Ieee.double.nearest true m e) = _
                rw [hzz] at hi ⊢
                exact hlow z hz hi
            obtain ⟨m2, p2, hs⟩ := hsg
            have hsq : FloatKind.f64.format.sqrt r = ((Ieee.Datum.number true m2 p2).root 54).map Ieee.double.write := by
              show ((Ieee.double.read r).root 54).map _ = _
              rw [hs]
              rfl
            by_cases hm2 : m2 = 0
            · subst hm2
              refine .inr ⟨9223372036854775808, 2147483648, ?_, by decide +kernel⟩
              unfold fsqrtT
              dsimp only
              rw [hsq, show (Ieee.Datum.number true 0 p2).root 54 = some (.number true 0 p2) from by
                unfold Ieee.Datum.root
                dsimp only
                rw [if_pos rfl]]
              show toF .f64 (Ieee.double.nearest true 0 p2) = _
              rw [show Ieee.double.nearest true 0 p2 = 9223372036854775808 from by
                unfold Ieee.Format.nearest
                rw [if_pos rfl]
                rfl]
              decide +kernel
            · refine .inl ?_
              unfold fsqrtT
              dsimp only
              rw [hsq, show (Ieee.Datum.number true m2 p2).root 54 = none from by
                unfold Ieee.Datum.root
                dsimp only
                rw [if_neg hm2, if_pos rfl]]
              rfl
        rcases hcase with h | ⟨q, z, h, hz⟩
        · refine ⟨none, ?_, ?_⟩
          · unfold spec_l01Sqrt spec_l01Narrow math_Sqrt fconvB
            simp only [hr, h, Option.bind_some]
          · unfold impl_RootNumber math_Sqrt fconvB
            simp only [hr, h, Option.bind_some]
        · refine ⟨toF .f32 z, ?_, ?_⟩
          · unfold spec_l01Sqrt spec_l01Narrow math_Sqrt fconvB
            simp only [hr, h, hz, Option.bind_some]
          · unfold impl_RootNumber math_Sqrt fconvB
            simp only [hr, h, hz, Option.bind_some]
    | infinity g =>
      cases g with
      | false => exact root_both ⟨b, rfl, .inr hd⟩
      | true =>
        obtain ⟨r, hr⟩ := widen_ok hb
        have hr2 : r = Ieee.double.write (.infinity true) := by
          unfold fconv at hr
          rw [show FloatKind.f32.decode b = .infinity true from hd] at hr
          exact (Option.some.inj hr).symm
        have h : fsqrtT (toF .f64 r) = none := by
          rw [hr2]
          decide +kernel
        refine ⟨none, ?_, ?_⟩
        · unfold spec_l01Sqrt spec_l01Narrow math_Sqrt fconvB
          simp only [hr, h, Option.bind_some]
        · unfold impl_RootNumber math_Sqrt fconvB
          simp only [hr, h, Option.bind_some]

/-- A word's number, once more. -/
theorem read_norm {x m : Nat} {g : Bool} {e : Int} (h : Ieee.single.read x = .number g m e) : m < 16777216 ∧ -149 ≤ e ∧ e ≤ 104 ∧ (e = -149 ∨ 8388608 ≤ m) := by
  unfold Ieee.Format.read at h
  rw [show Ieee.single.binade = 8388608 from rfl, show Ieee.single.infRung = 2139095040 from rfl, show Ieee.single.leastPlace = -149 from rfl] at h
  simp only at h
  generalize x % Ieee.single.signWeight = r at h
  split at h
  · injection h with h1 h2 h3
    omega
  · split at h
    · injection h with h1 h2 h3
      omega
    · split at h <;> cases h

/-- A number below 2 to the (W + 1). -/
def Num (W : Int) (a : Option Nat) : Prop := ∃ x g m p, a = some x ∧ Ieee.single.read x = .number g m p ∧ m < 16777216 ∧ p + 23 ≤ W
def Pos (W : Int) (a : Option Nat) : Prop := ∃ x m p, a = some x ∧ Ieee.single.read x = .number false m p ∧ m < 16777216 ∧ p + 23 ≤ W

theorem Pos.num {W : Int} {a : Option Nat} (h : Pos W a) : Num W a := by
  obtain ⟨x, m, p, h⟩ := h
  exact ⟨x, false, m, p, h⟩

theorem read_flip {r m : Nat} {p : Int} (hr : r < 2147483648) (h : Ieee.single.read r = .number false m p) : Ieee.single.read (2147483648 + r) = .number true m p := by
  unfold Ieee.Format.read at h ⊢
  rw [show Ieee.single.signWeight = 2147483648 from rfl] at h ⊢
  simp only [Nat.add_mod_left, Nat.mod_eq_of_lt hr, Nat.div_eq_of_lt hr] at h ⊢
  rw [show (2147483648 + r) / 2147483648 = 1 by omega]
  split
  · rename_i h1
    rw [if_pos h1] at h
    injection h with h1 h2 h3
    subst h2 h3
    rfl
  · rename_i h1
    rw [if_neg h1] at h
    split
    · rename_i h2
      rw [if_pos h2] at h
      injection h with h1 h2 h3
      rw [h2, h3]
      rfl
    · rename_i h2
      rw [if_neg h2] at h
      split at h <;> cases h

theorem nearest_lt (m : Nat) (p : Int) : Ieee.single.nearest false m p ≤ 2139095040 := by
  unfold Ieee.Format.nearest Ieee.Format.word
  split
  · simp
  · simp only [Bool.false_eq_true, if_false]
    exact Nat.min_le_right _ _

theorem nearN {g : Bool} {m : Nat} {p W : Int} (hW : m = 0 ∨ p + (m.log2 : Int) ≤ W) (h1 : -126 ≤ W) (h2 : W ≤ 110) : ∃ m' p', Ieee.single.read (Ieee.single.nearest g m p) = .number g m' p' ∧ m' < 16777216 ∧ p' + 23 ≤ W + 1 := by
  obtain ⟨m', p', k1, k2, k3⟩ := nearS hW h1 h2
  cases g with
  | false => exact ⟨m', p', k1, k2, k3⟩
  | true =>
    have e1 : Ieee.single.nearest true m p = 2147483648 + Ieee.single.nearest false m p := by
      unfold Ieee.Format.nearest Ieee.Format.word
      split <;> simp <;> rfl
    have hlt := nearest_lt m p
    rw [e1]
    exact ⟨m', p', read_flip (by omega) k1, k2, k3⟩

theorem mul_log {m n : Nat} (hm : m < 16777216) (hn : n < 16777216) : m * n = 0 ∨ (m * n).log2 ≤ 47 := by
  by_cases h : m * n = 0
  · exact .inl h
  · refine .inr ?_
    have : m * n < 2 ^ 48 := by
      have h1 : m * n ≤ 16777215 * 16777215 := Nat.mul_le_mul (by omega) (by omega)
      omega
    have := log_lt this h
    omega

theorem mul_num {a b : Option Nat} {Wa Wb : Int} (ha : Num Wa a) (hb : Num Wb b) (h1 : -126 ≤ Wa + Wb + 1) (h2 : Wa + Wb + 1 ≤ 110) : Num (Wa + Wb + 2) (farith .mul .f32 a b) := by
  obtain ⟨x, s, m, i, rfl, hx, hm, hi⟩ := ha
  obtain ⟨y, t, n, j, rfl, hy, hn, hj⟩ := hb
  obtain ⟨m', p', k1, k2, k3⟩ := nearN (g := s ^^ t) (m := m * n) (p := i + j) (W := Wa + Wb + 1) (by rcases mul_log hm hn with h | h; exact .inl h; exact .inr (by omega)) h1 h2
  have hb : fbits .mul .f32 x y = some (Ieee.single.nearest (s ^^ t) (m * n) (i + j)) := by
    show ((Ieee.single.read x).product (Ieee.single.read y)).map Ieee.single.write = _
    rw [hx, hy]
    rfl
  refine ⟨_, _, m', p', ?_, k1, k2, by omega⟩
  unfold farith
  dsimp only
  rw [hb]
  exact toF_num (k := .f32) k1

theorem mul_pos {a b : Option Nat} {Wa Wb : Int} (ha : Pos Wa a) (hb : Pos Wb b) (h1 : -126 ≤ Wa + Wb + 1) (h2 : Wa + Wb + 1 ≤ 110) : Pos (Wa + Wb + 2) (farith .mul .f32 a b) := by
  obtain ⟨x, m, i, rfl, hx, hm, hi⟩ := ha
  obtain ⟨y, n, j, rfl, hy, hn, hj⟩ := hb
  obtain ⟨m', p', k1, k2, k3⟩ := nearN (g := false) (m := m * n) (p := i + j) (W := Wa + Wb + 1) (by rcases mul_log hm hn with h | h; exact .inl h; exact .inr (by omega)) h1 h2
  have hb : fbits .mul .f32 x y = some (Ieee.single.nearest false (m * n) (i + j)) := by
    show ((Ieee.single.read x).product (Ieee.single.read y)).map Ieee.single.write = _
    rw [hx, hy]
    rfl
  refine ⟨_, m', p', ?_, k1, k2, by omega⟩
  unfold farith
  dsimp only
  rw [hb]
  exact toF_num (k := .f32) k1

theorem signed_abs (g : Bool) (m k : Nat) : (Ieee.signed g m k).natAbs = m * 2 ^ k := by
  unfold Ieee.signed
  rw [Nat.shiftLeft_eq]
  cases g with
  | false => exact Int.natAbs_natCast _
  | true =>
    rw [if_pos rfl, Int.natAbs_neg]
    exact Int.natAbs_natCast _

theorem signed_opp (g : Bool) (m k : Nat) : Ieee.signed (!g) m k = - Ieee.signed g m k := by
  unfold Ieee.signed
  cases g <;> simp

theorem signed_pos (m k : Nat) : Ieee.signed false m k = ((m * 2 ^ k : Nat) : Int) := by
  unfold Ieee.signed
  rw [Nat.shiftLeft_eq]
  rfl

/-- A sum or a difference. -/
theorem sum_num {s t : Bool} {m n : Nat} {i j W : Int} (hm : m < 16777216) (hn : n < 16777216) (hi : i + 23 ≤ W) (hj : j + 23 ≤ W) (h1 : -127 ≤ W) (h2 : W ≤ 109) :
    ∃ r, ((Ieee.Datum.number s m i).sum (.number t n j)).map Ieee.single.write = some r ∧ ∃ g m' p', Ieee.single.read r = .number g m' p' ∧ m' < 16777216 ∧ p' + 23 ≤ W + 2 := by
  obtain ⟨base, hbase⟩ : ∃ b, b = min i j := ⟨_, rfl⟩
  obtain ⟨total, htot⟩ : ∃ t' : Int, t' = Ieee.signed s m (i - base).toNat + Ieee.signed t n (j - base).toNat := ⟨_, rfl⟩
  have hsum : (Ieee.Datum.number s m i).sum (.number t n j) = some (.number (if total = 0 then s && t else decide (total < 0)) total.natAbs base) := by
    rw [htot, hbase]
    rfl
  have hk1 : m * 2 ^ (i - base).toNat < 2 ^ (W + 1 - base).toNat := by
    have h : m * 2 ^ (i - base).toNat < 16777216 * 2 ^ (i - base).toNat := Nat.mul_lt_mul_of_pos_right hm (Nat.pow_pos (by omega))
    rw [show (16777216 : Nat) = 2 ^ 24 from rfl, ← Nat.pow_add] at h
    exact Nat.lt_of_lt_of_le h (Nat.pow_le_pow_right (by omega) (by omega))
  have hk2 : n * 2 ^ (j - base).toNat < 2 ^ (W + 1 - base).toNat := by
    have h : n * 2 ^ (j - base).toNat < 16777216 * 2 ^ (j - base).toNat := Nat.mul_lt_mul_of_pos_right hn (Nat.pow_pos (by omega))
    rw [show (16777216 : Nat) = 2 ^ 24 from rfl, ← Nat.pow_add] at h
    exact Nat.lt_of_lt_of_le h (Nat.pow_le_pow_right (by omega) (by omega))
  have hab : total.natAbs < 2 ^ ((W + 1 - base).toNat + 1) := by
    have e1 := signed_abs s m (i - base).toNat
    have e2 := signed_abs t n (j - base).toNat
    rw [Nat.pow_succ]
    rw [htot]
    generalize Ieee.signed s m (i - base).toNat = A at e1
    generalize Ieee.signed t n (j - base).toNat = B at e2
    omega
  obtain ⟨m', p', k1, k2, k3⟩ := nearN (g := (if total = 0 then s && t else decide (total < 0))) (m := total.natAbs) (p := base) (W := W + 1) (by
    by_cases h : total.natAbs = 0
    · exact .inl h
    · have := log_lt hab h
      exact .inr (by omega)) (by omega) (by omega)
  exact ⟨_, by rw [hsum]; rfl, _, m', p', k1, k2, by omega⟩

theorem add_num {a b : Option Nat} {W : Int} (ha : Num W a) (hb : Num W b) (h1 : -127 ≤ W) (h2 : W ≤ 109) : Num (W + 2) (farith .add .f32 a b) := by
  obtain ⟨x, s, m, i, rfl, hx, hm, hi⟩ := ha
  obtain ⟨y, t, n, j, rfl, hy, hn, hj⟩ := hb
  obtain ⟨r, hr, g, m', p', k1, k2, k3⟩ := sum_num (s := s) (t := t) hm hn hi hj h1 h2
  have hb : fbits .add .f32 x y = some r := by
    show ((Ieee.single.read x).sum (Ieee.single.read y)).map Ieee.single.write = _
    rw [hx, hy]
    exact hr
  refine ⟨r, g, m', p', ?_, k1, k2, k3⟩
  unfold farith
  dsimp only
  rw [hb]
  exact toF_num (k := .f32) k1

theorem sub_num {a b : Option Nat} {W : Int} (ha : Num W a) (hb : Num W b) (h1 : -127 ≤ W) (h2 : W ≤ 109) : Num (W + 2) (farith .sub .f32 a b) := by
  obtain ⟨x, s, m, i, rfl, hx, hm, hi⟩ := ha
  obtain ⟨y, t, n, j, rfl, hy, hn, hj⟩ := hb
  obtain ⟨r, hr, g, m', p', k1, k2, k3⟩ := sum_num (s := s) (t := !t) hm hn hi hj h1 h2
  have hb : fbits .sub .f32 x y = some r := by
    show ((Ieee.single.read x).sum (Ieee.single.read y).opposite).map Ieee.single.write = _
    rw [hx, hy]
    exact hr
  refine ⟨r, g, m', p', ?_, k1, k2, k3⟩
  unfold farith
  dsimp only
  rw [hb]
  exact toF_num (k := .f32) k1

/-- A difference that is not negative. -/
theorem sub_pos {x y m n : Nat} {t : Bool} {i j W : Int} (hx : Ieee.single.read x = .number false m i) (hm : m < 16777216) (hi : i + 23 ≤ W) (hy : Ieee.single.read y = .number t n j)
    (h0 : 0 ≤ Ieee.signed t n (j - min i j).toNat) (hle : Ieee.signed t n (j - min i j).toNat ≤ Ieee.signed false m (i - min i j).toNat) (h1 : -126 ≤ W) (h2 : W ≤ 110) : Pos (W + 1) (farith .sub .f32 (some x) (some y)) := by
  obtain ⟨base, hbase⟩ : ∃ b, b = min i j := ⟨_, rfl⟩
  rw [← hbase] at h0 hle
  obtain ⟨total, htot⟩ : ∃ t' : Int, t' = Ieee.signed false m (i - base).toNat - Ieee.signed t n (j - base).toNat := ⟨_, rfl⟩
  have hsum : (Ieee.Datum.number false m i).sum (.number (!t) n j) = some (.number false total.natAbs base) := by
    show some (Ieee.Datum.number (if Ieee.signed false m (i - min i j).toNat + Ieee.signed (!t) n (j - min i j).toNat = 0 then false && !t else decide (Ieee.signed false m (i - min i j).toNat + Ieee.signed (!t) n (j - min i j).toNat < 0)) (Ieee.signed false m (i - min i j).toNat + Ieee.signed (!t) n (j - min i j).toNat).natAbs (min i j)) = _
    rw [signed_opp, ← hbase, ← Int.sub_eq_add_neg, ← htot]
    congr 2
    split
    · rfl
    · exact decide_eq_false (by omega)
  have hab : total.natAbs ≤ m * 2 ^ (i - base).toNat := by
    have e1 := signed_abs false m (i - base).toNat
    rw [htot]
    generalize Ieee.signed false m (i - base).toNat = A at e1 hle
    generalize Ieee.signed t n (j - base).toNat = B at h0 hle
    omega
  obtain ⟨m', p', k1, k2, k3⟩ := nearN (g := false) (m := total.natAbs) (p := base) (W := W) (by
    by_cases h : total.natAbs = 0
    · exact .inl h
    · have h3 : m * 2 ^ (i - base).toNat < 16777216 * 2 ^ (i - base).toNat := Nat.mul_lt_mul_of_pos_right hm (Nat.pow_pos (by omega))
      rw [show (16777216 : Nat) = 2 ^ 24 from rfl, ← Nat.pow_add] at h3
      have := log_lt (Nat.lt_of_le_of_lt hab h3) h
      exact .inr (by omega)) h1 h2
  have hb : fbits .sub .f32 x y = some (Ieee.single.nearest false total.natAbs base) := by
    show ((Ieee.single.read x).sum (Ieee.single.read y).opposite).map Ieee.single.write = _
    rw [hx, hy]
    show ((Ieee.Datum.number false m i).sum (.number (!t) n j)).map Ieee.single.write = _
    rw [hsum]
    rfl
  refine ⟨_, m', p', ?_, k1, k2, by omega⟩
  unfold farith
  dsimp only
  rw [hb]
  exact toF_num (k := .f32) k1

/-- A root. -/
theorem root_pos {N : Nat} {a : Option Nat} {W : Int} (h : Pos W a) (h1 : -100 ≤ W) (h2 : W ≤ 100) : ∃ v, spec_l01Sqrt N a = some (v, ()) ∧ impl_RootNumber N a = some (v, ()) ∧ Pos ((W + 1) / 2 + 6) v := by
  obtain ⟨x, m, e, rfl, hx, hm, he⟩ := h
  have hl : m = 0 ∨ e + (m.log2 : Int) ≤ W := by
    by_cases h0 : m = 0
    · exact .inl h0
    · have := log_lt (n := 24) hm h0
      exact .inr (by omega)
  obtain ⟨m2, p2, r2, c1, c2⟩ := nearD hl (by omega) (by omega)
  have hl2 : m2 = 0 ∨ p2 + (m2.log2 : Int) ≤ W + 1 := by
    by_cases h0 : m2 = 0
    · exact .inl h0
    · have := log_lt (n := 53) c1 h0
      exact .inr (by omega)
  obtain ⟨m3, p3, r3, d1⟩ := root_ok hl2
  obtain ⟨m4, p4, r4, f1, f2⟩ := nearD (m := m3) (p := p3) (W := (W + 1) / 2 + 4) d1 (by omega) (by omega)
  have hl4 : m4 = 0 ∨ p4 + (m4.log2 : Int) ≤ (W + 1) / 2 + 5 := by
    by_cases h0 : m4 = 0
    · exact .inl h0
    · have := log_lt (n := 53) f1 h0
      exact .inr (by omega)
  obtain ⟨m5, p5, r5, q1, q2⟩ := nearS hl4 (by omega) (by omega)
  have e1 : fconv .f32 x .f64 = some (Ieee.double.nearest false m e) := by
    unfold fconv
    rw [show FloatKind.f32.decode x = .number false m e from hx]
    dsimp only
    rw [show (FloatKind.f64.decode (FloatKind.f64.encode (.number false m e))).isInfinity = false from by
      show (Ieee.double.read (Ieee.double.nearest false m e)).isInfinity = false
      rw [r2]
      rfl]
    rfl
  have e2 : toF .f64 (Ieee.double.nearest false m e) = some (Ieee.double.nearest false m e) := toF_num (k := .f64) r2
  have e3 : FloatKind.f64.format.sqrt (Ieee.double.nearest false m e) = some (Ieee.double.nearest false m3 p3) := by
    show ((Ieee.double.read (Ieee.double.nearest false m e)).root 54).map Ieee.double.write = _
    rw [r2, r3]
    rfl
  have e4 : toF .f64 (Ieee.double.nearest false m3 p3) = some (Ieee.double.nearest false m3 p3) := toF_num (k := .f64) r4
  have e5 : fconv .f64 (Ieee.double.nearest false m3 p3) .f32 = some (Ieee.single.nearest false m4 p4) := by
    unfold fconv
    rw [show FloatKind.f64.decode (Ieee.double.nearest false m3 p3) = .number false m4 p4 from r4]
    dsimp only
    rw [show (FloatKind.f32.decode (FloatKind.f32.encode (.number false m4 p4))).isInfinity = false from by
      show (Ieee.single.read (Ieee.single.nearest false m4 p4)).isInfinity = false
      rw [r5]
      rfl]
    rfl
  refine ⟨toF .f32 (Ieee.single.nearest false m4 p4), ?_, ?_, _, m5, p5, toF_num (k := .f32) r5, r5, q1, by omega⟩
  · unfold spec_l01Sqrt spec_l01Narrow math_Sqrt fsqrtT fconvB
    simp only [e1, e2, e3, e4, e5, Option.bind_some]
  · unfold impl_RootNumber math_Sqrt fsqrtT fconvB
    simp only [e1, e2, e3, e4, e5, Option.bind_some]

end Go.Proofs.Ytmdicmdodbndgaa
