/-
  MeanTime: the plain law. No condition.
-/
import Derived.Test.YtblmginpolckoaaFun
import Derived.Test.YtblmginpolckoaaFwU
namespace Go.Proofs.Ytblmginpolckoaa
open Go Go.Proofs.Ytblmginpolckoaa.Fw
set_option linter.unusedVariables false
set_option linter.unusedSimpArgs false

/-- What a 32-bit word's number looks like. -/
theorem read_single {x m : Nat} {g : Bool} {e : Int} (h : FloatKind.f32.decode x = .number g m e) : m < 16777216 ∧ -149 ≤ e ∧ e ≤ 104 := by
  have h : Ieee.Format.read Ieee.single x = .number g m e := h
  unfold Ieee.Format.read at h
  rw [show Ieee.single.binade = 8388608 from rfl, show Ieee.single.infRung = 2139095040 from rfl, show Ieee.single.leastPlace = -149 from rfl] at h
  simp only at h
  generalize x % Ieee.single.signWeight = r at h
  split at h
  · injection h with h1 h2 h3
    omega
  · split at h
    · injection h with h1 h2 h3
      omega
    · split at h <;> cases h

theorem cut_zero (g : Bool) (n : Nat) : Ieee.Toward.even.cut g n 0 = n := by
  unfold Ieee.Toward.cut
  have : (1 : Nat) <<< min 0 (n.log2 + 2) = 1 := by rw [Nat.zero_min]; rfl
  simp only [this, Nat.div_one, Nat.mod_one]
  rfl

theorem widen {x m : Nat} {g : Bool} {e : Int} (h : FloatKind.f32.decode x = .number g m e) : (FloatKind.f64.decode (FloatKind.f64.encode (.number g m e))).isInfinity = false := by
  obtain ⟨h1, h2, h3⟩ := read_single h
  show (Ieee.Format.read Ieee.double (Ieee.Format.nearest Ieee.double g m e)).isInfinity = false
  have key : ∀ r : Nat, r < 9218868437227405312 → (Ieee.Format.read Ieee.double (Ieee.Format.word Ieee.double g r)).isInfinity = false := fun r hr => by
    have hw : (Ieee.Format.word Ieee.double g r) % Ieee.double.signWeight = r := by
      unfold Ieee.Format.word
      rw [show Ieee.double.signWeight = 9223372036854775808 from rfl]
      cases g
      · simp; omega
      · simp; omega
    unfold Ieee.Format.read
    rw [hw, show Ieee.double.binade = 4503599627370496 from rfl, show Ieee.double.infRung = 9218868437227405312 from rfl]
    simp only
    split
    · rfl
    · first
        | rfl
        | (rw [if_pos hr]; rfl)
  unfold Ieee.Format.nearest
  by_cases hm : m = 0
  · rw [if_pos hm]
    exact key 0 (by omega)
  · rw [if_neg hm]
    have hl : m.log2 < 24 := (Nat.log2_lt hm).2 (by omega)
    have hl2 : m < 2 ^ (m.log2 + 1) := Nat.lt_log2_self
    rw [show Ieee.double.leastPlace = -1074 from rfl, show Ieee.double.binade = 4503599627370496 from rfl, show Ieee.double.infRung = 9218868437227405312 from rfl, show Ieee.double.fractionBits = 52 from rfl]
    have hmax : max (e + (m.log2 : Int) - ((52 : Nat) : Int)) (-1074) = e + (m.log2 : Int) - 52 := by omega
    simp only [hmax]
    rw [show (e - (e + (m.log2 : Int) - 52)).toNat = 52 - m.log2 by omega, show (e + (m.log2 : Int) - 52 - e).toNat = 0 by omega, cut_zero]
    have hk : m <<< (52 - m.log2) < 9007199254740992 := by
      rw [Nat.shiftLeft_eq]
      have : m * 2 ^ (52 - m.log2) < 2 ^ (m.log2 + 1) * 2 ^ (52 - m.log2) := Nat.mul_lt_mul_of_pos_right hl2 (Nat.pow_pos (by omega))
      rw [← Nat.pow_add, show m.log2 + 1 + (52 - m.log2) = 53 by omega] at this
      exact this
    refine key _ ?_
    have hq : (e + (m.log2 : Int) - 52 - -1074).toNat ≤ 1149 := by omega
    generalize (e + (m.log2 : Int) - 52 - -1074).toNat = q at hq
    generalize m <<< (52 - m.log2) = kk at hk
    omega

def fin32 (a : Option Nat) : Bool := fcmp .eql .f32 (farith .sub .f32 a a) (toF .f32 0)

theorem conv_some {a : Option Nat} (h : fin32 a = true) : ∃ r, fconvA .f32 a .f64 = some r := by
  cases a with
  | none => exact absurd h (by decide +kernel)
  | some x =>
    show ∃ r, fconv .f32 x .f64 = some r
    unfold fconv
    cases hd : FloatKind.f32.decode x with
    | nan s t =>
      exfalso
      have hn : fbits .sub .f32 x x = none := fbits_nan (.inl (toF_nan (k := .f32) hd))
      unfold fin32 farith at h
      dsimp only at h
      rw [hn] at h
      exact absurd h (by decide +kernel)
    | infinity g => exact ⟨_, rfl⟩
    | number g m e =>
      simp only
      rw [widen hd]
      exact ⟨_, rfl⟩

theorem conv_zero : ∃ r, fconvA .f32 (toF .f32 0) .f64 = some r := conv_some (by decide +kernel)

section
variable {N : Nat} (hN : 9223372036854775808 ≤ N)
include hN

theorem sameFloat_self (v : Option Nat) : laws_sameFloat N v v = some (true, ()) := by
  have _ := hN
  unfold laws_sameFloat
  cases h : fcmp .neq .f64 v v
  · have h2 : fcmp .eql .f64 v v = true := by
      unfold fcmp at h ⊢
      simp only at h ⊢
      simpa using h
    simp only [cond_false]
    cases fcmp .eql .f64 v (toF .f64 0)
    · simp [h2]
    · simp
  · rfl

theorem fin_spec (a : Option Nat) : spec_l01Finite N a = some (fin32 a, ()) := by
  have _ := hN
  rfl

theorem fin_impl (l : List (Option Nat)) (hl : l.length ≤ 4294967296) : impl_areFinite N l = some (l.all fin32, ()) := by
  have e : slices_IndexFunc_float32_float32_impl_areFinite_1 N l () = some (if l.all fin32 then -1 else ((l.findIdx (fun a => !fin32 a) : Nat) : Int), ()) := by
    unfold slices_IndexFunc_float32_float32_impl_areFinite_1
    refine loop_eq (inv := fun s : Int × Unit => ∃ i : Nat, s.1 = i ∧ i ≤ l.length ∧ (l.take i).all fin32 = true) (μ := fun s => (l.length - s.1).toNat) (R := fun _ => some (if l.all fin32 then -1 else ((l.findIdx (fun a => !fin32 a) : Nat) : Int), ())) ?_ N _ ⟨0, rfl, Nat.zero_le _, rfl⟩ (by simp only; omega)
    rintro ⟨i, u⟩ next ⟨i, rfl, hi, hall⟩ hn
    simp only at hn ⊢
    by_cases hlt : i < l.length
    · have hg : l[i]? = some l[i] := List.getElem?_eq_getElem hlt
      have hidx : idx l (i : Int) = some l[i] := by rw [idx_nat]; exact hg
      rw [decide_eq_true (show (i : Int) < (l.length : Int) by omega), cond_true, hidx]
      simp only [Option.bind_some]
      rw [show impl_areFinite_1 N l[i] = some (!fin32 l[i], ()) from rfl]
      simp only [Option.bind_some]
      have ht : l.take (i + 1) = l.take i ++ [l[i]] := by
        rw [List.take_add_one, hg]
        rfl
      cases hf : fin32 l[i]
      · have hna : l.all fin32 = false := by
          rw [Bool.eq_false_iff]
          intro h
          have := List.all_eq_true.1 h l[i] (List.getElem_mem hlt)
          rw [hf] at this
          cases this
        have hfi : l.findIdx (fun a => !fin32 a) = i := by
          rw [List.findIdx_eq hlt]
          refine ⟨by simp [hf], fun j hj => ?_⟩
          have hm : l[j]'(by omega) ∈ l.take i := by
            rw [List.mem_take_iff_getElem]
            exact ⟨j, by omega, rfl⟩
          simp [List.all_eq_true.1 hall _ hm]
        rw [hna, hfi]
        rfl
      · simp only [Bool.not_true, cond_false]
        rw [w64_in (by omega)]
        exact hn _ ⟨i + 1, rfl, by omega, by rw [ht, List.all_append, hall]; simp [hf]⟩ (by simp only; omega)
    · obtain rfl : i = l.length := by omega
      rw [decide_eq_false (show ¬ (l.length : Int) < (l.length : Int) by omega), cond_false]
      rw [List.take_length] at hall
      rw [hall]
      rfl
  unfold impl_areFinite slices_ContainsFunc_float32_float32_impl_areFinite_1
  rw [e]
  simp only [Option.bind_some]
  cases l.all fin32
  · simp
  · simp

theorem mean_both (x y z : Option Nat) : ∃ a b c, spec_MeanTime N x y z = some (a, b, c, ()) ∧ impl_MeanTime N x y z = some (a, b, c, ()) ∧ (∃ r, fconvA .f32 a .f64 = some r) ∧ ∃ r, fconvA .f32 b .f64 = some r := by
  unfold spec_MeanTime impl_MeanTime spec_l03Three
  rw [fin_impl hN _ (by simp), fin_impl hN _ (by simp)]
  simp only [fin_spec hN, Option.bind_some, List.all_cons, List.all_nil, Bool.and_true]
  generalize hA : farith .quo .f32 (farith .add .f32 (farith .add .f32 x (farith .mul .f32 (toF .f32 1082130432) y)) z) (toF .f32 1086324736) = A
  generalize hB : farith .mul .f32 (farith .quo .f32 (farith .sub .f32 z x) (toF .f32 1086324736)) (farith .quo .f32 (farith .sub .f32 z x) (toF .f32 1086324736)) = B
  have z0 : ∃ (a b : Option Nat) (c : Bool), some (toF .f32 0, toF .f32 0, false, ()) = some (a, b, c, ()) ∧ some (toF .f32 0, toF .f32 0, false, ()) = some (a, b, c, ()) ∧ (∃ r, fconvA .f32 a .f64 = some r) ∧ ∃ r, fconvA .f32 b .f64 = some r := ⟨_, _, _, rfl, rfl, conv_zero, conv_zero⟩
  cases fin32 x
  · exact z0
  · cases fin32 y
    · exact z0
    · cases fin32 z
      · exact z0
      · cases fcmp .leq .f32 x y
        · exact z0
        · cases fcmp .leq .f32 y z
          · exact z0
          · cases hfa : fin32 A
            · exact z0
            · cases hfb : fin32 B
              · exact z0
              · exact ⟨A, B, true, rfl, rfl, conv_some hfa, conv_some hfb⟩

theorem FnExactMeanTime_eq (x y z : Option Nat) : laws_FnExactMeanTime N x y z = some (true, ()) := by
  unfold laws_FnExactMeanTime
  obtain ⟨a, b, c, h1, h2, ⟨r, h3⟩, q, h4⟩ := mean_both hN x y z
  simp only [h1, h2, Option.bind_some, h3, h4, sameFloat_self hN, Bool.not_true, cond_false, BEq.rfl]
end

end Go.Proofs.Ytblmginpolckoaa
