/-
  What markJobS does to memory. No condition.
-/
import Derived.Test.YtkcdhdnmmpapdaaMark1
import Derived.Test.YtkcdhdnmmpapdaaMarkF
import Derived.Test.YtkcdhdnmmpapdaaFwR
namespace Go.Proofs.Ytkcdhdnmmpapdaa
open Go Go.Proofs.Ytkcdhdnmmpapdaa.Fw
set_option maxRecDepth 100000
set_option linter.unusedVariables false

theorem markJS_some (b n cap : Nat) (k : Int) (w : World) (hk : 0 ≤ k) (hkn : k + 4 * n ≤ 4611686018427387904) (hr : Room w.heap b (n * 4)) :
    Calls Try.prog 37 #[.slice (some ⟨b, 0, none⟩) n cap, .int .i64 k] w fun en w' => en = .returned (.int .i64 (k + 4 * n)) ∧ BelowX w.heap.size (fun x => b = x) w w' := by
  go_enter Try.func37, Try.ntmps37
  go_wp2
  refine wp_loop_n (fun m a w' => ∃ i q u2 u3 u6 u7 u8 u9 u10 u11 u12 u13 u14 u15 u16 u17 u18 u19 u20 u21 u22 u23 u24 u25 u26 u27 u28 u29 u30 u31 u32 u33 u34 u35 u36 u37 u38 u39 u40, a = { tmps := #[.slice (some ⟨b, 0, none⟩) n cap, .int .i64 q, u2, u3, .int .i64 0, .int .i64 i, u6, u7, u8, u9, u10, u11, u12, u13, u14, u15, u16, u17, u18, u19, u20, u21, u22, u23, u24, u25, u26, u27, u28, u29, u30, u31, u32, u33, u34, u35, u36, u37, u38, u39, u40], defers := [] } ∧
      q = k + 4 * i ∧ 0 ≤ i ∧ i ≤ n ∧ m = (n - i).toNat ∧ BelowX w.heap.size (fun x => b = x) w w' ∧ Room w'.heap b (n * 4)) ?_ n _ _
    ⟨0, k, undef, undef, undef, undef, undef, undef, undef, undef, undef, undef, undef, undef, undef, undef, undef, undef, undef, undef, undef, undef, undef, undef, undef, undef, undef, undef, undef, undef, undef, undef, undef, undef, undef, undef, undef, undef, undef, rfl, by omega, Int.le_refl _, by omega, by omega, BelowX.refl _ _ _, hr⟩
  rintro m _ w' ⟨i, q, u2, u3, u6, u7, u8, u9, u10, u11, u12, u13, u14, u15, u16, u17, u18, u19, u20, u21, u22, u23, u24, u25, u26, u27, u28, u29, u30, u31, u32, u33, u34, u35, u36, u37, u38, u39, u40, rfl, rfl, h0, h1, rfl, hX, hR⟩
  by_cases hi : i < (n : Int)
  · obtain ⟨v0, hv0⟩ := hR.cell (o := i.toNat * 4) (by omega)
    have hf0 : w'.frozen? ⟨b, i.toNat * 4, none⟩ = false := hR.frozen
    obtain ⟨v1, hv1⟩ := hR.cell (o := i.toNat * 4 + 1) (by omega)
    have hf1 : w'.frozen? ⟨b, i.toNat * 4 + 1, none⟩ = false := hR.frozen
    obtain ⟨v2, hv2⟩ := hR.cell (o := i.toNat * 4 + 2) (by omega)
    have hf2 : w'.frozen? ⟨b, i.toNat * 4 + 2, none⟩ = false := hR.frozen
    obtain ⟨v3, hv3⟩ := hR.cell (o := i.toNat * 4 + 3) (by omega)
    have hf3 : w'.frozen? ⟨b, i.toNat * 4 + 3, none⟩ = false := hR.frozen
    obtain ⟨a1, a2, a3⟩ := set_cell hX rfl hR (i.toNat * 4) (.int .i64 (k + 4 * i))
    obtain ⟨b1, b2, b3⟩ := set_cell a1 rfl (a2 _ _ hR) (i.toNat * 4 + 1) (.int .i64 (k + 4 * i + 1))
    obtain ⟨c1, c2, c3⟩ := set_cell b1 rfl (b2 _ _ (a2 _ _ hR)) (i.toNat * 4 + 2) (.int .i64 (k + 4 * i + 1 + 1))
    obtain ⟨d1, d2, d3⟩ := set_cell c1 rfl (c2 _ _ (b2 _ _ (a2 _ _ hR))) (i.toNat * 4 + 3) (.int .i64 (k + 4 * i + 1 + 1 + 1))
    go_wp21
    exact ⟨(n - (i + 1)).toNat, by omega, i + 1, k + 4 * i + 1 + 1 + 1 + 1, _, _, _, _, _, _, _, _, _, _, _, _, _, _, _, _, _, _, _, _, _, _, _, _, _, _, _, _, _, _, _, _, _, _, _, _, _, rfl, by omega, by omega, by omega, rfl, d1, d2 _ _ (c2 _ _ (b2 _ _ (a2 _ _ hR)))⟩
  · go_wp2
    go_ret
    exact ⟨by rw [show i = (n : Int) by omega]; rfl, hX⟩

theorem markJS_none (A : Option Addr) (cap : Nat) (k : Int) (w : World) :
    Calls Try.prog 37 #[.slice A 0 cap, .int .i64 k] w fun en w' => en = .returned (.int .i64 k) ∧ w' = w := by
  go_enter Try.func37, Try.ntmps37
  go_wp2
  refine wp_loop_n (fun m a w' => a = { tmps := #[.slice A 0 cap, .int .i64 k, undef, undef, .int .i64 0, .int .i64 0, undef, undef, undef, undef, undef, undef, undef, undef, undef, undef, undef, undef, undef, undef, undef, undef, undef, undef, undef, undef, undef, undef, undef, undef, undef, undef, undef, undef, undef, undef, undef, undef, undef, undef, undef], defers := [] } ∧ w' = w) ?_ 0 _ _ ⟨rfl, rfl⟩
  rintro m _ w' ⟨rfl, rfl⟩
  go_wp2
  go_ret
  exact ⟨rfl, rfl⟩

def laws_markJobS_d_e (_ : Nat) : EntD := { io := .pair (.int .i64) (.pair (.int .i64) (.pair (.int .i64) (.int .i64))), F := laws_markJobS_d }

theorem laws_markJobS_d_sound (N : Nat) : SoundD Try.prog 37 (laws_markJobS_d_e N) := by
  intro X w v ob k z xs hX hM hF
  have hF : laws_markJobS_d xs k = some z := hF
  unfold laws_markJobS_d at hF
  obtain ⟨hb, hz⟩ := cond_some hF
  simp only [Bool.and_eq_true, decide_eq_true_eq] at hb
  cases hz
  unfold CallOk
  rw [show (#[v, .int .i64 k] : Array Value) = [v, .int .i64 k].toArray from rfl, enter_of Try.func37 rfl (by kernel_rfl)]
  refine ⟨rfl, ?_⟩
  have none : ∀ {A : Option Addr} {cap : Nat}, v = .slice A 0 cap → xs = [] → Calls Try.prog 37 [v, .int .i64 k].toArray w fun e w' => ∃ u, e = .returned u ∧ u = .int .i64 (k + 4 * (xs.length : Int)) ∧ BelowX w.heap.size (fun b => X b ∨ ob = some b) w w' := by
    rintro A cap rfl rfl
    refine (markJS_none A cap k w).mono ?_
    rintro en w' ⟨rfl, rfl⟩
    exact ⟨_, rfl, by simp, BelowX.refl _ _ _⟩
  cases ob with
  | none => exact none hM.1 hM.2
  | some b =>
    obtain ⟨⟨cs, e, h1, h2, h3⟩, o, c, rfl, h4, h5, h6⟩ := hM
    have h2 : xs.length * 4 ≤ cs.size := h2
    by_cases hc : c = 0
    · have hnil : xs = [] := List.eq_nil_of_length_eq_zero (by omega)
      exact none (by rw [hnil]; rfl) hnil
    · have ho := h5 hc
      subst ho
      refine (markJS_some b xs.length c k w hb.1 hb.2 ⟨cs, e, h1, h2⟩).mono ?_
      rintro en w' ⟨rfl, hw⟩
      exact ⟨_, rfl, rfl, hw.wide (Nat.le_refl _) (fun x hx => .inr (by rw [hx]))⟩

end Go.Proofs.Ytkcdhdnmmpapdaa
