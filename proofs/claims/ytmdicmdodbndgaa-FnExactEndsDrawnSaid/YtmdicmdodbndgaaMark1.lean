/-
  What markInt64S does to memory. No condition.
-/
import Derived.Test.YtmdicmdodbndgaaMarkM
import Derived.Test.YtmdicmdodbndgaaChecked
import Derived.Tactics2
namespace Go.Proofs.Ytmdicmdodbndgaa
open Go Go.Proofs.Ytmdicmdodbndgaa.Fw
set_option maxRecDepth 100000
set_option linter.unusedVariables false

theorem mark64_none (A : Option Addr) (cap : Nat) (k : Int) (w : World) :
    Calls Try.prog 12 #[.slice A 0 cap, .int .i64 k] w fun en w' => en = .returned (.int .i64 k) ∧ w' = w := by
  go_enter Try.func12, Try.ntmps12
  go_wp2
  refine wp_loop_n (fun m a w' => a = { tmps := #[.slice A 0 cap, .int .i64 k, undef, undef, .int .i64 0, .int .i64 0, undef, undef, undef, undef, undef, undef, undef, undef, undef, undef, undef, undef, undef], defers := [] } ∧ w' = w) ?_ 0 _ _ ⟨rfl, rfl⟩
  rintro m _ w' ⟨rfl, rfl⟩
  go_wp2
  go_ret
  exact ⟨rfl, rfl⟩

theorem mark64_some (b off n cap : Nat) (k : Int) (w : World) (hk : 0 ≤ k) (hkn : k + n ≤ 4611686018427387904) (hr : Room w.heap b (off + n)) :
    Calls Try.prog 12 #[.slice (some ⟨b, off, none⟩) n cap, .int .i64 k] w fun en w' => en = .returned (.int .i64 (k + n)) ∧ BelowX w.heap.size (fun x => x = b) w w' ∧
      (∀ c k, Room w.heap c k → Room w'.heap c k) ∧ ∀ c k, c ≠ b → cellH w'.heap c k = cellH w.heap c k := by
  go_enter Try.func12, Try.ntmps12
  go_wp2
  refine wp_loop_n (fun m a w' => ∃ i q u2 u3 u6 u7 u8 u9 u10 u11 u12 u13 u14 u15 u16 u17 u18, a = { tmps := #[.slice (some ⟨b, off, none⟩) n cap, .int .i64 q, u2, u3, .int .i64 0, .int .i64 i, u6, u7, u8, u9, u10, u11, u12, u13, u14, u15, u16, u17, u18], defers := [] } ∧
      q = k + i ∧ 0 ≤ i ∧ i ≤ n ∧ m = (n - i).toNat ∧ BelowX w.heap.size (fun x => x = b) w w' ∧ (∀ c k, Room w.heap c k → Room w'.heap c k) ∧ ∀ c k, c ≠ b → cellH w'.heap c k = cellH w.heap c k) ?_ n _ _
    ⟨0, k, undef, undef, undef, undef, undef, undef, undef, undef, undef, undef, undef, undef, undef, undef, undef, rfl, by omega, Int.le_refl _, by omega, by omega, BelowX.refl _ _ _, fun _ _ h => h, fun _ _ _ => rfl⟩
  rintro m _ w' ⟨i, q, u2, u3, u6, u7, u8, u9, u10, u11, u12, u13, u14, u15, u16, u17, u18, rfl, rfl, h0, h1, rfl, hX, hR, hC⟩
  have hf : w'.frozen? ⟨b, off + i.toNat, none⟩ = false := (hR _ _ hr).frozen
  by_cases hi : i < (n : Int)
  · obtain ⟨v, hv⟩ := (hR _ _ hr).cell (o := off + i.toNat) (by omega)
    obtain ⟨g1, g2, g3⟩ := set_cell hX rfl (hR _ _ hr) (off + i.toNat) (.int .i64 (k + i))
    go_wp2
    exact ⟨(n - (i + 1)).toNat, by omega, i + 1, k + i + 1, _, _, _, _, _, _, _, _, _, _, _, _, _, _, _, rfl, by omega, by omega, by omega, rfl, g1, fun c k h => g2 c k (hR c k h), fun c k h => (g3 c k (.inl h)).trans (hC c k h)⟩
  · go_wp2
    go_ret
    exact ⟨by rw [show i = (n : Int) by omega]; rfl, hX, hR, hC⟩

end Go.Proofs.Ytmdicmdodbndgaa
