/-
  FlowLast, FlowEnds and BlockLast: the plain laws. No condition.
-/
import Derived.Test.YtblmginpolckoaaPShop
namespace Go.Proofs.Ytblmginpolckoaa
open Go Go.Proofs.Ytblmginpolckoaa.Fw
set_option linter.unusedVariables false
set_option linter.unusedSimpArgs false

theorem fin2 {α β : Type} {P : α → β → Prop} {A B : Option (α × β × Unit)} (h : ∃ r, A = some r ∧ B = some r ∧ P r.1 r.2.1) : ∃ a b, A = some (a, b, ()) ∧ B = some (a, b, ()) ∧ P a b := by
  obtain ⟨⟨a, b, u⟩, h1, h2, h3⟩ := h
  exact ⟨a, b, h1, h2, h3⟩

section
variable {N : Nat} (hN : 9223372036854775808 ≤ N)
include hN

/-- Where a job's time on a machine stands. -/
theorem at_eq {xs : List Int} {q m v k : Int} (hq : q * m = xs.length) (hm : 1 ≤ m ∧ m ≤ 8) (hx : xs.length ≤ 1048576) (hv : 0 ≤ v ∧ v < q) (hk : 0 ≤ k ∧ k < m) :
    0 ≤ v * m + k ∧ v * m + k < xs.length ∧ 0 ≤ v * m ∧ impl_shop_at N (xs, (q, m)) v k = some (xs.getD (v * m + k).toNat 0, ()) ∧ w64 (w64 (v * m) + k) = v * m + k := by
  have _ := hN
  have hle : (v + 1) * m ≤ q * m := Int.mul_le_mul_of_nonneg_right (by omega) (by omega)
  have he : (v + 1) * m = v * m + m := by rw [Int.add_mul, Int.one_mul]
  have hp : 0 ≤ v * m := Int.mul_nonneg hv.1 (by omega)
  have hw : w64 (w64 (v * m) + k) = v * m + k := by
    rw [w64_in (n := v * m) (by omega), w64_in (n := v * m + k) (by omega)]
  refine ⟨by omega, by omega, hp, ?_, hw⟩
  unfold impl_shop_at
  simp only
  rw [hw, idx_getD ⟨by omega, by omega⟩]
  rfl





end

end Go.Proofs.Ytblmginpolckoaa
