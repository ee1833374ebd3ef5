/-
  FlowLast, FlowEnds and BlockLast: the plain laws. No condition.
-/
import Derived.Test.YtblmginpolckoaaPShop
namespace Go.Proofs.Ytblmginpolckoaa
open Go Go.Proofs.Ytblmginpolckoaa.Fw
set_option linter.unusedVariables false
set_option linter.unusedSimpArgs false

theorem fin2 {α β : Type} {P : α → β → Prop} {A B : Option (α × β × Unit)} (h : ∃ r, A = some r ∧ B = some r ∧ P r.1 r.2.1) : ∃ a b, A = some (a, b, ()) ∧ B = some (a, b, ()) ∧ P a b := by
  obtain ⟨⟨a, b, u⟩, h1, h2, h3⟩ := h
  exact ⟨a, b, h1, h2, h3⟩

section
variable {N : Nat} (hN : 9223372036854775808 ≤ N)
include hN

/-- Where a job's time on a machine stands. -/
theorem at_eq {xs : List Int} {q m v k : Int} (hq : q * m = xs.length) (hm : 1 ≤ m ∧ m ≤ 8) (hx : xs.length ≤ 1048576) (hv : 0 ≤ v ∧ v < q) (hk : 0 ≤ k ∧ k < m) :
    0 ≤ v * m + k ∧ v * m + k < xs.length ∧ 0 ≤ v * m ∧ impl_shop_at N (xs, (q, m)) v k = some (xs.getD (v * m + k).toNat 0, ()) ∧ w64 (w64 (v * m) + k) = v * m + k := by
  have _ := hN
  have hle : (v + 1) * m ≤ q * m := Int.mul_le_mul_of_nonneg_right (by omega) (by omega)
  have he : (v + 1) * m = v * m + m := by rw [Int.add_mul, Int.one_mul]
  have hp : 0 ≤ v * m := Int.mul_nonneg hv.1 (by omega)
  have hw : w64 (w64 (v * m) + k) = v * m + k := by
    rw [w64_in (n := v * m) (by omega), w64_in (n := v * m + k) (by omega)]
  refine ⟨by omega, by omega, hp, ?_, hw⟩
  unfold impl_shop_at
  simp only
  rw [hw, idx_getD ⟨by omega, by omega⟩]
  rfl

theorem flow_eq {xs ys : List Int} {q m : Int} (hq : q * m = xs.length) (hm : 1 ≤ m ∧ m ≤ 8) (hx : xs.length ≤ 1048576) (hy : ys.length ≤ 1048576) (hv : ∀ v ∈ ys, 0 ≤ v ∧ v < q) :
    ∃ l v, spec_l04Ends N xs m ys = some (l, v, ()) ∧ impl_shop_flow N (xs, (q, m)) ys = some (l, v, ()) ∧ l.length = xs.length := by
  unfold spec_l04Ends impl_shop_flow
  simp only
  rw [mkOk_of (by omega), mkOk_of (by omega)]
  simp only [cond_true]
  refine fin2 (P := fun (l : List Int) (v : Int) => l.length = xs.length) (loop_rel (I := fun (s t : List Int × List Int × Int × Unit) => s = t ∧ s.1.length = xs.length ∧ (s.2.1.length : Int) = m ∧ 0 ≤ s.2.2.1 ∧ s.2.2.1 ≤ ys.length) (μ := fun s => (ys.length - s.2.2.1).toNat)
    (Q := fun (r : List Int × Int × Unit) => r.1.length = xs.length) ?_ N N _ _ ⟨rfl, by simp, by simp only [List.length_replicate]; omega, Int.le_refl _, by simp only; omega⟩ (by simp only; omega) (by simp only; omega))
  rintro ⟨out, free, i, u⟩ _ nA nB ⟨rfl, h1, h2, h3, h4⟩ hn
  simp only at h1 h2 h3 h4 ⊢
  by_cases hi : i < (ys.length : Int)
  · obtain ⟨v0, v1⟩ := hv _ (getD_mem (xs := ys) (n := i.toNat) (by omega))
    simp only [hi, decide_true, cond_true, idx_getD (xs := ys) (n := i) ⟨h3, hi⟩, Option.bind_some]
    generalize ys.getD i.toNat 0 = v at v0 v1
    refine loop_rel (I := fun (s t : List Int × List Int × Int × Int × Unit) => s = t ∧ s.1.length = xs.length ∧ (s.2.1.length : Int) = m ∧ 0 ≤ s.2.2.2.1 ∧ s.2.2.2.1 ≤ m) (μ := fun s => (m - s.2.2.2.1).toNat) (Q := fun (r : List Int × Int × Unit) => r.1.length = xs.length) ?_ N N _ _
      ⟨rfl, h1, h2, Int.le_refl _, by simp only; omega⟩ (by simp only; omega) (by simp only; omega)
    rintro ⟨out, free, now, k, u⟩ _ mA mB ⟨rfl, g1, g2, g3, g4⟩ hmm
    simp only at g1 g2 g3 g4 ⊢
    by_cases hk : k < m
    · obtain ⟨a1, a2, a3, a4, a5⟩ := at_eq hN hq hm hx ⟨v0, v1⟩ ⟨g3, hk⟩
      simp only [hk, decide_true, cond_true, a4, a5, Option.bind_some, l00Max_eq, inB_of (n := k) (len := free.length) ⟨g3, by omega⟩, get_getD (0 : Int) (xs := free) (n := k.toNat) (by omega), idx_getD (xs := xs) (n := v * m + k) ⟨a1, a2⟩,
        inB_of (n := v * m + k) (len := out.length) ⟨a1, by omega⟩, w64_in (n := k + 1) (by omega)]
      exact hmm _ _ ⟨rfl, by simp [g1], by simp [g2], by simp only; omega, by simp only; omega⟩ (by simp only; omega)
    · simp only [hk, decide_false, cond_false, w64_in (n := i + 1) (by omega)]
      exact hn _ _ ⟨rfl, g1, g2, by simp only; omega, by simp only; omega⟩ (by simp only; omega)
  · simp only [hi, decide_false, cond_false, w64_in (n := m - 1) (by omega), inB_of (n := m - 1) (len := free.length) (by omega), cond_true, get_getD (0 : Int) (xs := free) (n := (m - 1).toNat) (by omega), Option.bind_some]
    exact ⟨_, rfl, rfl, h1⟩




end

end Go.Proofs.Ytblmginpolckoaa
