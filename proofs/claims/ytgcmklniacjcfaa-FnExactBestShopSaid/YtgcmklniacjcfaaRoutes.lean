/-
  AreRoutes, IsShopPlan: the plain laws. No condition.
-/
import Derived.Test.YtgcmklniacjcfaaPShop
namespace Go.Proofs.Ytgcmklniacjcfaa
open Go Go.Proofs.Ytgcmklniacjcfaa.Fw
set_option linter.unusedVariables false
set_option linter.unusedSimpArgs false

def parts (xs : List Int) (m : Int) : Nat := xs.length / m.toNat

def routesB (xs : List Int) (m : Int) : Bool :=
  within 1 8 m && (((Int.tmod xs.length m) == 0) && ((List.range (parts xs m)).all (fun k => ordB m (partL m.toNat xs k)) && (decide (1 ≤ parts xs m) && decide (parts xs m ≤ 24))))

theorem parts_mul {xs : List Int} {m : Int} (hm : 1 ≤ m) (h : Int.tmod xs.length m = 0) : parts xs m * m.toNat = xs.length := by
  unfold parts
  refine Nat.div_mul_cancel (Nat.dvd_of_mod_eq_zero ?_)
  obtain ⟨k, rfl⟩ : ∃ k : Nat, m = (k : Int) := ⟨m.toNat, by omega⟩
  rw [← Int.ofNat_tmod] at h
  rw [Int.toNat_natCast]
  omega

theorem partL_len {xs : List Int} {q m k : Nat} (hq : q * m = xs.length) (hk : k < q) : k * m + m ≤ xs.length ∧ (partL m xs k).length = m := by
  have := Nat.mul_le_mul_right m hk
  rw [hq, Nat.succ_mul] at this
  refine ⟨this, ?_⟩
  unfold partL
  rw [List.length_take, List.length_drop]
  omega

/-- What valid routes tell. -/
theorem routes_facts {xs : List Int} {m : Int} (h : routesB xs m = true) : 1 ≤ m ∧ m ≤ 8 ∧ ∀ n : Nat, n < xs.length → 0 ≤ xs.getD n 0 ∧ xs.getD n 0 < m := by
  simp only [routesB, Bool.and_eq_true, decide_eq_true_eq, beq_iff_eq] at h
  obtain ⟨hm, hmod, ha, q1, q24⟩ := h
  obtain ⟨m1, m8⟩ := within_iff.1 hm
  refine ⟨m1, m8, fun n hn => ?_⟩
  have hq := parts_mul m1 hmod
  have hm0 : 0 < m.toNat := by omega
  have hk : n / m.toNat < parts xs m := by
    rw [Nat.div_lt_iff_lt_mul hm0]
    omega
  have ho := ord_facts (List.all_eq_true.1 ha _ (List.mem_range.2 hk))
  have hlen := partL_len hq hk
  have hr : n % m.toNat < m.toNat := Nat.mod_lt _ hm0
  have he : (partL m.toNat xs (n / m.toNat))[n % m.toNat]? = xs[n]? := by
    unfold partL
    rw [List.getElem?_take_of_lt hr, List.getElem?_drop, Nat.mul_comm, Nat.div_add_mod]
  have hg : (partL m.toNat xs (n / m.toNat))[n % m.toNat]? = some (xs.getD n 0) := by rw [he, get_getD 0 hn]
  exact ho.2 _ (List.mem_of_getElem? hg)

def over (a p b q : Int) : Bool := decide (a < w64 (b + q)) && decide (b < w64 (a + p))
def startsOk (xs ys : List Int) : Bool := ys.all (within 0 1000000) && ((ys.length : Int) == (xs.length : Int))

section
variable {N : Nat} (hN : 9223372036854775808 ≤ N)
include hN

theorem routesF_eq {xs : List Int} {m : Int} (hx : xs.length ≤ 1048576) : impl_AreRoutes N xs m = some (routesB xs m, ()) := by
  unfold impl_AreRoutes routesF impl_areMachines routesB
  simp only [within_eq, Option.bind_some]
  cases hm : within 1 8 m
  · rfl
  · obtain ⟨m1, m8⟩ := within_iff.1 hm
    rw [decide_eq_true m1, decide_eq_true (show xs.length ≤ 4294967296 by omega)]
    simp only [cond_true, Bool.true_and]
    by_cases hz : Int.tmod (xs.length : Int) m = 0
    · have hq := parts_mul m1 hz
      rw [decide_eq_true hz, cond_true, show (Int.tmod (xs.length : Int) m == 0) = true by simpa using hz, Bool.true_and]
      show (Option.bind (partsF (impl_isAll N) m.toNat xs (parts xs m)) _) = _
      have : ∀ q, q ≤ parts xs m → partsF (impl_isAll N) m.toNat xs q = some ((List.range q).all (fun k => ordB m (partL m.toNat xs k))) := by
        intro q
        induction q with
        | zero => intro _; rfl
        | succ q ih =>
          intro hq'
          have hl := partL_len hq (k := q) (by omega)
          simp only [partsF, ih (by omega), Option.bind_some]
          rw [isAll_eq hN (by omega), List.range_succ, List.all_append]
          simp only [Option.bind_some, List.all_cons, List.all_nil, Bool.and_true, ordB, hl.2, show ((m.toNat : Nat) : Int) = m by omega, BEq.rfl, Bool.true_and]
      rw [this _ (Nat.le_refl _)]
      rfl
    · rw [decide_eq_false hz, show (Int.tmod (xs.length : Int) m == 0) = false by simpa using hz]
      rfl

theorem l04Routes_eq {xs : List Int} {m : Int} (hx : xs.length ≤ 1048576) : spec_l04Routes N xs m = some (routesB xs m, ()) := by
  unfold spec_l04Routes spec_l02Machines routesB
  simp only [l00In_eq, Option.bind_some]
  cases hm : within 1 8 m
  · rfl
  · obtain ⟨m1, m8⟩ := within_iff.1 hm
    have h0 : (m == 0) = false := by simp only [beq_eq_false_iff_ne]; omega
    simp only [Bool.not_true, cond_false, h0, Bool.true_and]
    by_cases hz : Int.tmod (xs.length : Int) m = 0
    · have hq := parts_mul m1 hz
      rw [show (Int.tmod (xs.length : Int) m == 0) = true by simpa using hz, show (Int.tmod (xs.length : Int) m != 0) = false by simpa using hz]
      have hqm : parts xs m ≤ parts xs m * m.toNat := Nat.le_mul_of_pos_right _ (by omega)
      have hqi : w64 (Int.tdiv (xs.length : Int) m) = (parts xs m : Int) := by
        have e : Int.tdiv (xs.length : Int) m = (parts xs m : Int) := by
          unfold parts
          obtain ⟨k, rfl⟩ : ∃ k : Nat, m = (k : Int) := ⟨m.toNat, by omega⟩
          rw [Int.toNat_natCast]
          exact (Int.ofNat_tdiv _ _).symm
        rw [e]
        exact w64_in (by omega)
      rw [hqi]
      simp only [cond_false, Bool.true_and]
      by_cases h1 : (xs.length : Int) < 1
      · have : parts xs m = 0 := by omega
        simp [h1, this]
      · have h1q : 1 ≤ parts xs m := by
          rcases Nat.eq_zero_or_pos (parts xs m) with h | h
          · rw [h, Nat.zero_mul] at hq
            omega
          · exact h
        rw [decide_eq_false h1, cond_false, decide_eq_true h1q, Bool.true_and]
        by_cases h24 : (parts xs m : Int) > 24
        · rw [decide_eq_true h24, cond_true, decide_eq_false (show ¬ parts xs m ≤ 24 by omega), Bool.and_false]
        · rw [decide_eq_false h24, cond_false, decide_eq_true (show parts xs m ≤ 24 by omega), Bool.and_true]
          refine loop_eq (inv := fun s : Int × Unit => ∃ k : Nat, k ≤ parts xs m ∧ s.1 = ((k * m.toNat : Nat) : Int) ∧ (List.range k).all (fun k => ordB m (partL m.toNat xs k)) = true) (μ := fun s => xs.length + 1 - s.1.toNat)
            (R := fun _ => some ((List.range (parts xs m)).all (fun k => ordB m (partL m.toNat xs k)), ())) ?_ N _ ⟨0, Nat.zero_le _, by simp, rfl⟩ (by simp only; omega)
          rintro ⟨i, u⟩ next ⟨k, hk, rfl, hok⟩ hn
          simp only
          by_cases hlt : k < parts xs m
          · have hl := partL_len hq hlt
            have hw : w64 (((k * m.toNat : Nat) : Int) + m) = ((k * m.toNat + m.toNat : Nat) : Int) := by
              rw [w64_in (by omega)]
              omega
            have hp : List.drop (Int.toNat ((k * m.toNat : Nat) : Int)) (List.take (Int.toNat ((k * m.toNat + m.toNat : Nat) : Int)) xs) = partL m.toNat xs k := by
              unfold partL
              rw [Int.toNat_natCast, Int.toNat_natCast, List.drop_take, Nat.add_sub_cancel_left]
            rw [hw, hp, l02Orders_eq hN (by omega) (by omega), show decide (((k * m.toNat : Nat) : Int) < (xs.length : Int)) = true by simp only [decide_eq_true_eq]; omega,
              show (decide (0 ≤ ((k * m.toNat : Nat) : Int)) && decide (((k * m.toNat : Nat) : Int) ≤ ((k * m.toNat + m.toNat : Nat) : Int)) && decide (((k * m.toNat + m.toNat : Nat) : Int) ≤ (xs.length : Int))) = true by simp only [Bool.and_eq_true, decide_eq_true_eq]; omega]
            simp only [cond_true, Option.bind_some]
            cases ho : ordB m (partL m.toNat xs k)
            · have : (List.range (parts xs m)).all (fun k => ordB m (partL m.toNat xs k)) = false := by
                rw [Bool.eq_false_iff]
                intro h
                have := List.all_eq_true.1 h k (List.mem_range.2 hlt)
                rw [ho] at this
                cases this
              rw [this]
              rfl
            · refine hn _ ⟨k + 1, by omega, by simp only; rw [Nat.succ_mul], ?_⟩ (by simp only; omega)
              rw [List.range_succ, List.all_append, hok]
              simp [ho]
          · obtain rfl : k = parts xs m := by omega
            rw [show decide (((parts xs m * m.toNat : Nat) : Int) < (xs.length : Int)) = false by simp only [decide_eq_false_iff_not]; omega, hok]
            rfl
    · rw [show (Int.tmod (xs.length : Int) m == 0) = false by simpa using hz, show (Int.tmod (xs.length : Int) m != 0) = true by simpa using hz]
      simp only [cond_true, Bool.false_and]
      cases decide ((xs.length : Int) < 1) <;> rfl


theorem l04Shop_eq {rs xs : List Int} {m : Int} (hr : rs.length ≤ 1048576) (hx : xs.length ≤ 1048576) : spec_l04Shop N rs xs m = some (routesB rs m && (shopOk xs m && ((xs.length : Int) == (rs.length : Int))), ()) := by
  unfold spec_l04Shop
  rw [l04Routes_eq hN hr, l04Can_eq hN hx]
  simp only [Option.bind_some]
  cases routesB rs m
  · rfl
  · cases shopOk xs m <;> rfl

theorem routed_eq {rs xs : List Int} {m : Int} (hr : rs.length ≤ 1048576) (hx : xs.length ≤ 1048576) :
    ∃ j, impl_routed N rs xs m = some ((xs, (j, m)), (routesB rs m && (shopOk xs m && ((xs.length : Int) == (rs.length : Int)))), ()) ∧ (shopOk xs m = true → j = quot xs m) := by
  obtain ⟨j, h1, h2⟩ := asShop_eq hN (m := m) hx
  refine ⟨j, ?_, h2⟩
  unfold impl_routed
  rw [h1, routesF_eq hN hr]
  simp only [Option.bind_some]
  cases hs : shopOk xs m
  · simp
  · by_cases hl : (rs.length : Int) = xs.length
    · simp [hl]
    · have hl' : ¬ (xs.length : Int) = rs.length := fun h => hl h.symm
      rw [show ((rs.length : Int) == xs.length) = false by simpa using hl, show ((xs.length : Int) == rs.length) = false by simpa using hl']
      simp

end

end Go.Proofs.Ytgcmklniacjcfaa
