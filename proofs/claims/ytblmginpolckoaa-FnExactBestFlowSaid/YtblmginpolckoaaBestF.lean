/-
  BestFlow: the plain law. No condition.
-/
import Derived.Test.YtblmginpolckoaaPerms2
import Derived.Test.YtblmginpolckoaaFlow
namespace Go.Proofs.Ytblmginpolckoaa
open Go Go.Proofs.Ytblmginpolckoaa.Fw
set_option linter.unusedVariables false
set_option linter.unusedSimpArgs false

theorem nextN_len {p q : List Nat} (h : nextN p = some q) : q.length = p.length := by
  unfold nextN at h
  split at h
  · cases h
  · cases h
    rw [revN_len]
    simp

section
variable {N : Nat} (hN : 9223372036854775808 ≤ N)
include hN

theorem BestFlow_law {xs : List Int} {m : Int} (hx : xs.length ≤ 1048576) : ∃ a b c, spec_BestFlow N xs m = some (a, b, c, ()) ∧ impl_BestFlow N xs m = some (a, b, c, ()) ∧ a.length ≤ 1048576 := by
  unfold spec_BestFlow impl_BestFlow
  obtain ⟨j, hj, hjq⟩ := asShop_eq hN (m := m) hx
  rw [l04Can_eq hN hx, hj]
  simp only [Option.bind_some]
  cases hs : shopOk xs m with
  | false => exact ⟨_, _, _, rfl, rfl, by simp⟩
  | true =>
    obtain rfl := hjq hs
    obtain ⟨m1, m8, q1, q24, hq, ha, _, _, hl⟩ := shop_facts hx hs
    rw [l04Count_eq hN hx hs]
    simp only [Option.bind_some, Bool.not_true, cond_false]
    by_cases h7 : quot xs m > 7
    · rw [decide_eq_true h7]
      exact ⟨_, _, _, rfl, rfl, by simp⟩
    · rw [decide_eq_false h7, cond_false, cond_false]
      obtain ⟨n, hn⟩ : ∃ n : Nat, quot xs m = (n : Int) := ⟨(quot xs m).toNat, by omega⟩
      obtain ⟨r, hp, hr, hc⟩ := chain_ok (n := n) (by omega) (by omega)
      obtain ⟨g, hg⟩ : ∃ g : List Int → Int, g = fun o => ((spec_l04Ends N xs m o).map (fun r => r.2.1)).getD 0 := ⟨_, rfl⟩
      have hcost : ∀ p, lenN n p = true → ∃ l, spec_l04Ends N xs m (upI p) = some (l, g (upI p), ()) ∧ impl_shop_flow N (xs, (quot xs m, m)) (upI p) = some (l, g (upI p), ()) := fun p hpn => by
        obtain ⟨f1, f2, f3⟩ := len_facts hpn
        obtain ⟨l, v, e1, e2, _⟩ := flow_eq hN (xs := xs) (ys := upI p) (q := quot xs m) (m := m) hq ⟨m1, m8⟩ hx (by rw [upI_len]; omega) (fun v hv => by
          obtain ⟨k, hk, rfl⟩ := List.mem_map.1 hv
          have := f2 k hk
          omega)
        have hgv : g (upI p) = v := by
          rw [hg]
          simp only [e1]
          rfl
        rw [hgv]
        exact ⟨l, e1, e2⟩
      rw [hn] at hcost ⊢
      rw [count_eq hN (by omega)]
      simp only [Option.bind_some]
      obtain ⟨l0, e0, _⟩ := hcost _ (chain_head hc)
      rw [appOk_of (by rw [upI_len]; simp; omega), cond_true, e0]
      simp only [Option.bind_some]
      unfold impl_firstLeast_impl_BestFlow_1
      rw [leastF_eq (g := g) (n := n) (by omega) (by omega) (fun p hpn => by
        obtain ⟨l, _, e⟩ := hcost p hpn
        unfold impl_BestFlow_1_c0
        rw [e]
        rfl) hp hc]
      simp only [Option.bind_some, List.nil_append]
      rw [next_loop (g := g) (n := n) (fun p b l next h1 h2 => ?_) r (List.range n) _ _ N (by omega) hc]
      · refine ⟨_, _, _, rfl, rfl, ?_⟩
        rw [bestG_len hc (by rw [upI_len]; simp)]
        omega
      · have hlen := (len_facts h1).1
        simp only
        rw [nextOrder_eq hN (x := p) (by omega) (by omega)]
        simp only [Option.bind_some]
        cases hx2 : nextN p with
        | none =>
          simp only
          rw [Nat.beq_refl]
          rfl
        | some q =>
          obtain ⟨lq, eq1, _⟩ := hcost q (h2 q hx2)
          have hlq := nextN_len hx2
          simp only
          rw [upI_len, upI_len, hlq, Nat.beq_refl, cond_true, cond_true, eq1]
          simp only [Option.bind_some]
          rw [appOk_of (by simp; omega)]
          cases decide (g (upI q) < l) <;> rfl

theorem FnExactBestFlow_eq (xs : List Int) (m : Int) : laws_FnExactBestFlow N xs m = some (true, ()) := by
  unfold laws_FnExactBestFlow
  by_cases hx : (xs.length : Int) > 1048576
  · simp only [hx, decide_true, cond_true]
  · obtain ⟨a, b, c, e1, e2, h3⟩ := BestFlow_law hN (xs := xs) (m := m) (by omega)
    simp only [hx, decide_false, cond_false, toInt64S_eq hN (xs := xs) (by omega), Option.bind_some, e1, e2, eqInt64S_eq hN (xs := xs) (by omega), eqInt64S_eq hN (xs := a) (by omega), Bool.not_true, bne_self_eq_false, BEq.rfl,
      markInt64S_eq hN (xs := xs) (k := 1) (by omega) (by omega), markInt64S_eq hN (xs := a) (k := 1) (by omega) (by omega), heldInt64S_eq hN (xs := a) (k := 1) (by omega) (by omega), counted_len, Nat.beq_refl, cond_true,
      decide_eq_false (show ¬ ((1 : Int) + xs.length < 0) by omega), decide_eq_false (show ¬ ((1 : Int) + a.length < 0) by omega)]
end

end Go.Proofs.Ytblmginpolckoaa
