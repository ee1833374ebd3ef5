/-
  BestReleased: the plain law. No condition.
-/
import Derived.Test.YtkcdhdnmmpapdaaPerms2
import Derived.Test.YtkcdhdnmmpapdaaJobs
import Derived.Test.YtkcdhdnmmpapdaaPShop
namespace Go.Proofs.Ytkcdhdnmmpapdaa
open Go Go.Proofs.Ytkcdhdnmmpapdaa.Fw
set_option linter.unusedVariables false
set_option linter.unusedSimpArgs false

theorem nextN_len {p q : List Nat} (h : nextN p = some q) : q.length = p.length := by
  unfold nextN at h
  split at h
  · cases h
  · cases h
    rw [revN_len]
    simp

theorem ordG_of {hi : Int} : ∀ {l pre : List Int}, (∀ v ∈ l, within 0 hi v = true) → (pre ++ l).Nodup → ordG hi pre l = true := by
  intro l
  induction l with
  | nil => intro pre _ _; rfl
  | cons v l ih =>
    intro pre h1 h2
    have h3 : v ∉ pre := fun hm => (List.nodup_append.1 h2).2.2 _ hm _ List.mem_cons_self rfl
    unfold ordG
    rw [h1 v List.mem_cons_self, ih (fun u hu => h1 u (List.mem_cons_of_mem _ hu)) (by simpa using h2)]
    simp [h3]

theorem ord_of {n : Nat} {p : List Nat} (h : lenN n p = true) : ordB (n : Int) (upI p) = true := by
  obtain ⟨f1, f2, f3⟩ := len_facts h
  unfold ordB
  have hg : ordG ((n : Int) - 1) [] (upI p) = true := ordG_of (fun v hv => ?_) ?_
  · rw [upI_len, f1, hg]
    simp
  · obtain ⟨k, hk, rfl⟩ := List.mem_map.1 hv
    have := f2 k hk
    exact within_iff.2 (by omega)
  · rw [List.nil_append]
    unfold upI
    rw [List.Nodup, List.pairwise_map]
    exact f3.imp fun hab e => hab (by omega)

section
variable {N : Nat} (hN : 9223372036854775808 ≤ N)
include hN

theorem ends_both {js : List Jb} {ord : List Int} (hx : js.length ≤ 1048576) (ho : ord.length ≤ 1048576) (hv : ∀ v ∈ ord, 0 ≤ v ∧ v < (js.length : Int)) : ∃ e, spec_l02Ends N js ord = some (e, ()) ∧ impl_endsOf N js ord = some (e, ()) ∧ e.length = js.length := by
  unfold spec_l02Ends impl_endsOf
  rw [mkOk_of (by omega), cond_true, cond_true, Int.toNat_natCast]
  have fin : ∀ {A B : Option (List Int × Unit)}, (∃ r, A = some r ∧ B = some r ∧ r.1.length = js.length) → ∃ e, A = some (e, ()) ∧ B = some (e, ()) ∧ e.length = js.length := by
    rintro A B ⟨⟨e, u⟩, h1, h2, h3⟩
    exact ⟨e, h1, h2, h3⟩
  refine fin (loop_rel (I := fun (s t : List Int × Int × Int × Unit) => s = t ∧ s.1.length = js.length ∧ 0 ≤ s.2.2.1 ∧ s.2.2.1 ≤ ord.length) (μ := fun s => (ord.length - s.2.2.1).toNat) (Q := fun r : List Int × Unit => r.1.length = js.length) ?_ N N _ _
    ⟨rfl, by simp, Int.le_refl _, by simp only; omega⟩ (by simp only; omega) (by simp only; omega))
  rintro ⟨e, at0, i, u⟩ _ nA nB ⟨rfl, h1, h2, h3⟩ hn
  simp only at h1 h2 h3 ⊢
  by_cases hi : i < (ord.length : Int)
  · have hm := hv _ (getD_mem (xs := ord) (n := i.toNat) (by omega))
    simp only [hi, decide_true, cond_true, idx_getD (xs := ord) ⟨h2, hi⟩, Option.bind_some, idx_get NJ (xs := js) hm, l00Max_eq, inB_of (n := ord.getD i.toNat 0) (len := e.length) (by omega), w64_in (n := i + 1) (by omega)]
    exact hn _ _ ⟨rfl, by simp only [List.length_set]; exact h1, by simp only; omega, by simp only; omega⟩ (by simp only; omega)
  · simp only [hi, decide_false, cond_false]
    exact ⟨_, rfl, rfl, h1⟩

theorem part_eq (t : Jb) (x k : Int) : spec_l02Part N t x k = impl_Job_share N t k x := by
  have _ := hN
  unfold spec_l02Part impl_Job_share
  simp only [l00Max_eq, Option.bind_some]

theorem share_some (t : Jb) (x k : Int) : ∃ v, impl_Job_share N t k x = some (v, ()) := by
  have _ := hN
  unfold impl_Job_share
  cases k == 0 <;> cases k == 1 <;> cases k == 2 <;> cases k == 3 <;> cases decide (x > t.2.2.1) <;> exact ⟨_, rfl⟩

theorem both_some (x y k : Int) : ∃ v, spec_l02Both N x y k = some (v, ()) ∧ impl_both N k x y = some (v, ()) := by
  have _ := hN
  unfold spec_l02Both impl_both impl_isGreatest
  simp only [l00Max_eq, Option.bind_some]
  cases k == 0 <;> cases k == 2 <;> exact ⟨_, rfl, rfl⟩

theorem cost_both {js : List Jb} {ord : List Int} {k : Int} (h1 : 1 ≤ js.length) (hx : js.length ≤ 1000) (ho : ord.length ≤ 1048576) (hv : ∀ v ∈ ord, 0 ≤ v ∧ v < (js.length : Int)) :
    ∃ c, spec_l02Cost N js ord k = some (c, ()) ∧ (Option.bind (impl_endsOf N js ord) fun r3 => impl_costOf N js r3.1 k) = some (c, ()) := by
  obtain ⟨e, e1, e2, e3⟩ := ends_both hN (js := js) (ord := ord) (by omega) ho hv
  unfold spec_l02Cost impl_costOf
  rw [e1, e2]
  simp only [Option.bind_some]
  have hj0 : idx js 0 = some (js.getD 0 NJ) := idx_get NJ (n := 0) ⟨Int.le_refl _, by omega⟩
  have he0 : idx e 0 = some (e.getD 0 0) := idx_get 0 (n := 0) ⟨Int.le_refl _, by omega⟩
  rw [hj0, he0, inB_of (n := 0) (len := e.length) (by omega), show Int.toNat 0 = 0 from rfl, get_getD 0 (show 0 < e.length by omega)]
  simp only [Option.bind_some, cond_true, part_eq hN]
  obtain ⟨v0, hv0⟩ := share_some hN (js.getD 0 NJ) (e.getD 0 0) k
  rw [hv0]
  simp only [Option.bind_some]
  rw [decide_eq_true (show (0 : Nat) ≤ 1 by omega), decide_eq_true (show (1 : Int) ≤ (e.length : Int) by omega), Bool.and_self, cond_true, show Int.toNat 1 = 1 from rfl, List.length_drop]
  have fin : ∀ {A B : Option (Int × Unit)}, (∃ r, A = some r ∧ B = some r ∧ True) → ∃ c, A = some (c, ()) ∧ B = some (c, ()) := by
    rintro A B ⟨⟨c, u⟩, a1, a2, _⟩
    exact ⟨c, a1, a2⟩
  refine fin (loop_rel (I := fun (s t : Int × Int × Unit) => s.1 = t.1 ∧ s.2.1 = t.2.1 + 1 ∧ 1 ≤ s.2.1 ∧ s.2.1 ≤ js.length) (μ := fun s => (js.length - s.2.1).toNat) (Q := fun _ => True) ?_ N N _ _
    ⟨rfl, by simp only; omega, by simp only; omega, by simp only; omega⟩ (by simp only; omega) (by simp only; omega))
  rintro ⟨c, i, u⟩ ⟨c', i', u'⟩ nA nB ⟨r1, r2, r3, r4⟩ hn
  simp only at r1 r2 r3 r4 ⊢
  subst r1
  subst r2
  by_cases hi : i' + 1 < (js.length : Int)
  · have hd : i' < ((e.length - 1 : Nat) : Int) := by omega
    have hdrop : (e.drop 1).getD i'.toNat 0 = e.getD (i' + 1).toNat 0 := by
      rw [List.getD_eq_getElem?_getD, List.getElem?_drop, List.getD_eq_getElem?_getD, show (i' + 1).toNat = 1 + i'.toNat by omega]
    rw [decide_eq_true hi, decide_eq_true hd, cond_true, cond_true, idx_get NJ (xs := js) (n := i' + 1) ⟨by omega, hi⟩, idx_getD (xs := e.drop 1) (n := i') ⟨by omega, by rw [List.length_drop]; exact hd⟩, hdrop, inB_of (n := i' + 1) (len := e.length) (by omega), get_getD 0 (show (i' + 1).toNat < e.length by omega), w64_in (n := i' + 1) (by omega)]
    simp only [Option.bind_some, cond_true]
    rw [idx_get NJ (xs := js) (n := i' + 1) ⟨by omega, hi⟩]
    simp only [Option.bind_some]
    obtain ⟨v1, hv1⟩ := share_some hN (js.getD (i' + 1).toNat NJ) (e.getD (i' + 1).toNat 0) k
    rw [hv1]
    simp only [Option.bind_some]
    obtain ⟨v2, hv2, hv3⟩ := both_some hN c v1 k
    rw [hv2, hv3]
    simp only [Option.bind_some]
    rw [w64_in (n := i' + 1 + 1) (by omega)]
    exact hn _ _ ⟨rfl, rfl, by simp only; omega, by simp only; omega⟩ (by simp only; omega)
  · rw [decide_eq_false hi, decide_eq_false (show ¬ i' < ((e.length - 1 : Nat) : Int) by omega), cond_false, cond_false]
    exact ⟨_, rfl, rfl, trivial⟩

theorem BestReleased_law {js : List Jb} {k : Int} (hx : js.length ≤ 1048576) : ∃ a b c, spec_BestReleased N js k = some (a, b, c, ()) ∧ impl_BestReleased N js k = some (a, b, c, ()) ∧ a.length ≤ 1048576 := by
  unfold spec_BestReleased impl_BestReleased
  rw [l02Jobs_eq hN hx, areJobs_eq hN hx]
  simp only [Option.bind_some]
  cases hj : jobsOk js with
  | false => exact ⟨_, _, _, rfl, rfl, by simp⟩
  | true =>
    simp only [Bool.not_true, cond_false]
    have hj1 : 1 ≤ js.length := by
      simp only [jobsOk, Bool.and_eq_true, decide_eq_true_eq] at hj
      omega
    by_cases h6 : (js.length : Int) > 6
    · rw [decide_eq_true h6]
      exact ⟨_, _, _, rfl, rfl, by simp⟩
    · rw [decide_eq_false h6, cond_false, cond_false, l00In_eq, within_eq]
      simp only [Option.bind_some]
      cases hk : within 0 4 k with
      | false => exact ⟨_, _, _, rfl, rfl, by simp⟩
      | true =>
        simp only [Bool.not_true, cond_false]
        obtain ⟨n, hn⟩ : ∃ n : Nat, n = js.length := ⟨_, rfl⟩
        obtain ⟨r, hp, hr, hc⟩ := chain_ok (n := n) (by omega) (by omega)
        obtain ⟨g, hg⟩ : ∃ g : List Int → Int, g = fun o => ((spec_l02Cost N js o k).map (fun r => r.1)).getD 0 := ⟨_, rfl⟩
        have hcost : ∀ p, lenN n p = true → spec_l02Cost N js (upI p) k = some (g (upI p), ()) ∧ impl_BestReleased_1_c0 N (upI p) js k = some (g (upI p), true, ()) := fun p hpn => by
          obtain ⟨f1, f2, f3⟩ := len_facts hpn
          obtain ⟨c, e1, e2⟩ := cost_both hN (js := js) (ord := upI p) (k := k) hj1 (by omega) (by rw [upI_len]; omega) (fun v hv => by
            obtain ⟨q, hq, rfl⟩ := List.mem_map.1 hv
            have := f2 q hq
            omega)
          have hgv : g (upI p) = c := by
            rw [hg]
            simp only [e1]
            rfl
          rw [hgv]
          refine ⟨e1, ?_⟩
          unfold impl_BestReleased_1_c0 impl_CostOf impl_orders
          rw [areJobs_eq hN hx, hj]
          simp only [Option.bind_some, cond_true]
          rw [isOrder_eq hN (xs := upI p) (q := (js.length : Int)) (by rw [upI_len]; omega) (by omega), ← hn, ord_of hpn, within_eq, hk]
          simp only [Option.bind_some, Bool.not_true, cond_false]
          obtain ⟨e, e3, e4⟩ := Option.bind_eq_some_iff.1 e2
          rw [e3]
          simp only [Option.bind_some]
          rw [e4]
          rfl
        rw [← hn, count_eq hN (by omega)]
        simp only [Option.bind_some]
        rw [appOk_of (by rw [upI_len]; simp; omega), cond_true, (hcost _ (chain_head hc)).1]
        simp only [Option.bind_some]
        unfold impl_firstLeast_impl_BestReleased_1
        simp only
        rw [leastF_eq (g := g) (n := n) (by omega) (by omega) (fun p hpn => (hcost p hpn).2) hp hc]
        simp only [Option.bind_some, List.nil_append]
        rw [next_loop (g := g) (n := n) (fun p b l next h1 h2 => ?_) r (List.range n) _ _ N (by omega) hc]
        · refine ⟨_, _, _, rfl, rfl, ?_⟩
          rw [bestG_len hc (by rw [upI_len]; simp)]
          omega
        · have hlen := (len_facts h1).1
          simp only
          rw [nextOrder_eq hN (x := p) (by omega) (by omega)]
          simp only [Option.bind_some]
          cases hx2 : nextN p with
          | none =>
            simp only
            rw [Nat.beq_refl]
            rfl
          | some q =>
            have hlq := nextN_len hx2
            simp only
            rw [upI_len, upI_len, hlq, Nat.beq_refl, cond_true, cond_true, (hcost q (h2 q hx2)).1]
            simp only [Option.bind_some]
            rw [appOk_of (by simp; omega)]
            cases decide (g (upI q) < l) <;> rfl

theorem FnExactBestReleased_eq (js : List Jb) (k : Int) (hx : js.length ≤ 9223372036854775807) : laws_FnExactBestReleased N js k = some (true, ()) := by
  unfold laws_FnExactBestReleased
  rcases szJobS_gen hN hx with e | ⟨r, e, h1, h2⟩
  · rw [e]
    rfl
  · obtain ⟨a, b, c, g1, g2, g3⟩ := BestReleased_law hN (js := js) (k := k) h2
    have hm : laws_markJobS_d js 1 = some (1 + 4 * (js.length : Int)) := by
      unfold laws_markJobS_d
      rw [decide_eq_true (show (0 : Int) ≤ 1 by omega), decide_eq_true (show 1 + 4 * (js.length : Int) ≤ 4611686018427387904 by omega)]
      rfl
    simp only [e, Option.bind_some, decide_eq_false (show ¬ r < 0 by omega), cond_false, toJobS_eq hN h2, g1, g2, eqJobS_eq hN h2, eqInt64S_eq hN (xs := a) (by omega), BEq.rfl, Bool.not_true, bne_self_eq_false, hm, decide_eq_false (show ¬ (1 + 4 * (js.length : Int) < 0) by omega),
      markInt64S_eq hN (xs := a) (k := 1) (by omega) (by omega), heldInt64S_eq hN (xs := a) (k := 1) (by omega) (by omega), counted_len, Nat.beq_refl, cond_true, decide_eq_false (show ¬ ((1 : Int) + a.length < 0) by omega)]
end

end Go.Proofs.Ytkcdhdnmmpapdaa
