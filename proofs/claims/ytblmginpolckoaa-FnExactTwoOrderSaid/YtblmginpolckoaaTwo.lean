/-
  TwoOrder: the plain law. No condition.
-/
import Derived.Test.YtblmginpolckoaaFlow
import Derived.Test.YtblmginpolckoaaSortS
import Derived.Test.YtblmginpolckoaaSortI
namespace Go.Proofs.Ytblmginpolckoaa
open Go Go.Proofs.Ytblmginpolckoaa.Fw
set_option linter.unusedVariables false
set_option linter.unusedSimpArgs false

theorem filter_loop {ρ : Type} {N : Nat} {body : List Int × Int × Unit → (List Int × Int × Unit → Option ρ) → Option ρ} {E : List Int → Option ρ} {L : List Int} {p : Int → Bool} (hN : L.length < N)
    (h1 : ∀ acc (i : Nat) next, i < L.length → acc.length ≤ i → body (acc, (i : Int), ()) next = cond (p (L.getD i 0)) (next (acc ++ [L.getD i 0], ((i + 1 : Nat) : Int), ())) (next (acc, ((i + 1 : Nat) : Int), ())))
    (h0 : ∀ acc next, acc.length ≤ L.length → body (acc, (L.length : Int), ()) next = E acc) : loopN body N ([], 0, ()) = E (L.filter p) := by
  refine loop_eq (inv := fun s : List Int × Int × Unit => ∃ i : Nat, i ≤ L.length ∧ s = ((L.take i).filter p, (i : Int), ())) (μ := fun s => (L.length - s.2.1).toNat) (R := fun _ => E (L.filter p)) ?_ N _ ⟨0, Nat.zero_le _, rfl⟩ (by simpa using hN)
  rintro _ next ⟨i, hi, rfl⟩ hn
  have hl : ((L.take i).filter p).length ≤ i := Nat.le_trans (List.length_filter_le _ _) (by rw [List.length_take]; omega)
  by_cases h : i < L.length
  · rw [h1 _ i next h hl]
    have ht : L.take (i + 1) = L.take i ++ [L.getD i 0] := by
      rw [List.take_add_one, St.get_of h]
      rfl
    cases hp : p (L.getD i 0)
    · rw [cond_false]
      exact hn _ ⟨i + 1, h, by rw [ht]; simp only [List.filter_append, List.filter_cons, List.filter_nil, hp, Bool.false_eq_true, if_false, if_true, List.append_nil]⟩ (by simp only; omega)
    · rw [cond_true]
      exact hn _ ⟨i + 1, h, by rw [ht]; simp only [List.filter_append, List.filter_cons, List.filter_nil, hp, Bool.false_eq_true, if_false, if_true, List.append_nil]⟩ (by simp only; omega)
  · obtain rfl : i = L.length := by omega
    rw [h0 _ next hl, List.take_length]

section
variable {N : Nat} (hN : 9223372036854775808 ≤ N)
include hN

def tOne (xs : List Int) (v : Int) : Int := xs.getD (v * 2 + 0).toNat 0
def tTwo (xs : List Int) (v : Int) : Int := xs.getD (v * 2 + 1).toNat 0
def tKey (xs : List Int) (v : Int) : Int := if tOne xs v ≤ tTwo xs v then tOne xs v else 20001 - tTwo xs v

theorem twoKey {xs : List Int} {q : Int} (hq : q * 2 = xs.length) (hx : xs.length ≤ 1048576) (ha : xs.all (within 1 10000) = true) {v : Int} (hv : 0 ≤ v ∧ v < q) :
    impl_shop_at N (xs, (q, 2)) v 0 = some (tOne xs v, ()) ∧ impl_shop_at N (xs, (q, 2)) v 1 = some (tTwo xs v, ()) ∧ 1 ≤ tOne xs v ∧ tOne xs v ≤ 10000 ∧ 1 ≤ tTwo xs v ∧ tTwo xs v ≤ 10000 := by
  obtain ⟨a1, a2, _, a4, _⟩ := at_eq hN hq ⟨by omega, by omega⟩ hx hv (k := 0) ⟨by omega, by omega⟩
  obtain ⟨b1, b2, _, b4, _⟩ := at_eq hN hq ⟨by omega, by omega⟩ hx hv (k := 1) ⟨by omega, by omega⟩
  have g1 := all_getD ha (n := (v * 2 + 0).toNat) (by omega)
  have g2 := all_getD ha (n := (v * 2 + 1).toNat) (by omega)
  exact ⟨a4, b4, g1.1, g1.2, g2.1, g2.2⟩

theorem former_eq {xs : List Int} {q : Int} (hq : q * 2 = xs.length) (hx : xs.length ≤ 1048576) (ha : xs.all (within 1 10000) = true) {a b : Int} (h1 : 0 ≤ a ∧ a < q) (h2 : 0 ≤ b ∧ b < q) :
    spec_l04Former N xs a b = some (decide (tKey xs a < tKey xs b), ()) := by
  obtain ⟨_, _, a1, a2, a3, a4⟩ := twoKey hN hq hx ha h1
  obtain ⟨_, _, b1, b2, b3, b4⟩ := twoKey hN hq hx ha h2
  have e : ∀ v : Int, 0 ≤ v ∧ v < q → idx xs (w64 (2 * v)) = some (tOne xs v) ∧ idx xs (w64 (w64 (2 * v) + 1)) = some (tTwo xs v) := fun v hv => by
    rw [w64_in (n := 2 * v) (by omega), w64_in (n := 2 * v + 1) (by omega), idx_getD (by omega), idx_getD (by omega)]
    unfold tOne tTwo
    exact ⟨by rw [show (2 * v).toNat = (v * 2 + 0).toNat by omega], by rw [show (2 * v + 1).toNat = (v * 2 + 1).toNat by omega]⟩
  unfold spec_l04Former tKey
  rw [(e a h1).1, (e a h1).2, (e b h2).1, (e b h2).2]
  simp only [Option.bind_some]
  by_cases c1 : tOne xs a ≤ tTwo xs a <;> by_cases c2 : tOne xs b ≤ tTwo xs b
  all_goals first
    | (simp [c1, c2]; done)
    | (simp [c1, c2]; omega)

theorem twoOrder_spec {xs : List Int} (hx : xs.length ≤ 1048576) (hs : shopOk xs 2 = true) : ∃ S, spec_TwoOrder N xs = some (S, true, ()) ∧ S.Perm ((List.range (quot xs 2).toNat).map Int.ofNat) ∧ S.Pairwise (St.R (tKey xs)) := by
  obtain ⟨f1, f2, f3, f4, f5, f6, f7, f8, f9⟩ := shop_facts hx hs
  unfold spec_TwoOrder
  rw [l04Can_eq hN hx, hs, l04Count_eq hN hx hs]
  simp only [Option.bind_some, Bool.not_true, cond_false]
  obtain ⟨n, hn⟩ : ∃ n : Nat, quot xs 2 = (n : Int) := ⟨(quot xs 2).toNat, by omega⟩
  rw [hn] at f3 f4 f5 ⊢
  rw [Int.toNat_natCast]
  refine St.insertion (F := fun S => some (S, true, ())) (fun S i next hi hl hy hS => ?_) (fun S next hl => ?_) (by omega)
  · simp only
    rw [decide_eq_true (show (i : Int) < (n : Int) by omega), cond_true, appOk_of (by simp; omega), cond_true]
    have := St.bubble (N := N) (D := fun y => 0 ≤ y ∧ y < (n : Int)) (k := tKey xs) (L := 24) (C := S) (x := (i : Int)) (E := fun ys => next (ys, ((i + 1 : Nat) : Int), ()))
      (body := fun (s6 : List Int × Int × Unit) next7 =>
            cond (decide (s6.2.1 > 0))
              (cond (inB s6.2.1 (List.length s6.1))
                (Option.bind (s6.1[(Int.toNat s6.2.1)]?) fun v8 =>
                cond (inB (w64 (s6.2.1 - 1)) (List.length s6.1))
                  (Option.bind (s6.1[(Int.toNat (w64 (s6.2.1 - 1)))]?) fun v9 =>
                  Option.bind (spec_l04Former N xs v8 v9) fun r10 =>
                  cond r10.1
                    (cond (inB s6.2.1 (List.length s6.1))
                      (Option.bind (s6.1[(Int.toNat s6.2.1)]?) fun v11 =>
                      cond (inB (w64 (s6.2.1 - 1)) (List.length s6.1))
                        (Option.bind (s6.1[(Int.toNat (w64 (s6.2.1 - 1)))]?) fun v12 =>
                        cond (inB s6.2.1 (List.length s6.1))
                          (let xs13 := (List.set s6.1 (Int.toNat s6.2.1) v12)
                          cond (inB (w64 (s6.2.1 - 1)) (List.length xs13))
                            (let xs14 := (List.set xs13 (Int.toNat (w64 (s6.2.1 - 1))) v11)
                            next7 (xs14, (w64 (s6.2.1 - 1)), ())) none) none) none) none)
                    (next (s6.1, (w64 ((i : Int) + 1)), ()))) none) none)
              (next (s6.1, (w64 ((i : Int) + 1)), ())))
      (fun ys next7 => by
        simp only
        rw [decide_eq_false (by omega), cond_false, w64_in (by omega)]
        rfl)
      (fun P c x t next7 hlen hD => by
        simp only
        have i1 : (((P.length + 1 : Nat) : Nat) : Int) = ((P.length + 1 + ([] : List Int).length : Nat) : Int) := by simp
        have i2 : w64 (((P.length + 1 : Nat) : Int) - 1) = (P.length : Nat) := by rw [w64_in (by simp at hlen; omega)]; omega
        have hll : (P ++ c :: x :: t).length = P.length + 2 + t.length := by simp; omega
        have g1 : (P ++ c :: x :: t)[(((P.length + 1 : Nat) : Int)).toNat]? = some x := by rw [i1, Int.toNat_natCast]; exact St.get_far P [] c x t
        have g2 : (P ++ c :: x :: t)[(w64 (((P.length + 1 : Nat) : Int) - 1)).toNat]? = some c := by rw [i2, Int.toNat_natCast]; exact St.get_mid _ _ _
        have b1 : inB (((P.length + 1 : Nat) : Int)) (P ++ c :: x :: t).length = true := St.inB_nat rfl (by omega)
        have b2 : inB (w64 (((P.length + 1 : Nat) : Int) - 1)) (P ++ c :: x :: t).length = true := St.inB_nat i2 (by omega)
        have hsb := St.swap_block2 (xs := P ++ c :: x :: t) (K := fun ys => next7 (ys, w64 (((P.length + 1 : Nat) : Int) - 1), ())) i1 i2 (by rw [hll]; simp; omega) (by omega)
        rw [b1, b2, g1, g2] at hsb
        simp only [cond_true, Option.bind_some] at hsb
        rw [decide_eq_true (show ((P.length + 1 : Nat) : Int) > 0 by omega), cond_true, b1, b2, g1, g2]
        simp only [cond_true, Option.bind_some]
        rw [former_eq hN f5 hx f6 (hD x (by simp)) (hD c (by simp))]
        simp only [Option.bind_some]
        rw [hsb, show St.swp (P ++ c :: x :: t) P.length (P.length + 1 + ([] : List Int).length) = P ++ x :: c :: t from (St.swp_far P [] c x t).2, i2, w64_in (n := (i : Int) + 1) (by omega)]
        rfl)
      hS (fun c hc => (hy c hc).2) (fun c hc => by
        rcases List.mem_append.1 hc with hc | hc
        · have := hy c hc
          omega
        · rw [List.mem_singleton.1 hc]
          omega) (by omega) (by omega)
    rw [hl] at this
    exact this
  · simp only
    rw [decide_eq_false (show ¬ (n : Int) < (n : Int) by omega), cond_false]

theorem twoOrder_impl {xs : List Int} (hx : xs.length ≤ 1048576) (hs : shopOk xs 2 = true) : ∃ S, impl_TwoOrder N xs = some (S, true, ()) ∧ S.Perm ((List.range (quot xs 2).toNat).map Int.ofNat) ∧ S.Pairwise (St.R (tKey xs)) := by
  obtain ⟨f1, f2, f3, f4, f5, f6, f7, f8, f9⟩ := shop_facts hx hs
  obtain ⟨j, hj, hjq⟩ := asShop_eq hN (m := 2) hx
  unfold impl_TwoOrder
  rw [hj, hjq hs, hs]
  simp only [Option.bind_some, Bool.not_true, cond_false]
  obtain ⟨n, hn⟩ : ∃ n : Nat, quot xs 2 = (n : Int) := ⟨(quot xs 2).toNat, by omega⟩
  rw [hn] at f3 f4 f5 ⊢
  rw [Int.toNat_natCast]
  obtain ⟨C1, e1, p1, s1⟩ := impl_sortedBy_impl_TwoOrder_1_ok hN (n := n) (by omega) (c := (xs, ((n : Int), 2))) (k := tOne xs) (fun x h1 h2 => by
    unfold impl_TwoOrder_1_c0
    rw [(twoKey hN f5 hx f6 ⟨h1, h2⟩).1]
    rfl)
  obtain ⟨C2, e2, p2, s2⟩ := impl_sortedBy_impl_TwoOrder_2_ok hN (n := n) (by omega) (c := (xs, ((n : Int), 2))) (k := fun v => - tTwo xs v) (fun x h1 h2 => by
    have g := twoKey hN f5 hx f6 ⟨h1, h2⟩
    unfold impl_TwoOrder_2_c0
    rw [g.2.1]
    simp only [Option.bind_some]
    show some (w64 (0 - tTwo xs x), ()) = _
    rw [w64_in (n := 0 - tTwo xs x) (by omega), Int.zero_sub])
  have l1 : C1.length = n := by simpa using p1.length_eq
  have l2 : C2.length = n := by simpa using p2.length_eq
  have d1 : ∀ x ∈ C1, 0 ≤ x ∧ x < (n : Int) := fun x h => mem_rangeI (p1.mem_iff.1 h)
  have d2 : ∀ x ∈ C2, 0 ≤ x ∧ x < (n : Int) := fun x h => mem_rangeI (p2.mem_iff.1 h)
  rw [e1]
  simp only [Option.bind_some]
  rw [filter_loop (L := C1) (p := fun v => decide (tOne xs v ≤ tTwo xs v)) (E := fun front => some (front ++ C2.filter (fun v => decide (tOne xs v > tTwo xs v)), true, ())) (by omega)]
  · refine ⟨_, rfl, ?_, ?_⟩
    · have g1 := p1.filter (fun v => decide (tOne xs v ≤ tTwo xs v))
      have g2 := p2.filter (fun v => decide (tOne xs v > tTwo xs v))
      refine (g1.append g2).trans ?_
      have := List.filter_append_perm (fun v => decide (tOne xs v ≤ tTwo xs v)) ((List.range n).map Int.ofNat)
      rw [show (fun v => decide (tOne xs v > tTwo xs v)) = (fun v => !decide (tOne xs v ≤ tTwo xs v)) by funext v; by_cases h : tOne xs v ≤ tTwo xs v <;> simp [h] <;> omega]
      exact this
    · refine List.pairwise_append.2 ⟨?_, ?_, fun x hx1 y hy1 => ?_⟩
      · refine List.Pairwise.imp_of_mem ?_ (s1.filter _)
        intro a b ha hb h
        have ha := (List.mem_filter.1 ha).2
        have hb := (List.mem_filter.1 hb).2
        simp only [decide_eq_true_eq] at ha hb
        unfold St.R tKey
        rw [if_pos ha, if_pos hb]
        exact h
      · refine List.Pairwise.imp_of_mem ?_ (s2.filter _)
        intro a b ha hb h
        have ha := (List.mem_filter.1 ha).2
        have hb := (List.mem_filter.1 hb).2
        simp only [decide_eq_true_eq] at ha hb
        unfold St.R at h ⊢
        dsimp only at h
        unfold tKey
        rw [if_neg (by omega), if_neg (by omega)]
        omega
      · have ha := List.mem_filter.1 hx1
        have hb := List.mem_filter.1 hy1
        simp only [decide_eq_true_eq] at ha hb
        have g1 := twoKey hN f5 hx f6 (d1 x ha.1)
        have g2 := twoKey hN f5 hx f6 (d2 y hb.1)
        unfold St.R tKey
        rw [if_pos ha.2, if_neg (by omega)]
        omega
  · intro acc i next hi hacc
    have hg : C1[(i : Int).toNat]? = some (C1.getD i 0) := by rw [Int.toNat_natCast]; exact St.get_of hi
    have hd := d1 _ (St.getD_memL hi)
    obtain ⟨g1, g2, _⟩ := twoKey hN f5 hx f6 hd
    simp only
    rw [decide_eq_true (show (i : Int) < (C1.length : Int) by omega), cond_true, St.inB_nat rfl hi, cond_true, hg]
    simp only [Option.bind_some]
    rw [g1, g2]
    simp only [Option.bind_some]
    rw [appOk_of (by simp; omega), cond_true, w64_in (by omega)]
    rfl
  · intro acc next hacc
    simp only
    rw [decide_eq_false (show ¬ (C1.length : Int) < (C1.length : Int) by omega), cond_false, e2]
    simp only [Option.bind_some]
    rw [filter_loop (L := C2) (p := fun v => decide (tOne xs v > tTwo xs v)) (E := fun back => some (acc ++ back, true, ())) (by omega)]
    · intro acc2 i next hi hacc2
      have hg : C2[(i : Int).toNat]? = some (C2.getD i 0) := by rw [Int.toNat_natCast]; exact St.get_of hi
      have hd := d2 _ (St.getD_memL hi)
      obtain ⟨g1, g2, _⟩ := twoKey hN f5 hx f6 hd
      simp only
      rw [decide_eq_true (show (i : Int) < (C2.length : Int) by omega), cond_true, St.inB_nat rfl hi, cond_true, hg]
      simp only [Option.bind_some]
      rw [g1, g2]
      simp only [Option.bind_some]
      rw [appOk_of (by simp; omega), cond_true, w64_in (by omega)]
      rfl
    · intro acc2 next hacc2
      simp only
      rw [decide_eq_false (show ¬ (C2.length : Int) < (C2.length : Int) by omega), cond_false, appOk_of (by omega), cond_true]

theorem FnExactTwoOrder_eq (xs : List Int) : laws_FnExactTwoOrder N xs = some (true, ()) := by
  unfold laws_FnExactTwoOrder
  by_cases hx : (xs.length : Int) > 1048576
  · simp only [hx, decide_true, cond_true]
  · have key : ∃ a b, spec_TwoOrder N xs = some (a, b, ()) ∧ impl_TwoOrder N xs = some (a, b, ()) ∧ a.length ≤ 1048576 := by
      cases hs : shopOk xs 2
      · obtain ⟨j, hj, _⟩ := asShop_eq hN (m := 2) (show xs.length ≤ 1048576 by omega)
        refine ⟨[], false, ?_, ?_, by simp⟩
        · unfold spec_TwoOrder
          rw [l04Can_eq hN (by omega), hs]
          rfl
        · unfold impl_TwoOrder
          rw [hj, hs]
          rfl
      · obtain ⟨S1, h1, h2, h3⟩ := twoOrder_spec hN (by omega) hs
        obtain ⟨S2, g1, g2, g3⟩ := twoOrder_impl hN (by omega) hs
        have := St.sorted_unique (g2.trans h2.symm) g3 h3
        subst this
        obtain ⟨f1, f2, f3, f4, _⟩ := shop_facts (by omega) hs
        exact ⟨S2, true, h1, g1, by rw [g2.length_eq]; simp; omega⟩
    obtain ⟨a, b, h1, h2, h3⟩ := key
    simp only [hx, decide_false, cond_false, toInt64S_eq hN (xs := xs) (by omega), Option.bind_some, h1, h2, eqInt64S_eq hN (xs := xs) (by omega), eqInt64S_eq hN (xs := a) (by omega), BEq.rfl, Bool.not_true, bne_self_eq_false,
      markInt64S_eq hN (xs := xs) (k := 1) (by omega) (by omega), markInt64S_eq hN (xs := a) (k := 1) (by omega) (by omega), heldInt64S_eq hN (xs := a) (k := 1) (by omega) (by omega), counted_len, Nat.beq_refl, cond_true,
      show ¬ ((1 : Int) + xs.length < 0) by omega, show ¬ ((1 : Int) + a.length < 0) by omega]
end

end Go.Proofs.Ytblmginpolckoaa
