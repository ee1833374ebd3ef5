/-
  FewestLate: the plain law. No condition.
-/
import Derived.Test.YtkcdhdnmmpapdaaOrderBy
namespace Go.Proofs.Ytkcdhdnmmpapdaa
open Go Go.Proofs.Ytkcdhdnmmpapdaa.Fw
set_option linter.unusedVariables false
set_option linter.unusedSimpArgs false

/-- Where the first of the greatest stands, among those up to i. -/
def am (T : Nat → Int) : Nat → Nat
  | 0 => 0
  | i + 1 => if T (i + 1) > T (am T i) then i + 1 else am T i

theorem am_le (T : Nat → Int) : ∀ i, am T i ≤ i
  | 0 => Nat.le_refl _
  | i + 1 => by
    unfold am
    split
    · exact Nat.le_refl _
    · exact Nat.le_succ_of_le (am_le T i)

theorem amax_loop {ρ : Type} {N n : Nat} {body : Int × Int × Unit → (Int × Int × Unit → Option ρ) → Option ρ} {E : Int → Option ρ} {T : Nat → Int} {k0 : Int} (hn : 1 ≤ n) (hN : n < N) (hk : k0 = 0 ∨ k0 = 1)
    (h1 : ∀ (a i : Nat) next, a < n → i < n → body ((a : Int), (i : Int), ()) next = cond (decide (T i > T a)) (next ((i : Int), ((i + 1 : Nat) : Int), ())) (next ((a : Int), ((i + 1 : Nat) : Int), ())))
    (h0 : ∀ (a : Nat) next, a < n → body ((a : Int), (n : Int), ()) next = E a) : loopN body N (0, k0, ()) = E ((am T (n - 1) : Nat) : Int) := by
  refine loop_eq (inv := fun s : Int × Int × Unit => ∃ i : Nat, i ≤ n ∧ s = (((am T (i - 1) : Nat) : Int), (i : Int), ())) (μ := fun s => (n - s.2.1).toNat) (R := fun _ => E ((am T (n - 1) : Nat) : Int)) ?_ N _ ?_ ?_
  · rintro _ next ⟨i, hi, rfl⟩ hnx
    have hl := am_le T (i - 1)
    by_cases hlt : i < n
    · rw [h1 _ i next (by omega) hlt]
      have hs : (if T i > T (am T (i - 1)) then i else am T (i - 1)) = am T i := by
        cases i with
        | zero => simp [am]
        | succ i => rfl
      by_cases hc : T i > T (am T (i - 1))
      · rw [if_pos hc] at hs
        rw [decide_eq_true hc, cond_true]
        exact hnx _ ⟨i + 1, by omega, by rw [Nat.add_sub_cancel, ← hs]⟩ (by simp only; omega)
      · rw [if_neg hc] at hs
        rw [decide_eq_false hc, cond_false]
        exact hnx _ ⟨i + 1, by omega, by rw [Nat.add_sub_cancel, ← hs]⟩ (by simp only; omega)
    · obtain rfl : i = n := by omega
      rw [h0 _ next (by omega)]
  · rcases hk with rfl | rfl
    · exact ⟨0, by omega, rfl⟩
    · exact ⟨1, hn, rfl⟩
  · rcases hk with rfl | rfl <;> simp only <;> omega

def freeOk (js : List Jb) : Bool := js.all fun t => t.2.1 == 0

section
variable {N : Nat} (hN : 9223372036854775808 ≤ N)
include hN

theorem l02Free_eq {js : List Jb} (hx : js.length ≤ 1048576) : spec_l02Free N js = some (freeOk js, ()) := by
  unfold spec_l02Free freeOk
  rw [all_loop hN (xs := js) (by omega) (fun t => t.2.1 == 0) (some (false, ())) (some (true, ()))]
  · cases js.all (fun t => t.2.1 == 0) <;> rfl
  · intro s next e
    simp only [e, Int.lt_irrefl, decide_false, cond_false]
  · intro s next v g1 g2 g3 g4
    simp only [g2, decide_true, cond_true, g3, Option.bind_some, g4]
    cases h : (v.2.1 == 0)
    · rw [show (v.2.1 != 0) = true by simp only [bne, h]; rfl]
      rfl
    · rw [show (v.2.1 != 0) = false by simp only [bne, h]; rfl]
      rfl

theorem atOnce_eq {js : List Jb} (hx : js.length ≤ 1048576) : impl_areAtOnce N js = some (jobsOk js && freeOk js, ()) := by
  have key : ∃ n : Int, slices_IndexFunc_impl_Job_impl_Job_impl_areAtOnce_1 N js () = some (n, ()) ∧ decide (n ≥ 0) = !freeOk js := by
    unfold slices_IndexFunc_impl_Job_impl_Job_impl_areAtOnce_1 freeOk
    refine loop_inv (Q := fun o : Option (Int × Unit) => ∃ n : Int, o = some (n, ()) ∧ decide (n ≥ 0) = !(js.all fun t => t.2.1 == 0)) (inv := fun s : Int × Unit => ∃ i : Nat, i ≤ js.length ∧ s.1 = i ∧ (js.take i).all (fun t => t.2.1 == 0) = true)
      (μ := fun s => (js.length - s.1).toNat) ?_ N _ ⟨0, Nat.zero_le _, rfl, rfl⟩ (by simp only; omega)
    rintro ⟨_, u⟩ next ⟨i, hi, rfl, hall⟩ hn
    simp only at hn ⊢
    by_cases hlt : i < js.length
    · have hg : js[i]? = some js[i] := List.getElem?_eq_getElem hlt
      rw [decide_eq_true (show (i : Int) < (js.length : Int) by omega), cond_true, idx_nat, hg]
      simp only [Option.bind_some, impl_areAtOnce_1]
      cases h : (js[i].2.1 == 0)
      · rw [show (js[i].2.1 != 0) = true by simp only [bne, h]; rfl]
        refine ⟨i, rfl, ?_⟩
        have hna : js.all (fun t => t.2.1 == 0) = false := by
          rw [Bool.eq_false_iff]
          intro hc
          have := List.all_eq_true.1 hc js[i] (List.getElem_mem hlt)
          rw [h] at this
          cases this
        rw [hna]
        simp only [Bool.not_false, decide_eq_true_eq]
        omega
      · rw [show (js[i].2.1 != 0) = false by simp only [bne, h]; rfl]
        simp only [cond_false]
        rw [w64_in (by omega)]
        refine hn _ ⟨i + 1, by omega, rfl, ?_⟩ (by simp only; omega)
        rw [List.take_add_one, hg, List.all_append, hall]
        simp [h]
    · obtain rfl : i = js.length := by omega
      rw [decide_eq_false (show ¬ (js.length : Int) < (js.length : Int) by omega), cond_false]
      rw [List.take_length] at hall
      exact ⟨-1, rfl, by rw [hall]; rfl⟩
  obtain ⟨n, h1, h2⟩ := key
  unfold impl_areAtOnce slices_ContainsFunc_impl_Job_impl_Job_impl_areAtOnce_1
  rw [areJobs_eq hN hx]
  simp only [Option.bind_some]
  cases jobsOk js
  · rfl
  · simp only [cond_true, h1, Option.bind_some, h2, Bool.not_not, Bool.true_and]

theorem fewest_both {js : List Jb} (hx : js.length ≤ 1048576) : ∃ (a : List Int) (b : Int) (c : Bool), spec_FewestLate N js = some (a, b, c, ()) ∧ impl_FewestLate N js = some (a, b, c, ()) ∧ a.length ≤ 24 := by
  unfold spec_FewestLate impl_FewestLate
  rw [l02Jobs_eq hN hx, l02Free_eq hN hx, atOnce_eq hN hx]
  simp only [Option.bind_some]
  cases hj : jobsOk js with
  | false => exact ⟨_, _, _, rfl, rfl, by simp⟩
  | true =>
    cases hf : freeOk js with
    | false => exact ⟨_, _, _, rfl, rfl, by simp⟩
    | true =>
      simp only [Bool.not_true, cond_false, Bool.and_self]
      obtain ⟨f1, f2, f3⟩ := jobs_facts hN hj
      obtain ⟨S1, e1, p1, s1⟩ := by_eq hN hj (rule := 1) (by omega)
      obtain ⟨S2, e2, p2, s2⟩ := orderBy_impl hN hj (rule := 1) (by omega)
      have := St.sorted_unique (p2.trans p1.symm) s2 s1
      subst this
      have hSl : S2.length = js.length := by rw [p2.length_eq]; simp
      have hSd : ∀ v ∈ S2, 0 ≤ v ∧ v < (js.length : Int) := fun v hv => mem_rangeI (p2.mem_iff.1 hv)
      rw [e1, e2]
      simp only [Option.bind_some]
      have main := loop_rel (ρ := List Int × Int × Bool × Unit) (σ := List Int × Int × Int × Int × Unit) (τ := List Int × Int × Int × Int × Unit)
        (I := fun s t => s.1 = t.1 ∧ s.2.1 = t.2.2.1 ∧ s.2.2.1 = t.2.1 ∧ s.2.2.2.1 = t.2.2.2.1 ∧ 0 ≤ s.2.2.2.1 ∧ s.2.2.2.1 ≤ S2.length ∧ (s.1.length : Int) ≤ s.2.2.2.1 ∧ ∀ v ∈ s.1, 0 ≤ v ∧ v < (js.length : Int))
        (μ := fun s => (S2.length - s.2.2.2.1).toNat) (Q := fun r => r.1.length ≤ 24)
        (A := fun (s4 : List (Int) × Int × Int × Int × Unit) next5 =>
        cond (decide (s4.2.2.2.1 < (List.length S2 : Int)))
          (cond (inB s4.2.2.2.1 (List.length S2))
            (Option.bind (S2[(Int.toNat s4.2.2.2.1)]?) fun v6 =>
            cond (appOk (List.length s4.1) (List.length ([v6] : List Int)))
              (let xs7 := (s4.1 ++ ([v6] : List Int))
              cond (inB s4.2.2.2.1 (List.length S2))
                (Option.bind (S2[(Int.toNat s4.2.2.2.1)]?) fun v8 =>
                Option.bind (idx js v8) fun v9 =>
                cond (inB s4.2.2.2.1 (List.length S2))
                  (Option.bind (S2[(Int.toNat s4.2.2.2.1)]?) fun v10 =>
                  Option.bind (idx js v10) fun v11 =>
                  cond (decide ((w64 (s4.2.1 + v9.1)) ≤ v11.2.2.1))
                    (next5 (xs7, (w64 (s4.2.1 + v9.1)), s4.2.2.1, (w64 (s4.2.2.2.1 + 1)), ()))
                    (loopN (fun (s12 : Int × Int × Unit) next13 =>
                      cond (decide (s12.2.1 < (List.length xs7 : Int)))
                        (cond (inB s12.2.1 (List.length xs7))
                          (Option.bind (xs7[(Int.toNat s12.2.1)]?) fun v14 =>
                          Option.bind (idx js v14) fun v15 =>
                          cond (inB s12.1 (List.length xs7))
                            (Option.bind (xs7[(Int.toNat s12.1)]?) fun v16 =>
                            Option.bind (idx js v16) fun v17 =>
                            cond (decide (v15.1 > v17.1))
                              (next13 (s12.2.1, (w64 (s12.2.1 + 1)), ()))
                              (next13 (s12.1, (w64 (s12.2.1 + 1)), ()))) none) none)
                        (cond (inB s12.1 (List.length xs7))
                          (Option.bind (xs7[(Int.toNat s12.1)]?) fun v18 =>
                          Option.bind (idx js v18) fun v19 =>
                          cond (decide (0 ≤ (0 : Int)) && decide ((0 : Int) ≤ s12.1) && decide (s12.1 ≤ (List.length xs7 : Int)))
                            (cond (decide (0 ≤ (w64 (s12.1 + 1))) && decide ((w64 (s12.1 + 1)) ≤ (List.length xs7 : Int)) && decide ((List.length xs7 : Int) ≤ (List.length xs7 : Int)))
                              (cond (appOk (List.length (List.take (Int.toNat s12.1 - Int.toNat (0 : Int)) xs7)) (List.length ((xs7.drop (Int.toNat (w64 (s12.1 + 1)))).take (Int.toNat (List.length xs7 : Int) - Int.toNat (w64 (s12.1 + 1))))))
                                (let xs20 := ((List.take (Int.toNat s12.1 - Int.toNat (0 : Int)) xs7) ++ ((xs7.drop (Int.toNat (w64 (s12.1 + 1)))).take (Int.toNat (List.length xs7 : Int) - Int.toNat (w64 (s12.1 + 1)))))
                                next5 (xs20, (w64 ((w64 (s4.2.1 + v9.1)) - v19.1)), (w64 (s4.2.2.1 + 1)), (w64 (s4.2.2.2.1 + 1)), ())) none) none) none) none)) N (0, 1, ()))) none) none) none) none)
          (some (s4.1, s4.2.2.1, true, ())))
        (B := fun (s3 : List (Int) × Int × Int × Int × Unit) next4 =>
      cond (decide (s3.2.2.2.1 < (List.length S2 : Int)))
        (cond (inB s3.2.2.2.1 (List.length S2))
          (Option.bind (S2[(Int.toNat s3.2.2.2.1)]?) fun v5 =>
          cond (appOk (List.length s3.1) (List.length ([v5] : List Int)))
            (let xs6 := (s3.1 ++ ([v5] : List Int))
            Option.bind (idx js v5) fun v7 =>
            Option.bind (idx js v5) fun v8 =>
            cond (decide ((w64 (s3.2.2.1 + v7.1)) ≤ v8.2.2.1))
              (next4 (xs6, s3.2.1, (w64 (s3.2.2.1 + v7.1)), (w64 (s3.2.2.2.1 + 1)), ()))
              (loopN (fun (s9 : Int × Int × Unit) next10 =>
                cond (decide (s9.2.1 < (List.length xs6 : Int)))
                  (cond (inB s9.2.1 (List.length xs6))
                    (Option.bind (xs6[(Int.toNat s9.2.1)]?) fun v11 =>
                    Option.bind (idx js v11) fun v12 =>
                    cond (inB s9.1 (List.length xs6))
                      (Option.bind (xs6[(Int.toNat s9.1)]?) fun v13 =>
                      Option.bind (idx js v13) fun v14 =>
                      cond (decide (v12.1 > v14.1))
                        (next10 (s9.2.1, (w64 (s9.2.1 + 1)), ()))
                        (next10 (s9.1, (w64 (s9.2.1 + 1)), ()))) none) none)
                  (cond (inB s9.1 (List.length xs6))
                    (Option.bind (xs6[(Int.toNat s9.1)]?) fun v15 =>
                    Option.bind (idx js v15) fun v16 =>
                    Option.bind (slices_Delete_int64_int64 N xs6 s9.1 (.inr (w64 (s9.1 + 1)))) fun r17 =>
                    next4 (r17, (w64 (s3.2.1 + 1)), (w64 ((w64 (s3.2.2.1 + v7.1)) - v16.1)), (w64 (s3.2.2.2.1 + 1)), ())) none)) N (0, 0, ()))) none) none)
        (some (s3.1, s3.2.1, true, ())))
        ?_ N N ([], 0, 0, 0, ()) ([], 0, 0, 0, ()) ⟨rfl, rfl, rfl, rfl, Int.le_refl _, by simp only; omega, by simp, fun v hv => by cases hv⟩ (by simp only; omega) (by simp only; omega)
      · obtain ⟨⟨a, b, c, u⟩, h1, h2, h3⟩ := main
        exact ⟨a, b, c, h1, h2, h3⟩
      · rintro ⟨kept, sum, late, i, u⟩ ⟨out, taken, sum', i', u'⟩ nA nB ⟨q1, q2, q3, q4, h1, h2, h3, h4⟩ hn
        simp only at q1 q2 q3 q4 h1 h2 h3 h4
        subst q1 q2 q3 q4
        simp only
        by_cases hi : i < (S2.length : Int)
        · have hlt : i.toNat < S2.length := by omega
          obtain ⟨v0, v1⟩ := hSd _ (getD_mem (xs := S2) (n := i.toNat) hlt)
          rw [decide_eq_true hi, cond_true, cond_true, inB_of (n := i) (len := S2.length) ⟨h1, hi⟩, cond_true, cond_true, get_getD (0 : Int) (xs := S2) (n := i.toNat) hlt]
          simp only [Option.bind_some]
          generalize S2.getD i.toNat 0 = v at v0 v1
          rw [appOk_of (by simp; omega)]
          simp only [cond_true]
          rw [idx_get NJ ⟨v0, v1⟩]
          simp only [Option.bind_some]
          obtain ⟨L, hL⟩ : ∃ L, L = kept ++ [v] := ⟨_, rfl⟩
          have hLl : L.length = kept.length + 1 := by rw [hL]; simp
          have hLd : ∀ x ∈ L, 0 ≤ x ∧ x < (js.length : Int) := fun x hx => by
            rw [hL] at hx
            rcases List.mem_append.1 hx with hx | hx
            · exact h4 x hx
            · rw [List.mem_singleton.1 hx]
              exact ⟨v0, v1⟩
          rw [← hL]
          generalize js.getD v.toNat NJ = J
          rw [w64_in (n := i + 1) (by omega)]
          by_cases hdue : w64 (sum + J.1) ≤ J.2.2.1
          · rw [decide_eq_true hdue, cond_true, cond_true]
            exact hn _ _ ⟨rfl, rfl, rfl, rfl, by simp only; omega, by simp only; omega, by simp only; omega, hLd⟩ (by simp only; omega)
          · rw [decide_eq_false hdue, cond_false, cond_false]
            have hget : ∀ a : Nat, a < L.length → L[(a : Int).toNat]? = some (L.getD a 0) ∧ idx js (L.getD a 0) = some (js.getD (L.getD a 0).toNat NJ) ∧ inB (a : Int) L.length = true := fun a ha => by
              have hd := hLd _ (getD_mem (xs := L) (n := a) ha)
              exact ⟨by rw [Int.toNat_natCast]; exact get_getD 0 ha, idx_get NJ hd, inB_of ⟨by omega, by omega⟩⟩
            rw [amax_loop (n := L.length) (T := fun a => (js.getD (L.getD a 0).toNat NJ).1) (k0 := 1) (E := fun b => cond (inB b (List.length L))
                          (Option.bind (L[(Int.toNat b)]?) fun v18 =>
                          Option.bind (idx js v18) fun v19 =>
                          cond (decide (0 ≤ (0 : Int)) && decide ((0 : Int) ≤ b) && decide (b ≤ (List.length L : Int)))
                            (cond (decide (0 ≤ (w64 (b + 1))) && decide ((w64 (b + 1)) ≤ (List.length L : Int)) && decide ((List.length L : Int) ≤ (List.length L : Int)))
                              (cond (appOk (List.length (List.take (Int.toNat b - Int.toNat (0 : Int)) L)) (List.length ((L.drop (Int.toNat (w64 (b + 1)))).take (Int.toNat (List.length L : Int) - Int.toNat (w64 (b + 1))))))
                                (nA (((List.take (Int.toNat b - Int.toNat (0 : Int)) L) ++ ((L.drop (Int.toNat (w64 (b + 1)))).take (Int.toNat (List.length L : Int) - Int.toNat (w64 (b + 1))))), (w64 ((w64 (sum + J.1)) - v19.1)), (w64 (late + 1)), i + 1, ())) none) none) none) none) (by omega) (by omega) (.inr rfl)
                (fun a k next ha hk => by
                  obtain ⟨a1, a2, a3⟩ := hget a ha
                  obtain ⟨k1, k2, k3⟩ := hget k hk
                  simp only
                  rw [decide_eq_true (show (k : Int) < (L.length : Int) by omega), cond_true, k3, cond_true, k1]
                  simp only [Option.bind_some]
                  rw [k2]
                  simp only [Option.bind_some]
                  rw [a3, cond_true, a1]
                  simp only [Option.bind_some]
                  rw [a2]
                  simp only [Option.bind_some]
                  rw [w64_in (n := (k : Int) + 1) (by omega)]
                  rfl)
                (fun a next ha => by
                  simp only
                  rw [decide_eq_false (show ¬ (L.length : Int) < (L.length : Int) by omega), cond_false])]
            rw [amax_loop (n := L.length) (T := fun a => (js.getD (L.getD a 0).toNat NJ).1) (k0 := 0) (E := fun b => cond (inB b (List.length L))
                    (Option.bind (L[(Int.toNat b)]?) fun v15 =>
                    Option.bind (idx js v15) fun v16 =>
                    Option.bind (slices_Delete_int64_int64 N L b (.inr (w64 (b + 1)))) fun r17 =>
                    nB (r17, (w64 (late + 1)), (w64 ((w64 (sum + J.1)) - v16.1)), i + 1, ())) none) (by omega) (by omega) (.inl rfl)
                (fun a k next ha hk => by
                  obtain ⟨a1, a2, a3⟩ := hget a ha
                  obtain ⟨k1, k2, k3⟩ := hget k hk
                  simp only
                  rw [decide_eq_true (show (k : Int) < (L.length : Int) by omega), cond_true, k3, cond_true, k1]
                  simp only [Option.bind_some]
                  rw [k2]
                  simp only [Option.bind_some]
                  rw [a3, cond_true, a1]
                  simp only [Option.bind_some]
                  rw [a2]
                  simp only [Option.bind_some]
                  rw [w64_in (n := (k : Int) + 1) (by omega)]
                  rfl)
                (fun a next ha => by
                  simp only
                  rw [decide_eq_false (show ¬ (L.length : Int) < (L.length : Int) by omega), cond_false])]
            have hb := am_le (fun a => (js.getD (L.getD a 0).toNat NJ).1) (L.length - 1)
            generalize am (fun a => (js.getD (L.getD a 0).toNat NJ).1) (L.length - 1) = b at hb ⊢
            have hbl : b < L.length := by omega
            obtain ⟨b1, b2, b3⟩ := hget b hbl
            have e1 : List.take (Int.toNat (b : Int) - Int.toNat (0 : Int)) L ++ ((L.drop (Int.toNat ((b : Int) + 1))).take (Int.toNat (L.length : Int) - Int.toNat ((b : Int) + 1))) = L.take b ++ L.drop (b + 1) := by
              rw [show Int.toNat (b : Int) - Int.toNat (0 : Int) = b by simp, show Int.toNat ((b : Int) + 1) = b + 1 by omega, Int.toNat_natCast, List.take_of_length_le (l := L.drop (b + 1)) (by simp)]
            have hdel : slices_Delete_int64_int64 N L (b : Int) (.inr ((b : Int) + 1)) = some (L.take b ++ L.drop (b + 1)) := by
              unfold slices_Delete_int64_int64 delF
              simp only
              rw [decide_eq_true (show (0 : Int) ≤ (b : Int) by omega), decide_eq_true (show (b : Int) < (b : Int) + 1 by omega), decide_eq_true (show (b : Int) + 1 ≤ (L.length : Int) by omega), decide_eq_true (show L.length ≤ 1000000 by omega), Int.toNat_natCast, show ((b : Int) + 1).toNat = b + 1 by omega]
              rfl
            rw [b3, cond_true, cond_true, b1]
            simp only [Option.bind_some]
            rw [b2]
            simp only [Option.bind_some]
            rw [w64_in (n := (b : Int) + 1) (by omega), hdel, e1]
            rw [decide_eq_true (show (0 : Int) ≤ (0 : Int) by omega), decide_eq_true (show (0 : Int) ≤ (b : Int) by omega), decide_eq_true (show (b : Int) ≤ (L.length : Int) by omega), decide_eq_true (show (0 : Int) ≤ (b : Int) + 1 by omega), decide_eq_true (show (b : Int) + 1 ≤ (L.length : Int) by omega), decide_eq_true (show (L.length : Int) ≤ (L.length : Int) by omega)]
            simp only [Bool.and_self, cond_true, Option.bind_some]
            rw [appOk_of (by simp; omega), cond_true]
            refine hn _ _ ⟨rfl, rfl, rfl, rfl, by simp only; omega, by simp only; omega, by simp; omega, fun x hx => ?_⟩ (by simp only; omega)
            rcases List.mem_append.1 hx with hx | hx
            · exact hLd x (List.mem_of_mem_take hx)
            · exact hLd x (List.mem_of_mem_drop hx)
        · rw [decide_eq_false hi, cond_false, cond_false]
          exact ⟨_, rfl, rfl, by simp only; omega⟩

theorem FnExactFewestLate_eq (js : List Jb) (hx : js.length ≤ 9223372036854775807) : laws_FnExactFewestLate N js = some (true, ()) := by
  unfold laws_FnExactFewestLate
  rcases szJobS_gen hN hx with e | ⟨r, e, h1, h2⟩
  · rw [e]
    rfl
  · obtain ⟨a, b, c, g1, g2, g3⟩ := fewest_both hN (js := js) h2
    have hm : laws_markJobS_d js 1 = some (1 + 4 * (js.length : Int)) := by
      unfold laws_markJobS_d
      rw [decide_eq_true (show (0 : Int) ≤ 1 by omega), decide_eq_true (show 1 + 4 * (js.length : Int) ≤ 4611686018427387904 by omega)]
      rfl
    simp only [e, Option.bind_some, decide_eq_false (show ¬ r < 0 by omega), cond_false, toJobS_eq hN h2, g1, g2, eqJobS_eq hN h2, eqInt64S_eq hN (xs := a) (by omega), BEq.rfl, Bool.not_true, bne_self_eq_false, hm, decide_eq_false (show ¬ (1 + 4 * (js.length : Int) < 0) by omega),
      markInt64S_eq hN (xs := a) (k := 1) (by omega) (by omega), heldInt64S_eq hN (xs := a) (k := 1) (by omega) (by omega), counted_len, Nat.beq_refl, cond_true, decide_eq_false (show ¬ ((1 : Int) + a.length < 0) by omega)]
end

end Go.Proofs.Ytkcdhdnmmpapdaa
