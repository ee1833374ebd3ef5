/-
  LoadsOfLine and MixedOrder: the plain laws. No condition.
-/
import Derived.Test.YtakmpiljijhcbaaPTask
namespace Go.Proofs.Ytakmpiljijhcbaa
open Go Go.Proofs.Ytakmpiljijhcbaa.Fw
set_option linter.unusedVariables false
set_option linter.unusedSimpArgs false

def lineOk (xs : List Int) : Bool := within 1 12 xs.length && xs.all (within 1 10000)

def countsOk (xs : List Int) : Bool := within 1 8 xs.length && (xs.all (within 0 16) && within 1 64 (sumW xs))

theorem foldImax_ge : ∀ (l : List Int) (m : Int), m ≤ l.foldl imax m ∧ ∀ v ∈ l, v ≤ l.foldl imax m
  | [], m => ⟨Int.le_refl _, fun v hv => by cases hv⟩
  | x :: l, m => by
    obtain ⟨h1, h2⟩ := foldImax_ge l (imax m x)
    have h3 : m ≤ imax m x ∧ x ≤ imax m x := by unfold imax; split <;> omega
    refine ⟨Int.le_trans h3.1 h1, fun v hv => ?_⟩
    rcases List.mem_cons.1 hv with rfl | hv
    · exact Int.le_trans h3.2 h1
    · exact h2 v hv

theorem foldImax_le {c : Int} : ∀ (l : List Int) (m : Int), m ≤ c → (∀ v ∈ l, v ≤ c) → l.foldl imax m ≤ c
  | [], m, h, _ => h
  | x :: l, m, h, hl => foldImax_le l (imax m x) (by
      have := hl x List.mem_cons_self
      unfold imax
      split <;> omega) (fun v hv => hl v (List.mem_cons_of_mem _ hv))

theorem sum_le : ∀ {a b : List Int}, a.length = b.length → (∀ j, b.getD j 0 ≤ a.getD j 0) → b.sum ≤ a.sum
  | [], [], _, _ => Int.le_refl _
  | [], _ :: _, h, _ => by simp at h
  | _ :: _, [], h, _ => by simp at h
  | x :: a, y :: b, h, hl => by
    have h1 := hl 0
    have h2 := sum_le (a := a) (b := b) (by simpa using h) (fun j => by simpa using hl (j + 1))
    simp only [List.getD_cons_zero] at h1
    simp only [List.sum_cons]
    omega

theorem sum_set : ∀ {a : List Int} {i : Nat}, i < a.length → (a.set i (a.getD i 0 + 1)).sum = a.sum + 1
  | [], i, h => by simp at h
  | x :: a, 0, h => by
    simp only [List.set_cons_zero, List.getD_cons_zero, List.sum_cons]
    omega
  | x :: a, i + 1, h => by
    have := sum_set (a := a) (i := i) (by simpa using h)
    simp only [List.set_cons_succ, List.getD_cons_succ, List.sum_cons]
    omega

theorem sum_zero (n : Nat) : (List.replicate n (0 : Int)).sum = 0 := by
  induction n with
  | zero => rfl
  | succ n ih => rw [List.replicate_succ, List.sum_cons, ih]; rfl

theorem foldW_small : ∀ (l : List Int) (acc : Int), 0 ≤ acc → acc + 16 * l.length ≤ 1000000 → (∀ v ∈ l, 0 ≤ v ∧ v ≤ 16) → l.foldl (fun a v => w64 (a + v)) acc = acc + l.sum
  | [], acc, _, _, _ => by simp
  | x :: l, acc, h0, h, hl => by
    have hx := hl x List.mem_cons_self
    simp only [List.length_cons] at h
    rw [List.foldl_cons, w64_in (n := acc + x) (by omega), foldW_small l (acc + x) (by omega) (by omega) (fun v hv => hl v (List.mem_cons_of_mem _ hv)), List.sum_cons]
    omega

theorem getD_set' {xs : List Int} {i j : Nat} {v : Int} (hi : i < xs.length) : (xs.set i v).getD j 0 = if i = j then v else xs.getD j 0 := by
  rw [List.getD_eq_getElem?_getD, List.getElem?_set, List.getD_eq_getElem?_getD]
  by_cases h : i = j
  · subst h
    rw [if_pos rfl, if_pos rfl, if_pos hi]
    rfl
  · rw [if_neg h, if_neg h]

section
variable {N : Nat} (hN : 9223372036854775808 ≤ N)
include hN

theorem l04Tasks_eq {xs : List Int} (hx : xs.length ≤ 1048576) : spec_l04Tasks N xs = some (lineOk xs, ()) := by
  unfold spec_l04Tasks spec_l02Times lineOk
  rw [all_loop hN (xs := xs) (by omega) (within 1 10000) (some (false, ())) (cond (decide ((List.length xs : Int) ≥ 1)) (some ((decide ((List.length xs : Int) ≤ 24)), ())) (some (false, ())))]
  · by_cases h1 : (List.length xs : Int) ≥ 1
    · by_cases h2 : (List.length xs : Int) ≤ 12
      · rw [show within 1 12 (List.length xs : Int) = true from within_iff.2 ⟨h1, h2⟩, decide_eq_true h1, decide_eq_true h2, show decide ((List.length xs : Int) ≤ 24) = true from by simp; omega]
        cases xs.all (within 1 10000) <;> rfl
      · rw [show within 1 12 (List.length xs : Int) = false from by simp [within]; omega, decide_eq_true h1, decide_eq_false h2]
        cases decide ((List.length xs : Int) ≤ 24) <;> cases xs.all (within 1 10000) <;> rfl
    · rw [show within 1 12 (List.length xs : Int) = false from by simp [within]; omega, decide_eq_false h1]
      cases xs.all (within 1 10000) <;> rfl
  · intro s next h
    simp only [h, Int.lt_irrefl, decide_false, cond_false]
  · intro s next v g1 g2 g3 g4
    simp only [g2, decide_true, cond_true, g3, Option.bind_some, l00In_eq, g4]
    cases within 1 10000 v <;> rfl

theorem areLine_eq {xs : List Int} (hx : xs.length ≤ 1048576) : impl_areLine N xs = some (lineOk xs, ()) := by
  unfold impl_areLine lineOk
  rw [areMany_eq hN (by omega)]
  rfl

theorem l02Greatest_eq {x : Int} {l : List Int} (hx : (x :: l).length ≤ 4294967296) : spec_l02Greatest N (x :: l) = some (l.foldl imax x, ()) := by
  unfold spec_l02Greatest
  rw [show idx (x :: l) 0 = some x from rfl]
  simp only [Option.bind_some]
  have h := loop_list (ρ := Int × Unit) (σ := Int × Int × Unit) (body := fun (s2 : Int × Int × Unit) next3 =>
    cond (decide (s2.2.1 < (List.length (x :: l) : Int)))
      (Option.bind (idx (x :: l) s2.2.1) fun v4 =>
      Option.bind (spec_l00Max N s2.1 v4) fun r5 =>
      next3 (r5.1, (w64 (s2.2.1 + 1)), ()))
      (some (s2.1, ()))) (xs := x :: l) (i := fun s => s.2.1) (f := fun l s => some (l.foldl imax s.1, ())) (inv := fun _ => True) (by omega)
    (fun s next _ h => by simp only [h, Int.lt_irrefl, decide_false, cond_false, List.foldl_nil])
    (fun s next v r _ h1 h2 h3 h4 h5 hn => by
      simp only [h2, decide_true, cond_true, h3, Option.bind_some, h5, List.foldl_cons, l00Max_eq]
      exact hn _ trivial rfl)
    (N := N) (by omega) (s := (x, 1, ())) trivial (by simp) (by simp; omega)
  exact h

theorem slicesMax_eq {x : Int} {l : List Int} (hx : (x :: l).length ≤ 4294967296) : slices_Max_int64_int64 N (x :: l) = some (l.foldl imax x, ()) := by
  unfold slices_Max_int64_int64
  rw [show idx (x :: l) 0 = some x from rfl, show decide ((List.length (x :: l) : Int) < 1) = false from by simp; omega]
  simp only [Option.bind_some, cond_false]
  have h := loop_list (ρ := Int × Unit) (σ := Int × Int × Unit) (body := fun (s2 : Int × Int × Unit) next3 =>
    cond (decide (s2.2.1 < (List.length (x :: l) : Int)))
      (Option.bind (idx (x :: l) s2.2.1) fun v4 =>
      next3 ((imax s2.1 v4), (w64 (s2.2.1 + 1)), ()))
      (some (s2.1, ()))) (xs := x :: l) (i := fun s => s.2.1) (f := fun l s => some (l.foldl imax s.1, ())) (inv := fun _ => True) (by omega)
    (fun s next _ h => by simp only [h, Int.lt_irrefl, decide_false, cond_false, List.foldl_nil])
    (fun s next v r _ h1 h2 h3 h4 h5 hn => by
      simp only [h2, decide_true, cond_true, h3, Option.bind_some, h5, List.foldl_cons]
      exact hn _ trivial rfl)
    (N := N) (by omega) (s := (x, 1, ())) trivial (by simp) (by simp; omega)
  exact h

theorem loads_eq {xs ys : List Int} (hx : xs.length ≤ 1048576) (hy : ys.length ≤ 1048576) : ∃ l b, spec_LoadsOfLine N xs ys = some (l, b, ()) ∧ impl_LoadsOfLine N xs ys = some (l, b, ()) ∧ l.length ≤ 1048576 := by
  unfold spec_LoadsOfLine impl_LoadsOfLine
  simp only [l04Tasks_eq hN hx, areLine_eq hN hx, Option.bind_some, areMany_eq hN (xs := ys) (show ys.length ≤ 4294967296 by omega)]
  cases hk : lineOk xs
  · exact ⟨[], false, rfl, rfl, by simp⟩
  simp only [Bool.not_true, cond_false]
  by_cases hl : ys.length = xs.length
  · rw [show ((List.length ys : Int) != (List.length xs : Int)) = false by simp [hl], cond_false, show within (xs.length : Int) (xs.length : Int) (ys.length : Int) = true from by rw [hl]; simp [within], Bool.true_and]
    rw [all_loop hN (xs := ys) (by omega) (within 0 11) (some ([], false, ())) (Option.bind (spec_l02Greatest N ys) fun r6 =>
          cond (mkOk (w64 (r6.1 + 1)) (w64 (r6.1 + 1)))
            (let xs7 := (List.replicate (Int.toNat (w64 (r6.1 + 1))) (0 : Int) : List (Int))
            loopN (fun (s8 : List (Int) × Int × Unit) next9 =>
              cond (decide (s8.2.1 < (List.length xs : Int)))
                (Option.bind (idx ys s8.2.1) fun v10 =>
                cond (inB v10 (List.length s8.1))
                  (Option.bind (s8.1[(Int.toNat v10)]?) fun v11 =>
                  Option.bind (idx xs s8.2.1) fun v12 =>
                  cond (inB v10 (List.length s8.1))
                    (let xs13 := (List.set s8.1 (Int.toNat v10) (w64 (v11 + v12)))
                    next9 (xs13, (w64 (s8.2.1 + 1)), ())) none) none)
                (some (s8.1, true, ()))) N (xs7, 0, ())) none)]
    · cases ha : ys.all (within 0 11)
      · exact ⟨[], false, rfl, rfl, by simp⟩
      simp only [Bool.not_true, cond_false, cond_true]
      have hne : 1 ≤ xs.length := by
        unfold lineOk at hk
        simp only [Bool.and_eq_true] at hk
        have := within_iff.1 hk.1
        omega
      match ys, hl, ha, hy with
      | [], hl, _, _ => simp at hl; omega
      | y :: l, hl, ha, hy =>
        rw [l02Greatest_eq hN (x := y) (l := l) (by omega), slicesMax_eq hN (x := y) (l := l) (by omega)]
        simp only [Option.bind_some]
        have hb : ∀ v ∈ y :: l, 0 ≤ v ∧ v ≤ 11 := fun v hv => within_iff.1 (List.all_eq_true.1 ha v hv)
        have hg := foldImax_ge l y
        have hle := foldImax_le (c := 11) l y (hb y List.mem_cons_self).2 (fun v hv => (hb v (List.mem_cons_of_mem _ hv)).2)
        have h0 := (hb y List.mem_cons_self).1
        have hm : ∀ v ∈ y :: l, v ≤ l.foldl imax y := fun v hv => by
          rcases List.mem_cons.1 hv with rfl | hv
          · exact hg.1
          · exact hg.2 v hv
        generalize l.foldl imax y = g at hg hle hm
        rw [w64_in (n := g + 1) (by omega), mkOk_of (by omega), cond_true, cond_true]
        have hr := loop_rel (ρ := List Int × Bool × Unit) (I := fun (s t : List Int × Int × Unit) => s = t ∧ 0 ≤ s.2.1 ∧ s.2.1 ≤ xs.length ∧ s.1.length = (g + 1).toNat) (μ := fun s => (xs.length - s.2.1).toNat) (Q := fun r => r.1.length ≤ 1048576)
          (A := fun (s8 : List (Int) × Int × Unit) next9 =>
              cond (decide (s8.2.1 < (List.length xs : Int)))
                (Option.bind (idx (y :: l) s8.2.1) fun v10 =>
                cond (inB v10 (List.length s8.1))
                  (Option.bind (s8.1[(Int.toNat v10)]?) fun v11 =>
                  Option.bind (idx xs s8.2.1) fun v12 =>
                  cond (inB v10 (List.length s8.1))
                    (let xs13 := (List.set s8.1 (Int.toNat v10) (w64 (v11 + v12)))
                    next9 (xs13, (w64 (s8.2.1 + 1)), ())) none) none)
                (some (s8.1, true, ())))
          (B := fun (s5 : List (Int) × Int × Unit) next6 =>
            cond (decide (s5.2.1 < (List.length (y :: l) : Int)))
              (Option.bind (idx (y :: l) s5.2.1) fun v7 =>
              cond (inB v7 (List.length s5.1))
                (Option.bind (s5.1[(Int.toNat v7)]?) fun v8 =>
                Option.bind (idx xs s5.2.1) fun v9 =>
                cond (inB v7 (List.length s5.1))
                  (let xs10 := (List.set s5.1 (Int.toNat v7) (w64 (v8 + v9)))
                  next6 (xs10, (w64 (s5.2.1 + 1)), ())) none) none)
              (some (s5.1, true, ())))
          (by
            rintro ⟨a, i, u⟩ _ nA nB ⟨rfl, h1, h2, h3⟩ hn
            simp only at h1 h2 h3 ⊢
            rw [hl]
            by_cases hi : i < (xs.length : Int)
            · have hv := hb ((y :: l).getD i.toNat 0) (getD_mem (by omega))
              have hv2 := hm ((y :: l).getD i.toNat 0) (getD_mem (by omega))
              simp only [hi, decide_true, cond_true, idx_getD (xs := y :: l) (n := i) (by omega), idx_getD (xs := xs) (n := i) (by omega), Option.bind_some, inB_of (n := (y :: l).getD i.toNat 0) (len := a.length) (by omega),
                get_getD 0 (xs := a) (n := ((y :: l).getD i.toNat 0).toNat) (by omega), w64_in (n := i + 1) (by omega)]
              exact hn _ _ ⟨rfl, by simp only; omega, by simp only; omega, by simp only [List.length_set]; exact h3⟩ (by simp only; omega)
            · simp only [hi, decide_false, cond_false]
              exact ⟨_, rfl, rfl, by simp only; omega⟩) N N (List.replicate (g + 1).toNat 0, 0, ()) (List.replicate (g + 1).toNat 0, 0, ()) ⟨rfl, Int.le_refl _, by simp only; omega, by simp⟩ (by simp only; omega) (by simp only; omega)
        obtain ⟨⟨out, b, u⟩, e1, e2, e3⟩ := hr
        exact ⟨out, b, e1, e2, e3⟩
    · intro s next h
      simp only [h, Int.lt_irrefl, decide_false, cond_false]
    · intro s next v g1 g2 g3 g4
      simp only [g2, decide_true, cond_true, g3, Option.bind_some, l00In_eq, g4]
      cases within 0 11 v <;> rfl
  · rw [show ((List.length ys : Int) != (List.length xs : Int)) = true by simp; omega, cond_true, show within (xs.length : Int) (xs.length : Int) (ys.length : Int) = false from by simp [within]; omega]
    exact ⟨[], false, rfl, rfl, by simp⟩

theorem FnExactLoadsOfLine_eq (xs ys : List Int) : laws_FnExactLoadsOfLine N xs ys = some (true, ()) := by
  unfold laws_FnExactLoadsOfLine
  by_cases hx : (xs.length : Int) > 1048576
  · simp only [hx, decide_true, cond_true]
  · by_cases hy : (ys.length : Int) > 1048576
    · simp only [hx, decide_false, cond_false, hy, decide_true, cond_true]
    · obtain ⟨a, b, h1, h2, h3⟩ := loads_eq hN (xs := xs) (ys := ys) (by omega) (by omega)
      simp only [hx, hy, decide_false, cond_false, toInt64S_eq hN (xs := xs) (by omega), toInt64S_eq hN (xs := ys) (by omega), Option.bind_some, h1, h2, eqInt64S_eq hN (xs := xs) (by omega), eqInt64S_eq hN (xs := ys) (by omega), eqInt64S_eq hN (xs := a) (by omega),
        BEq.rfl, Bool.not_true, bne_self_eq_false,
        markInt64S_eq hN (xs := xs) (k := 1) (by omega) (by omega), markInt64S_eq hN (xs := ys) (k := 1 + xs.length) (by omega) (by omega), markInt64S_eq hN (xs := a) (k := 1) (by omega) (by omega), heldInt64S_eq hN (xs := a) (k := 1) (by omega) (by omega), counted_len, Nat.beq_refl, cond_true,
        show ¬ ((1 : Int) + xs.length + ys.length < 0) by omega, show ¬ ((1 : Int) + a.length < 0) by omega]

theorem l04Counts_eq {xs : List Int} (hx : xs.length ≤ 1048576) : spec_l04Counts N xs = some (countsOk xs, ()) := by
  unfold spec_l04Counts countsOk
  simp only [l02Sum_eq hN (xs := xs) (by omega), Option.bind_some, l00In_eq]
  rw [all_loop hN (xs := xs) (by omega) (within 0 16) (some (false, ())) (some (within 1 8 xs.length && within 1 64 (sumW xs), ()))]
  · cases within 1 8 (List.length xs : Int) <;> cases xs.all (within 0 16) <;> rfl
  · intro s next h
    simp only [h, Int.lt_irrefl, decide_false, cond_false, within]
    cases decide ((List.length xs : Int) ≥ 1) <;> cases decide ((List.length xs : Int) ≤ 8) <;> rfl
  · intro s next v g1 g2 g3 g4
    simp only [g2, decide_true, cond_true, g3, Option.bind_some, l00In_eq, g4]
    cases within 0 16 v <;> rfl

theorem areCounts_eq {xs : List Int} (hx : xs.length ≤ 1048576) : impl_areCounts N xs = some (countsOk xs, ()) := by
  unfold impl_areCounts countsOk
  rw [areMany_eq hN (by omega), sumOf_eq hN (by omega)]
  simp only [Option.bind_some, within_eq]
  cases within 1 8 (List.length xs : Int) <;> cases xs.all (within 0 16) <;> rfl

theorem mixed_eq {xs : List Int} (hx : xs.length ≤ 1048576) : ∃ l b, spec_MixedOrder N xs = some (l, b, ()) ∧ impl_MixedOrder N xs = some (l, b, ()) ∧ l.length ≤ 1048576 := by
  unfold spec_MixedOrder impl_MixedOrder
  simp only [l04Counts_eq hN hx, areCounts_eq hN hx, l02Sum_eq hN (xs := xs) (by omega), sumOf_eq hN (xs := xs) (by omega), Option.bind_some]
  cases hc : countsOk xs
  · exact ⟨[], false, rfl, rfl, by simp⟩
  unfold countsOk at hc
  simp only [Bool.and_eq_true] at hc
  obtain ⟨c1, c2, c3⟩ := hc
  have c1 := within_iff.1 c1
  have c3 := within_iff.1 c3
  have hv : ∀ v ∈ xs, 0 ≤ v ∧ v ≤ 16 := fun v hv => within_iff.1 (List.all_eq_true.1 c2 v hv)
  have hsum : sumW xs = xs.sum := by
    unfold sumW
    rw [foldW_small xs 0 (Int.le_refl _) (by omega) hv]
    omega
  simp only [Bool.not_true, cond_false]
  rw [mkOk_of (by omega), cond_true, cond_true, hsum]
  rw [hsum] at c3
  obtain ⟨n, hns⟩ : ∃ n, n = xs.sum := ⟨_, rfl⟩
  rw [← hns]
  rw [← hns] at c3
  have hr := loop_rel (ρ := List Int × Bool × Unit) (I := fun (s t : List Int × List Int × Int × Unit) => s = t ∧ 1 ≤ s.2.2.1 ∧ s.2.2.1 ≤ n + 1 ∧ s.1.length = xs.length ∧ (s.2.1.length : Int) = s.2.2.1 - 1 ∧ s.1.sum = s.2.2.1 - 1 ∧
      ∀ j, 0 ≤ s.1.getD j 0 ∧ s.1.getD j 0 ≤ xs.getD j 0) (μ := fun s => (n + 1 - s.2.2.1).toNat) (Q := fun r => r.1.length ≤ 1048576)
    (A := fun (s4 : List (Int) × List (Int) × Int × Unit) next5 =>
        cond (decide (s4.2.2.1 ≤ n))
          (loopN (fun (s6 : Int × Int × Unit) next7 =>
            cond (decide (s6.2.1 < (List.length xs : Int)))
              (cond (inB s6.2.1 (List.length s4.1))
                (Option.bind (s4.1[(Int.toNat s6.2.1)]?) fun v8 =>
                Option.bind (idx xs s6.2.1) fun v9 =>
                cond (decide (v8 < v9))
                  (cond (decide (s6.1 < 0))
                    (next7 (s6.2.1, (w64 (s6.2.1 + 1)), ()))
                    (Option.bind (idx xs s6.2.1) fun v10 =>
                    cond (inB s6.2.1 (List.length s4.1))
                      (Option.bind (s4.1[(Int.toNat s6.2.1)]?) fun v11 =>
                      Option.bind (idx xs s6.1) fun v12 =>
                      cond (inB s6.1 (List.length s4.1))
                        (Option.bind (s4.1[(Int.toNat s6.1)]?) fun v13 =>
                        cond (decide ((w64 ((w64 (s4.2.2.1 * v10)) - (w64 (n * v11)))) > (w64 ((w64 (s4.2.2.1 * v12)) - (w64 (n * v13))))))
                          (next7 (s6.2.1, (w64 (s6.2.1 + 1)), ()))
                          (next7 (s6.1, (w64 (s6.2.1 + 1)), ()))) none) none))
                  (next7 (s6.1, (w64 (s6.2.1 + 1)), ()))) none)
              (cond (inB s6.1 (List.length s4.1))
                (Option.bind (s4.1[(Int.toNat s6.1)]?) fun v14 =>
                cond (inB s6.1 (List.length s4.1))
                  (let xs15 := (List.set s4.1 (Int.toNat s6.1) (w64 (v14 + 1)))
                  cond (appOk (List.length s4.2.1) (List.length ([s6.1] : List Int)))
                    (let xs16 := (s4.2.1 ++ ([s6.1] : List Int))
                    next5 (xs15, xs16, (w64 (s4.2.2.1 + 1)), ())) none) none) none)) N ((-1), 0, ()))
          (some (s4.2.1, true, ())))
    (B := fun (s4 : List (Int) × List (Int) × Int × Unit) next5 =>
        cond (decide (s4.2.2.1 ≤ n))
          (loopN (fun (s6 : Int × Int × Int × Unit) next7 =>
            cond (decide (s6.2.2.1 < (List.length xs : Int)))
              (Option.bind (idx xs s6.2.2.1) fun v8 =>
              cond (inB s6.2.2.1 (List.length s4.1))
                (Option.bind (s4.1[(Int.toNat s6.2.2.1)]?) fun v9 =>
                cond (inB s6.2.2.1 (List.length s4.1))
                  (Option.bind (s4.1[(Int.toNat s6.2.2.1)]?) fun v10 =>
                  cond (decide (v10 < v8))
                    (cond (decide (s6.1 < 0))
                      (next7 (s6.2.2.1, (w64 ((w64 (s4.2.2.1 * v8)) - (w64 (n * v9)))), (w64 (s6.2.2.1 + 1)), ()))
                      (cond (decide ((w64 ((w64 (s4.2.2.1 * v8)) - (w64 (n * v9)))) > s6.2.1))
                        (next7 (s6.2.2.1, (w64 ((w64 (s4.2.2.1 * v8)) - (w64 (n * v9)))), (w64 (s6.2.2.1 + 1)), ()))
                        (next7 (s6.1, s6.2.1, (w64 (s6.2.2.1 + 1)), ()))))
                    (next7 (s6.1, s6.2.1, (w64 (s6.2.2.1 + 1)), ()))) none) none)
              (cond (inB s6.1 (List.length s4.1))
                (Option.bind (s4.1[(Int.toNat s6.1)]?) fun v11 =>
                cond (inB s6.1 (List.length s4.1))
                  (let xs12 := (List.set s4.1 (Int.toNat s6.1) (w64 (v11 + 1)))
                  cond (appOk (List.length s4.2.1) (List.length ([s6.1] : List Int)))
                    (let xs13 := (s4.2.1 ++ ([s6.1] : List Int))
                    next5 (xs12, xs13, (w64 (s4.2.2.1 + 1)), ())) none) none) none)) N ((-1), 0, 0, ()))
          (some (s4.2.1, true, ())))
    (by
      rintro ⟨bu, out, k, u⟩ _ nA nB ⟨rfl, h1, h2, h3, h4, h5, h6⟩ hn
      simp only at h1 h2 h3 h4 h5 h6 ⊢
      by_cases hk : k ≤ n
      · simp only [hk, decide_true, cond_true]
        have hcb : ∀ j, j < xs.length → xs.getD j 0 ≤ 16 := fun j hj => (hv _ (getD_mem hj)).2
        refine loop_rel (I := fun (s : Int × Int × Unit) (t : Int × Int × Int × Unit) => s.1 = t.1 ∧ s.2.1 = t.2.2.1 ∧ 0 ≤ s.2.1 ∧ s.2.1 ≤ xs.length ∧ s.1 < s.2.1 ∧
            (0 ≤ s.1 → bu.getD s.1.toNat 0 < xs.getD s.1.toNat 0 ∧ t.2.1 = w64 ((w64 (k * xs.getD s.1.toNat 0)) - (w64 (n * bu.getD s.1.toNat 0)))) ∧ (s.1 < 0 → ∀ j : Nat, (j : Int) < s.2.1 → xs.getD j 0 ≤ bu.getD j 0)) (μ := fun s => (xs.length - s.2.1).toNat)
          (Q := fun (r : List Int × Bool × Unit) => r.1.length ≤ 1048576) ?_ N N _ _ ⟨rfl, rfl, Int.le_refl _, by simp only; omega, by simp only; omega, fun h => by simp only at h; omega, fun _ j hj => by simp only at hj; omega⟩ (by simp only; omega) (by simp only; omega)
        rintro ⟨b, i, u1⟩ ⟨b', m, i', u2⟩ mA mB ⟨e1, e2, g1, g2, g3, g4, g5⟩ hm
        simp only at e1 e2 g1 g2 g3 g4 g5 ⊢
        subst e1
        subst e2
        by_cases hi : i < (xs.length : Int)
        · simp only [hi, decide_true, cond_true, inB_of (n := i) (len := bu.length) (by omega), get_getD 0 (xs := bu) (n := i.toNat) (by omega), idx_getD (xs := xs) (n := i) (by omega), Option.bind_some, w64_in (n := i + 1) (by omega)]
          by_cases hlt : bu.getD i.toNat 0 < xs.getD i.toNat 0
          · simp only [hlt, decide_true, cond_true]
            by_cases hb : b < 0
            · simp only [hb, decide_true, cond_true]
              exact hm _ _ ⟨rfl, rfl, by simp only; omega, by simp only; omega, by simp only; omega, fun _ => ⟨hlt, rfl⟩, fun h => by simp only at h; omega⟩ (by simp only; omega)
            · simp only [hb, decide_false, cond_false, idx_getD (xs := xs) (n := b) (by omega), inB_of (n := b) (len := bu.length) (by omega), get_getD 0 (xs := bu) (n := b.toNat) (by omega), Option.bind_some, cond_true]
              obtain ⟨q1, q2⟩ := g4 (by omega)
              rw [q2]
              cases hd : decide ((w64 ((w64 (k * xs.getD i.toNat 0)) - (w64 (n * bu.getD i.toNat 0)))) > (w64 ((w64 (k * xs.getD b.toNat 0)) - (w64 (n * bu.getD b.toNat 0)))))
              · simp only [cond_false]
                exact hm _ _ ⟨rfl, rfl, by simp only; omega, by simp only; omega, by simp only; omega, fun _ => ⟨q1, rfl⟩, fun h => by simp only at h; omega⟩ (by simp only; omega)
              · simp only [cond_true]
                exact hm _ _ ⟨rfl, rfl, by simp only; omega, by simp only; omega, by simp only; omega, fun _ => ⟨hlt, rfl⟩, fun h => by simp only at h; omega⟩ (by simp only; omega)
          · simp only [hlt, decide_false, cond_false]
            refine hm _ _ ⟨rfl, rfl, by simp only; omega, by simp only; omega, by simp only; omega, g4, fun h j hj => ?_⟩ (by simp only; omega)
            simp only at h hj
            by_cases hj2 : j = i.toNat
            · subst hj2; omega
            · exact g5 h j (by omega)
        · simp only [hi, decide_false, cond_false]
          have hb0 : 0 ≤ b := by
            rcases Int.lt_or_le b 0 with hb | hb
            · exfalso
              have := sum_le (a := bu) (b := xs) h3 (fun j => by
                rcases Nat.lt_or_ge j xs.length with hj | hj
                · exact g5 hb j (by omega)
                · rw [List.getD_eq_getElem?_getD, List.getElem?_eq_none hj]
                  exact (h6 j).1)
              omega
            · exact hb
          obtain ⟨q1, _⟩ := g4 hb0
          have hcb := hcb b.toNat (by omega)
          simp only [inB_of (n := b) (len := bu.length) (by omega), get_getD 0 (xs := bu) (n := b.toNat) (by omega), Option.bind_some, cond_true, w64_in (n := k + 1) (by omega), w64_in (n := bu.getD b.toNat 0 + 1) (by have := (h6 b.toNat).1; omega),
            appOk_of (n := out.length) (m := ([b] : List Int).length) (by simp; omega)]
          refine hn _ _ ⟨rfl, by simp only; omega, by simp only; omega, by simp only [List.length_set]; exact h3, by simp; omega, ?_, fun j => ?_⟩ (by simp only; omega)
          · simp only
            rw [sum_set (by omega)]
            omega
          · simp only
            rw [getD_set' (by omega)]
            have := h6 j
            split
            · rename_i he
              subst he
              omega
            · exact this
      · simp only [hk, decide_false, cond_false]
        exact ⟨_, rfl, rfl, by simp only; omega⟩) N N (List.replicate (Int.toNat (List.length xs : Int)) 0, [], 1, ()) (List.replicate (Int.toNat (List.length xs : Int)) 0, [], 1, ())
    ⟨rfl, Int.le_refl _, by simp only; omega, by simp, by simp, by simp only; rw [sum_zero]; omega, fun j => by
      simp only
      rw [List.getD_eq_getElem?_getD, List.getElem?_replicate]
      by_cases hj : j < Int.toNat (List.length xs : Int)
      · rw [if_pos hj]
        exact ⟨Int.le_refl _, (hv _ (getD_mem (by omega))).1⟩
      · rw [if_neg hj, List.getD_eq_getElem?_getD, List.getElem?_eq_none (by omega)]
        exact ⟨Int.le_refl _, Int.le_refl _⟩⟩ (by simp only; omega) (by simp only; omega)
  obtain ⟨⟨out, b, u⟩, e1, e2, e3⟩ := hr
  exact ⟨out, b, e1, e2, e3⟩

theorem FnExactMixedOrder_eq (xs : List Int) : laws_FnExactMixedOrder N xs = some (true, ()) := by
  unfold laws_FnExactMixedOrder
  by_cases hx : (xs.length : Int) > 1048576
  · simp only [hx, decide_true, cond_true]
  · obtain ⟨a, b, h1, h2, h3⟩ := mixed_eq hN (xs := xs) (by omega)
    simp only [hx, decide_false, cond_false, toInt64S_eq hN (xs := xs) (by omega), Option.bind_some, h1, h2, eqInt64S_eq hN (xs := xs) (by omega), eqInt64S_eq hN (xs := a) (by omega), BEq.rfl, Bool.not_true, bne_self_eq_false,
      markInt64S_eq hN (xs := xs) (k := 1) (by omega) (by omega), markInt64S_eq hN (xs := a) (k := 1) (by omega) (by omega), heldInt64S_eq hN (xs := a) (k := 1) (by omega) (by omega), counted_len, Nat.beq_refl, cond_true,
      show ¬ ((1 : Int) + xs.length < 0) by omega, show ¬ ((1 : Int) + a.length < 0) by omega]
end

end Go.Proofs.Ytakmpiljijhcbaa
