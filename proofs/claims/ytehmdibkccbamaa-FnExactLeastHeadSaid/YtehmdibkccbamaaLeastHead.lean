/-
  LeastHead: the plain law. No condition.
-/
import Derived.Test.YtehmdibkccbamaaIsLine
namespace Go.Proofs.Ytehmdibkccbamaa
open Go Go.Proofs.Ytehmdibkccbamaa.Fw
set_option linter.unusedVariables false
set_option linter.unusedSimpArgs false

section
variable {N : Nat} (hN : 9223372036854775808 ≤ N)
include hN

theorem l05Runs_eq {xs : List Int} (hx : xs.length ≤ 1048576) : spec_l05Runs N xs = some (within 1 12 xs.length && xs.all (within 0 1000), ()) := by
  unfold spec_l05Runs
  have h := loop_list (body := fun (s1 : Int × Unit) next2 =>
    cond (decide (s1.1 < (List.length xs : Int)))
      (Option.bind (idx xs s1.1) fun v3 =>
      Option.bind (spec_l00In N v3 0 1000) fun r4 =>
      cond (!r4.1)
        (some (false, ()))
        (next2 ((w64 (s1.1 + 1)), ())))
      (cond (decide ((List.length xs : Int) ≥ 1))
        (some ((decide ((List.length xs : Int) ≤ 12)), ()))
        (some (false, ())))) (xs := xs) (i := fun s : Int × Unit => s.1) (f := fun l _ => some (l.all (within 0 1000) && within 1 12 xs.length, ())) (inv := fun _ => True) (by omega)
    (fun s next _ h => by
      simp only [h, Int.lt_irrefl, decide_false, cond_false, List.all_nil, Bool.true_and, within]
      cases decide ((xs.length : Int) ≥ 1) <;> rfl)
    (fun s next v r _ h1 h2 h3 h4 h5 hn => by
      simp only [h2, decide_true, cond_true, h3, Option.bind_some, l00In_eq, h5, List.all_cons]
      cases within 0 1000 v
      · rfl
      · exact hn _ trivial rfl)
    (N := N) (by omega) (s := (0, ())) trivial (Int.le_refl _) (by simp only; omega)
  rw [h, Bool.and_comm]
  rfl

theorem areRuns_eq {xs : List Int} (hx : xs.length ≤ 1048576) : impl_areRuns N xs = some (within 1 12 xs.length && xs.all (within 0 1000), ()) := by
  unfold impl_areRuns
  rw [areMany_eq hN hx]
  rfl

theorem leastHead_eq {xs ys : List Int} (hx : xs.length ≤ 1048576) (hy : ys.length ≤ 1048576) : ∃ a b, spec_LeastHead N xs ys = some (a, b, ()) ∧ impl_LeastHead N xs ys = some (a, b, ()) := by
  unfold spec_LeastHead impl_LeastHead
  rw [l05Runs_eq hN hx, l05Runs_eq hN hy, areRuns_eq hN hx, areRuns_eq hN hy]
  cases h1 : within 1 12 xs.length && xs.all (within 0 1000)
  · exact ⟨0, false, rfl, rfl⟩
  · cases h2 : within 1 12 ys.length && ys.all (within 0 1000)
    · exact ⟨0, false, rfl, rfl⟩
    · simp only [Option.bind_some, Bool.not_true, cond_false]
      cases h : ((xs.length : Int) != (ys.length : Int))
      · simp only [within, Bool.and_eq_true, decide_eq_true_eq, List.all_eq_true] at h1 h2
        have hl : xs.length = ys.length := by
          simp only [bne_eq_false_iff_eq] at h
          omega
        have h0 : 0 < xs.length := by omega
        rw [show idx xs 0 = some xs[0] from idx_some (Int.le_refl 0) (by omega)]
        simp only [cond_false, Option.bind_some]
        have bx : ∀ (n : Nat) (hn : n < xs.length), 0 ≤ xs[n] ∧ xs[n] ≤ 1000 := fun n hn => ⟨(h1.2 _ (List.getElem_mem hn)).1, (h1.2 _ (List.getElem_mem hn)).2⟩
        have by' : ∀ (n : Nat) (hn : n < ys.length), 0 ≤ ys[n] ∧ ys[n] ≤ 1000 := fun n hn => ⟨(h2.2 _ (List.getElem_mem hn)).1, (h2.2 _ (List.getElem_mem hn)).2⟩
        obtain ⟨r, k1, k2, _⟩ := loop_rel (ρ := Int × Bool × Unit) (σ := Int × Int × Int × Unit) (τ := Int × Int × Int × Int × Unit)
          (I := fun s t => s.2.2.1 = t.2.2.2.1 ∧ 0 ≤ s.2.2.1 ∧ s.2.2.1 ≤ xs.length ∧ s.2.1 = t.1 - t.2.1 ∧ 0 ≤ t.1 ∧ t.1 ≤ 1000 * s.2.2.1 ∧ 0 ≤ t.2.1 ∧ t.2.1 ≤ 1000 * s.2.2.1 ∧
            (s.2.2.1 = 0 → t.2.2.1 = xs[0] ∧ s.2.1 = 0) ∧ (s.2.2.1 ≠ 0 → s.1 = t.2.2.1)) (μ := fun s => (xs.length - s.2.2.1).toNat) (Q := fun _ => True)
          (A := fun s3 next4 => cond (decide (s3.2.2.1 < (List.length xs : Int)))
            (Option.bind (idx xs s3.2.2.1) fun v5 =>
            cond (s3.2.2.1 == 0)
              (Option.bind (idx ys s3.2.2.1) fun v6 =>
              next4 ((w64 (s3.2.1 + v5)), (w64 ((w64 (s3.2.1 + v5)) - v6)), (w64 (s3.2.2.1 + 1)), ()))
              (cond (decide ((w64 (s3.2.1 + v5)) > s3.1))
                (Option.bind (idx ys s3.2.2.1) fun v7 =>
                next4 ((w64 (s3.2.1 + v5)), (w64 ((w64 (s3.2.1 + v5)) - v7)), (w64 (s3.2.2.1 + 1)), ()))
                (Option.bind (idx ys s3.2.2.1) fun v8 =>
                next4 (s3.1, (w64 ((w64 (s3.2.1 + v5)) - v8)), (w64 (s3.2.2.1 + 1)), ()))))
            (some (s3.1, true, ())))
          (B := fun s4 next5 => cond (decide (s4.2.2.2.1 < (List.length xs : Int)))
            (Option.bind (idx xs s4.2.2.2.1) fun v6 =>
            Option.bind (idx ys s4.2.2.2.1) fun v7 =>
            next5 ((w64 (s4.1 + v6)), (w64 (s4.2.1 + v7)), (imax s4.2.2.1 (w64 ((w64 (s4.1 + v6)) - s4.2.1))), (w64 (s4.2.2.2.1 + 1)), ()))
            (some (s4.2.2.1, true, ())))
          (by
            rintro ⟨m, d, i, u⟩ ⟨p, q, m', i', u'⟩ nA nB ⟨e1, e2, e3, e4, e5, e6, e7, e8, e9, e10⟩ hn
            simp only at e1 e2 e3 e4 e5 e6 e7 e8 e9 e10 ⊢
            subst e1
            by_cases hlt : i < xs.length
            · have vx := bx i.toNat (by omega)
              have vy := by' i.toNat (by omega)
              simp only [hlt, decide_true, cond_true, idx_some e2 hlt, idx_some e2 (show i < ys.length by omega), Option.bind_some]
              generalize hgx : xs[i.toNat]'(by omega) = a at vx ⊢
              generalize ys[i.toNat]'(by omega) = b at vy ⊢
              rw [w64_in (n := i + 1) (by omega), w64_in (n := p + a) (by omega), w64_in (n := q + b) (by omega), w64_in (n := d + a) (by omega), w64_in (n := d + a - b) (by omega), w64_in (n := p + a - q) (by omega)]
              by_cases hi : i = 0
              · subst hi
                obtain ⟨f1, f2⟩ := e9 rfl
                have ha : a = xs[0] := hgx.symm
                rw [show ((0 : Int) == 0) = true from rfl, cond_true]
                refine hn _ _ ⟨rfl, ?_, ?_, ?_, ?_, ?_, ?_, ?_, ?_, ?_⟩ ?_ <;> simp only <;> try omega
                intro _
                unfold imax
                split <;> omega
              · have f1 := e10 hi
                rw [show (i == 0) = false by simpa using hi, cond_false]
                by_cases hm : d + a > m
                · rw [show decide (d + a > m) = true by simpa using hm, cond_true]
                  refine hn _ _ ⟨rfl, ?_, ?_, ?_, ?_, ?_, ?_, ?_, ?_, ?_⟩ ?_ <;> simp only <;> try omega
                  intro _
                  unfold imax
                  split <;> omega
                · rw [show decide (d + a > m) = false by simpa using hm, cond_false]
                  refine hn _ _ ⟨rfl, ?_, ?_, ?_, ?_, ?_, ?_, ?_, ?_, ?_⟩ ?_ <;> simp only <;> try omega
                  intro _
                  unfold imax
                  split <;> omega
            · simp only [hlt, decide_false, cond_false]
              have := e10 (by omega)
              subst this
              exact ⟨_, rfl, rfl, trivial⟩)
          N N (0, 0, 0, ()) (0, 0, xs[0], 0, ()) (by refine ⟨rfl, ?_, ?_, ?_, ?_, ?_, ?_, ?_, fun _ => ⟨rfl, rfl⟩, fun h => absurd rfl h⟩ <;> simp only <;> omega) (by simp only; omega) (by simp only; omega)
        rw [k1, k2]
        exact ⟨r.1, r.2.1, rfl, rfl⟩
      · exact ⟨0, false, rfl, rfl⟩

theorem FnExactLeastHead_eq (xs ys : List Int) : laws_FnExactLeastHead N xs ys = some (true, ()) := by
  unfold laws_FnExactLeastHead
  by_cases hx : (xs.length : Int) > 1048576
  · simp only [hx, decide_true, cond_true]
  · by_cases hy : (ys.length : Int) > 1048576
    · simp only [hx, hy, decide_true, decide_false, cond_true, cond_false]
    · obtain ⟨a, b, h1, h2⟩ := leastHead_eq hN (xs := xs) (ys := ys) (by omega) (by omega)
      simp only [hx, hy, decide_false, cond_false, toInt64S_eq hN (xs := xs) (by omega), toInt64S_eq hN (xs := ys) (by omega), Option.bind_some, h1, h2, eqInt64S_eq hN (xs := xs) (by omega), eqInt64S_eq hN (xs := ys) (by omega), BEq.rfl, Bool.not_true, bne_self_eq_false]
end

end Go.Proofs.Ytehmdibkccbamaa
