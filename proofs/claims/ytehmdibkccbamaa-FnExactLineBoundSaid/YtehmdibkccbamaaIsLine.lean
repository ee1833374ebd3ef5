/-
  IsLine: the plain law. No condition.
-/
import Derived.Test.YtehmdibkccbamaaFun
import Derived.Test.YtehmdibkccbamaaFwU
namespace Go.Proofs.Ytehmdibkccbamaa
open Go Go.Proofs.Ytehmdibkccbamaa.Fw
set_option linter.unusedVariables false
set_option linter.unusedSimpArgs false

def within (lo hi v : Int) : Bool := decide (v ≥ lo) && decide (v ≤ hi)

theorem l00In_eq {N : Nat} (v lo hi : Int) : spec_l00In N v lo hi = some (within lo hi v, ()) := by
  unfold spec_l00In within
  cases decide (v ≥ lo) <;> rfl

theorem within_eq {N : Nat} (v lo hi : Int) : impl_within N v lo hi = some (within lo hi v, ()) := by
  unfold impl_within within
  cases decide (v ≥ lo) <;> rfl

section
variable {N : Nat} (hN : 9223372036854775808 ≤ N)
include hN

theorem toInt64S_eq {xs : List Int} (hx : xs.length ≤ 1048576) : laws_toInt64S N xs = some (xs, ()) := by
  unfold laws_toInt64S
  rw [mkOk_of (by omega)]
  exact copy_loop (xs := xs) (by omega) (by omega) (K := fun l => some (l, ()))

theorem eqInt64S_eq {xs : List Int} (hx : xs.length ≤ 1048576) : laws_eqInt64S N xs xs = some (true, ()) := by
  unfold laws_eqInt64S
  rw [show ((List.length xs : Int) != (List.length xs : Int)) = false by simp]
  have h := eq_loop (xs := xs) (ys := xs) (by omega) rfl (N := N) (by omega)
  simpa using h

theorem areWithin_eq {xs : List Int} (hx : xs.length ≤ 1048576) (lo hi : Int) : impl_areWithin N xs lo hi = some (xs.all (within lo hi), ()) := by
  unfold impl_areWithin
  exact loop_list (xs := xs) (i := fun s : Int × Unit => s.1) (f := fun l _ => some (l.all (within lo hi), ())) (inv := fun _ => True) (by omega)
    (fun s next _ h => by simp only [h, Int.lt_irrefl, decide_false, cond_false, List.all_nil])
    (fun s next v r _ h1 h2 h3 h4 h5 hn => by
      simp only [h2, decide_true, cond_true, h3, Option.bind_some, within_eq, h5, List.all_cons]
      cases within lo hi v
      · rfl
      · exact hn _ trivial rfl)
    (by omega) (s := (0, ())) trivial (Int.le_refl _) (by simp only; omega)

theorem areMany_eq {xs : List Int} (hx : xs.length ≤ 1048576) (a b lo hi : Int) : impl_areMany N xs a b lo hi = some (within a b xs.length && xs.all (within lo hi), ()) := by
  unfold impl_areMany
  rw [areWithin_eq hN hx]
  unfold within
  cases decide ((xs.length : Int) ≥ a) <;> cases decide ((xs.length : Int) ≤ b) <;> rfl

theorem areLine_eq {xs : List Int} (hx : xs.length ≤ 1048576) : impl_areLine N xs = some (within 1 12 xs.length && xs.all (within 1 10000), ()) := by
  unfold impl_areLine
  rw [areMany_eq hN hx]
  rfl

theorem l02Times_eq {xs : List Int} (hx : xs.length ≤ 1048576) : spec_l02Times N xs = some (xs.all (within 1 10000) && within 1 24 xs.length, ()) := by
  unfold spec_l02Times
  exact loop_list (xs := xs) (i := fun s : Int × Unit => s.1) (f := fun l _ => some (l.all (within 1 10000) && within 1 24 xs.length, ())) (inv := fun _ => True) (by omega)
    (fun s next _ h => by
      simp only [h, Int.lt_irrefl, decide_false, cond_false, List.all_nil, Bool.true_and, within]
      cases decide ((xs.length : Int) ≥ 1) <;> rfl)
    (fun s next v r _ h1 h2 h3 h4 h5 hn => by
      simp only [h2, decide_true, cond_true, h3, Option.bind_some, l00In_eq, h5, List.all_cons]
      cases within 1 10000 v
      · rfl
      · exact hn _ trivial rfl)
    (by omega) (s := (0, ())) trivial (Int.le_refl _) (by simp only; omega)

theorem l04Tasks_eq {xs : List Int} (hx : xs.length ≤ 1048576) : spec_l04Tasks N xs = some (within 1 12 xs.length && xs.all (within 1 10000), ()) := by
  unfold spec_l04Tasks
  rw [l02Times_eq hN hx]
  cases xs.all (within 1 10000)
  · simp
  · simp only [Option.bind_some, Bool.true_and, Bool.and_true, within]
    by_cases h1 : (xs.length : Int) ≥ 1 <;> by_cases h2 : (xs.length : Int) ≤ 12 <;> by_cases h3 : (xs.length : Int) ≤ 24 <;> simp only [h1, h2, h3, decide_true, decide_false, Bool.and_true, Bool.and_false, cond_true, cond_false, Bool.true_and, Bool.false_and] <;> omega

theorem isLine_eq {xs ys : List Int} (hx : xs.length ≤ 1048576) (hy : ys.length ≤ 1048576) : ∃ b, spec_IsLine N xs ys = some (b, ()) ∧ impl_IsLine N xs ys = some (b, ()) := by
  unfold spec_IsLine spec_l04Line impl_IsLine
  rw [l04Tasks_eq hN hx, areLine_eq hN hx]
  cases within 1 12 xs.length && xs.all (within 1 10000)
  · exact ⟨false, rfl, rfl⟩
  · simp only [Option.bind_some, Bool.not_true, cond_false]
    cases h : ((ys.length : Int) != (xs.length : Int))
    · simp only [cond_false]
      obtain ⟨r, h1, h2, _⟩ := loop_rel (I := fun (s t : Int × Unit) => s = t ∧ 0 ≤ s.1 ∧ s.1 ≤ ys.length) (μ := fun s => (ys.length - s.1).toNat) (Q := fun _ => True)
        (A := fun (s2 : Int × Unit) next3 => cond (decide (s2.1 < (List.length ys : Int)))
          (Option.bind (idx ys s2.1) fun v4 =>
          cond (decide ((IntKind.wrap .u64 s2.1) < 0)) none
            (Option.bind (spec_l00In N v4 0 (w64 ((ishl .i64 1 (IntKind.wrap .u64 s2.1)) - 1))) fun r5 =>
            cond (!r5.1)
              (some (false, ()))
              (next3 ((w64 (s2.1 + 1)), ()))))
          (some (true, ())))
        (B := fun (s2 : Int × Unit) next3 => cond (decide (s2.1 < (List.length ys : Int)))
          (Option.bind (idx ys s2.1) fun v4 =>
          cond (decide (s2.1 < 0)) none
            (Option.bind (impl_within N v4 0 (w64 ((ishl .i64 1 s2.1) - 1))) fun r5 =>
            cond (!r5.1)
              (some (false, ()))
              (next3 ((w64 (s2.1 + 1)), ()))))
          (some (true, ())))
        (by
          rintro s _ nA nB ⟨rfl, h0, hl⟩ hn
          by_cases hlt : s.1 < ys.length
          · have hu : IntKind.u64.wrap s.1 = s.1 := by rw [IntKind.wrap_u64]; omega
            have hw : w64 (s.1 + 1) = s.1 + 1 := w64_in (by omega)
            have hz : decide (s.1 < 0) = false := by simpa using h0
            simp only [hlt, decide_true, cond_true, idx_some h0 hlt, Option.bind_some, hu, hz, cond_false, l00In_eq, within_eq, hw]
            cases within 0 (w64 (ishl .i64 1 s.1 - 1)) (ys[s.1.toNat]'(by omega))
            · exact ⟨_, rfl, rfl, trivial⟩
            · exact hn _ _ ⟨rfl, by simp only; omega, by simp only; omega⟩ (by simp only; omega)
          · simp only [hlt, decide_false, cond_false]
            exact ⟨_, rfl, rfl, trivial⟩)
        N N (0, ()) (0, ()) ⟨rfl, Int.le_refl _, by simp only; omega⟩ (by simp only; omega) (by simp only; omega)
      rw [h1, h2]
      exact ⟨r.1, rfl, rfl⟩
    · exact ⟨false, rfl, rfl⟩

theorem FnExactIsLine_eq (xs ys : List Int) : laws_FnExactIsLine N xs ys = some (true, ()) := by
  unfold laws_FnExactIsLine
  by_cases hx : (xs.length : Int) > 1048576
  · simp only [hx, decide_true, cond_true]
  · by_cases hy : (ys.length : Int) > 1048576
    · simp only [hx, hy, decide_true, decide_false, cond_true, cond_false]
    · obtain ⟨b, h1, h2⟩ := isLine_eq hN (xs := xs) (ys := ys) (by omega) (by omega)
      simp only [hx, hy, decide_false, cond_false, toInt64S_eq hN (xs := xs) (by omega), toInt64S_eq hN (xs := ys) (by omega), Option.bind_some, h1, h2, eqInt64S_eq hN (xs := xs) (by omega), eqInt64S_eq hN (xs := ys) (by omega), BEq.rfl, Bool.not_true]
end

end Go.Proofs.Ytehmdibkccbamaa
