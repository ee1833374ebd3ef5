/-
  AreArcs: the plain law. No condition.
-/
import Derived.Test.YtgbahgkfjghidaaMixedGap
namespace Go.Proofs.Ytgbahgkfjghidaa
open Go Go.Proofs.Ytgbahgkfjghidaa.Fw
set_option linter.unusedVariables false
set_option linter.unusedSimpArgs false

def arcOk (n : Int) (v : Int × Int × Int × Int) : Bool := within 0 (w64 (n - 1)) v.1 && (within 0 (w64 (n - 1)) v.2.1 && (within 0 1000 v.2.2.1 && within 0 10 v.2.2.2))

theorem eqArc_eq {N : Nat} (v : Int × Int × Int × Int) : laws_eqArc N v v = some (true, ()) := by
  unfold laws_eqArc
  simp only [bne_self_eq_false, cond_false]

section
variable {N : Nat} (hN : 9223372036854775808 ≤ N)
include hN

theorem toArcS_eq {xs : List (Int × Int × Int × Int)} (hx : xs.length ≤ 1048576) : laws_toArcS N xs = some (xs, ()) := by
  unfold laws_toArcS
  rw [mkOk_of (by omega)]
  exact copy_loop (xs := xs) (z := (0, 0, 0, 0)) (by omega) (by omega) (K := fun l => some (l, ()))

theorem eqArcS_eq {xs : List (Int × Int × Int × Int)} (hx : xs.length ≤ 1048576) : laws_eqArcS N xs xs = some (true, ()) := by
  unfold laws_eqArcS
  rw [show ((List.length xs : Int) != (List.length xs : Int)) = false by simp]
  exact loop_list (xs := xs) (i := fun s : Int × Unit => s.1) (f := fun _ _ => some (true, ())) (inv := fun _ => True) (by omega)
    (fun s next _ h => by simp only [h, Int.lt_irrefl, decide_false, cond_false])
    (fun s next v r _ h1 h2 h3 h4 h5 hn => by
      simp only [h2, decide_true, cond_true, h3, Option.bind_some, eqArc_eq, h5, Bool.not_true, cond_false]
      exact hn _ trivial rfl)
    (by omega) (s := (0, ())) trivial (Int.le_refl _) (by simp only; omega)

theorem l05Arcs_eq {n : Int} {xs : List (Int × Int × Int × Int)} (hx : xs.length ≤ 1048576) : spec_AreArcs N n xs = some (within 1 12 n && (within 1 32 xs.length && xs.all (arcOk n)), ()) := by
  have hl : loopN (fun (s2 : Int × Unit) next3 =>
          cond (decide (s2.1 < (List.length xs : Int)))
            (Option.bind (idx xs s2.1) fun v4 =>
            Option.bind (spec_l00In N v4.1 0 (w64 (n - 1))) fun r5 =>
            cond (!r5.1)
              (some (false, ()))
              (Option.bind (spec_l00In N v4.2.1 0 (w64 (n - 1))) fun r6 =>
              cond (!r6.1)
                (some (false, ()))
                (Option.bind (spec_l00In N v4.2.2.1 0 1000) fun r7 =>
                cond (!r7.1)
                  (some (false, ()))
                  (Option.bind (spec_l00In N v4.2.2.2 0 10) fun r8 =>
                  cond (!r8.1)
                    (some (false, ()))
                    (next3 ((w64 (s2.1 + 1)), ()))))))
            (some (true, ()))) N (0, ()) = some (xs.all (arcOk n), ()) :=
    loop_list (xs := xs) (i := fun s : Int × Unit => s.1) (f := fun l _ => some (l.all (arcOk n), ())) (inv := fun _ => True) (by omega)
      (fun s next _ h => by simp only [h, Int.lt_irrefl, decide_false, cond_false, List.all_nil])
      (fun s next v r _ h1 h2 h3 h4 h5 hn => by
        simp only [h2, decide_true, cond_true, h3, Option.bind_some, l00In_eq, h5, List.all_cons, arcOk]
        cases within 0 (w64 (n - 1)) v.1
        · rfl
        · cases within 0 (w64 (n - 1)) v.2.1
          · rfl
          · cases within 0 1000 v.2.2.1
            · rfl
            · cases within 0 10 v.2.2.2
              · rfl
              · exact hn _ trivial rfl)
      (by omega) (s := (0, ())) trivial (Int.le_refl _) (by simp only; omega)
  unfold spec_AreArcs spec_l05Arcs spec_l05Nodes
  rw [hl]
  simp only [l00In_eq, Option.bind_some]
  cases within 1 12 n
  · rfl
  · simp only [Bool.not_true, cond_false, within]
    by_cases h1 : (xs.length : Int) < 1
    · simp [h1, show ¬ (xs.length : Int) ≥ 1 by omega]
    · by_cases h2 : (xs.length : Int) > 32
      · simp [h1, h2, show ¬ (xs.length : Int) ≤ 32 by omega]
      · simp only [h1, h2, decide_false, cond_false, Option.bind_some, show decide ((xs.length : Int) ≥ 1) = true by simp; omega, show decide ((xs.length : Int) ≤ 32) = true by simp; omega, Bool.true_and]

theorem areArcs_eq {n : Int} {xs : List (Int × Int × Int × Int)} (hx : xs.length ≤ 1048576) : impl_AreArcs N n xs = some (within 1 12 n && (within 1 32 xs.length && xs.all (arcOk n)), ()) := by
  have hl := loop_list (body := fun (s1 : Int × Unit) next2 =>
    cond (decide (s1.1 < (List.length xs : Int)))
      (Option.bind (idx xs s1.1) fun v3 =>
      Option.bind (impl_within N v3.1 0 (w64 (n - 1))) fun r4 =>
      cond (!r4.1)
        (some (false, ()))
        (Option.bind (impl_within N v3.2.1 0 (w64 (n - 1))) fun r5 =>
        cond (!r5.1)
          (some (false, ()))
          (Option.bind (impl_within N v3.2.2.1 0 1000) fun r6 =>
          cond (!r6.1)
            (some (false, ()))
            (Option.bind (impl_within N v3.2.2.2 0 10) fun r7 =>
            cond (!r7.1)
              (some (false, ()))
              (next2 ((w64 (s1.1 + 1)), ()))))))
      (Option.bind (impl_areEvents N n) fun r8 =>
      cond r8.1
        (cond (decide ((List.length xs : Int) ≥ 1))
          (some ((decide ((List.length xs : Int) ≤ 32)), ()))
          (some (false, ())))
        (some (false, ())))) (xs := xs) (i := fun s : Int × Unit => s.1) (f := fun l _ => some (l.all (arcOk n) && (within 1 12 n && within 1 32 xs.length), ())) (inv := fun _ => True) (by omega)
      (fun s next _ h => by
        simp only [h, Int.lt_irrefl, decide_false, cond_false, List.all_nil, impl_areEvents, within_eq, Option.bind_some, Bool.true_and]
        cases within 1 12 n
        · rfl
        · simp only [within]
          cases decide ((xs.length : Int) ≥ 1) <;> rfl)
      (fun s next v r _ h1 h2 h3 h4 h5 hn => by
        simp only [h2, decide_true, cond_true, h3, Option.bind_some, within_eq, h5, List.all_cons, arcOk]
        cases within 0 (w64 (n - 1)) v.1
        · rfl
        · cases within 0 (w64 (n - 1)) v.2.1
          · rfl
          · cases within 0 1000 v.2.2.1
            · rfl
            · cases within 0 10 v.2.2.2
              · rfl
              · exact hn _ trivial rfl)
      (N := N) (by omega) (s := (0, ())) trivial (Int.le_refl _) (by simp only; omega)
  unfold impl_AreArcs
  refine hl.trans ?_
  simp only [Int.toNat_zero, List.drop_zero]
  cases xs.all (arcOk n) <;> cases within 1 12 n <;> cases within 1 32 xs.length <;> rfl

theorem FnExactAreArcs_eq (n : Int) (xs : List (Int × Int × Int × Int)) (hl : xs.length ≤ 9223372036854775807) : laws_FnExactAreArcs N n xs = some (true, ()) := by
  unfold laws_FnExactAreArcs laws_szArcS
  rw [w64_in (n := 1048576 - (xs.length : Int)) (by omega)]
  by_cases hx : (1048576 : Int) - (xs.length : Int) < 0
  · simp [hx]
  · simp only [hx, decide_false, cond_false, Option.bind_some, toArcS_eq hN (xs := xs) (by omega), l05Arcs_eq hN (xs := xs) (by omega), areArcs_eq hN (xs := xs) (by omega), eqArcS_eq hN (xs := xs) (by omega), BEq.rfl, Bool.not_true]
end

end Go.Proofs.Ytgbahgkfjghidaa
