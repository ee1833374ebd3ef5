/-
  Projects: the law CountWays. No condition.
-/
import Derived.Test.YtobgddikninjpaaProj2
import Derived.Test.YtobgddikninjpaaRep
namespace Go.Proofs.Ytobgddikninjpaa
open Go Go.Proofs.Ytobgddikninjpaa.Fw
set_option linter.unusedVariables false
set_option linter.unusedSimpArgs false

theorem fin_ib {A B : Option (Int × Bool × Unit)} (h : ∃ r, A = some r ∧ B = some r ∧ True) : ∃ i b, A = some (i, b, ()) ∧ B = some (i, b, ()) := by
  obtain ⟨⟨i, b, u⟩, h1, h2, _⟩ := h
  exact ⟨i, b, h1, h2⟩

section
variable {N : Nat} (hN : 9223372036854775808 ≤ N)
include hN

theorem CountWays_law {xs : List Tk} (h : Small 1048576 xs) : ∃ i b, spec_CountWays N xs = some (i, b, ()) ∧ impl_CountWays N xs = some (i, b, ()) := by
  unfold spec_CountWays impl_CountWays
  simp only [l03Are_eq hN h, AreTasks_eq hN h, Option.bind_some]
  cases ht : tasksOk xs
  · exact ⟨0, false, rfl, rfl⟩
  obtain ⟨f1, f2, f3⟩ := task_facts ht
  have hl := h.1
  simp only [Bool.not_true, cond_false]
  rw [mkOk_of (by omega), repeatB_eq hN (n := xs.length) (by omega)]
  simp only [cond_true, Option.bind_some, Int.toNat_natCast]
  refine fin_ib (loop_rel (I := fun s t : List Int × List Bool × Int × Unit => s.1 = t.1 ∧ s.2.2.1 = t.2.2.1 ∧ 0 ≤ s.2.2.1 ∧ s.2.2.1 ≤ xs.length ∧ s.1.length = xs.length ∧ s.2.1.length = xs.length ∧ t.2.1 = s.2.1.map not) (μ := fun s => (xs.length - s.2.2.1).toNat) (Q := fun _ : Int × Bool × Unit => True) ?_ N N _ _
    ⟨rfl, rfl, Int.le_refl _, by simp only; omega, by simp, by simp, by simp⟩ (by simp only; omega) (by simp only; omega))
  rintro ⟨w, n, i, u⟩ ⟨w', e, i', u'⟩ nA nB ⟨p1, p2, h1, h2, h3, h4, h5⟩ hn
  simp only at p1 p2 h1 h2 h3 h4 h5 ⊢
  subst p1 p2 h5
  by_cases hi : i < (xs.length : Int)
  · obtain ⟨k, rfl⟩ : ∃ k : Nat, i = (k : Int) := ⟨i.toNat, by omega⟩
    have hk : k < xs.length := by omega
    obtain ⟨_, _, _, _, f5, f6, _⟩ := f3 k hk
    have hks := h.get k
    simp only [hi, decide_true, cond_true, idx_at hk, Option.bind_some]
    cases (((xs.getD k NL).2.2.1.length : Int) == 0)
    · simp only [cond_false]
      · refine loop_rel (I := fun s t : List Int × List Bool × Int × Unit => s.1 = t.1 ∧ s.2.2.1 = t.2.2.1 ∧ 0 ≤ s.2.2.1 ∧ s.2.2.1 ≤ (xs.getD k NL).2.2.1.length ∧ s.1.length = xs.length ∧ s.2.1.length = xs.length ∧ t.2.1 = s.2.1.map not) (μ := fun s => ((xs.getD k NL).2.2.1.length - s.2.2.1).toNat) (Q := fun _ : Int × Bool × Unit => True) ?_ N N _ _
          ⟨rfl, rfl, Int.le_refl _, by simp only; omega, by simp [h3], h4, rfl⟩ (by simp only; omega) (by simp only; omega)
        rintro ⟨w, n, j, u⟩ ⟨w', e, j', u'⟩ mA mB ⟨p1, p2, g1, g2, g3, g4, g5⟩ hm
        simp only at p1 p2 g1 g2 g3 g4 g5 ⊢
        subst p1 p2 g5
        by_cases hj : j < ((xs.getD k NL).2.2.1.length : Int)
        · obtain ⟨q, rfl⟩ : ∃ q : Nat, j = (q : Int) := ⟨j.toNat, by omega⟩
          have hq : q < (xs.getD k NL).2.2.1.length := by omega
          have hb := f6 q hq
          simp only [hj, decide_true, cond_true, idx_at hk, idx_int hq, Option.bind_some, List.length_map, inB_of (n := (k : Int)) (len := w.length) (by omega), inB_of (n := (xs.getD k NL).2.2.1.getD q 0) (len := w.length) (by omega), inB_of (n := (xs.getD k NL).2.2.1.getD q 0) (len := n.length) (by omega), get_getD 0 (xs := w) (n := Int.toNat (k : Int)) (by omega),
            get_getD 0 (xs := w) (n := ((xs.getD k NL).2.2.1.getD q 0).toNat) (by omega), w64_in (n := (q : Int) + 1) (by omega)]
          exact hm _ _ ⟨rfl, rfl, by simp only; omega, by simp only; omega, by simp only [List.length_set]; exact g3, by simp only [List.length_set]; exact g4, by simp [List.map_set]⟩ (by simp only; omega)
        · simp only [hj, decide_false, cond_false, w64_in (n := (k : Int) + 1) (by omega)]
          exact hn _ _ ⟨rfl, rfl, by simp only; omega, by simp only; omega, g3, g4, rfl⟩ (by simp only; omega)
    · simp only [cond_true, inB_of (n := (k : Int)) (len := w.length) (by omega)]
      · refine loop_rel (I := fun s t : List Int × List Bool × Int × Unit => s.1 = t.1 ∧ s.2.2.1 = t.2.2.1 ∧ 0 ≤ s.2.2.1 ∧ s.2.2.1 ≤ (xs.getD k NL).2.2.1.length ∧ s.1.length = xs.length ∧ s.2.1.length = xs.length ∧ t.2.1 = s.2.1.map not) (μ := fun s => ((xs.getD k NL).2.2.1.length - s.2.2.1).toNat) (Q := fun _ : Int × Bool × Unit => True) ?_ N N _ _
          ⟨rfl, rfl, Int.le_refl _, by simp only; omega, by simp [h3], h4, rfl⟩ (by simp only; omega) (by simp only; omega)
        rintro ⟨w, n, j, u⟩ ⟨w', e, j', u'⟩ mA mB ⟨p1, p2, g1, g2, g3, g4, g5⟩ hm
        simp only at p1 p2 g1 g2 g3 g4 g5 ⊢
        subst p1 p2 g5
        by_cases hj : j < ((xs.getD k NL).2.2.1.length : Int)
        · obtain ⟨q, rfl⟩ : ∃ q : Nat, j = (q : Int) := ⟨j.toNat, by omega⟩
          have hq : q < (xs.getD k NL).2.2.1.length := by omega
          have hb := f6 q hq
          simp only [hj, decide_true, cond_true, idx_at hk, idx_int hq, Option.bind_some, List.length_map, inB_of (n := (k : Int)) (len := w.length) (by omega), inB_of (n := (xs.getD k NL).2.2.1.getD q 0) (len := w.length) (by omega), inB_of (n := (xs.getD k NL).2.2.1.getD q 0) (len := n.length) (by omega), get_getD 0 (xs := w) (n := Int.toNat (k : Int)) (by omega),
            get_getD 0 (xs := w) (n := ((xs.getD k NL).2.2.1.getD q 0).toNat) (by omega), w64_in (n := (q : Int) + 1) (by omega)]
          exact hm _ _ ⟨rfl, rfl, by simp only; omega, by simp only; omega, by simp only [List.length_set]; exact g3, by simp only [List.length_set]; exact g4, by simp [List.map_set]⟩ (by simp only; omega)
        · simp only [hj, decide_false, cond_false, w64_in (n := (k : Int) + 1) (by omega)]
          exact hn _ _ ⟨rfl, rfl, by simp only; omega, by simp only; omega, g3, g4, rfl⟩ (by simp only; omega)
  · simp only [hi, decide_false, cond_false, List.length_map, h4]
    refine loop_rel (I := fun s t : Int × Int × Unit => s = t ∧ 0 ≤ s.2.1 ∧ s.2.1 ≤ xs.length) (μ := fun s => (xs.length - s.2.1).toNat) (Q := fun _ : Int × Bool × Unit => True) ?_ N N _ _ ⟨rfl, Int.le_refl _, by simp only; omega⟩ (by simp only; omega) (by simp only; omega)
    rintro ⟨a, j, u⟩ _ mA mB ⟨rfl, g1, g2⟩ hm
    simp only at g1 g2 ⊢
    by_cases hj : j < (xs.length : Int)
    · have hjl : j.toNat < n.length := by omega
      have hmp : (n.map not)[j.toNat]? = some (!n.getD j.toNat false) := by
        rw [List.getElem?_map, get_getD false hjl]
        rfl
      simp only [hj, decide_true, cond_true, inB_of (n := j) (len := xs.length) (by omega), inB_of (n := j) (len := w.length) (by omega), get_getD false (xs := n) (n := j.toNat) hjl, hmp, get_getD 0 (xs := w) (n := j.toNat) (by omega), Option.bind_some, w64_in (n := j + 1) (by omega)]
      cases n.getD j.toNat false
      · exact hm _ _ ⟨rfl, by simp only; omega, by simp only; omega⟩ (by simp only; omega)
      · exact hm _ _ ⟨rfl, by simp only; omega, by simp only; omega⟩ (by simp only; omega)
    · simp only [hj, decide_false, cond_false]
      exact ⟨_, rfl, rfl, trivial⟩

theorem FnExactCountWays_eq (xs : List Tk) (hx : Small 9223372036854775807 xs) : laws_FnExactCountWays N xs = some (true, ()) := by
  unfold laws_FnExactCountWays
  rcases szTaskS_eq hN (k := 1048576) hx (by omega) with e | ⟨r, e, h1, h2, h3⟩
  · simp [e]
  obtain ⟨a0, a1, e1, e2⟩ := CountWays_law hN h3
  simp only [e, Option.bind_some, show decide (r < 0) = false from by simp; omega, cond_false, toTaskS_eq hN h3, e1, e2, eqTaskS_eq hN h3, bne_self_eq_false, BEq.rfl, Bool.not_true]
end

end Go.Proofs.Ytobgddikninjpaa
