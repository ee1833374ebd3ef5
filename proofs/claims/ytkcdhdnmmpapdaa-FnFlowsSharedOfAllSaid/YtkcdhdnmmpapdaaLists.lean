/-
  Lists of lists: their copies and their equality. No condition.
-/
import Derived.Test.YtkcdhdnmmpapdaaLoads
namespace Go.Proofs.Ytkcdhdnmmpapdaa
open Go Go.Proofs.Ytkcdhdnmmpapdaa.Fw
set_option linter.unusedVariables false
set_option linter.unusedSimpArgs false

theorem smallLL_of {xs : List (List Int)} (h : Wf (.sl (.sl (.int .i64))) xs) : xs.length ≤ 9223372036854775807 ∧ ∀ l ∈ xs, l.length ≤ 9223372036854775807 := ⟨h.1, fun l hl => (h.2 l hl).1⟩

theorem smallL_of {xs : List (List Int)} (h : Wf (.sl (.sl (.int .i64))) xs) : ∀ l ∈ xs, l.length ≤ 9223372036854775807 := fun l hl => (h.2 l hl).1

section
variable {N : Nat} (hN : 9223372036854775808 ≤ N)
include hN

theorem szS_gen {xs : List Int} {k : Int} (hx : xs.length ≤ 9223372036854775807) (hk : 0 ≤ k ∧ k ≤ 1048576) :
    laws_szInt64S N xs k = some (-1, ()) ∨ (laws_szInt64S N xs k = some (k - xs.length, ()) ∧ (xs.length : Int) ≤ k) := by
  have _ := hN
  unfold laws_szInt64S
  rw [w64_in (n := k - (xs.length : Int)) (by omega)]
  by_cases h : k - (xs.length : Int) < 0
  · exact .inl (by simp [h])
  · exact .inr ⟨by simp [h], by omega⟩

theorem szSS_eq {ls : List (List Int)} (h0 : ls.length ≤ 9223372036854775807) (hx : ∀ l ∈ ls, l.length ≤ 9223372036854775807) :
    laws_szInt64SS N ls 1048576 = some (-1, ()) ∨ ∃ r : Int, laws_szInt64SS N ls 1048576 = some (r, ()) ∧ 0 ≤ r ∧ ls.length ≤ 1048576 ∧ ∀ l ∈ ls, l.length ≤ 1048576 := by
  unfold laws_szInt64SS
  rw [w64_in (n := 1048576 - (ls.length : Int)) (by omega)]
  by_cases h : (1048576 : Int) - (ls.length : Int) < 0
  · exact .inl (by simp [h])
  · simp only [h, decide_false, cond_false]
    refine loop_inv (Q := fun o : Option (Int × Unit) => o = some (-1, ()) ∨ ∃ r, o = some (r, ()) ∧ 0 ≤ r ∧ ls.length ≤ 1048576 ∧ ∀ l ∈ ls, l.length ≤ 1048576)
      (inv := fun s : Int × Int × Unit => 0 ≤ s.1 ∧ s.1 ≤ 1048576 ∧ 0 ≤ s.2.1 ∧ s.2.1 ≤ ls.length ∧ ∀ j : Nat, (j : Int) < s.2.1 → (ls.getD j []).length ≤ 1048576)
      (μ := fun s => (ls.length - s.2.1).toNat) ?_ N _ ⟨by simp only; omega, by simp only; omega, Int.le_refl _, by simp only; omega, fun j hj => by simp only at hj; omega⟩ (by simp only; omega)
    rintro ⟨a, i, u⟩ next ⟨h1, h2, h3, h4, h5⟩ hn
    simp only at h1 h2 h3 h4 h5 ⊢
    by_cases hi : i < (ls.length : Int)
    · have hlt : i.toNat < ls.length := by omega
      simp only [hi, decide_true, cond_true, idx_get [] ⟨h3, hi⟩, Option.bind_some]
      rcases szS_gen hN (xs := ls.getD i.toNat []) (k := a) (hx _ (List.mem_of_getElem? (get_getD [] hlt))) ⟨h1, h2⟩ with e | ⟨e, g1⟩
      · exact .inl (by rw [e]; rfl)
      · simp only [e, Option.bind_some, show decide (a - ((ls.getD i.toNat []).length : Int) < 0) = false from decide_eq_false (by omega), cond_false, w64_in (n := i + 1) (by omega)]
        refine hn _ ⟨by simp only; omega, by simp only; omega, by simp only; omega, by simp only; omega, fun j hj => ?_⟩ (by simp only; omega)
        simp only at hj
        by_cases hj2 : j = i.toNat
        · subst hj2
          omega
        · exact h5 j (by omega)
    · simp only [hi, decide_false, cond_false]
      refine .inr ⟨a, rfl, h1, by omega, fun t ht => ?_⟩
      obtain ⟨j, hj, rfl⟩ := List.getElem_of_mem ht
      have := h5 j (by omega)
      simpa [hj] using this

theorem toSS_eq {ls : List (List Int)} (h0 : ls.length ≤ 1048576) (h : ∀ l ∈ ls, l.length ≤ 1048576) : laws_toInt64SS N ls = some (ls, ()) := by
  unfold laws_toInt64SS
  rw [mkOk_of (by omega)]
  refine copy_gen hN (xs := ls) (by omega) (K := fun l => some (l, ())) (fun s next e => ?_) (fun s next v g1 g2 g3 g4 g5 => ?_)
  · simp only [e, Int.lt_irrefl, decide_false, cond_false]
  · have := h v g2
    simp only [g1, decide_true, cond_true, g3, Option.bind_some, toInt64S_eq hN (xs := v) (by omega), g4, g5]

theorem eqSS_eq {ls : List (List Int)} (h0 : ls.length ≤ 1048576) (h : ∀ l ∈ ls, l.length ≤ 1048576) : laws_eqInt64SS N ls ls = some (true, ()) := by
  unfold laws_eqInt64SS
  rw [show ((List.length ls : Int) != (List.length ls : Int)) = false by simp, cond_false]
  rw [all_loop hN (xs := ls) (by omega) (fun _ => true) (some (false, ())) (some (true, ()))]
  · rw [List.all_eq_true.2 (fun _ _ => rfl)]
    rfl
  · intro s next e
    simp only [e, Int.lt_irrefl, decide_false, cond_false]
  · intro s next v g1 g2 g3 g4
    have hv : v ∈ ls := by
      rw [show s.1 = ((s.1.toNat : Nat) : Int) by omega, idx_nat] at g3
      exact List.mem_of_getElem? g3
    have := h v hv
    simp only [g2, decide_true, cond_true, g3, Option.bind_some, eqInt64S_eq hN (xs := v) (by omega), g4, Bool.not_true, cond_false]

theorem sameInts_eq {xs : List Int} (hx : xs.length ≤ 4294967296) : laws_sameInts N xs xs = some (true, ()) := by
  have e : laws_sameInts N xs xs = laws_eqInt64S N xs xs := rfl
  rw [e, eqInt64S_eq hN hx]
end

end Go.Proofs.Ytkcdhdnmmpapdaa
