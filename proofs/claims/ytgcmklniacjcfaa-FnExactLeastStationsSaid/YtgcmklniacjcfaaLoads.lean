/-
  LoadsOfLine and MixedOrder: the plain laws. No condition.
-/
import Derived.Test.YtgcmklniacjcfaaPTask
namespace Go.Proofs.Ytgcmklniacjcfaa
open Go Go.Proofs.Ytgcmklniacjcfaa.Fw
set_option linter.unusedVariables false
set_option linter.unusedSimpArgs false

def lineOk (xs : List Int) : Bool := within 1 12 xs.length && xs.all (within 1 10000)

def countsOk (xs : List Int) : Bool := within 1 8 xs.length && (xs.all (within 0 16) && within 1 64 (sumW xs))

theorem foldImax_ge : ∀ (l : List Int) (m : Int), m ≤ l.foldl imax m ∧ ∀ v ∈ l, v ≤ l.foldl imax m
  | [], m => ⟨Int.le_refl _, fun v hv => by cases hv⟩
  | x :: l, m => by
    obtain ⟨h1, h2⟩ := foldImax_ge l (imax m x)
    have h3 : m ≤ imax m x ∧ x ≤ imax m x := by unfold imax; split <;> omega
    refine ⟨Int.le_trans h3.1 h1, fun v hv => ?_⟩
    rcases List.mem_cons.1 hv with rfl | hv
    · exact Int.le_trans h3.2 h1
    · exact h2 v hv

theorem foldImax_le {c : Int} : ∀ (l : List Int) (m : Int), m ≤ c → (∀ v ∈ l, v ≤ c) → l.foldl imax m ≤ c
  | [], m, h, _ => h
  | x :: l, m, h, hl => foldImax_le l (imax m x) (by
      have := hl x List.mem_cons_self
      unfold imax
      split <;> omega) (fun v hv => hl v (List.mem_cons_of_mem _ hv))

theorem sum_le : ∀ {a b : List Int}, a.length = b.length → (∀ j, b.getD j 0 ≤ a.getD j 0) → b.sum ≤ a.sum
  | [], [], _, _ => Int.le_refl _
  | [], _ :: _, h, _ => by simp at h
  | _ :: _, [], h, _ => by simp at h
  | x :: a, y :: b, h, hl => by
    have h1 := hl 0
    have h2 := sum_le (a := a) (b := b) (by simpa using h) (fun j => by simpa using hl (j + 1))
    simp only [List.getD_cons_zero] at h1
    simp only [List.sum_cons]
    omega

theorem sum_set : ∀ {a : List Int} {i : Nat}, i < a.length → (a.set i (a.getD i 0 + 1)).sum = a.sum + 1
  | [], i, h => by simp at h
  | x :: a, 0, h => by
    simp only [List.set_cons_zero, List.getD_cons_zero, List.sum_cons]
    omega
  | x :: a, i + 1, h => by
    have := sum_set (a := a) (i := i) (by simpa using h)
    simp only [List.set_cons_succ, List.getD_cons_succ, List.sum_cons]
    omega

theorem sum_zero (n : Nat) : (List.replicate n (0 : Int)).sum = 0 := by
  induction n with
  | zero => rfl
  | succ n ih => rw [List.replicate_succ, List.sum_cons, ih]; rfl

theorem foldW_small : ∀ (l : List Int) (acc : Int), 0 ≤ acc → acc + 16 * l.length ≤ 1000000 → (∀ v ∈ l, 0 ≤ v ∧ v ≤ 16) → l.foldl (fun a v => w64 (a + v)) acc = acc + l.sum
  | [], acc, _, _, _ => by simp
  | x :: l, acc, h0, h, hl => by
    have hx := hl x List.mem_cons_self
    simp only [List.length_cons] at h
    rw [List.foldl_cons, w64_in (n := acc + x) (by omega), foldW_small l (acc + x) (by omega) (by omega) (fun v hv => hl v (List.mem_cons_of_mem _ hv)), List.sum_cons]
    omega

theorem getD_set' {xs : List Int} {i j : Nat} {v : Int} (hi : i < xs.length) : (xs.set i v).getD j 0 = if i = j then v else xs.getD j 0 := by
  rw [List.getD_eq_getElem?_getD, List.getElem?_set, List.getD_eq_getElem?_getD]
  by_cases h : i = j
  · subst h
    rw [if_pos rfl, if_pos rfl, if_pos hi]
    rfl
  · rw [if_neg h, if_neg h]

section
variable {N : Nat} (hN : 9223372036854775808 ≤ N)
include hN

theorem l04Tasks_eq {xs : List Int} (hx : xs.length ≤ 1048576) : spec_l04Tasks N xs = some (lineOk xs, ()) := by
  unfold spec_l04Tasks spec_l02Times lineOk
  rw [all_loop hN (xs := xs) (by omega) (within 1 10000) (some (false, ())) (cond (decide ((List.length xs : Int) ≥ 1)) (some ((decide ((List.length xs : Int) ≤ 24)), ())) (some (false, ())))]
  · by_cases h1 : (List.length xs : Int) ≥ 1
    · by_cases h2 : (List.length xs : Int) ≤ 12
      · rw [show within 1 12 (List.length xs : Int) = true from within_iff.2 ⟨h1, h2⟩, decide_eq_true h1, decide_eq_true h2, show decide ((List.length xs : Int) ≤ 24) = true from by simp; omega]
        cases xs.all (within 1 10000) <;> rfl
      · rw [show within 1 12 (List.length xs : Int) = false from by simp [within]; omega, decide_eq_true h1, decide_eq_false h2]
        cases decide ((List.length xs : Int) ≤ 24) <;> cases xs.all (within 1 10000) <;> rfl
    · rw [show within 1 12 (List.length xs : Int) = false from by simp [within]; omega, decide_eq_false h1]
      cases xs.all (within 1 10000) <;> rfl
  · intro s next h
    simp only [h, Int.lt_irrefl, decide_false, cond_false]
  · intro s next v g1 g2 g3 g4
    simp only [g2, decide_true, cond_true, g3, Option.bind_some, l00In_eq, g4]
    cases within 1 10000 v <;> rfl

theorem areLine_eq {xs : List Int} (hx : xs.length ≤ 1048576) : impl_areLine N xs = some (lineOk xs, ()) := by
  unfold impl_areLine lineOk
  rw [areMany_eq hN (by omega)]
  rfl

theorem l02Greatest_eq {x : Int} {l : List Int} (hx : (x :: l).length ≤ 4294967296) : spec_l02Greatest N (x :: l) = some (l.foldl imax x, ()) := by
  unfold spec_l02Greatest
  rw [show idx (x :: l) 0 = some x from rfl]
  simp only [Option.bind_some]
  have h := loop_list (ρ := Int × Unit) (σ := Int × Int × Unit) (body := fun (s2 : Int × Int × Unit) next3 =>
    cond (decide (s2.2.1 < (List.length (x :: l) : Int)))
      (Option.bind (idx (x :: l) s2.2.1) fun v4 =>
      Option.bind (spec_l00Max N s2.1 v4) fun r5 =>
      next3 (r5.1, (w64 (s2.2.1 + 1)), ()))
      (some (s2.1, ()))) (xs := x :: l) (i := fun s => s.2.1) (f := fun l s => some (l.foldl imax s.1, ())) (inv := fun _ => True) (by omega)
    (fun s next _ h => by simp only [h, Int.lt_irrefl, decide_false, cond_false, List.foldl_nil])
    (fun s next v r _ h1 h2 h3 h4 h5 hn => by
      simp only [h2, decide_true, cond_true, h3, Option.bind_some, h5, List.foldl_cons, l00Max_eq]
      exact hn _ trivial rfl)
    (N := N) (by omega) (s := (x, 1, ())) trivial (by simp) (by simp; omega)
  exact h

theorem slicesMax_eq {x : Int} {l : List Int} (hx : (x :: l).length ≤ 4294967296) : slices_Max_int64_int64 N (x :: l) = some (l.foldl imax x, ()) := by
  unfold slices_Max_int64_int64
  rw [show idx (x :: l) 0 = some x from rfl, show decide ((List.length (x :: l) : Int) < 1) = false from by simp; omega]
  simp only [Option.bind_some, cond_false]
  have h := loop_list (ρ := Int × Unit) (σ := Int × Int × Unit) (body := fun (s2 : Int × Int × Unit) next3 =>
    cond (decide (s2.2.1 < (List.length (x :: l) : Int)))
      (Option.bind (idx (x :: l) s2.2.1) fun v4 =>
      next3 ((imax s2.1 v4), (w64 (s2.2.1 + 1)), ()))
      (some (s2.1, ()))) (xs := x :: l) (i := fun s => s.2.1) (f := fun l s => some (l.foldl imax s.1, ())) (inv := fun _ => True) (by omega)
    (fun s next _ h => by simp only [h, Int.lt_irrefl, decide_false, cond_false, List.foldl_nil])
    (fun s next v r _ h1 h2 h3 h4 h5 hn => by
      simp only [h2, decide_true, cond_true, h3, Option.bind_some, h5, List.foldl_cons]
      exact hn _ trivial rfl)
    (N := N) (by omega) (s := (x, 1, ())) trivial (by simp) (by simp; omega)
  exact h


end

end Go.Proofs.Ytgcmklniacjcfaa
