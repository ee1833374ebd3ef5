/-
  Plans of tasks: ends, use of the crew, least starts; ProgressOf, CrewUse, IsCrewPlan. No condition.
-/
import Derived.Test.YtmdicmdodbndgaaPTask
namespace Go.Proofs.Ytmdicmdodbndgaa
open Go Go.Proofs.Ytmdicmdodbndgaa.Fw
set_option linter.unusedVariables false
set_option linter.unusedSimpArgs false

theorem task_facts {xs : List Tk} (h : tasksOk xs = true) : 1 ≤ xs.length ∧ xs.length ≤ 16 ∧ ∀ i, i < xs.length → 0 ≤ (xs.getD i NL).1 ∧ (xs.getD i NL).1 ≤ 100 ∧ 0 ≤ (xs.getD i NL).2.1 ∧ (xs.getD i NL).2.1 ≤ 20 ∧
    (xs.getD i NL).2.2.1.length = (xs.getD i NL).2.2.2.length ∧ (∀ k, k < (xs.getD i NL).2.2.1.length → 0 ≤ (xs.getD i NL).2.2.1.getD k 0 ∧ (xs.getD i NL).2.2.1.getD k 0 ≤ (i : Int) - 1) ∧
    (∀ k, k < (xs.getD i NL).2.2.2.length → -100 ≤ (xs.getD i NL).2.2.2.getD k 0 ∧ (xs.getD i NL).2.2.2.getD k 0 ≤ 100) := by
  unfold tasksOk at h
  simp only [Bool.and_eq_true, decide_eq_true_eq] at h
  refine ⟨h.2.1, h.2.2, fun i hi => ?_⟩
  have h1 := List.all_eq_true.1 h.1 i (List.mem_range.2 hi)
  revert h1
  generalize xs.getD i NL = t
  intro h1
  unfold taskOk at h1
  simp only [Bool.and_eq_true, decide_eq_true_eq, within_iff] at h1
  obtain ⟨g1, g2, g3, g4, g5⟩ := h1
  refine ⟨g1.1, g1.2, g2.1, g2.2, g3, fun k hk => ?_, fun k hk => all_getD g4 hk⟩
  have := List.all_eq_true.1 g5 k (List.mem_range.2 hk)
  simp only [Bool.and_eq_true, within_iff] at this
  exact this.1

/-- The last end. -/
def endW (xs : List Tk) (st : List Int) : Int := (List.range xs.length).foldl (fun m k => imax m (w64 (st.getD k 0 + (xs.getD k NL).1))) 0

def leastW (xs : List Tk) (st : List Int) (i : Nat) : Int :=
  (List.range (xs.getD i NL).2.2.1.length).foldl (fun m k => imax m (w64 (w64 (st.getD ((xs.getD i NL).2.2.1.getD k 0).toNat 0 + (xs.getD ((xs.getD i NL).2.2.1.getD k 0).toNat NL).1) + (xs.getD i NL).2.2.2.getD k 0))) 0

theorem imax_le {a b c : Int} : imax a b ≤ c ↔ a ≤ c ∧ b ≤ c := by
  unfold imax
  split <;> omega

theorem le_imax {a b : Int} : a ≤ imax a b ∧ b ≤ imax a b := by
  unfold imax
  split <;> omega

theorem foldmax_ge {α : Type} (f : α → Int) : ∀ (l : List α) (m : Int), m ≤ l.foldl (fun a k => imax a (f k)) m ∧ ∀ k ∈ l, f k ≤ l.foldl (fun a k => imax a (f k)) m
  | [], m => ⟨Int.le_refl _, fun k hk => by cases hk⟩
  | x :: l, m => by
    obtain ⟨h1, h2⟩ := foldmax_ge f l (imax m (f x))
    have := le_imax (a := m) (b := f x)
    refine ⟨Int.le_trans this.1 h1, fun k hk => ?_⟩
    rcases List.mem_cons.1 hk with rfl | hk
    · exact Int.le_trans this.2 h1
    · exact h2 k hk

theorem foldmax_le {α : Type} (f : α → Int) {c : Int} : ∀ (l : List α) (m : Int), m ≤ c → (∀ k ∈ l, f k ≤ c) → l.foldl (fun a k => imax a (f k)) m ≤ c
  | [], m, h, _ => h
  | x :: l, m, h, hl => foldmax_le f l (imax m (f x)) (imax_le.2 ⟨h, hl x List.mem_cons_self⟩) (fun k hk => hl k (List.mem_cons_of_mem _ hk))

theorem end_ge {xs : List Tk} {st : List Int} {k : Nat} (hk : k < xs.length) : w64 (st.getD k 0 + (xs.getD k NL).1) ≤ endW xs st := by
  unfold endW
  exact (foldmax_ge (fun k => w64 (st.getD k 0 + (xs.getD k NL).1)) (List.range xs.length) 0).2 k (List.mem_range.2 hk)

theorem end_nonneg {xs : List Tk} {st : List Int} : 0 ≤ endW xs st := by
  unfold endW
  exact (foldmax_ge (fun k => w64 (st.getD k 0 + (xs.getD k NL).1)) (List.range xs.length) 0).1

theorem end_le {xs : List Tk} {st : List Int} {c : Int} (hc : 0 ≤ c) (h : ∀ k, k < xs.length → w64 (st.getD k 0 + (xs.getD k NL).1) ≤ c) : endW xs st ≤ c := by
  unfold endW
  exact foldmax_le (fun k => w64 (st.getD k 0 + (xs.getD k NL).1)) (List.range xs.length) 0 hc (fun k hk => h k (List.mem_range.1 hk))

theorem getD_set {xs : List Int} {i j : Nat} {v : Int} (hi : i < xs.length) : (xs.set i v).getD j 0 = if i = j then v else xs.getD j 0 := by
  rw [List.getD_eq_getElem?_getD, List.getElem?_set, List.getD_eq_getElem?_getD]
  by_cases h : i = j
  · subst h
    rw [if_pos rfl, if_pos rfl, if_pos hi]
    rfl
  · rw [if_neg h, if_neg h]

theorem all_of_getD {xs : List Int} {p : Int → Prop} (h : ∀ j, j < xs.length → p (xs.getD j 0)) : ∀ v ∈ xs, p v := by
  intro v hv
  obtain ⟨j, hj, rfl⟩ := List.getElem_of_mem hv
  have := h j hj
  simpa [hj] using this

section
variable {N : Nat} (hN : 9223372036854775808 ≤ N)
include hN

/-- A loop over places, by what is still to come. -/
theorem fold_range {σ ρ : Type} {n : Nat} (hn : n ≤ 4294967296) {body : σ → (σ → Option ρ) → Option ρ} {inv : σ → Prop} (i : σ → Int) (f : List Nat → σ → Option ρ)
    (h0 : ∀ s next, inv s → i s = (n : Int) → body s next = f [] s)
    (h1 : ∀ (k : Nat) s next r, inv s → i s = (k : Int) → k < n → w64 ((k : Int) + 1) = (k : Int) + 1 → (∀ s', inv s' → i s' = (k : Int) + 1 → next s' = f r s') → body s next = f (k :: r) s)
    {s : σ} (hs : inv s) (hi : i s = 0) : loopN body N s = f (List.range n) s := by
  have := loop_list (ρ := ρ) (body := body) (inv := inv) (xs := List.range n) (i := i) (f := f) (by rw [List.length_range]; omega)
    (fun s next h e => h0 s next h (by rw [List.length_range] at e; exact e))
    (fun s next v r h e1 e2 e3 e4 e5 hn' => by
      rw [List.length_range] at e2
      have hv : v = (i s).toNat := by
        rw [show i s = (((i s).toNat : Nat) : Int) by omega, idx_nat, List.getElem?_range (by omega)] at e3
        exact (Option.some.inj e3).symm
      subst hv
      have e : (((i s).toNat : Nat) : Int) = i s := by omega
      refine h1 _ s next r h e.symm (by omega) (by rw [e]; exact e5) (fun s' g1 g2 => hn' s' g1 (by rw [g2, e])))
    (N := N) (by rw [List.length_range]; omega) hs (by omega) (by rw [List.length_range]; omega)
  rw [this, hi]
  rfl

theorem l03End_eq {xs : List Tk} {st : List Int} (hx : xs.length ≤ 4294967296) (hl : st.length = xs.length) : spec_l03End N xs st = some (endW xs st, ()) := by
  unfold spec_l03End endW
  exact fold_range hN hx (inv := fun _ => True) (fun s : Int × Int × Unit => s.2.1) (fun l s => some (l.foldl (fun m k => imax m (w64 (st.getD k 0 + (xs.getD k NL).1))) s.1, ()))
    (fun s next _ h => by simp only [h, Int.lt_irrefl, decide_false, cond_false, List.foldl_nil])
    (fun k s next r _ h1 h2 h3 hn => by
      simp only [h1, show decide ((k : Int) < (xs.length : Int)) = true from by simpa using h2, cond_true, idx_at h2, idx_int (show k < st.length by omega), Option.bind_some, l00Max_eq, h3, List.foldl_cons]
      exact hn _ trivial rfl)
    (s := (0, 0, ())) trivial rfl

theorem lastEnd_eq {xs : List Tk} {st : List Int} (hx : xs.length ≤ 4294967296) (hl : st.length = xs.length) : impl_lastEnd N xs st = some (endW xs st, ()) := by
  unfold impl_lastEnd endW
  exact fold_range hN hx (inv := fun _ => True) (fun s : Int × Int × Unit => s.2.1) (fun l s => some (l.foldl (fun m k => imax m (w64 (st.getD k 0 + (xs.getD k NL).1))) s.1, ()))
    (fun s next _ h => by simp only [h, Int.lt_irrefl, decide_false, cond_false, List.foldl_nil])
    (fun k s next r _ h1 h2 h3 hn => by
      simp only [h1, show decide ((k : Int) < (xs.length : Int)) = true from by simpa using h2, cond_true, idx_at h2, idx_int (show k < st.length by omega), Option.bind_some, h3, List.foldl_cons]
      exact hn _ trivial rfl)
    (s := (0, 0, ())) trivial rfl


theorem l03Least_eq {xs : List Tk} {st : List Int} (h : Small 1048576 xs) (ht : tasksOk xs = true) (hl : st.length = xs.length) {i : Nat} (hi : i < xs.length) : spec_l03Least N xs st i = some (leastW xs st i, ()) := by
  unfold spec_l03Least leastW
  obtain ⟨_, _, hf⟩ := task_facts ht
  obtain ⟨_, _, _, _, f5, f6, _⟩ := hf i hi
  have hs := h.get i
  simp only [idx_at hi, Option.bind_some]
  exact fold_range hN (n := (xs.getD i NL).2.2.1.length) (by omega) (inv := fun _ => True) (fun s : Int × Int × Unit => s.2.1)
    (fun l s => some (l.foldl (fun m k => imax m (w64 (w64 (st.getD ((xs.getD i NL).2.2.1.getD k 0).toNat 0 + (xs.getD ((xs.getD i NL).2.2.1.getD k 0).toNat NL).1) + (xs.getD i NL).2.2.2.getD k 0))) s.1, ()))
    (fun s next _ h => by simp only [h, Int.lt_irrefl, decide_false, cond_false, List.foldl_nil])
    (fun k s next r _ h1 h2 h3 hn => by
      have hb := f6 k h2
      have e1 : idx st ((xs.getD i NL).2.2.1.getD k 0) = some (st.getD ((xs.getD i NL).2.2.1.getD k 0).toNat 0) := idx_getD (by omega)
      have e2 : idx xs ((xs.getD i NL).2.2.1.getD k 0) = some (xs.getD ((xs.getD i NL).2.2.1.getD k 0).toNat NL) := idx_get NL (by omega)
      simp only [h1, show decide ((k : Int) < ((xs.getD i NL).2.2.1.length : Int)) = true from by simpa using h2, cond_true, idx_int h2, idx_int (show k < (xs.getD i NL).2.2.2.length by omega), Option.bind_some, e1, e2, l00Max_eq, h3, List.foldl_cons]
      exact hn _ trivial rfl)
    (s := (0, 0, ())) trivial rfl

theorem earliest_eq {xs : List Tk} {st : List Int} (h : Small 1048576 xs) (ht : tasksOk xs = true) (hl : st.length = xs.length) {i : Nat} (hi : i < xs.length) : impl_earliest N xs st i = some (leastW xs st i, ()) := by
  unfold impl_earliest leastW
  obtain ⟨_, _, hf⟩ := task_facts ht
  obtain ⟨_, _, _, _, f5, f6, _⟩ := hf i hi
  have hs := h.get i
  simp only [idx_at hi, Option.bind_some]
  exact fold_range hN (n := (xs.getD i NL).2.2.1.length) (by omega) (inv := fun _ => True) (fun s : Int × Int × Unit => s.2.1)
    (fun l s => some (l.foldl (fun m k => imax m (w64 (w64 (st.getD ((xs.getD i NL).2.2.1.getD k 0).toNat 0 + (xs.getD ((xs.getD i NL).2.2.1.getD k 0).toNat NL).1) + (xs.getD i NL).2.2.2.getD k 0))) s.1, ()))
    (fun s next _ h => by simp only [h, Int.lt_irrefl, decide_false, cond_false, List.foldl_nil])
    (fun k s next r _ h1 h2 h3 hn => by
      have hb := f6 k h2
      have e1 : idx st ((xs.getD i NL).2.2.1.getD k 0) = some (st.getD ((xs.getD i NL).2.2.1.getD k 0).toNat 0) := idx_getD (by omega)
      have e2 : idx xs ((xs.getD i NL).2.2.1.getD k 0) = some (xs.getD ((xs.getD i NL).2.2.1.getD k 0).toNat NL) := idx_get NL (by omega)
      simp only [h1, show decide ((k : Int) < ((xs.getD i NL).2.2.1.length : Int)) = true from by simpa using h2, cond_true, idx_int h2, idx_int (show k < (xs.getD i NL).2.2.2.length by omega), Option.bind_some, e1, e2, h3, List.foldl_cons]
      exact hn _ trivial rfl)
    (s := (0, 0, ())) trivial rfl




end

end Go.Proofs.Ytmdicmdodbndgaa
