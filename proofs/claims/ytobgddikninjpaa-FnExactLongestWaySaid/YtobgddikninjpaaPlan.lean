/-
  Plans of tasks: ends, use of the crew, least starts; ProgressOf, CrewUse, IsCrewPlan. No condition.
-/
import Derived.Test.YtobgddikninjpaaPTask
namespace Go.Proofs.Ytobgddikninjpaa
open Go Go.Proofs.Ytobgddikninjpaa.Fw
set_option linter.unusedVariables false
set_option linter.unusedSimpArgs false

theorem task_facts {xs : List Tk} (h : tasksOk xs = true) : 1 ≤ xs.length ∧ xs.length ≤ 16 ∧ ∀ i, i < xs.length → 0 ≤ (xs.getD i NL).1 ∧ (xs.getD i NL).1 ≤ 100 ∧ 0 ≤ (xs.getD i NL).2.1 ∧ (xs.getD i NL).2.1 ≤ 20 ∧
    (xs.getD i NL).2.2.1.length = (xs.getD i NL).2.2.2.length ∧ (∀ k, k < (xs.getD i NL).2.2.1.length → 0 ≤ (xs.getD i NL).2.2.1.getD k 0 ∧ (xs.getD i NL).2.2.1.getD k 0 ≤ (i : Int) - 1) ∧
    (∀ k, k < (xs.getD i NL).2.2.2.length → -100 ≤ (xs.getD i NL).2.2.2.getD k 0 ∧ (xs.getD i NL).2.2.2.getD k 0 ≤ 100) := by
  unfold tasksOk at h
  simp only [Bool.and_eq_true, decide_eq_true_eq] at h
  refine ⟨h.2.1, h.2.2, fun i hi => ?_⟩
  have h1 := List.all_eq_true.1 h.1 i (List.mem_range.2 hi)
  revert h1
  generalize xs.getD i NL = t
  intro h1
  unfold taskOk at h1
  simp only [Bool.and_eq_true, decide_eq_true_eq, within_iff] at h1
  obtain ⟨g1, g2, g3, g4, g5⟩ := h1
  refine ⟨g1.1, g1.2, g2.1, g2.2, g3, fun k hk => ?_, fun k hk => all_getD g4 hk⟩
  have := List.all_eq_true.1 g5 k (List.mem_range.2 hk)
  simp only [Bool.and_eq_true, within_iff] at this
  exact this.1

/-- The last end. -/
def endW (xs : List Tk) (st : List Int) : Int := (List.range xs.length).foldl (fun m k => imax m (w64 (st.getD k 0 + (xs.getD k NL).1))) 0

def leastW (xs : List Tk) (st : List Int) (i : Nat) : Int :=
  (List.range (xs.getD i NL).2.2.1.length).foldl (fun m k => imax m (w64 (w64 (st.getD ((xs.getD i NL).2.2.1.getD k 0).toNat 0 + (xs.getD ((xs.getD i NL).2.2.1.getD k 0).toNat NL).1) + (xs.getD i NL).2.2.2.getD k 0))) 0

theorem imax_le {a b c : Int} : imax a b ≤ c ↔ a ≤ c ∧ b ≤ c := by
  unfold imax
  split <;> omega

theorem le_imax {a b : Int} : a ≤ imax a b ∧ b ≤ imax a b := by
  unfold imax
  split <;> omega

theorem foldmax_ge {α : Type} (f : α → Int) : ∀ (l : List α) (m : Int), m ≤ l.foldl (fun a k => imax a (f k)) m ∧ ∀ k ∈ l, f k ≤ l.foldl (fun a k => imax a (f k)) m
  | [], m => ⟨Int.le_refl _, fun k hk => by cases hk⟩
  | x :: l, m => by
    obtain ⟨h1, h2⟩ := foldmax_ge f l (imax m (f x))
    have := le_imax (a := m) (b := f x)
    refine ⟨Int.le_trans this.1 h1, fun k hk => ?_⟩
    rcases List.mem_cons.1 hk with rfl | hk
    · exact Int.le_trans this.2 h1
    · exact h2 k hk

theorem foldmax_le {α : Type} (f : α → Int) {c : Int} : ∀ (l : List α) (m : Int), m ≤ c → (∀ k ∈ l, f k ≤ c) → l.foldl (fun a k => imax a (f k)) m ≤ c
  | [], m, h, _ => h
  | x :: l, m, h, hl => foldmax_le f l (imax m (f x)) (imax_le.2 ⟨h, hl x List.mem_cons_self⟩) (fun k hk => hl k (List.mem_cons_of_mem _ hk))

theorem end_ge {xs : List Tk} {st : List Int} {k : Nat} (hk : k < xs.length) : w64 (st.getD k 0 + (xs.getD k NL).1) ≤ endW xs st := by
  unfold endW
  exact (foldmax_ge (fun k => w64 (st.getD k 0 + (xs.getD k NL).1)) (List.range xs.length) 0).2 k (List.mem_range.2 hk)

theorem end_nonneg {xs : List Tk} {st : List Int} : 0 ≤ endW xs st := by
  unfold endW
  exact (foldmax_ge (fun k => w64 (st.getD k 0 + (xs.getD k NL).1)) (List.range xs.length) 0).1

theorem end_le {xs : List Tk} {st : List Int} {c : Int} (hc : 0 ≤ c) (h : ∀ k, k < xs.length → w64 (st.getD k 0 + (xs.getD k NL).1) ≤ c) : endW xs st ≤ c := by
  unfold endW
  exact foldmax_le (fun k => w64 (st.getD k 0 + (xs.getD k NL).1)) (List.range xs.length) 0 hc (fun k hk => h k (List.mem_range.1 hk))

theorem getD_set {xs : List Int} {i j : Nat} {v : Int} (hi : i < xs.length) : (xs.set i v).getD j 0 = if i = j then v else xs.getD j 0 := by
  rw [List.getD_eq_getElem?_getD, List.getElem?_set, List.getD_eq_getElem?_getD]
  by_cases h : i = j
  · subst h
    rw [if_pos rfl, if_pos rfl, if_pos hi]
    rfl
  · rw [if_neg h, if_neg h]

theorem all_of_getD {xs : List Int} {p : Int → Prop} (h : ∀ j, j < xs.length → p (xs.getD j 0)) : ∀ v ∈ xs, p v := by
  intro v hv
  obtain ⟨j, hj, rfl⟩ := List.getElem_of_mem hv
  have := h j hj
  simpa [hj] using this

section
variable {N : Nat} (hN : 9223372036854775808 ≤ N)
include hN

/-- A loop over places, by what is still to come. -/
theorem fold_range {σ ρ : Type} {n : Nat} (hn : n ≤ 4294967296) {body : σ → (σ → Option ρ) → Option ρ} {inv : σ → Prop} (i : σ → Int) (f : List Nat → σ → Option ρ)
    (h0 : ∀ s next, inv s → i s = (n : Int) → body s next = f [] s)
    (h1 : ∀ (k : Nat) s next r, inv s → i s = (k : Int) → k < n → w64 ((k : Int) + 1) = (k : Int) + 1 → (∀ s', inv s' → i s' = (k : Int) + 1 → next s' = f r s') → body s next = f (k :: r) s)
    {s : σ} (hs : inv s) (hi : i s = 0) : loopN body N s = f (List.range n) s := by
  have := loop_list (ρ := ρ) (body := body) (inv := inv) (xs := List.range n) (i := i) (f := f) (by rw [List.length_range]; omega)
    (fun s next h e => h0 s next h (by rw [List.length_range] at e; exact e))
    (fun s next v r h e1 e2 e3 e4 e5 hn' => by
      rw [List.length_range] at e2
      have hv : v = (i s).toNat := by
        rw [show i s = (((i s).toNat : Nat) : Int) by omega, idx_nat, List.getElem?_range (by omega)] at e3
        exact (Option.some.inj e3).symm
      subst hv
      have e : (((i s).toNat : Nat) : Int) = i s := by omega
      refine h1 _ s next r h e.symm (by omega) (by rw [e]; exact e5) (fun s' g1 g2 => hn' s' g1 (by rw [g2, e])))
    (N := N) (by rw [List.length_range]; omega) hs (by omega) (by rw [List.length_range]; omega)
  rw [this, hi]
  rfl

theorem l03End_eq {xs : List Tk} {st : List Int} (hx : xs.length ≤ 4294967296) (hl : st.length = xs.length) : spec_l03End N xs st = some (endW xs st, ()) := by
  unfold spec_l03End endW
  exact fold_range hN hx (inv := fun _ => True) (fun s : Int × Int × Unit => s.2.1) (fun l s => some (l.foldl (fun m k => imax m (w64 (st.getD k 0 + (xs.getD k NL).1))) s.1, ()))
    (fun s next _ h => by simp only [h, Int.lt_irrefl, decide_false, cond_false, List.foldl_nil])
    (fun k s next r _ h1 h2 h3 hn => by
      simp only [h1, show decide ((k : Int) < (xs.length : Int)) = true from by simpa using h2, cond_true, idx_at h2, idx_int (show k < st.length by omega), Option.bind_some, l00Max_eq, h3, List.foldl_cons]
      exact hn _ trivial rfl)
    (s := (0, 0, ())) trivial rfl

theorem lastEnd_eq {xs : List Tk} {st : List Int} (hx : xs.length ≤ 4294967296) (hl : st.length = xs.length) : impl_lastEnd N xs st = some (endW xs st, ()) := by
  unfold impl_lastEnd endW
  exact fold_range hN hx (inv := fun _ => True) (fun s : Int × Int × Unit => s.2.1) (fun l s => some (l.foldl (fun m k => imax m (w64 (st.getD k 0 + (xs.getD k NL).1))) s.1, ()))
    (fun s next _ h => by simp only [h, Int.lt_irrefl, decide_false, cond_false, List.foldl_nil])
    (fun k s next r _ h1 h2 h3 hn => by
      simp only [h1, show decide ((k : Int) < (xs.length : Int)) = true from by simpa using h2, cond_true, idx_at h2, idx_int (show k < st.length by omega), Option.bind_some, h3, List.foldl_cons]
      exact hn _ trivial rfl)
    (s := (0, 0, ())) trivial rfl


theorem l03Least_eq {xs : List Tk} {st : List Int} (h : Small 1048576 xs) (ht : tasksOk xs = true) (hl : st.length = xs.length) {i : Nat} (hi : i < xs.length) : spec_l03Least N xs st i = some (leastW xs st i, ()) := by
  unfold spec_l03Least leastW
  obtain ⟨_, _, hf⟩ := task_facts ht
  obtain ⟨_, _, _, _, f5, f6, _⟩ := hf i hi
  have hs := h.get i
  simp only [idx_at hi, Option.bind_some]
  exact fold_range hN (n := (xs.getD i NL).2.2.1.length) (by omega) (inv := fun _ => True) (fun s : Int × Int × Unit => s.2.1)
    (fun l s => some (l.foldl (fun m k => imax m (w64 (w64 (st.getD ((xs.getD i NL).2.2.1.getD k 0).toNat 0 + (xs.getD ((xs.getD i NL).2.2.1.getD k 0).toNat NL).1) + (xs.getD i NL).2.2.2.getD k 0))) s.1, ()))
    (fun s next _ h => by simp only [h, Int.lt_irrefl, decide_false, cond_false, List.foldl_nil])
    (fun k s next r _ h1 h2 h3 hn => by
      have hb := f6 k h2
      have e1 : idx st ((xs.getD i NL).2.2.1.getD k 0) = some (st.getD ((xs.getD i NL).2.2.1.getD k 0).toNat 0) := idx_getD (by omega)
      have e2 : idx xs ((xs.getD i NL).2.2.1.getD k 0) = some (xs.getD ((xs.getD i NL).2.2.1.getD k 0).toNat NL) := idx_get NL (by omega)
      simp only [h1, show decide ((k : Int) < ((xs.getD i NL).2.2.1.length : Int)) = true from by simpa using h2, cond_true, idx_int h2, idx_int (show k < (xs.getD i NL).2.2.2.length by omega), Option.bind_some, e1, e2, l00Max_eq, h3, List.foldl_cons]
      exact hn _ trivial rfl)
    (s := (0, 0, ())) trivial rfl

theorem earliest_eq {xs : List Tk} {st : List Int} (h : Small 1048576 xs) (ht : tasksOk xs = true) (hl : st.length = xs.length) {i : Nat} (hi : i < xs.length) : impl_earliest N xs st i = some (leastW xs st i, ()) := by
  unfold impl_earliest leastW
  obtain ⟨_, _, hf⟩ := task_facts ht
  obtain ⟨_, _, _, _, f5, f6, _⟩ := hf i hi
  have hs := h.get i
  simp only [idx_at hi, Option.bind_some]
  exact fold_range hN (n := (xs.getD i NL).2.2.1.length) (by omega) (inv := fun _ => True) (fun s : Int × Int × Unit => s.2.1)
    (fun l s => some (l.foldl (fun m k => imax m (w64 (w64 (st.getD ((xs.getD i NL).2.2.1.getD k 0).toNat 0 + (xs.getD ((xs.getD i NL).2.2.1.getD k 0).toNat NL).1) + (xs.getD i NL).2.2.2.getD k 0))) s.1, ()))
    (fun s next _ h => by simp only [h, Int.lt_irrefl, decide_false, cond_false, List.foldl_nil])
    (fun k s next r _ h1 h2 h3 hn => by
      have hb := f6 k h2
      have e1 : idx st ((xs.getD i NL).2.2.1.getD k 0) = some (st.getD ((xs.getD i NL).2.2.1.getD k 0).toNat 0) := idx_getD (by omega)
      have e2 : idx xs ((xs.getD i NL).2.2.1.getD k 0) = some (xs.getD ((xs.getD i NL).2.2.1.getD k 0).toNat NL) := idx_get NL (by omega)
      simp only [h1, show decide ((k : Int) < ((xs.getD i NL).2.2.1.length : Int)) = true from by simpa using h2, cond_true, idx_int h2, idx_int (show k < (xs.getD i NL).2.2.2.length by omega), Option.bind_some, e1, e2, h3, List.foldl_cons]
      exact hn _ trivial rfl)
    (s := (0, 0, ())) trivial rfl


theorem use_eq {xs : List Tk} {st : List Int} (ht : tasksOk xs = true) (hl : st.length = xs.length) (hb : ∀ k, k < xs.length → 0 ≤ st.getD k 0 ∧ st.getD k 0 ≤ 1000000) :
    ∃ us, spec_l03Use N xs st = some (us, ()) ∧ impl_crewUse N xs st = some (us, ()) ∧ us.length = (endW xs st).toNat ∧ ∀ j, 0 ≤ us.getD j 0 ∧ us.getD j 0 ≤ 320 := by
  obtain ⟨f1, f2, f3⟩ := task_facts ht
  unfold spec_l03Use impl_crewUse
  rw [l03End_eq hN (by omega) hl, lastEnd_eq hN (by omega) hl]
  simp only [Option.bind_some]
  have hE0 := end_nonneg (xs := xs) (st := st)
  have hw : ∀ k, k < xs.length → w64 (st.getD k 0 + (xs.getD k NL).1) = st.getD k 0 + (xs.getD k NL).1 := fun k hk => by
    have := hb k hk
    have := f3 k hk
    exact w64_in (by omega)
  have hE : endW xs st ≤ 1000100 := end_le (by omega) (fun k hk => by
    have := hb k hk
    have := f3 k hk
    rw [hw k hk]
    omega)
  rw [mkOk_of (by omega), cond_true, cond_true]
  have hge : ∀ k, k < xs.length → st.getD k 0 + (xs.getD k NL).1 ≤ endW xs st := fun k hk => by
    rw [← hw k hk]
    exact end_ge hk
  have hg := loop_rel (ρ := List Int × Unit) (I := fun s t : List Int × Int × Unit => s = t ∧ 0 ≤ s.2.1 ∧ s.2.1 ≤ xs.length ∧ s.1.length = (endW xs st).toNat ∧ ∀ j, 0 ≤ s.1.getD j 0 ∧ s.1.getD j 0 ≤ 20 * s.2.1) (μ := fun s => (xs.length - s.2.1).toNat)
    (Q := fun r => r.1.length = (endW xs st).toNat ∧ ∀ j, 0 ≤ r.1.getD j 0 ∧ r.1.getD j 0 ≤ 320)
    (A := fun (s3 : List (Int) × Int × Unit) next4 =>
      cond (decide (s3.2.1 < (List.length xs : Int)))
        (Option.bind (idx st s3.2.1) fun v5 =>
        loopN (fun (s6 : List (Int) × Int × Unit) next7 =>
          Option.bind (idx st s3.2.1) fun v8 =>
          Option.bind (idx xs s3.2.1) fun v9 =>
          cond (decide (s6.2.1 < (w64 (v8 + v9.1))))
            (cond (inB s6.2.1 (List.length s6.1))
              (Option.bind (s6.1[(Int.toNat s6.2.1)]?) fun v10 =>
              Option.bind (idx xs s3.2.1) fun v11 =>
              cond (inB s6.2.1 (List.length s6.1))
                (let xs12 := (List.set s6.1 (Int.toNat s6.2.1) (w64 (v10 + v11.2.1)))
                next7 (xs12, (w64 (s6.2.1 + 1)), ())) none) none)
            (next4 (s6.1, (w64 (s3.2.1 + 1)), ()))) N (s3.1, v5, ()))
        (some (s3.1, ())))
    (B := fun (s3 : List (Int) × Int × Unit) next4 =>
      cond (decide (s3.2.1 < (List.length xs : Int)))
        (Option.bind (idx xs s3.2.1) fun v5 =>
        Option.bind (idx st s3.2.1) fun v6 =>
        loopN (fun (s7 : List (Int) × Int × Unit) next8 =>
          Option.bind (idx st s3.2.1) fun v9 =>
          cond (decide (s7.2.1 < (w64 (v9 + v5.1))))
            (cond (inB s7.2.1 (List.length s7.1))
              (Option.bind (s7.1[(Int.toNat s7.2.1)]?) fun v10 =>
              cond (inB s7.2.1 (List.length s7.1))
                (let xs11 := (List.set s7.1 (Int.toNat s7.2.1) (w64 (v10 + v5.2.1)))
                next8 (xs11, (w64 (s7.2.1 + 1)), ())) none) none)
            (next4 (s7.1, (w64 (s3.2.1 + 1)), ()))) N (s3.1, v6, ()))
        (some (s3.1, ())))
    (by
      rintro ⟨a, i, u⟩ _ nA nB ⟨rfl, h1, h2, h3, h4⟩ hn
      simp only at h1 h2 h3 h4 ⊢
      by_cases hi : i < (xs.length : Int)
      · obtain ⟨k, rfl⟩ : ∃ k : Nat, i = (k : Int) := ⟨i.toNat, by omega⟩
        have hk : k < xs.length := by omega
        have hbk := hb k hk
        have hfk := f3 k hk
        have hgk := hge k hk
        simp only [hi, decide_true, cond_true, idx_at hk, idx_int (show k < st.length by omega), Option.bind_some, hw k hk, w64_in (n := (k : Int) + 1) (by omega)]
        refine loop_rel (ρ := List Int × Unit) (I := fun s t : List Int × Int × Unit => s = t ∧ st.getD k 0 ≤ s.2.1 ∧ s.2.1 ≤ st.getD k 0 + (xs.getD k NL).1 ∧ s.1.length = (endW xs st).toNat ∧
            ∀ j : Nat, 0 ≤ s.1.getD j 0 ∧ s.1.getD j 0 ≤ 20 * ((k : Int) + 1) ∧ (s.2.1 ≤ (j : Int) → s.1.getD j 0 ≤ 20 * (k : Int))) (μ := fun s => (st.getD k 0 + (xs.getD k NL).1 - s.2.1).toNat)
          (Q := fun r => r.1.length = (endW xs st).toNat ∧ ∀ j, 0 ≤ r.1.getD j 0 ∧ r.1.getD j 0 ≤ 320) ?_ N N _ _
          ⟨rfl, Int.le_refl _, by simp only; omega, h3, fun j => ⟨(h4 j).1, by have := (h4 j).2; simp only; omega, fun _ => (h4 j).2⟩⟩ (by simp only; omega) (by simp only; omega)
        rintro ⟨b, t, u'⟩ _ mA mB ⟨rfl, g1, g2, g3, g4⟩ hm
        simp only at g1 g2 g3 g4 ⊢
        by_cases hlt : t < st.getD k 0 + (xs.getD k NL).1
        · have htl : t.toNat < b.length := by omega
          have hgt := g4 t.toNat
          simp only [hlt, decide_true, cond_true, inB_of (n := t) (len := b.length) (by omega), get_getD 0 htl, Option.bind_some, w64_in (n := t + 1) (by omega), w64_in (n := b.getD t.toNat 0 + (xs.getD k NL).2.1) (by omega)]
          refine hm _ _ ⟨rfl, by simp only; omega, by simp only; omega, by simp only [List.length_set]; exact g3, fun j => ?_⟩ (by simp only; omega)
          simp only
          rw [getD_set htl]
          split
          · rename_i he
            subst he
            have := hgt.2.2 (by omega)
            exact ⟨by omega, by omega, fun h => by omega⟩
          · have := g4 j
            exact ⟨this.1, this.2.1, fun h => this.2.2 (by omega)⟩
        · simp only [hlt, decide_false, cond_false]
          exact hn _ _ ⟨rfl, by simp only; omega, by simp only; omega, g3, fun j => ⟨(g4 j).1, (g4 j).2.1⟩⟩ (by simp only; omega)
      · simp only [hi, decide_false, cond_false]
        exact ⟨_, rfl, rfl, h3, fun j => ⟨(h4 j).1, by have := (h4 j).2; simp only; omega⟩⟩) N N
    (List.replicate (endW xs st).toNat 0, 0, ()) (List.replicate (endW xs st).toNat 0, 0, ())
    ⟨rfl, Int.le_refl _, by simp only; omega, by simp, fun j => by
      simp only
      rw [List.getD_eq_getElem?_getD, List.getElem?_replicate]
      split <;> simp⟩ (by simp only; omega) (by simp only; omega)
  obtain ⟨⟨us, u⟩, e1, e2, e3, e4⟩ := hg
  exact ⟨us, e1, e2, e3, e4⟩


end

end Go.Proofs.Ytobgddikninjpaa
