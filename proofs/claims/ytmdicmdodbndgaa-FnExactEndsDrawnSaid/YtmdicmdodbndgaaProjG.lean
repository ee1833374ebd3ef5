/-
  Tasks whose times are any: the earliest and the latest starts and the slack, alike in both. No condition.
-/
import Derived.Test.YtmdicmdodbndgaaProj3
namespace Go.Proofs.Ytmdicmdodbndgaa
open Go Go.Proofs.Ytmdicmdodbndgaa.Fw
set_option linter.unusedVariables false
set_option linter.unusedSimpArgs false

/-- Tasks but for their times. -/
def TasksG (xs : List Tk) : Prop := ∃ ys : List Tk, tasksOk ys = true ∧ ys.length = xs.length ∧ ∀ i, i < xs.length → (xs.getD i NL).2 = (ys.getD i NL).2

theorem task_factsG {xs : List Tk} (h : TasksG xs) : 1 ≤ xs.length ∧ xs.length ≤ 16 ∧ ∀ i, i < xs.length → True ∧ True ∧ True ∧ True ∧
    (xs.getD i NL).2.2.1.length = (xs.getD i NL).2.2.2.length ∧ (∀ k, k < (xs.getD i NL).2.2.1.length → 0 ≤ (xs.getD i NL).2.2.1.getD k 0 ∧ (xs.getD i NL).2.2.1.getD k 0 ≤ (i : Int) - 1) ∧ True := by
  obtain ⟨ys, h1, h2, h3⟩ := h
  obtain ⟨f1, f2, f3⟩ := task_facts h1
  refine ⟨by omega, by omega, fun i hi => ?_⟩
  obtain ⟨_, _, _, _, f5, f6, _⟩ := f3 i (by omega)
  rw [h3 i hi]
  exact ⟨trivial, trivial, trivial, trivial, f5, f6, trivial⟩

theorem incr_ofG {xs : List Tk} (h : TasksG xs) {k : Nat} (hk : k < xs.length) : ∀ a b, a < b → b < (xs.getD k NL).2.2.1.length → (xs.getD k NL).2.2.1.getD a 0 < (xs.getD k NL).2.2.1.getD b 0 := by
  obtain ⟨ys, h1, h2, h3⟩ := h
  unfold tasksOk at h1
  simp only [Bool.and_eq_true] at h1
  have := incr_of (List.all_eq_true.1 h1.1 k (List.mem_range.2 (by omega)))
  rw [h3 k hk]
  exact this

section
variable {N : Nat} (hN : 9223372036854775808 ≤ N)
include hN

theorem l03LeastG_eq {xs : List Tk} {st : List Int} (h : Small 1048576 xs) (ht : TasksG xs) (hl : st.length = xs.length) {i : Nat} (hi : i < xs.length) : spec_l03Least N xs st i = some (leastW xs st i, ()) := by
  unfold spec_l03Least leastW
  obtain ⟨_, _, hf⟩ := task_factsG ht
  obtain ⟨_, _, _, _, f5, f6, _⟩ := hf i hi
  have hs := h.get i
  simp only [idx_at hi, Option.bind_some]
  exact fold_range hN (n := (xs.getD i NL).2.2.1.length) (by omega) (inv := fun _ => True) (fun s : Int × Int × Unit => s.2.1)
    (fun l s => some (l.foldl (fun m k => imax m (w64 (w64 (st.getD ((xs.getD i NL).2.2.1.getD k 0).toNat 0 + (xs.getD ((xs.getD i NL).2.2.1.getD k 0).toNat NL).1) + (xs.getD i NL).2.2.2.getD k 0))) s.1, ()))
    (fun s next _ h => by simp only [h, Int.lt_irrefl, decide_false, cond_false, List.foldl_nil])
    (fun k s next r _ h1 h2 h3 hn => by
      have hb := f6 k h2
      have e1 : idx st ((xs.getD i NL).2.2.1.getD k 0) = some (st.getD ((xs.getD i NL).2.2.1.getD k 0).toNat 0) := idx_getD (by omega)
      have e2 : idx xs ((xs.getD i NL).2.2.1.getD k 0) = some (xs.getD ((xs.getD i NL).2.2.1.getD k 0).toNat NL) := idx_get NL (by omega)
      simp only [h1, show decide ((k : Int) < ((xs.getD i NL).2.2.1.length : Int)) = true from by simpa using h2, cond_true, idx_int h2, idx_int (show k < (xs.getD i NL).2.2.2.length by omega), Option.bind_some, e1, e2, l00Max_eq, h3, List.foldl_cons]
      exact hn _ trivial rfl)
    (s := (0, 0, ())) trivial rfl

theorem earliestG_eq {xs : List Tk} {st : List Int} (h : Small 1048576 xs) (ht : TasksG xs) (hl : st.length = xs.length) {i : Nat} (hi : i < xs.length) : impl_earliest N xs st i = some (leastW xs st i, ()) := by
  unfold impl_earliest leastW
  obtain ⟨_, _, hf⟩ := task_factsG ht
  obtain ⟨_, _, _, _, f5, f6, _⟩ := hf i hi
  have hs := h.get i
  simp only [idx_at hi, Option.bind_some]
  exact fold_range hN (n := (xs.getD i NL).2.2.1.length) (by omega) (inv := fun _ => True) (fun s : Int × Int × Unit => s.2.1)
    (fun l s => some (l.foldl (fun m k => imax m (w64 (w64 (st.getD ((xs.getD i NL).2.2.1.getD k 0).toNat 0 + (xs.getD ((xs.getD i NL).2.2.1.getD k 0).toNat NL).1) + (xs.getD i NL).2.2.2.getD k 0))) s.1, ()))
    (fun s next _ h => by simp only [h, Int.lt_irrefl, decide_false, cond_false, List.foldl_nil])
    (fun k s next r _ h1 h2 h3 hn => by
      have hb := f6 k h2
      have e1 : idx st ((xs.getD i NL).2.2.1.getD k 0) = some (st.getD ((xs.getD i NL).2.2.1.getD k 0).toNat 0) := idx_getD (by omega)
      have e2 : idx xs ((xs.getD i NL).2.2.1.getD k 0) = some (xs.getD ((xs.getD i NL).2.2.1.getD k 0).toNat NL) := idx_get NL (by omega)
      simp only [h1, show decide ((k : Int) < ((xs.getD i NL).2.2.1.length : Int)) = true from by simpa using h2, cond_true, idx_int h2, idx_int (show k < (xs.getD i NL).2.2.2.length by omega), Option.bind_some, e1, e2, h3, List.foldl_cons]
      exact hn _ trivial rfl)
    (s := (0, 0, ())) trivial rfl

theorem earlyG_eq {xs : List Tk} (h : Small 1048576 xs) (ht : TasksG xs) :
    ∃ es, spec_l03Early N xs = some (es, ()) ∧ impl_earlyStarts N xs = some (es, ()) ∧ es.length = xs.length := by
  unfold spec_l03Early impl_earlyStarts
  obtain ⟨f1, f2, f3⟩ := task_factsG ht
  rw [mkOk_of (by omega), cond_true, cond_true]
  have hr := loop_rel (ρ := List Int × Unit) (I := fun s t : List Int × Int × Unit => s = t ∧ 0 ≤ s.2.1 ∧ s.2.1 ≤ xs.length ∧ s.1.length = xs.length) (μ := fun s => (xs.length - s.2.1).toNat)
    (Q := fun r => r.1.length = xs.length)
    (A := fun (s2 : List (Int) × Int × Unit) next3 =>
      cond (decide (s2.2.1 < (List.length xs : Int)))
        (Option.bind (spec_l03Least N xs s2.1 s2.2.1) fun r4 =>
        cond (inB s2.2.1 (List.length s2.1))
          (let xs5 := (List.set s2.1 (Int.toNat s2.2.1) r4.1)
          next3 (xs5, (w64 (s2.2.1 + 1)), ())) none)
        (some (s2.1, ())))
    (B := fun (s2 : List (Int) × Int × Unit) next3 =>
      cond (decide (s2.2.1 < (List.length xs : Int)))
        (Option.bind (impl_earliest N xs s2.1 s2.2.1) fun r4 =>
        cond (inB s2.2.1 (List.length s2.1))
          (let xs5 := (List.set s2.1 (Int.toNat s2.2.1) r4.1)
          next3 (xs5, (w64 (s2.2.1 + 1)), ())) none)
        (some (s2.1, ())))
    (by
      rintro ⟨a, i, u⟩ _ nA nB ⟨rfl, h1, h2, h3⟩ hn
      simp only at h1 h2 h3 ⊢
      by_cases hi : i < (xs.length : Int)
      · obtain ⟨k, rfl⟩ : ∃ k : Nat, i = (k : Int) := ⟨i.toNat, by omega⟩
        have hk : k < xs.length := by omega
        simp only [hi, decide_true, cond_true, l03LeastG_eq hN h ht h3 hk, earliestG_eq hN h ht h3 hk, Option.bind_some, inB_of (n := (k : Int)) (len := a.length) (by omega), w64_in (n := (k : Int) + 1) (by omega)]
        exact hn _ _ ⟨rfl, by simp only; omega, by simp only; omega, by simp only [List.length_set]; exact h3⟩ (by simp only; omega)
      · simp only [hi, decide_false, cond_false]
        exact ⟨_, rfl, rfl, h3⟩) N N (List.replicate (Int.toNat (xs.length : Int)) 0, 0, ()) (List.replicate (Int.toNat (xs.length : Int)) 0, 0, ())
    ⟨rfl, Int.le_refl _, by simp only; omega, by simp⟩ (by simp only; omega) (by simp only; omega)
  obtain ⟨⟨es, u⟩, e1, e2, e3⟩ := hr
  exact ⟨es, e1, e2, e3⟩

theorem latestG_eq {xs : List Tk} {st : List Int} (h : Small 1048576 xs) (ht : TasksG xs) (hl : st.length = xs.length) {i : Nat} (hi : i < xs.length) {e : Int} :
    ∃ g, spec_l03Greatest N xs st i e = some (g, ()) ∧ impl_latest N xs st i e = some (g, ()) ∧ g ≤ w64 (e - (xs.getD i NL).1) := by
  unfold spec_l03Greatest impl_latest
  obtain ⟨f1, f2, f3⟩ := task_factsG ht
  simp only [idx_at hi, Option.bind_some, w64_in (n := (i : Int) + 1) (by omega)]
  have fin : ∀ {A B : Option (Int × Unit)}, (∃ r, A = some r ∧ B = some r ∧ r.1 ≤ w64 (e - (xs.getD i NL).1)) → ∃ g, A = some (g, ()) ∧ B = some (g, ()) ∧ g ≤ w64 (e - (xs.getD i NL).1) := by
    rintro A B ⟨⟨g, u⟩, h1, h2, h3⟩
    exact ⟨g, h1, h2, h3⟩
  refine fin (loop_rel (I := fun s t : Int × Int × Unit => s = t ∧ 0 ≤ s.2.1 ∧ s.2.1 ≤ xs.length ∧ s.1 ≤ w64 (e - (xs.getD i NL).1)) (μ := fun s => (xs.length - s.2.1).toNat) (Q := fun r : Int × Unit => r.1 ≤ w64 (e - (xs.getD i NL).1)) ?_ N N _ _
    ⟨rfl, by simp only; omega, by simp only; omega, Int.le_refl _⟩ (by simp only; omega) (by simp only; omega))
  rintro ⟨m, j, u⟩ _ nA nB ⟨rfl, h1, h2, h3⟩ hn
  simp only at h1 h2 h3 ⊢
  by_cases hj : j < (xs.length : Int)
  · obtain ⟨k, rfl⟩ : ∃ k : Nat, j = (k : Int) := ⟨j.toNat, by omega⟩
    have hk : k < xs.length := by omega
    have hks := h.get k
    obtain ⟨_, _, _, _, f5, f6, _⟩ := f3 k hk
    have hinc := incr_ofG ht hk
    have hp := fold_find (fun q => (xs.getD k NL).2.2.1.getD q 0 == (i : Int)) (fun q => w64 (w64 (st.getD k 0 - (xs.getD k NL).2.2.2.getD q 0) - (xs.getD i NL).1)) (List.range (xs.getD k NL).2.2.1.length) m
      (pair_range fun a b hab hb' => by
        have := hinc a b hab hb'
        simp only [beq_iff_eq]
        omega)
    have hA : loopN (fun (s5 : Int × Int × Unit) next6 =>
        cond (decide (s5.2.1 < (List.length (xs.getD k NL).2.2.1 : Int)))
          (Option.bind (idx xs (k : Int)) fun v7 =>
          Option.bind (idx v7.2.2.1 s5.2.1) fun v8 =>
          cond (v8 == (i : Int))
            (Option.bind (idx st (k : Int)) fun v9 =>
            Option.bind (idx xs (k : Int)) fun v10 =>
            Option.bind (idx v10.2.2.2 s5.2.1) fun v11 =>
            Option.bind (idx xs (i : Int)) fun v12 =>
            Option.bind (spec_l00Min N s5.1 (w64 ((w64 (v9 - v11)) - v12.1))) fun r13 =>
            next6 (r13.1, (w64 (s5.2.1 + 1)), ()))
            (next6 (s5.1, (w64 (s5.2.1 + 1)), ())))
          (nA (s5.1, (w64 ((k : Int) + 1)), ()))) N (m, 0, ()) =
        nA ((List.range (xs.getD k NL).2.2.1.length).foldl (fun m q => cond ((xs.getD k NL).2.2.1.getD q 0 == (i : Int)) (imin m (w64 (w64 (st.getD k 0 - (xs.getD k NL).2.2.2.getD q 0) - (xs.getD i NL).1))) m) m, (k : Int) + 1, ()) :=
      fold_range hN (n := (xs.getD k NL).2.2.1.length) (by omega) (inv := fun _ => True) (fun s : Int × Int × Unit => s.2.1)
        (fun l s => nA (l.foldl (fun m q => cond ((xs.getD k NL).2.2.1.getD q 0 == (i : Int)) (imin m (w64 (w64 (st.getD k 0 - (xs.getD k NL).2.2.2.getD q 0) - (xs.getD i NL).1))) m) s.1, (k : Int) + 1, ()))
        (fun s next _ h => by simp only [h, Int.lt_irrefl, decide_false, cond_false, List.foldl_nil, w64_in (n := (k : Int) + 1) (by omega)])
        (fun q s next r _ g1 g2 g3 hn' => by
          simp only [g1, show decide ((q : Int) < ((xs.getD k NL).2.2.1.length : Int)) = true from by simpa using g2, cond_true, idx_at hk, idx_int g2, Option.bind_some, List.foldl_cons]
          cases (xs.getD k NL).2.2.1.getD q 0 == (i : Int)
          · simp only [cond_false, g3]
            exact hn' _ trivial rfl
          · simp only [cond_true, idx_int (show k < st.length by omega), idx_int (show q < (xs.getD k NL).2.2.2.length by omega), idx_at hi, Option.bind_some, l00Min_eq, g3]
            exact hn' _ trivial rfl)
        (s := (m, 0, ())) trivial rfl
    simp only [hj, decide_true, cond_true, idx_at hk, Option.bind_some]
    simp only [idx_at hk, idx_at hi, Option.bind_some] at hA
    rw [hA, hp, index_eq hN (by omega)]
    simp only [Option.bind_some]
    cases hf : (List.range (xs.getD k NL).2.2.1.length).find? (fun q => (xs.getD k NL).2.2.1.getD q 0 == (i : Int)) with
    | none =>
      simp only [idxO, Option.elim, show decide ((-1 : Int) ≥ 0) = false from rfl, cond_false, w64_in (n := (k : Int) + 1) (by omega)]
      exact hn _ _ ⟨rfl, by simp only; omega, by simp only; omega, h3⟩ (by simp only; omega)
    | some q =>
      have hq : q < (xs.getD k NL).2.2.1.length := List.mem_range.1 (List.mem_of_find?_eq_some hf)
      simp only [idxO, Option.elim, show decide ((q : Int) ≥ 0) = true from by simp, cond_true, idx_int (show k < st.length by omega), idx_int (show q < (xs.getD k NL).2.2.2.length by omega), idx_at hi, Option.bind_some, w64_in (n := (k : Int) + 1) (by omega)]
      refine hn _ _ ⟨rfl, by simp only; omega, by simp only; omega, ?_⟩ (by simp only; omega)
      simp only
      unfold imin
      split <;> omega
  · simp only [hj, decide_false, cond_false]
    exact ⟨_, rfl, rfl, h3⟩

theorem lateG_eq {xs : List Tk} (h : Small 1048576 xs) (ht : TasksG xs) {e : Int} : ∃ ls, spec_l03Late N xs e = some (ls, ()) ∧ impl_lateStarts N xs e = some (ls, ()) ∧ ls.length = xs.length := by
  unfold spec_l03Late impl_lateStarts
  obtain ⟨f1, f2, f3⟩ := task_factsG ht
  rw [mkOk_of (by omega), cond_true, cond_true]
  have hr := loop_rel (ρ := List Int × Unit) (I := fun s t : List Int × Int × Unit => s = t ∧ -1 ≤ s.2.1 ∧ s.2.1 < xs.length ∧ s.1.length = xs.length) (μ := fun s => (s.2.1 + 1).toNat) (Q := fun r => r.1.length = xs.length)
    (A := fun (s2 : List (Int) × Int × Unit) next3 =>
      cond (decide (s2.2.1 ≥ 0))
        (Option.bind (spec_l03Greatest N xs s2.1 s2.2.1 e) fun r4 =>
        cond (inB s2.2.1 (List.length s2.1))
          (let xs5 := (List.set s2.1 (Int.toNat s2.2.1) r4.1)
          next3 (xs5, (w64 (s2.2.1 - 1)), ())) none)
        (some (s2.1, ())))
    (B := fun (s2 : List (Int) × Int × Unit) next3 =>
      cond (decide (s2.2.1 ≥ 0))
        (Option.bind (impl_latest N xs s2.1 s2.2.1 e) fun r4 =>
        cond (inB s2.2.1 (List.length s2.1))
          (let xs5 := (List.set s2.1 (Int.toNat s2.2.1) r4.1)
          next3 (xs5, (w64 (s2.2.1 - 1)), ())) none)
        (some (s2.1, ())))
    (by
      rintro ⟨a, i, u⟩ _ nA nB ⟨rfl, h1, h2, h3⟩ hn
      simp only at h1 h2 h3 ⊢
      by_cases hi : i ≥ 0
      · obtain ⟨k, rfl⟩ : ∃ k : Nat, i = (k : Int) := ⟨i.toNat, by omega⟩
        have hk : k < xs.length := by omega
        obtain ⟨g, g1, g2, _⟩ := latestG_eq hN h ht h3 hk (e := e)
        simp only [hi, decide_true, cond_true, g1, g2, Option.bind_some, inB_of (n := (k : Int)) (len := a.length) (by omega), w64_in (n := (k : Int) - 1) (by omega)]
        exact hn _ _ ⟨rfl, by simp only; omega, by simp only; omega, by simp only [List.length_set]; exact h3⟩ (by simp only; omega)
      · simp only [hi, decide_false, cond_false]
        exact ⟨_, rfl, rfl, h3⟩) N N (List.replicate (Int.toNat (xs.length : Int)) 0, (w64 ((xs.length : Int) - 1)), ()) (List.replicate (Int.toNat (xs.length : Int)) 0, (w64 ((xs.length : Int) - 1)), ())
    ⟨rfl, by simp only; rw [w64_in (by omega)]; omega, by simp only; rw [w64_in (by omega)]; omega, by simp⟩ (by simp only; rw [w64_in (by omega)]; omega) (by simp only; rw [w64_in (by omega)]; omega)
  obtain ⟨⟨ls, u⟩, e1, e2, e3⟩ := hr
  exact ⟨ls, e1, e2, e3⟩

theorem slackG_eq {xs : List Tk} (h : Small 1048576 xs) (ht : TasksG xs) : ∃ l, spec_l03Slack N xs = some (l, ()) ∧ impl_slack N xs = some (l, ()) ∧ l.length = xs.length := by
  unfold spec_l03Slack impl_slack
  obtain ⟨es, e1, e2, e3⟩ := earlyG_eq hN h ht
  obtain ⟨ls, d1, d2, d3⟩ := lateG_eq hN h ht (e := endW xs es)
  have hl := h.1
  have fin : ∀ {A B : Option (List Int × Unit)}, (∃ r, A = some r ∧ B = some r ∧ r.1.length = xs.length) → ∃ g, A = some (g, ()) ∧ B = some (g, ()) ∧ g.length = xs.length := by
    rintro A B ⟨⟨g, u⟩, h1, h2, h3⟩
    exact ⟨g, h1, h2, h3⟩
  simp only [e1, e2, Option.bind_some, l03End_eq hN (xs := xs) (by omega) e3, lastEnd_eq hN (xs := xs) (by omega) e3, d1, d2]
  refine fin (loop_rel (I := fun s t : List Int × Int × Unit => s.2.1 = t.2.1 ∧ 0 ≤ s.2.1 ∧ s.2.1 ≤ ls.length ∧ t.1.length = ls.length ∧ s.1 = t.1.take s.2.1.toNat ∧ t.1.drop s.2.1.toNat = ls.drop s.2.1.toNat) (μ := fun s => (ls.length - s.2.1).toNat) (Q := fun r : List Int × Unit => r.1.length = xs.length) ?_ N N _ _
    ⟨rfl, Int.le_refl _, by simp only; omega, rfl, by simp, rfl⟩ (by simp only; omega) (by simp only; omega))
  rintro ⟨a, i, u⟩ ⟨b, i', u'⟩ nA nB ⟨hi', h1, h2, h3, h4, h5⟩ hn
  simp only at hi' h1 h2 h3 h4 h5 ⊢
  subst hi'
  by_cases hi : i < (ls.length : Int)
  · have hlt : i.toNat < ls.length := by omega
    have hg : b.getD i.toNat 0 = ls.getD i.toNat 0 := by
      have := congrArg (fun l => l.getD 0 0) h5
      simpa [List.getD_eq_getElem?_getD, List.getElem?_drop] using this
    have hla : a.length = i.toNat := by rw [h4, List.length_take]; omega
    simp only [hi, decide_true, cond_true, inB_of (n := i) (len := ls.length) (by omega), inB_of (n := i) (len := es.length) (by omega), inB_of (n := i) (len := b.length) (by omega), get_getD 0 (xs := ls) (n := i.toNat) (by omega), get_getD 0 (xs := es) (n := i.toNat) (by omega),
      get_getD 0 (xs := b) (n := i.toNat) (by omega), Option.bind_some, w64_in (n := i + 1) (by omega), hg, appOk_of (n := a.length) (m := ([w64 (ls.getD i.toNat 0 - es.getD i.toNat 0)] : List Int).length) (by simp; omega)]
    refine hn _ _ ⟨rfl, by simp only; omega, by simp only; omega, by simp only [List.length_set]; exact h3, ?_, ?_⟩ (by simp only; omega)
    · simp only
      rw [show (i + 1).toNat = i.toNat + 1 by omega, take_set (by omega), ← h4]
    · simp only
      rw [show (i + 1).toNat = i.toNat + 1 by omega, List.drop_set_of_lt (by omega), ← List.drop_drop, ← List.drop_drop, h5]
  · simp only [hi, decide_false, cond_false, h3]
    rw [List.take_of_length_le (by omega)] at h4
    subst h4
    exact ⟨_, rfl, rfl, by simp only; omega⟩
end

end Go.Proofs.Ytmdicmdodbndgaa
