/-
  Projects: least and greatest starts; CrewUse, EarlyStarts, LateStarts, BehindOf, PlanBound, LevelPlan. No condition.
-/
import Derived.Test.YtmdicmdodbndgaaPlan
namespace Go.Proofs.Ytmdicmdodbndgaa
open Go Go.Proofs.Ytmdicmdodbndgaa.Fw
set_option linter.unusedVariables false
set_option linter.unusedSimpArgs false

theorem markTS_eq {xs : List Tk} (h : Small 1048576 xs) : laws_markTaskS_d xs 1 = some (1 + tksLen xs) := by
  unfold laws_markTaskS_d
  have h1 := tksLen_le xs h.2
  have h2 := h.1
  rw [decide_eq_true (show (0 : Int) ≤ 1 by omega), decide_eq_true (show 1 + tksLen xs ≤ 4611686018427387904 by omega)]
  rfl

theorem incr_of {i : Nat} {t : Tk} (h : taskOk i t = true) : ∀ a b, a < b → b < t.2.2.1.length → t.2.2.1.getD a 0 < t.2.2.1.getD b 0 := by
  unfold taskOk at h
  simp only [Bool.and_eq_true] at h
  obtain ⟨_, _, _, _, g⟩ := h
  have step : ∀ k, k + 1 < t.2.2.1.length → t.2.2.1.getD k 0 < t.2.2.1.getD (k + 1) 0 := fun k hk => by
    have := List.all_eq_true.1 g (k + 1) (List.mem_range.2 hk)
    simp only [Bool.and_eq_true, Bool.or_eq_true, decide_eq_true_eq] at this
    exact this.2.resolve_left (by omega)
  intro a b hab
  induction b with
  | zero => omega
  | succ b ih =>
    intro hb
    have h1 := step b hb
    rcases Nat.lt_or_eq_of_le (Nat.le_of_lt_succ hab) with h2 | h2
    · have := ih h2 (by omega)
      omega
    · subst h2
      exact h1

theorem fold_find (p : Nat → Bool) (f : Nat → Int) : ∀ (l : List Nat) (m : Int), l.Pairwise (fun a b => ¬ (p a = true ∧ p b = true)) →
    l.foldl (fun m k => cond (p k) (imin m (f k)) m) m = match l.find? p with | some k => imin m (f k) | none => m
  | [], m, _ => rfl
  | x :: l, m, h => by
    rw [List.pairwise_cons] at h
    rw [List.foldl_cons, List.find?_cons]
    cases hx : p x
    · exact fold_find p f l m h.2
    · simp only [cond_true]
      have : ∀ (l : List Nat) (m : Int), (∀ y ∈ l, p y = false) → l.foldl (fun m k => cond (p k) (imin m (f k)) m) m = m := by
        intro l
        induction l with
        | nil => intro m _; rfl
        | cons y l ih =>
          intro m hl
          rw [List.foldl_cons, hl y List.mem_cons_self]
          exact ih m (fun z hz => hl z (List.mem_cons_of_mem _ hz))
      exact this l _ (fun y hy => by
        have := h.1 y hy
        rw [hx] at this
        cases hy2 : p y
        · rfl
        · exact absurd ⟨rfl, hy2⟩ this)

def idxO (o : Option Nat) : Int := o.elim (-1) (fun k => (k : Int))

theorem pair_range {n : Nat} {R : Nat → Nat → Prop} (h : ∀ a b, a < b → b < n → R a b) : (List.range n).Pairwise R := by
  rw [List.pairwise_iff_getElem]
  intro i j hi hj hij
  rw [List.length_range] at hi hj
  simp only [List.getElem_range]
  exact h i j hij hj

theorem least_bound {xs : List Tk} {st : List Int} (ht : tasksOk xs = true) {i : Nat} (hi : i < xs.length) (hs : ∀ j, 0 ≤ st.getD j 0 ∧ st.getD j 0 ≤ 200 * (j : Int)) : 0 ≤ leastW xs st i ∧ leastW xs st i ≤ 200 * (i : Int) := by
  unfold leastW
  refine ⟨(foldmax_ge (fun k => w64 (w64 (st.getD ((xs.getD i NL).2.2.1.getD k 0).toNat 0 + (xs.getD ((xs.getD i NL).2.2.1.getD k 0).toNat NL).1) + (xs.getD i NL).2.2.2.getD k 0)) (List.range (xs.getD i NL).2.2.1.length) 0).1,
    foldmax_le (fun k => w64 (w64 (st.getD ((xs.getD i NL).2.2.1.getD k 0).toNat 0 + (xs.getD ((xs.getD i NL).2.2.1.getD k 0).toNat NL).1) + (xs.getD i NL).2.2.2.getD k 0)) _ _ (by omega) (fun k hk => ?_)⟩
  obtain ⟨g1, g2, f3⟩ := task_facts ht
  obtain ⟨_, _, _, _, f5, f6, f7⟩ := f3 i hi
  have hk' := List.mem_range.1 hk
  have hb := f6 k hk'
  have hl := f7 k (by omega)
  have h1 := hs ((xs.getD i NL).2.2.1.getD k 0).toNat
  obtain ⟨h2, h3, _⟩ := f3 ((xs.getD i NL).2.2.1.getD k 0).toNat (by omega)
  rw [w64_in (n := st.getD ((xs.getD i NL).2.2.1.getD k 0).toNat 0 + (xs.getD ((xs.getD i NL).2.2.1.getD k 0).toNat NL).1) (by omega), w64_in (by omega)]
  omega

theorem getD_rep (n j : Nat) : (List.replicate n (0 : Int)).getD j 0 = 0 := by
  rw [List.getD_eq_getElem?_getD, List.getElem?_replicate]
  split <;> rfl

section
variable {N : Nat} (hN : 9223372036854775808 ≤ N)
include hN

theorem early_eq {xs : List Tk} (h : Small 1048576 xs) (ht : tasksOk xs = true) :
    ∃ es, spec_l03Early N xs = some (es, ()) ∧ impl_earlyStarts N xs = some (es, ()) ∧ es.length = xs.length ∧ ∀ j, 0 ≤ es.getD j 0 ∧ es.getD j 0 ≤ 200 * (j : Int) := by
  unfold spec_l03Early impl_earlyStarts
  obtain ⟨f1, f2, f3⟩ := task_facts ht
  rw [mkOk_of (by omega), cond_true, cond_true]
  have hr := loop_rel (ρ := List Int × Unit) (I := fun s t : List Int × Int × Unit => s = t ∧ 0 ≤ s.2.1 ∧ s.2.1 ≤ xs.length ∧ s.1.length = xs.length ∧ ∀ j, 0 ≤ s.1.getD j 0 ∧ s.1.getD j 0 ≤ 200 * (j : Int)) (μ := fun s => (xs.length - s.2.1).toNat)
    (Q := fun r => r.1.length = xs.length ∧ ∀ j, 0 ≤ r.1.getD j 0 ∧ r.1.getD j 0 ≤ 200 * (j : Int))
    (A := fun (s2 : List (Int) × Int × Unit) next3 =>
      cond (decide (s2.2.1 < (List.length xs : Int)))
        (Option.bind (spec_l03Least N xs s2.1 s2.2.1) fun r4 =>
        cond (inB s2.2.1 (List.length s2.1))
          (let xs5 := (List.set s2.1 (Int.toNat s2.2.1) r4.1)
          next3 (xs5, (w64 (s2.2.1 + 1)), ())) none)
        (some (s2.1, ())))
    (B := fun (s2 : List (Int) × Int × Unit) next3 =>
      cond (decide (s2.2.1 < (List.length xs : Int)))
        (Option.bind (impl_earliest N xs s2.1 s2.2.1) fun r4 =>
        cond (inB s2.2.1 (List.length s2.1))
          (let xs5 := (List.set s2.1 (Int.toNat s2.2.1) r4.1)
          next3 (xs5, (w64 (s2.2.1 + 1)), ())) none)
        (some (s2.1, ())))
    (by
      rintro ⟨a, i, u⟩ _ nA nB ⟨rfl, h1, h2, h3, h4⟩ hn
      simp only at h1 h2 h3 h4 ⊢
      by_cases hi : i < (xs.length : Int)
      · obtain ⟨k, rfl⟩ : ∃ k : Nat, i = (k : Int) := ⟨i.toNat, by omega⟩
        have hk : k < xs.length := by omega
        have hb := least_bound ht hk h4
        simp only [hi, decide_true, cond_true, l03Least_eq hN h ht h3 hk, earliest_eq hN h ht h3 hk, Option.bind_some, inB_of (n := (k : Int)) (len := a.length) (by omega), w64_in (n := (k : Int) + 1) (by omega)]
        refine hn _ _ ⟨rfl, by simp only; omega, by simp only; omega, by simp only [List.length_set]; exact h3, fun j => ?_⟩ (by simp only; omega)
        simp only
        rw [getD_set (by omega)]
        split
        · rename_i he
          subst he
          simpa using hb
        · exact h4 j
      · simp only [hi, decide_false, cond_false]
        exact ⟨_, rfl, rfl, h3, h4⟩) N N (List.replicate (Int.toNat (xs.length : Int)) 0, 0, ()) (List.replicate (Int.toNat (xs.length : Int)) 0, 0, ())
    ⟨rfl, Int.le_refl _, by simp only; omega, by simp, fun j => by simp only; rw [getD_rep]; omega⟩ (by simp only; omega) (by simp only; omega)
  obtain ⟨⟨es, u⟩, e1, e2, e3, e4⟩ := hr
  exact ⟨es, e1, e2, e3, e4⟩

theorem index_eq {b : List Int} {v : Int} (hb : b.length ≤ 4294967296) : slices_Index_int64_int64 N b v = some (idxO ((List.range b.length).find? (fun k => b.getD k 0 == v)), ()) := by
  unfold slices_Index_int64_int64
  exact fold_range hN hb (inv := fun _ => True) (fun s : Int × Unit => s.1) (fun l _ => some (idxO (l.find? (fun k => b.getD k 0 == v)), ()))
    (fun s next _ h => by simp only [h, Int.lt_irrefl, decide_false, cond_false, List.find?_nil, idxO, Option.elim])
    (fun k s next r _ h1 h2 h3 hn => by
      simp only [h1, show decide ((k : Int) < (b.length : Int)) = true from by simpa using h2, cond_true, idx_int h2, Option.bind_some, h3, List.find?_cons]
      rw [show (v == b.getD k 0) = (b.getD k 0 == v) from by rw [Bool.beq_comm]]
      cases b.getD k 0 == v
      · exact hn _ trivial rfl
      · rfl)
    (s := (0, ())) trivial rfl

theorem latest_eq {xs : List Tk} {st : List Int} (h : Small 1048576 xs) (ht : tasksOk xs = true) (hl : st.length = xs.length) {i : Nat} (hi : i < xs.length) {e : Int} :
    ∃ g, spec_l03Greatest N xs st i e = some (g, ()) ∧ impl_latest N xs st i e = some (g, ()) ∧ g ≤ w64 (e - (xs.getD i NL).1) := by
  unfold spec_l03Greatest impl_latest
  obtain ⟨f1, f2, f3⟩ := task_facts ht
  simp only [idx_at hi, Option.bind_some, w64_in (n := (i : Int) + 1) (by omega)]
  have fin : ∀ {A B : Option (Int × Unit)}, (∃ r, A = some r ∧ B = some r ∧ r.1 ≤ w64 (e - (xs.getD i NL).1)) → ∃ g, A = some (g, ()) ∧ B = some (g, ()) ∧ g ≤ w64 (e - (xs.getD i NL).1) := by
    rintro A B ⟨⟨g, u⟩, h1, h2, h3⟩
    exact ⟨g, h1, h2, h3⟩
  refine fin (loop_rel (I := fun s t : Int × Int × Unit => s = t ∧ 0 ≤ s.2.1 ∧ s.2.1 ≤ xs.length ∧ s.1 ≤ w64 (e - (xs.getD i NL).1)) (μ := fun s => (xs.length - s.2.1).toNat) (Q := fun r : Int × Unit => r.1 ≤ w64 (e - (xs.getD i NL).1)) ?_ N N _ _
    ⟨rfl, by simp only; omega, by simp only; omega, Int.le_refl _⟩ (by simp only; omega) (by simp only; omega))
  rintro ⟨m, j, u⟩ _ nA nB ⟨rfl, h1, h2, h3⟩ hn
  simp only at h1 h2 h3 ⊢
  by_cases hj : j < (xs.length : Int)
  · obtain ⟨k, rfl⟩ : ∃ k : Nat, j = (k : Int) := ⟨j.toNat, by omega⟩
    have hk : k < xs.length := by omega
    have hks := h.get k
    obtain ⟨_, _, _, _, f5, f6, _⟩ := f3 k hk
    have hok : taskOk k (xs.getD k NL) = true := by
      unfold tasksOk at ht
      simp only [Bool.and_eq_true] at ht
      exact List.all_eq_true.1 ht.1 k (List.mem_range.2 hk)
    have hinc := incr_of hok
    have hp := fold_find (fun q => (xs.getD k NL).2.2.1.getD q 0 == (i : Int)) (fun q => w64 (w64 (st.getD k 0 - (xs.getD k NL).2.2.2.getD q 0) - (xs.getD i NL).1)) (List.range (xs.getD k NL).2.2.1.length) m
      (pair_range fun a b hab hb' => by
        have := hinc a b hab hb'
        simp only [beq_iff_eq]
        omega)
    have hA : loopN (fun (s5 : Int × Int × Unit) next6 =>
        cond (decide (s5.2.1 < (List.length (xs.getD k NL).2.2.1 : Int)))
          (Option.bind (idx xs (k : Int)) fun v7 =>
          Option.bind (idx v7.2.2.1 s5.2.1) fun v8 =>
          cond (v8 == (i : Int))
            (Option.bind (idx st (k : Int)) fun v9 =>
            Option.bind (idx xs (k : Int)) fun v10 =>
            Option.bind (idx v10.2.2.2 s5.2.1) fun v11 =>
            Option.bind (idx xs (i : Int)) fun v12 =>
            Option.bind (spec_l00Min N s5.1 (w64 ((w64 (v9 - v11)) - v12.1))) fun r13 =>
            next6 (r13.1, (w64 (s5.2.1 + 1)), ()))
            (next6 (s5.1, (w64 (s5.2.1 + 1)), ())))
          (nA (s5.1, (w64 ((k : Int) + 1)), ()))) N (m, 0, ()) =
        nA ((List.range (xs.getD k NL).2.2.1.length).foldl (fun m q => cond ((xs.getD k NL).2.2.1.getD q 0 == (i : Int)) (imin m (w64 (w64 (st.getD k 0 - (xs.getD k NL).2.2.2.getD q 0) - (xs.getD i NL).1))) m) m, (k : Int) + 1, ()) :=
      fold_range hN (n := (xs.getD k NL).2.2.1.length) (by omega) (inv := fun _ => True) (fun s : Int × Int × Unit => s.2.1)
        (fun l s => nA (l.foldl (fun m q => cond ((xs.getD k NL).2.2.1.getD q 0 == (i : Int)) (imin m (w64 (w64 (st.getD k 0 - (xs.getD k NL).2.2.2.getD q 0) - (xs.getD i NL).1))) m) s.1, (k : Int) + 1, ()))
        (fun s next _ h => by simp only [h, Int.lt_irrefl, decide_false, cond_false, List.foldl_nil, w64_in (n := (k : Int) + 1) (by omega)])
        (fun q s next r _ g1 g2 g3 hn' => by
          simp only [g1, show decide ((q : Int) < ((xs.getD k NL).2.2.1.length : Int)) = true from by simpa using g2, cond_true, idx_at hk, idx_int g2, Option.bind_some, List.foldl_cons]
          cases (xs.getD k NL).2.2.1.getD q 0 == (i : Int)
          · simp only [cond_false, g3]
            exact hn' _ trivial rfl
          · simp only [cond_true, idx_int (show k < st.length by omega), idx_int (show q < (xs.getD k NL).2.2.2.length by omega), idx_at hi, Option.bind_some, l00Min_eq, g3]
            exact hn' _ trivial rfl)
        (s := (m, 0, ())) trivial rfl
    simp only [hj, decide_true, cond_true, idx_at hk, Option.bind_some]
    simp only [idx_at hk, idx_at hi, Option.bind_some] at hA
    rw [hA, hp, index_eq hN (by omega)]
    simp only [Option.bind_some]
    cases hf : (List.range (xs.getD k NL).2.2.1.length).find? (fun q => (xs.getD k NL).2.2.1.getD q 0 == (i : Int)) with
    | none =>
      simp only [idxO, Option.elim, show decide ((-1 : Int) ≥ 0) = false from rfl, cond_false, w64_in (n := (k : Int) + 1) (by omega)]
      exact hn _ _ ⟨rfl, by simp only; omega, by simp only; omega, h3⟩ (by simp only; omega)
    | some q =>
      have hq : q < (xs.getD k NL).2.2.1.length := List.mem_range.1 (List.mem_of_find?_eq_some hf)
      simp only [idxO, Option.elim, show decide ((q : Int) ≥ 0) = true from by simp, cond_true, idx_int (show k < st.length by omega), idx_int (show q < (xs.getD k NL).2.2.2.length by omega), idx_at hi, Option.bind_some, w64_in (n := (k : Int) + 1) (by omega)]
      refine hn _ _ ⟨rfl, by simp only; omega, by simp only; omega, ?_⟩ (by simp only; omega)
      simp only
      unfold imin
      split <;> omega
  · simp only [hj, decide_false, cond_false]
    exact ⟨_, rfl, rfl, h3⟩
end

end Go.Proofs.Ytmdicmdodbndgaa
