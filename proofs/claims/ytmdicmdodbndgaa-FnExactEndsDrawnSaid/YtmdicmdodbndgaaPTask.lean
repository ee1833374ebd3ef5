/-
  Plain rules for the functions of tasks: sizes, copies, comparison, what tasks must be. No condition.
-/
import Derived.Test.YtmdicmdodbndgaaPB
import Derived.Test.YtmdicmdodbndgaaFwT
namespace Go.Proofs.Ytmdicmdodbndgaa
open Go Go.Proofs.Ytmdicmdodbndgaa.Fw
set_option linter.unusedVariables false
set_option linter.unusedSimpArgs false

abbrev Tk := Int × Int × (List Int) × List Int

/-- Lengths that fit. -/
def Small (n : Nat) (xs : List Tk) : Prop := xs.length ≤ n ∧ ∀ t ∈ xs, t.2.2.1.length ≤ n ∧ t.2.2.2.length ≤ n

theorem Small.mono {n m : Nat} {xs : List Tk} (h : Small n xs) (hm : n ≤ m) : Small m xs :=
  ⟨Nat.le_trans h.1 hm, fun t ht => ⟨Nat.le_trans (h.2 t ht).1 hm, Nat.le_trans (h.2 t ht).2 hm⟩⟩

def NL : Tk := (0, 0, [], [])

theorem Small.get {n : Nat} {xs : List Tk} (h : Small n xs) (k : Nat) : (xs.getD k NL).2.2.1.length ≤ n ∧ (xs.getD k NL).2.2.2.length ≤ n := by
  by_cases hk : k < xs.length
  · exact h.2 _ (by simp [hk])
  · rw [List.getD_eq_getElem?_getD, List.getElem?_eq_none (Nat.le_of_not_lt hk)]
    simp [NL]

theorem idx_at {xs : List Tk} {n : Nat} (h : n < xs.length) : idx xs (n : Int) = some (xs.getD n NL) := by
  rw [idx_get NL (by omega)]
  simp

theorem idx_int {xs : List Int} {n : Nat} (h : n < xs.length) : idx xs (n : Int) = some (xs.getD n 0) := by
  rw [idx_get 0 (by omega)]
  simp

/-- What a task at place i must be. -/
def taskOk (i : Nat) (t : Tk) : Bool :=
  within 0 100 t.1 && (within 0 20 t.2.1 && (decide (t.2.2.1.length = t.2.2.2.length) && (t.2.2.2.all (within (-100) 100) &&
    (List.range t.2.2.1.length).all fun k => within 0 ((i : Int) - 1) (t.2.2.1.getD k 0) && (decide (k = 0) || decide (t.2.2.1.getD (k - 1) 0 < t.2.2.1.getD k 0)))))

def tasksOk (xs : List Tk) : Bool := (List.range xs.length).all (fun i => taskOk i (xs.getD i NL)) && (decide (1 ≤ xs.length) && decide (xs.length ≤ 16))

theorem all_range (p : Int → Bool) (l : List Int) : (List.range l.length).all (fun k => p (l.getD k 0)) = l.all p := by
  induction l with
  | nil => rfl
  | cons x l ih =>
    rw [List.length_cons, List.range_succ_eq_map, List.all_cons, List.all_map, List.all_cons]
    exact congrArg (fun b => p x && b) (by simpa [Function.comp_def] using ih)

theorem all_and {α : Type} (p q : α → Bool) (l : List α) : l.all (fun k => p k && q k) = (l.all p && l.all q) := by
  induction l with
  | nil => rfl
  | cons x l ih =>
    rw [List.all_cons, ih, List.all_cons, List.all_cons]
    cases p x <;> cases q x <;> cases l.all p <;> rfl

theorem loop_inv {σ ρ : Type} {body : σ → (σ → Option ρ) → Option ρ} {inv : σ → Prop} {μ : σ → Nat} {Q : Option ρ → Prop}
    (h : ∀ s next, inv s → (∀ s', inv s' → μ s' < μ s → Q (next s')) → Q (body s next)) : ∀ n s, inv s → μ s < n → Q (loopN body n s) := by
  intro n
  induction n with
  | zero => intro s _ h; omega
  | succ n ih =>
    intro s hi hm
    exact h s _ hi fun s' hi' hm' => ih s' hi' (by omega)

theorem small_of {xs : List Tk} (h : Wf (.sl (.pair (.int .i64) (.pair (.int .i64) (.pair (.sl (.int .i64)) (.sl (.int .i64)))))) xs) : Small 9223372036854775807 xs :=
  ⟨h.1, fun t ht => ⟨(h.2 t ht).2.2.1.1, (h.2 t ht).2.2.2.1⟩⟩

section
variable {N : Nat} (hN : 9223372036854775808 ≤ N)
include hN

/-- A loop that asks of each place whether it passes. -/
theorem range_loop {ρ : Type} {n : Nat} (hn : n ≤ 4294967296) (p : Nat → Bool) (bad good : Option ρ) {body : (Int × Unit) → ((Int × Unit) → Option ρ) → Option ρ}
    (h0 : ∀ (s : Int × Unit) next, s.1 = (n : Int) → body s next = good)
    (h1 : ∀ (k : Nat) (s : Int × Unit) next, s.1 = (k : Int) → k < n → w64 ((k : Int) + 1) = (k : Int) + 1 → body s next = cond (p k) (next ((k : Int) + 1, ())) bad) :
    loopN body N (0, ()) = cond ((List.range n).all p) good bad := by
  refine all_loop hN (xs := List.range n) (by simpa using hn) p bad good (fun s next h => h0 s next (by simpa using h)) (fun s next v h1' h2 h3 h4 => ?_)
  rw [List.length_range] at h2
  have hv : v = s.1.toNat := by
    rw [show s.1 = ((s.1.toNat : Nat) : Int) by omega, idx_nat] at h3
    rw [List.getElem?_range (by omega)] at h3
    exact (Option.some.inj h3).symm
  subst hv
  have e : ((s.1.toNat : Nat) : Int) = s.1 := by omega
  have := h1 s.1.toNat s next e.symm (by omega) (by rw [e]; exact h4)
  rw [e] at this
  exact this

/-- A loop that copies. -/
theorem copy_gen {α ρ : Type} {xs : List α} {z : α} (hx : xs.length ≤ 4294967296) {body : (List α × Int × Unit) → ((List α × Int × Unit) → Option ρ) → Option ρ} {K : List α → Option ρ}
    (h0 : ∀ (s : List α × Int × Unit) next, s.2.1 = (xs.length : Int) → body s next = K s.1)
    (h1 : ∀ (s : List α × Int × Unit) next v, s.2.1 < (xs.length : Int) → v ∈ xs → idx xs s.2.1 = some v → inB s.2.1 (List.length s.1) = true → w64 (s.2.1 + 1) = s.2.1 + 1 →
      body s next = next (List.set s.1 (Int.toNat s.2.1) v, s.2.1 + 1, ())) :
    loopN body N (List.replicate (Int.toNat (List.length xs : Int)) z, 0, ()) = K xs := by
  have h := loop_list (ρ := ρ) (σ := List α × Int × Unit) (body := body) (xs := xs) (i := fun s => s.2.1) (f := fun _ _ => K xs) (inv := fun s => s.1.length = xs.length ∧ ∀ j : Nat, (j : Int) < s.2.1 → s.1[j]? = xs[j]?) (by omega)
    (fun s next hi hl => by
      obtain ⟨hi1, hi2⟩ := hi
      have hs : s.1 = xs := by
        refine List.ext_getElem? fun j => ?_
        rcases Nat.lt_or_ge j xs.length with h | h
        · exact hi2 j (by omega)
        · rw [List.getElem?_eq_none (by omega), List.getElem?_eq_none h]
      rw [h0 s next hl, hs])
    (fun s next v r hi g1 g2 g3 g4 g5 hn => by
      obtain ⟨hi1, hi2⟩ := hi
      have hb : inB s.2.1 (List.length s.1) = true := by simp [inB, g1, hi1, g2]
      have hmem : v ∈ xs := by
        have : v ∈ xs.drop s.2.1.toNat := by rw [g4]; exact List.mem_cons_self
        exact List.mem_of_mem_drop this
      rw [h1 s next v g2 hmem g3 hb g5]
      refine hn _ ⟨by simp [hi1], fun j hj => ?_⟩ rfl
      simp only at hj ⊢
      rw [List.getElem?_set]
      split
      · rename_i he
        rw [if_pos (by omega)]
        unfold idx at g3
        rw [show decide (0 ≤ s.2.1) = true by simpa using g1] at g3
        rw [← he]
        exact g3.symm
      · exact hi2 j (by omega))
    (N := N) (by omega) (s := (List.replicate (Int.toNat (List.length xs : Int)) z, 0, ())) ⟨by simp, fun j hj => by simp only at hj; omega⟩ (Int.le_refl _) (by simp only; omega)
  exact h

theorem szInt64S_eq {xs : List Int} {k : Int} (hx : xs.length ≤ 9223372036854775807) (hk : 0 ≤ k ∧ k ≤ 1048576) :
    laws_szInt64S N xs k = some (-1, ()) ∨ (laws_szInt64S N xs k = some (k - xs.length, ()) ∧ (xs.length : Int) ≤ k) := by
  have _ := hN
  unfold laws_szInt64S
  rw [w64_in (n := k - (xs.length : Int)) (by omega)]
  by_cases h : k - (xs.length : Int) < 0
  · exact .inl (by simp [h])
  · exact .inr ⟨by simp [h], by omega⟩

theorem szTask_eq {t : Tk} {k : Int} (h1 : t.2.2.1.length ≤ 9223372036854775807) (h2 : t.2.2.2.length ≤ 9223372036854775807) (hk : 0 ≤ k ∧ k ≤ 1048576) :
    laws_szTask N t k = some (-1, ()) ∨ ∃ r, laws_szTask N t k = some (r, ()) ∧ 0 ≤ r ∧ r ≤ k ∧ (t.2.2.1.length : Int) ≤ k ∧ (t.2.2.2.length : Int) ≤ k := by
  unfold laws_szTask
  rcases szInt64S_eq hN h1 hk with e | ⟨e, g⟩
  · exact .inl (by simp [e])
  · rcases szInt64S_eq hN (k := k - t.2.2.1.length) h2 (by omega) with e2 | ⟨e2, g2⟩
    · exact .inl (by simp only [e, Option.bind_some, show decide (k - (t.2.2.1.length : Int) < 0) = false from by simp; omega, cond_false, e2]; rfl)
    · refine .inr ⟨k - t.2.2.1.length - t.2.2.2.length, ?_, by omega, by omega, g, by omega⟩
      simp only [e, Option.bind_some, show decide (k - (t.2.2.1.length : Int) < 0) = false from by simp; omega, cond_false, e2, show decide (k - (t.2.2.1.length : Int) - (t.2.2.2.length : Int) < 0) = false from by simp; omega]

theorem szTaskS_eq {xs : List Tk} {k : Int} (hx : Small 9223372036854775807 xs) (hk : 0 ≤ k ∧ k ≤ 1048576) :
    laws_szTaskS N xs k = some (-1, ()) ∨ ∃ r, laws_szTaskS N xs k = some (r, ()) ∧ 0 ≤ r ∧ r ≤ k ∧ Small 1048576 xs := by
  unfold laws_szTaskS
  rw [w64_in (n := k - (xs.length : Int)) (by have := hx.1; omega)]
  by_cases h : k - (xs.length : Int) < 0
  · exact .inl (by simp [h])
  · simp only [h, decide_false, cond_false]
    refine loop_inv (Q := fun o : Option (Int × Unit) => o = some (-1, ()) ∨ ∃ r, o = some (r, ()) ∧ 0 ≤ r ∧ r ≤ k ∧ Small 1048576 xs)
      (inv := fun s : Int × Int × Unit => 0 ≤ s.1 ∧ s.1 ≤ k ∧ 0 ≤ s.2.1 ∧ s.2.1 ≤ xs.length ∧ ∀ j : Nat, (j : Int) < s.2.1 → (xs.getD j NL).2.2.1.length ≤ 1048576 ∧ (xs.getD j NL).2.2.2.length ≤ 1048576)
      (μ := fun s => (xs.length - s.2.1).toNat) ?_ N _ ⟨by simp only; omega, by simp only; omega, Int.le_refl _, by simp only; omega, fun j hj => by simp only at hj; omega⟩ (by simp only; omega)
    rintro ⟨a, i, u⟩ next ⟨h1, h2, h3, h4, h5⟩ hn
    simp only at h1 h2 h3 h4 h5 ⊢
    by_cases hi : i < (xs.length : Int)
    · have hlt : i.toNat < xs.length := by omega
      simp only [hi, decide_true, cond_true, idx_get NL ⟨h3, hi⟩, Option.bind_some]
      have hs := hx.get i.toNat
      rcases szTask_eq hN (t := xs.getD i.toNat NL) (k := a) hs.1 hs.2 ⟨h1, by omega⟩ with e | ⟨r, e, g1, g2, g3, g4⟩
      · exact .inl (by rw [e]; rfl)
      · simp only [e, Option.bind_some, show decide (r < 0) = false from by simp; omega, cond_false, w64_in (n := i + 1) (by omega)]
        refine hn _ ⟨by simp only; omega, by simp only; omega, by simp only; omega, by simp only; omega, fun j hj => ?_⟩ (by simp only; omega)
        simp only at hj
        by_cases hj2 : j = i.toNat
        · subst hj2
          exact ⟨by omega, by omega⟩
        · exact h5 j (by omega)
    · simp only [hi, decide_false, cond_false]
      refine .inr ⟨a, rfl, h1, h2, by omega, fun t ht => ?_⟩
      obtain ⟨j, hj, rfl⟩ := List.getElem_of_mem ht
      have := h5 j (by omega)
      simpa [hj] using this

theorem toTask_eq {t : Tk} (h : t.2.2.1.length ≤ 1048576 ∧ t.2.2.2.length ≤ 1048576) : laws_toTask N t = some (t, ()) := by
  unfold laws_toTask
  simp only [toInt64S_eq hN (xs := t.2.2.1) (by omega), toInt64S_eq hN (xs := t.2.2.2) (by omega), Option.bind_some]

theorem toTaskS_eq {xs : List Tk} (h : Small 1048576 xs) : laws_toTaskS N xs = some (xs, ()) := by
  unfold laws_toTaskS
  have := h.1
  rw [mkOk_of (by omega)]
  refine copy_gen hN (xs := xs) (by omega) (K := fun l => some (l, ())) (fun s next e => ?_) (fun s next v g1 g2 g3 g4 g5 => ?_)
  · simp only [e, Int.lt_irrefl, decide_false, cond_false]
  · simp only [g1, decide_true, cond_true, g3, Option.bind_some, toTask_eq hN (h.2 v g2), g4, g5]

theorem eqTask_eq {t : Tk} (h : t.2.2.1.length ≤ 1048576 ∧ t.2.2.2.length ≤ 1048576) : laws_eqTask N t t = some (true, ()) := by
  unfold laws_eqTask
  simp only [eqInt64S_eq hN (xs := t.2.2.1) (by omega), eqInt64S_eq hN (xs := t.2.2.2) (by omega), Option.bind_some, bne_self_eq_false, cond_false, Bool.not_true]

theorem eqTaskS_eq {xs : List Tk} (h : Small 1048576 xs) : laws_eqTaskS N xs xs = some (true, ()) := by
  unfold laws_eqTaskS
  have hlen := h.1
  rw [show ((List.length xs : Int) != (List.length xs : Int)) = false by simp, cond_false]
  rw [all_loop hN (xs := xs) (by omega) (fun _ => true) (some (false, ())) (some (true, ()))]
  · rw [List.all_eq_true.2 (fun _ _ => rfl)]
    rfl
  · intro s next e
    simp only [e, Int.lt_irrefl, decide_false, cond_false]
  · intro s next v g1 g2 g3 g4
    have hv : v ∈ xs := by
      rw [show s.1 = ((s.1.toNat : Nat) : Int) by omega, idx_nat] at g3
      exact List.mem_of_getElem? g3
    simp only [g2, decide_true, cond_true, g3, Option.bind_some, eqTask_eq hN (h.2 v hv), g4, Bool.not_true, cond_false]

theorem l03Task_eq {i : Nat} {t : Tk} (hi : i ≤ 4294967296) (h : t.2.2.1.length ≤ 1048576 ∧ t.2.2.2.length ≤ 1048576) : spec_l03Task N t i = some (taskOk i t, ()) := by
  unfold spec_l03Task taskOk
  simp only [l00In_eq, Option.bind_some]
  cases within 0 100 t.1
  · rfl
  cases within 0 20 t.2.1
  · rfl
  simp only [Bool.not_true, cond_false, Bool.true_and]
  by_cases hl : t.2.2.1.length = t.2.2.2.length
  · rw [show ((List.length t.2.2.2 : Int) != (List.length t.2.2.1 : Int)) = false by simp [hl], cond_false, decide_eq_true hl, Bool.true_and]
    rw [range_loop hN (n := t.2.2.1.length) (by omega) (fun k => (within 0 ((i : Int) - 1) (t.2.2.1.getD k 0) && (decide (k = 0) || decide (t.2.2.1.getD (k - 1) 0 < t.2.2.1.getD k 0))) && within (-100) 100 (t.2.2.2.getD k 0)) (some (false, ())) (some (true, ()))]
    · rw [all_and, ← all_range (within (-100) 100) t.2.2.2, ← hl, Bool.and_comm]
      generalize ((List.range t.2.2.1.length).all _ && _) = b
      cases b <;> rfl
    · intro s next e
      simp only [e, Int.lt_irrefl, decide_false, cond_false]
    · rintro k ⟨_, u⟩ next rfl hk g
      simp only [show decide ((k : Int) < (t.2.2.1.length : Int)) = true from by simpa using hk, cond_true, idx_int hk, idx_int (show k < t.2.2.2.length by omega), Option.bind_some, w64_in (n := (i : Int) - 1) (by omega), g]
      cases within 0 ((i : Int) - 1) (t.2.2.1.getD k 0)
      · rfl
      · by_cases h0 : k = 0
        · subst h0
          simp only [Bool.not_true, cond_false, show decide (((0 : Nat) : Int) > 0) = false from rfl, decide_true, Bool.true_or, Bool.true_and]
          cases within (-100) 100 (t.2.2.2.getD 0 0) <;> rfl
        · have e1 : decide ((k : Int) > 0) = true := by simp; omega
          rw [w64_in (n := (k : Int) - 1) (by omega), show (k : Int) - 1 = ((k - 1 : Nat) : Int) by omega, idx_int (show k - 1 < t.2.2.1.length by omega)]
          simp only [e1, Bool.not_true, cond_false, cond_true, Option.bind_some, h0, decide_false, Bool.false_or, Bool.true_and]
          by_cases h2 : t.2.2.1.getD (k - 1) 0 < t.2.2.1.getD k 0
          · rw [decide_eq_true h2, show decide (t.2.2.1.getD k 0 ≤ t.2.2.1.getD (k - 1) 0) = false from by simp only [decide_eq_false_iff_not]; omega]
            cases within (-100) 100 (t.2.2.2.getD k 0) <;> rfl
          · rw [decide_eq_false h2, show decide (t.2.2.1.getD k 0 ≤ t.2.2.1.getD (k - 1) 0) = true from by simp only [decide_eq_true_eq]; omega]
            rfl
  · rw [show ((List.length t.2.2.2 : Int) != (List.length t.2.2.1 : Int)) = true by simp; omega, cond_true, decide_eq_false hl]
    rfl

theorem end_eq (xs : List Tk) (b : Bool) : cond b (cond (decide ((List.length xs : Int) ≥ 1)) (some ((decide ((List.length xs : Int) ≤ 16)), ())) (some (false, ()))) (some (false, ())) = some (b && (decide (1 ≤ xs.length) && decide (xs.length ≤ 16)), ()) := by
  have _ := hN
  have e1 : decide ((List.length xs : Int) ≥ 1) = decide (1 ≤ xs.length) := decide_eq_decide.2 (by omega)
  have e2 : decide ((List.length xs : Int) ≤ 16) = decide (xs.length ≤ 16) := decide_eq_decide.2 (by omega)
  rw [e1, e2]
  cases b <;> cases decide (1 ≤ xs.length) <;> rfl

theorem l03Are_eq {xs : List Tk} (h : Small 1048576 xs) : spec_l03Are N xs = some (tasksOk xs, ()) := by
  unfold spec_l03Are tasksOk
  have hlen := h.1
  rw [range_loop hN (n := xs.length) (by omega) (fun i => taskOk i (xs.getD i NL)) (some (false, ())) (cond (decide ((List.length xs : Int) ≥ 1)) (some ((decide ((List.length xs : Int) ≤ 16)), ())) (some (false, ())))]
  · exact end_eq hN xs _
  · intro s next e
    simp only [e, Int.lt_irrefl, decide_false, cond_false]
  · rintro k ⟨_, u⟩ next rfl hk g
    simp only [show decide ((k : Int) < (xs.length : Int)) = true from by simpa using hk, cond_true, idx_at hk, Option.bind_some, l03Task_eq hN (i := k) (by omega) (h.get k), g]
    cases taskOk k (xs.getD k NL) <;> rfl

theorem AreTasks_eq {xs : List Tk} (h : Small 1048576 xs) : impl_AreTasks N xs = some (tasksOk xs, ()) := by
  unfold impl_AreTasks tasksOk
  have hlen := h.1
  rw [range_loop hN (n := xs.length) (by omega) (fun i => taskOk i (xs.getD i NL)) (some (false, ())) (cond (decide ((List.length xs : Int) ≥ 1)) (some ((decide ((List.length xs : Int) ≤ 16)), ())) (some (false, ())))]
  · exact end_eq hN xs _
  · intro s next e
    simp only [e, Int.lt_irrefl, decide_false, cond_false]
  · rintro k ⟨_, u⟩ next rfl hk g
    have hg := h.get k
    revert hg
    simp only [show decide ((k : Int) < (xs.length : Int)) = true from by simpa using hk, cond_true, idx_at hk, Option.bind_some, g]
    generalize xs.getD k NL = t
    intro hg
    unfold taskOk
    simp only [within_eq, Option.bind_some]
    cases within 0 100 t.1
    · rfl
    cases within 0 20 t.2.1
    · rfl
    simp only [Bool.not_true, cond_false, Bool.true_and]
    by_cases hl : t.2.2.1.length = t.2.2.2.length
    · rw [show ((List.length t.2.2.1 : Int) != (List.length t.2.2.2 : Int)) = false by simp [hl], cond_false, decide_eq_true hl, Bool.true_and]
      rw [areWithin_eq hN (by omega)]
      simp only [Option.bind_some]
      cases t.2.2.2.all (within (-100) 100)
      · rfl
      simp only [Bool.not_true, cond_false, Bool.true_and]
      rw [range_loop hN (n := t.2.2.1.length) (by omega) (fun j => within 0 ((k : Int) - 1) (t.2.2.1.getD j 0) && (decide (j = 0) || decide (t.2.2.1.getD (j - 1) 0 < t.2.2.1.getD j 0))) (some (false, ())) (next ((k : Int) + 1, ()))]
      · intro s next e
        simp only [e, Int.lt_irrefl, decide_false, cond_false]
      · rintro j ⟨_, u⟩ next' rfl hj g'
        simp only [show decide ((j : Int) < (t.2.2.1.length : Int)) = true from by simpa using hj, cond_true, idx_int hj, Option.bind_some, w64_in (n := (k : Int) - 1) (by omega), within_eq, g']
        cases within 0 ((k : Int) - 1) (t.2.2.1.getD j 0)
        · rfl
        · by_cases h0 : j = 0
          · subst h0
            rfl
          · have e1 : decide ((j : Int) > 0) = true := by simp; omega
            rw [w64_in (n := (j : Int) - 1) (by omega), show (j : Int) - 1 = ((j - 1 : Nat) : Int) by omega, idx_int (show j - 1 < t.2.2.1.length by omega)]
            simp only [e1, Bool.not_true, cond_false, cond_true, Option.bind_some, h0, decide_false, Bool.false_or, Bool.true_and]
            by_cases h2 : t.2.2.1.getD (j - 1) 0 < t.2.2.1.getD j 0
            · rw [decide_eq_true h2, show decide (t.2.2.1.getD j 0 ≤ t.2.2.1.getD (j - 1) 0) = false from by simp only [decide_eq_false_iff_not]; omega]
              rfl
            · rw [decide_eq_false h2, show decide (t.2.2.1.getD j 0 ≤ t.2.2.1.getD (j - 1) 0) = true from by simp only [decide_eq_true_eq]; omega]
              rfl
    · rw [show ((List.length t.2.2.1 : Int) != (List.length t.2.2.2 : Int)) = true by simp; omega, cond_true, decide_eq_false hl]
      rfl


end

end Go.Proofs.Ytmdicmdodbndgaa
