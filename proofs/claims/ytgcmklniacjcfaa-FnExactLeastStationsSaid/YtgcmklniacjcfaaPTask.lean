/-
  Plain rules for the functions of tasks: sizes, copies, comparison, what tasks must be. No condition.
-/
import Derived.Test.YtgcmklniacjcfaaPB
import Derived.Test.YtgcmklniacjcfaaFwT
namespace Go.Proofs.Ytgcmklniacjcfaa
open Go Go.Proofs.Ytgcmklniacjcfaa.Fw
set_option linter.unusedVariables false
set_option linter.unusedSimpArgs false

abbrev Tk := Int × Int × (List Int) × List Int

/-- Lengths that fit. -/
def Small (n : Nat) (xs : List Tk) : Prop := xs.length ≤ n ∧ ∀ t ∈ xs, t.2.2.1.length ≤ n ∧ t.2.2.2.length ≤ n

theorem Small.mono {n m : Nat} {xs : List Tk} (h : Small n xs) (hm : n ≤ m) : Small m xs :=
  ⟨Nat.le_trans h.1 hm, fun t ht => ⟨Nat.le_trans (h.2 t ht).1 hm, Nat.le_trans (h.2 t ht).2 hm⟩⟩

def NL : Tk := (0, 0, [], [])

theorem Small.get {n : Nat} {xs : List Tk} (h : Small n xs) (k : Nat) : (xs.getD k NL).2.2.1.length ≤ n ∧ (xs.getD k NL).2.2.2.length ≤ n := by
  by_cases hk : k < xs.length
  · exact h.2 _ (by simp [hk])
  · rw [List.getD_eq_getElem?_getD, List.getElem?_eq_none (Nat.le_of_not_lt hk)]
    simp [NL]

theorem idx_at {xs : List Tk} {n : Nat} (h : n < xs.length) : idx xs (n : Int) = some (xs.getD n NL) := by
  rw [idx_get NL (by omega)]
  simp

theorem idx_int {xs : List Int} {n : Nat} (h : n < xs.length) : idx xs (n : Int) = some (xs.getD n 0) := by
  rw [idx_get 0 (by omega)]
  simp

/-- What a task at place i must be. -/
def taskOk (i : Nat) (t : Tk) : Bool :=
  within 0 100 t.1 && (within 0 20 t.2.1 && (decide (t.2.2.1.length = t.2.2.2.length) && (t.2.2.2.all (within (-100) 100) &&
    (List.range t.2.2.1.length).all fun k => within 0 ((i : Int) - 1) (t.2.2.1.getD k 0) && (decide (k = 0) || decide (t.2.2.1.getD (k - 1) 0 < t.2.2.1.getD k 0)))))

def tasksOk (xs : List Tk) : Bool := (List.range xs.length).all (fun i => taskOk i (xs.getD i NL)) && (decide (1 ≤ xs.length) && decide (xs.length ≤ 16))

theorem all_range (p : Int → Bool) (l : List Int) : (List.range l.length).all (fun k => p (l.getD k 0)) = l.all p := by
  induction l with
  | nil => rfl
  | cons x l ih =>
    rw [List.length_cons, List.range_succ_eq_map, List.all_cons, List.all_map, List.all_cons]
    exact congrArg (fun b => p x && b) (by simpa [Function.comp_def] using ih)

theorem all_and {α : Type} (p q : α → Bool) (l : List α) : l.all (fun k => p k && q k) = (l.all p && l.all q) := by
  induction l with
  | nil => rfl
  | cons x l ih =>
    rw [List.all_cons, ih, List.all_cons, List.all_cons]
    cases p x <;> cases q x <;> cases l.all p <;> rfl

theorem loop_inv {σ ρ : Type} {body : σ → (σ → Option ρ) → Option ρ} {inv : σ → Prop} {μ : σ → Nat} {Q : Option ρ → Prop}
    (h : ∀ s next, inv s → (∀ s', inv s' → μ s' < μ s → Q (next s')) → Q (body s next)) : ∀ n s, inv s → μ s < n → Q (loopN body n s) := by
  intro n
  induction n with
  | zero => intro s _ h; omega
  | succ n ih =>
    intro s hi hm
    exact h s _ hi fun s' hi' hm' => ih s' hi' (by omega)

theorem small_of {xs : List Tk} (h : Wf (.sl (.pair (.int .i64) (.pair (.int .i64) (.pair (.sl (.int .i64)) (.sl (.int .i64)))))) xs) : Small 9223372036854775807 xs :=
  ⟨h.1, fun t ht => ⟨(h.2 t ht).2.2.1.1, (h.2 t ht).2.2.2.1⟩⟩

section
variable {N : Nat} (hN : 9223372036854775808 ≤ N)
include hN

/-- A loop that asks of each place whether it passes. -/
theorem range_loop {ρ : Type} {n : Nat} (hn : n ≤ 4294967296) (p : Nat → Bool) (bad good : Option ρ) {body : (Int × Unit) → ((Int × Unit) → Option ρ) → Option ρ}
    (h0 : ∀ (s : Int × Unit) next, s.1 = (n : Int) → body s next = good)
    (h1 : ∀ (k : Nat) (s : Int × Unit) next, s.1 = (k : Int) → k < n → w64 ((k : Int) + 1) = (k : Int) + 1 → body s next = cond (p k) (next ((k : Int) + 1, ())) bad) :
    loopN body N (0, ()) = cond ((List.range n).all p) good bad := by
  refine all_loop hN (xs := List.range n) (by simpa using hn) p bad good (fun s next h => h0 s next (by simpa using h)) (fun s next v h1' h2 h3 h4 => ?_)
  rw [List.length_range] at h2
  have hv : v = s.1.toNat := by
    rw [show s.1 = ((s.1.toNat : Nat) : Int) by omega, idx_nat] at h3
    rw [List.getElem?_range (by omega)] at h3
    exact (Option.some.inj h3).symm
  subst hv
  have e : ((s.1.toNat : Nat) : Int) = s.1 := by omega
  have := h1 s.1.toNat s next e.symm (by omega) (by rw [e]; exact h4)
  rw [e] at this
  exact this

/-- A loop that copies. -/
theorem copy_gen {α ρ : Type} {xs : List α} {z : α} (hx : xs.length ≤ 4294967296) {body : (List α × Int × Unit) → ((List α × Int × Unit) → Option ρ) → Option ρ} {K : List α → Option ρ}
    (h0 : ∀ (s : List α × Int × Unit) next, s.2.1 = (xs.length : Int) → body s next = K s.1)
    (h1 : ∀ (s : List α × Int × Unit) next v, s.2.1 < (xs.length : Int) → v ∈ xs → idx xs s.2.1 = some v → inB s.2.1 (List.length s.1) = true → w64 (s.2.1 + 1) = s.2.1 + 1 →
      body s next = next (List.set s.1 (Int.toNat s.2.1) v, s.2.1 + 1, ())) :
    loopN body N (List.replicate (Int.toNat (List.length xs : Int)) z, 0, ()) = K xs := by
  have h := loop_list (ρ := ρ) (σ := List α × Int × Unit) (body := body) (xs := xs) (i := fun s => s.2.1) (f := fun _ _ => K xs) (inv := fun s => s.1.length = xs.length ∧ ∀ j : Nat, (j : Int) < s.2.1 → s.1[j]? = xs[j]?) (by omega)
    (fun s next hi hl => by
      obtain ⟨hi1, hi2⟩ := hi
      have hs : s.1 = xs := by
        refine List.ext_getElem? fun j => ?_
        rcases Nat.lt_or_ge j xs.length with h | h
        · exact hi2 j (by omega)
        · rw [List.getElem?_eq_none (by omega), List.getElem?_eq_none h]
      rw [h0 s next hl, hs])
    (fun s next v r hi g1 g2 g3 g4 g5 hn => by
      obtain ⟨hi1, hi2⟩ := hi
      have hb : inB s.2.1 (List.length s.1) = true := by simp [inB, g1, hi1, g2]
      have hmem : v ∈ xs := by
        have : v ∈ xs.drop s.2.1.toNat := by rw [g4]; exact List.mem_cons_self
        exact List.mem_of_mem_drop this
      rw [h1 s next v g2 hmem g3 hb g5]
      refine hn _ ⟨by simp [hi1], fun j hj => ?_⟩ rfl
      simp only at hj ⊢
      rw [List.getElem?_set]
      split
      · rename_i he
        rw [if_pos (by omega)]
        unfold idx at g3
        rw [show decide (0 ≤ s.2.1) = true by simpa using g1] at g3
        rw [← he]
        exact g3.symm
      · exact hi2 j (by omega))
    (N := N) (by omega) (s := (List.replicate (Int.toNat (List.length xs : Int)) z, 0, ())) ⟨by simp, fun j hj => by simp only at hj; omega⟩ (Int.le_refl _) (by simp only; omega)
  exact h







end

end Go.Proofs.Ytgcmklniacjcfaa
