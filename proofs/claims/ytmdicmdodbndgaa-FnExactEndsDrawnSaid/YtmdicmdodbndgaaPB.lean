/-
  Plain rules for the functions that many laws share. No condition.
-/
import Derived.Test.YtmdicmdodbndgaaFun
import Derived.Test.YtmdicmdodbndgaaFwU
namespace Go.Proofs.Ytmdicmdodbndgaa
open Go Go.Proofs.Ytmdicmdodbndgaa.Fw
set_option linter.unusedVariables false
set_option linter.unusedSimpArgs false

def within (lo hi v : Int) : Bool := decide (v ≥ lo) && decide (v ≤ hi)

theorem within_iff {lo hi v : Int} : within lo hi v = true ↔ lo ≤ v ∧ v ≤ hi := by
  simp [within]

theorem inB_of {n : Int} {len : Nat} (h : 0 ≤ n ∧ n < len) : inB n len = true := by
  simp [inB, h]

theorem get_getD {α : Type} (d : α) {xs : List α} {n : Nat} (h : n < xs.length) : xs[n]? = some (xs.getD n d) := by
  simp [h]

theorem idx_getD {xs : List Int} {n : Int} (h : 0 ≤ n ∧ n < xs.length) : idx xs n = some (xs.getD n.toNat 0) := by
  have hlt : n.toNat < xs.length := by omega
  rw [idx_some h.1 h.2]
  simp [hlt]

theorem idx_get {α : Type} (d : α) {xs : List α} {n : Int} (h : 0 ≤ n ∧ n < xs.length) : idx xs n = some (xs.getD n.toNat d) := by
  have hlt : n.toNat < xs.length := by omega
  rw [idx_some h.1 h.2]
  simp [hlt]

theorem appOk_of {n m : Nat} (h : n + m ≤ 4294967296) : appOk n m = true := by
  unfold appOk LIM
  simp [h]

theorem imax_assoc (m a b : Int) : imax m (imax a b) = imax (imax m a) b := by
  unfold imax
  split <;> split <;> (try split) <;> (try split) <;> omega

theorem getD_mem {xs : List Int} {n : Nat} (h : n < xs.length) : xs.getD n 0 ∈ xs := by
  simp [h]

theorem all_getD {xs : List Int} {lo hi : Int} (h : xs.all (within lo hi) = true) {n : Nat} (hn : n < xs.length) : lo ≤ xs.getD n 0 ∧ xs.getD n 0 ≤ hi :=
  within_iff.1 (List.all_eq_true.1 h _ (getD_mem hn))

def sumW (xs : List Int) : Int := xs.foldl (fun a v => w64 (a + v)) 0

theorem l00In_eq {N : Nat} (v lo hi : Int) : spec_l00In N v lo hi = some (within lo hi v, ()) := by
  unfold spec_l00In within
  cases decide (v ≥ lo) <;> rfl

theorem within_eq {N : Nat} (v lo hi : Int) : impl_within N v lo hi = some (within lo hi v, ()) := by
  unfold impl_within within
  cases decide (v ≥ lo) <;> rfl

theorem l00Max_eq {N : Nat} (x y : Int) : spec_l00Max N x y = some (imax x y, ()) := by
  unfold spec_l00Max imax
  by_cases h : x > y
  · rw [show decide (x > y) = true by simpa using h, if_neg (by omega)]
    rfl
  · rw [show decide (x > y) = false by simpa using h]
    by_cases h2 : y > x
    · rw [if_pos h2]
      rfl
    · rw [if_neg h2, show x = y by omega]
      rfl

theorem l00Min_eq {N : Nat} (x y : Int) : spec_l00Min N x y = some (imin x y, ()) := by
  unfold spec_l00Min imin
  by_cases h : x < y
  · rw [show decide (x < y) = true by simpa using h, if_neg (by omega)]
    rfl
  · rw [show decide (x < y) = false by simpa using h]
    by_cases h2 : y < x
    · rw [if_pos h2]
      rfl
    · rw [if_neg h2, show x = y by omega]
      rfl

/-- What a run of counting leaves. -/
def counted (k : Int) : List Int → List Int
  | [] => []
  | _ :: l => k :: counted (k + 1) l

theorem counted_len (k : Int) (l : List Int) : (counted k l).length = l.length := by
  induction l generalizing k with
  | nil => rfl
  | cons x l ih => simp [counted, ih]

theorem counted_get : ∀ (l : List Int) (k : Int) (i : Nat), i < l.length → (counted k l)[i]? = some (k + i)
  | [], _, _, h => by simp at h
  | x :: l, k, 0, _ => by simp [counted]
  | x :: l, k, i + 1, h => by
    simp only [counted, List.getElem?_cons_succ]
    rw [counted_get l (k + 1) i (by simpa using h)]
    congr 1
    omega

section
variable {N : Nat} (hN : 9223372036854775808 ≤ N)
include hN

/-- A loop that asks of each element whether it passes. -/
theorem all_loop {α ρ : Type} {xs : List α} (hx : xs.length ≤ 4294967296) (p : α → Bool) (bad good : Option ρ) {body : (Int × Unit) → ((Int × Unit) → Option ρ) → Option ρ}
    (h0 : ∀ (s : Int × Unit) next, s.1 = (xs.length : Int) → body s next = good)
    (h1 : ∀ (s : Int × Unit) next v, 0 ≤ s.1 → s.1 < (xs.length : Int) → idx xs s.1 = some v → w64 (s.1 + 1) = s.1 + 1 → body s next = cond (p v) (next (s.1 + 1, ())) bad) :
    loopN body N (0, ()) = cond (xs.all p) good bad := by
  exact loop_list (xs := xs) (i := fun s : Int × Unit => s.1) (f := fun l _ => cond (l.all p) good bad) (inv := fun _ => True) (by omega)
    (fun s next _ h => by rw [h0 s next h]; rfl)
    (fun s next v r _ h2 h3 h4 h5 h6 hn => by
      rw [h1 s next v h2 h3 h4 h6, List.all_cons]
      cases p v
      · rfl
      · exact hn _ trivial rfl)
    (by omega) (s := (0, ())) trivial (Int.le_refl _) (by simp only; omega)

/-- A loop that compares two lists. -/
theorem eq_loop_gen {α : Type} [DecidableEq α] {xs ys : List α} (hx : xs.length ≤ 4294967296) (hl : ys.length = xs.length) {body : (Int × Unit) → ((Int × Unit) → Option (Bool × Unit)) → Option (Bool × Unit)}
    (h0 : ∀ (s : Int × Unit) next, s.1 = (xs.length : Int) → body s next = some (true, ()))
    (h1 : ∀ (s : Int × Unit) next v u, 0 ≤ s.1 → s.1 < (xs.length : Int) → idx xs s.1 = some v → idx ys s.1 = some u → w64 (s.1 + 1) = s.1 + 1 → body s next = cond (decide (v = u)) (next (s.1 + 1, ())) (some (false, ()))) :
    loopN body N (0, ()) = some (decide (xs = ys), ()) := by
  have h := loop_list (ρ := Bool × Unit) (σ := Int × Unit) (body := body) (xs := xs) (i := fun s => s.1) (f := fun l s => some (decide (l = ys.drop s.1.toNat), ())) (inv := fun _ => True) (by omega)
    (fun s next _ h => by
      rw [h0 s next h, List.drop_eq_nil_of_le (by omega)]
      simp)
    (fun s next v r _ h2 h3 h4 h5 h6 hn => by
      have hlt : s.1.toNat < ys.length := by omega
      rw [h1 s next v _ h2 h3 h4 (idx_some h2 (show s.1 < ys.length by omega)) h6, List.drop_eq_getElem_cons hlt]
      by_cases hv : v = ys[s.1.toNat]
      · rw [decide_eq_true hv, cond_true, hn _ trivial rfl, show (s.1 + 1).toNat = s.1.toNat + 1 by omega]
        simp only [List.cons.injEq, hv, true_and]
      · rw [decide_eq_false hv, cond_false]
        simp only [List.cons.injEq, hv, false_and, decide_false])
    (N := N) (by omega) (s := (0, ())) trivial (Int.le_refl _) (by simp only; omega)
  simpa using h

theorem toInt64S_eq {xs : List Int} (hx : xs.length ≤ 4294967296) : laws_toInt64S N xs = some (xs, ()) := by
  unfold laws_toInt64S
  rw [mkOk_of (by omega)]
  exact copy_loop (xs := xs) (by omega) (by omega) (K := fun l => some (l, ()))

theorem eqInt64S_gen {xs ys : List Int} (hx : xs.length ≤ 4294967296) : laws_eqInt64S N xs ys = some (decide (xs = ys), ()) := by
  unfold laws_eqInt64S
  by_cases hl : ys.length = xs.length
  · rw [show ((List.length xs : Int) != (List.length ys : Int)) = false by simp [hl]]
    exact eq_loop (by omega) hl (by omega)
  · rw [show ((List.length xs : Int) != (List.length ys : Int)) = true by simp; omega, cond_true, decide_eq_false (fun h => hl (by rw [h]))]

theorem eqInt64S_eq {xs : List Int} (hx : xs.length ≤ 4294967296) : laws_eqInt64S N xs xs = some (true, ()) := by
  rw [eqInt64S_gen hN hx]
  simp

theorem markInt64S_eq {xs : List Int} {k : Int} (hx : xs.length ≤ 4294967296) (hk : 0 ≤ k ∧ k ≤ 4611686018427387904) : laws_markInt64S N xs k = some (counted k xs, (k + xs.length, ())) := by
  unfold laws_markInt64S
  refine loop_eq (inv := fun s : List Int × Int × Int × Unit => 0 ≤ s.2.2.1 ∧ s.2.2.1 ≤ xs.length ∧ s.2.1 = k + s.2.2.1 ∧ s.1.length = xs.length ∧ ∀ j : Nat, (j : Int) < s.2.2.1 → s.1[j]? = (counted k xs)[j]?)
    (μ := fun s => (xs.length - s.2.2.1).toNat) (R := fun _ => some (counted k xs, (k + xs.length, ()))) ?_ N _ ⟨Int.le_refl _, by simp only; omega, by simp only; omega, rfl, fun j hj => by simp only at hj; omega⟩ (by simp only; omega)
  rintro ⟨ys, q, i, u⟩ next ⟨h0, h1, h2, h3, h4⟩ hn
  simp only at h0 h1 h2 h3 h4 ⊢
  rw [h3]
  by_cases hi : i < (xs.length : Int)
  · have hlt : i.toNat < xs.length := by omega
    simp only [hi, decide_true, cond_true, inB_of (n := i) (len := xs.length) ⟨h0, hi⟩, w64_in (n := i + 1) (by omega), w64_in (n := q + 1) (by omega)]
    refine hn _ ⟨by simp only; omega, by simp only; omega, by simp only; omega, by simp only [List.length_set]; exact h3, fun j hj => ?_⟩ (by simp only; omega)
    simp only at hj ⊢
    rw [List.getElem?_set]
    by_cases hj2 : i.toNat = j
    · subst hj2
      rw [if_pos rfl, if_pos (by omega), counted_get _ _ _ hlt, h2]
      congr 1
      omega
    · rw [if_neg hj2]
      exact h4 j (by omega)
  · simp only [hi, decide_false, cond_false]
    have : ys = counted k xs := List.ext_getElem? fun j => by
      rcases Nat.lt_or_ge j xs.length with h | h
      · exact h4 j (by omega)
      · rw [List.getElem?_eq_none (by omega), List.getElem?_eq_none (by rw [counted_len]; omega)]
    rw [this, h2, show i = xs.length by omega]

theorem heldInt64S_eq {xs : List Int} {k : Int} (hx : xs.length ≤ 4294967296) (hk : 0 ≤ k ∧ k ≤ 4611686018427387904) : laws_heldInt64S N (counted k xs) k = some (k + xs.length, ()) := by
  unfold laws_heldInt64S
  rw [counted_len]
  refine loop_eq (inv := fun s : Int × Int × Unit => 0 ≤ s.2.1 ∧ s.2.1 ≤ xs.length ∧ s.1 = k + s.2.1) (μ := fun s => (xs.length - s.2.1).toNat) (R := fun _ => some (k + xs.length, ())) ?_ N _ ⟨Int.le_refl _, by simp only; omega, by simp only; omega⟩ (by simp only; omega)
  rintro ⟨q, i, u⟩ next ⟨h0, h1, h2⟩ hn
  simp only at h0 h1 h2 ⊢
  by_cases hi : i < (xs.length : Int)
  · have hlt : i.toNat < xs.length := by omega
    have hg : idx (counted k xs) i = some q := by
      unfold idx
      rw [decide_eq_true h0, cond_true, counted_get _ _ _ hlt, h2]
      congr 1
      omega
    simp only [hi, decide_true, cond_true, hg, Option.bind_some, bne_self_eq_false, cond_false, w64_in (n := i + 1) (by omega), w64_in (n := q + 1) (by omega)]
    exact hn _ ⟨by simp only; omega, by simp only; omega, by simp only; omega⟩ (by simp only; omega)
  · simp only [hi, decide_false, cond_false]
    rw [h2, show i = xs.length by omega]

theorem areWithin_eq {xs : List Int} (hx : xs.length ≤ 4294967296) (lo hi : Int) : impl_areWithin N xs lo hi = some (xs.all (within lo hi), ()) := by
  unfold impl_areWithin
  rw [all_loop hN hx (within lo hi) (some (false, ())) (some (true, ()))]
  · cases xs.all (within lo hi) <;> rfl
  · intro s next h
    simp only [h, Int.lt_irrefl, decide_false, cond_false]
  · intro s next v h1 h2 h3 h4
    simp only [h2, decide_true, cond_true, h3, Option.bind_some, within_eq, h4]
    cases within lo hi v <;> rfl



end

end Go.Proofs.Ytmdicmdodbndgaa
