/-
  Plain rules for the plain functions' loops. No condition.
-/
import Derived.Test.YtmdicmdodbndgaaFwS
import Derived.IntWalk
namespace Go.Proofs.Ytmdicmdodbndgaa.Fw
open Go Go.RowKit

theorem fuel_ge : 9223372036854775808 ≤ FUEL := by
  unfold FUEL
  omega

theorem w64_in {n : Int} (h : -9223372036854775808 ≤ n ∧ n ≤ 9223372036854775807) : w64 n = n := IntWalk.i64_in n h

section
variable {α σ τ ρ : Type}

/-- A loop that ends: a measure falls, and what is answered is known beforehand. -/
theorem loop_eq {body : σ → (σ → Option ρ) → Option ρ} {inv : σ → Prop} {μ : σ → Nat} {R : σ → Option ρ}
    (h : ∀ s next, inv s → (∀ s', inv s' → μ s' < μ s → next s' = R s') → body s next = R s) : ∀ n s, inv s → μ s < n → loopN body n s = R s := by
  intro n
  induction n with
  | zero => intro s _ h; omega
  | succ n ih =>
    intro s hi hm
    exact h s _ hi fun s' hi' hm' => ih s' hi' (by omega)

/-- Two loops side by side. -/
theorem loop_rel {A : σ → (σ → Option ρ) → Option ρ} {B : τ → (τ → Option ρ) → Option ρ} {I : σ → τ → Prop} {μ : σ → Nat} {Q : ρ → Prop}
    (h : ∀ s t nA nB, I s t → (∀ s' t', I s' t' → μ s' < μ s → ∃ r, nA s' = some r ∧ nB t' = some r ∧ Q r) → ∃ r, A s nA = some r ∧ B t nB = some r ∧ Q r) :
    ∀ n m s t, I s t → μ s < n → μ s < m → ∃ r, loopN A n s = some r ∧ loopN B m t = some r ∧ Q r := by
  intro n
  induction n with
  | zero => intro m s t _ h; omega
  | succ n ih =>
    intro m s t hi hn hm
    cases m with
    | zero => omega
    | succ m => exact h s t _ _ hi fun s' t' hi' hm' => ih m s' t' hi' (by omega) (by omega)

/-- A loop over a list by its index. -/
theorem loop_list {body : σ → (σ → Option ρ) → Option ρ} {inv : σ → Prop} {xs : List α} {i : σ → Int} {f : List α → σ → Option ρ} (hx : xs.length ≤ 4611686018427387904)
    (h0 : ∀ s next, inv s → i s = xs.length → body s next = f [] s)
    (h1 : ∀ s next v r, inv s → 0 ≤ i s → i s < xs.length → idx xs (i s) = some v → xs.drop (i s).toNat = v :: r → w64 (i s + 1) = i s + 1 →
      (∀ s', inv s' → i s' = i s + 1 → next s' = f r s') → body s next = f (v :: r) s)
    {N : Nat} (hN : xs.length < N) {s : σ} (hs : inv s) (hi : 0 ≤ i s) (hi' : i s ≤ xs.length) : loopN body N s = f (xs.drop (i s).toNat) s := by
  refine loop_eq (inv := fun s => inv s ∧ 0 ≤ i s ∧ i s ≤ xs.length) (μ := fun s => (xs.length - i s).toNat) (R := fun s => f (xs.drop (i s).toNat) s) ?_ N s ⟨hs, hi, hi'⟩ (by omega)
  rintro s next ⟨a, b, c⟩ hnext
  rcases Int.lt_or_eq_of_le c with c1 | c1
  · have hlt : (i s).toNat < xs.length := by omega
    have hd := List.drop_eq_getElem_cons hlt
    rw [hd]
    refine h1 s next _ _ a b c1 ?_ hd (w64_in (by omega)) fun s' h2 h3 => ?_
    · unfold idx
      rw [show decide (0 ≤ i s) = true by simpa using b]
      simp [hlt]
    · have := hnext s' ⟨h2, by omega, by omega⟩ (by omega)
      rw [this, show (i s').toNat = (i s).toNat + 1 by omega]
  · rw [List.drop_eq_nil_of_le (by omega)]
    exact h0 s next a c1

theorem idx_nat {xs : List α} {n : Nat} : idx xs (n : Int) = xs[n]? := by
  unfold idx
  simp

theorem idx_some {xs : List α} {n : Int} (h0 : 0 ≤ n) (h : n < xs.length) : idx xs n = some (xs[n.toNat]'(by omega)) := by
  unfold idx
  have : n.toNat < xs.length := by omega
  simp [h0, this]

end

theorem mkOk_of {n m : Int} (h : 0 ≤ n ∧ n ≤ m ∧ m ≤ 4294967296) : mkOk n m = true := by
  unfold mkOk LIM
  simp only [Bool.and_true, decide_eq_true_eq]
  exact h

/-- The loop that copies a list. -/
theorem copy_loop {α ρ : Type} {xs : List α} {z : α} (hx : xs.length ≤ 4294967296) {N : Nat} (hN : 4294967296 < N) {K : List α → Option ρ} :
    loopN (fun (s : List α × Int × Unit) next =>
      cond (decide (s.2.1 < (List.length xs : Int)))
        (Option.bind (idx xs s.2.1) fun v =>
        cond (inB s.2.1 (List.length s.1))
          (next (List.set s.1 (Int.toNat s.2.1) v, w64 (s.2.1 + 1), ())) none)
        (K s.1)) N (List.replicate (Int.toNat (List.length xs : Int)) z, 0, ()) = K xs := by
  have h := loop_list (ρ := ρ) (σ := List α × Int × Unit) (body := fun (s : List α × Int × Unit) next =>
      cond (decide (s.2.1 < (List.length xs : Int)))
        (Option.bind (idx xs s.2.1) fun v =>
        cond (inB s.2.1 (List.length s.1))
          (next (List.set s.1 (Int.toNat s.2.1) v, w64 (s.2.1 + 1), ())) none)
        (K s.1)) (xs := xs) (i := fun s => s.2.1) (f := fun _ _ => K xs) (inv := fun s => s.1.length = xs.length ∧ ∀ j : Nat, (j : Int) < s.2.1 → s.1[j]? = xs[j]?) (by omega)
    (fun s next hi hl => by
      obtain ⟨hi1, hi2⟩ := hi
      have hs : s.1 = xs := by
        refine List.ext_getElem? fun j => ?_
        rcases Nat.lt_or_ge j xs.length with h | h
        · exact hi2 j (by omega)
        · rw [List.getElem?_eq_none (by omega), List.getElem?_eq_none h]
      simp only [hl, Int.lt_irrefl, decide_false, cond_false, hs])
    (fun s next v r hi h1 h2 h3 h4 h5 hn => by
      obtain ⟨hi1, hi2⟩ := hi
      have hb : inB s.2.1 (List.length s.1) = true := by simp [inB, h1, hi1, h2]
      simp only [h2, decide_true, cond_true, h3, Option.bind_some, hb, h5]
      refine hn _ ⟨by simp [hi1], fun j hj => ?_⟩ rfl
      simp only at hj ⊢
      rw [List.getElem?_set]
      split
      · rename_i he
        rw [if_pos (by omega)]
        unfold idx at h3
        rw [show decide (0 ≤ s.2.1) = true by simpa using h1] at h3
        rw [← he]
        exact h3.symm
      · exact hi2 j (by omega))
    (N := N) (by omega) (s := (List.replicate (Int.toNat (List.length xs : Int)) z, 0, ())) ⟨by simp, fun j hj => by simp only at hj; omega⟩ (Int.le_refl _) (by simp only; omega)
  exact h

/-- The loop that compares two lists. -/
theorem eq_loop {xs ys : List Int} (hx : xs.length ≤ 4294967296) (hl : ys.length = xs.length) {N : Nat} (hN : 4294967296 < N) :
    loopN (fun (s : Int × Unit) next =>
      cond (decide (s.1 < (List.length xs : Int)))
        (Option.bind (idx xs s.1) fun v3 =>
        Option.bind (idx ys s.1) fun v4 =>
        cond (v3 != v4)
          (some (false, ()))
          (next ((w64 (s.1 + 1)), ())))
        (some (true, ()))) N (0, ()) = some (decide (xs = ys), ()) := by
  have h := loop_list (ρ := Bool × Unit) (σ := Int × Unit) (body := fun (s : Int × Unit) next =>
      cond (decide (s.1 < (List.length xs : Int)))
        (Option.bind (idx xs s.1) fun v3 =>
        Option.bind (idx ys s.1) fun v4 =>
        cond (v3 != v4)
          (some (false, ()))
          (next ((w64 (s.1 + 1)), ())))
        (some (true, ()))) (xs := xs) (i := fun s => s.1) (f := fun l s => some (decide (l = ys.drop s.1.toNat), ())) (inv := fun _ => True) (by omega)
    (fun s next _ h => by
      simp only [h, Int.lt_irrefl, decide_false, cond_false]
      rw [List.drop_eq_nil_of_le (by omega)]
      simp)
    (fun s next v r _ h1 h2 h3 h4 h5 hn => by
      have hlt : s.1.toNat < ys.length := by omega
      simp only [h2, decide_true, cond_true, h3, Option.bind_some, idx_some h1 (show s.1 < ys.length by omega), h5]
      rw [List.drop_eq_getElem_cons hlt]
      by_cases hv : v = ys[s.1.toNat]
      · rw [show (v != ys[s.1.toNat]) = false by simpa using hv, cond_false, hn _ trivial rfl, show (s.1 + 1).toNat = s.1.toNat + 1 by omega]
        simp only [List.cons.injEq, hv, true_and]
      · rw [show (v != ys[s.1.toNat]) = true by simpa using hv, cond_true]
        simp only [List.cons.injEq, hv, false_and, decide_false])
    (N := N) (by omega) (s := (0, ())) trivial (Int.le_refl _) (by simp only; omega)
  simpa using h

end Go.Proofs.Ytmdicmdodbndgaa.Fw
