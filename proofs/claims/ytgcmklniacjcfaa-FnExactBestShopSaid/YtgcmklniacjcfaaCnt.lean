/-
  Loops that count, and the greatest of a list. No condition.
-/
import Derived.Test.YtgcmklniacjcfaaPB
import Derived.Test.YtgcmklniacjcfaaLoads
namespace Go.Proofs.Ytgcmklniacjcfaa
open Go Go.Proofs.Ytgcmklniacjcfaa.Fw
set_option linter.unusedVariables false
set_option linter.unusedSimpArgs false

theorem setD {xs : List Int} {i j : Nat} {v : Int} (hi : i < xs.length) : (xs.set i v).getD j 0 = if i = j then v else xs.getD j 0 := by
  rw [List.getD_eq_getElem?_getD, List.getElem?_set, List.getD_eq_getElem?_getD]
  by_cases h : i = j
  · subst h
    rw [if_pos rfl, if_pos rfl, if_pos hi]
    rfl
  · rw [if_neg h, if_neg h]

theorem repD (n j : Nat) : (List.replicate n (0 : Int)).getD j 0 = 0 := by
  rw [List.getD_eq_getElem?_getD, List.getElem?_replicate]
  split <;> rfl

theorem imax_or (a b : Int) : (imax a b = a ∧ b ≤ a) ∨ (imax a b = b ∧ a < b) := by
  unfold imax
  by_cases h : b > a
  · rw [if_pos h]; exact .inr ⟨rfl, h⟩
  · rw [if_neg h]; exact .inl ⟨rfl, by omega⟩

theorem foldmax_spec : ∀ (l : List Int) (x : Int), x ≤ l.foldl imax x ∧ (∀ v ∈ l, v ≤ l.foldl imax x) ∧ (l.foldl imax x = x ∨ l.foldl imax x ∈ l) := by
  intro l
  induction l with
  | nil => intro x; exact ⟨Int.le_refl _, (fun v h => (by cases h)), .inl rfl⟩
  | cons y l ih =>
    intro x
    rw [List.foldl_cons]
    obtain ⟨h1, h2, h3⟩ := ih (imax x y)
    have hxy : x ≤ imax x y ∧ y ≤ imax x y := by
      rcases imax_or x y with ⟨e, h⟩ | ⟨e, h⟩ <;> rw [e] <;> omega
    refine ⟨by omega, fun v hv => ?_, ?_⟩
    · rcases List.mem_cons.1 hv with rfl | hv
      · omega
      · exact h2 v hv
    · rcases h3 with h3 | h3
      · rcases imax_or x y with ⟨e, _⟩ | ⟨e, _⟩
        · rw [e] at h3 ⊢; exact .inl h3
        · rw [e] at h3 ⊢; exact .inr (by rw [h3]; exact List.mem_cons_self)
      · exact .inr (List.mem_cons_of_mem _ h3)

/-- A loop that counts. -/
theorem count_rule {σ ρ : Type} {body : σ → (σ → Option ρ) → Option ρ} {st : Nat → σ} {n : Nat} {R : Option ρ} (h0 : ∀ next, body (st n) next = R)
    (h1 : ∀ t next, t < n → next (st (t + 1)) = R → body (st t) next = R) {N : Nat} (hN : n < N) : loopN body N (st 0) = R := by
  have h : ∀ d M t, t + d = n → d < M → loopN body M (st t) = R := by
    intro d
    induction d with
    | zero =>
      intro M t ht hM
      match M, hM with
      | M + 1, _ => rw [show t = n by omega]; exact h0 _
    | succ d ih =>
      intro M t ht hM
      match M, hM with
      | M + 1, hM => exact h1 t _ (by omega) (ih M (t + 1) (by omega) (by omega))
  exact h n N 0 (by omega) hN

theorem w64_nat {n : Nat} (h : n ≤ 4611686018427387904) : w64 (n : Int) = n := w64_in (by omega)

theorem inB_nat {n len : Nat} (h : n < len) : inB (n : Int) len = true := inB_of ⟨Int.natCast_nonneg _, Int.ofNat_lt.2 h⟩

theorem condT {α : Type} {c : Bool} {a b r : α} (h : c = true) (h2 : a = r) : cond c a b = r := by
  rw [h, cond_true, h2]

/-- A loop that counts, with what holds on the way. -/
theorem count_ruleI {σ ρ : Type} {body : σ → (σ → Option ρ) → Option ρ} {st : Nat → σ} {I : Nat → Prop} {n : Nat} {R : Option ρ} (hI : I 0) (h0 : ∀ next, I n → body (st n) next = R)
    (h1 : ∀ t next, t < n → I t → (I (t + 1) → next (st (t + 1)) = R) → body (st t) next = R) {N : Nat} (hN : n < N) : loopN body N (st 0) = R := by
  have h : ∀ d M t, t + d = n → d < M → I t → loopN body M (st t) = R := by
    intro d
    induction d with
    | zero =>
      intro M t ht hM hI
      match M, hM with
      | M + 1, _ =>
        have : t = n := by omega
        subst this
        exact h0 _ hI
    | succ d ih =>
      intro M t ht hM hI
      match M, hM with
      | M + 1, hM => exact h1 t _ (by omega) hI (fun hI' => ih M (t + 1) (by omega) (by omega) hI')
  exact h n N 0 (by omega) hN hI

section
variable {N : Nat} (hN : 9223372036854775808 ≤ N)
include hN

theorem max_free {l : List Int} {last : Int} (h1 : 1 ≤ l.length) (h2 : l.length ≤ 1000) (h0 : ∀ j, 0 ≤ l.getD j 0) (hup : ∀ j, j < l.length → l.getD j 0 ≤ last) (hla : 0 ≤ last) (hat : last = 0 ∨ ∃ j, j < l.length ∧ l.getD j 0 = last) : slices_Max_int64_int64 N l = some (last, ()) := by
  match l, h1 with
  | x :: l, _ =>
    rw [slicesMax_eq hN (by omega)]
    obtain ⟨g1, g2, g3⟩ := foldmax_spec l x
    have hmem : ∀ v ∈ x :: l, v ≤ last := fun v hv => by
      obtain ⟨j, hj, rfl⟩ := List.getElem_of_mem hv
      have := hup j hj
      rw [List.getD_eq_getElem?_getD, List.getElem?_eq_getElem hj] at this
      simpa using this
    have hge : ∀ v ∈ x :: l, v ≤ l.foldl imax x := fun v hv => by
      rcases List.mem_cons.1 hv with rfl | hv
      · exact g1
      · exact g2 v hv
    have hle : l.foldl imax x ≤ last := by
      rcases g3 with e | e
      · rw [e]; exact hmem x List.mem_cons_self
      · exact hmem _ (List.mem_cons_of_mem _ e)
    have : l.foldl imax x = last := by
      rcases hat with e | ⟨j, hj, e⟩
      · have := h0 0
        simp at this
        omega
      · have hm : last ∈ x :: l := by
          rw [← e, List.getD_eq_getElem?_getD, List.getElem?_eq_getElem hj]
          exact List.getElem_mem hj
        have := hge _ hm
        omega
    rw [this]
end

end Go.Proofs.Ytgcmklniacjcfaa
