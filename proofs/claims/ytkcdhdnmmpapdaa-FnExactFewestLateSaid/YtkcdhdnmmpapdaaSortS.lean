/-
  Sorting by insertion, as the reference does it, and that a sorted order is the only one. No condition.
-/
import Derived.Test.YtkcdhdnmmpapdaaSortC
namespace Go.Proofs.Ytkcdhdnmmpapdaa
open Go Go.Proofs.Ytkcdhdnmmpapdaa.Fw
set_option linter.unusedVariables false
set_option linter.unusedSimpArgs false

namespace St

theorem R.irrefl {k : Int → Int} {x : Int} (h : R k x x) : False := by
  unfold R at h
  omega

/-- Two sorted orders of the same numbers are one. -/
theorem sorted_unique {k : Int → Int} : ∀ {A B : List Int}, A.Perm B → A.Pairwise (R k) → B.Pairwise (R k) → A = B
  | [], B, h, _, _ => (List.nil_perm.1 h).symm ▸ rfl
  | a :: A, [], h, _, _ => by simpa using h.length_eq
  | a :: A, b :: B, h, hA, hB => by
    have hA' := List.pairwise_cons.1 hA
    have hB' := List.pairwise_cons.1 hB
    have hab : a = b := by
      have h1 : a ∈ b :: B := h.mem_iff.1 (by simp)
      have h2 : b ∈ a :: A := h.mem_iff.2 (by simp)
      rcases List.mem_cons.1 h1 with h1 | h1
      · exact h1
      · rcases List.mem_cons.1 h2 with h2 | h2
        · exact h2.symm
        · exact ((hA'.1 b h2).trans (hB'.1 a h1)).irrefl.elim
    subst hab
    rw [sorted_unique ((List.perm_cons a).1 h) hA'.2 hB'.2]

/-- The reference's exchange. -/
theorem swap_block2 {β : Type} {xs : List Int} {I1 I2 : Int} {i j : Nat} (h1 : I1 = i) (h2 : I2 = j) (hi : i < xs.length) (hj : j < xs.length) (K : List Int → Option β) :
    cond (inB I1 xs.length) (Option.bind (xs[I1.toNat]?) fun v => cond (inB I2 xs.length) (Option.bind (xs[I2.toNat]?) fun w => cond (inB I1 xs.length) (cond (inB I2 (List.set xs I1.toNat w).length) (K (List.set (List.set xs I1.toNat w) I2.toNat v)) none) none) none) none = K (swp xs j i) := by
  subst h1 h2
  rw [inB_nat rfl hi, inB_nat rfl hj]
  simp only [cond_true, Int.toNat_natCast]
  rw [show xs[i]? = some (xs.getD i 0) by simp [hi], show xs[j]? = some (xs.getD j 0) by simp [hj]]
  simp only [Option.bind_some, cond_true]
  rw [inB_nat rfl (by simpa using hj)]
  rfl

section
variable {ρ : Type} {N : Nat} {D : Int → Prop} {k : Int → Int}

theorem bubble {body : List Int × Int × Unit → (List Int × Int × Unit → Option ρ) → Option ρ} {E : List Int → Option ρ} {L : Nat} (h0 : ∀ ys next, body (ys, 0, ()) next = E ys)
    (h1 : ∀ P c x t next, (P ++ c :: x :: t).length ≤ L → (∀ y ∈ P ++ c :: x :: t, D y) → body (P ++ c :: x :: t, ((P.length + 1 : Nat) : Int), ()) next = cond (decide (k x < k c)) (next (P ++ x :: c :: t, (P.length : Int), ())) (E (P ++ c :: x :: t)))
    {C : List Int} {x : Int} (hC : C.Pairwise (R k)) (hx : ∀ c ∈ C, c < x) (hD : ∀ c ∈ C ++ [x], D c) (hL : C.length + 1 ≤ L) (hN : C.length < N) :
    ∃ C', loopN body N (C ++ [x], (C.length : Int), ()) = E C' ∧ C'.Perm (C ++ [x]) ∧ C'.Pairwise (R k) := by
  refine loop_seek (R := fun o => ∃ C', o = E C' ∧ C'.Perm (C ++ [x]) ∧ C'.Pairwise (R k)) (I := fun s : List Int × Int × Unit => ∃ C1 C2, C = C1 ++ C2 ∧ s = (C1 ++ x :: C2, (C1.length : Int), ()) ∧ ∀ c ∈ C2, R k x c) (μ := fun s => s.2.1.toNat) ?_ N _
    ⟨C, [], by simp, rfl, fun c h => by cases h⟩ (by simpa using hN)
  rintro _ next ⟨C1, C2, rfl, rfl, hR2⟩ hn
  have done : (∀ c ∈ C1, R k c x) → (C1 ++ x :: C2).Perm (C1 ++ C2 ++ [x]) ∧ (C1 ++ x :: C2).Pairwise (R k) := fun h => by
    refine ⟨List.perm_middle.trans (List.perm_append_singleton x _).symm, ?_⟩
    have hs := List.pairwise_append.1 hC
    refine List.pairwise_append.2 ⟨hs.1, List.pairwise_cons.2 ⟨hR2, hs.2.1⟩, fun c hc d hd => ?_⟩
    rcases List.mem_cons.1 hd with rfl | hd
    · exact h c hc
    · exact hs.2.2 c hc d hd
  rcases List.eq_nil_or_concat C1 with rfl | ⟨C1', c, rfl⟩
  · refine ⟨_, h0 _ _, ?_⟩
    exact done (fun c h => by cases h)
  · rw [List.concat_eq_append] at *
    have e : C1' ++ [c] ++ x :: C2 = C1' ++ c :: x :: C2 := by simp
    rw [List.length_append, List.length_singleton] at *
    rw [e, h1 C1' c x C2 next (by simp at hL ⊢; omega) (fun y hy => hD y (by simp at hy ⊢; rcases hy with h | h | h | h <;> simp [h]))]
    by_cases hk : k x < k c
    · rw [decide_eq_true hk, cond_true]
      refine hn _ ⟨C1', c :: C2, by simp, by simp, fun d hd => ?_⟩ (by simp)
      rcases List.mem_cons.1 hd with rfl | hd
      · exact .inl hk
      · exact hR2 d hd
    · rw [decide_eq_false hk, cond_false]
      refine ⟨_, rfl, ?_⟩
      rw [← e]
      have hcx : R k c x := by
        have := hx c (by simp)
        unfold R
        omega
      exact done (fun d hd => by
        rcases List.mem_append.1 hd with hd | hd
        · exact ((List.pairwise_append.1 (List.pairwise_append.1 hC).1).2.2 d hd c (by simp)).trans hcx
        · rw [List.mem_singleton.1 hd]
          exact hcx)

theorem insertion {outer : List Int × Int × Unit → (List Int × Int × Unit → Option ρ) → Option ρ} {F : List Int → Option ρ} {n : Nat}
    (h : ∀ S (i : Nat) next, i < n → S.length = i → (∀ y ∈ S, (0 : Int) ≤ y ∧ y < (i : Int)) → S.Pairwise (R k) → ∃ S', outer (S, (i : Int), ()) next = next (S', ((i + 1 : Nat) : Int), ()) ∧ S'.Perm (S ++ [(i : Int)]) ∧ S'.Pairwise (R k))
    (hend : ∀ S next, S.length = n → outer (S, (n : Int), ()) next = F S) (hN : n < N) : ∃ S, loopN outer N ([], 0, ()) = F S ∧ S.Perm ((List.range n).map Int.ofNat) ∧ S.Pairwise (R k) := by
  refine loop_seek (R := fun o => ∃ S, o = F S ∧ S.Perm ((List.range n).map Int.ofNat) ∧ S.Pairwise (R k)) (I := fun s : List Int × Int × Unit => ∃ (S : List Int) (i : Nat), i ≤ n ∧ s = (S, (i : Int), ()) ∧ S.Perm ((List.range i).map Int.ofNat) ∧ S.Pairwise (R k)) (μ := fun s => (n - s.2.1).toNat) ?_ N _
    ⟨[], 0, Nat.zero_le _, rfl, List.Perm.refl _, List.Pairwise.nil⟩ (by simpa using hN)
  rintro _ next ⟨S, i, hi, rfl, hp, hs⟩ hn
  have hl : S.length = i := by simpa using hp.length_eq
  by_cases hlt : i < n
  · obtain ⟨S', e, p', s'⟩ := h S i next hlt hl (fun y hy => by
      obtain ⟨j, hj, rfl⟩ := List.mem_map.1 (hp.mem_iff.1 hy)
      exact ⟨Int.natCast_nonneg _, Int.ofNat_lt.2 (List.mem_range.1 hj)⟩) hs
    rw [e]
    refine hn _ ⟨S', i + 1, by omega, rfl, p'.trans ?_, s'⟩ (by simp only; omega)
    rw [List.range_succ, List.map_append]
    exact hp.append (List.Perm.refl _)
  · obtain rfl : i = n := by omega
    exact ⟨S, hend S next hl, hp, hs⟩

end
end St

end Go.Proofs.Ytkcdhdnmmpapdaa
