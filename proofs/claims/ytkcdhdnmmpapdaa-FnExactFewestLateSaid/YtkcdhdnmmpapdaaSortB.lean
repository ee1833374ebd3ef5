/-
  The library's stable sort over a comparator, second part: the merge. No condition.
-/
import Derived.Test.YtkcdhdnmmpapdaaSortA
namespace Go.Proofs.Ytkcdhdnmmpapdaa
open Go Go.Proofs.Ytkcdhdnmmpapdaa.Fw
set_option linter.unusedVariables false
set_option linter.unusedSimpArgs false

namespace St

theorem getD_of {L : List Int} {i : Nat} {x : Int} (h : L[i]? = some x) : L.getD i 0 = x := by
  rw [List.getD_eq_getElem?_getD, h]
  rfl

theorem get_of {L : List Int} {i : Nat} (h : i < L.length) : L[i]? = some (L.getD i 0) := by simp [h]

theorem getD_memL {L : List Int} {i : Nat} (h : i < L.length) : L.getD i 0 ∈ L := List.mem_of_getElem? (get_of h)

theorem mem_takeL {L : List Int} {n : Nat} {x : Int} (h : x ∈ L.take n) : ∃ i, i < n ∧ i < L.length ∧ x = L.getD i 0 := by
  obtain ⟨i, hi⟩ := List.mem_iff_getElem?.1 h
  rw [List.getElem?_take] at hi
  split at hi
  · rename_i hlt
    have hl : i < L.length := (List.getElem?_eq_some_iff.1 hi).1
    exact ⟨i, hlt, hl, (getD_of hi).symm⟩
  · cases hi

theorem mem_dropL {L : List Int} {n : Nat} {x : Int} (h : x ∈ L.drop n) : ∃ i, n ≤ i ∧ i < L.length ∧ x = L.getD i 0 := by
  obtain ⟨i, hi⟩ := List.mem_iff_getElem?.1 h
  rw [List.getElem?_drop] at hi
  exact ⟨n + i, by omega, (List.getElem?_eq_some_iff.1 hi).1, (getD_of hi).symm⟩

theorem key_le {k : Int → Int} {L : List Int} (hL : L.Pairwise (R k)) {i j : Nat} (hij : i ≤ j) (hj : j < L.length) : k (L.getD i 0) ≤ k (L.getD j 0) := by
  rcases Nat.lt_or_eq_of_le hij with h | h
  · have := List.pairwise_iff_getElem.1 hL i j (by omega) hj h
    have e1 : L.getD i 0 = L[i] := getD_of (by simp)
    have e2 : L.getD j 0 = L[j] := getD_of (by simp)
    rw [e1, e2]
    unfold R at this
    omega
  · rw [h]
    exact Int.le_refl _

theorem get_A {p A B q : List Int} {i : Nat} (h : i < A.length) : (p ++ A ++ B ++ q).getD (p.length + i) 0 = A.getD i 0 := by
  refine getD_of ?_
  rw [List.append_assoc, List.append_assoc, List.getElem?_append_right (by omega), Nat.add_sub_cancel_left, List.getElem?_append_left h]
  exact get_of h

theorem get_B {p A B q : List Int} {i : Nat} (h : i < B.length) : (p ++ A ++ B ++ q).getD (p.length + A.length + i) 0 = B.getD i 0 := by
  refine getD_of ?_
  rw [List.append_assoc, List.getElem?_append_right (by simp), List.length_append, Nat.add_sub_cancel_left, List.getElem?_append_left h]
  exact get_of h

theorem split_at {L : List Int} {t : Nat} (h : t < L.length) : ∃ L1 y L2, L = L1 ++ y :: L2 ∧ L1.length = t := by
  refine ⟨L.take t, L[t], L.drop (t + 1), ?_, by rw [List.length_take]; omega⟩
  rw [← List.drop_eq_getElem_cons, List.take_append_drop]

theorem stage {ρ : Type} {c1 c2 : Bool} {X : Option (List Int × Unit)} {l : Nat} {T : List Int → Option ρ} {xs ys : List Int} (h1 : c1 = true → c2 = true → X = some (ys, ()) ∧ ys.length = l) (h2 : c1 = false ∨ c2 = false → ys = xs) :
    cond c1 (cond c2 (Option.bind X fun r => cond (Nat.beq (List.length r.1) l) (T r.1) none) (T xs)) (T xs) = T ys := by
  cases c1
  · rw [h2 (.inl rfl)]; rfl
  · cases c2
    · rw [h2 (.inr rfl)]; rfl
    · obtain ⟨e1, e2⟩ := h1 rfl rfl
      rw [e1]
      simp only [cond_true, Option.bind_some]
      rw [nbeq e2, cond_true]

theorem ex_eq {ρ : Type} {A B : Option ρ} {Q : ρ → Prop} (h : A = B) (hB : ∃ r, B = some r ∧ Q r) : ∃ r, A = some r ∧ Q r := h ▸ hB

theorem cond_loop {σ ρ : Type} (c : Bool) (X : σ → (σ → Option ρ) → Option ρ) (N : Nat) (s1 s2 : σ) : cond c (loopN X N s1) (loopN X N s2) = loopN X N (cond c s1 s2) := by cases c <;> rfl

section
variable {N : Nat} (hN : 9223372036854775808 ≤ N) {cmp : Int → Int → Option (Int × Unit)} {D : Int → Prop} {k : Int → Int} (hc : ByKey cmp D k)
include hN hc

/-- One number ahead of a run. -/
theorem sym_one {self : List Int → Int → Int → Int → Option (List Int × Unit)} {p B q : List Int} {x : Int} (hB : B.Pairwise (R k)) (hS : ∀ y ∈ B, k x = k y → x < y) (hDx : D x) (hD : ∀ y ∈ B, D y)
    (hl : (p ++ [x] ++ B ++ q).length ≤ 2147483648) {a m b : Int} (ha : a = p.length) (hm : m = (p.length + 1 : Nat)) (hb : b = (p.length + 1 + B.length : Nat)) :
    ∃ C, symG_step N cmp self (p ++ [x] ++ B ++ q) a m b = some (p ++ C ++ q, ()) ∧ C.Perm ([x] ++ B) ∧ C.Pairwise (R k) := by
  have fin : ∀ {o : Option (List Int × Unit)}, (∃ r, o = some r ∧ ∃ C, r.1 = p ++ C ++ q ∧ C.Perm ([x] ++ B) ∧ C.Pairwise (R k)) → ∃ C, o = some (p ++ C ++ q, ()) ∧ C.Perm ([x] ++ B) ∧ C.Pairwise (R k) := by
    rintro o ⟨⟨r, u⟩, rfl, C, h1, h2, h3⟩
    exact ⟨C, by rw [← h1], h2, h3⟩
  simp only [List.length_append, List.length_singleton] at hl
  unfold symG_step
  apply fin
  rw [show (w64 (m - a) == 1) = true by rw [w64_in (by omega)]; simp; omega, cond_true]
  refine loop_ex (I := fun s : Int × Int × Unit => ∃ B1 B2 B3, B = B1 ++ B2 ++ B3 ∧ s.1 = (p.length + 1 + B1.length : Nat) ∧ s.2.1 = (p.length + 1 + B1.length + B2.length : Nat) ∧ (∀ y ∈ B1, k y < k x) ∧ ∀ y ∈ B3, ¬ k y < k x) (μ := fun s => (s.2.1 - s.1).toNat) ?_ N _
    ⟨[], B, [], by simp, by simp; omega, by simp; omega, (fun y h => by cases h), (fun y h => by cases h)⟩ (by simp only; omega)
  rintro ⟨i, j, u⟩ next ⟨B1, B2, B3, rfl, rfl, rfl, h1, h3⟩ hn
  simp only at hn ⊢
  simp only [List.length_append] at hl hb
  by_cases hz : B2.length = 0
  · have hz' := List.eq_nil_of_length_eq_zero hz
    subst hz'
    rw [decide_eq_false (by simp), cond_false]
    rw [w64_in (n := ((p.length + 1 + B1.length : Nat) : Int) - 1) (by omega)]
    refine loop_ex (I := fun s : List Int × Int × Unit => ∃ C1 C2, B1 = C1 ++ C2 ∧ s.1 = p ++ C1 ++ x :: C2 ++ B3 ++ q ∧ s.2.1 = (p.length + C1.length : Nat)) (μ := fun s => (p.length + B1.length - s.2.1).toNat) ?_ N _ ⟨[], B1, rfl, by simp, by simp [ha]⟩ (by simp only; omega)
    rintro ⟨ys, t, u⟩ next2 ⟨C1, C2, rfl, rfl, rfl⟩ hm2
    simp only at hm2 ⊢
    simp only [List.length_append] at hl hb
    cases C2 with
    | nil =>
      rw [decide_eq_false (by simp; omega), cond_false]
      refine ⟨_, rfl, C1 ++ x :: B3, by simp, ?_, ?_⟩
      · simp only [List.append_nil]
        exact List.perm_middle
      · simp only [List.append_nil] at hB h1 hS
        have hB' := List.pairwise_append.1 hB
        refine List.pairwise_append.2 ⟨hB'.1, List.pairwise_cons.2 ⟨fun y hy => ?_, hB'.2.1⟩, fun c hc1 d hd => ?_⟩
        · have g1 := h3 y hy
          have g2 := hS y (by simp [hy])
          unfold R
          omega
        · rcases List.mem_cons.1 hd with rfl | hd
          · exact .inl (h1 c hc1)
          · exact hB'.2.2 c hc1 d hd
    | cons c C2 =>
      simp only [List.length_cons] at hl hb
      have e : p ++ C1 ++ x :: (c :: C2) ++ B3 ++ q = (p ++ C1) ++ x :: ([] ++ c :: (C2 ++ B3 ++ q)) := by simp
      have i1 : w64 (((p.length + C1.length : Nat) : Int) + 1) = ((p ++ C1).length + 1 + ([] : List Int).length : Nat) := by rw [w64_in (by omega)]; simp
      have i2 : ((p.length + C1.length : Nat) : Int) = ((p ++ C1).length : Nat) := by simp
      rw [e, decide_eq_true (show ((p.length + C1.length : Nat) : Int) < ((p.length + 1 + (C1 ++ c :: C2).length : Nat) : Int) - 1 by simp; omega), cond_true]
      refine ex_eq (swap_block (xs := (p ++ C1) ++ x :: ([] ++ c :: (C2 ++ B3 ++ q))) (K := fun ys => next2 (ys, w64 (((p.length + C1.length : Nat) : Int) + 1), ())) i1 i2 (by simp; omega) (by simp)) ?_
      rw [(swp_far _ _ _ _ _).1]
      exact hm2 _ ⟨C1 ++ [c], C2, by simp, by simp, by simp only; rw [w64_in (by omega)]; simp; omega⟩ (by simp only; rw [w64_in (by omega)]; simp; omega)
  · obtain ⟨L1, y, L2, rfl, hL1⟩ := split_at (L := B2) (t := B2.length / 2) (by omega)
    have hlen2 : (L1 ++ y :: L2).length = L1.length + 1 + L2.length := by simp; omega
    rw [hlen2] at hl hb hL1 hn ⊢
    have hh := half_nat (n := ((p.length + 1 + B1.length : Nat) : Int) + ((p.length + 1 + B1.length + (L1.length + 1 + L2.length) : Nat) : Int)) (s := (p.length + 1 + B1.length) + (p.length + 1 + B1.length + (L1.length + 1 + L2.length))) (by omega) (by omega)
    have hq : ((p.length + 1 + B1.length) + (p.length + 1 + B1.length + (L1.length + 1 + L2.length))) / 2 = (p ++ [x] ++ B1 ++ L1).length := by simp; omega
    rw [hq] at hh
    have e : p ++ [x] ++ (B1 ++ (L1 ++ y :: L2) ++ B3) ++ q = (p ++ [x] ++ B1 ++ L1) ++ y :: (L2 ++ B3 ++ q) := by simp
    have e2 : p ++ [x] ++ (B1 ++ (L1 ++ y :: L2) ++ B3) ++ q = p ++ x :: (B1 ++ (L1 ++ y :: L2) ++ B3 ++ q) := by simp
    have hlt : (p ++ [x] ++ (B1 ++ (L1 ++ y :: L2) ++ B3) ++ q).length = p.length + 1 + B1.length + L1.length + 1 + L2.length + B3.length + q.length := by simp; omega
    have g1 : (p ++ [x] ++ (B1 ++ (L1 ++ y :: L2) ++ B3) ++ q)[((p ++ [x] ++ B1 ++ L1).length : Int).toNat]? = some y := by rw [Int.toNat_natCast, e]; exact get_mid _ _ _
    have g2 : (p ++ [x] ++ (B1 ++ (L1 ++ y :: L2) ++ B3) ++ q)[a.toNat]? = some x := by rw [ha, Int.toNat_natCast, e2]; exact get_mid _ _ _
    have b1 : inB ((p ++ [x] ++ B1 ++ L1).length : Int) (p ++ [x] ++ (B1 ++ (L1 ++ y :: L2) ++ B3) ++ q).length = true := inB_nat rfl (by rw [hlt]; simp; omega)
    have b2 : inB a (p ++ [x] ++ (B1 ++ (L1 ++ y :: L2) ++ B3) ++ q).length = true := inB_nat ha (by rw [hlt]; omega)
    obtain ⟨r, hr1, hr2⟩ := hc y x (hD y (by simp)) hDx
    rw [decide_eq_true (by omega), hh, b1, b2, g1, g2]
    simp only [cond_true, Option.bind_some, hr1, hr2]
    have hB' := List.pairwise_append.1 hB
    have hB2 := List.pairwise_append.1 hB'.1
    have hB3 := List.pairwise_append.1 hB2.2.1
    by_cases hk : k y < k x
    · rw [decide_eq_true hk, cond_true]
      refine hn _ ⟨B1 ++ L1 ++ [y], L2, B3, by simp, by simp only; rw [w64_in (by simp; omega)]; simp; omega, by simp only; simp; omega, fun z hz => ?_, h3⟩ (by simp only; rw [w64_in (by simp; omega)]; simp; omega)
      rcases List.mem_append.1 hz with hz | hz
      · rcases List.mem_append.1 hz with hz | hz
        · exact h1 z hz
        · have := hB3.2.2 z hz y (by simp)
          unfold R at this
          omega
      · rw [List.mem_singleton.1 hz]; exact hk
    · rw [decide_eq_false hk, cond_false]
      refine hn _ ⟨B1, L1, y :: L2 ++ B3, by simp, rfl, by simp only; simp; omega, h1, fun z hz => ?_⟩ (by simp only; simp; omega)
      rcases List.mem_append.1 hz with hz | hz
      · rcases List.mem_cons.1 hz with rfl | hz
        · exact hk
        · have := (List.pairwise_cons.1 hB3.2.1).1 z hz
          unfold R at this
          omega
      · exact h3 z hz

/-- One number behind a run. -/
theorem sym_last {self : List Int → Int → Int → Int → Option (List Int × Unit)} {p A q : List Int} {y : Int} (hA1 : A.length ≠ 1) (hA : A.Pairwise (R k)) (hS : ∀ x ∈ A, k x = k y → x < y) (hDy : D y) (hD : ∀ x ∈ A, D x)
    (hl : (p ++ A ++ [y] ++ q).length ≤ 2147483648) {a m b : Int} (ha : a = p.length) (hm : m = (p.length + A.length : Nat)) (hb : b = (p.length + A.length + 1 : Nat)) :
    ∃ C, symG_step N cmp self (p ++ A ++ [y] ++ q) a m b = some (p ++ C ++ q, ()) ∧ C.Perm (A ++ [y]) ∧ C.Pairwise (R k) := by
  have fin : ∀ {o : Option (List Int × Unit)}, (∃ r, o = some r ∧ ∃ C, r.1 = p ++ C ++ q ∧ C.Perm (A ++ [y]) ∧ C.Pairwise (R k)) → ∃ C, o = some (p ++ C ++ q, ()) ∧ C.Perm (A ++ [y]) ∧ C.Pairwise (R k) := by
    rintro o ⟨⟨r, u⟩, rfl, C, h1, h2, h3⟩
    exact ⟨C, by rw [← h1], h2, h3⟩
  simp only [List.length_append, List.length_singleton] at hl
  unfold symG_step
  apply fin
  rw [show (w64 (m - a) == 1) = false by rw [w64_in (by omega)]; simp; omega, cond_false, show (w64 (b - m) == 1) = true by rw [w64_in (by omega)]; simp; omega, cond_true]
  refine loop_ex (I := fun s : Int × Int × Unit => ∃ A1 A2 A3, A = A1 ++ A2 ++ A3 ∧ s.1 = (p.length + A1.length : Nat) ∧ s.2.1 = (p.length + A1.length + A2.length : Nat) ∧ (∀ x ∈ A1, ¬ k y < k x) ∧ ∀ x ∈ A3, k y < k x) (μ := fun s => (s.2.1 - s.1).toNat) ?_ N _
    ⟨[], A, [], by simp, by simp; omega, by simp; omega, (fun x h => by cases h), (fun x h => by cases h)⟩ (by simp only; omega)
  rintro ⟨i, j, u⟩ next ⟨A1, A2, A3, rfl, rfl, rfl, h1, h3⟩ hn
  simp only at hn ⊢
  simp only [List.length_append] at hl hb hm
  by_cases hz : A2.length = 0
  · have hz' := List.eq_nil_of_length_eq_zero hz
    subst hz'
    simp only [List.append_nil, List.length_nil, Nat.add_zero] at *
    rw [decide_eq_false (by omega), cond_false]
    refine loop_ex (I := fun s : List Int × Int × Unit => ∃ C1 C2, A3 = C1 ++ C2 ∧ s.1 = p ++ A1 ++ C1 ++ y :: C2 ++ q ∧ s.2.1 = (p.length + A1.length + C1.length : Nat)) (μ := fun s => s.2.1.toNat) ?_ N _ ⟨A3, [], by simp, by simp, by simp [hm]; omega⟩ (by simp only; omega)
    rintro ⟨ys, t, u⟩ next2 ⟨C1, C2, rfl, rfl, rfl⟩ hm2
    simp only at hm2 ⊢
    simp only [List.length_append] at hl hb hm
    rcases List.eq_nil_or_concat C1 with rfl | ⟨C1', c, rfl⟩
    · rw [decide_eq_false (by simp), cond_false]
      refine ⟨_, rfl, A1 ++ y :: C2, by simp, ?_, ?_⟩
      · exact List.perm_middle.trans (by simpa using (List.perm_append_singleton y (A1 ++ C2)).symm)
      · have hA' := List.pairwise_append.1 hA
        refine List.pairwise_append.2 ⟨hA'.1, List.pairwise_cons.2 ⟨fun x hx => .inl (h3 x (by simpa using hx)), by simpa using hA'.2.1⟩, fun c hc1 d hd => ?_⟩
        rcases List.mem_cons.1 hd with rfl | hd
        · have g1 := h1 c hc1
          have g2 := hS c (by simp [hc1])
          unfold R
          omega
        · exact hA'.2.2 c hc1 d (by simpa using hd)
    · rw [List.concat_eq_append] at *
      simp only [List.length_append, List.length_singleton] at hl hb hm hm2 ⊢
      have e : p ++ A1 ++ (C1' ++ [c]) ++ y :: C2 ++ q = (p ++ A1 ++ C1') ++ c :: ([] ++ y :: (C2 ++ q)) := by simp
      have i1 : w64 (((p.length + A1.length + (C1'.length + 1) : Nat) : Int) - 1) = ((p ++ A1 ++ C1').length : Nat) := by rw [w64_in (by omega)]; simp; omega
      have i2 : ((p.length + A1.length + (C1'.length + 1) : Nat) : Int) = ((p ++ A1 ++ C1').length + 1 + ([] : List Int).length : Nat) := by simp; omega
      have hlt : ((p ++ A1 ++ C1') ++ c :: ([] ++ y :: (C2 ++ q))).length = p.length + A1.length + C1'.length + 2 + C2.length + q.length := by simp; omega
      have hle : p.length + A1.length + (C1'.length + 1) + (1 + C2.length + q.length) = (p ++ A1 ++ C1' ++ c :: ([] ++ y :: (C2 ++ q))).length := by rw [hlt]; omega
      rw [decide_eq_true (show ((p.length + A1.length + (C1'.length + 1) : Nat) : Int) > ((p.length + A1.length : Nat) : Int) by omega), cond_true]
      refine ex_eq (Eq.trans ?_ (swap_block (xs := (p ++ A1 ++ C1') ++ c :: ([] ++ y :: (C2 ++ q))) (K := fun ys => next2 (ys, w64 (((p.length + A1.length + (C1'.length + 1) : Nat) : Int) - 1), ())) i1 i2 (by rw [hlt]; simp; omega) (by rw [hlt]; simp; omega))) ?_
      · rw [← e]
        simp only [List.length_append, List.length_singleton]
      · rw [(swp_far _ _ _ _ _).2]
        exact hm2 _ ⟨C1', c :: C2, by simp, by simp, by simp only; rw [w64_in (by omega)]; omega⟩ (by simp only; rw [w64_in (by omega)]; omega)
  · obtain ⟨L1, x, L2, rfl, hL1⟩ := split_at (L := A2) (t := A2.length / 2) (by omega)
    have hlen2 : (L1 ++ x :: L2).length = L1.length + 1 + L2.length := by simp; omega
    rw [hlen2] at hl hb hm hL1 hn ⊢
    have hh := half_nat (n := ((p.length + A1.length : Nat) : Int) + ((p.length + A1.length + (L1.length + 1 + L2.length) : Nat) : Int)) (s := (p.length + A1.length) + (p.length + A1.length + (L1.length + 1 + L2.length))) (by omega) (by omega)
    have hq : ((p.length + A1.length) + (p.length + A1.length + (L1.length + 1 + L2.length))) / 2 = (p ++ A1 ++ L1).length := by simp; omega
    rw [hq] at hh
    have e : p ++ (A1 ++ (L1 ++ x :: L2) ++ A3) ++ [y] ++ q = (p ++ A1 ++ L1) ++ x :: (L2 ++ A3 ++ [y] ++ q) := by simp
    have e2 : p ++ (A1 ++ (L1 ++ x :: L2) ++ A3) ++ [y] ++ q = (p ++ (A1 ++ (L1 ++ x :: L2) ++ A3)) ++ y :: q := by simp
    have hlt : (p ++ (A1 ++ (L1 ++ x :: L2) ++ A3) ++ [y] ++ q).length = p.length + A1.length + L1.length + 1 + L2.length + A3.length + 1 + q.length := by simp; omega
    have g1 : (p ++ (A1 ++ (L1 ++ x :: L2) ++ A3) ++ [y] ++ q)[((p ++ A1 ++ L1).length : Int).toNat]? = some x := by rw [Int.toNat_natCast, e]; exact get_mid _ _ _
    have hm' : m = ((p ++ (A1 ++ (L1 ++ x :: L2) ++ A3)).length : Nat) := by rw [hm]; simp; omega
    have g2 : (p ++ (A1 ++ (L1 ++ x :: L2) ++ A3) ++ [y] ++ q)[m.toNat]? = some y := by rw [hm', Int.toNat_natCast, e2]; exact get_mid _ _ _
    have b1 : inB ((p ++ A1 ++ L1).length : Int) (p ++ (A1 ++ (L1 ++ x :: L2) ++ A3) ++ [y] ++ q).length = true := inB_nat rfl (by rw [hlt]; simp; omega)
    have b2 : inB m (p ++ (A1 ++ (L1 ++ x :: L2) ++ A3) ++ [y] ++ q).length = true := inB_nat hm (by rw [hlt]; omega)
    obtain ⟨r, hr1, hr2⟩ := hc y x hDy (hD x (by simp))
    rw [decide_eq_true (by omega), hh, b1, b2, g1, g2]
    simp only [cond_true, Option.bind_some, hr1, hr2]
    have hA' := List.pairwise_append.1 hA
    have hA2 := List.pairwise_append.1 hA'.1
    have hA3 := List.pairwise_append.1 hA2.2.1
    by_cases hk : k y < k x
    · rw [decide_eq_true hk]
      simp only [Bool.not_true, cond_false]
      refine hn _ ⟨A1, L1, x :: L2 ++ A3, by simp, rfl, by simp only; simp; omega, h1, fun z hz => ?_⟩ (by simp only; simp; omega)
      rcases List.mem_append.1 hz with hz | hz
      · rcases List.mem_cons.1 hz with rfl | hz
        · exact hk
        · have := (List.pairwise_cons.1 hA3.2.1).1 z hz
          unfold R at this
          omega
      · exact h3 z hz
    · rw [decide_eq_false hk]
      simp only [Bool.not_false, cond_true]
      refine hn _ ⟨A1 ++ L1 ++ [x], L2, A3, by simp, by simp only; rw [w64_in (by simp; omega)]; simp; omega, by simp only; simp; omega, fun z hz => ?_, h3⟩ (by simp only; rw [w64_in (by simp; omega)]; simp; omega)
      rcases List.mem_append.1 hz with hz | hz
      · rcases List.mem_append.1 hz with hz | hz
        · exact h1 z hz
        · have := hA3.2.2 z hz x (by simp)
          unfold R at this
          omega
      · rw [List.mem_singleton.1 hz]; exact hk

end
end St

end Go.Proofs.Ytkcdhdnmmpapdaa
