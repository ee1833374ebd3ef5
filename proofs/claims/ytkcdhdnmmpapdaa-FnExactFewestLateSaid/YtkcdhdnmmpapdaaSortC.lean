/-
  The library's stable sort over a comparator, third part: merging whole runs, and the sort. No condition.
-/
import Derived.Test.YtkcdhdnmmpapdaaSortB
namespace Go.Proofs.Ytkcdhdnmmpapdaa
open Go Go.Proofs.Ytkcdhdnmmpapdaa.Fw
set_option linter.unusedVariables false
set_option linter.unusedSimpArgs false

namespace St

theorem loopN_succ {σ ρ : Type} (body : σ → (σ → Option ρ) → Option ρ) (n : Nat) (s : σ) : loopN body (n + 1) s = body s (loopN body n) := rfl

section
variable {N : Nat} (hN : 9223372036854775808 ≤ N) {cmp : Int → Int → Option (Int × Unit)} {D : Int → Prop} {k : Int → Int} (hc : ByKey cmp D k)
include hN hc

set_option maxHeartbeats 2000000 in
theorem sym_two {self : List Int → Int → Int → Int → Option (List Int × Unit)} {p A B q : List Int} (hA2 : 2 ≤ A.length) (hB2 : 2 ≤ B.length) (hA : A.Pairwise (R k)) (hB : B.Pairwise (R k))
    (hS : ∀ x ∈ A, ∀ y ∈ B, k x = k y → x < y) (hDA : ∀ x ∈ A, D x) (hDB : ∀ y ∈ B, D y) (hl : (p ++ A ++ B ++ q).length ≤ 2147483648) {a m b : Int} (ha : a = p.length) (hm : m = (p.length + A.length : Nat)) (hb : b = (p.length + A.length + B.length : Nat))
    (hself : ∀ (p' A' B' q' : List Int) (a' m' b' : Int), A'.length + B'.length < A.length + B.length → 0 < A'.length → 0 < B'.length → A'.Pairwise (R k) → B'.Pairwise (R k) → (∀ x ∈ A', ∀ y ∈ B', k x = k y → x < y) → (∀ x ∈ A', D x) → (∀ y ∈ B', D y) →
      (p' ++ A' ++ B' ++ q').length ≤ 2147483648 → a' = p'.length → m' = (p'.length + A'.length : Nat) → b' = (p'.length + A'.length + B'.length : Nat) → ∃ C, self (p' ++ A' ++ B' ++ q') a' m' b' = some (p' ++ C ++ q', ()) ∧ C.Perm (A' ++ B') ∧ C.Pairwise (R k)) :
    ∃ C, symG_step N cmp self (p ++ A ++ B ++ q) a m b = some (p ++ C ++ q, ()) ∧ C.Perm (A ++ B) ∧ C.Pairwise (R k) := by
  have fin : ∀ {o : Option (List Int × Unit)}, (∃ r, o = some r ∧ ∃ C, r.1 = p ++ C ++ q ∧ C.Perm (A ++ B) ∧ C.Pairwise (R k)) → ∃ C, o = some (p ++ C ++ q, ()) ∧ C.Perm (A ++ B) ∧ C.Pairwise (R k) := by
    rintro o ⟨⟨r, u⟩, rfl, C, h1, h2, h3⟩
    exact ⟨C, by rw [← h1], h2, h3⟩
  have hlen : (p ++ A ++ B ++ q).length = p.length + A.length + B.length + q.length := by simp; omega
  rw [hlen] at hl
  unfold symG_step
  apply fin
  have hmid := half_nat (n := a + b) (s := p.length + (p.length + A.length + B.length)) (by omega) (by omega)
  rw [hmid, cond_loop]
  obtain ⟨M, hM⟩ : ∃ M, M = (p.length + (p.length + A.length + B.length)) / 2 := ⟨_, rfl⟩
  rw [← hM] at hmid ⊢
  rw [show (w64 (m - a) == 1) = false by rw [w64_in (by omega)]; simp; omega, cond_false, show (w64 (b - m) == 1) = false by rw [w64_in (by omega)]; simp; omega, cond_false]
  have hn : w64 ((M : Int) + m) = ((M + (p.length + A.length) : Nat) : Int) := by rw [w64_in (by omega)]; omega
  have hn1 : w64 (((M + (p.length + A.length) : Nat) : Int) - 1) = ((M + (p.length + A.length) - 1 : Nat) : Int) := by rw [w64_in (by omega)]; omega
  rw [hn, hn1]
  obtain ⟨lo, hi, hst, h1, h2, h3, h4, h5, h6, h7⟩ : ∃ lo hi : Nat, cond (decide (m > (M : Int))) ((w64 (((M + (p.length + A.length) : Nat) : Int) - b), (M : Int), ()) : Int × Int × Unit) (a, m, ()) = ((lo : Int), (hi : Int), ()) ∧ p.length ≤ lo ∧ lo ≤ hi ∧ hi ≤ p.length + A.length ∧ hi ≤ M ∧
      (lo = p.length ∨ lo + (p.length + A.length + B.length) = M + (p.length + A.length)) ∧ (hi = p.length + A.length ∨ hi = M) ∧ M + (p.length + A.length) ≤ lo + (p.length + A.length + B.length) := by
    by_cases hmm : m > (M : Int)
    · refine ⟨M + (p.length + A.length) - (p.length + A.length + B.length), M, ?_, by omega, by omega, by omega, by omega, .inr (by omega), .inr rfl, by omega⟩
      rw [decide_eq_true hmm, cond_true, w64_in (by omega)]
      congr 1
      omega
    · refine ⟨p.length, p.length + A.length, ?_, by omega, by omega, by omega, by omega, .inl rfl, .inl rfl, by omega⟩
      rw [decide_eq_false hmm, cond_false, ha, hm]
  rw [hst]
  -- where two places of the search lie
  have gA : ∀ c : Nat, p.length ≤ c → c < p.length + A.length → (p ++ A ++ B ++ q).getD c 0 = A.getD (c - p.length) 0 := fun c g1 g2 => by
    have := get_A (p := p) (A := A) (B := B) (q := q) (i := c - p.length) (by omega)
    rw [show p.length + (c - p.length) = c by omega] at this
    exact this
  have gB : ∀ c : Nat, p.length + A.length ≤ c → c < p.length + A.length + B.length → (p ++ A ++ B ++ q).getD c 0 = B.getD (c - (p.length + A.length)) 0 := fun c g1 g2 => by
    have := get_B (p := p) (A := A) (B := B) (q := q) (i := c - (p.length + A.length)) (by omega)
    rw [show p.length + A.length + (c - (p.length + A.length)) = c by omega] at this
    exact this
  refine loop_ex (I := fun s : Int × Int × Unit => ∃ st r : Nat, s = ((st : Int), (r : Int), ()) ∧ lo ≤ st ∧ st ≤ r ∧ r ≤ hi ∧
      (lo < st → ¬ k ((p ++ A ++ B ++ q).getD (M + (p.length + A.length) - st) 0) < k ((p ++ A ++ B ++ q).getD (st - 1) 0)) ∧
      (r < hi → k ((p ++ A ++ B ++ q).getD (M + (p.length + A.length) - 1 - r) 0) < k ((p ++ A ++ B ++ q).getD r 0))) (μ := fun s => (s.2.1 - s.1).toNat) ?_ N _
    ⟨lo, hi, rfl, Nat.le_refl _, h2, Nat.le_refl _, fun h => absurd h (Nat.lt_irrefl _), fun h => absurd h (Nat.lt_irrefl _)⟩ (by simp only; omega)
  rintro _ next ⟨st, r, rfl, e1, e2, e3, e4, e5⟩ hnx
  simp only at hnx ⊢
  by_cases hlt : st < r
  · -- a round of the search
    have hh := half_nat (n := (st : Int) + r) (s := st + r) (by omega) (by omega)
    obtain ⟨c, hcc⟩ : ∃ c, c = (st + r) / 2 := ⟨_, rfl⟩
    rw [← hcc] at hh
    have hpc : w64 (((M + (p.length + A.length) - 1 : Nat) : Int) - (c : Int)) = ((M + (p.length + A.length) - 1 - c : Nat) : Int) := by rw [w64_in (by omega)]; omega
    have b1 : inB (((M + (p.length + A.length) - 1 - c : Nat) : Nat) : Int) (p ++ A ++ B ++ q).length = true := inB_nat rfl (by rw [hlen]; omega)
    have b2 : inB ((c : Nat) : Int) (p ++ A ++ B ++ q).length = true := inB_nat rfl (by rw [hlen]; omega)
    have g1 : (p ++ A ++ B ++ q)[(((M + (p.length + A.length) - 1 - c : Nat) : Nat) : Int).toNat]? = some ((p ++ A ++ B ++ q).getD (M + (p.length + A.length) - 1 - c) 0) := by rw [Int.toNat_natCast]; exact get_of (by rw [hlen]; omega)
    have g2 : (p ++ A ++ B ++ q)[((c : Nat) : Int).toNat]? = some ((p ++ A ++ B ++ q).getD c 0) := by rw [Int.toNat_natCast]; exact get_of (by rw [hlen]; omega)
    have d1 : D ((p ++ A ++ B ++ q).getD (M + (p.length + A.length) - 1 - c) 0) := by rw [gB _ (by omega) (by omega)]; exact hDB _ (getD_memL (by omega))
    have d2 : D ((p ++ A ++ B ++ q).getD c 0) := by rw [gA _ (by omega) (by omega)]; exact hDA _ (getD_memL (by omega))
    obtain ⟨w, hr1, hr2⟩ := hc _ _ d1 d2
    rw [decide_eq_true (show (st : Int) < (r : Int) by omega), hh, hpc, b1, b2, g1, g2]
    simp only [cond_true, Option.bind_some, hr1, hr2]
    by_cases hk : k ((p ++ A ++ B ++ q).getD (M + (p.length + A.length) - 1 - c) 0) < k ((p ++ A ++ B ++ q).getD c 0)
    · rw [decide_eq_true hk]
      simp only [Bool.not_true, cond_false]
      exact hnx _ ⟨st, c, rfl, e1, by omega, by omega, e4, fun _ => hk⟩ (by simp only; omega)
    · rw [decide_eq_false hk]
      simp only [Bool.not_false, cond_true]
      refine hnx _ ⟨c + 1, r, by rw [w64_in (by omega)]; rfl, by omega, by omega, by omega, fun _ => ?_, e5⟩ (by simp only; rw [w64_in (by omega)]; omega)
      rw [show M + (p.length + A.length) - (c + 1) = M + (p.length + A.length) - 1 - c by omega, Nat.add_sub_cancel]
      exact hk
  · obtain rfl : st = r := by omega
    clear hnx
    rw [decide_eq_false (show ¬ (st : Int) < (st : Int) by omega), cond_false]
    obtain ⟨en, hen⟩ : ∃ en, en = M + (p.length + A.length) - st := ⟨_, rfl⟩
    have hent : w64 (((M + (p.length + A.length) : Nat) : Int) - (st : Int)) = (en : Int) := by rw [w64_in (by omega)]; omega
    rw [hent]
    have q1 : p.length + A.length ≤ en := by omega
    have q2 : en ≤ p.length + A.length + B.length := by omega
    -- the four parts
    obtain ⟨A1, A2, hA12, hA1, hmA1, hmA2⟩ : ∃ A1 A2, A = A1 ++ A2 ∧ A1.length = st - p.length ∧ (∀ x ∈ A1, ∃ i, i < st - p.length ∧ i < A.length ∧ x = A.getD i 0) ∧ ∀ x ∈ A2, ∃ i, st - p.length ≤ i ∧ i < A.length ∧ x = A.getD i 0 :=
      ⟨A.take (st - p.length), A.drop (st - p.length), (List.take_append_drop _ _).symm, by rw [List.length_take]; omega, fun x h => mem_takeL h, fun x h => mem_dropL h⟩
    obtain ⟨B1, B2, hB12, hB1, hmB1, hmB2⟩ : ∃ B1 B2, B = B1 ++ B2 ∧ B1.length = en - (p.length + A.length) ∧ (∀ x ∈ B1, ∃ i, i < en - (p.length + A.length) ∧ i < B.length ∧ x = B.getD i 0) ∧ ∀ x ∈ B2, ∃ i, en - (p.length + A.length) ≤ i ∧ i < B.length ∧ x = B.getD i 0 :=
      ⟨B.take (en - (p.length + A.length)), B.drop (en - (p.length + A.length)), (List.take_append_drop _ _).symm, by rw [List.length_take]; omega, fun x h => mem_takeL h, fun x h => mem_dropL h⟩
    have hlA : A.length = A1.length + A2.length := by rw [hA12, List.length_append]
    have hlB : B.length = B1.length + B2.length := by rw [hB12, List.length_append]
    have c12 : ∀ x ∈ A1, ∀ y ∈ B2, R k x y := fun x hx y hy => by
      obtain ⟨i, i1, i2, rfl⟩ := hmA1 x hx
      obtain ⟨j, j1, j2, rfl⟩ := hmB2 y hy
      have hlo : lo < st := by
        have := h5
        omega
      have h := e4 hlo
      rw [← hen, gA (st - 1) (by omega) (by omega), gB en (by omega) (by omega)] at h
      have k1 := key_le hA (i := i) (j := st - 1 - p.length) (by omega) (by omega)
      have k2 := key_le hB (i := en - (p.length + A.length)) (j := j) j1 j2
      have := hS _ (getD_memL i2) _ (getD_memL j2)
      unfold R
      omega
    have c21 : ∀ y ∈ B1, ∀ x ∈ A2, R k y x := fun y hy x hx => by
      obtain ⟨i, i1, i2, rfl⟩ := hmA2 x hx
      obtain ⟨j, j1, j2, rfl⟩ := hmB1 y hy
      have hhi : st < hi := by
        have := h6
        omega
      have h := e5 hhi
      rw [show M + (p.length + A.length) - 1 - st = en - 1 by omega, gA st (by omega) (by omega), gB (en - 1) (by omega) (by omega)] at h
      have k1 := key_le hA (i := st - p.length) (j := i) i1 i2
      have k2 := key_le hB (i := j) (j := en - 1 - (p.length + A.length)) (by omega) (by omega)
      unfold R
      omega
    have pA := hA
    rw [hA12] at pA
    have pA' := List.pairwise_append.1 pA
    have pB := hB
    rw [hB12] at pB
    have pB' := List.pairwise_append.1 pB
    have sA1 : ∀ x ∈ A1, x ∈ A := fun x h => by rw [hA12]; exact List.mem_append_left _ h
    have sA2 : ∀ x ∈ A2, x ∈ A := fun x h => by rw [hA12]; exact List.mem_append_right _ h
    have sB1 : ∀ x ∈ B1, x ∈ B := fun x h => by rw [hB12]; exact List.mem_append_left _ h
    have sB2 : ∀ x ∈ B2, x ∈ B := fun x h => by rw [hB12]; exact List.mem_append_right _ h
    have exs : p ++ A ++ B ++ q = (p ++ A1) ++ A2 ++ B1 ++ (B2 ++ q) := by rw [hA12, hB12]; simp
    -- merging the two parts on the left
    have m1 : ∃ C1 : List Int, C1.Perm (A1 ++ B1) ∧ C1.Pairwise (R k) ∧ (decide (a < (st : Int)) = true → decide ((st : Int) < (M : Int)) = true → self (p ++ A1 ++ B1 ++ (A2 ++ B2 ++ q)) a st M = some (p ++ C1 ++ (A2 ++ B2 ++ q), ())) ∧
        (decide (a < (st : Int)) = false ∨ decide ((st : Int) < (M : Int)) = false → C1 = A1 ++ B1) := by
      by_cases h0 : 0 < A1.length ∧ 0 < B1.length
      · obtain ⟨C, g1, g2, g3⟩ := hself p A1 B1 (A2 ++ B2 ++ q) a st M (by omega) h0.1 h0.2 pA'.1 pB'.1 (fun x hx y hy => hS x (sA1 x hx) y (sB1 y hy)) (fun x hx => hDA x (sA1 x hx)) (fun y hy => hDB y (sB1 y hy)) (by simp; omega) ha (by omega) (by omega)
        exact ⟨C, g2, g3, fun _ _ => g1, fun h => by simp only [decide_eq_false_iff_not] at h; omega⟩
      · refine ⟨A1 ++ B1, List.Perm.refl _, ?_, fun g1 g2 => ?_, fun _ => rfl⟩
        · by_cases h1 : A1.length = 0
          · rw [List.eq_nil_of_length_eq_zero h1]; simpa using pB'.1
          · rw [List.eq_nil_of_length_eq_zero (l := B1) (by omega)]; simpa using pA'.1
        · simp only [decide_eq_true_eq] at g1 g2
          omega
    obtain ⟨C1, m1a, m1b, m1c, m1d⟩ := m1
    have lC1 : C1.length = A1.length + B1.length := by rw [m1a.length_eq, List.length_append]
    have m2 : ∃ C2 : List Int, C2.Perm (A2 ++ B2) ∧ C2.Pairwise (R k) ∧ (decide ((M : Int) < (en : Int)) = true → decide ((en : Int) < b) = true → self (p ++ C1 ++ A2 ++ B2 ++ q) M en b = some (p ++ C1 ++ C2 ++ q, ())) ∧
        (decide ((M : Int) < (en : Int)) = false ∨ decide ((en : Int) < b) = false → C2 = A2 ++ B2) := by
      by_cases h0 : 0 < A2.length ∧ 0 < B2.length
      · obtain ⟨C, g1, g2, g3⟩ := hself (p ++ C1) A2 B2 q M en b (by omega) h0.1 h0.2 pA'.2.1 pB'.2.1 (fun x hx y hy => hS x (sA2 x hx) y (sB2 y hy)) (fun x hx => hDA x (sA2 x hx)) (fun y hy => hDB y (sB2 y hy)) (by simp; omega) (by simp; omega) (by simp; omega) (by simp; omega)
        exact ⟨C, g2, g3, fun _ _ => g1, fun h => by simp only [decide_eq_false_iff_not] at h; omega⟩
      · refine ⟨A2 ++ B2, List.Perm.refl _, ?_, fun g1 g2 => ?_, fun _ => rfl⟩
        · by_cases h1 : A2.length = 0
          · rw [List.eq_nil_of_length_eq_zero h1]; simpa using pB'.2.1
          · rw [List.eq_nil_of_length_eq_zero (l := B2) (by omega)]; simpa using pA'.2.1
        · simp only [decide_eq_true_eq] at g1 g2
          omega
    obtain ⟨C2, m2a, m2b, m2c, m2d⟩ := m2
    have lC2 : C2.length = A2.length + B2.length := by rw [m2a.length_eq, List.length_append]
    -- the tail of the text
    refine ex_eq (B := some (p ++ (C1 ++ C2) ++ q, ())) (Eq.trans (stage (c1 := decide ((st : Int) < m)) (c2 := decide (m < (en : Int))) (X := rotG N cmp (p ++ A ++ B ++ q) st m en) (xs := p ++ A ++ B ++ q) (ys := p ++ A1 ++ B1 ++ A2 ++ B2 ++ q)
      (T := fun ys => cond (decide (a < (st : Int))) (cond (decide ((st : Int) < (M : Int))) (Option.bind (self ys a st M) fun r => cond (Nat.beq (List.length r.1) (List.length ys))
          (cond (decide ((M : Int) < (en : Int))) (cond (decide ((en : Int) < b)) (Option.bind (self r.1 M en b) fun r' => cond (Nat.beq (List.length r'.1) (List.length r.1)) (some (r'.1, ())) none) (some (r.1, ()))) (some (r.1, ()))) none)
          (cond (decide ((M : Int) < (en : Int))) (cond (decide ((en : Int) < b)) (Option.bind (self ys M en b) fun r' => cond (Nat.beq (List.length r'.1) (List.length ys)) (some (r'.1, ())) none) (some (ys, ()))) (some (ys, ()))))
        (cond (decide ((M : Int) < (en : Int))) (cond (decide ((en : Int) < b)) (Option.bind (self ys M en b) fun r' => cond (Nat.beq (List.length r'.1) (List.length ys)) (some (r'.1, ())) none) (some (ys, ()))) (some (ys, ())))) ?_ ?_) ?_) ?_
    · intro g1 g2
      simp only [decide_eq_true_eq] at g1 g2
      refine ⟨?_, by simp; omega⟩
      have := rotG_ok hN (cmp := cmp) (p := p ++ A1) (X := A2) (Y := B1) (q := B2 ++ q) (a := (st : Int)) (m := m) (e := (en : Int)) (by omega) (by omega) (by simp; omega) (by simp; omega) (by simp; omega) (by simp; omega)
      rw [exs, this]
      simp
    · intro g
      simp only [decide_eq_false_iff_not] at g
      have hz : A2.length = 0 ∨ B1.length = 0 := by omega
      rcases hz with hz | hz
      · have := List.eq_nil_of_length_eq_zero hz
        rw [exs, this]
        simp
      · have := List.eq_nil_of_length_eq_zero hz
        rw [exs, this]
        simp
    · refine Eq.trans (stage (c1 := decide (a < (st : Int))) (c2 := decide ((st : Int) < (M : Int))) (X := self (p ++ A1 ++ B1 ++ A2 ++ B2 ++ q) a st M) (xs := p ++ A1 ++ B1 ++ A2 ++ B2 ++ q) (ys := p ++ C1 ++ A2 ++ B2 ++ q)
        (T := fun ys => cond (decide ((M : Int) < (en : Int))) (cond (decide ((en : Int) < b)) (Option.bind (self ys M en b) fun r' => cond (Nat.beq (List.length r'.1) (List.length ys)) (some (r'.1, ())) none) (some (ys, ()))) (some (ys, ()))) ?_ ?_) ?_
      · intro g1 g2
        have := m1c g1 g2
        have e' : p ++ A1 ++ B1 ++ A2 ++ B2 ++ q = p ++ A1 ++ B1 ++ (A2 ++ B2 ++ q) := by simp
        rw [e', this]
        exact ⟨by simp, by simp; omega⟩
      · intro g
        rw [m1d g]
        simp
      · exact stage (c1 := decide ((M : Int) < (en : Int))) (c2 := decide ((en : Int) < b)) (X := self (p ++ C1 ++ A2 ++ B2 ++ q) M en b) (xs := p ++ C1 ++ A2 ++ B2 ++ q) (ys := p ++ (C1 ++ C2) ++ q) (T := fun ys => some (ys, ()))
          (fun g1 g2 => ⟨by rw [m2c g1 g2]; simp, by simp; omega⟩) (fun g => by rw [m2d g]; simp)
    · refine ⟨_, rfl, C1 ++ C2, rfl, ?_, ?_⟩
      · refine (m1a.append m2a).trans ?_
        rw [hA12, hB12]
        have : (A1 ++ B1 ++ (A2 ++ B2)).Perm (A1 ++ A2 ++ (B1 ++ B2)) := by
          simp only [List.append_assoc]
          refine List.Perm.append_left A1 ?_
          rw [← List.append_assoc, ← List.append_assoc]
          exact List.Perm.append_right B2 List.perm_append_comm
        exact this
      · refine List.pairwise_append.2 ⟨m1b, m2b, fun x hx y hy => ?_⟩
        rcases List.mem_append.1 (m1a.mem_iff.1 hx) with hx | hx <;> rcases List.mem_append.1 (m2a.mem_iff.1 hy) with hy | hy
        · exact pA'.2.2 x hx y hy
        · exact c12 x hx y hy
        · exact c21 x hx y hy
        · exact pB'.2.2 x hx y hy

/-- Merging two runs. -/
theorem sym_ok : ∀ (F : Nat) (p A B q : List Int) (a m b : Int), A.length + B.length ≤ F → 0 < A.length → 0 < B.length → A.Pairwise (R k) → B.Pairwise (R k) → (∀ x ∈ A, ∀ y ∈ B, k x = k y → x < y) → (∀ x ∈ A, D x) → (∀ y ∈ B, D y) →
      (p ++ A ++ B ++ q).length ≤ 2147483648 → a = p.length → m = (p.length + A.length : Nat) → b = (p.length + A.length + B.length : Nat) → ∃ C, symG_r N cmp F (p ++ A ++ B ++ q) a m b = some (p ++ C ++ q, ()) ∧ C.Perm (A ++ B) ∧ C.Pairwise (R k) := by
  intro F
  induction F with
  | zero => intro p A B q a m b hF h0; omega
  | succ F ih =>
    intro p A B q a m b hF h0 h1 hA hB hS hDA hDB hl ha hm hb
    show ∃ C, symG_step N cmp (symG_r N cmp F) (p ++ A ++ B ++ q) a m b = some (p ++ C ++ q, ()) ∧ C.Perm (A ++ B) ∧ C.Pairwise (R k)
    by_cases hA1 : A.length = 1
    · obtain ⟨x, rfl⟩ := List.length_eq_one_iff.1 hA1
      exact sym_one hN hc hB (fun y hy => hS x (by simp) y hy) (hDA x (by simp)) hDB hl ha hm hb
    · by_cases hB1 : B.length = 1
      · obtain ⟨y, rfl⟩ := List.length_eq_one_iff.1 hB1
        exact sym_last hN hc hA1 hA (fun x hx => hS x hx y (by simp)) (hDB y (by simp)) hDA hl ha hm hb
      · exact sym_two hN hc (by omega) (by omega) hA hB hS hDA hDB hl ha hm hb (fun p' A' B' q' a' m' b' hlt g0 g1 g2 g3 g4 g5 g6 g7 g8 g9 g10 => ih p' A' B' q' a' m' b' (by omega) g0 g1 g2 g3 g4 g5 g6 g7 g8 g9 g10)

/-- **The stable sort of an ascending list**: sorted by the key, equal ones in their order. -/
theorem sort_ok {xs : List Int} (hx : xs.Pairwise (· < ·)) (hD : ∀ x ∈ xs, D x) (hl : xs.length < 40) : ∃ C, sortG N cmp xs = some (C, ()) ∧ C.Perm xs ∧ C.Pairwise (R k) := by
  have hI : ∀ (p A q : List Int) (a b : Int), A.Pairwise (· < ·) → (∀ x ∈ A, D x) → (p ++ A ++ q).length ≤ 4294967296 → a = p.length → b = (p.length + A.length : Nat) → ∃ C, insG N cmp (p ++ A ++ q) a b = some (p ++ C ++ q, ()) ∧ C.Perm A ∧ C.Pairwise (R k) :=
    fun p A q a b h1 h2 h3 h4 h5 => insG_ok hN hc h1 h2 h3 h4 h5
  obtain ⟨n, rfl⟩ : ∃ n, N = n + 3 := ⟨N - 3, by omega⟩
  suffices h : ∃ C, stableG (n + 3) cmp xs (xs.length : Int) = some (C, ()) ∧ C.Perm xs ∧ C.Pairwise (R k) by
    obtain ⟨C, h1, h2, h3⟩ := h
    refine ⟨C, ?_, h2, h3⟩
    unfold sortG
    rw [h1]
    simp only [Option.bind_some]
    rw [nbeq h2.length_eq, cond_true]
  unfold stableG
  by_cases hs : xs.length < 20
  · obtain ⟨C, g1, g2, g3⟩ := hI [] xs [] 0 xs.length hx hD (by simp; omega) rfl (by simp)
    simp only [List.nil_append, List.append_nil] at g1
    refine ⟨C, ?_, g2, g3⟩
    rw [loopN_succ]
    dsimp only
    rw [decide_eq_false (show ¬ (20 : Int) ≤ (xs.length : Int) by omega), cond_false, g1]
    simp only [Option.bind_some]
    rw [nbeq g2.length_eq, cond_true, loopN_succ]
    dsimp only
    rw [decide_eq_false (show ¬ (20 : Int) < (xs.length : Int) by omega), cond_false]
  · obtain ⟨A, B, rfl, hA⟩ : ∃ A B, xs = A ++ B ∧ A.length = 20 := ⟨xs.take 20, xs.drop 20, (List.take_append_drop _ _).symm, by rw [List.length_take]; omega⟩
    have hx' := List.pairwise_append.1 hx
    rw [List.length_append] at hl hs
    obtain ⟨C1, g1, g2, g3⟩ := hI [] A B 0 20 hx'.1 (fun x h => hD x (List.mem_append_left _ h)) (by simp; omega) rfl (by simp; omega)
    have l1 := g2.length_eq
    obtain ⟨C2, e1, e2, e3⟩ := hI C1 B [] 20 ((A ++ B).length : Int) hx'.2.1 (fun x h => hD x (List.mem_append_right _ h)) (by simp; omega) (by omega) (by simp; omega)
    have l2 := e2.length_eq
    simp only [List.nil_append, List.append_nil] at g1 e1
    have w40 : w64 (20 + 20) = 40 := w64_in (by omega)
    rw [loopN_succ]
    dsimp only
    rw [decide_eq_true (show (20 : Int) ≤ ((A ++ B).length : Int) by simp; omega), cond_true, g1]
    simp only [Option.bind_some]
    rw [nbeq (show (C1 ++ B).length = (A ++ B).length by simp; omega), cond_true, w40, loopN_succ]
    dsimp only
    rw [decide_eq_false (show ¬ (40 : Int) ≤ ((A ++ B).length : Int) by simp; omega), cond_false, e1]
    simp only [Option.bind_some]
    rw [nbeq (show (C1 ++ C2).length = (C1 ++ B).length by simp; omega), cond_true, loopN_succ]
    dsimp only
    by_cases hB : B.length = 0
    · have hB' := List.eq_nil_of_length_eq_zero hB
      have hC2 := List.eq_nil_of_length_eq_zero (l := C2) (by omega)
      rw [decide_eq_false (show ¬ (20 : Int) < ((A ++ B).length : Int) by simp; omega), cond_false]
      refine ⟨_, rfl, ?_, ?_⟩
      · rw [hC2, hB']; simpa using g2
      · rw [hC2]; simpa using g3
    · have w0 : w64 (2 * 20) = 40 := w64_in (by omega)
      have w1 : w64 (0 + 20) = 20 := w64_in (by omega)
      have w2 : w64 (20 * 2) = 40 := w64_in (by omega)
      obtain ⟨C, s1, s2, s3⟩ := sym_ok hN hc (n + 3) [] C1 C2 [] 0 20 ((A ++ B).length : Int) (by omega) (by omega) (by omega) g3 e3
        (fun x hx1 y hy _ => hx'.2.2 x (g2.mem_iff.1 hx1) y (e2.mem_iff.1 hy)) (fun x h => hD x (List.mem_append_left _ (g2.mem_iff.1 h))) (fun x h => hD x (List.mem_append_right _ (e2.mem_iff.1 h))) (by simp; omega) rfl (by simp; omega) (by simp; omega)
      simp only [List.nil_append, List.append_nil] at s1
      have l3 := s2.length_eq
      rw [List.length_append] at l3
      rw [decide_eq_true (show (20 : Int) < ((A ++ B).length : Int) by simp; omega), cond_true, w0, loopN_succ]
      dsimp only
      rw [w1, w2, decide_eq_false (show ¬ (40 : Int) ≤ ((A ++ B).length : Int) by simp; omega), cond_false, decide_eq_true (show (20 : Int) < ((A ++ B).length : Int) by simp; omega), cond_true]
      unfold symG
      rw [s1]
      simp only [Option.bind_some]
      rw [nbeq (show C.length = (C1 ++ C2).length by simp; omega), cond_true, loopN_succ]
      dsimp only
      rw [decide_eq_false (show ¬ (40 : Int) < ((A ++ B).length : Int) by simp; omega), cond_false]
      exact ⟨_, rfl, s2.trans (g2.append e2), s3⟩

end
end St

end Go.Proofs.Ytkcdhdnmmpapdaa
