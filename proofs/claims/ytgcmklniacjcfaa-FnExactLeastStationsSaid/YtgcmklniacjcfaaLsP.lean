/-
  LeastStations: the plain law. No condition.
-/
import Derived.Test.YtgcmklniacjcfaaLine
import Derived.Test.YtgcmklniacjcfaaLsH
namespace Go.Proofs.Ytgcmklniacjcfaa
open Go Go.Proofs.Ytgcmklniacjcfaa.Fw
set_option linter.unusedVariables false
set_option linter.unusedSimpArgs false

theorem sumW_eq {xs : List Int} (hn : xs.length ≤ 12) (hx : ∀ i, i < xs.length → 1 ≤ xs.getD i 0 ∧ xs.getD i 0 ≤ 10000) : sumW xs = Ls.sumK xs xs.length ∧ 0 ≤ sumW xs ∧ sumW xs ≤ 120000 ∧ (1 ≤ xs.length → 1 ≤ sumW xs) := by
  have h : ∀ k, k ≤ xs.length → (xs.take k).foldl (fun a v => w64 (a + v)) 0 = Ls.sumK xs k ∧ (k : Int) ≤ Ls.sumK xs k ∧ Ls.sumK xs k ≤ 10000 * (k : Int) := by
    intro k
    induction k with
    | zero => intro _; simp [Ls.sumK]
    | succ k ih =>
      intro hk
      obtain ⟨h1, h2, h3⟩ := ih (by omega)
      have hb := hx k (by omega)
      have e : Ls.sumK xs (k + 1) = Ls.sumK xs k + xs.getD k 0 := rfl
      rw [List.take_succ_eq_append_getElem (by omega), List.foldl_append, h1, e]
      have e2 : xs.getD k 0 = xs[k] := by rw [List.getD_eq_getElem?_getD, List.getElem?_eq_getElem (by omega)]; rfl
      rw [e2] at hb ⊢
      simp only [List.foldl_cons, List.foldl_nil]
      rw [w64_in (by omega)]
      omega
  have := h xs.length (Nat.le_refl _)
  rw [List.take_length] at this
  unfold sumW
  omega

theorem findF_eq {fX : Int → Int → Option (Int × Unit)} {xs bs : List Int} {c : Int} {m : Nat} {o ld : List Int} (hn : 1 ≤ xs.length) (hs : Ls.fitP fX xs bs c m xs.length [] (List.replicate m 0) = some (o, ld)) (ho : o.length = xs.length)
    (hf : ∀ k, 1 ≤ k → k < m → ∃ ld', Ls.fitP fX xs bs c k xs.length [] (List.replicate k 0) = some ([], ld')) : ∀ d k, 1 ≤ k → k ≤ m → m < k + d → Ls.findF fX xs bs c d k = some (o, m) := by
  intro d
  induction d with
  | zero => intro k _ _ _; omega
  | succ d ih =>
    intro k h1 h2 h3
    unfold Ls.findF
    by_cases e : k = m
    · subst e
      rw [hs, Option.bind_some]
      simp only
      rw [decide_eq_false (by omega), cond_false]
    · obtain ⟨ld', h4⟩ := hf k h1 (by omega)
      rw [h4, Option.bind_some]
      simp only [List.length_nil, decide_true, cond_true]
      exact ih (k + 1) (by omega) (by omega) (by omega)

section
variable {N : Nat} (hN : 9223372036854775808 ≤ N)
include hN

omit hN in
theorem l00MaxI_eq (a b : Int) : spec_l00Max N a b = some (Ls.maxI a b, ()) := by
  unfold spec_l00Max Ls.maxI
  by_cases h : a > b
  · rw [decide_eq_true h, cond_true, if_neg (by omega)]
  · rw [decide_eq_false h, cond_false]
    by_cases e : a < b
    · rw [if_pos e]
    · rw [if_neg e, show b = a by omega]

theorem LeastStations_law {xs bs : List Int} {cy : Int} (hx : xs.length ≤ 1048576) : ∃ l k b, spec_LeastStations N xs bs cy = some (l, k, b, ()) ∧ impl_LeastStations N xs bs cy = some (l, k, b, ()) ∧ l.length ≤ 1048576 := by
  unfold spec_LeastStations impl_LeastStations Ls.leF Ls.lsF spec_l04Cycle impl_isCycle
  simp only [l04Line_eq hN hx, IsLineB_eq hN hx, Option.bind_some, l00In_eq, within_eq]
  cases hb : lineB xs bs
  · exact ⟨[], 0, false, rfl, rfl, by simp⟩
  unfold lineB lineOk at hb
  simp only [Bool.and_eq_true, decide_eq_true_eq] at hb
  obtain ⟨⟨b1, b2⟩, b3, b4⟩ := hb
  have b1 := within_iff.1 b1
  have hbs : ∀ i, i < xs.length → 0 ≤ bs.getD i 0 ∧ bs.getD i 0 ≤ ((2 ^ i : Nat) : Int) - 1 := fun i hi => within_iff.1 (List.all_eq_true.1 b4 i (List.mem_range.2 (by omega)))
  have hxs : ∀ i, i < xs.length → 1 ≤ xs.getD i 0 ∧ xs.getD i 0 ≤ 10000 := fun i hi => all_getD b2 hi
  simp only [cond_true]
  cases hc : within 1 10000 cy
  · exact ⟨[], 0, false, rfl, rfl, by simp⟩
  have hc := within_iff.1 hc
  simp only [cond_true]
  have hmax : ∃ g, spec_l02Greatest N xs = some (g, ()) ∧ slices_Max_int64_int64 N xs = some (g, ()) ∧ ∀ i, i < xs.length → xs.getD i 0 ≤ g := by
    match xs, b1, hx with
    | [], b1, _ => simp at b1
    | x :: l, b1, hx =>
      refine ⟨l.foldl imax x, l02Greatest_eq hN (by omega), slicesMax_eq hN (by omega), fun i hi => ?_⟩
      have hg := foldImax_ge l x
      rcases List.mem_cons.1 (getD_mem hi) with he | he
      · rw [he]; exact hg.1
      · exact hg.2 _ he
  obtain ⟨g, g1, g2, g3⟩ := hmax
  simp only [g1, g2, Option.bind_some]
  by_cases hg : g ≤ cy
  · rw [decide_eq_true hg, decide_eq_false (show ¬ g > cy by omega)]
    simp only [cond_true, cond_false]
    have H : Ls.LineOk xs bs cy := ⟨by omega, by omega, b3, fun i hi => ⟨(hxs i hi).1, by have := g3 i hi; omega⟩, fun i hi => by
      have h1 := hbs i hi
      have h2 : ((2 : Int) ^ i) = ((2 ^ i : Nat) : Int) := by simp
      omega, hc⟩
    obtain ⟨m, hm, hm1, hm2, hF⟩ := Ls.few_feas H
    have hX : ∀ a b, spec_l00Max N a b = some (Ls.maxI a b, ()) := fun a b => l00MaxI_eq a b
    obtain ⟨s1, s2, s3, s4⟩ := sumW_eq (by omega) hxs
    have s4 := s4 H.n1
    obtain ⟨S', o, ld', p1, p2, p3, p4⟩ := Ls.put_top H (q := m) (by omega) hX hF
    -- the sum goes into so many stations
    have hsum : sumW xs ≤ (m : Int) * cy := by
      obtain ⟨a, hA⟩ := Ls.feas_iff.1 hF
      have h1 := Ls.sumF_le (f := fun s => Ls.loadK xs a xs.length s) (g := fun _ => cy) m (fun s hs => hA.ld s hs)
      rw [Ls.sum_loads xs.length (fun j hj => hA.st j hj)] at h1
      have h2 : ∀ k : Nat, Ls.sumF (fun _ => cy) k = (k : Int) * cy := by
        intro k
        induction k with
        | zero => simp [Ls.sumF]
        | succ k ih => unfold Ls.sumF; rw [ih, Int.natCast_add, Int.add_mul]; simp
      rw [h2] at h1
      omega
    have hk : ∃ k : Nat, spec_l04Fewest N xs cy = some ((k : Int), ()) ∧ 1 ≤ k ∧ k ≤ m := by
      unfold spec_l04Fewest
      rw [l02Sum_eq hN (by omega), Option.bind_some, show (cy == 0) = false by simp; omega, cond_false]
      simp only
      rw [w64_in (n := sumW xs + cy) (by omega), w64_in (n := sumW xs + cy - 1) (by omega), Int.tdiv_eq_ediv_of_nonneg (by omega)]
      have h1 : 1 ≤ (sumW xs + cy - 1) / cy := by
        rw [Int.le_ediv_iff_mul_le (by omega)]
        omega
      have h2 : (sumW xs + cy - 1) / cy ≤ (m : Int) := by
        have : (sumW xs + cy - 1) / cy < (m : Int) + 1 := by
          rw [Int.ediv_lt_iff_lt_mul (by omega), Int.add_mul]
          omega
        omega
      refine ⟨((sumW xs + cy - 1) / cy).toNat, ?_, by omega, by omega⟩
      rw [w64_in (by omega)]
      congr 2
      omega
    obtain ⟨k, k1, k2, k3⟩ := hk
    rw [k1, Option.bind_some]
    have hfind := findF_eq (fX := spec_l00Max N) (bs := bs) (c := cy) H.n1 p2 p4 (fun j hj1 hj2 => by
      obtain ⟨o2, ld2, q1, q2⟩ := Ls.fit_top (q := j) H hX
      rcases q2 with ⟨_, h⟩ | ⟨rfl, _⟩
      · have := Ls.few_le H hj1 h
        omega
      · exact ⟨ld2, q1⟩) 100 k k2 k3 (by omega)
    rw [show (decide (1 ≤ xs.length) && (decide (xs.length ≤ 12) && (decide (bs.length = xs.length) && (decide (0 ≤ ((k : Int), ()).1) && decide (((k : Int), ()).1 ≤ 500))))) = true by
      simp only [Bool.and_eq_true, decide_eq_true_eq]
      omega, cond_true]
    simp only [Int.toNat_natCast]
    rw [hfind, Option.bind_some]
    have hok : Ls.lsOk (slices_Repeat_int64_int64 N) xs bs cy = true := by
      unfold Ls.lsOk
      rw [hm, Int.toNat_natCast, repeat_eq hN (n := m) (by omega)]
      have h1 : Ls.okC cy xs = true := by
        unfold Ls.okC
        rw [List.all_eq_true]
        intro v hv
        obtain ⟨i, hi, rfl⟩ := List.getElem_of_mem hv
        have := H.xb i hi
        rw [List.getD_eq_getElem?_getD, List.getElem?_eq_getElem hi] at this
        simp only [Option.getD_some] at this
        simp only [Bool.and_eq_true, decide_eq_true_eq]
        omega
      have h2 : Ls.okR xs = true := by
        unfold Ls.okR
        rw [List.all_eq_true]
        intro v hv
        obtain ⟨i, hi, rfl⟩ := List.getElem_of_mem hv
        have := H.xb i hi
        rw [List.getD_eq_getElem?_getD, List.getElem?_eq_getElem hi] at this
        simp only [Option.getD_some] at this
        simp only [Bool.and_eq_true, decide_eq_true_eq]
        omega
      rw [h1, h2]
      simp only [Bool.and_eq_true, decide_eq_true_eq, true_and, and_true]
      omega
    rw [hok, cond_true, hm, Int.toNat_natCast, p1, Option.bind_some]
    refine ⟨o, m, true, rfl, ?_, by omega⟩
    simp only
    rw [p3]
  · rw [decide_eq_false hg, decide_eq_true (show g > cy by omega)]
    exact ⟨[], 0, false, rfl, rfl, by simp⟩

theorem FnExactLeastStations_eq (rs xs : List Int) (m : Int) : laws_FnExactLeastStations N rs xs m = some (true, ()) := by
  unfold laws_FnExactLeastStations
  by_cases hr : (rs.length : Int) > 1048576
  · simp only [hr, decide_true, cond_true]
  · by_cases hx : (xs.length : Int) > 1048576
    · simp only [hr, hx, decide_true, decide_false, cond_true, cond_false]
    · obtain ⟨a, b, c, h1, h2, h3⟩ := LeastStations_law hN (xs := rs) (bs := xs) (cy := m) (by omega)
      simp only [hr, hx, decide_false, cond_false, toInt64S_eq hN (xs := rs) (by omega), toInt64S_eq hN (xs := xs) (by omega), Option.bind_some, h1, h2, eqInt64S_eq hN (xs := rs) (by omega), eqInt64S_eq hN (xs := xs) (by omega), eqInt64S_eq hN (xs := a) (by omega), BEq.rfl, Bool.not_true, bne_self_eq_false,
        markInt64S_eq hN (xs := rs) (k := 1) (by omega) (by omega), markInt64S_eq hN (xs := xs) (k := 1 + (rs.length : Int)) (by omega) (by omega), markInt64S_eq hN (xs := a) (k := 1) (by omega) (by omega), heldInt64S_eq hN (xs := a) (k := 1) (by omega) (by omega), counted_len, Nat.beq_refl, cond_true,
        decide_eq_false (show ¬ ((1 : Int) + rs.length + xs.length < 0) by omega), decide_eq_false (show ¬ ((1 : Int) + a.length < 0) by omega)]
end

end Go.Proofs.Ytgcmklniacjcfaa
