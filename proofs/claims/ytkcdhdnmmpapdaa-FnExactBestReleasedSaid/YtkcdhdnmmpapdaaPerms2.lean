/-
  spec.l02NextOrder gives the next order; the least one by both roads. No condition.
-/
import Derived.Test.YtkcdhdnmmpapdaaPerms
namespace Go.Proofs.Ytkcdhdnmmpapdaa
open Go Go.Proofs.Ytkcdhdnmmpapdaa.Fw
set_option linter.unusedVariables false
set_option linter.unusedSimpArgs false

theorem upI_len (l : List Nat) : (upI l).length = l.length := List.length_map ..
theorem upI_get (l : List Nat) (k : Nat) : (upI l).getD k 0 = ((l.getD k 0 : Nat) : Int) := by
  unfold upI
  rw [List.getD_eq_getElem?_getD, List.getElem?_map, List.getD_eq_getElem?_getD]
  cases l[k]? <;> rfl
theorem upI_set (l : List Nat) (k v : Nat) : (upI l).set k (v : Int) = upI (l.set k v) := by
  unfold upI
  rw [List.map_set]

theorem pivN_lt {x : List Nat} : ∀ {j i : Nat}, pivN x j = some i → i < j
  | 0, i, h => by cases h
  | j + 1, i, h => by
    unfold pivN at h
    cases hb : Nat.blt (x.getD (j + 1) 0) (x.getD j 0) with
    | true =>
      rw [hb, cond_true] at h
      have := pivN_lt h
      omega
    | false =>
      rw [hb, cond_false] at h
      cases h
      omega

theorem kN_lt {x : List Nat} {v : Nat} : ∀ {j : Nat}, 0 < j → kN x v j < j
  | 0, h => by omega
  | j + 1, _ => by
    unfold kN
    cases Nat.blt (x.getD j 0) v with
    | true =>
      rw [cond_true]
      cases j with
      | zero => exact Nat.zero_lt_one
      | succ j =>
        have := kN_lt (x := x) (v := v) (j := j + 1) (by omega)
        omega
    | false =>
      rw [cond_false]
      omega

theorem revN_len {f : Nat} : ∀ {x : List Nat} {a b : Nat}, (revN f x a b).length = x.length := by
  induction f with
  | zero => intro x a b; rfl
  | succ f ih =>
    intro x a b
    unfold revN
    cases Nat.blt a b with
    | true => rw [cond_true, ih]; simp
    | false => rfl

theorem chain_head {n : Nat} {p : List Nat} {r : List (List Nat)} (h : chainN n p r = true) : lenN n p = true := by
  cases r <;> simp only [chainN, Bool.and_eq_true] at h <;> exact h.1

/-- The best of some orders, and its number. -/
def bestG (g : List Int → Int) (r : List (List Nat)) (b : List Int × Int) : List Int × Int := r.foldl (fun b p => cond (decide (g (upI p) < b.2)) (upI p, g (upI p)) b) b

theorem bestG_len {g : List Int → Int} {n : Nat} : ∀ {r : List (List Nat)} {p : List Nat} {b : List Int × Int}, chainN n p r = true → b.1.length = n → (bestG g r b).1.length = n := by
  intro r
  induction r with
  | nil => intro p b _ h; exact h
  | cons q r ih =>
    intro p b hc hb
    simp only [chainN, Bool.and_eq_true] at hc
    unfold bestG
    rw [List.foldl_cons]
    have hq := (len_facts (chain_head hc.2.2)).1
    refine ih hc.2.2 ?_
    cases decide (g (upI q) < b.2)
    · exact hb
    · show (upI q).length = n
      rw [upI_len]
      exact hq

theorem steps_eq {tf : List Int → Option (Int × Bool × Unit)} {g : List Int → Int} {n : Nat} (ht : ∀ p, lenN n p = true → tf (upI p) = some (g (upI p), true, ())) : ∀ (r : List (List Nat)) (p : List Nat) (b : List Int) (l : Int), chainN n p r = true →
    r.foldlM (fun a p => stepL tf a (upI p)) (some b, l) = some (some (bestG g r (b, l)).1, (bestG g r (b, l)).2) := by
  intro r
  induction r with
  | nil => intro p b l _; rfl
  | cons q r ih =>
    intro p b l hc
    simp only [chainN, Bool.and_eq_true] at hc
    rw [List.foldlM_cons]
    have hs : stepL tf (some b, l) (upI q) = some (cond (decide (g (upI q) < l)) (some (upI q), g (upI q)) (some b, l)) := by
      unfold stepL
      rw [ht q (chain_head hc.2.2)]
      rfl
    rw [hs]
    show (r.foldlM _ _) = _
    unfold bestG
    rw [List.foldl_cons]
    cases decide (g (upI q) < l)
    · exact ih q b l hc.2.2
    · exact ih q (upI q) (g (upI q)) hc.2.2

theorem leastF_eq {tf : List Int → Option (Int × Bool × Unit)} {g : List Int → Int} {n : Nat} (h1 : 1 ≤ n) (h2 : n ≤ 7) (ht : ∀ p, lenN n p = true → tf (upI p) = some (g (upI p), true, ())) {r : List (List Nat)} (hp : permsN n = List.range n :: r) (hc : chainN n (List.range n) r = true) :
    leastF tf (n : Int) = some ((bestG g r (upI (List.range n), g (upI (List.range n)))).1, (bestG g r (upI (List.range n), g (upI (List.range n)))).2, true, ()) := by
  unfold leastF
  rw [decide_eq_true (show (1 : Int) ≤ (n : Int) by omega), decide_eq_true (show (n : Int) ≤ 1000 by omega)]
  simp only [Bool.and_self, cond_true, Int.toNat_natCast]
  rw [show ([] : List Int) = upI [] from rfl, runP_eq, show dfsN n n [] (List.replicate n false) = permsN n from rfl, hp, List.foldlM_cons]
  have hs : stepL tf (none, 0) (upI (List.range n)) = some (some (upI (List.range n)), g (upI (List.range n))) := by
    unfold stepL
    rw [ht _ (chain_head hc)]
    rfl
  rw [hs]
  show Option.bind (r.foldlM _ _) _ = _
  rw [steps_eq ht r _ _ _ hc]
  rfl

/-- The loop of the reference: one next order after another. -/
theorem next_loop {g : List Int → Int} {n : Nat} {body : (List Int × List Int × Int × Unit) → ((List Int × List Int × Int × Unit) → Option (List Int × Int × Bool × Unit)) → Option (List Int × Int × Bool × Unit)}
    (hb : ∀ (p : List Nat) (b : List Int) (l : Int) next, lenN n p = true → (∀ q, nextN p = some q → lenN n q = true) → body (upI p, b, l, ()) next = match nextN p with | none => some (b, l, true, ()) | some q => cond (decide (g (upI q) < l)) (next (upI q, upI q, g (upI q), ())) (next (upI q, b, l, ()))) :
    ∀ (r : List (List Nat)) (p : List Nat) (b : List Int) (l : Int) (M : Nat), r.length < M → chainN n p r = true → loopN body M (upI p, b, l, ()) = some ((bestG g r (b, l)).1, (bestG g r (b, l)).2, true, ()) := by
  intro r
  induction r with
  | nil =>
    intro p b l M hM hc
    obtain ⟨M, rfl⟩ : ∃ M', M = M' + 1 := ⟨M - 1, by omega⟩
    have hl := chain_head hc
    simp only [chainN, Bool.and_eq_true] at hc
    cases hx : nextN p with
    | none =>
      show body (upI p, b, l, ()) _ = _
      rw [hb p b l _ hl (fun q hq => by rw [hx] at hq; cases hq), hx]
      rfl
    | some y => rw [hx] at hc; cases hc.2
  | cons q r ih =>
    intro p b l M hM hc
    obtain ⟨M, rfl⟩ : ∃ M', M = M' + 1 := ⟨M - 1, by omega⟩
    have hl := chain_head hc
    simp only [chainN, Bool.and_eq_true] at hc
    cases hx : nextN p with
    | none => rw [hx] at hc; cases hc.2.1
    | some y =>
      rw [hx] at hc
      have hy := eqN_eq hc.2.1
      subst hy
      show body (upI p, b, l, ()) _ = _
      rw [hb p b l _ hl (fun q hq => by rw [hx] at hq; cases hq; exact chain_head hc.2.2), hx]
      simp only
      rw [List.length_cons] at hM
      unfold bestG
      rw [List.foldl_cons]
      cases decide (g (upI y) < l)
      · exact ih y b l M (by omega) hc.2.2
      · exact ih y (upI y) (g (upI y)) M (by omega) hc.2.2

section
variable {N : Nat} (hN : 9223372036854775808 ≤ N)
include hN

/-- The reversal of the rest. -/
theorem rev_loop {x : List Nat} {a b : Nat} (hl : x.length ≤ 1000) (hb : b < x.length) (ha : a ≤ x.length) :
    loopN (fun (s13 : List (Int) × Int × Int × Unit) next14 =>
                                cond (decide (s13.2.2.1 < s13.2.1))
                                  (cond (inB s13.2.2.1 (List.length s13.1))
                                    (Option.bind (s13.1[(Int.toNat s13.2.2.1)]?) fun v15 =>
                                    cond (inB s13.2.1 (List.length s13.1))
                                      (Option.bind (s13.1[(Int.toNat s13.2.1)]?) fun v16 =>
                                      cond (inB s13.2.2.1 (List.length s13.1))
                                        (let xs17 := (List.set s13.1 (Int.toNat s13.2.2.1) v16)
                                        cond (inB s13.2.1 (List.length xs17))
                                          (let xs18 := (List.set xs17 (Int.toNat s13.2.1) v15)
                                          next14 (xs18, (w64 (s13.2.1 - 1)), (w64 (s13.2.2.1 + 1)), ())) none) none) none) none)
                                  (some (s13.1, (true, ())))) N (upI x, (b : Int), (a : Int), ()) = some (upI (revN x.length x a b), (true, ())) := by
  have key : ∀ (f M : Nat) (x : List Nat) (a b : Nat), x.length ≤ 1000 → b < x.length → a ≤ x.length → b ≤ a + f → f < M →
    loopN (fun (s13 : List (Int) × Int × Int × Unit) next14 =>
                                cond (decide (s13.2.2.1 < s13.2.1))
                                  (cond (inB s13.2.2.1 (List.length s13.1))
                                    (Option.bind (s13.1[(Int.toNat s13.2.2.1)]?) fun v15 =>
                                    cond (inB s13.2.1 (List.length s13.1))
                                      (Option.bind (s13.1[(Int.toNat s13.2.1)]?) fun v16 =>
                                      cond (inB s13.2.2.1 (List.length s13.1))
                                        (let xs17 := (List.set s13.1 (Int.toNat s13.2.2.1) v16)
                                        cond (inB s13.2.1 (List.length xs17))
                                          (let xs18 := (List.set xs17 (Int.toNat s13.2.1) v15)
                                          next14 (xs18, (w64 (s13.2.1 - 1)), (w64 (s13.2.2.1 + 1)), ())) none) none) none) none)
                                  (some (s13.1, (true, ())))) M (upI x, (b : Int), (a : Int), ()) = some (upI (revN f x a b), (true, ())) := by
    intro f
    induction f with
    | zero =>
      intro M x a b h1 h2 h3 h4 h5
      obtain ⟨M, rfl⟩ : ∃ M', M = M' + 1 := ⟨M - 1, by omega⟩
      unfold loopN revN
      simp only
      rw [decide_eq_false (show ¬ (a : Int) < (b : Int) by omega), cond_false]
    | succ f ih =>
      intro M x a b h1 h2 h3 h4 h5
      obtain ⟨M, rfl⟩ : ∃ M', M = M' + 1 := ⟨M - 1, by omega⟩
      unfold loopN revN
      simp only
      by_cases hab : a < b
      · rw [decide_eq_true (show (a : Int) < (b : Int) by omega), cond_true, inB_of (n := (a : Int)) (len := (upI x).length) (by rw [upI_len]; omega), inB_of (n := (b : Int)) (len := (upI x).length) (by rw [upI_len]; omega), Int.toNat_natCast, Int.toNat_natCast,
          get_getD 0 (show a < (upI x).length by rw [upI_len]; omega), get_getD 0 (show b < (upI x).length by rw [upI_len]; omega)]
        simp only [cond_true, Option.bind_some]
        rw [upI_get, upI_get, upI_set, inB_of (n := (b : Int)) (by rw [upI_len, List.length_set]; omega), cond_true, upI_set, w64_in (n := (b : Int) - 1) (by omega), w64_in (n := (a : Int) + 1) (by omega), show Nat.blt a b = true from Nat.ble_eq_true_of_le hab, cond_true,
          show (b : Int) - 1 = ((b - 1 : Nat) : Int) by omega, show (a : Int) + 1 = ((a + 1 : Nat) : Int) by omega]
        exact ih M _ (a + 1) (b - 1) (by simpa using h1) (by simp; omega) (by simp; omega) (by omega) (by omega)
      · rw [decide_eq_false (show ¬ (a : Int) < (b : Int) by omega), cond_false, show Nat.blt a b = false by
          rw [Bool.eq_false_iff]
          intro h
          exact hab (Nat.le_of_ble_eq_true h), cond_false]
  exact key x.length N x a b hl hb ha (by omega) (by omega)

theorem nextOrder_eq {x : List Nat} (h1 : 1 ≤ x.length) (hl : x.length ≤ 1000) : spec_l02NextOrder N (upI x) = some (match nextN x with | none => (upI x, (false, ())) | some y => (upI y, (true, ()))) := by
  unfold spec_l02NextOrder
  rw [upI_len, w64_in (n := (x.length : Int) - 2) (by omega), w64_in (n := (x.length : Int) - 1) (by omega)]
  -- the second search, and what follows
  have second : ∀ (i : Nat), i + 1 < x.length → 
      loopN (fun (s5 : Int × Unit) next6 =>
                cond (inB s5.1 x.length)
                  (Option.bind ((upI x)[(Int.toNat s5.1)]?) fun v7 =>
                  cond (inB (i : Int) x.length)
                    (Option.bind ((upI x)[(Int.toNat (i : Int))]?) fun v8 =>
                    cond (decide (v7 < v8))
                      (next6 ((w64 (s5.1 - 1)), ()))
                      (cond (inB (i : Int) x.length)
                        (Option.bind ((upI x)[(Int.toNat (i : Int))]?) fun v9 =>
                        cond (inB s5.1 x.length)
                          (Option.bind ((upI x)[(Int.toNat s5.1)]?) fun v10 =>
                          cond (inB (i : Int) x.length)
                            (let xs11 := (List.set (upI x) (Int.toNat (i : Int)) v10)
                            cond (inB s5.1 (List.length xs11))
                              (let xs12 := (List.set xs11 (Int.toNat s5.1) v9)
                              loopN (fun (s13 : List (Int) × Int × Int × Unit) next14 =>
                                cond (decide (s13.2.2.1 < s13.2.1))
                                  (cond (inB s13.2.2.1 (List.length s13.1))
                                    (Option.bind (s13.1[(Int.toNat s13.2.2.1)]?) fun v15 =>
                                    cond (inB s13.2.1 (List.length s13.1))
                                      (Option.bind (s13.1[(Int.toNat s13.2.1)]?) fun v16 =>
                                      cond (inB s13.2.2.1 (List.length s13.1))
                                        (let xs17 := (List.set s13.1 (Int.toNat s13.2.2.1) v16)
                                        cond (inB s13.2.1 (List.length xs17))
                                          (let xs18 := (List.set xs17 (Int.toNat s13.2.1) v15)
                                          next14 (xs18, (w64 (s13.2.1 - 1)), (w64 (s13.2.2.1 + 1)), ())) none) none) none) none)
                                  (some (s13.1, (true, ())))) N (xs12, (w64 ((List.length xs12 : Int) - 1)), (w64 ((i : Int) + 1)), ())) none) none) none) none)) none) none) N ((x.length : Int) - 1, ()) =
        some (upI (revN x.length ((x.set i (x.getD (kN x (x.getD i 0) x.length) 0)).set (kN x (x.getD i 0) x.length) (x.getD i 0)) (i + 1) (x.length - 1)), (true, ())) := by
    intro i hi
    refine loop_eq (inv := fun s : Int × Unit => ∃ j : Nat, i ≤ j ∧ j < x.length ∧ s = ((j : Int), ()) ∧ kN x (x.getD i 0) (j + 1) = kN x (x.getD i 0) x.length) (μ := fun s => s.1.toNat) (R := fun _ => some (upI (revN x.length ((x.set i (x.getD (kN x (x.getD i 0) x.length) 0)).set (kN x (x.getD i 0) x.length) (x.getD i 0)) (i + 1) (x.length - 1)), (true, ()))) ?_ N _
      ⟨x.length - 1, by omega, by omega, by rw [show ((x.length - 1 : Nat) : Int) = (x.length : Int) - 1 by omega], by rw [show x.length - 1 + 1 = x.length by omega]⟩ (by simp only; omega)
    rintro _ next6 ⟨j, hij, hj, rfl, hk⟩ hn
    simp only at hn ⊢
    rw [inB_of (n := (j : Int)) (len := x.length) (by omega), inB_of (n := (i : Int)) (len := x.length) (by omega), Int.toNat_natCast, Int.toNat_natCast, get_getD 0 (show j < (upI x).length by rw [upI_len]; omega), get_getD 0 (show i < (upI x).length by rw [upI_len]; omega)]
    simp only [cond_true, Option.bind_some]
    rw [upI_get, upI_get]
    rw [show kN x (x.getD i 0) (j + 1) = cond (Nat.blt (x.getD j 0) (x.getD i 0)) (kN x (x.getD i 0) j) j from rfl] at hk
    by_cases hlt : x.getD j 0 < x.getD i 0
    · rw [decide_eq_true (show ((x.getD j 0 : Nat) : Int) < ((x.getD i 0 : Nat) : Int) by omega), cond_true, w64_in (n := (j : Int) - 1) (by omega)]
      rw [show Nat.blt (x.getD j 0) (x.getD i 0) = true from Nat.ble_eq_true_of_le hlt, cond_true] at hk
      have hne : i ≠ j := fun e => by rw [e] at hlt; omega
      refine hn _ ⟨j - 1, by omega, by omega, by rw [show ((j - 1 : Nat) : Int) = (j : Int) - 1 by omega], ?_⟩ (by simp only; omega)
      rw [show j - 1 + 1 = j by omega]
      exact hk
    · rw [decide_eq_false (show ¬ ((x.getD j 0 : Nat) : Int) < ((x.getD i 0 : Nat) : Int) by omega), cond_false]
      rw [show Nat.blt (x.getD j 0) (x.getD i 0) = false by
        rw [Bool.eq_false_iff]
        intro h
        exact hlt (Nat.le_of_ble_eq_true h), cond_false] at hk
      rw [← hk, upI_set, inB_of (n := (j : Int)) (by rw [upI_len, List.length_set]; omega), cond_true, upI_set, upI_len, List.length_set, List.length_set, w64_in (n := (x.length : Int) - 1) (by omega), w64_in (n := (i : Int) + 1) (by omega)]
      have := rev_loop hN (x := (x.set i (x.getD j 0)).set j (x.getD i 0)) (a := i + 1) (b := x.length - 1) (by simpa using hl) (by simp; omega) (by simp; omega)
      rw [List.length_set, List.length_set, show ((x.length - 1 : Nat) : Int) = (x.length : Int) - 1 by omega, show ((i + 1 : Nat) : Int) = (i : Int) + 1 by omega] at this
      exact this
  unfold nextN
  refine loop_eq (inv := fun s : Int × Unit => ∃ j : Nat, j ≤ x.length - 1 ∧ s = ((j : Int) - 1, ()) ∧ pivN x j = pivN x (x.length - 1)) (μ := fun s => (s.1 + 1).toNat) (R := fun _ => some (match (match pivN x (x.length - 1) with
      | none => none
      | some i => some (revN x.length ((x.set i (x.getD (kN x (x.getD i 0) x.length) 0)).set (kN x (x.getD i 0) x.length) (x.getD i 0)) (i + 1) (x.length - 1))) with | none => (upI x, (false, ())) | some y => (upI y, (true, ())))) ?_ N ((x.length : Int) - 2, ())
    ⟨x.length - 1, Nat.le_refl _, by rw [show (x.length : Int) - 2 = ((x.length - 1 : Nat) : Int) - 1 by omega], rfl⟩ (by simp only; omega)
  rintro _ next2 ⟨j, hj, rfl, hp⟩ hn
  simp only at hn ⊢
  rw [← hp]
  cases j with
  | zero =>
    rw [decide_eq_false (show ¬ (((0 : Nat) : Int) - 1 ≥ 0) by omega), cond_false, decide_eq_true (show ((0 : Nat) : Int) - 1 < 0 by omega), cond_true]
    rfl
  | succ j =>
    have e1 : ((j + 1 : Nat) : Int) - 1 = (j : Int) := by omega
    rw [e1] at hn ⊢
    rw [decide_eq_true (show (j : Int) ≥ 0 by omega), cond_true, inB_of (n := (j : Int)) (len := x.length) (by omega), cond_true, Int.toNat_natCast, get_getD 0 (show j < (upI x).length by rw [upI_len]; omega)]
    simp only [Option.bind_some]
    rw [w64_in (n := (j : Int) + 1) (by omega), show (j : Int) + 1 = ((j + 1 : Nat) : Int) by omega, inB_of (n := ((j + 1 : Nat) : Int)) (len := x.length) (by omega), cond_true, Int.toNat_natCast, get_getD 0 (show j + 1 < (upI x).length by rw [upI_len]; omega)]
    simp only [Option.bind_some]
    rw [upI_get, upI_get]
    rw [show pivN x (j + 1) = cond (Nat.blt (x.getD (j + 1) 0) (x.getD j 0)) (pivN x j) (some j) from rfl] at hp ⊢
    by_cases hgt : x.getD (j + 1) 0 < x.getD j 0
    · rw [decide_eq_true (show ((x.getD j 0 : Nat) : Int) > ((x.getD (j + 1) 0 : Nat) : Int) by omega), cond_true, w64_in (n := (j : Int) - 1) (by omega)]
      rw [show Nat.blt (x.getD (j + 1) 0) (x.getD j 0) = true from Nat.ble_eq_true_of_le hgt, cond_true] at hp ⊢
      rw [hn _ ⟨j, by omega, rfl, hp⟩ (by simp only; omega), ← hp]
    · rw [decide_eq_false (show ¬ ((x.getD j 0 : Nat) : Int) > ((x.getD (j + 1) 0 : Nat) : Int) by omega), cond_false, decide_eq_false (show ¬ (j : Int) < 0 by omega), cond_false]
      rw [show Nat.blt (x.getD (j + 1) 0) (x.getD j 0) = false by
        rw [Bool.eq_false_iff]
        intro h
        exact hgt (Nat.le_of_ble_eq_true h), cond_false]
      rw [show ((j + 1 : Nat) : Int) = (j : Int) + 1 by omega] at *
      simp only
      have := second j (by omega)
      rw [w64_in (n := (j : Int) + 1) (by omega), inB_of (n := (j : Int)) (len := x.length) (by omega), Int.toNat_natCast, get_getD 0 (show j < (upI x).length by rw [upI_len]; omega)] at this
      simp only [Option.bind_some, upI_get] at this ⊢
      exact this

theorem count_eq {n : Nat} (hn : n ≤ 1000) : spec_l02Count N (n : Int) = some (upI (List.range n), ()) := by
  unfold spec_l02Count
  refine loop_eq (inv := fun s : List Int × Int × Unit => ∃ k : Nat, k ≤ n ∧ s = (upI (List.range k), (k : Int), ())) (μ := fun s => (n - s.2.1).toNat) (R := fun _ => some (upI (List.range n), ())) ?_ N _ ⟨0, Nat.zero_le _, rfl⟩ (by simp only; omega)
  rintro _ next ⟨k, hk, rfl⟩ hn'
  simp only at hn' ⊢
  by_cases hlt : k < n
  · rw [decide_eq_true (show (k : Int) < (n : Int) by omega), cond_true, appOk_of (by rw [upI_len]; simp; omega), cond_true, w64_in (n := (k : Int) + 1) (by omega)]
    refine hn' _ ⟨k + 1, hlt, ?_⟩ (by simp only; omega)
    unfold upI
    rw [List.range_succ, List.map_append]
    rfl
  · obtain rfl : k = n := by omega
    rw [decide_eq_false (show ¬ (k : Int) < (k : Int) by omega), cond_false]
end

end Go.Proofs.Ytkcdhdnmmpapdaa
