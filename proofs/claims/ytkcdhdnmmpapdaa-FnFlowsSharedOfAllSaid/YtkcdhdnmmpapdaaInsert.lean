/-
  InsertOrder, FlowsShared: the plain laws. No condition.
-/
import Derived.Test.YtkcdhdnmmpapdaaFlow
import Derived.Test.YtkcdhdnmmpapdaaLists
import Derived.Test.YtkcdhdnmmpapdaaSortS
import Derived.Test.YtkcdhdnmmpapdaaSortI
namespace Go.Proofs.Ytkcdhdnmmpapdaa
open Go Go.Proofs.Ytkcdhdnmmpapdaa.Fw
set_option linter.unusedVariables false
set_option linter.unusedSimpArgs false

theorem sumW_bound {xs : List Int} (h : xs.all (within 1 10000) = true) (hl : xs.length ≤ 1048576) : 0 ≤ sumW xs ∧ sumW xs ≤ 10000 * xs.length := by
  have key : ∀ (l : List Int) (a : Int), l.all (within 1 10000) = true → 0 ≤ a → a + 10000 * l.length ≤ 20000000000000 → 0 ≤ l.foldl (fun a v => w64 (a + v)) a ∧ l.foldl (fun a v => w64 (a + v)) a ≤ a + 10000 * l.length := by
    intro l
    induction l with
    | nil => intro a _ h0 _; exact ⟨h0, by simp⟩
    | cons x l ih =>
      intro a ha h0 hb
      simp only [List.all_cons, Bool.and_eq_true] at ha
      obtain ⟨x1, x2⟩ := within_iff.1 ha.1
      simp only [List.length_cons] at hb ⊢
      rw [List.foldl_cons, w64_in (by omega)]
      obtain ⟨g1, g2⟩ := ih (a + x) ha.2 (by omega) (by omega)
      exact ⟨g1, by omega⟩
  obtain ⟨g1, g2⟩ := key xs 0 h (Int.le_refl _) (by omega)
  exact ⟨g1, by unfold sumW; omega⟩

theorem all_part {xs : List Int} {p : Int → Bool} (h : xs.all p = true) (a b : Nat) : ((xs.take a).drop b).all p = true := by
  rw [List.all_eq_true] at h ⊢
  exact fun x hx => h x (List.mem_of_mem_take (List.mem_of_mem_drop hx))

def jSum (xs : List Int) (m v : Int) : Int := sumW ((xs.take ((v + 1) * m).toNat).drop (v * m).toNat)

section
variable {N : Nat} (hN : 9223372036854775808 ≤ N)
include hN

theorem job_eq {xs : List Int} {q m v : Int} (hq : q * m = xs.length) (hm : 1 ≤ m ∧ m ≤ 8) (hx : xs.length ≤ 1048576) (ha : xs.all (within 1 10000) = true) (hv : 0 ≤ v ∧ v < q) :
    spec_l04Job N xs m v = some (jSum xs m v, ()) ∧ impl_shop_of N (xs, (q, m)) v = some (jSum xs m v, ()) ∧ 0 ≤ jSum xs m v ∧ jSum xs m v ≤ 10485760000 := by
  have h1 : 0 ≤ v * m := Int.mul_nonneg hv.1 (by omega)
  have h2 : (v + 1) * m ≤ q * m := Int.mul_le_mul_of_nonneg_right (by omega) (by omega)
  have h3 : (v + 1) * m = v * m + m := by rw [Int.add_mul, Int.one_mul]
  have hqx : q * 1 ≤ q * m := Int.mul_le_mul_of_nonneg_left hm.1 (by omega)
  have hl : ((xs.take ((v + 1) * m).toNat).drop (v * m).toNat).length ≤ xs.length := by simp; omega
  have hb := sumW_bound (all_part ha ((v + 1) * m).toNat (v * m).toNat) (by omega)
  refine ⟨?_, ?_, hb.1, ?_⟩
  · unfold spec_l04Job jSum
    rw [w64_in (n := v * m) (by omega), w64_in (n := v + 1) (by omega), w64_in (n := (v + 1) * m) (by omega), decide_eq_true h1, decide_eq_true (show v * m ≤ (v + 1) * m by omega), decide_eq_true (show (v + 1) * m ≤ (List.length xs : Int) by omega)]
    simp only [Bool.and_true, cond_true]
    rw [l02Sum_eq hN (by omega)]
    rfl
  · unfold impl_shop_of jSum
    simp only
    rw [w64_in (n := v * m) (by omega), w64_in (n := v + 1) (by omega), w64_in (n := (v + 1) * m) (by omega), decide_eq_true h1, decide_eq_true (show v * m ≤ (v + 1) * m by omega), decide_eq_true (show (v + 1) * m ≤ (List.length xs : Int) by omega)]
    simp only [Bool.and_true, cond_true]
    rw [sumOf_eq hN (by omega)]
    rfl
  · have := hb.2
    unfold jSum
    omega

omit hN in
/-- The reference's placing of the jobs, in the order that it has found. -/
def insLoop (N : Nat) (x0 : List Int) (x1 : Int) (S : List Int) : Option (List Int × Int × Unit) :=
  loopN (fun (s15 : List (Int) × Int × Int × Unit) next16 =>
        cond (decide (s15.2.2.1 < (List.length S : Int)))
          (loopN (fun (s17 : Int × List (Int) × Int × Unit) next18 =>
            cond (decide (s17.2.2.1 ≤ (List.length s15.1 : Int)))
              (cond (decide (0 ≤ (0 : Int)) && decide ((0 : Int) ≤ s17.2.2.1) && decide (s17.2.2.1 ≤ (List.length s15.1 : Int)))
                (cond (appOk (List.length ([] : List Int)) (List.length ((s15.1.drop (Int.toNat (0 : Int))).take (Int.toNat s17.2.2.1 - Int.toNat (0 : Int)))))
                  (let xs19 := (([] : List Int) ++ ((s15.1.drop (Int.toNat (0 : Int))).take (Int.toNat s17.2.2.1 - Int.toNat (0 : Int))))
                  cond (inB s15.2.2.1 (List.length S))
                    (Option.bind (S[(Int.toNat s15.2.2.1)]?) fun v20 =>
                    cond (appOk (List.length xs19) (List.length ([v20] : List Int)))
                      (let xs21 := (xs19 ++ ([v20] : List Int))
                      cond (decide (0 ≤ s17.2.2.1) && decide (s17.2.2.1 ≤ (List.length s15.1 : Int)) && decide ((List.length s15.1 : Int) ≤ (List.length s15.1 : Int)))
                        (cond (appOk (List.length xs21) (List.length ((s15.1.drop (Int.toNat s17.2.2.1)).take (Int.toNat (List.length s15.1 : Int) - Int.toNat s17.2.2.1))))
                          (let xs22 := (xs21 ++ ((s15.1.drop (Int.toNat s17.2.2.1)).take (Int.toNat (List.length s15.1 : Int) - Int.toNat s17.2.2.1)))
                          Option.bind (spec_l04Ends N x0 x1 xs22) fun r23 =>
                          cond (s17.2.2.1 == 0)
                            (next18 (r23.2.1, xs22, (w64 (s17.2.2.1 + 1)), ()))
                            (cond (decide (r23.2.1 < s17.1))
                              (next18 (r23.2.1, xs22, (w64 (s17.2.2.1 + 1)), ()))
                              (next18 (s17.1, s17.2.1, (w64 (s17.2.2.1 + 1)), ())))) none) none) none) none) none) none)
              (next16 (s17.2.1, s17.1, (w64 (s15.2.2.1 + 1)), ()))) N (s15.2.1, ([] : List Int), 0, ()))
          (some (s15.1, s15.2.1, ()))) N (([] : List Int), 0, 0, ())

theorem l04Insert_eq {xs : List Int} {m : Int} (hx : xs.length ≤ 1048576) (hs : shopOk xs m = true) : ∃ S, spec_l04Insert N xs m = insLoop N xs m S ∧ S.Perm ((List.range (quot xs m).toNat).map Int.ofNat) ∧ S.Pairwise (St.R (fun v => - jSum xs m v)) := by
  obtain ⟨f1, f2, f3, f4, f5, f6, f7, f8, f9⟩ := shop_facts hx hs
  unfold spec_l04Insert
  obtain ⟨n, hn⟩ : ∃ n : Nat, quot xs m = (n : Int) := ⟨(quot xs m).toNat, by omega⟩
  have hcount := l04Count_eq hN hx hs
  rw [hn] at f3 f4 f5 hcount ⊢
  rw [Int.toNat_natCast]
  refine St.insertion (F := fun S => insLoop N xs m S) (fun S i next hi hl hy hS => ?_) (fun S next hl => ?_) (by omega)
  · simp only
    rw [hcount]
    simp only [Option.bind_some]
    rw [decide_eq_true (show (i : Int) < (n : Int) by omega), cond_true, appOk_of (by simp; omega), cond_true]
    have := St.bubble (N := N) (D := fun y => 0 ≤ y ∧ y < (n : Int)) (k := fun v => - jSum xs m v) (L := 24) (C := S) (x := (i : Int)) (E := fun ys => next (ys, ((i + 1 : Nat) : Int), ()))
      (body := fun (s5 : List (Int) × Int × Unit) next6 =>
          cond (decide (s5.2.1 > 0))
            (cond (inB s5.2.1 (List.length s5.1))
              (Option.bind (s5.1[(Int.toNat s5.2.1)]?) fun v7 =>
              Option.bind (spec_l04Job N xs m v7) fun r8 =>
              cond (inB (w64 (s5.2.1 - 1)) (List.length s5.1))
                (Option.bind (s5.1[(Int.toNat (w64 (s5.2.1 - 1)))]?) fun v9 =>
                Option.bind (spec_l04Job N xs m v9) fun r10 =>
                cond (decide (r8.1 > r10.1))
                  (cond (inB s5.2.1 (List.length s5.1))
                    (Option.bind (s5.1[(Int.toNat s5.2.1)]?) fun v11 =>
                    cond (inB (w64 (s5.2.1 - 1)) (List.length s5.1))
                      (Option.bind (s5.1[(Int.toNat (w64 (s5.2.1 - 1)))]?) fun v12 =>
                      cond (inB s5.2.1 (List.length s5.1))
                        (let xs13 := (List.set s5.1 (Int.toNat s5.2.1) v12)
                        cond (inB (w64 (s5.2.1 - 1)) (List.length xs13))
                          (let xs14 := (List.set xs13 (Int.toNat (w64 (s5.2.1 - 1))) v11)
                          next6 (xs14, (w64 (s5.2.1 - 1)), ())) none) none) none) none)
                  (next (s5.1, (w64 ((i : Int) + 1)), ()))) none) none)
            (next (s5.1, (w64 ((i : Int) + 1)), ())))
      (fun ys next7 => by
        simp only
        rw [decide_eq_false (by omega), cond_false, w64_in (by omega)]
        rfl)
      (fun P c x t next7 hlen hD => by
        simp only
        have i1 : (((P.length + 1 : Nat) : Nat) : Int) = ((P.length + 1 + ([] : List Int).length : Nat) : Int) := by simp
        have i2 : w64 (((P.length + 1 : Nat) : Int) - 1) = (P.length : Nat) := by rw [w64_in (by simp at hlen; omega)]; omega
        have hll : (P ++ c :: x :: t).length = P.length + 2 + t.length := by simp; omega
        have g1 : (P ++ c :: x :: t)[(((P.length + 1 : Nat) : Int)).toNat]? = some x := by rw [i1, Int.toNat_natCast]; exact St.get_far P [] c x t
        have g2 : (P ++ c :: x :: t)[(w64 (((P.length + 1 : Nat) : Int) - 1)).toNat]? = some c := by rw [i2, Int.toNat_natCast]; exact St.get_mid _ _ _
        have b1 : inB (((P.length + 1 : Nat) : Int)) (P ++ c :: x :: t).length = true := St.inB_nat rfl (by omega)
        have b2 : inB (w64 (((P.length + 1 : Nat) : Int) - 1)) (P ++ c :: x :: t).length = true := St.inB_nat i2 (by omega)
        have hsb := St.swap_block2 (xs := P ++ c :: x :: t) (K := fun ys => next7 (ys, w64 (((P.length + 1 : Nat) : Int) - 1), ())) i1 i2 (by rw [hll]; simp; omega) (by omega)
        rw [b1, b2, g1, g2] at hsb
        simp only [cond_true, Option.bind_some] at hsb
        obtain ⟨jx, _, _, _⟩ := job_eq hN f5 ⟨f1, f2⟩ hx f6 (hD x (by simp))
        obtain ⟨jc, _, _, _⟩ := job_eq hN f5 ⟨f1, f2⟩ hx f6 (hD c (by simp))
        rw [decide_eq_true (show ((P.length + 1 : Nat) : Int) > 0 by omega), cond_true, b1, b2, g1, g2]
        simp only [cond_true, Option.bind_some]
        rw [jx, jc]
        simp only [Option.bind_some]
        rw [hsb, show St.swp (P ++ c :: x :: t) P.length (P.length + 1 + ([] : List Int).length) = P ++ x :: c :: t from (St.swp_far P [] c x t).2, i2, w64_in (n := (i : Int) + 1) (by omega)]
        rw [show decide (jSum xs m x > jSum xs m c) = decide (- jSum xs m x < - jSum xs m c) by by_cases h : jSum xs m x > jSum xs m c <;> simp [h] <;> omega]
        rfl)
      hS (fun c hc => (hy c hc).2) (fun c hc => by
        rcases List.mem_append.1 hc with hc | hc
        · have := hy c hc
          omega
        · rw [List.mem_singleton.1 hc]
          omega) (by omega) (by omega)
    rw [hl] at this
    exact this
  · simp only
    rw [hcount]
    simp only [Option.bind_some]
    rw [decide_eq_false (show ¬ (n : Int) < (n : Int) by omega), cond_false]
    rfl

/-- What the placing and the program's own have to do with one another. -/
theorem ins_rel {xs S : List Int} {q m : Int} (hq : q * m = xs.length) (hm : 1 ≤ m ∧ m ≤ 8) (hx : xs.length ≤ 1048576) (hS : S.length ≤ 24) (hd : ∀ v ∈ S, 0 ≤ v ∧ v < q) (hsort : impl_sortedBy_impl_shop_insert_1 N q (xs, (q, m)) = some (S, ())) :
    ∃ r, insLoop N xs m S = some r ∧ impl_shop_insert N (xs, (q, m)) = some r ∧ r.1.length ≤ 24 := by
  unfold insLoop impl_shop_insert
  simp only
  rw [hsort]
  simp only [Option.bind_some]
  refine loop_rel (I := fun (s t : List Int × Int × Int × Unit) => s = t ∧ 0 ≤ s.2.2.1 ∧ s.2.2.1 ≤ S.length ∧ (s.1.length : Int) = s.2.2.1 ∧ ∀ v ∈ s.1, 0 ≤ v ∧ v < q) (μ := fun s => (S.length - s.2.2.1).toNat) (Q := fun (r : List Int × Int × Unit) => r.1.length ≤ 24) ?_ N N _ _
    ⟨rfl, Int.le_refl _, by simp only; omega, rfl, fun v hv => by cases hv⟩ (by simp only; omega) (by simp only; omega)
  rintro ⟨out, last, i, u⟩ _ nA nB ⟨rfl, h1, h2, h3, h4⟩ hn
  simp only at h1 h2 h3 h4 ⊢
  by_cases hi : i < (S.length : Int)
  · have hlt : i.toNat < S.length := by omega
    obtain ⟨v0, v1⟩ := hd _ (getD_mem (xs := S) (n := i.toNat) hlt)
    simp only [hi, decide_true, cond_true, inB_of (n := i) (len := S.length) ⟨h1, hi⟩, get_getD (0 : Int) (xs := S) (n := i.toNat) hlt, Option.bind_some]
    generalize S.getD i.toNat 0 = job at v0 v1
    refine loop_rel (I := fun (s t : Int × List Int × Int × Unit) => s = t ∧ 0 ≤ s.2.2.1 ∧ s.2.2.1 ≤ out.length + 1 ∧ (s.2.2.1 = 0 → s.2.1 = []) ∧ (s.2.2.1 ≠ 0 → s.2.1.length = out.length + 1) ∧ ∀ v ∈ s.2.1, 0 ≤ v ∧ v < q) (μ := fun s => (out.length + 1 - s.2.2.1).toNat) (Q := fun (r : List Int × Int × Unit) => r.1.length ≤ 24) ?_ N N _ _
      ⟨rfl, Int.le_refl _, by simp only; omega, fun _ => rfl, fun h => absurd rfl h, fun v hv => by cases hv⟩ (by simp only; omega) (by simp only; omega)
    rintro ⟨low, best, k, u⟩ _ mA mB ⟨rfl, g1, g2, g3, g4, g5⟩ hmm
    simp only at g1 g2 g3 g4 g5 ⊢
    rw [w64_in (n := (out.length : Int) + 1) (by omega)]
    by_cases hk : k ≤ (out.length : Int)
    · obtain ⟨a, rfl⟩ := Int.eq_ofNat_of_zero_le g1
      have hka : a ≤ out.length := by omega
      have e1 : ([] : List Int) ++ ((out.drop (Int.toNat (0 : Int))).take (Int.toNat (a : Int) - Int.toNat (0 : Int))) = out.take a := by simp
      have e2 : (out.drop (Int.toNat (a : Int))).take (Int.toNat (out.length : Int) - Int.toNat (a : Int)) = out.drop a := by
        rw [Int.toNat_natCast, Int.toNat_natCast]
        exact List.take_of_length_le (by simp)
      have ec : (out.take a ++ [job]) ++ out.drop a = out.take a ++ ([job] ++ out.drop a) := by rw [List.append_assoc]
      obtain ⟨cand, hcand⟩ : ∃ cand, cand = out.take a ++ ([job] ++ out.drop a) := ⟨_, rfl⟩
      have hcl : cand.length = out.length + 1 := by
        rw [hcand]
        simp
        omega
      have hcd : ∀ v ∈ cand, 0 ≤ v ∧ v < q := fun v hv => by
        rw [hcand] at hv
        rcases List.mem_append.1 hv with hv | hv
        · exact h4 v (List.mem_of_mem_take hv)
        · rcases List.mem_append.1 hv with hv | hv
          · rw [List.mem_singleton.1 hv]
            exact ⟨v0, v1⟩
          · exact h4 v (List.mem_of_mem_drop hv)
      obtain ⟨l, x, k1, k2, _⟩ := flow_eq hN (ys := cand) hq hm hx (by omega) hcd
      have hclone : slices_Clone_int64_int64 N out = some (out, ()) := by
        unfold slices_Clone_int64_int64
        rw [appOk_of (by omega)]
        rfl
      have hins : slices_Insert_int64_int64 N out (a : Int) (.inl ([job] : List Int)) = some cand := by
        unfold slices_Insert_int64_int64 insF
        simp only
        rw [decide_eq_true (show (0 : Int) ≤ (a : Int) by omega), decide_eq_true (show (a : Int) ≤ (out.length : Int) by omega), decide_eq_true (show out.length ≤ 1000000 by omega), hcand, Int.toNat_natCast]
        rfl
      have hne : List.isEmpty cand = false := by
        cases hc : cand with
        | nil => rw [hc] at hcl; simp at hcl
        | cons => rfl
      rw [decide_eq_true hk, cond_true, decide_eq_true (show (0 : Int) ≤ (0 : Int) by omega), decide_eq_true (show (0 : Int) ≤ (a : Int) by omega)]
      simp only [Bool.and_true, cond_true, Bool.true_and]
      rw [e1, e2, appOk_of (by simp; omega), cond_true, appOk_of (by simp; omega), cond_true]
      simp only [Int.le_refl, decide_true, Bool.and_true, cond_true]
      rw [appOk_of (by simp; omega), cond_true, ec, ← hcand, k1, decide_eq_true (show (a : Int) < (out.length : Int) + 1 by omega), hclone]
      simp only [Option.bind_some, cond_true]
      rw [hins]
      simp only [Option.bind_some]
      rw [k2]
      simp only [Option.bind_some, hne, cond_false]
      rw [w64_in (n := (a : Int) + 1) (by omega)]
      by_cases ha : (a : Int) = 0
      · rw [show ((a : Int) == 0) = true by simp [ha], g3 ha]
        simp only [List.isEmpty_nil, cond_true]
        exact hmm _ _ ⟨rfl, by simp only; omega, by simp only; omega, fun h => by simp only at h; omega, fun _ => hcl, hcd⟩ (by simp only; omega)
      · have hbe : List.isEmpty best = false := by
          cases hc : best with
          | nil => have := g4 ha; rw [hc] at this; simp at this
          | cons => rfl
        rw [show ((a : Int) == 0) = false by simpa using ha, hbe]
        simp only [cond_false]
        by_cases hlow : x < low
        · rw [decide_eq_true hlow]
          simp only [cond_true]
          exact hmm _ _ ⟨rfl, by simp only; omega, by simp only; omega, fun h => by simp only at h; omega, fun _ => hcl, hcd⟩ (by simp only; omega)
        · rw [decide_eq_false hlow]
          simp only [cond_false]
          exact hmm _ _ ⟨rfl, by simp only; omega, by simp only; omega, fun h => by simp only at h; omega, fun _ => g4 ha, g5⟩ (by simp only; omega)
    · have hbe : List.isEmpty best = false := by
        cases hc : best with
        | nil => have := g4 (by omega); rw [hc] at this; simp at this
        | cons => rfl
      have hbl := g4 (by omega)
      rw [decide_eq_false hk, cond_false, hbe, cond_false, decide_eq_false (show ¬ k < (out.length : Int) + 1 by omega), cond_false, w64_in (n := i + 1) (by omega)]
      exact hn _ _ ⟨rfl, by simp only; omega, by simp only; omega, by simp only; omega, g5⟩ (by simp only; omega)
  · simp only [hi, decide_false, cond_false]
    exact ⟨_, rfl, rfl, by simp only; omega⟩

theorem insert_both {xs : List Int} {m : Int} (hx : xs.length ≤ 1048576) (hs : shopOk xs m = true) : ∃ a b, spec_l04Insert N xs m = some (a, b, ()) ∧ impl_shop_insert N (xs, (quot xs m, m)) = some (a, b, ()) ∧ a.length ≤ 24 := by
  obtain ⟨f1, f2, f3, f4, f5, f6, f7, f8, f9⟩ := shop_facts hx hs
  obtain ⟨S, h1, h2, h3⟩ := l04Insert_eq hN hx hs
  obtain ⟨n, hn⟩ : ∃ n : Nat, quot xs m = (n : Int) := ⟨(quot xs m).toNat, by omega⟩
  rw [hn, Int.toNat_natCast] at h2
  rw [hn] at f3 f4 f5
  obtain ⟨C1, e1, p1, s1⟩ := impl_sortedBy_impl_shop_insert_1_ok hN (n := n) (by omega) (c := (xs, ((n : Int), m))) (k := fun v => - jSum xs m v) (fun x g1 g2 => by
    obtain ⟨_, j1, j2, j3⟩ := job_eq hN f5 ⟨f1, f2⟩ hx f6 ⟨g1, g2⟩
    unfold impl_shop_insert_1_c0
    rw [j1]
    simp only [Option.bind_some]
    show some (w64 (0 - jSum xs m x), ()) = _
    rw [w64_in (n := 0 - jSum xs m x) (by omega), Int.zero_sub])
  have hSC : S = C1 := St.sorted_unique (h2.trans p1.symm) h3 s1
  subst hSC
  obtain ⟨⟨a, b, u⟩, g1, g2, g3⟩ := ins_rel hN (S := S) f5 ⟨f1, f2⟩ hx (by rw [h2.length_eq]; simp; omega) (fun v hv => mem_rangeI (h2.mem_iff.1 hv)) e1
  rw [hn, h1]
  exact ⟨a, b, g1, g2, g3⟩

theorem order_both {xs : List Int} {m : Int} (hx : xs.length ≤ 1048576) : ∃ a b c, spec_InsertOrder N xs m = some (a, b, c, ()) ∧ impl_InsertOrder N xs m = some (a, b, c, ()) ∧ a.length ≤ 24 ∧ c = shopOk xs m := by
  obtain ⟨j, hj, hjq⟩ := asShop_eq hN (m := m) hx
  unfold spec_InsertOrder impl_InsertOrder
  rw [l04Can_eq hN hx, hj]
  simp only [Option.bind_some]
  cases hs : shopOk xs m with
  | false => exact ⟨_, _, _, rfl, rfl, by simp, rfl⟩
  | true =>
    rw [hjq hs]
    obtain ⟨a, b, h1, h2, h3⟩ := insert_both hN hx hs
    simp only [Bool.not_true, cond_false]
    rw [h1, h2]
    exact ⟨_, _, _, rfl, rfl, h3, rfl⟩

theorem FnExactInsertOrder_eq (xs : List Int) (m : Int) : laws_FnExactInsertOrder N xs m = some (true, ()) := by
  unfold laws_FnExactInsertOrder
  by_cases hx : (xs.length : Int) > 1048576
  · simp only [hx, decide_true, cond_true]
  · obtain ⟨a, b, c, h1, h2, h3, _⟩ := order_both hN (xs := xs) (m := m) (by omega)
    simp only [hx, decide_false, cond_false, toInt64S_eq hN (xs := xs) (by omega), Option.bind_some, h1, h2, eqInt64S_eq hN (xs := xs) (by omega), eqInt64S_eq hN (xs := a) (by omega), BEq.rfl, Bool.not_true, bne_self_eq_false,
      markInt64S_eq hN (xs := xs) (k := 1) (by omega) (by omega), markInt64S_eq hN (xs := a) (k := 1) (by omega) (by omega), heldInt64S_eq hN (xs := a) (k := 1) (by omega) (by omega), counted_len, Nat.beq_refl, cond_true,
      show ¬ ((1 : Int) + xs.length < 0) by omega, show ¬ ((1 : Int) + a.length < 0) by omega]

theorem areWithin_any {xs : List Int} (hx : xs.length ≤ 9223372036854775807) (lo hi : Int) : ∃ b, impl_areWithin N xs lo hi = some (b, ()) := by
  unfold impl_areWithin
  refine loop_inv (Q := fun o : Option (Bool × Unit) => ∃ b, o = some (b, ())) (inv := fun s : Int × Unit => 0 ≤ s.1 ∧ s.1 ≤ xs.length) (μ := fun s => (xs.length - s.1).toNat) ?_ N _ ⟨Int.le_refl _, by simp only; omega⟩ (by simp only; omega)
  rintro ⟨i, u⟩ next ⟨h1, h2⟩ hn
  simp only at h1 h2 ⊢
  by_cases hlt : i < (xs.length : Int)
  · rw [decide_eq_true hlt, cond_true, idx_getD ⟨h1, hlt⟩]
    simp only [Option.bind_some, within_eq]
    cases within lo hi (xs.getD i.toNat 0) with
    | false => exact ⟨_, rfl⟩
    | true =>
      simp only [Bool.not_true, cond_false]
      rw [w64_in (n := i + 1) (by omega)]
      exact hn _ ⟨by simp only; omega, by simp only; omega⟩ (by simp only; omega)
  · rw [decide_eq_false hlt, cond_false]
    exact ⟨_, rfl⟩

theorem big_false {xs : List Int} {m : Int} (h0 : 1048576 < xs.length) (hx : xs.length ≤ 9223372036854775807) : spec_l04Can N xs m = some (false, ()) ∧ ∃ j, impl_asShop N xs m = some ((xs, (j, m)), false, ()) := by
  have hq : 1 ≤ m → m ≤ 8 → w64 (Int.tdiv (xs.length : Int) m) = Int.tdiv (xs.length : Int) m ∧ 24 < Int.tdiv (xs.length : Int) m := fun h1 h8 => by
    have e := Int.mul_tdiv_add_tmod (xs.length : Int) m
    have hr := Int.tmod_lt_of_pos (xs.length : Int) (show 0 < m by omega)
    have h3 : 0 ≤ Int.tdiv (xs.length : Int) m := Int.tdiv_nonneg (by omega) (by omega)
    have h4 : Int.tdiv (xs.length : Int) m ≤ xs.length := Int.tdiv_le_self _ (by omega)
    have h5 : m * Int.tdiv (xs.length : Int) m ≤ 8 * Int.tdiv (xs.length : Int) m := Int.mul_le_mul_of_nonneg_right h8 h3
    exact ⟨w64_in (by omega), by omega⟩
  constructor
  · unfold spec_l04Can spec_l02Unlike spec_l02Machines
    simp only [l00In_eq, Option.bind_some]
    cases hm : within 1 8 m
    · rfl
    · obtain ⟨m1, m8⟩ := within_iff.1 hm
      obtain ⟨q1, q2⟩ := hq m1 m8
      have h0' : (m == 0) = false := by simp only [beq_eq_false_iff_ne]; omega
      simp only [Bool.not_true, cond_false, h0']
      rw [decide_eq_false (show ¬ (xs.length : Int) < 1 by omega), cond_false, q1]
      cases (Int.tmod (xs.length : Int) m != 0)
      · simp only [cond_false]
        rw [decide_eq_true (show Int.tdiv (xs.length : Int) m > 24 by omega)]
        rfl
      · rfl
  · unfold impl_asShop impl_unlikeJobs impl_areMachines
    obtain ⟨b, hb⟩ := areWithin_any hN hx 1 10000
    simp only [within_eq, Option.bind_some]
    cases hm : within 1 8 m
    · exact ⟨0, rfl⟩
    · obtain ⟨m1, m8⟩ := within_iff.1 hm
      obtain ⟨q1, q2⟩ := hq m1 m8
      have h0' : (m == 0) = false := by simp only [beq_eq_false_iff_ne]; omega
      simp only [Bool.not_true, cond_false, h0']
      cases (Int.tmod (xs.length : Int) m != 0)
      · simp only [cond_false]
        rw [hb]
        simp only [Option.bind_some]
        cases b
        · exact ⟨0, rfl⟩
        · simp only [Bool.not_true, cond_false]
          rw [q1, decide_eq_true (show Int.tdiv (xs.length : Int) m ≥ 1 by omega), decide_eq_false (show ¬ Int.tdiv (xs.length : Int) m ≤ 24 by omega)]
          exact ⟨_, rfl⟩
      · exact ⟨0, rfl⟩

theorem order_any {xs : List Int} {m : Int} (hx : xs.length ≤ 9223372036854775807) : (spec_l04Can N xs m = some (false, ()) ∧ impl_InsertOrder N xs m = some ([], 0, false, ())) ∨
    ∃ a b, spec_l04Can N xs m = some (true, ()) ∧ spec_l04Insert N xs m = some (a, b, ()) ∧ impl_InsertOrder N xs m = some (a, b, true, ()) := by
  by_cases hbig : 1048576 < xs.length
  · obtain ⟨h1, j, h2⟩ := big_false hN (m := m) hbig hx
    refine .inl ⟨h1, ?_⟩
    unfold impl_InsertOrder
    rw [h2]
    rfl
  · have hx : xs.length ≤ 1048576 := by omega
    obtain ⟨j, hj, hjq⟩ := asShop_eq hN (m := m) hx
    cases hs : shopOk xs m with
    | false =>
      refine .inl ⟨by rw [l04Can_eq hN hx, hs], ?_⟩
      unfold impl_InsertOrder
      rw [hj, hs]
      rfl
    | true =>
      obtain ⟨a, b, h1, h2, h3⟩ := insert_both hN hx hs
      refine .inr ⟨a, b, by rw [l04Can_eq hN hx, hs], h1, ?_⟩
      unfold impl_InsertOrder
      rw [hj, hs, hjq hs]
      simp only [Option.bind_some, Bool.not_true, cond_false]
      rw [h2]
      rfl

theorem flows_eq {ls : List (List Int)} {m k : Int} (h0 : ls.length ≤ 1048576) (hx : ∀ l ∈ ls, l.length ≤ 9223372036854775807) : ∃ r, spec_FlowsShared N ls m k = some r ∧ impl_FlowsShared N ls m k = some r ∧ r.1.length ≤ 16 := by
  unfold spec_FlowsShared impl_FlowsShared impl_areWorkers
  simp only [l00In_eq, within_eq, Option.bind_some]
  by_cases c1 : (ls.length : Int) < 1
  · rw [decide_eq_true c1]
    exact ⟨_, rfl, rfl, by simp⟩
  · rw [decide_eq_false c1, cond_false, cond_false]
    by_cases c2 : (ls.length : Int) > 16
    · rw [decide_eq_true c2]
      exact ⟨_, rfl, rfl, by simp⟩
    · rw [decide_eq_false c2, cond_false, cond_false]
      cases within 1 8 k with
      | false => exact ⟨_, rfl, rfl, by simp⟩
      | true =>
        simp only [Bool.not_true, cond_false]
        refine loop_rel (I := fun (s t : List Int × Int × Unit) => s = t ∧ 0 ≤ s.2.1 ∧ s.2.1 ≤ ls.length ∧ (s.1.length : Int) = s.2.1) (μ := fun s => (ls.length - s.2.1).toNat) (Q := fun (r : List Int × Bool × Unit) => r.1.length ≤ 16) ?_ N N _ _
          ⟨rfl, Int.le_refl _, by simp only; omega, rfl⟩ (by simp only; omega) (by simp only; omega)
        rintro ⟨out, i, u⟩ _ nA nB ⟨rfl, h1, h2, h3⟩ hn
        simp only at h1 h2 h3 ⊢
        by_cases hi : i < (ls.length : Int)
        · have hlt : i.toNat < ls.length := by omega
          simp only [hi, decide_true, cond_true, idx_get [] ⟨h1, hi⟩, Option.bind_some]
          rcases order_any hN (m := m) (hx _ (List.mem_of_getElem? (get_getD [] hlt))) with ⟨e1, e2⟩ | ⟨a, b, e1, e2, e3⟩
          · rw [e1, e2]
            exact ⟨_, rfl, rfl, by simp⟩
          · rw [e1, e3]
            simp only [Option.bind_some, Bool.not_true, cond_false]
            rw [e2]
            simp only [Option.bind_some]
            rw [appOk_of (by simp; omega), cond_true, cond_true, w64_in (n := i + 1) (by omega)]
            exact hn _ _ ⟨rfl, by simp only; omega, by simp only; omega, by simp; omega⟩ (by simp only; omega)
        · simp only [hi, decide_false, cond_false]
          exact ⟨_, rfl, rfl, by simp only; omega⟩

theorem workers_any {ls : List (List Int)} {m k k' : Int} (hk : within 1 8 k = true) (hk' : within 1 8 k' = true) : impl_FlowsShared N ls m k = impl_FlowsShared N ls m k' := by
  have _ := hN
  unfold impl_FlowsShared impl_areWorkers
  rw [within_eq, within_eq, hk, hk']

theorem FnExactFlowsShared_eq (ls : List (List Int)) (m k : Int) (hx : ls.length ≤ 9223372036854775807 ∧ ∀ l ∈ ls, l.length ≤ 9223372036854775807) : laws_FnExactFlowsShared N ls m k = some (true, ()) := by
  unfold laws_FnExactFlowsShared
  rcases szSS_eq hN hx.1 hx.2 with e | ⟨r, e, h1, h2, h3⟩
  · rw [e]
    rfl
  · obtain ⟨⟨a, b, u⟩, g1, g2, g3⟩ := flows_eq hN (ls := ls) (m := m) (k := k) h2 (fun l hl => by have := h3 l hl; omega)
    have hnn := listsLen_nonneg ls
    have hle := listsLen_le ls h3
    have hm : laws_markInt64SS_d ls 1 = some (1 + listsLen ls) := by
      unfold laws_markInt64SS_d
      rw [decide_eq_true (show (0 : Int) ≤ 1 by omega), decide_eq_true (show 1 + listsLen ls ≤ 4611686018427387904 by omega), decide_eq_true (show ls.length ≤ 4611686018427387904 by omega)]
      rfl
    simp only at g3
    simp only [e, Option.bind_some, decide_eq_false (show ¬ r < 0 by omega), cond_false, toSS_eq hN h2 h3, g1, g2, eqSS_eq hN h2 h3, eqInt64S_eq hN (xs := a) (by omega), BEq.rfl, Bool.not_true, bne_self_eq_false, hm, decide_eq_false (show ¬ (1 + listsLen ls < 0) by omega),
      markInt64S_eq hN (xs := a) (k := 1) (by omega) (by omega), heldInt64S_eq hN (xs := a) (k := 1) (by omega) (by omega), counted_len, Nat.beq_refl, cond_true, decide_eq_false (show ¬ ((1 : Int) + a.length < 0) by omega)]

theorem FnFlowsSharedOfAll_eq (ls : List (List Int)) (m k k' : Int) (hx : ∀ l ∈ ls, l.length ≤ 9223372036854775807) : laws_FnFlowsSharedOfAll N ls m k k' = some (true, ()) := by
  unfold laws_FnFlowsSharedOfAll
  by_cases hl : (ls.length : Int) > 10000
  · rw [decide_eq_true hl]
    rfl
  · rw [decide_eq_false hl, cond_false]
    obtain ⟨⟨a, b, u⟩, h1, h2, h3⟩ := flows_eq hN (ls := ls) (m := m) (k := k) (by omega) hx
    obtain ⟨⟨a', b', u'⟩, _, g2, _⟩ := flows_eq hN (ls := ls) (m := m) (k := k') (by omega) hx
    have hw : within 1 8 k = true → within 1 8 k' = true → a' = a ∧ b' = b := fun e1 e2 => by
      have := workers_any hN (ls := ls) (m := m) e1 e2
      rw [h2, g2] at this
      cases this
      exact ⟨rfl, rfl⟩
    rw [h2, g2, h1]
    simp only [Option.bind_some, BEq.rfl, Bool.not_true, cond_false]
    rw [sameInts_eq hN (xs := a) (by simp only at h3; omega)]
    simp only [Option.bind_some, Bool.not_true, cond_false]
    by_cases c1 : k < 1
    · rw [decide_eq_true c1]
      cases b <;> rfl
    · rw [decide_eq_false c1]
      by_cases c2 : k > 8
      · rw [decide_eq_true c2]
        cases b <;> rfl
      · rw [decide_eq_false c2]
        by_cases c3 : k' < 1
        · rw [decide_eq_true c3]
          cases b <;> rfl
        · rw [decide_eq_false c3]
          by_cases c4 : k' > 8
          · rw [decide_eq_true c4]
            cases b <;> rfl
          · rw [decide_eq_false c4]
            obtain ⟨rfl, rfl⟩ := hw (within_iff.2 (by omega)) (within_iff.2 (by omega))
            simp only [cond_false, BEq.rfl, cond_true]
            rw [sameInts_eq hN (xs := a') (by simp only at h3; omega)]
            cases b' <;> rfl
end

end Go.Proofs.Ytkcdhdnmmpapdaa
