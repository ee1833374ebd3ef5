/-
  OrderBy: the plain law. No condition.
-/
import Derived.Test.YtkcdhdnmmpapdaaLoads
import Derived.Test.YtkcdhdnmmpapdaaSortS
import Derived.Test.YtkcdhdnmmpapdaaSortI
namespace Go.Proofs.Ytkcdhdnmmpapdaa
open Go Go.Proofs.Ytkcdhdnmmpapdaa.Fw
set_option linter.unusedVariables false
set_option linter.unusedSimpArgs false

abbrev Jb := Int × Int × Int × Int
def NJ : Jb := (0, 0, 0, 0)
def jobOk (t : Jb) : Bool := within 1 10000 t.1 && (within 0 10000 t.2.1 && (within 0 10000 t.2.2.1 && within 0 10000 t.2.2.2))
def jobsOk (js : List Jb) : Bool := js.all jobOk && (decide ((js.length : Int) ≥ 1) && decide ((js.length : Int) ≤ 24))

/-- The product of the jobs' times. -/
def prodT : List Jb → Int
  | [] => 1
  | t :: r => t.1 * prodT r

theorem prodT_spec : ∀ (js : List Jb), (∀ t ∈ js, 1 ≤ t.1) → 0 < prodT js ∧ ∀ t ∈ js, ∃ q, 0 < q ∧ prodT js = t.1 * q
  | [], _ => ⟨by simp [prodT], fun t h => by cases h⟩
  | t :: r, h => by
    obtain ⟨h1, h2⟩ := prodT_spec r (fun u hu => h u (List.mem_cons_of_mem _ hu))
    have ht := h t List.mem_cons_self
    refine ⟨Int.mul_pos (by omega) h1, fun u hu => ?_⟩
    rcases List.mem_cons.1 hu with rfl | hu
    · exact ⟨prodT r, h1, rfl⟩
    · obtain ⟨q, hq, e⟩ := h2 u hu
      refine ⟨t.1 * q, Int.mul_pos (by omega) hq, ?_⟩
      show t.1 * prodT r = _
      rw [e, ← Int.mul_assoc, ← Int.mul_assoc, Int.mul_comm t.1 u.1]

theorem mul_lt_iff {a b c : Int} (hc : 0 < c) : a * c < b * c ↔ a < b := by
  constructor
  · intro h
    by_cases h1 : a < b
    · exact h1
    · have := Int.mul_le_mul_of_nonneg_right (Int.not_lt.1 h1) (Int.le_of_lt hc)
      omega
  · exact fun h => Int.mul_lt_mul_of_pos_right h hc

theorem cross {P tx tc qx qc wx wc : Int} (h1 : P = tx * qx) (h2 : P = tc * qc) (hP : 0 < P) (h3 : 0 < qx) (h4 : 0 < qc) : wc * tx < wx * tc ↔ wc * qc < wx * qx := by
  rw [← mul_lt_iff (Int.mul_pos h3 h4), ← mul_lt_iff (a := wc * qc) hP]
  have e1 : wc * tx * (qx * qc) = wc * qc * P := by
    rw [h1]
    simp only [Int.mul_assoc, Int.mul_left_comm, Int.mul_comm]
  have e2 : wx * tc * (qx * qc) = wx * qx * P := by
    rw [h2]
    simp only [Int.mul_assoc, Int.mul_left_comm, Int.mul_comm]
  rw [e1, e2]

def jobKey (js : List Jb) (rule : Int) (v : Int) : Int :=
  if rule = 0 then (js.getD v.toNat NJ).1 else if rule = 1 then (js.getD v.toNat NJ).2.2.1 else if rule = 2 then (js.getD v.toNat NJ).2.1
  else - ((js.getD v.toNat NJ).2.2.2 * (prodT js / (js.getD v.toNat NJ).1))

section
variable {N : Nat} (hN : 9223372036854775808 ≤ N)
include hN

theorem l02Jobs_eq {js : List Jb} (hx : js.length ≤ 1048576) : spec_l02Jobs N js = some (jobsOk js, ()) := by
  have hj : ∀ t : Jb, spec_l02Job N t = some (jobOk t, ()) := fun t => by
    unfold spec_l02Job jobOk
    simp only [l00In_eq, Option.bind_some]
    cases within 1 10000 t.1 <;> cases within 0 10000 t.2.1 <;> cases within 0 10000 t.2.2.1 <;> rfl
  unfold spec_l02Jobs jobsOk
  rw [all_loop hN (xs := js) (by omega) jobOk (some (false, ())) (cond (decide ((List.length js : Int) ≥ 1)) (some ((decide ((List.length js : Int) ≤ 24)), ())) (some (false, ())))]
  · cases js.all jobOk
    · rfl
    · cases decide ((List.length js : Int) ≥ 1) <;> rfl
  · intro s next e
    simp only [e, Int.lt_irrefl, decide_false, cond_false]
  · intro s next v g1 g2 g3 g4
    simp only [g2, decide_true, cond_true, g3, Option.bind_some, hj, g4]
    cases jobOk v <;> rfl

theorem areJobs_eq {js : List Jb} (hx : js.length ≤ 1048576) : impl_AreJobs N js = some (jobsOk js, ()) := by
  unfold impl_AreJobs jobsOk
  rw [all_loop hN (xs := js) (by omega) jobOk (some (false, ())) (cond (decide ((List.length js : Int) ≥ 1)) (some ((decide ((List.length js : Int) ≤ 24)), ())) (some (false, ())))]
  · cases js.all jobOk
    · rfl
    · cases decide ((List.length js : Int) ≥ 1) <;> rfl
  · intro s next e
    simp only [e, Int.lt_irrefl, decide_false, cond_false]
  · intro s next v g1 g2 g3 g4
    simp only [g2, decide_true, cond_true, g3, Option.bind_some, within_eq, areWithin_eq hN (xs := [v.2.1, v.2.2.1, v.2.2.2]) (by simp), g4, jobOk, List.all_cons, List.all_nil, Bool.and_true]
    cases within 1 10000 v.1 <;> cases within 0 10000 v.2.1 <;> cases within 0 10000 v.2.2.1 <;> cases within 0 10000 v.2.2.2 <;> rfl

theorem jobs_facts {js : List Jb} (h : jobsOk js = true) : 1 ≤ js.length ∧ js.length ≤ 24 ∧ ∀ n : Nat, n < js.length → js.getD n NJ ∈ js ∧ 1 ≤ (js.getD n NJ).1 ∧ (js.getD n NJ).1 ≤ 10000 ∧ 0 ≤ (js.getD n NJ).2.2.2 ∧ (js.getD n NJ).2.2.2 ≤ 10000 := by
  have _ := hN
  simp only [jobsOk, Bool.and_eq_true, decide_eq_true_eq] at h
  refine ⟨by omega, by omega, fun n hn => ?_⟩
  have hm : js.getD n NJ ∈ js := List.mem_of_getElem? (get_getD NJ hn)
  have := List.all_eq_true.1 h.1 _ hm
  simp only [jobOk, Bool.and_eq_true] at this
  have h1 := within_iff.1 this.1
  have h4 := within_iff.1 this.2.2.2
  exact ⟨hm, h1.1, h1.2, h4.1, h4.2⟩

/-- The cross products tell what the keys tell. -/
theorem ratio_key {js : List Jb} (h : jobsOk js = true) {x c : Int} (hx : 0 ≤ x ∧ x < (js.length : Int)) (hc : 0 ≤ c ∧ c < (js.length : Int)) :
    decide (w64 ((js.getD c.toNat NJ).2.2.2 * (js.getD x.toNat NJ).1) < w64 ((js.getD x.toNat NJ).2.2.2 * (js.getD c.toNat NJ).1)) = decide (jobKey js 3 x < jobKey js 3 c) := by
  obtain ⟨_, _, hf⟩ := jobs_facts hN h
  obtain ⟨m1, a1, a2, a3, a4⟩ := hf x.toNat (by omega)
  obtain ⟨m2, b1, b2, b3, b4⟩ := hf c.toNat (by omega)
  have hall : ∀ t ∈ js, 1 ≤ t.1 := fun t ht => by
    obtain ⟨i, hi⟩ := List.mem_iff_getElem?.1 ht
    have := (hf i (List.getElem?_eq_some_iff.1 hi).1).2.1
    rw [List.getD_eq_getElem?_getD, hi] at this
    exact this
  obtain ⟨hP, hq⟩ := prodT_spec js hall
  obtain ⟨qx, qx0, ex⟩ := hq _ m1
  obtain ⟨qc, qc0, ec⟩ := hq _ m2
  have dx : prodT js / (js.getD x.toNat NJ).1 = qx := by rw [ex]; exact Int.mul_ediv_cancel_left _ (by omega)
  have dc : prodT js / (js.getD c.toNat NJ).1 = qc := by rw [ec]; exact Int.mul_ediv_cancel_left _ (by omega)
  have k1 : jobKey js 3 x = - ((js.getD x.toNat NJ).2.2.2 * qx) := by unfold jobKey; rw [if_neg (by omega), if_neg (by omega), if_neg (by omega), dx]
  have k2 : jobKey js 3 c = - ((js.getD c.toNat NJ).2.2.2 * qc) := by unfold jobKey; rw [if_neg (by omega), if_neg (by omega), if_neg (by omega), dc]
  have p1 : 0 ≤ (js.getD c.toNat NJ).2.2.2 * (js.getD x.toNat NJ).1 := Int.mul_nonneg (by omega) (by omega)
  have p2 : (js.getD c.toNat NJ).2.2.2 * (js.getD x.toNat NJ).1 ≤ 10000 * 10000 := Int.mul_le_mul b4 a2 (by omega) (by omega)
  have p3 : 0 ≤ (js.getD x.toNat NJ).2.2.2 * (js.getD c.toNat NJ).1 := Int.mul_nonneg (by omega) (by omega)
  have p4 : (js.getD x.toNat NJ).2.2.2 * (js.getD c.toNat NJ).1 ≤ 10000 * 10000 := Int.mul_le_mul a4 b2 (by omega) (by omega)
  rw [w64_in (by omega), w64_in (by omega), k1, k2]
  have := cross (wx := (js.getD x.toNat NJ).2.2.2) (wc := (js.getD c.toNat NJ).2.2.2) ex ec hP qx0 qc0
  exact decide_eq_decide.2 (this.trans (by omega))

theorem before_eq {js : List Jb} (h : jobsOk js = true) {rule : Int} (hr : 0 ≤ rule ∧ rule ≤ 3) {x c : Int} (hx : 0 ≤ x ∧ x < (js.length : Int)) (hc : 0 ≤ c ∧ c < (js.length : Int)) :
    spec_l02Before N (js.getD x.toNat NJ) (js.getD c.toNat NJ) rule = some (decide (jobKey js rule x < jobKey js rule c), ()) := by
  unfold spec_l02Before
  by_cases h0 : rule = 0
  · subst h0; rfl
  · by_cases h1 : rule = 1
    · subst h1; rfl
    · by_cases h2 : rule = 2
      · subst h2; rfl
      · obtain rfl : rule = 3 := by omega
        rw [← ratio_key hN h hx hc]
        rfl

theorem by_eq {js : List Jb} (h : jobsOk js = true) {rule : Int} (hr : 0 ≤ rule ∧ rule ≤ 3) : ∃ S, spec_l02By N js rule = some (S, ()) ∧ S.Perm ((List.range js.length).map Int.ofNat) ∧ S.Pairwise (St.R (jobKey js rule)) := by
  obtain ⟨t1, t2, _⟩ := jobs_facts hN h
  unfold spec_l02By
  refine St.insertion (F := fun S => some (S, ())) (fun S i next hi hl hy hS => ?_) (fun S next hl => ?_) (by omega)
  · simp only
    rw [decide_eq_true (show (i : Int) < (js.length : Int) by omega), cond_true, appOk_of (by simp; omega), cond_true]
    have := St.bubble (N := N) (D := fun y => 0 ≤ y ∧ y < (js.length : Int)) (k := jobKey js rule) (L := 24) (C := S) (x := (i : Int)) (E := fun ys => next (ys, ((i + 1 : Nat) : Int), ()))
      (body := fun (s4 : List Int × Int × Unit) next5 =>
          cond (decide (s4.2.1 > 0))
            (cond (inB s4.2.1 (List.length s4.1))
              (Option.bind (s4.1[(Int.toNat s4.2.1)]?) fun v6 =>
              Option.bind (idx js v6) fun v7 =>
              cond (inB (w64 (s4.2.1 - 1)) (List.length s4.1))
                (Option.bind (s4.1[(Int.toNat (w64 (s4.2.1 - 1)))]?) fun v8 =>
                Option.bind (idx js v8) fun v9 =>
                Option.bind (spec_l02Before N v7 v9 rule) fun r10 =>
                cond r10.1
                  (cond (inB s4.2.1 (List.length s4.1))
                    (Option.bind (s4.1[(Int.toNat s4.2.1)]?) fun v11 =>
                    cond (inB (w64 (s4.2.1 - 1)) (List.length s4.1))
                      (Option.bind (s4.1[(Int.toNat (w64 (s4.2.1 - 1)))]?) fun v12 =>
                      cond (inB s4.2.1 (List.length s4.1))
                        (let xs13 := (List.set s4.1 (Int.toNat s4.2.1) v12)
                        cond (inB (w64 (s4.2.1 - 1)) (List.length xs13))
                          (let xs14 := (List.set xs13 (Int.toNat (w64 (s4.2.1 - 1))) v11)
                          next5 (xs14, (w64 (s4.2.1 - 1)), ())) none) none) none) none)
                  (next (s4.1, (w64 ((i : Int) + 1)), ()))) none) none)
            (next (s4.1, (w64 ((i : Int) + 1)), ())))
      (fun ys next7 => by
        simp only
        rw [decide_eq_false (by omega), cond_false, w64_in (by omega)]
        rfl)
      (fun P c x t next7 hlen hD => by
        simp only
        have i1 : (((P.length + 1 : Nat) : Nat) : Int) = ((P.length + 1 + ([] : List Int).length : Nat) : Int) := by simp
        have i2 : w64 (((P.length + 1 : Nat) : Int) - 1) = (P.length : Nat) := by rw [w64_in (by simp at hlen; omega)]; omega
        have hll : (P ++ c :: x :: t).length = P.length + 2 + t.length := by simp; omega
        have g1 : (P ++ c :: x :: t)[(((P.length + 1 : Nat) : Int)).toNat]? = some x := by rw [i1, Int.toNat_natCast]; exact St.get_far P [] c x t
        have g2 : (P ++ c :: x :: t)[(w64 (((P.length + 1 : Nat) : Int) - 1)).toNat]? = some c := by rw [i2, Int.toNat_natCast]; exact St.get_mid _ _ _
        have b1 : inB (((P.length + 1 : Nat) : Int)) (P ++ c :: x :: t).length = true := St.inB_nat rfl (by omega)
        have b2 : inB (w64 (((P.length + 1 : Nat) : Int) - 1)) (P ++ c :: x :: t).length = true := St.inB_nat i2 (by omega)
        have hsb := St.swap_block2 (xs := P ++ c :: x :: t) (K := fun ys => next7 (ys, w64 (((P.length + 1 : Nat) : Int) - 1), ())) i1 i2 (by rw [hll]; simp; omega) (by omega)
        rw [b1, b2, g1, g2] at hsb
        simp only [cond_true, Option.bind_some] at hsb
        rw [decide_eq_true (show ((P.length + 1 : Nat) : Int) > 0 by omega), cond_true, b1, b2, g1, g2]
        simp only [cond_true, Option.bind_some]
        rw [idx_get NJ (hD x (by simp)), idx_get NJ (hD c (by simp))]
        simp only [Option.bind_some]
        rw [before_eq hN h hr (hD x (by simp)) (hD c (by simp))]
        simp only [Option.bind_some]
        rw [hsb, show St.swp (P ++ c :: x :: t) P.length (P.length + 1 + ([] : List Int).length) = P ++ x :: c :: t from (St.swp_far P [] c x t).2, i2, w64_in (n := (i : Int) + 1) (by omega)]
        rfl)
      hS (fun c hc => (hy c hc).2) (fun c hc => by
        rcases List.mem_append.1 hc with hc | hc
        · have := hy c hc
          omega
        · rw [List.mem_singleton.1 hc]
          omega) (by omega) (by omega)
    rw [hl] at this
    exact this
  · simp only
    rw [decide_eq_false (show ¬ (js.length : Int) < (js.length : Int) by omega), cond_false]

theorem orderBy_impl {js : List Jb} (h : jobsOk js = true) {rule : Int} (hr : 0 ≤ rule ∧ rule ≤ 3) : ∃ S, impl_orderBy N js rule = some (S, ()) ∧ S.Perm ((List.range js.length).map Int.ofNat) ∧ S.Pairwise (St.R (jobKey js rule)) := by
  obtain ⟨t1, t2, _⟩ := jobs_facts hN h
  unfold impl_orderBy
  by_cases h0 : rule = 0
  · subst h0
    obtain ⟨C, e, p, s⟩ := impl_sortedBy_impl_orderBy_1_ok hN (n := js.length) (by omega) (c := js) (k := jobKey js 0) (fun x h1 h2 => by
      unfold impl_orderBy_1_c0
      rw [idx_get NJ ⟨h1, h2⟩]
      rfl)
    refine ⟨C, ?_, p, s⟩
    rw [show ((0 : Int) == 0) = true from rfl, cond_true, e]
    rfl
  · by_cases h1 : rule = 1
    · subst h1
      obtain ⟨C, e, p, s⟩ := impl_sortedBy_impl_orderBy_2_ok hN (n := js.length) (by omega) (c := js) (k := jobKey js 1) (fun x h1 h2 => by
        unfold impl_orderBy_2_c0
        rw [idx_get NJ ⟨h1, h2⟩]
        rfl)
      refine ⟨C, ?_, p, s⟩
      rw [show ((1 : Int) == 0) = false from rfl, cond_false, show ((1 : Int) == 1) = true from rfl, cond_true, e]
      rfl
    · by_cases h2 : rule = 2
      · subst h2
        obtain ⟨C, e, p, s⟩ := impl_sortedBy_impl_orderBy_3_ok hN (n := js.length) (by omega) (c := js) (k := jobKey js 2) (fun x h1 h2 => by
          unfold impl_orderBy_3_c0
          rw [idx_get NJ ⟨h1, h2⟩]
          rfl)
        refine ⟨C, ?_, p, s⟩
        rw [show ((2 : Int) == 0) = false from rfl, cond_false, show ((2 : Int) == 1) = false from rfl, cond_false, show ((2 : Int) == 2) = true from rfl, cond_true, e]
        rfl
      · obtain rfl : rule = 3 := by omega
        have hc : St.ByKey (fun x y => impl_orderBy_4_c0 N x y js) (fun x => 0 ≤ x ∧ x < (js.length : Int)) (jobKey js 3) := fun x y hx hy => by
          dsimp only
          unfold impl_orderBy_4_c0
          rw [idx_get NJ hx, idx_get NJ hy]
          simp only [Option.bind_some]
          obtain ⟨r, h1, h2⟩ := compare_eq (N := N) (w64 ((js.getD y.toNat NJ).2.2.2 * (js.getD x.toNat NJ).1)) (w64 ((js.getD x.toNat NJ).2.2.2 * (js.getD y.toNat NJ).1))
          rw [h1]
          exact ⟨r, rfl, h2.trans (ratio_key hN h hx hy)⟩
        obtain ⟨C, e, p, s⟩ := St.sort_ok hN hc (range_asc js.length) (fun x h => mem_rangeI h) (by simp; omega)
        refine ⟨C, ?_, p, s⟩
        rw [show ((3 : Int) == 0) = false from rfl, cond_false, show ((3 : Int) == 1) = false from rfl, cond_false, show ((3 : Int) == 2) = false from rfl, cond_false, counting_eq hN (by omega)]
        simp only [Option.bind_some]
        rw [sortI_impl_orderBy_4_sort, e]
        simp only [Option.bind_some]
        rw [St.nbeq p.length_eq, cond_true]

theorem szJobS_gen {js : List Jb} (hx : js.length ≤ 9223372036854775807) : laws_szJobS N js 1048576 = some (-1, ()) ∨ (∃ r : Int, laws_szJobS N js 1048576 = some (r, ()) ∧ 0 ≤ r ∧ js.length ≤ 1048576) := by
  have _ := hN
  unfold laws_szJobS
  rw [w64_in (n := 1048576 - (js.length : Int)) (by omega)]
  by_cases h : (1048576 : Int) - (js.length : Int) < 0
  · exact .inl (by simp [h])
  · exact .inr ⟨_, by simp [h]; rfl, by omega, by omega⟩

theorem toJobS_eq {js : List Jb} (h0 : js.length ≤ 1048576) : laws_toJobS N js = some (js, ()) := by
  unfold laws_toJobS
  rw [mkOk_of (by omega)]
  refine copy_gen hN (xs := js) (by omega) (K := fun l => some (l, ())) (fun s next e => ?_) (fun s next v g1 g2 g3 g4 g5 => ?_)
  · simp only [e, Int.lt_irrefl, decide_false, cond_false]
  · simp only [g1, decide_true, cond_true, g3, Option.bind_some, laws_toJob, g4, g5]

theorem eqJobS_eq {js : List Jb} (h0 : js.length ≤ 1048576) : laws_eqJobS N js js = some (true, ()) := by
  unfold laws_eqJobS
  rw [show ((List.length js : Int) != (List.length js : Int)) = false by simp, cond_false]
  rw [all_loop hN (xs := js) (by omega) (fun _ => true) (some (false, ())) (some (true, ()))]
  · rw [List.all_eq_true.2 (fun _ _ => rfl)]
    rfl
  · intro s next e
    simp only [e, Int.lt_irrefl, decide_false, cond_false]
  · intro s next v g1 g2 g3 g4
    simp only [g2, decide_true, cond_true, g3, Option.bind_some, laws_eqJob, bne_self_eq_false, cond_false, g4, Bool.not_true]

end

end Go.Proofs.Ytkcdhdnmmpapdaa
