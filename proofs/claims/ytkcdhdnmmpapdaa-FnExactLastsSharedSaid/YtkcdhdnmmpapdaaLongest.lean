/-
  LongestFirst, RatioOf, LastsShared: the plain laws. No condition.
-/
import Derived.Test.YtkcdhdnmmpapdaaLoads
import Derived.Test.YtkcdhdnmmpapdaaSortS
import Derived.Test.YtkcdhdnmmpapdaaSortI
namespace Go.Proofs.Ytkcdhdnmmpapdaa
open Go Go.Proofs.Ytkcdhdnmmpapdaa.Fw
set_option linter.unusedVariables false
set_option linter.unusedSimpArgs false

def timesOk (xs : List Int) : Bool := within 1 24 xs.length && xs.all (within 1 10000)

theorem imin_le {a b c : Int} : c ≤ imin a b ↔ c ≤ a ∧ c ≤ b := by
  unfold imin
  split <;> omega

theorem foldl_imin_le : ∀ (l : List Int) (x : Int), l.foldl imin x ≤ x ∧ ∀ y ∈ l, l.foldl imin x ≤ y
  | [], x => ⟨Int.le_refl _, fun y h => by cases h⟩
  | a :: l, x => by
    obtain ⟨h1, h2⟩ := foldl_imin_le l (imin x a)
    have := imin_le.1 h1
    refine ⟨this.1, fun y hy => ?_⟩
    rcases List.mem_cons.1 hy with rfl | hy
    · exact this.2
    · exact h2 y hy

theorem foldl_imin_mem : ∀ (l : List Int) (x : Int), l.foldl imin x ∈ x :: l
  | [], x => by simp
  | a :: l, x => by
    have := foldl_imin_mem l (imin x a)
    rw [List.foldl_cons]
    rcases List.mem_cons.1 this with h | h
    · rw [h]
      unfold imin
      split <;> simp
    · simp [h]

theorem foldl_imax_in : ∀ (l : List Int) (x lo hi : Int), lo ≤ x ∧ x ≤ hi → (∀ y ∈ l, lo ≤ y ∧ y ≤ hi) → lo ≤ l.foldl imax x ∧ l.foldl imax x ≤ hi
  | [], x, lo, hi, h, _ => h
  | a :: l, x, lo, hi, h, h2 => by
    refine foldl_imax_in l (imax x a) lo hi ?_ (fun y hy => h2 y (by simp [hy]))
    have := h2 a (by simp)
    unfold imax
    split <;> omega

/-- The first of the least ones. -/
def IsFirst (l : List Int) (g n : Nat) : Prop := g < n ∧ (∀ i, i < n → l.getD g 0 ≤ l.getD i 0) ∧ ∀ i, i < g → l.getD g 0 < l.getD i 0

theorem IsFirst.unique {l : List Int} {g g' n : Nat} (h : IsFirst l g n) (h' : IsFirst l g' n) : g = g' := by
  rcases Nat.lt_trichotomy g g' with hlt | rfl | hlt
  · have h1 := h'.2.2 g hlt
    have h2 := h.2.1 g' h'.1
    omega
  · rfl
  · have h1 := h.2.2 g' hlt
    have h2 := h'.2.1 g h.1
    omega

theorem smallLL_of {xs : List (List Int)} (h : Wf (.sl (.sl (.int .i64))) xs) : xs.length ≤ 9223372036854775807 ∧ ∀ l ∈ xs, l.length ≤ 9223372036854775807 := ⟨h.1, fun l hl => (h.2 l hl).1⟩

theorem smallL_of {xs : List (List Int)} (h : Wf (.sl (.sl (.int .i64))) xs) : ∀ l ∈ xs, l.length ≤ 9223372036854775807 := fun l hl => (h.2 l hl).1

section
variable {N : Nat} (hN : 9223372036854775808 ≤ N)
include hN

theorem times_spec {xs : List Int} (hx : xs.length ≤ 9223372036854775807) : spec_l02Times N xs = some (timesOk xs, ()) := by
  unfold spec_l02Times
  have hr : cond (decide ((List.length xs : Int) ≥ 1)) (some ((decide ((List.length xs : Int) ≤ 24)), ())) (some (false, ())) = some (within 1 24 xs.length, ()) := by
    unfold within
    cases decide ((List.length xs : Int) ≥ 1) <;> rfl
  rw [hr]
  refine loop_eq (inv := fun s : Int × Unit => 0 ≤ s.1 ∧ s.1 ≤ xs.length ∧ (xs.drop s.1.toNat).all (within 1 10000) = xs.all (within 1 10000)) (μ := fun s => (xs.length - s.1).toNat) (R := fun _ => some (timesOk xs, ())) ?_ N _ ⟨Int.le_refl _, by simp, by simp⟩ (by simp only; omega)
  rintro ⟨i, u⟩ next ⟨h0, h1, h2⟩ hn
  simp only at h0 h1 h2 hn ⊢
  by_cases hlt : i < xs.length
  · have hd : xs.drop i.toNat = xs.getD i.toNat 0 :: xs.drop (i.toNat + 1) := by
      have hl : i.toNat < xs.length := by omega
      rw [List.drop_eq_getElem_cons hl]
      simp [hl]
    rw [decide_eq_true hlt, cond_true, idx_getD ⟨h0, hlt⟩]
    simp only [Option.bind_some, l00In_eq]
    rw [hd, List.all_cons] at h2
    cases hw : within 1 10000 (xs.getD i.toNat 0)
    · rw [hw, Bool.false_and] at h2
      simp only [Bool.not_false, cond_true]
      unfold timesOk
      rw [← h2, Bool.and_false]
    · rw [hw, Bool.true_and] at h2
      simp only [Bool.not_true, cond_false]
      rw [w64_in (by omega)]
      exact hn _ ⟨by simp only; omega, by simp only; omega, by simp only; rw [show (i + 1).toNat = i.toNat + 1 by omega]; exact h2⟩ (by simp only; omega)
  · rw [decide_eq_false hlt, cond_false]
    have : (xs.drop i.toNat).all (within 1 10000) = true := by
      rw [List.drop_eq_nil_of_le (by omega)]
      rfl
    unfold timesOk
    rw [← h2, this, Bool.and_true]

theorem times_impl {xs : List Int} : impl_areTimes N xs = some (timesOk xs, ()) := by
  unfold impl_areTimes timesOk
  by_cases h : xs.length ≤ 4294967296
  · rw [areMany_eq hN h]
    rfl
  · unfold impl_areMany
    rw [decide_eq_true (show (xs.length : Int) ≥ 1 by omega), decide_eq_false (show ¬ (xs.length : Int) ≤ 24 by omega), show within 1 24 (xs.length : Int) = false by unfold within; simp; omega]
    rfl

theorem times_facts {xs : List Int} (h : timesOk xs = true) : 1 ≤ xs.length ∧ xs.length ≤ 24 ∧ ∀ n : Nat, n < xs.length → 1 ≤ xs.getD n 0 ∧ xs.getD n 0 ≤ 10000 := by
  have _ := hN
  unfold timesOk at h
  simp only [Bool.and_eq_true] at h
  have := within_iff.1 h.1
  exact ⟨by omega, by omega, fun n hn => all_getD h.2 hn⟩

theorem firstFree_eq {l : List Int} (h1 : 1 ≤ l.length) (h2 : l.length ≤ 1048576) : ∃ g : Nat, impl_firstFree N l = some ((g : Int), ()) ∧ IsFirst l g l.length := by
  match l, h1 with
  | x :: l, _ =>
    have hmin : slices_Min_int64_int64 N (x :: l) = some (l.foldl imin x, ()) := by
      unfold slices_Min_int64_int64
      rw [show idx (x :: l) 0 = some x from rfl, show decide ((List.length (x :: l) : Int) < 1) = false from by simp; omega]
      simp only [Option.bind_some, cond_false]
      have h := loop_list (ρ := Int × Unit) (σ := Int × Int × Unit) (body := fun (s2 : Int × Int × Unit) next3 =>
        cond (decide (s2.2.1 < (List.length (x :: l) : Int)))
          (Option.bind (idx (x :: l) s2.2.1) fun v4 =>
          next3 ((imin s2.1 v4), (w64 (s2.2.1 + 1)), ()))
          (some (s2.1, ()))) (xs := x :: l) (i := fun s => s.2.1) (f := fun l s => some (l.foldl imin s.1, ())) (inv := fun _ => True) (by omega)
        (fun s next _ h => by simp only [h, Int.lt_irrefl, decide_false, cond_false, List.foldl_nil])
        (fun s next v r _ h1 h2 h3 h4 h5 hn => by
          simp only [h2, decide_true, cond_true, h3, Option.bind_some, h5, List.foldl_cons]
          exact hn _ trivial rfl)
        (N := N) (by omega) (s := (x, 1, ())) trivial (by simp) (by simp; omega)
      exact h
    have hle := foldl_imin_le l x
    have hmem := foldl_imin_mem l x
    generalize hmv : l.foldl imin x = mv at hmin hle hmem
    have hall : ∀ y ∈ x :: l, mv ≤ y := fun y hy => by
      rcases List.mem_cons.1 hy with rfl | hy
      · exact hle.1
      · exact hle.2 y hy
    generalize hL : x :: l = L at *
    have key : ∃ r, slices_Index_int64_int64 N L mv = some r ∧ ∃ g : Nat, r.1 = (g : Int) ∧ IsFirst L g L.length := by
      unfold slices_Index_int64_int64
      refine St.loop_ex (I := fun s : Int × Unit => ∃ i : Nat, i < L.length ∧ s.1 = (i : Int) ∧ (∀ j, j < i → mv < L.getD j 0)) (μ := fun s => (L.length - s.1).toNat) ?_ N _ ⟨0, by have := List.length_pos_of_mem hmem; exact this, rfl, fun j h => absurd h (Nat.not_lt_zero _)⟩ (by simp only; omega)
      rintro ⟨i, u⟩ next ⟨i, hi, rfl, hj⟩ hn
      simp only at hn ⊢
      rw [decide_eq_true (show (i : Int) < (L.length : Int) by omega), cond_true, idx_getD (by omega), Int.toNat_natCast]
      simp only [Option.bind_some]
      by_cases he : mv = L.getD i 0
      · rw [show (mv == L.getD i 0) = true by simpa using he, cond_true]
        refine ⟨_, rfl, i, rfl, hi, fun j hj2 => ?_, fun j hj2 => ?_⟩
        · rw [← he]; exact hall _ (St.getD_memL hj2)
        · rw [← he]; exact hj j hj2
      · rw [show (mv == L.getD i 0) = false by simpa using he, cond_false, w64_in (by omega)]
        have hlt : mv < L.getD i 0 := by
          have := hall _ (St.getD_memL hi)
          omega
        have hi1 : i + 1 < L.length := by
          rcases Nat.lt_or_eq_of_le (show i + 1 ≤ L.length by omega) with h | h
          · exact h
          · obtain ⟨j, hj1⟩ := List.mem_iff_getElem?.1 hmem
            have hjl := (List.getElem?_eq_some_iff.1 hj1).1
            have hg := St.getD_of hj1
            rcases Nat.lt_or_eq_of_le (show j ≤ i by omega) with h' | h'
            · have := hj j h'
              omega
            · subst h'
              omega
        exact hn _ ⟨i + 1, hi1, rfl, fun j hj2 => by
          rcases Nat.lt_or_eq_of_le (show j ≤ i by omega) with h' | h'
          · exact hj j h'
          · subst h'; exact hlt⟩ (by simp only; omega)
    obtain ⟨⟨r, u⟩, k1, g, rfl, k2⟩ := key
    refine ⟨g, ?_, k2⟩
    unfold impl_firstFree
    rw [hmin]
    simp only [Option.bind_some, k1]

theorem plan_eq {xs S : List Int} {m : Int} (ht : timesOk xs = true) (hm : within 1 8 m = true) (hS : S.length = xs.length) (hd : ∀ v ∈ S, 0 ≤ v ∧ v < (xs.length : Int)) :
    ∃ r : List Int × Int × Unit, spec_l02Plan N xs S m = some r ∧ impl_listPlan N xs S m = some r ∧ r.1.length = xs.length ∧ 0 ≤ r.2.1 ∧ r.2.1 ≤ 240000 := by
  obtain ⟨t1, t2, t3⟩ := times_facts hN ht
  obtain ⟨m1, m8⟩ := within_iff.1 hm
  unfold spec_l02Plan impl_listPlan
  rw [mkOk_of (n := (xs.length : Int)) (by omega), mkOk_of (n := m) (by omega)]
  simp only [cond_true]
  refine loop_rel (I := fun (s t : List Int × List Int × Int × Unit) => ∃ (out free : List Int) (i : Nat), s = (out, free, (i : Int), ()) ∧ t = (free, out, (i : Int), ()) ∧ i ≤ S.length ∧ out.length = xs.length ∧ free.length = m.toNat ∧ ∀ j, j < free.length → 0 ≤ free.getD j 0 ∧ free.getD j 0 ≤ 10000 * i)
    (μ := fun s => (S.length - s.2.2.1).toNat) (Q := fun r : List Int × Int × Unit => r.1.length = xs.length ∧ 0 ≤ r.2.1 ∧ r.2.1 ≤ 240000) ?_ N N _ _ ⟨_, _, 0, rfl, rfl, Nat.zero_le _, by simp, by simp, fun j hj => by
      have : ∀ (n j : Nat), (List.replicate n (0 : Int)).getD j 0 = 0 := fun n j => by simp [List.getElem?_replicate]; split <;> rfl
      rw [this]; omega⟩ (by simp only; omega) (by simp only; omega)
  rintro _ _ nA nB ⟨out, free, i, rfl, rfl, hi, ho, hf, hb⟩ hn
  simp only
  by_cases hlt : i < S.length
  · rw [decide_eq_true (show (i : Int) < (S.length : Int) by omega)]
    simp only [cond_true]
    have hdv := hd _ (St.getD_memL hlt)
    have hxv := t3 (S.getD i 0).toNat (by omega)
    obtain ⟨g, hg1, hg2⟩ := firstFree_eq hN (l := free) (by omega) (by omega)
    have hbg := hb g hg2.1
    rw [idx_getD (xs := S) (n := (i : Int)) (by omega), Int.toNat_natCast, hg1]
    simp only [Option.bind_some]
    rw [idx_getD (xs := xs) (n := S.getD i 0) (by omega), St.inB_nat (n := (g : Int)) rfl hg2.1, St.inB_nat (n := S.getD i 0) (i := (S.getD i 0).toNat) (len := out.length) (by omega) (by omega), Int.toNat_natCast, St.get_of hg2.1]
    simp only [Option.bind_some, cond_true]
    have hw : w64 (free.getD g 0 + xs.getD (S.getD i 0).toNat 0) = free.getD g 0 + xs.getD (S.getD i 0).toNat 0 := w64_in (by omega)
    have hw1 : w64 ((i : Int) + 1) = ((i + 1 : Nat) : Int) := by rw [w64_in (by omega)]; rfl
    rw [hw, hw1]
    have hnext := hn (out.set (S.getD i 0).toNat (g : Int), free.set g (free.getD g 0 + xs.getD (S.getD i 0).toNat 0), ((i + 1 : Nat) : Int), ()) (free.set g (free.getD g 0 + xs.getD (S.getD i 0).toNat 0), out.set (S.getD i 0).toNat (g : Int), ((i + 1 : Nat) : Int), ())
      ⟨_, _, i + 1, rfl, rfl, by omega, by simp [ho], by simp [hf], fun j hj => by
        rw [List.length_set] at hj
        rw [List.getD_eq_getElem?_getD, List.getElem?_set]
        by_cases hgj : g = j
        · subst hgj
          rw [if_pos rfl, if_pos hj]
          simp only [Option.getD_some]
          omega
        · rw [if_neg hgj, ← List.getD_eq_getElem?_getD]
          have := hb j hj
          omega⟩ (by simp only; omega)
    obtain ⟨r, r1, r2, r3⟩ := hnext
    refine ⟨r, ?_, r2, r3⟩
    rw [← r1]
    refine loop_eq (inv := fun s : Int × Int × Unit => ∃ a k : Nat, s = ((a : Int), (k : Int), ()) ∧ 1 ≤ k ∧ k ≤ free.length ∧ IsFirst free a k) (μ := fun s => (free.length - s.2.1).toNat)
      (R := fun _ => nA (out.set (S.getD i 0).toNat (g : Int), free.set g (free.getD g 0 + xs.getD (S.getD i 0).toNat 0), ((i + 1 : Nat) : Int), ())) ?_ N _
      ⟨0, 1, rfl, Nat.le_refl _, by omega, by omega, fun j hj => by rw [show j = 0 by omega]; exact Int.le_refl _, fun j hj => absurd hj (Nat.not_lt_zero _)⟩ (by simp only; omega)
    rintro _ next ⟨a, k, rfl, k1, k2, hF⟩ hnx
    simp only
    by_cases hk : k < free.length
    · have ha : a < free.length := by have := hF.1; omega
      rw [decide_eq_true (show (k : Int) < (free.length : Int) by omega), St.inB_nat rfl hk, St.inB_nat rfl ha, Int.toNat_natCast, Int.toNat_natCast, St.get_of hk, St.get_of ha]
      simp only [cond_true, Option.bind_some]
      rw [w64_in (n := (k : Int) + 1) (by omega)]
      by_cases hc : free.getD k 0 < free.getD a 0
      · rw [decide_eq_true hc, cond_true]
        refine hnx _ ⟨k, k + 1, rfl, by omega, by omega, by omega, fun j hj => ?_, fun j hj => ?_⟩ (by simp only; omega)
        · rcases Nat.lt_or_eq_of_le (show j ≤ k by omega) with h | h
          · have := hF.2.1 j h
            omega
          · rw [h]; exact Int.le_refl _
        · have := hF.2.1 j hj
          omega
      · rw [decide_eq_false hc, cond_false]
        refine hnx _ ⟨a, k + 1, rfl, by omega, by omega, by have := hF.1; omega, fun j hj => ?_, hF.2.2⟩ (by simp only; omega)
        rcases Nat.lt_or_eq_of_le (show j ≤ k by omega) with h | h
        · exact hF.2.1 j h
        · rw [h]; omega
    · obtain rfl : k = free.length := by omega
      have hag := hF.unique hg2
      subst hag
      rw [decide_eq_false (show ¬ (free.length : Int) < (free.length : Int) by omega), cond_false, St.inB_nat (n := (a : Int)) rfl hg2.1]
      simp only [cond_true, Int.toNat_natCast]
      rw [St.get_of hg2.1]
      simp only [Option.bind_some]
      rw [hw]
  · obtain rfl : i = S.length := by omega
    rw [decide_eq_false (show ¬ (S.length : Int) < (S.length : Int) by omega)]
    simp only [cond_false]
    match free, hf, hb with
    | [], hf, _ => simp at hf; omega
    | f0 :: fr, hf, hb =>
      rw [l02Greatest_eq hN (by omega), slicesMax_eq hN (by omega)]
      have hin : ∀ y ∈ f0 :: fr, 0 ≤ y ∧ y ≤ 240000 := fun y hy => by
        obtain ⟨j, hj⟩ := List.mem_iff_getElem?.1 hy
        have := hb j (List.getElem?_eq_some_iff.1 hj).1
        rw [St.getD_of hj] at this
        omega
      exact ⟨_, rfl, rfl, ho, foldl_imax_in fr f0 0 240000 (hin f0 (by simp)) (fun y hy => hin y (by simp [hy]))⟩

/-- The order and the plan: the same. -/
theorem longest_eq {xs : List Int} {m : Int} (ht : timesOk xs = true) (hm : within 1 8 m = true) :
    ∃ (a : List Int) (b : Int), spec_l02Longest N xs m = some (a, b, ()) ∧ (Option.bind (impl_sortedBy_impl_LongestFirst_1 N (List.length xs : Int) xs) fun r3 => Option.bind (impl_listPlan N xs r3.1 m) fun r4 => some (r4.1, r4.2.1, true, ())) = some (a, b, true, ()) ∧ a.length = xs.length ∧ 0 ≤ b ∧ b ≤ 240000 := by
  obtain ⟨t1, t2, t3⟩ := times_facts hN ht
  obtain ⟨C, e1, p1, s1⟩ := impl_sortedBy_impl_LongestFirst_1_ok hN (n := xs.length) (by omega) (c := xs) (k := fun v => - xs.getD v.toNat 0) (fun x h1 h2 => by
    have := t3 x.toNat (by omega)
    unfold impl_LongestFirst_1_c0
    rw [idx_getD ⟨h1, h2⟩]
    show some (w64 (0 - xs.getD x.toNat 0), ()) = _
    rw [w64_in (by omega), Int.zero_sub])
  have hS : ∃ S, spec_l02Longest N xs m = (Option.bind (spec_l02Plan N xs S m) fun r14 => some (r14.1, r14.2.1, ())) ∧ S.Perm ((List.range xs.length).map Int.ofNat) ∧ S.Pairwise (St.R (fun v => - xs.getD v.toNat 0)) := by
    unfold spec_l02Longest
    refine St.insertion (F := fun S => (Option.bind (spec_l02Plan N xs S m) fun r14 => some (r14.1, r14.2.1, ()))) (fun S i next hi hl hy hS => ?_) (fun S next hl => ?_) (by omega)
    · simp only
      rw [decide_eq_true (show (i : Int) < (xs.length : Int) by omega), cond_true, appOk_of (by simp; omega), cond_true]
      have := St.bubble (N := N) (D := fun y => 0 ≤ y ∧ y < (xs.length : Int)) (k := fun v => - xs.getD v.toNat 0) (L := 24) (C := S) (x := (i : Int)) (E := fun ys => next (ys, ((i + 1 : Nat) : Int), ()))
        (body := fun (s4 : List Int × Int × Unit) next5 =>
          cond (decide (s4.2.1 > 0))
            (cond (inB s4.2.1 (List.length s4.1))
              (Option.bind (s4.1[(Int.toNat s4.2.1)]?) fun v6 =>
              Option.bind (idx xs v6) fun v7 =>
              cond (inB (w64 (s4.2.1 - 1)) (List.length s4.1))
                (Option.bind (s4.1[(Int.toNat (w64 (s4.2.1 - 1)))]?) fun v8 =>
                Option.bind (idx xs v8) fun v9 =>
                cond (decide (v7 > v9))
                  (cond (inB s4.2.1 (List.length s4.1))
                    (Option.bind (s4.1[(Int.toNat s4.2.1)]?) fun v10 =>
                    cond (inB (w64 (s4.2.1 - 1)) (List.length s4.1))
                      (Option.bind (s4.1[(Int.toNat (w64 (s4.2.1 - 1)))]?) fun v11 =>
                      cond (inB s4.2.1 (List.length s4.1))
                        (let xs12 := (List.set s4.1 (Int.toNat s4.2.1) v11)
                        cond (inB (w64 (s4.2.1 - 1)) (List.length xs12))
                          (let xs13 := (List.set xs12 (Int.toNat (w64 (s4.2.1 - 1))) v10)
                          next5 (xs13, (w64 (s4.2.1 - 1)), ())) none) none) none) none)
                  (next (s4.1, (w64 ((i : Int) + 1)), ()))) none) none)
            (next (s4.1, (w64 ((i : Int) + 1)), ())))
        (fun ys next7 => by
          simp only
          rw [decide_eq_false (by omega), cond_false, w64_in (by omega)]
          rfl)
        (fun P c x t next7 hlen hD => by
          simp only
          have i1 : (((P.length + 1 : Nat) : Nat) : Int) = ((P.length + 1 + ([] : List Int).length : Nat) : Int) := by simp
          have i2 : w64 (((P.length + 1 : Nat) : Int) - 1) = (P.length : Nat) := by rw [w64_in (by simp at hlen; omega)]; omega
          have hll : (P ++ c :: x :: t).length = P.length + 2 + t.length := by simp; omega
          have g1 : (P ++ c :: x :: t)[(((P.length + 1 : Nat) : Int)).toNat]? = some x := by rw [i1, Int.toNat_natCast]; exact St.get_far P [] c x t
          have g2 : (P ++ c :: x :: t)[(w64 (((P.length + 1 : Nat) : Int) - 1)).toNat]? = some c := by rw [i2, Int.toNat_natCast]; exact St.get_mid _ _ _
          have b1 : inB (((P.length + 1 : Nat) : Int)) (P ++ c :: x :: t).length = true := St.inB_nat rfl (by omega)
          have b2 : inB (w64 (((P.length + 1 : Nat) : Int) - 1)) (P ++ c :: x :: t).length = true := St.inB_nat i2 (by omega)
          have hsb := St.swap_block2 (xs := P ++ c :: x :: t) (K := fun ys => next7 (ys, w64 (((P.length + 1 : Nat) : Int) - 1), ())) i1 i2 (by rw [hll]; simp; omega) (by omega)
          rw [b1, b2, g1, g2] at hsb
          simp only [cond_true, Option.bind_some] at hsb
          rw [decide_eq_true (show ((P.length + 1 : Nat) : Int) > 0 by omega), cond_true, b1, b2, g1, g2]
          simp only [cond_true, Option.bind_some]
          rw [idx_getD (hD x (by simp)), idx_getD (hD c (by simp))]
          simp only [Option.bind_some]
          rw [hsb, show St.swp (P ++ c :: x :: t) P.length (P.length + 1 + ([] : List Int).length) = P ++ x :: c :: t from (St.swp_far P [] c x t).2, i2, w64_in (n := (i : Int) + 1) (by omega),
            show decide (xs.getD x.toNat 0 > xs.getD c.toNat 0) = decide (- xs.getD x.toNat 0 < - xs.getD c.toNat 0) from decide_eq_decide.2 (by omega)]
          rfl)
        hS (fun c hc => (hy c hc).2) (fun c hc => by
          rcases List.mem_append.1 hc with hc | hc
          · have := hy c hc
            omega
          · rw [List.mem_singleton.1 hc]
            omega) (by omega) (by omega)
      rw [hl] at this
      exact this
    · simp only
      rw [decide_eq_false (show ¬ (xs.length : Int) < (xs.length : Int) by omega), cond_false]
  obtain ⟨S, e2, p2, s2⟩ := hS
  have hCS := St.sorted_unique (p1.trans p2.symm) s1 s2
  subst hCS
  have hl : C.length = xs.length := by simpa using p1.length_eq
  obtain ⟨⟨a, b, u⟩, g1, g2, g3, g4, g5⟩ := plan_eq hN ht hm hl (fun v hv => mem_rangeI (p1.mem_iff.1 hv))
  refine ⟨a, b, ?_, ?_, g3, g4, g5⟩
  · rw [e2, g1]
    rfl
  · rw [e1]
    simp only [Option.bind_some]
    rw [g2]
    rfl

theorem machines_eq (m : Int) : spec_l02Machines N m = some (within 1 8 m, ()) ∧ impl_areMachines N m = some (within 1 8 m, ()) := by
  have _ := hN
  unfold spec_l02Machines impl_areMachines
  rw [l00In_eq, within_eq]
  exact ⟨rfl, rfl⟩

theorem longestFirst_eq {xs : List Int} {m : Int} (hx : xs.length ≤ 9223372036854775807) :
    ∃ (a : List Int) (b : Int) (c : Bool), spec_LongestFirst N xs m = some (a, b, c, ()) ∧ impl_LongestFirst N xs m = some (a, b, c, ()) ∧ a.length ≤ 24 ∧ 0 ≤ b ∧ b ≤ 240000 ∧ c = (timesOk xs && within 1 8 m) ∧
      (c = true → spec_l02Longest N xs m = some (a, b, ())) := by
  unfold spec_LongestFirst impl_LongestFirst
  rw [times_spec hN hx, times_impl hN, (machines_eq hN m).1, (machines_eq hN m).2]
  simp only [Option.bind_some]
  cases ht : timesOk xs
  · exact ⟨[], 0, false, rfl, rfl, by simp, by omega, by omega, rfl, fun h => by cases h⟩
  · cases hm : within 1 8 m
    · exact ⟨[], 0, false, rfl, rfl, by simp, by omega, by omega, rfl, fun h => by cases h⟩
    · obtain ⟨a, b, h1, h2, h3, h4, h5⟩ := longest_eq hN ht hm
      obtain ⟨t1, t2, t3⟩ := times_facts hN ht
      simp only [Bool.not_true, cond_false, h1, Option.bind_some]
      exact ⟨a, b, true, rfl, h2, by omega, h4, h5, rfl, fun _ => rfl⟩

theorem FnExactLongestFirst_eq (xs : List Int) (m : Int) : laws_FnExactLongestFirst N xs m = some (true, ()) := by
  unfold laws_FnExactLongestFirst
  by_cases hx : (xs.length : Int) > 1048576
  · simp only [hx, decide_true, cond_true]
  · obtain ⟨a, b, c, h1, h2, h3, h4, h5, _⟩ := longestFirst_eq hN (xs := xs) (m := m) (by omega)
    simp only [hx, decide_false, cond_false, toInt64S_eq hN (xs := xs) (by omega), Option.bind_some, h1, h2, eqInt64S_eq hN (xs := xs) (by omega), eqInt64S_eq hN (xs := a) (by omega), BEq.rfl, Bool.not_true, bne_self_eq_false,
      markInt64S_eq hN (xs := xs) (k := 1) (by omega) (by omega), markInt64S_eq hN (xs := a) (k := 1) (by omega) (by omega), heldInt64S_eq hN (xs := a) (k := 1) (by omega) (by omega), counted_len, Nat.beq_refl, cond_true,
      show ¬ ((1 : Int) + xs.length < 0) by omega, show ¬ ((1 : Int) + a.length < 0) by omega]


theorem lasts_eq {ls : List (List Int)} {m k : Int} (hl : ls.length ≤ 1048576) (hx : ∀ l ∈ ls, l.length ≤ 9223372036854775807) :
    ∃ r : List Int × Bool × Unit, spec_LastsShared N ls m k = some r ∧ impl_LastsShared N ls m k = some r ∧ r.1.length ≤ ls.length := by
  unfold spec_LastsShared impl_LastsShared impl_areWorkers
  rw [(machines_eq hN m).1, l00In_eq, within_eq]
  simp only [Option.bind_some]
  by_cases h1 : (ls.length : Int) < 1
  · rw [decide_eq_true h1]
    exact ⟨_, rfl, rfl, by simp⟩
  · rw [decide_eq_false h1]
    by_cases h2 : (ls.length : Int) > 16
    · rw [decide_eq_true h2]
      exact ⟨_, rfl, rfl, by simp⟩
    · rw [decide_eq_false h2]
      simp only [cond_false]
      cases hk : within 1 8 k
      · cases within 1 8 m <;> exact ⟨_, rfl, rfl, by simp⟩
      · simp only [Bool.not_true, cond_false]
        cases hm : within 1 8 m
        · obtain ⟨N', rfl⟩ : ∃ N', N = N' + 1 := ⟨N - 1, by omega⟩
          refine ⟨_, rfl, ?_, by simp⟩
          rw [St.loopN_succ]
          dsimp only
          rw [decide_eq_true (show (0 : Int) < (ls.length : Int) by omega), cond_true, idx_get [] (show 0 ≤ (0 : Int) ∧ (0 : Int) < (ls.length : Int) by omega)]
          simp only [Option.bind_some]
          obtain ⟨a, b, c, _, e2, _, _, _, e6, _⟩ := longestFirst_eq hN (xs := ls.getD (Int.toNat 0) []) (m := m) (hx _ (by
            have hpos : 0 < ls.length := by omega
            have : ls[0]? = some (ls.getD 0 []) := get_getD [] hpos
            exact List.mem_of_getElem? this))
          rw [hm, Bool.and_false] at e6
          subst e6
          rw [e2]
          rfl
        · simp only [Bool.not_true, cond_false]
          refine loop_rel (I := fun (s t : List Int × Int × Unit) => s = t ∧ ∃ i : Nat, i ≤ ls.length ∧ s.2.1 = (i : Int) ∧ s.1.length = i) (μ := fun s => (ls.length - s.2.1).toNat) (Q := fun r : List Int × Bool × Unit => r.1.length ≤ ls.length) ?_ N N _ _ ⟨rfl, 0, Nat.zero_le _, rfl, rfl⟩ (by simp only; omega) (by simp only; omega)
          rintro ⟨acc, i, u⟩ _ nA nB ⟨rfl, i, hi, rfl, hacc⟩ hn
          simp only at hacc hn ⊢
          by_cases hlt : i < ls.length
          · rw [decide_eq_true (show (i : Int) < (ls.length : Int) by omega)]
            simp only [cond_true]
            rw [idx_get [] (show 0 ≤ (i : Int) ∧ (i : Int) < (ls.length : Int) by omega)]
            simp only [Option.bind_some, Int.toNat_natCast]
            have hmem : ls.getD i [] ∈ ls := List.mem_of_getElem? (get_getD [] hlt)
            obtain ⟨a, b, c, e1, e2, e3, e4, e5, e6, e7⟩ := longestFirst_eq hN (xs := ls.getD i []) (m := m) (hx _ hmem)
            rw [times_spec hN (hx _ hmem), e2]
            simp only [Option.bind_some]
            rw [hm, Bool.and_true] at e6
            subst e6
            cases ht : timesOk (ls.getD i [])
            · exact ⟨_, rfl, rfl, by simp⟩
            · rw [e7 ht]
              simp only [Bool.not_true, cond_false, Option.bind_some]
              rw [appOk_of (by simp; omega), cond_true, w64_in (by omega)]
              exact hn _ _ ⟨rfl, i + 1, by omega, rfl, by simp [hacc]⟩ (by simp only; omega)
          · rw [decide_eq_false (show ¬ (i : Int) < (ls.length : Int) by omega)]
            exact ⟨_, rfl, rfl, by simp only; omega⟩

theorem workers_none {ls : List (List Int)} {m k k' : Int} (hk : within 1 8 k = true) (hk' : within 1 8 k' = true) : impl_LastsShared N ls m k = impl_LastsShared N ls m k' := by
  have _ := hN
  unfold impl_LastsShared impl_areWorkers
  rw [within_eq, within_eq, hk, hk']


theorem szS_gen {xs : List Int} {k : Int} (hx : xs.length ≤ 9223372036854775807) (hk : 0 ≤ k ∧ k ≤ 1048576) :
    laws_szInt64S N xs k = some (-1, ()) ∨ (laws_szInt64S N xs k = some (k - xs.length, ()) ∧ (xs.length : Int) ≤ k) := by
  have _ := hN
  unfold laws_szInt64S
  rw [w64_in (n := k - (xs.length : Int)) (by omega)]
  by_cases h : k - (xs.length : Int) < 0
  · exact .inl (by simp [h])
  · exact .inr ⟨by simp [h], by omega⟩

theorem szSS_eq {ls : List (List Int)} (h0 : ls.length ≤ 9223372036854775807) (hx : ∀ l ∈ ls, l.length ≤ 9223372036854775807) :
    laws_szInt64SS N ls 1048576 = some (-1, ()) ∨ ∃ r : Int, laws_szInt64SS N ls 1048576 = some (r, ()) ∧ 0 ≤ r ∧ ls.length ≤ 1048576 ∧ ∀ l ∈ ls, l.length ≤ 1048576 := by
  unfold laws_szInt64SS
  rw [w64_in (n := 1048576 - (ls.length : Int)) (by omega)]
  by_cases h : (1048576 : Int) - (ls.length : Int) < 0
  · exact .inl (by simp [h])
  · simp only [h, decide_false, cond_false]
    refine loop_inv (Q := fun o : Option (Int × Unit) => o = some (-1, ()) ∨ ∃ r, o = some (r, ()) ∧ 0 ≤ r ∧ ls.length ≤ 1048576 ∧ ∀ l ∈ ls, l.length ≤ 1048576)
      (inv := fun s : Int × Int × Unit => 0 ≤ s.1 ∧ s.1 ≤ 1048576 ∧ 0 ≤ s.2.1 ∧ s.2.1 ≤ ls.length ∧ ∀ j : Nat, (j : Int) < s.2.1 → (ls.getD j []).length ≤ 1048576)
      (μ := fun s => (ls.length - s.2.1).toNat) ?_ N _ ⟨by simp only; omega, by simp only; omega, Int.le_refl _, by simp only; omega, fun j hj => by simp only at hj; omega⟩ (by simp only; omega)
    rintro ⟨a, i, u⟩ next ⟨h1, h2, h3, h4, h5⟩ hn
    simp only at h1 h2 h3 h4 h5 ⊢
    by_cases hi : i < (ls.length : Int)
    · have hlt : i.toNat < ls.length := by omega
      simp only [hi, decide_true, cond_true, idx_get [] ⟨h3, hi⟩, Option.bind_some]
      rcases szS_gen hN (xs := ls.getD i.toNat []) (k := a) (hx _ (List.mem_of_getElem? (get_getD [] hlt))) ⟨h1, h2⟩ with e | ⟨e, g1⟩
      · exact .inl (by rw [e]; rfl)
      · simp only [e, Option.bind_some, show decide (a - ((ls.getD i.toNat []).length : Int) < 0) = false from decide_eq_false (by omega), cond_false, w64_in (n := i + 1) (by omega)]
        refine hn _ ⟨by simp only; omega, by simp only; omega, by simp only; omega, by simp only; omega, fun j hj => ?_⟩ (by simp only; omega)
        simp only at hj
        by_cases hj2 : j = i.toNat
        · subst hj2
          omega
        · exact h5 j (by omega)
    · simp only [hi, decide_false, cond_false]
      refine .inr ⟨a, rfl, h1, by omega, fun t ht => ?_⟩
      obtain ⟨j, hj, rfl⟩ := List.getElem_of_mem ht
      have := h5 j (by omega)
      simpa [hj] using this

theorem toSS_eq {ls : List (List Int)} (h0 : ls.length ≤ 1048576) (h : ∀ l ∈ ls, l.length ≤ 1048576) : laws_toInt64SS N ls = some (ls, ()) := by
  unfold laws_toInt64SS
  rw [mkOk_of (by omega)]
  refine copy_gen hN (xs := ls) (by omega) (K := fun l => some (l, ())) (fun s next e => ?_) (fun s next v g1 g2 g3 g4 g5 => ?_)
  · simp only [e, Int.lt_irrefl, decide_false, cond_false]
  · have := h v g2
    simp only [g1, decide_true, cond_true, g3, Option.bind_some, toInt64S_eq hN (xs := v) (by omega), g4, g5]

theorem eqSS_eq {ls : List (List Int)} (h0 : ls.length ≤ 1048576) (h : ∀ l ∈ ls, l.length ≤ 1048576) : laws_eqInt64SS N ls ls = some (true, ()) := by
  unfold laws_eqInt64SS
  rw [show ((List.length ls : Int) != (List.length ls : Int)) = false by simp, cond_false]
  rw [all_loop hN (xs := ls) (by omega) (fun _ => true) (some (false, ())) (some (true, ()))]
  · rw [List.all_eq_true.2 (fun _ _ => rfl)]
    rfl
  · intro s next e
    simp only [e, Int.lt_irrefl, decide_false, cond_false]
  · intro s next v g1 g2 g3 g4
    have hv : v ∈ ls := by
      rw [show s.1 = ((s.1.toNat : Nat) : Int) by omega, idx_nat] at g3
      exact List.mem_of_getElem? g3
    have := h v hv
    simp only [g2, decide_true, cond_true, g3, Option.bind_some, eqInt64S_eq hN (xs := v) (by omega), g4, Bool.not_true, cond_false]

theorem FnExactLastsShared_eq (ls : List (List Int)) (m k : Int) (hx : ls.length ≤ 9223372036854775807 ∧ ∀ l ∈ ls, l.length ≤ 9223372036854775807) : laws_FnExactLastsShared N ls m k = some (true, ()) := by
  unfold laws_FnExactLastsShared
  rcases szSS_eq hN hx.1 hx.2 with e | ⟨r, e, h1, h2, h3⟩
  · rw [e]
    rfl
  · obtain ⟨⟨a, b, u⟩, g1, g2, g3⟩ := lasts_eq hN (ls := ls) (m := m) (k := k) h2 (fun l hl => by have := h3 l hl; omega)
    have hnn := listsLen_nonneg ls
    have hle := listsLen_le ls h3
    have hm : laws_markInt64SS_d ls 1 = some (1 + listsLen ls) := by
      unfold laws_markInt64SS_d
      rw [decide_eq_true (show (0 : Int) ≤ 1 by omega), decide_eq_true (show 1 + listsLen ls ≤ 4611686018427387904 by omega), decide_eq_true (show ls.length ≤ 4611686018427387904 by omega)]
      rfl
    simp only at g3
    simp only [e, Option.bind_some, decide_eq_false (show ¬ r < 0 by omega), cond_false, toSS_eq hN h2 h3, g1, g2, eqSS_eq hN h2 h3, eqInt64S_eq hN (xs := a) (by omega), BEq.rfl, Bool.not_true, bne_self_eq_false, hm, decide_eq_false (show ¬ (1 + listsLen ls < 0) by omega),
      markInt64S_eq hN (xs := a) (k := 1) (by omega) (by omega), heldInt64S_eq hN (xs := a) (k := 1) (by omega) (by omega), counted_len, Nat.beq_refl, cond_true, decide_eq_false (show ¬ ((1 : Int) + a.length < 0) by omega)]

end

end Go.Proofs.Ytkcdhdnmmpapdaa
