/-
  Projects: the laws SlackOf, FreeSlackOf, LevelPlan, LongestWay. No condition.
-/
import Derived.Test.YtobgddikninjpaaProj2
namespace Go.Proofs.Ytobgddikninjpaa
open Go Go.Proofs.Ytobgddikninjpaa.Fw
set_option linter.unusedVariables false
set_option linter.unusedSimpArgs false

theorem foldmax_at {α : Type} (f : α → Int) : ∀ (l : List α) (m : Int), l.foldl (fun a k => imax a (f k)) m = m ∨ ∃ k ∈ l, f k = l.foldl (fun a k => imax a (f k)) m
  | [], m => .inl rfl
  | x :: l, m => by
    rw [List.foldl_cons]
    rcases foldmax_at f l (imax m (f x)) with h | ⟨k, hk, h⟩
    · rw [h]
      unfold imax
      split
      · exact .inr ⟨x, List.mem_cons_self, rfl⟩
      · exact .inl rfl
    · exact .inr ⟨k, List.mem_cons_of_mem _ hk, h⟩

theorem take_set {xs : List Int} {i : Nat} {v : Int} (hi : i < xs.length) : (xs.set i v).take (i + 1) = xs.take i ++ [v] := by
  rw [List.take_add_one, List.getElem?_set, if_pos rfl, if_pos hi, List.take_set, List.set_eq_of_length_le (by rw [List.length_take]; omega)]
  rfl

section
variable {N : Nat} (hN : 9223372036854775808 ≤ N)
include hN

theorem slack_eq {xs : List Tk} (h : Small 1048576 xs) (ht : tasksOk xs = true) : ∃ l, spec_l03Slack N xs = some (l, ()) ∧ impl_slack N xs = some (l, ()) ∧ l.length = xs.length := by
  unfold spec_l03Slack impl_slack
  obtain ⟨es, e1, e2, e3, e4⟩ := early_eq hN h ht
  obtain ⟨ls, d1, d2, d3⟩ := late_eq hN h ht (e := endW xs es)
  have hl := h.1
  have fin : ∀ {A B : Option (List Int × Unit)}, (∃ r, A = some r ∧ B = some r ∧ r.1.length = xs.length) → ∃ g, A = some (g, ()) ∧ B = some (g, ()) ∧ g.length = xs.length := by
    rintro A B ⟨⟨g, u⟩, h1, h2, h3⟩
    exact ⟨g, h1, h2, h3⟩
  simp only [e1, e2, Option.bind_some, l03End_eq hN (xs := xs) (by omega) e3, lastEnd_eq hN (xs := xs) (by omega) e3, d1, d2]
  refine fin (loop_rel (I := fun s t : List Int × Int × Unit => s.2.1 = t.2.1 ∧ 0 ≤ s.2.1 ∧ s.2.1 ≤ ls.length ∧ t.1.length = ls.length ∧ s.1 = t.1.take s.2.1.toNat ∧ t.1.drop s.2.1.toNat = ls.drop s.2.1.toNat) (μ := fun s => (ls.length - s.2.1).toNat) (Q := fun r : List Int × Unit => r.1.length = xs.length) ?_ N N _ _
    ⟨rfl, Int.le_refl _, by simp only; omega, rfl, by simp, rfl⟩ (by simp only; omega) (by simp only; omega))
  rintro ⟨a, i, u⟩ ⟨b, i', u'⟩ nA nB ⟨hi', h1, h2, h3, h4, h5⟩ hn
  simp only at hi' h1 h2 h3 h4 h5 ⊢
  subst hi'
  by_cases hi : i < (ls.length : Int)
  · have hlt : i.toNat < ls.length := by omega
    have hg : b.getD i.toNat 0 = ls.getD i.toNat 0 := by
      have := congrArg (fun l => l.getD 0 0) h5
      simpa [List.getD_eq_getElem?_getD, List.getElem?_drop] using this
    have hla : a.length = i.toNat := by rw [h4, List.length_take]; omega
    simp only [hi, decide_true, cond_true, inB_of (n := i) (len := ls.length) (by omega), inB_of (n := i) (len := es.length) (by omega), inB_of (n := i) (len := b.length) (by omega), get_getD 0 (xs := ls) (n := i.toNat) (by omega), get_getD 0 (xs := es) (n := i.toNat) (by omega),
      get_getD 0 (xs := b) (n := i.toNat) (by omega), Option.bind_some, w64_in (n := i + 1) (by omega), hg, appOk_of (n := a.length) (m := ([w64 (ls.getD i.toNat 0 - es.getD i.toNat 0)] : List Int).length) (by simp; omega)]
    refine hn _ _ ⟨rfl, by simp only; omega, by simp only; omega, by simp only [List.length_set]; exact h3, ?_, ?_⟩ (by simp only; omega)
    · simp only
      rw [show (i + 1).toNat = i.toNat + 1 by omega, take_set (by omega), ← h4]
    · simp only
      rw [show (i + 1).toNat = i.toNat + 1 by omega, List.drop_set_of_lt (by omega), ← List.drop_drop, ← List.drop_drop, h5]
  · simp only [hi, decide_false, cond_false, h3]
    rw [List.take_of_length_le (by omega)] at h4
    subst h4
    exact ⟨_, rfl, rfl, by simp only; omega⟩

theorem SlackOf_law {xs : List Tk} (h : Small 1048576 xs) : ∃ l b, spec_SlackOf N xs = some (l, b, ()) ∧ impl_SlackOf N xs = some (l, b, ()) ∧ l.length ≤ 1048576 := by
  unfold spec_SlackOf impl_SlackOf
  simp only [l03Are_eq hN h, AreTasks_eq hN h, Option.bind_some]
  cases ht : tasksOk xs
  · exact ⟨[], false, rfl, rfl, by simp⟩
  obtain ⟨l, e1, e2, e3⟩ := slack_eq hN h ht
  have hl := h.1
  simp only [Bool.not_true, cond_false, e1, e2, Option.bind_some]
  exact ⟨l, true, rfl, rfl, by omega⟩

theorem FnExactSlackOf_eq (xs : List Tk) (hx : Small 9223372036854775807 xs) : laws_FnExactSlackOf N xs = some (true, ()) := by
  unfold laws_FnExactSlackOf
  rcases szTaskS_eq hN (k := 1048576) hx (by omega) with e | ⟨r, e, h1, h2, h3⟩
  · simp [e]
  obtain ⟨a0, a1, e1, e2, l_a0⟩ := SlackOf_law hN h3
  simp only [e, Option.bind_some, show decide (r < 0) = false from by simp; omega, cond_false, toTaskS_eq hN h3, e1, e2, eqTaskS_eq hN h3, bne_self_eq_false, BEq.rfl, Bool.not_true, markTS_eq h3, Nat.beq_refl, cond_true, decide_eq_false (show ¬ ((1 : Int) + tksLen xs < 0) by have := tksLen_nonneg xs; omega), eqInt64S_eq hN (xs := a0) (by omega), markInt64S_eq hN (xs := a0) (k := 1) (by omega) (by omega), heldInt64S_eq hN (xs := a0) (k := 1) (by omega) (by omega), decide_eq_false (show ¬ ((1 + a0.length : Int) < 0) by omega), counted_len]

theorem FreeSlackOf_law {xs : List Tk} (h : Small 1048576 xs) : ∃ l b, spec_FreeSlackOf N xs = some (l, b, ()) ∧ impl_FreeSlackOf N xs = some (l, b, ()) ∧ l.length ≤ 1048576 := by
  unfold spec_FreeSlackOf impl_FreeSlackOf impl_EarlyStarts
  simp only [l03Are_eq hN h, AreTasks_eq hN h, Option.bind_some]
  cases ht : tasksOk xs
  · exact ⟨[], false, rfl, rfl, by simp⟩
  obtain ⟨es, e1, e2, e3, e4⟩ := early_eq hN h ht
  have hl := h.1
  simp only [Bool.not_true, cond_false, e1, e2, Option.bind_some, l03End_eq hN (xs := xs) (by omega) e3, lastEnd_eq hN (xs := xs) (by omega) e3]
  refine fin_lb (Q := fun l => l.length ≤ 1048576) (loop_rel (I := fun s t : List Int × Int × Unit => s = t ∧ 0 ≤ s.2.1 ∧ s.2.1 ≤ xs.length ∧ (s.1.length : Int) = s.2.1) (μ := fun s => (xs.length - s.2.1).toNat) (Q := fun r : List Int × Bool × Unit => r.1.length ≤ 1048576) ?_ N N _ _ ⟨rfl, Int.le_refl _, by simp only; omega, rfl⟩ (by simp only; omega) (by simp only; omega))
  rintro ⟨a, i, u⟩ _ nA nB ⟨rfl, h1, h2, h3⟩ hn
  simp only at h1 h2 h3 ⊢
  by_cases hi : i < (xs.length : Int)
  · obtain ⟨k, rfl⟩ : ∃ k : Nat, i = (k : Int) := ⟨i.toNat, by omega⟩
    have hk : k < xs.length := by omega
    obtain ⟨g, g1, g2, _⟩ := latest_eq hN h ht e3 hk (e := endW xs es)
    simp only [hi, decide_true, cond_true, g1, g2, Option.bind_some, inB_of (n := (k : Int)) (len := es.length) (by omega), get_getD 0 (xs := es) (n := Int.toNat (k : Int)) (by omega), appOk_of (n := a.length) (m := ([w64 (g - es.getD (Int.toNat (k : Int)) 0)] : List Int).length) (by simp; omega), w64_in (n := (k : Int) + 1) (by omega)]
    exact hn _ _ ⟨rfl, by simp only; omega, by simp only; omega, by simp; omega⟩ (by simp only; omega)
  · simp only [hi, decide_false, cond_false]
    exact ⟨_, rfl, rfl, by simp only; omega⟩

theorem FnExactFreeSlackOf_eq (xs : List Tk) (hx : Small 9223372036854775807 xs) : laws_FnExactFreeSlackOf N xs = some (true, ()) := by
  unfold laws_FnExactFreeSlackOf
  rcases szTaskS_eq hN (k := 1048576) hx (by omega) with e | ⟨r, e, h1, h2, h3⟩
  · simp [e]
  obtain ⟨a0, a1, e1, e2, l_a0⟩ := FreeSlackOf_law hN h3
  simp only [e, Option.bind_some, show decide (r < 0) = false from by simp; omega, cond_false, toTaskS_eq hN h3, e1, e2, eqTaskS_eq hN h3, bne_self_eq_false, BEq.rfl, Bool.not_true, markTS_eq h3, Nat.beq_refl, cond_true, decide_eq_false (show ¬ ((1 : Int) + tksLen xs < 0) by have := tksLen_nonneg xs; omega), eqInt64S_eq hN (xs := a0) (by omega), markInt64S_eq hN (xs := a0) (k := 1) (by omega) (by omega), heldInt64S_eq hN (xs := a0) (k := 1) (by omega) (by omega), decide_eq_false (show ¬ ((1 + a0.length : Int) < 0) by omega), counted_len]

theorem squares_eq {xs : List Tk} {st : List Int} (ht : tasksOk xs = true) (hl : st.length = xs.length) (hb : ∀ k, k < xs.length → 0 ≤ st.getD k 0 ∧ st.getD k 0 ≤ 1000000) :
    ∃ q, spec_l03Squares N xs st = some (q, ()) ∧ impl_squares N xs st = some (q, ()) := by
  unfold spec_l03Squares impl_squares
  obtain ⟨us, e1, e2, e3, e4⟩ := use_eq hN ht hl hb
  obtain ⟨f1, f2, f3⟩ := task_facts ht
  have hE : endW xs st ≤ 1000100 := end_le (by omega) (fun k hk => by
    have := hb k hk
    have := f3 k hk
    rw [w64_in (by omega)]
    omega)
  simp only [e1, e2, Option.bind_some]
  refine ⟨us.foldl (fun a v => w64 (a + (w64 (v * v)))) 0, ?_, ?_⟩
  · exact loop_list (xs := us) (i := fun s : Int × Int × Unit => s.2.1) (f := fun l s => some (l.foldl (fun a v => w64 (a + (w64 (v * v)))) s.1, ())) (inv := fun _ => True) (by omega)
      (fun s next _ h => by simp only [h, Int.lt_irrefl, decide_false, cond_false, List.foldl_nil])
      (fun s next v r _ h1 h2 h3 h4 h5 hn => by
        have h6 : us[s.2.1.toNat]? = some v := by
          rw [show s.2.1 = ((s.2.1.toNat : Nat) : Int) by omega, idx_nat] at h3
          exact h3
        simp only [h2, decide_true, cond_true, inB_of ⟨h1, h2⟩, h6, Option.bind_some, h5, List.foldl_cons]
        exact hn _ trivial rfl)
      (by omega) (s := (0, 0, ())) trivial (Int.le_refl _) (by simp only; omega)
  · exact loop_list (xs := us) (i := fun s : Int × Int × Unit => s.2.1) (f := fun l s => some (l.foldl (fun a v => w64 (a + (w64 (v * v)))) s.1, ())) (inv := fun _ => True) (by omega)
      (fun s next _ h => by simp only [h, Int.lt_irrefl, decide_false, cond_false, List.foldl_nil])
      (fun s next v r _ h1 h2 h3 h4 h5 hn => by
        have h6 : us[s.2.1.toNat]? = some v := by
          rw [show s.2.1 = ((s.2.1.toNat : Nat) : Int) by omega, idx_nat] at h3
          exact h3
        simp only [h2, decide_true, cond_true, inB_of ⟨h1, h2⟩, h6, Option.bind_some, h5, List.foldl_cons]
        exact hn _ trivial rfl)
      (by omega) (s := (0, 0, ())) trivial (Int.le_refl _) (by simp only; omega)

theorem LevelPlan_law {xs : List Tk} {en ro : Int} (h : Small 1048576 xs) : ∃ l i b, spec_LevelPlan N xs en ro = some (l, i, b, ()) ∧ impl_LevelPlan N xs en ro = some (l, i, b, ()) ∧ l.length ≤ 1048576 := by
  unfold spec_LevelPlan impl_LevelPlan impl_EarlyStarts
  simp only [l03Are_eq hN h, AreTasks_eq hN h, Option.bind_some, l00In_eq, within_eq]
  cases ht : tasksOk xs
  · exact ⟨[], 0, false, rfl, rfl, by simp⟩
  obtain ⟨es, e1, e2, e3, e4⟩ := early_eq hN h ht
  obtain ⟨f1, f2, f3⟩ := task_facts ht
  have hl := h.1
  have hE0 := end_nonneg (xs := xs) (st := es)
  simp only [Bool.not_true, cond_false, e1, e2, Option.bind_some, l03End_eq hN (xs := xs) (by omega) e3, lastEnd_eq hN (xs := xs) (by omega) e3]
  by_cases hen : endW xs es ≤ en ∧ en ≤ 400
  · rw [show within 0 400 en = true from within_iff.2 (by omega), show within (endW xs es) 400 en = true from within_iff.2 hen, decide_eq_false (show ¬ endW xs es > en by omega)]
    cases hr : within 0 8 ro
    · exact ⟨[], 0, false, rfl, rfl, by simp⟩
    have hr := within_iff.1 hr
    simp only [Bool.not_true, cond_false]
    refine fin_lib (Q := fun l => l.length ≤ 1048576) (loop_rel (I := fun (s : Int × List Int × Unit) (t : List Int × Int × Unit) => s.2.1 = t.1 ∧ s.1 = ro - t.2.1 ∧ 0 ≤ t.2.1 ∧ t.2.1 ≤ ro ∧ t.1.length = xs.length ∧ ∀ j, 0 ≤ t.1.getD j 0 ∧ t.1.getD j 0 ≤ 4000) (μ := fun s => s.1.toNat)
      (Q := fun r : List Int × Int × Bool × Unit => r.1.length ≤ 1048576) ?_ N N _ _ ⟨rfl, by simp only; omega, Int.le_refl _, by simp only; omega, e3, fun j => ?_⟩ (by simp only; omega) (by simp only; omega))
    · rintro ⟨s1, s2, u⟩ ⟨a, i, u'⟩ nA nB ⟨q1, q2, h1, h2, h3, h4⟩ hn
      simp only at q1 q2 h1 h2 h3 h4 ⊢
      subst q1 q2
      by_cases hi : i < ro
      · rw [decide_eq_true hi, decide_eq_true (show ro - i > 0 by omega), cond_true, cond_true]
        refine loop_rel (I := fun s t : List Int × Int × Unit => s = t ∧ -1 ≤ s.2.1 ∧ s.2.1 < xs.length ∧ s.1.length = xs.length ∧ ∀ j, 0 ≤ s.1.getD j 0 ∧ s.1.getD j 0 ≤ 4000) (μ := fun s => (s.2.1 + 1).toNat) (Q := fun r : List Int × Int × Bool × Unit => r.1.length ≤ 1048576) ?_ N N _ _
          ⟨rfl, by simp only; rw [w64_in (by omega)]; omega, by simp only; rw [w64_in (by omega)]; omega, h3, h4⟩ (by simp only; rw [w64_in (by omega)]; omega) (by simp only; rw [w64_in (by omega)]; omega)
        rintro ⟨b, j, u⟩ _ mA mB ⟨rfl, g1, g2, g3, g4⟩ hm
        simp only at g1 g2 g3 g4 ⊢
        by_cases hj : j ≥ 0
        · obtain ⟨k, rfl⟩ : ∃ k : Nat, j = (k : Int) := ⟨j.toNat, by omega⟩
          have hk : k < xs.length := by omega
          obtain ⟨g, t1, t2, t3⟩ := latest_eq hN h ht g3 hk (e := en)
          have hlow : 0 ≤ leastW xs b k := (foldmax_ge (fun q => w64 (w64 (b.getD ((xs.getD k NL).2.2.1.getD q 0).toNat 0 + (xs.getD ((xs.getD k NL).2.2.1.getD q 0).toNat NL).1) + (xs.getD k NL).2.2.2.getD q 0)) (List.range (xs.getD k NL).2.2.1.length) 0).1
          have hfk := f3 k hk
          rw [w64_in (n := en - (xs.getD k NL).1) (by omega)] at t3
          have hg4 := g4 k
          simp only [hj, decide_true, cond_true, l03Least_eq hN h ht g3 hk, earliest_eq hN h ht g3 hk, t1, t2, Option.bind_some, inB_of (n := (k : Int)) (len := b.length) (by omega), get_getD 0 (xs := b) (n := Int.toNat (k : Int)) (by omega), w64_in (n := (k : Int) - 1) (by omega)]
          refine loop_rel (I := fun s t : List Int × Int × Int × Int × Unit => s = t ∧ s.1.length = xs.length ∧ (0 ≤ s.2.1 ∧ s.2.1 ≤ 4000) ∧ 0 ≤ s.2.2.2.1 ∧ ∀ j, 0 ≤ s.1.getD j 0 ∧ s.1.getD j 0 ≤ 4000) (μ := fun s => (g + 1 - s.2.2.2.1).toNat) (Q := fun r : List Int × Int × Bool × Unit => r.1.length ≤ 1048576) ?_ N N _ _
            ⟨rfl, g3, by simpa using hg4, hlow, g4⟩ (by simp only; omega) (by simp only; omega)
          rintro ⟨d, bs, ls, t, u⟩ _ lA lB ⟨rfl, k1, k2, k3, k4⟩ hk'
          simp only at k1 k2 k3 k4 ⊢
          by_cases hlt : t ≤ g
          · have hset : ∀ j, 0 ≤ (d.set k t).getD j 0 ∧ (d.set k t).getD j 0 ≤ 4000 := fun j => by
              rw [getD_set (by omega)]
              split
              · omega
              · exact k4 j
            obtain ⟨q, r1, r2⟩ := squares_eq hN ht (st := d.set k t) (by rw [List.length_set]; exact k1) (fun j _ => by have := hset j; omega)
            simp only [hlt, decide_true, cond_true, inB_of (n := (k : Int)) (len := d.length) (by omega), Int.toNat_natCast, r1, r2, Option.bind_some, w64_in (n := t + 1) (by omega)]
            cases decide (ls < 0)
            · cases decide (q ≤ ls)
              · exact hk' _ _ ⟨rfl, by simp only [List.length_set]; exact k1, k2, by simp only; omega, hset⟩ (by simp only; omega)
              · exact hk' _ _ ⟨rfl, by simp only [List.length_set]; exact k1, by simp only; omega, by simp only; omega, hset⟩ (by simp only; omega)
            · exact hk' _ _ ⟨rfl, by simp only [List.length_set]; exact k1, by simp only; omega, by simp only; omega, hset⟩ (by simp only; omega)
          · simp only [hlt, decide_false, cond_false, inB_of (n := (k : Int)) (len := d.length) (by omega), cond_true, Int.toNat_natCast]
            refine hm _ _ ⟨rfl, by simp only; omega, by simp only; omega, by simp only [List.length_set]; exact k1, fun j => ?_⟩ (by simp only; omega)
            simp only
            rw [getD_set (by omega)]
            split
            · exact k2
            · exact k4 j
        · simp only [hj, decide_false, cond_false, w64_in (n := ro - i - 1) (by omega), w64_in (n := i + 1) (by omega)]
          exact hn _ _ ⟨rfl, by simp only; omega, by simp only; omega, by simp only; omega, g3, g4⟩ (by simp only; omega)
      · rw [decide_eq_false hi, decide_eq_false (show ¬ ro - i > 0 by omega), cond_false, cond_false]
        obtain ⟨q, r1, r2⟩ := squares_eq hN ht (st := s2) h3 (fun j _ => by have := h4 j; omega)
        simp only [r1, r2, Option.bind_some]
        exact ⟨_, rfl, rfl, by simp only; omega⟩
    · have := e4 j
      simp only
      by_cases hj : j < es.length
      · omega
      · rw [List.getD_eq_getElem?_getD, List.getElem?_eq_none (by omega)]
        simp
  · rw [show within (endW xs es) 400 en = false from by
      cases hw : within (endW xs es) 400 en
      · rfl
      · exact absurd (within_iff.1 hw) hen]
    refine ⟨[], 0, false, ?_, rfl, by simp⟩
    cases hw : within 0 400 en
    · rfl
    have hw := within_iff.1 hw
    rw [decide_eq_true (show endW xs es > en by omega)]
    cases within 0 8 ro <;> rfl

theorem FnExactLevelPlan_eq (xs : List Tk) (en : Int) (ro : Int) (hx : Small 9223372036854775807 xs) : laws_FnExactLevelPlan N xs en ro = some (true, ()) := by
  unfold laws_FnExactLevelPlan
  rcases szTaskS_eq hN (k := 1048576) hx (by omega) with e | ⟨r, e, h1, h2, h3⟩
  · simp [e]
  obtain ⟨a0, a1, a2, e1, e2, l_a0⟩ := LevelPlan_law hN h3 (en := en) (ro := ro)
  simp only [e, Option.bind_some, show decide (r < 0) = false from by simp; omega, cond_false, toTaskS_eq hN h3, e1, e2, eqTaskS_eq hN h3, bne_self_eq_false, BEq.rfl, Bool.not_true, markTS_eq h3, Nat.beq_refl, cond_true, decide_eq_false (show ¬ ((1 : Int) + tksLen xs < 0) by have := tksLen_nonneg xs; omega), eqInt64S_eq hN (xs := a0) (by omega), markInt64S_eq hN (xs := a0) (k := 1) (by omega) (by omega), heldInt64S_eq hN (xs := a0) (k := 1) (by omega) (by omega), decide_eq_false (show ¬ ((1 + a0.length : Int) < 0) by omega), counted_len]
end

end Go.Proofs.Ytobgddikninjpaa
