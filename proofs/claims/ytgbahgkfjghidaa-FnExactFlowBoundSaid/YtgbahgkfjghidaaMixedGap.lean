/-
  MixedGap: the plain law. No condition.
-/
import Derived.Test.YtgbahgkfjghidaaFun
import Derived.Test.YtgbahgkfjghidaaFwU
namespace Go.Proofs.Ytgbahgkfjghidaa
open Go Go.Proofs.Ytgbahgkfjghidaa.Fw
set_option linter.unusedVariables false
set_option linter.unusedSimpArgs false

def within (lo hi v : Int) : Bool := decide (v ≥ lo) && decide (v ≤ hi)

theorem l00In_eq {N : Nat} (v lo hi : Int) : spec_l00In N v lo hi = some (within lo hi v, ()) := by
  unfold spec_l00In within
  cases decide (v ≥ lo) <;> rfl

theorem within_eq {N : Nat} (v lo hi : Int) : impl_within N v lo hi = some (within lo hi v, ()) := by
  unfold impl_within within
  cases decide (v ≥ lo) <;> rfl

theorem l00Max_eq {N : Nat} (x y : Int) : spec_l00Max N x y = some (imax x y, ()) := by
  unfold spec_l00Max imax
  by_cases h : x > y
  · rw [show decide (x > y) = true by simpa using h, if_neg (by omega)]
    rfl
  · rw [show decide (x > y) = false by simpa using h]
    by_cases h2 : y > x
    · rw [if_pos h2]
      rfl
    · rw [if_neg h2, show x = y by omega]
      rfl

theorem imax_assoc (m a b : Int) : imax m (imax a b) = imax (imax m a) b := by
  unfold imax
  split <;> split <;> (try split) <;> (try split) <;> omega

def bump (built : List Int) (v : Int) : List Int := built.set v.toNat (w64 (built.getD v.toNat 0 + 1))

theorem bump_len (b : List Int) (v : Int) : (bump b v).length = b.length := by simp [bump]

section
variable {N : Nat} (hN : 9223372036854775808 ≤ N)
include hN

theorem toInt64S_eq {xs : List Int} (hx : xs.length ≤ 1048576) : laws_toInt64S N xs = some (xs, ()) := by
  unfold laws_toInt64S
  rw [mkOk_of (by omega)]
  exact copy_loop (xs := xs) (by omega) (by omega) (K := fun l => some (l, ()))

theorem eqInt64S_eq {xs : List Int} (hx : xs.length ≤ 1048576) : laws_eqInt64S N xs xs = some (true, ()) := by
  unfold laws_eqInt64S
  rw [show ((List.length xs : Int) != (List.length xs : Int)) = false by simp]
  have h := eq_loop (xs := xs) (ys := xs) (by omega) rfl (N := N) (by omega)
  simpa using h

theorem areWithin_eq {xs : List Int} (hx : xs.length ≤ 1048576) (lo hi : Int) : impl_areWithin N xs lo hi = some (xs.all (within lo hi), ()) := by
  unfold impl_areWithin
  exact loop_list (xs := xs) (i := fun s : Int × Unit => s.1) (f := fun l _ => some (l.all (within lo hi), ())) (inv := fun _ => True) (by omega)
    (fun s next _ h => by simp only [h, Int.lt_irrefl, decide_false, cond_false, List.all_nil])
    (fun s next v r _ h1 h2 h3 h4 h5 hn => by
      simp only [h2, decide_true, cond_true, h3, Option.bind_some, within_eq, h5, List.all_cons]
      cases within lo hi v
      · rfl
      · exact hn _ trivial rfl)
    (by omega) (s := (0, ())) trivial (Int.le_refl _) (by simp only; omega)

theorem areMany_eq {xs : List Int} (hx : xs.length ≤ 1048576) (a b lo hi : Int) : impl_areMany N xs a b lo hi = some (within a b xs.length && xs.all (within lo hi), ()) := by
  unfold impl_areMany
  rw [areWithin_eq hN hx]
  unfold within
  cases decide ((xs.length : Int) ≥ a) <;> cases decide ((xs.length : Int) ≤ b) <;> rfl

theorem l02Sum_eq {xs : List Int} (hx : xs.length ≤ 1048576) : spec_l02Sum N xs = some (xs.foldl (fun a v => w64 (a + v)) 0, ()) := by
  unfold spec_l02Sum
  exact loop_list (xs := xs) (i := fun s : Int × Int × Unit => s.2.1) (f := fun l s => some (l.foldl (fun a v => w64 (a + v)) s.1, ())) (inv := fun _ => True) (by omega)
    (fun s next _ h => by simp only [h, Int.lt_irrefl, decide_false, cond_false, List.foldl_nil])
    (fun s next v r _ h1 h2 h3 h4 h5 hn => by
      simp only [h2, decide_true, cond_true, h3, Option.bind_some, h5, List.foldl_cons]
      exact hn _ trivial rfl)
    (by omega) (s := (0, 0, ())) trivial (Int.le_refl _) (by simp only; omega)

theorem sumOf_eq {xs : List Int} (hx : xs.length ≤ 1048576) : impl_sumOf N xs = some (xs.foldl (fun a v => w64 (a + v)) 0, ()) := l02Sum_eq hN hx

def counts (xs : List Int) : Bool := xs.all (within 0 16) && (within 1 8 xs.length && within 1 64 (xs.foldl (fun a v => w64 (a + v)) 0))

theorem l04Counts_eq {xs : List Int} (hx : xs.length ≤ 1048576) : spec_l04Counts N xs = some (counts xs, ()) := by
  unfold spec_l04Counts counts
  exact loop_list (xs := xs) (i := fun s : Int × Unit => s.1) (f := fun l _ => some (l.all (within 0 16) && (within 1 8 xs.length && within 1 64 (xs.foldl (fun a v => w64 (a + v)) 0)), ())) (inv := fun _ => True) (by omega)
    (fun s next _ h => by
      rw [l02Sum_eq hN hx]
      simp only [h, Int.lt_irrefl, decide_false, cond_false, List.all_nil, Bool.true_and, Option.bind_some, l00In_eq]
      unfold within
      cases decide ((xs.length : Int) ≥ 1) <;> cases decide ((xs.length : Int) ≤ 8) <;> rfl)
    (fun s next v r _ h1 h2 h3 h4 h5 hn => by
      simp only [h2, decide_true, cond_true, h3, Option.bind_some, l00In_eq, h5, List.all_cons]
      cases within 0 16 v
      · rfl
      · exact hn _ trivial rfl)
    (by omega) (s := (0, ())) trivial (Int.le_refl _) (by simp only; omega)

theorem areCounts_eq {xs : List Int} (hx : xs.length ≤ 1048576) : impl_areCounts N xs = some (counts xs, ()) := by
  unfold impl_areCounts counts
  rw [areMany_eq hN hx, sumOf_eq hN hx]
  simp only [Option.bind_some, within_eq]
  cases xs.all (within 0 16) <;> cases within 1 8 xs.length <;> rfl

def diff (k n v b : Int) : Int := w64 (w64 (k * v) - w64 (n * b))

def inner (k n : Int) : List Int → List Int → Int → Int
  | v :: cs, b :: bs, m => inner k n cs bs (imax (imax m (diff k n v b)) (IntKind.wrap .i64 (0 - diff k n v b)))
  | _, _, m => m

/-- The inner loop, with any rule for the greater that agrees. -/
theorem inner_loop {ρ : Type} {cs bs : List Int} (hx : cs.length ≤ 1048576) (hb : bs.length = cs.length) (k n m : Int) (K : Int → Option ρ) {body : (Int × Int × Unit) → ((Int × Int × Unit) → Option ρ) → Option ρ}
    (hbody : ∀ s next, body s next = cond (decide (s.2.1 < (List.length cs : Int)))
      (Option.bind (idx cs s.2.1) fun v13 =>
      cond (inB s.2.1 (List.length bs))
        (Option.bind (bs[(Int.toNat s.2.1)]?) fun v14 =>
        next ((imax (imax s.1 (diff k n v13 v14)) (IntKind.wrap .i64 (0 - diff k n v13 v14))), (w64 (s.2.1 + 1)), ())) none)
      (K s.1)) :
    loopN body N (m, 0, ()) = K (inner k n cs bs m) := by
  have h := loop_list (ρ := ρ) (body := body) (xs := cs) (i := fun s : Int × Int × Unit => s.2.1) (f := fun l s => K (inner k n l (bs.drop s.2.1.toNat) s.1)) (inv := fun _ => True) (by omega)
    (fun s next _ h => by
      rw [hbody]
      simp only [h, Int.lt_irrefl, decide_false, cond_false, inner])
    (fun s next v r _ h1 h2 h3 h4 h5 hn => by
      have hlt : s.2.1.toNat < bs.length := by omega
      have hin : inB s.2.1 (List.length bs) = true := by simp [inB, h1, hb, h2]
      rw [hbody]
      simp only [h2, decide_true, cond_true, h3, Option.bind_some, hin, h5, List.getElem?_eq_getElem hlt]
      rw [List.drop_eq_getElem_cons hlt, hn _ trivial rfl]
      simp only [inner, show (s.2.1 + 1).toNat = s.2.1.toNat + 1 by omega])
    (N := N) (by omega) (s := (m, 0, ())) trivial (Int.le_refl _) (by simp only; omega)
  simpa using h

def fin (cs : List Int) (built : List Int) (m : Int) : Int × Bool × Unit := if built = cs then (m, true, ()) else (0, false, ())

def run (cs : List Int) (n : Int) : List Int → List Int → Int → Int → Int × Bool × Unit
  | [], built, m, _ => fin cs built m
  | v :: r, built, m, k => run cs n r (bump built v) (inner k n cs (bump built v) m) (k + 1)

theorem last_loop {cs bs : List Int} (hx : cs.length ≤ 1048576) (hb : bs.length = cs.length) (m : Int) :
    loopN (fun (s17 : Int × Unit) next18 =>
              cond (decide (s17.1 < (List.length cs : Int)))
                (cond (inB s17.1 (List.length bs))
                  (Option.bind (bs[(Int.toNat s17.1)]?) fun v19 =>
                  Option.bind (idx cs s17.1) fun v20 =>
                  cond (v19 != v20)
                    (some (0, false, ()))
                    (next18 ((w64 (s17.1 + 1)), ()))) none)
                (some (m, true, ()))) N (0, ()) = some (fin cs bs m) := by
  have h := loop_list (ρ := Int × Bool × Unit) (σ := Int × Unit) (body := fun (s17 : Int × Unit) next18 =>
              cond (decide (s17.1 < (List.length cs : Int)))
                (cond (inB s17.1 (List.length bs))
                  (Option.bind (bs[(Int.toNat s17.1)]?) fun v19 =>
                  Option.bind (idx cs s17.1) fun v20 =>
                  cond (v19 != v20)
                    (some (0, false, ()))
                    (next18 ((w64 (s17.1 + 1)), ()))) none)
                (some (m, true, ()))) (xs := cs) (i := fun s => s.1) (f := fun l s => some (fin l (bs.drop s.1.toNat) m)) (inv := fun _ => True) (by omega)
    (fun s next _ h => by
      simp only [h, Int.lt_irrefl, decide_false, cond_false]
      rw [List.drop_eq_nil_of_le (by omega)]
      simp [fin])
    (fun s next v r _ h1 h2 h3 h4 h5 hn => by
      have hlt : s.1.toNat < bs.length := by omega
      have hin : inB s.1 (List.length bs) = true := by simp [inB, h1, hb, h2]
      simp only [h2, decide_true, cond_true, h3, Option.bind_some, hin, h5, List.getElem?_eq_getElem hlt]
      rw [List.drop_eq_getElem_cons hlt]
      by_cases hv : bs[s.1.toNat] = v
      · rw [show (bs[s.1.toNat] != v) = false by simpa using hv, cond_false, hn _ trivial rfl, show (s.1 + 1).toNat = s.1.toNat + 1 by omega]
        simp only [fin, List.cons.injEq, hv, true_and]
      · rw [show (bs[s.1.toNat] != v) = true by simpa using hv, cond_true]
        simp only [fin, List.cons.injEq, hv, false_and, if_false])
    (N := N) (by omega) (s := (0, ())) trivial (Int.le_refl _) (by simp only; omega)
  simpa using h


theorem spec_eq {xs ys : List Int} (h1 : 1 ≤ xs.length) (hx : xs.length ≤ 8) (hy : ys.length ≤ 1048576) (hc : counts xs = true) (hs : (ys.length : Int) = xs.foldl (fun a v => w64 (a + v)) 0) :
    spec_MixedGap N xs ys = some (if ys.all (within 0 (xs.length - 1)) then run xs ys.length ys (List.replicate xs.length 0) 0 1 else (0, false, ())) := by
  unfold spec_MixedGap
  rw [l04Counts_eq hN (by omega), l02Sum_eq hN (by omega), hc, mkOk_of (by omega)]
  simp only [Option.bind_some, Bool.not_true, cond_false, ← hs, bne_self_eq_false, cond_true, w64_in (n := (xs.length : Int) - 1) (by omega)]
  refine (loop_list (xs := ys) (i := fun s : List Int × Int × Int × Unit => s.2.2.1 - 1)
    (f := fun l s => some (if l.all (within 0 (xs.length - 1)) then run xs ys.length l s.1 s.2.1 s.2.2.1 else (0, false, ()))) (inv := fun s => s.1.length = xs.length) (by omega)
    (fun s next hi h => ?_) (fun s next v r hi a1 a2 a3 a4 a5 hn => ?_) (N := N) (by omega) (s := (List.replicate (Int.toNat (xs.length : Int)) 0, 0, 1, ())) (by simp) (by simp) (by simp only; omega)).trans (by simp)
  · have hk : ¬ s.2.2.1 ≤ (ys.length : Int) := by omega
    simp only [hk, decide_false, cond_false, List.all_nil, if_true, run]
    exact last_loop hN (by omega) hi _
  · have hk : s.2.2.1 ≤ (ys.length : Int) := by omega
    simp only [hk, decide_true, cond_true, w64_in (n := s.2.2.1 - 1) (by omega), a3, Option.bind_some, l00In_eq, List.all_cons]
    rcases Bool.eq_false_or_eq_true (within 0 (xs.length - 1) v) with hw | hw
    rotate_left
    · simp [hw]
    · have hw' := hw
      simp only [within, Bool.and_eq_true, decide_eq_true_eq] at hw'
      have hv : v.toNat < s.1.length := by omega
      have hin : inB v s.1.length = true := by simp [inB, hi]; omega
      simp only [hw, Bool.not_true, cond_false, hin, cond_true, List.getElem?_eq_getElem hv, Option.bind_some, Bool.true_and, run]
      have hb : (List.set s.1 v.toNat (w64 (s.1[v.toNat] + 1))) = bump s.1 v := by simp [bump, hv]
      rw [hb]
      refine (inner_loop hN (cs := xs) (bs := bump s.1 v) (by omega) (by rw [bump_len, hi]) s.2.2.1 ys.length s.2.1 (fun m => next (bump s.1 v, m, w64 (s.2.2.1 + 1), ())) (fun t nx => ?_)).trans ?_
      · simp only [l00Max_eq, Option.bind_some, imax_assoc, diff]
      · rw [w64_in (n := s.2.2.1 + 1) (by omega)]
        exact hn _ (by simp only [bump_len, hi]) (by simp only; omega)

theorem impl_eq {xs ys : List Int} (h1 : 1 ≤ xs.length) (hx : xs.length ≤ 8) (hy : ys.length ≤ 1048576) (hc : counts xs = true) (hs : (ys.length : Int) = xs.foldl (fun a v => w64 (a + v)) 0) :
    impl_MixedGap N xs ys = some (if ys.all (within 0 (xs.length - 1)) then run xs ys.length ys (List.replicate xs.length 0) 0 1 else (0, false, ())) := by
  unfold impl_MixedGap
  rw [areCounts_eq hN (by omega), sumOf_eq hN (by omega), hc, areWithin_eq hN hy, mkOk_of (by omega)]
  simp only [Option.bind_some, Bool.not_true, cond_false, ← hs, bne_self_eq_false, cond_true, w64_in (n := (xs.length : Int) - 1) (by omega)]
  cases hall : ys.all (within 0 (xs.length - 1))
  · simp
  · simp only [Bool.not_true, cond_false, if_true]
    refine (loop_list (xs := ys) (i := fun s : List Int × Int × Int × Unit => s.2.2.1)
      (f := fun l s => some (run xs ys.length l s.1 s.2.1 (s.2.2.1 + 1))) (inv := fun s => s.1.length = xs.length) (by omega)
      (fun s next hi h => ?_) (fun s next v r hi a1 a2 a3 a4 a5 hn => ?_) (N := N) (by omega) (s := (List.replicate (Int.toNat (xs.length : Int)) 0, 0, 0, ())) (by simp) (by simp) (by simp only; omega)).trans (by simp)
    · simp only [h, Int.lt_irrefl, decide_false, cond_false, run, fin]
      unfold slices_Equal_int64_int64
      rw [show ((s.1.length : Int) != (xs.length : Int)) = false by simp [hi]]
      have he := eq_loop (xs := s.1) (ys := xs) (by omega) hi.symm (N := N) (by omega)
      simp only [cond_false]
      rw [he]
      by_cases hq : s.1 = xs
      · simp [hq]
      · simp [hq]
    · have hw' : within 0 (xs.length - 1) v = true := List.all_eq_true.1 hall v (List.mem_of_mem_drop (a4 ▸ List.mem_cons_self))
      simp only [within, Bool.and_eq_true, decide_eq_true_eq] at hw'
      have hv : v.toNat < s.1.length := by omega
      have hin : inB v s.1.length = true := by simp [inB, hi]; omega
      simp only [a2, decide_true, cond_true, a3, Option.bind_some, hin, List.getElem?_eq_getElem hv, a5, run]
      have hb : (List.set s.1 v.toNat (w64 (s.1[v.toNat] + 1))) = bump s.1 v := by simp [bump, hv]
      rw [hb]
      refine (inner_loop hN (cs := xs) (bs := bump s.1 v) (by omega) (by rw [bump_len, hi]) (s.2.2.1 + 1) ys.length s.2.1 (fun m => next (bump s.1 v, m, s.2.2.1 + 1, ())) (fun t nx => ?_)).trans ?_
      · simp only [diff]
      · exact hn _ (by simp only [bump_len, hi]) rfl

theorem mixedGap_eq {xs ys : List Int} (hx : xs.length ≤ 1048576) (hy : ys.length ≤ 1048576) : ∃ a b, spec_MixedGap N xs ys = some (a, b, ()) ∧ impl_MixedGap N xs ys = some (a, b, ()) := by
  cases hc : counts xs
  · refine ⟨0, false, ?_, ?_⟩
    · unfold spec_MixedGap
      rw [l04Counts_eq hN hx, hc]
      rfl
    · unfold impl_MixedGap
      rw [areCounts_eq hN hx, hc]
      rfl
  · by_cases hs : (ys.length : Int) = xs.foldl (fun a v => w64 (a + v)) 0
    · have hc' := hc
      simp only [counts, within, Bool.and_eq_true, decide_eq_true_eq] at hc'
      rw [spec_eq hN (by omega) (by omega) hy hc hs, impl_eq hN (by omega) (by omega) hy hc hs]
      exact ⟨_, _, rfl, rfl⟩
    · have hb : ((ys.length : Int) != xs.foldl (fun a v => w64 (a + v)) 0) = true := by simpa using hs
      refine ⟨0, false, ?_, ?_⟩
      · unfold spec_MixedGap
        rw [l04Counts_eq hN hx, hc, l02Sum_eq hN hx]
        simp only [Option.bind_some, Bool.not_true, cond_false, hb, cond_true]
      · unfold impl_MixedGap
        rw [areCounts_eq hN hx, hc, sumOf_eq hN hx]
        simp only [Option.bind_some, Bool.not_true, cond_false, hb, cond_true]

theorem FnExactMixedGap_eq (xs ys : List Int) : laws_FnExactMixedGap N xs ys = some (true, ()) := by
  unfold laws_FnExactMixedGap
  by_cases hx : (xs.length : Int) > 1048576
  · simp only [hx, decide_true, cond_true]
  · by_cases hy : (ys.length : Int) > 1048576
    · simp only [hx, hy, decide_true, decide_false, cond_true, cond_false]
    · obtain ⟨a, b, h1, h2⟩ := mixedGap_eq hN (xs := xs) (ys := ys) (by omega) (by omega)
      simp only [hx, hy, decide_false, cond_false, toInt64S_eq hN (xs := xs) (by omega), toInt64S_eq hN (xs := ys) (by omega), Option.bind_some, h1, h2, eqInt64S_eq hN (xs := xs) (by omega), eqInt64S_eq hN (xs := ys) (by omega), BEq.rfl, Bool.not_true, bne_self_eq_false]
end

end Go.Proofs.Ytgbahgkfjghidaa
