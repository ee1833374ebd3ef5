/-
  impl.AreRoutes: a walk over the parts of a slice. No condition.
-/
import Derived.Test.YtgcmklniacjcfaaRo1
namespace Go.Proofs.Ytgcmklniacjcfaa
open Go Go.RowKit Go.Shelf Go.Proofs.Ytgcmklniacjcfaa.Fw
attribute [local go_sem] Oper.semAt_some
set_option maxRecDepth 100000
set_option linter.unusedVariables false

theorem cell_lt_l {W : World} {b o : Nat} {v : Value} (h : W.cell? ⟨b, o, none⟩ = some v) : b < W.heap.size := by
  rcases Nat.lt_or_ge b W.heap.size with hb | hb
  · exact hb
  · have : W.heap[b]? = none := Array.getElem?_eq_none hb
    simp [World.cell?, this] at h

set_option maxHeartbeats 4000000 in
/-- The parts asked one by one: ok tells of each what impl.isAll says of it. -/
theorem routes_in (m q cap : Nat) (A : Option Addr) (b off : Nat) (hA : q * m ≠ 0 → A = some ⟨b, off, none⟩) (hm : 1 ≤ m) (hlen : q * m ≤ 4294967296) (hcap : q * m ≤ cap) (ok : Nat → Bool) (w : World)
    (hM : ∀ W, Below w.heap.size w W → Calls Try.prog 82 #[.int .i64 (m : Int)] W fun e W' => e = .returned (.bool true) ∧ Below W.heap.size W W')
    (hP : ∀ k, k < q → ∀ W, Below w.heap.size w W → Calls Try.prog 85 #[partV b off m k] W fun e W' => e = .returned (.bool (ok k)) ∧ Below W.heap.size W W') :
    Calls Try.prog 71 #[.slice A (q * m) cap, .int .i64 (m : Int)] w fun e W' => e = .returned (.bool ((List.range q).all ok && (decide (1 ≤ q) && decide (q ≤ 24)))) ∧ Below w.heap.size w W' := by
  refine (callsIn_wide (n := 9)).1 ?_
  refine callsIn_of_wp_marks Try.func71 rfl trivial ?_ rfl
  simp only [Try.ntmps71, List.size_toArray, List.length_cons, List.length_nil, Nat.reduceAdd, Nat.reduceSub, Array.replicate_succ, Array.replicate_zero, List.push_toArray, List.append_toArray, List.nil_append, List.cons_append]
  have c0 := cell_new_l w (.bool false) 4
  have hmod : Int.tmod ((q * m : Nat) : Int) (m : Int) = 0 := by
    rw [Int.natCast_mul]
    exact Int.mul_tmod_left _ _
  gi_wp2_with (refine ⟨trivial, ?_⟩; gi_at_call 82; refine (callsIn_wide.2 (hM _ ((Below.refl _ w).alloc (Nat.le_refl _) _))).mono ?_; rintro e w1 ⟨rfl, hb1⟩)
  have hs1 : w.heap.size + 1 ≤ w1.heap.size := by simpa using hb1.size
  refine ⟨trivial, ?_⟩
  refine (chunk_in Fence.wide _ trivial rfl A (q * m) cap m hm _).mono ?_
  rintro e w2 ⟨rfl, rfl⟩
  dsimp only
  gi_wp2
  have hsz : (w1.alloc (.cells #[.int .i64 0] 3)).heap.size = w1.heap.size + 1 := by simp
  have j0 := cell_new_l w1 (.int .i64 0) 3
  have k1 := cell_new_l (w1.alloc (.cells #[.int .i64 0] 3)) (.slice A (q * m) cap) 22
  have k2 := cell_new_l ((w1.alloc (.cells #[.int .i64 0] 3)).alloc (.cells #[.slice A (q * m) cap] 22)) (.int .i64 m) 3
  simp only [World.size_alloc] at k1 k2
  have hr1 : w1.cell? ⟨w.heap.size, 0, none⟩ = some (.bool false) := (hb1.cell (p := ⟨w.heap.size, 0, none⟩) (by simp)).trans c0.1
  have hf1 : w1.frozen? ⟨w.heap.size, 0, none⟩ = false := by
    have h1 := hb1.block w.heap.size (by simp)
    have h2 := c0.2
    unfold World.frozen? at h2 ⊢
    rw [h1]
    exact h2
  have hB0 : Below w.heap.size w w1 := ((Below.refl _ w).alloc (Nat.le_refl _) _).trans (hb1.mono (by simp))
  have hB1 : Below w.heap.size w (((w1.alloc (.cells #[.int .i64 0] 3)).alloc (.cells #[.slice A (q * m) cap] 22)).alloc (.cells #[.int .i64 m] 3)) := ((hB0.alloc (by omega) _).alloc (by simp; omega) _).alloc (by simp; omega) _
  have hKb : ∀ (W : World) (l : Nat) (o o' : Obj), (((w1.alloc (.cells #[.int .i64 0] 3)).alloc (.cells #[.slice A (q * m) cap] 22)).alloc (.cells #[.int .i64 m] 3)).heap.size ≤ l → W.heap[l]? = some o → o.isCells = false → o.isWalk = false → KpB (w1.heap.size + 1) (w1.heap.size + 1 + 1) W (W.putObj l o') := fun W l o o' hl ho hc hw b' hb o2 v h => by
    refine ((belowK_b (n₀ := w1.heap.size + 1 + 1 + 1) (w := ((w1.alloc (.cells #[.int .i64 0] 3)).alloc (.cells #[.slice A (q * m) cap] 22)).alloc (.cells #[.int .i64 m] 3)) (by simp) W l o o' hl ho hc hw).cell (p := ⟨b', o2, none⟩) ?_).trans h
    rcases hb with rfl | rfl <;> simp
  have hqm : q ≤ q * m := Nat.le_mul_of_pos_right _ hm
  simp only [World.size_alloc]
  refine wpIn_rangeFunc_ownF rfl (by omega) (gf := 90) (lb := #[.pointer (some ⟨w1.heap.size + 1, 0, none⟩), .pointer (some ⟨w1.heap.size + 1 + 1, 0, none⟩)]) rfl trivial (enters_of Try.func90 (by kernel_rfl) rfl)
    (chunk_stops Fence.wide _ trivial rfl (by omega) (w1.heap.size + 1) (w1.heap.size + 1 + 1) A m q cap b off hA hm hlen hcap _ (by simp) (by simp) (cell_alloc_l _ k1.1) k2.1)
    (fun h1 h2 b hb o v h => h2 b hb o v (h1 b hb o v h)) hKb (Below.refl _ _) (fun _ => rfl)
    (fun pre W => (W.cell? ⟨w.heap.size, 0, none⟩ = some (.bool false) ∧ W.frozen? ⟨w.heap.size, 0, none⟩ = false ∧ W.cell? ⟨w1.heap.size, 0, none⟩ = some (.int .i64 pre.length) ∧ W.frozen? ⟨w1.heap.size, 0, none⟩ = false ∧ ∀ x ∈ pre, ok x.1 = true) ∧ Below w.heap.size w W)
    (fun c pre W => (c = .ret ∧ (∃ x ∈ pre, ok x.1 = false) ∧ W.cell? ⟨w.heap.size, 0, none⟩ = some (.bool false)) ∧ Below w.heap.size w W)
    (OwnFrom.and (Own.from (fun s A B row hs hg hr => ⟨cell_kept hs.1 hg hr, (frozen_kept hs.1 hg hr).trans hs.2.1, cell_kept hs.2.2.1 hg hr, (frozen_kept hs.2.2.1 hg hr).trans hs.2.2.2.1, hs.2.2.2.2⟩) _) (ownFrom_below (Nat.le_refl _) (by simp; omega)))
    (fun c => OwnFrom.and (Own.from (fun s A B row hs hg hr => ⟨hs.1, hs.2.1, cell_kept hs.2.2 hg hr⟩) _) (ownFrom_below (Nat.le_refl _) (by simp; omega)))
    ⟨⟨cell_alloc_l _ (cell_alloc_l _ (cell_alloc_l _ hr1)), frozen_alloc_l _ (cell_alloc_l _ (cell_alloc_l _ hr1)) (frozen_alloc_l _ (cell_alloc_l _ hr1) (frozen_alloc_l _ hr1 hf1)), cell_alloc_l _ (cell_alloc_l _ j0.1), frozen_alloc_l _ (cell_alloc_l _ j0.1) (frozen_alloc_l _ j0.1 j0.2), by simp⟩, hB1⟩
    (fun x => { tmps := #[.slice A (q * m) cap, .int .i64 m, undef, undef, .pointer (some ⟨w.heap.size, 0, none⟩), .pointer (some ⟨w1.heap.size, 0, none⟩), partV b off m x.1, .int .i64 m, .bool true, .bool false, .bool false, .slice A (q * m) cap, .int .i64 ((q : Int) * m), .int .i64 m, .int .i64 0, .bool false, .bool false, .slice A (q * m) cap, .int .i64 m,
      .func (.func 90) #[] #[.pointer (some ⟨w1.heap.size + 1, 0, none⟩), .pointer (some ⟨w1.heap.size + 1 + 1, 0, none⟩)], partV b off m x.1, undef, undef, undef, undef, undef, undef, undef, undef, undef, undef, undef], defers := [] }) ?assign ?body ?done ?stop
  case assign =>
    intro l x W K hK
    gi_wp2
    exact hK
  case body =>
    rintro l pre x W ⟨⟨h1, h2, h3, h4, h5'⟩, hB⟩ hpl
    have hp := hP x.1 x.2
    have hB2 : Below w.heap.size w (W.setCell ⟨w1.heap.size, 0, none⟩ (.int .i64 (pre.length + 1))) := hB.setCell (p := ⟨w1.heap.size, 0, none⟩) (by simp; omega) _
    have hgo : KeepsOthers W (W.setCell ⟨w1.heap.size, 0, none⟩ (.int .i64 (pre.length + 1))) := KeepsOthers.setCell _ _ _
    have hb5 : pre.length ≤ 4294967296 := by omega
    have hsz2 : (W.setCell ⟨w1.heap.size, 0, none⟩ (.int .i64 (pre.length + 1))).heap.size = W.heap.size := by simp
    have hl1 : w1.heap.size < W.heap.size := cell_lt_l h3
    have hWs : w.heap.size + 1 + 1 ≤ W.heap.size := by omega
    have hr0 : (W.setCell ⟨w1.heap.size, 0, none⟩ (.int .i64 (pre.length + 1))).cell? ⟨w.heap.size, 0, none⟩ = some (.bool false) := by rw [World.cell?_setCell_other (h := fun e => by injection e with e; omega)]; exact h1
    have hf0 : (W.setCell ⟨w1.heap.size, 0, none⟩ (.int .i64 (pre.length + 1))).frozen? ⟨w.heap.size, 0, none⟩ = false := by rw [World.frozen?_setCell]; exact h2
    have hj0 : (W.setCell ⟨w1.heap.size, 0, none⟩ (.int .i64 (pre.length + 1))).cell? ⟨w1.heap.size, 0, none⟩ = some (.int .i64 (pre.length + 1)) := World.cell?_setCell_same' _ _ _ (by rw [h3]; rfl)
    have hg0 : (W.setCell ⟨w1.heap.size, 0, none⟩ (.int .i64 (pre.length + 1))).frozen? ⟨w1.heap.size, 0, none⟩ = false := by rw [World.frozen?_setCell]; exact h4
    cases hk : ok x.1
    · rw [hk] at hp
      gi_wp2
      refine ⟨trivial, ?_⟩
      refine (CallsIn.inRound l (callsIn_wide.2 (hp _ hB2))).mono ?_
      rintro e w2 ⟨rfl, hb2⟩
      have hr2 := (hb2.cell (p := ⟨w.heap.size, 0, none⟩) (by rw [hsz2]; show w.heap.size < W.heap.size; omega)).trans hr0
      have hko : KeepsOthers (W.setCell ⟨w1.heap.size, 0, none⟩ (.int .i64 (pre.length + 1))) w2 := ⟨hb2.size, fun k o hk ho => (hb2.block k (Array.getElem?_eq_some_iff.1 hk).1).trans hk⟩
      have hf2 : w2.frozen? ⟨w.heap.size, 0, none⟩ = false := by
        have h1 := hb2.block w.heap.size (by rw [hsz2]; omega)
        unfold World.frozen? at hf0 ⊢
        rw [h1]
        exact hf0
      dsimp only
      gi_wp2
      exact ⟨(hgo.trans hko).trans (KeepsOthers.setCell _ _ _), ⟨rfl, ⟨x, List.mem_append.2 (.inr (by simp)), hk⟩, World.cell?_setCell_same' _ _ _ (by rw [hr2]; rfl)⟩, (hB2.trans (hb2.mono (by rw [hsz2]; omega))).setCell (p := ⟨w.heap.size, 0, none⟩) (by simp) _⟩
    · rw [hk] at hp
      gi_wp2
      refine ⟨trivial, ?_⟩
      refine (CallsIn.inRound l (callsIn_wide.2 (hp _ hB2))).mono ?_
      rintro e w2 ⟨rfl, hb2⟩
      have hr2 := (hb2.cell (p := ⟨w.heap.size, 0, none⟩) (by rw [hsz2]; show w.heap.size < W.heap.size; omega)).trans hr0
      have hj2 := (hb2.cell (p := ⟨w1.heap.size, 0, none⟩) (by rw [hsz2]; exact hl1)).trans hj0
      have hko : KeepsOthers (W.setCell ⟨w1.heap.size, 0, none⟩ (.int .i64 (pre.length + 1))) w2 := ⟨hb2.size, fun k o hk ho => (hb2.block k (Array.getElem?_eq_some_iff.1 hk).1).trans hk⟩
      have hf2 : w2.frozen? ⟨w.heap.size, 0, none⟩ = false := by
        have h1 := hb2.block w.heap.size (by rw [hsz2]; omega)
        unfold World.frozen? at hf0 ⊢
        rw [h1]
        exact hf0
      have hg2 : w2.frozen? ⟨w1.heap.size, 0, none⟩ = false := by
        have h1 := hb2.block w1.heap.size (by rw [hsz2]; exact hl1)
        unfold World.frozen? at hg0 ⊢
        rw [h1]
        exact hg0
      dsimp only
      gi_wp2
      have hKp : KpB (w1.heap.size + 1) (w1.heap.size + 1 + 1) W w2 := fun b' hb o v h => by
        have hb' : b' < W.heap.size := cell_lt_l h
        refine (hb2.cell (p := ⟨b', o, none⟩) (by rw [hsz2]; exact hb')).trans ?_
        rw [World.cell?_setCell_other (h := fun e => by injection e with e; omega)]
        exact h
      exact ⟨hgo.trans hko, hKp, ⟨hr2, hf2, by rw [hj2]; simp, hg2, fun y hy => (List.mem_append.1 hy).elim (h5' y) (fun e => by simp at e; subst e; exact hk)⟩, hB2.trans (hb2.mono (by rw [hsz2]; omega))⟩
  case done =>
    rintro D ys W hD rfl ⟨⟨h1, h2, h3, h4, h5⟩, hB⟩ hK
    have hall : (List.range q).all ok = true := List.all_eq_true.2 (fun k hk => h5 ⟨k, List.mem_range.1 hk⟩ (List.mem_finRange _))
    gi_wp2
    all_goals
      refine ⟨by simp, .inl ⟨_, _, rfl, run_takeDeferred ((KeepsOthers.setCell W ⟨w.heap.size, 0, none⟩ _).same D _ hK rfl), ?_⟩⟩
    · have hK' := (KeepsOthers.setCell W ⟨w.heap.size, 0, none⟩ (.bool (decide ((q : Int) ≤ 24)))).same D _ hK rfl
      have hc5 := cell_kept (World.cell?_setCell_same' W ⟨w.heap.size, 0, none⟩ (.bool (decide ((q : Int) ≤ 24))) (by rw [h1]; rfl)) (grownBy_putObj' _ D (.deferred none)) (fun r e => by cases e; exact ⟨_, hK', rfl⟩)
      refine ⟨.bool (decide ((q : Int) ≤ 24)), ?_, ?_, (hB.setCell (p := ⟨w.heap.size, 0, none⟩) (by simp) _).trans (belowK_b (w := w) (Nat.le_refl _) _ D _ _ (by simp at hD; omega) hK' rfl rfl)⟩
      · simp [results, Try.f71, go_sem, hc5]
      · rw [hall, decide_eq_true (show 1 ≤ q by omega), Bool.true_and, Bool.true_and]
        exact congrArg (fun b : Bool => Ending.returned (.bool b)) (by by_cases h : q ≤ 24 <;> simp [h] <;> omega)
    · have hK' := (KeepsOthers.setCell W ⟨w.heap.size, 0, none⟩ (.bool false)).same D _ hK rfl
      have hc5 := cell_kept (World.cell?_setCell_same' W ⟨w.heap.size, 0, none⟩ (.bool false) (by rw [h1]; rfl)) (grownBy_putObj' _ D (.deferred none)) (fun r e => by cases e; exact ⟨_, hK', rfl⟩)
      refine ⟨.bool false, ?_, ?_, (hB.setCell (p := ⟨w.heap.size, 0, none⟩) (by simp) _).trans (belowK_b (w := w) (Nat.le_refl _) _ D _ _ (by simp at hD; omega) hK' rfl rfl)⟩
      · simp [results, Try.f71, go_sem, hc5]
      · rw [decide_eq_false (show ¬ 1 ≤ q by omega)]
        simp
  case stop =>
    rintro D c pre W hD hpre ⟨⟨rfl, ⟨x, hx, hok⟩, hcr⟩, hB⟩ hK
    gi_wp2
    refine ⟨by simp, .inl ⟨_, _, rfl, run_takeDeferred hK, ?_⟩⟩
    have hc5 := cell_kept hcr (grownBy_putObj' _ D (.deferred none)) (fun r e => by cases e; exact ⟨_, hK, rfl⟩)
    have hall : (List.range q).all ok = false := by
      rw [Bool.eq_false_iff]
      intro h
      have h' := List.all_eq_true.1 h x.1 (List.mem_range.2 x.2)
      rw [hok] at h'
      cases h'
    refine ⟨.bool false, ?_, by rw [hall, Bool.false_and], hB.trans (belowK_b (w := w) (Nat.le_refl _) W D _ _ (by simp at hD; omega) hK rfl rfl)⟩
    simp [results, Try.f71, go_sem, hc5]

end Go.Proofs.Ytgcmklniacjcfaa
