/-
  impl.shop.steps and impl.steps.turn, walked. No condition.
-/
import Derived.BigRegion
import Derived.BigQuiet
import Derived.RegionTactic
import Derived.Test.YtgcmklniacjcfaaPermU
import Derived.Test.YtgcmklniacjcfaaShopF
namespace Go.Proofs.Ytgcmklniacjcfaa
open Go Go.RowKit Go.Proofs.Ytgcmklniacjcfaa.Fw
set_option maxRecDepth 100000
set_option linter.unusedVariables false
set_option linter.unusedSimpArgs false

theorem shop_info_int : (Try.prog.info? 3).map (fun i => (i.zero, i.size, i.bytes)) = some (some (Value.int IntKind.i64 0), 1, 8) := by kernel_rfl

theorem shop_box7 {W : World} {S : Nat} {t : TypeId} {u0 u1 u2 u3 u4 u5 u6 : Value} (h : W.heap[S]? = some (.cells #[u0, u1, u2, u3, u4, u5, u6] t (0, 0))) (v0 v1 v2 v3 v4 v5 v6 : Value) :
    (((((((W.setCell ⟨S, 0, none⟩ v0).setCell ⟨S, 1, none⟩ v1).setCell ⟨S, 2, none⟩ v2).setCell ⟨S, 3, none⟩ v3).setCell ⟨S, 4, none⟩ v4).setCell ⟨S, 5, none⟩ v5).setCell ⟨S, 6, none⟩ v6).heap[S]? = some (.cells #[v0, v1, v2, v3, v4, v5, v6] t (0, 0)) := by
  have h1 := perm_row (perm_row (perm_row (perm_row (perm_row (perm_row (perm_row (i := 0) h v0) (i := 1) v1) (i := 2) v2) (i := 3) v3) (i := 4) v4) (i := 5) v5) (i := 6) v6
  simp only [List.setIfInBounds_toArray, List.set_cons_succ, List.set_cons_zero] at h1
  exact h1

set_option maxHeartbeats 16000000 in
theorem steps_any {q m : Nat} (hm : 1 ≤ m ∧ m ≤ 8) (hq : 1 ≤ q ∧ q ≤ 24) {A R : Option Addr} {n c rn rc : Nat} (w : World) :
    Calls Try.prog 37 #[.agg #[.slice A n c, .int .i64 (q : Int), .int .i64 (m : Int)], .slice R rn rc] w fun e W' => Below w.heap.size w W' ∧ ∃ NB JB FB, e = .returned (.agg #[.slice A n c, .int .i64 (q : Int), .int .i64 (m : Int), .slice R rn rc, .slice (some ⟨NB, 0, none⟩) q q, .slice (some ⟨JB, 0, none⟩) q q, .slice (some ⟨FB, 0, none⟩) m m]) ∧ w.heap.size ≤ NB ∧ w.heap.size ≤ JB ∧ w.heap.size ≤ FB ∧ NB ≠ JB ∧ NB ≠ FB ∧ JB ≠ FB ∧
      RowL W' NB q (List.replicate q 0) ∧ RowL W' JB q (List.replicate q 0) ∧ RowL W' FB m (List.replicate m 0) := by
  have hmkI : ∀ (W : World), (Instr.makeSlice 53 (.int .i64 (q : Int)) (.int .i64 (q : Int))).run Try.prog W = .ok (.slice (some ⟨W.heap.size, 0, none⟩) q q) (W.alloc (.cells (Array.replicate q (.int .i64 0)) 3)) := fun W => perm_make Try.underlying53 shop_info_int (by omega) rfl q q (by omega) (by omega) W
  have hmkJ : ∀ (W : World), (Instr.makeSlice 22 (.int .i64 (q : Int)) (.int .i64 (q : Int))).run Try.prog W = .ok (.slice (some ⟨W.heap.size, 0, none⟩) q q) (W.alloc (.cells (Array.replicate q (.int .i64 0)) 2)) := fun W => perm_make Try.underlying22 perm_info_int (by omega) rfl q q (by omega) (by omega) W
  have hmkF : ∀ (W : World), (Instr.makeSlice 22 (.int .i64 (m : Int)) (.int .i64 (m : Int))).run Try.prog W = .ok (.slice (some ⟨W.heap.size, 0, none⟩) m m) (W.alloc (.cells (Array.replicate m (.int .i64 0)) 2)) := fun W => perm_make Try.underlying22 perm_info_int (by omega) rfl m m (by omega) (by omega) W
  go_enter Try.func37, Try.ntmps37
  go_wp2_with fail
  obtain ⟨W0, hW0⟩ : ∃ W0, W0 = (w.alloc (.cells #[.slice A n c, .int .i64 (q : Int), .int .i64 (m : Int)] 44)).alloc (.cells #[.slice none 0 0, .int .i64 0, .int .i64 0, .slice none 0 0, .slice none 0 0, .slice none 0 0, .slice none 0 0] 55) := ⟨_, rfl⟩
  have hs0 : W0.heap.size = w.heap.size + 2 := by rw [hW0]; simp
  have hbs : W0.heap[w.heap.size]? = some (.cells #[.slice A n c, .int .i64 (q : Int), .int .i64 (m : Int)] 44 (0, 0)) := by rw [hW0]; exact perm_alloc (perm_new rfl _) _
  have hbt : W0.heap[w.heap.size + 1]? = some (.cells #[.slice none 0 0, .int .i64 0, .int .i64 0, .slice none 0 0, .slice none 0 0, .slice none 0 0, .slice none 0 0] 55 (0, 0)) := by rw [hW0]; exact perm_new (by simp) _
  have hbw : Below w.heap.size w W0 := by rw [hW0]; exact ((Below.refl _ _).alloc (Nat.le_refl _) _).alloc (by simp) _
  rw [← hW0]
  clear hW0
  have c00 := perm_cell (i := 0) hbs
  have c01 := perm_cell (i := 1) hbs
  have c02 := perm_cell (i := 2) hbs
  have c10 := fun o => perm_cell (i := 0) (perm_alloc hbs o)
  have c11 := fun o => perm_cell (i := 1) (perm_alloc hbs o)
  have c12 := fun o => perm_cell (i := 2) (perm_alloc hbs o)
  have c20 := fun o o' => perm_cell (i := 0) (perm_alloc (perm_alloc hbs o) o')
  have c21 := fun o o' => perm_cell (i := 1) (perm_alloc (perm_alloc hbs o) o')
  have c22 := fun o o' => perm_cell (i := 2) (perm_alloc (perm_alloc hbs o) o')
  simp only [List.getElem?_toArray, List.getElem?_cons_succ, List.getElem?_cons_zero] at c00 c01 c02 c10 c11 c12 c20 c21 c22
  have d0 := perm_cell (i := 0) hbt
  have f0 := perm_free (i := 0) hbt
  have e0 := fun o o' o'' => perm_cell (i := 0) (perm_alloc (perm_alloc (perm_alloc hbt o) o') o'')
  have g0 := fun o o' o'' => perm_free (i := 0) (perm_alloc (perm_alloc (perm_alloc hbt o) o') o'')
  have d1 := perm_cell (i := 1) hbt
  have f1 := perm_free (i := 1) hbt
  have e1 := fun o o' o'' => perm_cell (i := 1) (perm_alloc (perm_alloc (perm_alloc hbt o) o') o'')
  have g1 := fun o o' o'' => perm_free (i := 1) (perm_alloc (perm_alloc (perm_alloc hbt o) o') o'')
  have d2 := perm_cell (i := 2) hbt
  have f2 := perm_free (i := 2) hbt
  have e2 := fun o o' o'' => perm_cell (i := 2) (perm_alloc (perm_alloc (perm_alloc hbt o) o') o'')
  have g2 := fun o o' o'' => perm_free (i := 2) (perm_alloc (perm_alloc (perm_alloc hbt o) o') o'')
  have d3 := perm_cell (i := 3) hbt
  have f3 := perm_free (i := 3) hbt
  have e3 := fun o o' o'' => perm_cell (i := 3) (perm_alloc (perm_alloc (perm_alloc hbt o) o') o'')
  have g3 := fun o o' o'' => perm_free (i := 3) (perm_alloc (perm_alloc (perm_alloc hbt o) o') o'')
  have d4 := perm_cell (i := 4) hbt
  have f4 := perm_free (i := 4) hbt
  have e4 := fun o o' o'' => perm_cell (i := 4) (perm_alloc (perm_alloc (perm_alloc hbt o) o') o'')
  have g4 := fun o o' o'' => perm_free (i := 4) (perm_alloc (perm_alloc (perm_alloc hbt o) o') o'')
  have d5 := perm_cell (i := 5) hbt
  have f5 := perm_free (i := 5) hbt
  have e5 := fun o o' o'' => perm_cell (i := 5) (perm_alloc (perm_alloc (perm_alloc hbt o) o') o'')
  have g5 := fun o o' o'' => perm_free (i := 5) (perm_alloc (perm_alloc (perm_alloc hbt o) o') o'')
  have d6 := perm_cell (i := 6) hbt
  have f6 := perm_free (i := 6) hbt
  have e6 := fun o o' o'' => perm_cell (i := 6) (perm_alloc (perm_alloc (perm_alloc hbt o) o') o'')
  have g6 := fun o o' o'' => perm_free (i := 6) (perm_alloc (perm_alloc (perm_alloc hbt o) o') o'')
  simp only [List.getElem?_toArray, List.getElem?_cons_succ, List.getElem?_cons_zero] at d0 d1 d2 d3 d4 d5 d6 e0 e1 e2 e3 e4 e5 e6
  go_region
  all_goals go_wp2_with fail
  all_goals
    refine bodyPost_ret (results_cell_row rfl _ _ (w.heap.size + 1) 55 _ (0, 0) _ rfl (perm_drew (perm_alloc (perm_alloc (perm_alloc (shop_box7 hbt _ _ _ _ _ _ _) _) _) _)) Try.underlying55 rfl (by kernel_rfl)) rfl ?_
    refine ⟨?_, _, _, _, rfl, by omega, by omega, by omega, by omega, by omega, by omega, ?_, ?_, ?_⟩
    · have hset : ∀ (W1 : World) (i : Nat) (v : Value), Below w.heap.size w W1 → Below w.heap.size w (W1.setCell ⟨w.heap.size + 1, i, none⟩ v) := fun W1 i v h => h.setCell (p := ⟨w.heap.size + 1, i, none⟩) (by simp) v
      exact ((((hset _ _ _ (hset _ _ _ (hset _ _ _ (hset _ _ _ (hset _ _ _ (hset _ _ _ (hset _ _ _ hbw))))))).alloc (by simp <;> omega) _).alloc (by simp <;> omega) _).alloc (by simp <;> omega) _).drew
    all_goals refine RowL.drew ?_
    all_goals first | (refine row_new ?_; simp [hs0]; done) | (refine RowL.alloc (row_new ?_) _; simp [hs0]; done) | (refine RowL.alloc (RowL.alloc (row_new ?_) _) _; simp [hs0]; done)

/-- All is as it was, but for the blocks of a set. -/
structure Chg (S : Nat → Prop) (w w' : World) : Prop where
  os : w'.os = w.os
  tape : w'.tape = w.tape
  output : w'.output = w.output
  size : w.heap.size ≤ w'.heap.size
  block : ∀ k, k < w.heap.size → ¬ S k → w'.heap[k]? = w.heap[k]?

theorem Chg.refl (S : Nat → Prop) (w : World) : Chg S w w := ⟨rfl, rfl, rfl, Nat.le_refl _, fun _ _ _ => rfl⟩
theorem Chg.alloc {S : Nat → Prop} {w w' : World} (h : Chg S w w') (o : Obj) : Chg S w (w'.alloc o) :=
  ⟨h.os, h.tape, h.output, by have := h.size; simp; omega, fun k hk hs => by
    rw [← h.block k hk hs]
    have := h.size
    show (w'.heap.push o)[k]? = _
    rw [Array.getElem?_push, if_neg (by omega)]⟩
theorem Chg.set {S : Nat → Prop} {w w' : World} (h : Chg S w w') {a : Addr} (ha : S a.block) (v : Value) : Chg S w (w'.setCell a v) :=
  ⟨h.os, h.tape, h.output, by have := h.size; simpa using this, fun k hk hs => (Below.heap_setCell _ _ _ _ (fun e => hs (by rw [e]; exact ha))).trans (h.block k hk hs)⟩
theorem Chg.drew {S : Nat → Prop} {w w' : World} (h : Chg S w w') : Chg S w w'.drew := ⟨h.os, h.tape, h.output, h.size, h.block⟩
theorem Chg.below {S : Nat → Prop} {B : Nat} {w w' : World} (h : Chg S w w') (hB : ∀ k, k < B → ¬ S k) (hs : B ≤ w.heap.size) : Below B w w' :=
  ⟨h.os, h.tape, h.output, h.size, fun k hk => h.block k (by omega) (hB k hk)⟩

set_option maxHeartbeats 16000000 in
theorem turn_any {q m : Nat} (hm : 1 ≤ m ∧ m ≤ 8) (hq : 1 ≤ q ∧ q ≤ 24) {rt xs : List Int} (hqm : q * m = xs.length) (hrl : rt.length = xs.length) {s : TS} {j : Nat} {B off c RB roff rc NB nc JB jc FB fc zn zj zf : Nat} (w : World)
    (hok : okT m q rt xs s (j : Int) = true) (hne : (s.1.getD j 0 == (m : Int)) = false) (l1 : s.1.length = q) (l2 : s.2.1.length = q) (l3 : s.2.2.length = m)
    (hN : RowL w NB zn s.1) (hJ : RowL w JB zj s.2.1) (hF : RowL w FB zf s.2.2) (d1 : NB ≠ JB) (d2 : NB ≠ FB) (d3 : JB ≠ FB)
    (hB : B < w.heap.size ∧ B ≠ NB ∧ B ≠ JB ∧ B ≠ FB) (hR : RB < w.heap.size ∧ RB ≠ NB ∧ RB ≠ JB ∧ RB ≠ FB)
    (hx : ∀ i, i < xs.length → w.cell? ⟨B, off + i, none⟩ = some (.int .i64 (xs.getD i 0))) (hr : ∀ i, i < xs.length → w.cell? ⟨RB, roff + i, none⟩ = some (.int .i64 (rt.getD i 0))) :
    Calls Try.prog 38 #[.agg #[.slice (some ⟨B, off, none⟩) xs.length c, .int .i64 (q : Int), .int .i64 (m : Int), .slice (some ⟨RB, roff, none⟩) xs.length rc, .slice (some ⟨NB, 0, none⟩) q nc, .slice (some ⟨JB, 0, none⟩) q jc, .slice (some ⟨FB, 0, none⟩) m fc], .int .i64 (j : Int)] w
      fun e W' => e = .returned (.tuple #[.int .i64 (stepX m s j : Nat), .int .i64 (stepAt m rt s j)]) ∧ Chg (fun b => b = NB ∨ b = JB ∨ b = FB) w W' ∧ RowL W' NB zn (turnT m rt xs s j).1 ∧ RowL W' JB zj (turnT m rt xs s j).2.1 ∧ RowL W' FB zf (turnT m rt xs s j).2.2 := by
  unfold okT at hok
  simp only [Int.toNat_natCast, Bool.and_eq_true, Bool.or_eq_true, decide_eq_true_eq] at hok
  obtain ⟨_, o2, o3, o4, o5⟩ := hok
  have hne' : s.1.getD j 0 ≠ (m : Int) := by simpa using hne
  obtain ⟨o6, o7, o8, o9, o10, o11⟩ := o5.resolve_left hne'
  clear o5 hne
  have hj : j < q := by omega
  obtain ⟨k, hk⟩ : ∃ k : Nat, s.1.getD j 0 = (k : Int) := ⟨(s.1.getD j 0).toNat, by omega⟩
  have hkm : k < m := by omega
  have hX : stepX m s j = j * m + k := by unfold stepX; rw [hk]; rfl
  have hlt : j * m + k < xs.length := by
    rw [← hqm]
    have : (j + 1) * m ≤ q * m := Nat.mul_le_mul_right m hj
    rw [Nat.add_mul] at this
    omega
  have hx192 : xs.length ≤ 192 := by
    rw [← hqm]
    exact Nat.mul_le_mul hq.2 hm.2
  obtain ⟨r, hr0⟩ : ∃ r : Nat, rt.getD (stepX m s j) 0 = (r : Int) := ⟨(rt.getD (stepX m s j) 0).toNat, by omega⟩
  have hRr : stepR m rt s j = r := by unfold stepR; rw [hr0]; rfl
  have hrm : r < m := by omega
  obtain ⟨jv, hjv⟩ : ∃ v : Int, v = s.2.1.getD j 0 := ⟨_, rfl⟩
  obtain ⟨fv, hfv⟩ : ∃ v : Int, v = s.2.2.getD r 0 := ⟨_, rfl⟩
  obtain ⟨xv, hxv⟩ : ∃ v : Int, v = xs.getD (j * m + k) 0 := ⟨_, rfl⟩
  have hAt : stepAt m rt s j = imax jv fv := by unfold stepAt; rw [hRr, hjv, hfv]
  rw [hX, ← hxv] at o10 o11
  rw [hAt] at o8 o9
  have hT : turnT m rt xs s j = (s.1.set j ((k : Int) + 1), s.2.1.set j (imax jv fv + xv), s.2.2.set r (imax jv fv + xv)) := by
    unfold turnT
    rw [hRr, hAt, hX, hk, hxv]
  rw [hT, hX, hAt]
  obtain ⟨W1, hW1⟩ : ∃ W1, W1 = w.alloc (.cells #[.slice (some ⟨B, off, none⟩) xs.length c, .int .i64 (q : Int), .int .i64 (m : Int), .slice (some ⟨RB, roff, none⟩) xs.length rc, .slice (some ⟨NB, 0, none⟩) q nc, .slice (some ⟨JB, 0, none⟩) q jc, .slice (some ⟨FB, 0, none⟩) m fc] 55) := ⟨_, rfl⟩
  have hNs : NB < w.heap.size := by obtain ⟨cs, e, h1, _⟩ := hN; exact lt_of_block h1
  have hJs : JB < w.heap.size := by obtain ⟨cs, e, h1, _⟩ := hJ; exact lt_of_block h1
  have hFs : FB < w.heap.size := by obtain ⟨cs, e, h1, _⟩ := hF; exact lt_of_block h1
  have hb1 : W1.heap[w.heap.size]? = some (.cells #[.slice (some ⟨B, off, none⟩) xs.length c, .int .i64 (q : Int), .int .i64 (m : Int), .slice (some ⟨RB, roff, none⟩) xs.length rc, .slice (some ⟨NB, 0, none⟩) q nc, .slice (some ⟨JB, 0, none⟩) q jc, .slice (some ⟨FB, 0, none⟩) m fc] 55 (0, 0)) := by rw [hW1]; exact perm_new rfl _
  have hN1 : RowL W1 NB zn s.1 := by rw [hW1]; exact hN.alloc _
  have hJ1 : RowL W1 JB zj s.2.1 := by rw [hW1]; exact hJ.alloc _
  have hF1 : RowL W1 FB zf s.2.2 := by rw [hW1]; exact hF.alloc _
  have hC1 : Chg (fun b => b = NB ∨ b = JB ∨ b = FB) w W1 := by rw [hW1]; exact (Chg.refl _ _).alloc _
  have cB0 := perm_cell (i := 0) hb1
  have cB1 := perm_cell (i := 1) hb1
  have cB2 := perm_cell (i := 2) hb1
  have cB3 := perm_cell (i := 3) hb1
  have cB4 := perm_cell (i := 4) hb1
  have cB5 := perm_cell (i := 5) hb1
  have cB6 := perm_cell (i := 6) hb1
  have cN1 := hN1.cell (i := j) (by omega)
  have cJ1 := hJ1.cell (i := j) (by omega)
  have cF1 := hF1.cell (i := r) (by omega)
  rw [hk] at cN1
  rw [← hjv] at cJ1
  rw [← hfv] at cF1
  have fN1 := hN1.free j
  have cR1 : W1.cell? ⟨RB, roff + (j * m + k), none⟩ = some (.int .i64 (r : Int)) := by
    rw [hW1, ← hr0, hX]
    exact (Below.cell ((Below.refl _ _).alloc (Nat.le_refl _) _) (p := ⟨RB, _, none⟩) hR.1).trans (hr _ hlt)
  have hxW : ∀ W', Chg (fun b => b = NB ∨ b = JB ∨ b = FB) w W' → W'.cell? ⟨B, off + (j * m + k), none⟩ = some (.int .i64 xv) := fun W' h => by
    rw [hxv, ← hx _ hlt]
    unfold World.cell?
    rw [h.block B hB.1 (by rintro (e | e | e) <;> omega)]
  clear hx hr hjv hfv hxv hk hr0 hX hRr hAt hT hne'
  go_enter Try.func38, Try.ntmps38
  go_wp2_with fail
  rw [← hW1]
  clear hW1
  simp only [List.getElem?_toArray, List.getElem?_cons_succ, List.getElem?_cons_zero] at cB0 cB1 cB2 cB3 cB4 cB5 cB6
  by_cases hjf : jv < fv
  · have HM : Hid (imax jv fv = fv) := by
      show _ = _
      unfold imax
      simp [hjf]
    rw [HM.out] at o8 o9
    have hBX : w.heap.size ≠ NB ∧ w.heap.size ≠ JB ∧ w.heap.size ≠ FB := by omega
    have hb2 := perm_set hb1 ⟨NB, j, none⟩ hBX.1 (.int .i64 ((k : Int) + 1))
    have hC2 := hC1.set (a := ⟨NB, j, none⟩) (.inl rfl) (.int .i64 ((k : Int) + 1))
    have hN2 := hN1.set (i := j) (by omega) ((k : Int) + 1)
    have hJ2 := hJ1.other (a := ⟨NB, j, none⟩) (Ne.symm d1) (.int .i64 ((k : Int) + 1))
    have hF2 := hF1.other (a := ⟨NB, j, none⟩) (Ne.symm d2) (.int .i64 ((k : Int) + 1))
    have hb3 := perm_set hb2 ⟨JB, j, none⟩ hBX.2.1 (.int .i64 (fv + xv))
    have hC3 := hC2.set (a := ⟨JB, j, none⟩) (.inr (.inl rfl)) (.int .i64 (fv + xv))
    have hN3 := hN2.other (a := ⟨JB, j, none⟩) d1 (.int .i64 (fv + xv))
    have hJ3 := hJ2.set (i := j) (by omega) (fv + xv)
    have hF3 := hF2.other (a := ⟨JB, j, none⟩) (Ne.symm d3) (.int .i64 (fv + xv))
    have hC4 := hC3.set (a := ⟨FB, r, none⟩) (.inr (.inr rfl)) (.int .i64 (fv + xv))
    have hN4 := hN3.other (a := ⟨FB, r, none⟩) d2 (.int .i64 (fv + xv))
    have hJ4 := hJ3.other (a := ⟨FB, r, none⟩) d3 (.int .i64 (fv + xv))
    have hF4 := hF3.set (i := r) (by omega) (fv + xv)
    have c20 := perm_cell (i := 0) hb2
    have c25 := perm_cell (i := 5) hb2
    have c26 := perm_cell (i := 6) hb2
    have c30 := perm_cell (i := 0) hb3
    have c35 := perm_cell (i := 5) hb3
    have c36 := perm_cell (i := 6) hb3
    simp only [List.getElem?_toArray, List.getElem?_cons_succ, List.getElem?_cons_zero] at c20 c25 c26 c30 c35 c36
    have x2 := hxW _ hC2
    have x3 := hxW _ hC3
    obtain ⟨jw, cJ2⟩ : ∃ jw, (W1.setCell ⟨NB, j, none⟩ (.int .i64 ((k : Int) + 1))).cell? ⟨JB, j, none⟩ = some (.int .i64 jw) := ⟨_, hJ2.cell (i := j) (by omega)⟩
    obtain ⟨fw, cF2⟩ : ∃ fw, (W1.setCell ⟨NB, j, none⟩ (.int .i64 ((k : Int) + 1))).cell? ⟨FB, r, none⟩ = some (.int .i64 fw) := ⟨_, hF2.cell (i := r) (by omega)⟩
    obtain ⟨fu, cF3⟩ : ∃ fu, ((W1.setCell ⟨NB, j, none⟩ (.int .i64 ((k : Int) + 1))).setCell ⟨JB, j, none⟩ (.int .i64 (fv + xv))).cell? ⟨FB, r, none⟩ = some (.int .i64 fu) := ⟨_, hF3.cell (i := r) (by omega)⟩
    have fJ2 := hJ2.free j
    have fF2 := hF2.free r
    have fF3 := hF3.free r
    have HFIN : Hid (Chg (fun b => b = NB ∨ b = JB ∨ b = FB) w (((W1.setCell ⟨NB, j, none⟩ (.int .i64 ((k : Int) + 1))).setCell ⟨JB, j, none⟩ (.int .i64 (fv + xv))).setCell ⟨FB, r, none⟩ (.int .i64 (fv + xv))) ∧ RowL (((W1.setCell ⟨NB, j, none⟩ (.int .i64 ((k : Int) + 1))).setCell ⟨JB, j, none⟩ (.int .i64 (fv + xv))).setCell ⟨FB, r, none⟩ (.int .i64 (fv + xv))) NB zn (s.1.set j ((k : Int) + 1)) ∧ RowL (((W1.setCell ⟨NB, j, none⟩ (.int .i64 ((k : Int) + 1))).setCell ⟨JB, j, none⟩ (.int .i64 (fv + xv))).setCell ⟨FB, r, none⟩ (.int .i64 (fv + xv))) JB zj (s.2.1.set j (fv + xv)) ∧ RowL (((W1.setCell ⟨NB, j, none⟩ (.int .i64 ((k : Int) + 1))).setCell ⟨JB, j, none⟩ (.int .i64 (fv + xv))).setCell ⟨FB, r, none⟩ (.int .i64 (fv + xv))) FB zf (s.2.2.set r (fv + xv))) := ⟨hC4, hN4, hJ4, hF4⟩
    clear hC1 hC2 hC3 hC4 hN1 hN2 hN3 hN4 hJ1 hJ2 hJ3 hJ4 hF1 hF2 hF3 hF4 hb1 hb2 hb3 hxW hN hJ hF
    go_region
    all_goals go_wp2_with fail
    all_goals go_region
    all_goals go_wp2_with fail
    all_goals go_region
    all_goals go_wp2_with fail
    all_goals
      refine bodyPost_ret (results_tmp2 rfl _ _ _) rfl ?_
      rw [HM.out]
      have h1 := HFIN.out.1
      have h2 := HFIN.out.2.1
      have h3 := HFIN.out.2.2.1
      have h4 := HFIN.out.2.2.2
      refine ⟨?_, ⟨h1.os, h1.tape, h1.output, h1.size, h1.block⟩, ?_, ?_, ?_⟩
      · show Ending.returned (.tuple #[.int .i64 ((j : Int) * m + k), .int .i64 fv]) = _
        rw [Int.natCast_add, Int.natCast_mul]
      · repeat' refine RowL.drew ?_
        exact h2
      · repeat' refine RowL.drew ?_
        exact h3
      · repeat' refine RowL.drew ?_
        exact h4
  · have HM : Hid (imax jv fv = jv) := by
      show _ = _
      unfold imax
      simp [hjf]
    rw [HM.out] at o8 o9
    have hBX : w.heap.size ≠ NB ∧ w.heap.size ≠ JB ∧ w.heap.size ≠ FB := by omega
    have hb2 := perm_set hb1 ⟨NB, j, none⟩ hBX.1 (.int .i64 ((k : Int) + 1))
    have hC2 := hC1.set (a := ⟨NB, j, none⟩) (.inl rfl) (.int .i64 ((k : Int) + 1))
    have hN2 := hN1.set (i := j) (by omega) ((k : Int) + 1)
    have hJ2 := hJ1.other (a := ⟨NB, j, none⟩) (Ne.symm d1) (.int .i64 ((k : Int) + 1))
    have hF2 := hF1.other (a := ⟨NB, j, none⟩) (Ne.symm d2) (.int .i64 ((k : Int) + 1))
    have hb3 := perm_set hb2 ⟨JB, j, none⟩ hBX.2.1 (.int .i64 (jv + xv))
    have hC3 := hC2.set (a := ⟨JB, j, none⟩) (.inr (.inl rfl)) (.int .i64 (jv + xv))
    have hN3 := hN2.other (a := ⟨JB, j, none⟩) d1 (.int .i64 (jv + xv))
    have hJ3 := hJ2.set (i := j) (by omega) (jv + xv)
    have hF3 := hF2.other (a := ⟨JB, j, none⟩) (Ne.symm d3) (.int .i64 (jv + xv))
    have hC4 := hC3.set (a := ⟨FB, r, none⟩) (.inr (.inr rfl)) (.int .i64 (jv + xv))
    have hN4 := hN3.other (a := ⟨FB, r, none⟩) d2 (.int .i64 (jv + xv))
    have hJ4 := hJ3.other (a := ⟨FB, r, none⟩) d3 (.int .i64 (jv + xv))
    have hF4 := hF3.set (i := r) (by omega) (jv + xv)
    have c20 := perm_cell (i := 0) hb2
    have c25 := perm_cell (i := 5) hb2
    have c26 := perm_cell (i := 6) hb2
    have c30 := perm_cell (i := 0) hb3
    have c35 := perm_cell (i := 5) hb3
    have c36 := perm_cell (i := 6) hb3
    simp only [List.getElem?_toArray, List.getElem?_cons_succ, List.getElem?_cons_zero] at c20 c25 c26 c30 c35 c36
    have x2 := hxW _ hC2
    have x3 := hxW _ hC3
    obtain ⟨jw, cJ2⟩ : ∃ jw, (W1.setCell ⟨NB, j, none⟩ (.int .i64 ((k : Int) + 1))).cell? ⟨JB, j, none⟩ = some (.int .i64 jw) := ⟨_, hJ2.cell (i := j) (by omega)⟩
    obtain ⟨fw, cF2⟩ : ∃ fw, (W1.setCell ⟨NB, j, none⟩ (.int .i64 ((k : Int) + 1))).cell? ⟨FB, r, none⟩ = some (.int .i64 fw) := ⟨_, hF2.cell (i := r) (by omega)⟩
    obtain ⟨fu, cF3⟩ : ∃ fu, ((W1.setCell ⟨NB, j, none⟩ (.int .i64 ((k : Int) + 1))).setCell ⟨JB, j, none⟩ (.int .i64 (jv + xv))).cell? ⟨FB, r, none⟩ = some (.int .i64 fu) := ⟨_, hF3.cell (i := r) (by omega)⟩
    have fJ2 := hJ2.free j
    have fF2 := hF2.free r
    have fF3 := hF3.free r
    have HFIN : Hid (Chg (fun b => b = NB ∨ b = JB ∨ b = FB) w (((W1.setCell ⟨NB, j, none⟩ (.int .i64 ((k : Int) + 1))).setCell ⟨JB, j, none⟩ (.int .i64 (jv + xv))).setCell ⟨FB, r, none⟩ (.int .i64 (jv + xv))) ∧ RowL (((W1.setCell ⟨NB, j, none⟩ (.int .i64 ((k : Int) + 1))).setCell ⟨JB, j, none⟩ (.int .i64 (jv + xv))).setCell ⟨FB, r, none⟩ (.int .i64 (jv + xv))) NB zn (s.1.set j ((k : Int) + 1)) ∧ RowL (((W1.setCell ⟨NB, j, none⟩ (.int .i64 ((k : Int) + 1))).setCell ⟨JB, j, none⟩ (.int .i64 (jv + xv))).setCell ⟨FB, r, none⟩ (.int .i64 (jv + xv))) JB zj (s.2.1.set j (jv + xv)) ∧ RowL (((W1.setCell ⟨NB, j, none⟩ (.int .i64 ((k : Int) + 1))).setCell ⟨JB, j, none⟩ (.int .i64 (jv + xv))).setCell ⟨FB, r, none⟩ (.int .i64 (jv + xv))) FB zf (s.2.2.set r (jv + xv))) := ⟨hC4, hN4, hJ4, hF4⟩
    clear hC1 hC2 hC3 hC4 hN1 hN2 hN3 hN4 hJ1 hJ2 hJ3 hJ4 hF1 hF2 hF3 hF4 hb1 hb2 hb3 hxW hN hJ hF
    go_region
    all_goals go_wp2_with fail
    all_goals go_region
    all_goals go_wp2_with fail
    all_goals go_region
    all_goals go_wp2_with fail
    all_goals
      refine bodyPost_ret (results_tmp2 rfl _ _ _) rfl ?_
      rw [HM.out]
      have h1 := HFIN.out.1
      have h2 := HFIN.out.2.1
      have h3 := HFIN.out.2.2.1
      have h4 := HFIN.out.2.2.2
      refine ⟨?_, ⟨h1.os, h1.tape, h1.output, h1.size, h1.block⟩, ?_, ?_, ?_⟩
      · show Ending.returned (.tuple #[.int .i64 ((j : Int) * m + k), .int .i64 jv]) = _
        rw [Int.natCast_add, Int.natCast_mul]
      · repeat' refine RowL.drew ?_
        exact h2
      · repeat' refine RowL.drew ?_
        exact h3
      · repeat' refine RowL.drew ?_
        exact h4

end Go.Proofs.Ytgcmklniacjcfaa
