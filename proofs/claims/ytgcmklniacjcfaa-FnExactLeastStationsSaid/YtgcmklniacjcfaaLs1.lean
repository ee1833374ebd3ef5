/-
  impl.fewestStations, walked. No condition.
-/
import Derived.Test.YtgcmklniacjcfaaArr
import Derived.Test.YtgcmklniacjcfaaLsF
namespace Go.Proofs.Ytgcmklniacjcfaa.Ls
open Go Go.RowKit Go.Proofs.Ytgcmklniacjcfaa Go.Proofs.Ytgcmklniacjcfaa.Fw Go.Proofs.Ytgcmklniacjcfaa.Arr
set_option maxRecDepth 100000
set_option linter.unusedVariables false
set_option linter.unusedSimpArgs false

theorem info_st : (Try.prog.info? 90).map (fun i => (i.zero, i.size, i.bytes)) = some (some (Value.agg #[Value.int IntKind.i64 0, Value.int IntKind.i64 0]), 2, 16) := by kernel_rfl

/-- A new row of pairs. -/
def pairs0 (n : Nat) : Array Value := (Array.range (n * 2)).map fun i => (#[Value.int IntKind.i64 0, Value.int IntKind.i64 0] : Array Value)[i % 2]!

theorem make_st (n : Nat) (h1 : 1 ≤ n) (hn : n ≤ 4096) (w : World) : (Instr.makeSlice 87 (.int .i64 (n : Int)) (.int .i64 (n : Int))).run Try.prog w = .ok (.slice (some ⟨w.heap.size, 0, none⟩) n n) (w.alloc (.cells (pairs0 n) 90)) := by
  obtain ⟨i0, hi0, hz0, hz1, hz2⟩ := info_parts info_st
  have hw2 : IntKind.i64.wrap (n : Int) = n := IntWalk.i64_in _ (by omega)
  have hbytes : ¬ ((281474976710656 : Int) < (16 : Int) * n) := by omega
  have hlt : ¬ ((n : Int) < 0) := by omega
  have hnk : ¬ ((n : Int) > n) := by omega
  have hcs : (Value.agg #[Value.int IntKind.i64 0, Value.int IntKind.i64 0]).cells = #[Value.int IntKind.i64 0, Value.int IntKind.i64 0] := by rfl
  simp [Instr.makeSlice, run_underlying Try.underlying87, asInt, asIntOf, run_info hi0, hw2, hz2, hbytes, hlt, run_size hi0, hz1, newRow, zeroValue, hz0, hcs, pairs0]
  intro h0
  exact absurd h0 (by omega)

theorem perm_makeB {t e : TypeId} {z : Value} {by0 : Nat} (hu : Try.prog.underlying t = some (.slice e)) (hi : (Try.prog.info? e).map (fun i => (i.zero, i.size, i.bytes)) = some (some z, 1, by0)) (hb : by0 ≤ 8) (hz : z.cells = #[z]) (L n : Nat) (hL : L ≤ n) (hn : n ≤ 1000000) (w : World) :
    (Instr.makeSlice t (.int .i64 (L : Int)) (.int .i64 (n : Int))).run Try.prog w = .ok (.slice (some ⟨w.heap.size, 0, none⟩) L n) (w.alloc (.cells (Array.replicate n z) e)) := by
  obtain ⟨i0, hi0, hz0, hz1, hz2⟩ := info_parts hi
  have hw1 : IntKind.i64.wrap (L : Int) = L := IntWalk.i64_in _ (by omega)
  have hw2 : IntKind.i64.wrap (n : Int) = n := IntWalk.i64_in _ (by omega)
  have hbytes : ¬ ((281474976710656 : Int) < (by0 : Int) * n) := by
    have h1 : (by0 : Int) * n ≤ 8 * n := Int.mul_le_mul_of_nonneg_right (by omega) (by omega)
    omega
  have hlt : ¬ ((n : Int) < 0) := by omega
  have hnk : ¬ ((L : Int) > n) := by omega
  have hn0 : ¬ ((L : Int) < 0) := by omega
  rw [← perm_rep hz]
  by_cases hk0 : n * 1 = 0
  · simp [Instr.makeSlice, run_underlying hu, asInt, asIntOf, run_info hi0, hw1, hw2, hz2, hbytes, hnk, hlt, hn0, run_size hi0, hz1, hk0, newRow, Array.range_zero']
  · simp [Instr.makeSlice, run_underlying hu, asInt, asIntOf, run_info hi0, hw1, hw2, hz2, hbytes, hnk, hlt, hn0, run_size hi0, hz1, hk0, newRow, zeroValue, hz0]
    intro h0
    exact absurd h0 (by omega)

/-- The tables, as they lie. -/
structure TabR (TB KB all : Nat) (S : TabS) (W : World) : Prop where
  tb : ∃ cs t, W.heap[TB]? = some (.cells cs t (0, 0)) ∧ cs.size = all * 2 ∧ ∀ j, j < all → cs[j * 2]? = some (.int .i64 (S.1 j).1) ∧ cs[j * 2 + 1]? = some (.int .i64 (S.1 j).2)
  kb : ∃ cs t, W.heap[KB]? = some (.cells cs t (0, 0)) ∧ cs.size = all ∧ ∀ j, j < all → cs[j]? = some (.bool (S.2 j))

theorem TabR.same {TB KB all : Nat} {S : TabS} {W W' : World} (h : TabR TB KB all S W) (h1 : W'.heap[TB]? = W.heap[TB]?) (h2 : W'.heap[KB]? = W.heap[KB]?) : TabR TB KB all S W' := by
  obtain ⟨⟨cs, t, a1, a2⟩, ⟨ds, u, b1, b2⟩⟩ := h
  exact ⟨⟨cs, t, h1.trans a1, a2⟩, ⟨ds, u, h2.trans b1, b2⟩⟩

theorem TabR.cells {TB KB all : Nat} {S : TabS} {W : World} (h : TabR TB KB all S W) {j : Nat} (hj : j < all) :
    W.cell? ⟨TB, j * 2, none⟩ = some (.int .i64 (S.1 j).1) ∧ W.cell? ⟨TB, j * 2 + 1, none⟩ = some (.int .i64 (S.1 j).2) ∧ W.cell? ⟨KB, j, none⟩ = some (.bool (S.2 j)) ∧
      W.frozen? ⟨TB, j * 2, none⟩ = false ∧ W.frozen? ⟨TB, j * 2 + 1, none⟩ = false ∧ W.frozen? ⟨KB, j, none⟩ = false := by
  obtain ⟨⟨cs, t, a1, a2, a3⟩, ⟨ds, u, b1, b2, b3⟩⟩ := h
  exact ⟨(perm_cell a1).trans (a3 j hj).1, (perm_cell a1).trans (a3 j hj).2, (perm_cell b1).trans (b3 j hj), perm_free a1, perm_free a1, perm_free b1⟩

/-- A pair is put down, and marked as known. -/
theorem TabR.put {TB KB all : Nat} {S : TabS} {W : World} (h : TabR TB KB all S W) (hne : TB ≠ KB) {j : Nat} (hj : j < all) (a b : Int) :
    TabR TB KB all (upd S.1 j (a, b), upd S.2 j true) (((W.setCell ⟨TB, j * 2, none⟩ (.int .i64 a)).setCell ⟨TB, j * 2 + 1, none⟩ (.int .i64 b)).setCell ⟨KB, j, none⟩ (.bool true)) := by
  obtain ⟨⟨cs, t, a1, a2, a3⟩, ⟨ds, u, b1, b2, b3⟩⟩ := h
  refine ⟨⟨_, t, perm_set (perm_row (perm_row a1 _) _) _ hne _, by simpa using a2, fun i hi => ?_⟩, ⟨_, u, perm_row (perm_set (perm_set b1 _ (Ne.symm hne) _) _ (Ne.symm hne) _) _, by simpa using b2, fun i hi => ?_⟩⟩
  · simp only [Array.getElem?_setIfInBounds, Array.size_setIfInBounds, upd]
    have := a3 i hi
    refine ⟨?_, ?_⟩
    · rw [if_neg (by omega)]
      by_cases e : i = j
      · subst e
        rw [if_pos rfl, if_pos (by omega), if_pos rfl]
      · rw [if_neg (by omega), if_neg e]
        exact this.1
    · by_cases e : i = j
      · subst e
        rw [if_pos rfl, if_pos (by omega), if_pos rfl]
      · rw [if_neg (by omega), if_neg (by omega), if_neg e]
        exact this.2
  · simp only [Array.getElem?_setIfInBounds, upd]
    by_cases e : i = j
    · subst e
      rw [if_pos rfl, if_pos (by omega), if_pos rfl]
    · rw [if_neg (by omega), if_neg e]
      exact b3 i hi

theorem tab_new {W : World} {all : Nat} : TabR W.heap.size (W.heap.size + 1) all (fun _ => (0, 0), fun _ => false) ((W.alloc (.cells (pairs0 all) 90)).alloc (.cells (Array.replicate all (.bool false)) 4)) := by
  refine ⟨⟨_, _, perm_alloc (perm_new rfl _) _, by simp [pairs0], fun j hj => ?_⟩, ⟨_, _, perm_new (by simp) _, by simp, fun j hj => by simp [hj]⟩⟩
  unfold pairs0
  refine ⟨?_, ?_⟩
  · rw [Array.getElem?_map, Array.getElem?_range, if_pos (by omega)]
    simp
  · rw [Array.getElem?_map, Array.getElem?_range, if_pos (by omega)]
    simp [Nat.add_mod]

set_option maxHeartbeats 16000000 in
theorem few_any {xs bs : List Int} {c : Int} {n XB xo xc BB bo bc : Nat} (hxl : xs.length = n) (hn : 1 ≤ n ∧ n ≤ 12) (hbl : bs.length = n) (hc : 1 ≤ c ∧ c ≤ 1000000) (w : World) (hXB : XB < w.heap.size) (hBB : BB < w.heap.size)
    (hx : ∀ i, i < n → w.cell? ⟨XB, xo + i, none⟩ = some (.int .i64 (xs.getD i 0))) (hb : ∀ i, i < n → w.cell? ⟨BB, bo + i, none⟩ = some (.int .i64 (bs.getD i 0)))
    (hxb : ∀ i, i < n → 0 ≤ xs.getD i 0 ∧ xs.getD i 0 ≤ c) :
    Calls Try.prog 64 #[.slice (some ⟨XB, xo, none⟩) n xc, .slice (some ⟨BB, bo, none⟩) n bc, .int .i64 c] w fun e W' => Below w.heap.size w W' ∧ e = .returned (.int .i64 (fewT xs bs c)) := by
  have hall : 2 ^ n ≤ 4096 := Nat.pow_le_pow_right (show 0 < 2 by decide) hn.2
  have hall1 : 1 ≤ 2 ^ n := Nat.one_le_two_pow
  obtain ⟨all, hal⟩ : ∃ a, a = 2 ^ n := ⟨_, rfl⟩
  rw [← hal] at hall hall1
  have hsh : wrap64 (2 ^ n) = (all : Int) := by
    rw [show ((2 : Int) ^ n) = ((2 ^ n : Nat) : Int) by simp, ← hal]
    exact IntWalk.wrap64_in _ (by omega)
  have hmk1 := fun w => make_st all hall1 hall w
  have hmk2 : ∀ W : World, (Instr.makeSlice 88 (.int .i64 (all : Int)) (.int .i64 (all : Int))).run Try.prog W = .ok (.slice (some ⟨W.heap.size, 0, none⟩) all all) (W.alloc (.cells (Array.replicate all (.bool false)) 4)) := fun W => perm_makeB Try.underlying88 perm_info_bool (by omega) rfl all all (by omega) (by omega) W
  have HAL : Hid (all = 2 ^ n) := hal
  clear hal
  go_enter Try.func64, Try.ntmps64
  go_upto_region 4 with (fail)
  obtain ⟨W2, hW2⟩ : ∃ W2, W2 = (w.alloc (.cells (pairs0 all) 90)).alloc (.cells (Array.replicate all (.bool false)) 4) := ⟨_, rfl⟩
  have hT2 : TabR w.heap.size (w.heap.size + 1) all (fun _ => (0, 0), fun _ => false) W2 := by rw [hW2]; exact tab_new
  have hb2 : Below w.heap.size w W2 := by rw [hW2]; exact ((Below.refl _ _).alloc (Nat.le_refl _) _).alloc (by simp) _
  have hs2 : W2.heap.size = w.heap.size + 2 := by rw [hW2]; simp
  rw [← hW2]
  try rw [hsh]
  clear hW2 hmk1 hmk2 hsh
  have hT3 := hT2.put (by omega) (j := 0) (by omega) 1 0
  obtain ⟨e1, e2, e3, e4, e5, e6⟩ := hT2.cells (j := 0) (by omega)
  simp only [Nat.zero_mul, Nat.zero_add] at e1 e2 e3 e4 e5 e6 hT3
  go_wp2_with fail
  obtain ⟨W3, hW3⟩ : ∃ W3, W3 = ((W2.setCell ⟨w.heap.size, 0, none⟩ (.int .i64 1)).setCell ⟨w.heap.size, 1, none⟩ (.int .i64 0)).setCell ⟨w.heap.size + 1, 0, none⟩ (.bool true) := ⟨_, rfl⟩
  rw [← hW3] at hT3
  have hb3 : Below w.heap.size w W3 := by
    rw [hW3]
    exact ((hb2.setCell (p := ⟨w.heap.size, 0, none⟩) (Nat.le_refl _) _).setCell (p := ⟨w.heap.size, 1, none⟩) (Nat.le_refl _) _).setCell (p := ⟨w.heap.size + 1, 0, none⟩) (by simp) _
  rw [← hW3]
  clear hW3 e1 e2 e3 e4 e5 e6 hT2 hb2
  go_loopw [29] (fun i wr => ∃ d : Nat, d ≤ all ∧ i = .int .i64 (d : Int) ∧ TabR w.heap.size (w.heap.size + 1) all (outT xs bs c d) wr ∧ Below w.heap.size w wr) (fun i _ => all - (intOf i).toNat)
  case atStart => exact ⟨0, Nat.zero_le _, rfl, hT3, hb3⟩
  case round =>
    obtain ⟨d, hd, rfl, hT, hbr⟩ := hrel
    by_cases hlt : d < all
    · obtain ⟨e1, e2, e3, e4, e5, e6⟩ := hT.cells hlt
      cases hk : (outT xs bs c d).2 d with
      | false =>
        rw [hk] at e3
        have HO : Hid (outT xs bs c (d + 1) = outT xs bs c d) := by
          show _ = _
          rw [outT, hk, cond_false]
        clear hk e1 e2 e4 e5
        go_wp2_with fail
        exact ⟨⟨d + 1, hlt, by simp, by rw [HO.out]; exact hT, hbr⟩, by simp [intOf]; omega⟩
      | true =>
        rw [hk] at e3
        have HO : Hid (outT xs bs c (d + 1) = inT xs bs c d (outT xs bs c d) n) := by
          show _ = _
          rw [outT, hk, cond_true, hxl]
        obtain ⟨S0, hS0⟩ : ∃ S0, S0 = outT xs bs c d := ⟨_, rfl⟩
        have HOK : Hid (∀ k, k ≤ n → OkS c (inT xs bs c d S0 k)) := fun k hk => by
          have hall2 := HAL.out
          exact okS_in (by rw [hxl]; exact hxb) (by omega) (by rw [hxl]; omega) (by rw [hS0]; exact okS_out (by omega) (by rw [hxl]; exact hxb) (by omega) d (by rw [hxl]; omega)) k (by omega)
        rw [← hS0] at HO hT
        clear hk e1 e2 e4 e5 hS0
        go_wp2_with fail
        go_loopw [39] (fun i wr2 => ∃ k : Nat, k ≤ n ∧ i = .int .i64 (k : Int) ∧ TabR w.heap.size (w.heap.size + 1) all (inT xs bs c d S0 k) wr2 ∧ Below w.heap.size w wr2) (fun i _ => n - (intOf i).toNat)
        case atStart => exact ⟨0, Nat.zero_le _, rfl, hT, hbr⟩
        case round =>
          obtain ⟨k, hk, rfl, hTk, hbk⟩ := hrel
          by_cases hltk : k < n
          · have cx := (hbk.cell (p := ⟨XB, xo + k, none⟩) hXB).trans (hx k hltk)
            have cb := (hbk.cell (p := ⟨BB, bo + k, none⟩) hBB).trans (hb k hltk)
            obtain ⟨xv, hxv⟩ : ∃ v : Int, v = xs.getD k 0 := ⟨_, rfl⟩
            obtain ⟨bv, hbv⟩ : ∃ v : Int, v = bs.getD k 0 := ⟨_, rfl⟩
            have hxr := hxb k hltk
            rw [← hxv] at cx hxr
            rw [← hbv] at cb
            have hbit := bit_val (d := d) (i := k) (by omega) (by omega)
            have hbit : bits .and .i64 ((d : Int) / 2 ^ k) 1 = if d.testBit k then 1 else 0 := hbit
            obtain ⟨av, hav⟩ : ∃ v : Int, v = ibits .andNot .i64 bv (d : Int) := ⟨_, rfl⟩
            have hnot : bits .andNot .i64 bv (d : Int) = av := hav.symm
            have HV : Hid (xv = xs.getD k 0 ∧ bv = bs.getD k 0 ∧ av = ibits .andNot .i64 bv (d : Int)) := ⟨hxv, hbv, hav⟩
            have hxok := hxb k hltk
            clear hxv hbv hav
            cases htb : d.testBit k with
            | true =>
              rw [htb, if_pos rfl] at hbit
              have HSK : Hid (inT xs bs c d S0 (k + 1) = inT xs bs c d S0 k) := by
                show _ = _
                rw [inT, stepT, skipT, htb]
                rfl
              clear htb
              go_wp2_with fail
              exact ⟨⟨k + 1, hltk, by simp, by rw [HSK.out]; exact hTk, hbk⟩, by simp [intOf]; omega⟩
            | false =>
              rw [htb, if_neg (by decide)] at hbit
              by_cases hz : av = 0
              · subst hz
                have HSK : Hid (skipT bs d k = false) := by
                  show _ = _
                  rw [skipT, htb, ← HV.out.2.1, ← HV.out.2.2]
                  rfl
                have hgt := or_gt htb
                have hall2 := HAL.out
                have hto : d ||| 2 ^ k < all := by
                  rw [hall2]
                  exact Nat.or_lt_two_pow (by omega) (Nat.pow_lt_pow_right (by decide) hltk)
                clear hall2
                have hT1 := hTk
                obtain ⟨c1, c2, c3, c4, c5, c6⟩ := hTk.cells hlt
                obtain ⟨o1, o2, o3, o4, o5, o6⟩ := hTk.cells hto
                obtain ⟨tg, hto2⟩ : ∃ v, v = d ||| 2 ^ k := ⟨_, rfl⟩
                rw [← hto2] at o1 o2 o3 o4 o5 o6 hto
                have hst := (HOK.out k hk).st d
                have hld := (HOK.out k hk).ld d
                obtain ⟨s1, hs1⟩ : ∃ v, v = ((inT xs bs c d S0 k).1 d).1 := ⟨_, rfl⟩
                obtain ⟨s2, hs2'⟩ : ∃ v, v = ((inT xs bs c d S0 k).1 d).2 := ⟨_, rfl⟩
                rw [← hs1] at c1 hst
                rw [← hs2'] at c2 hld
                have HS : Hid (s1 = ((inT xs bs c d S0 k).1 d).1 ∧ s2 = ((inT xs bs c d S0 k).1 d).2 ∧ tg = d ||| 2 ^ k) := ⟨hs1, hs2', hto2⟩
                clear hs1 hs2' hto2 htb c3 c6 c4 c5
                have cA1 := c1
                go_upto_region 13 with (fail)
                go_cut [13] (fun p wx => ∃ NX, p = .pointer (some ⟨NX, 0, none⟩) ∧ wr.heap.size ≤ NX ∧ Ext wr wx ∧ wx.heap[NX]? = some (.cells #[.int .i64 s1, .int .i64 (s2 + xv)] 90 (0, 0)))
                case first =>
                  have d1 : ∀ o, (wr.alloc o).cell? ⟨w.heap.size, d * 2, none⟩ = some (.int .i64 s1) := fun o => by
                    obtain ⟨cs, t, a1, _⟩ := hTk.tb
                    rw [perm_cell (perm_alloc a1 o), ← perm_cell a1]
                    exact c1
                  have d2 : ∀ o, (wr.alloc o).cell? ⟨w.heap.size, d * 2 + 1, none⟩ = some (.int .i64 s2) := fun o => by
                    obtain ⟨cs, t, a1, _⟩ := hTk.tb
                    rw [perm_cell (perm_alloc a1 o), ← perm_cell a1]
                    exact c2
                  go_region
                  all_goals go_wp2_with fail
                  all_goals go_meet
                  all_goals exact ⟨_, rfl, Nat.le_refl _, by first | exact ((Chg.refl _ _).alloc _).drew | exact ((Chg.refl _ _).drew.alloc _) | exact ((Chg.refl _ _).drew.alloc _).drew, by first | exact perm_new rfl _ | exact perm_drew (perm_new rfl _)⟩
                case rest =>
                  obtain ⟨NX, rfl, hNX, hE, hnx⟩ := hcut
                  obtain ⟨V1, rfl⟩ : ∃ V, V = wc := ⟨_, rfl⟩
                  have cn0 := perm_cell (i := 0) hnx
                  have cn1 := perm_cell (i := 1) hnx
                  have fn0 := perm_free (i := 0) hnx
                  have fn1 := perm_free (i := 1) hnx
                  simp only [List.getElem?_toArray, List.getElem?_cons_succ, List.getElem?_cons_zero] at cn0 cn1
                  go_upto_if 74 with (fail)
                  go_cut [] (fun wx => ∃ x1 x2 : Int, Hid ((x1, x2) = nextT c (s1, s2) xv) ∧ wx.heap[NX]? = some (.cells #[.int .i64 x1, .int .i64 x2] 90 (0, 0)) ∧ Chg (fun z => z = NX) V1 wx)
                  case first =>
                    by_cases hgr : s2 + xv > c
                    · have hN : Hid ((s1 + 1, xv) = nextT c (s1, s2) xv) := by
                        show _ = _
                        rw [nextT, if_pos hgr]
                      have hgr' : decide (s2 + xv > c) = true := decide_eq_true hgr
                      have fA := perm_free (i := 1) (perm_row (i := 0) hnx (.int .i64 (s1 + 1)))
                      have cA := perm_cell (i := 1) (perm_row (i := 0) hnx (.int .i64 (s1 + 1)))
                      have hrow := perm_row (i := 1) (perm_row (i := 0) hnx (.int .i64 (s1 + 1))) (.int .i64 xv)
                      simp only [List.getElem?_toArray, List.getElem?_cons_succ, List.getElem?_cons_zero, List.setIfInBounds_toArray, List.set_cons_succ, List.set_cons_zero] at cA hrow
                      go_wp2_with fail
                      go_meet
                      exact ⟨_, _, hN, hrow, ((Chg.refl (fun z => z = NX) _).set (a := ⟨NX, 0, none⟩) rfl _).set (a := ⟨NX, 1, none⟩) rfl _⟩
                    · have hN : Hid ((s1, s2 + xv) = nextT c (s1, s2) xv) := by
                        show _ = _
                        rw [nextT, if_neg hgr]
                      have hgr' : decide (s2 + xv > c) = false := decide_eq_false hgr
                      go_wp2_with fail
                      go_meet
                      exact ⟨_, _, hN, hnx, Chg.refl _ _⟩
                  case rest =>
                    obtain ⟨x1, x2, HN, hnx2, hC⟩ := hcut
                    obtain ⟨V2, rfl⟩ : ∃ V, V = wc := ⟨_, rfl⟩
                    have hTl : w.heap.size < wr.heap.size ∧ w.heap.size + 1 < wr.heap.size := by
                      obtain ⟨⟨cs, t, a1, _⟩, ⟨ds, u, b1, _⟩⟩ := hTk
                      exact ⟨lt_of_block a1, lt_of_block b1⟩
                    have hsE := hE.size
                    have hsC := hC.size
                    have hk2 : ∀ z, z < wr.heap.size → V2.heap[z]? = wr.heap[z]? := fun z hz => (hC.block z (by omega) (by omega)).trans (hE.block z hz id)
                    have hT2 : TabR w.heap.size (w.heap.size + 1) all (inT xs bs c d S0 k) V2 := hTk.same (hk2 _ hTl.1) (hk2 _ hTl.2)
                    have hb2 : Below w.heap.size w V2 := hbk.trans ⟨hC.os.trans hE.os, hC.tape.trans hE.tape, hC.output.trans hE.output, by omega, fun z hz => hk2 z (by omega)⟩
                    have hNl := lt_of_block hnx2
                    obtain ⟨p, hp⟩ : ∃ p : Nat, p = 2 ^ k := ⟨_, rfl⟩
                    have hp12 : p ≤ 2048 := by rw [hp]; exact Nat.pow_le_pow_right (show 0 < 2 by decide) (show k ≤ 11 by omega)
                    have hsh2 : wrap64 (2 ^ k) = (p : Int) := by
                      rw [show ((2 : Int) ^ k) = ((2 ^ k : Nat) : Int) by simp, ← hp]
                      clear hp
                      exact IntWalk.wrap64_in _ (by omega)
                    have hor : bits .or .i64 (d : Int) (p : Int) = (tg : Int) := by
                      rw [HS.out.2.2, ← hp]
                      exact or_nat (Nat.lt_of_lt_of_le hlt hall) (Nat.lt_of_le_of_lt hp12 (by decide))
                    obtain ⟨g1, g2, g3, g4, g5, g6⟩ := hT2.cells hto
                    obtain ⟨y1, hy1⟩ : ∃ v, v = ((inT xs bs c d S0 k).1 tg).1 := ⟨_, rfl⟩
                    obtain ⟨y2, hy2⟩ : ∃ v, v = ((inT xs bs c d S0 k).1 tg).2 := ⟨_, rfl⟩
                    obtain ⟨kn, hkn⟩ : ∃ v, v = (inT xs bs c d S0 k).2 tg := ⟨_, rfl⟩
                    rw [← hy1] at g1
                    rw [← hy2] at g2
                    rw [← hkn] at g3
                    have HY : Hid (y1 = ((inT xs bs c d S0 k).1 tg).1 ∧ y2 = ((inT xs bs c d S0 k).1 tg).2 ∧ kn = (inT xs bs c d S0 k).2 tg) := ⟨hy1, hy2, hkn⟩
                    -- behind the new box
                    have hOl : ∀ o, V2.heap.size < (V2.alloc o).heap.size := fun o => by simp
                    have hT3 : TabR w.heap.size (w.heap.size + 1) all (inT xs bs c d S0 k) (V2.alloc (.cells #[.int .i64 y1, .int .i64 y2] 90)) := hT2.same (((Chg.refl (fun _ => False) V2).alloc _).block _ (by omega) id) (((Chg.refl (fun _ => False) V2).alloc _).block _ (by omega) id)
                    have hn3 := perm_alloc hnx2 (.cells #[.int .i64 y1, .int .i64 y2] 90)
                    have ho3 : (V2.alloc (.cells #[.int .i64 y1, .int .i64 y2] 90)).heap[V2.heap.size]? = _ := perm_new rfl _
                    obtain ⟨i1, i2, i3, i4, i5, i6⟩ := hT3.cells hto
                    rw [← hkn] at i3
                    have n0 := perm_cell (i := 0) hn3
                    have n1 := perm_cell (i := 1) hn3
                    have p0 := perm_cell (i := 0) ho3
                    have p1 := perm_cell (i := 1) ho3
                    simp only [List.getElem?_toArray, List.getElem?_cons_succ, List.getElem?_cons_zero] at n0 n1 p0 p1
                    have hb3 : Below w.heap.size w (V2.alloc (.cells #[.int .i64 y1, .int .i64 y2] 90)) := hb2.alloc (by omega) _
                    have hput := hT3.put (by omega) hto x1 x2
                    -- the stores
                    obtain ⟨V3, hV3⟩ : ∃ V, V = V2.alloc (.cells #[.int .i64 y1, .int .i64 y2] 90) := ⟨_, rfl⟩
                    have q2 : (V3.setCell ⟨w.heap.size, tg * 2, none⟩ (.int .i64 x1)).cell? ⟨w.heap.size, tg * 2 + 1, none⟩ = some (.int .i64 y2) := by
                      obtain ⟨cs, t, a1, a2, a3⟩ := hT3.tb
                      rw [← hV3] at a1
                      rw [perm_cell (perm_row a1 _), Array.getElem?_setIfInBounds, if_neg (by omega), (a3 tg hto).2, ← hy2]
                    have q3 : (V3.setCell ⟨w.heap.size, tg * 2, none⟩ (.int .i64 x1)).frozen? ⟨w.heap.size, tg * 2 + 1, none⟩ = false := by
                      obtain ⟨cs, t, a1, a2, a3⟩ := hT3.tb
                      rw [← hV3] at a1
                      exact perm_free (perm_row a1 _)
                    have q4 : ((V3.setCell ⟨w.heap.size, tg * 2, none⟩ (.int .i64 x1)).setCell ⟨w.heap.size, tg * 2 + 1, none⟩ (.int .i64 x2)).cell? ⟨w.heap.size + 1, tg, none⟩ = some (.bool kn) := by
                      obtain ⟨cs, t, a1, a2, a3⟩ := hT3.kb
                      rw [← hV3] at a1
                      rw [perm_cell (perm_set (perm_set a1 _ (by simp) _) _ (by simp) _), a3 tg hto, ← hkn]
                    have q5 : ((V3.setCell ⟨w.heap.size, tg * 2, none⟩ (.int .i64 x1)).setCell ⟨w.heap.size, tg * 2 + 1, none⟩ (.int .i64 x2)).frozen? ⟨w.heap.size + 1, tg, none⟩ = false := by
                      obtain ⟨cs, t, a1, a2, a3⟩ := hT3.kb
                      rw [← hV3] at a1
                      exact perm_free (perm_set (perm_set a1 _ (by simp) _) _ (by simp) _)
                    have HPUT : Hid (TabR w.heap.size (w.heap.size + 1) all (upd (inT xs bs c d S0 k).1 tg (x1, x2), upd (inT xs bs c d S0 k).2 tg true) (((V3.setCell ⟨w.heap.size, tg * 2, none⟩ (.int .i64 x1)).setCell ⟨w.heap.size, tg * 2 + 1, none⟩ (.int .i64 x2)).setCell ⟨w.heap.size + 1, tg, none⟩ (.bool true)) ∧
                        Below w.heap.size w (((V3.setCell ⟨w.heap.size, tg * 2, none⟩ (.int .i64 x1)).setCell ⟨w.heap.size, tg * 2 + 1, none⟩ (.int .i64 x2)).setCell ⟨w.heap.size + 1, tg, none⟩ (.bool true))) := by
                      rw [hV3]
                      exact ⟨hput, ((hb3.setCell (p := ⟨w.heap.size, tg * 2, none⟩) (Nat.le_refl _) _).setCell (p := ⟨w.heap.size, tg * 2 + 1, none⟩) (Nat.le_refl _) _).setCell (p := ⟨w.heap.size + 1, tg, none⟩) (by simp) _⟩
                    have HST : Hid (inT xs bs c d S0 (k + 1) = cond (!kn || lessT (x1, x2) (y1, y2)) (upd (inT xs bs c d S0 k).1 tg (x1, x2), upd (inT xs bs c d S0 k).2 tg true) (inT xs bs c d S0 k)) := by
                      show _ = _
                      rw [inT, stepT, HSK.out, cond_false, ← HV.out.1, show (inT xs bs c d S0 k).1 d = (s1, s2) by rw [HS.out.1, HS.out.2.1], ← HN.out, ← HS.out.2.2, ← hkn, hy1, hy2]
                    rw [← hV3] at i1 i2 i3 i4 i5 i6 n0 n1 p0 p1 hT3 hb3
                    have HV3 : Hid (V3 = V2.alloc (.cells #[.int .i64 y1, .int .i64 y2] 90)) := hV3
                    clear hy1 hy2 hkn hput hk2 hp hV3
                    go_upto_region 18 with (fail)
                    rw [← HV3.out]
                    cases kn with
                    | false =>
                      have HS1 : Hid (inT xs bs c d S0 (k + 1) = (upd (inT xs bs c d S0 k).1 tg (x1, x2), upd (inT xs bs c d S0 k).2 tg true)) := by
                        show _ = _
                        rw [HST.out, lessT]
                        simp only [Bool.not_false, Bool.not_true, Bool.not_false, Bool.true_or, Bool.false_or, Bool.or_true, Bool.true_and, cond_true]
                      go_wp2_with fail
                      all_goals exact ⟨⟨k + 1, hltk, by simp, by rw [HS1.out]; exact HPUT.out.1, HPUT.out.2⟩, by simp [intOf]; omega⟩
                    | true =>
                      cases hA : decide (x1 < y1) with
                      | true =>
                        have HS1 : Hid (inT xs bs c d S0 (k + 1) = (upd (inT xs bs c d S0 k).1 tg (x1, x2), upd (inT xs bs c d S0 k).2 tg true)) := by
                          show _ = _
                          rw [HST.out, lessT]
                          simp only [hA, Bool.not_true, Bool.not_false, Bool.true_or, Bool.false_or, Bool.or_true, Bool.true_and, cond_true]
                        go_wp2_with fail
                        all_goals exact ⟨⟨k + 1, hltk, by simp, by rw [HS1.out]; exact HPUT.out.1, HPUT.out.2⟩, by simp [intOf]; omega⟩
                      | false =>
                        cases hB : (x1 == y1) with
                        | false =>
                          have HS1 : Hid (inT xs bs c d S0 (k + 1) = inT xs bs c d S0 k) := by
                            show _ = _
                            rw [HST.out, lessT]
                            simp only [hA, hB, Bool.not_true, Bool.not_false, Bool.false_or, Bool.or_false, Bool.false_and, Bool.true_and, cond_false]
                          go_wp2_with fail
                          all_goals exact ⟨⟨k + 1, hltk, by simp, by rw [HS1.out]; exact hT3, hb3⟩, by simp [intOf]; omega⟩
                        | true =>
                          cases hD : decide (x2 < y2) with
                          | true =>
                            have HS1 : Hid (inT xs bs c d S0 (k + 1) = (upd (inT xs bs c d S0 k).1 tg (x1, x2), upd (inT xs bs c d S0 k).2 tg true)) := by
                              show _ = _
                              rw [HST.out, lessT]
                              simp only [hA, hB, hD, Bool.not_true, Bool.not_false, Bool.true_or, Bool.false_or, Bool.or_true, Bool.true_and, cond_true]
                            go_wp2_with fail
                            all_goals exact ⟨⟨k + 1, hltk, by simp, by rw [HS1.out]; exact HPUT.out.1, HPUT.out.2⟩, by simp [intOf]; omega⟩
                          | false =>
                            have HS1 : Hid (inT xs bs c d S0 (k + 1) = inT xs bs c d S0 k) := by
                              show _ = _
                              rw [HST.out, lessT]
                              simp only [hA, hB, hD, Bool.not_true, Bool.not_false, Bool.false_or, Bool.or_false, Bool.false_and, Bool.true_and, cond_false]
                            go_wp2_with fail
                            all_goals exact ⟨⟨k + 1, hltk, by simp, by rw [HS1.out]; exact hT3, hb3⟩, by simp [intOf]; omega⟩
              · have hz' : (av != 0) = true := by simpa using hz
                have HSK : Hid (inT xs bs c d S0 (k + 1) = inT xs bs c d S0 k) := by
                  show _ = _
                  rw [inT, stepT, skipT, htb, ← HV.out.2.1, ← HV.out.2.2, hz']
                  rfl
                clear htb
                go_wp2_with fail
                exact ⟨⟨k + 1, hltk, by simp, by rw [HSK.out]; exact hTk, hbk⟩, by simp [intOf]; omega⟩
          · obtain rfl : k = n := by omega
            go_wp2_with fail
            exact ⟨⟨d + 1, hlt, by simp, by rw [HO.out]; exact hTk, hbk⟩, by simp [intOf]; omega⟩
    · obtain rfl : d = all := by omega
      have hall2 := HAL.out
      obtain ⟨f1, f2, f3, f4, f5, f6⟩ := hT.cells (j := d - 1) (by omega)
      obtain ⟨rv, hrv⟩ : ∃ v : Int, v = ((outT xs bs c d).1 (d - 1)).1 := ⟨_, rfl⟩
      have HRV : Hid (rv = fewT xs bs c) := by
        show _ = _
        rw [hrv, fewT, hxl, ← hall2]
      rw [← hrv] at f1
      have hd1 : (d : Int) - 1 = ((d - 1 : Nat) : Int) := by omega
      clear hrv hall2 f2 f3 f4 f5 f6
      go_wp2_with fail
      go_ret
      exact ⟨hbr, by rw [← HRV.out]; rfl⟩

end Go.Proofs.Ytgcmklniacjcfaa.Ls
