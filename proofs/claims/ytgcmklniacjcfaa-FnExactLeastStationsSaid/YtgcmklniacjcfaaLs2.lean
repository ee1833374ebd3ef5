/-
  impl.LeastStations: the closure, by recursion. No condition.
-/
import Derived.StillTailTactics
import Derived.Test.YtgcmklniacjcfaaArr
import Derived.Test.YtgcmklniacjcfaaLsG
namespace Go.Proofs.Ytgcmklniacjcfaa.Ls
open Go Go.RowKit Go.Proofs.Ytgcmklniacjcfaa Go.Proofs.Ytgcmklniacjcfaa.Fw Go.Proofs.Ytgcmklniacjcfaa.Arr
set_option maxRecDepth 100000
set_option linter.unusedVariables false
set_option linter.unusedSimpArgs false

/-- The captured variables' cells. -/
def lsPs (TB AB OB CB RB LB PB : Nat) : List Value := [.pointer (some ⟨TB, 0, none⟩), .pointer (some ⟨AB, 0, none⟩), .pointer (some ⟨OB, 0, none⟩), .pointer (some ⟨CB, 0, none⟩), .pointer (some ⟨RB, 0, none⟩), .pointer (some ⟨LB, 0, none⟩), .pointer (some ⟨PB, 0, none⟩)]

/-- What lies in memory while one looks for stations. -/
structure LI (TB AB OB CB RB LB PB XB xo xc BA bo bc O R rc oz rz n m : Nat) (xs bs : List Int) (S : LS) (W : World) : Prop where
  tb : W.heap[TB]? = some (.cells #[.slice (some ⟨XB, xo, none⟩) n xc] 22 (0, 0))
  ab : W.heap[AB]? = some (.cells #[.slice (some ⟨BA, bo, none⟩) n bc] 22 (0, 0))
  ob : W.heap[OB]? = some (.cells #[.slice (some ⟨O, 0, none⟩) n n] 22 (0, 0))
  cb : W.heap[CB]? = some (.cells #[.int .i64 (m : Int)] 2 (0, 0))
  rb : W.heap[RB]? = some (.cells #[.slice (some ⟨R, 0, none⟩) m rc] 22 (0, 0))
  lb : W.heap[LB]? = some (.cells #[.int .i64 S.2.2] 2 (0, 0))
  pb : W.heap[PB]? = some (.cells #[.func (.func 67) #[] (lsPs TB AB OB CB RB LB PB).toArray] 79 (0, 0))
  orow : RowL W O oz S.1
  rrow : RowL W R rz S.2.1
  ol : S.1.length = n
  rl : S.2.1.length = m
  xa : ∀ i, i < n → W.cell? ⟨XB, xo + i, none⟩ = some (.int .i64 (xs.getD i 0))
  ba : ∀ i, i < n → W.cell? ⟨BA, bo + i, none⟩ = some (.int .i64 (bs.getD i 0))
  ne : (O ≠ R ∧ O ≠ LB ∧ R ≠ LB) ∧ (O ≠ TB ∧ O ≠ AB ∧ O ≠ OB ∧ O ≠ CB ∧ O ≠ RB ∧ O ≠ PB ∧ O ≠ XB ∧ O ≠ BA) ∧ (R ≠ TB ∧ R ≠ AB ∧ R ≠ OB ∧ R ≠ CB ∧ R ≠ RB ∧ R ≠ PB ∧ R ≠ XB ∧ R ≠ BA) ∧ (LB ≠ TB ∧ LB ≠ AB ∧ LB ≠ OB ∧ LB ≠ CB ∧ LB ≠ RB ∧ LB ≠ PB ∧ LB ≠ XB ∧ LB ≠ BA)

section
variable {TB AB OB CB RB LB PB XB xo xc BA bo bc O R rc oz rz n m : Nat} {xs bs : List Int} {S : LS} {W W' : World}

theorem cell_of_same {p : Addr} (h : W'.heap[p.block]? = W.heap[p.block]?) : W'.cell? p = W.cell? p := by
  unfold World.cell?
  rw [h]

theorem LI.below (h : LI TB AB OB CB RB LB PB XB xo xc BA bo bc O R rc oz rz n m xs bs S W) (hX : XB < W.heap.size) (hB : BA < W.heap.size) (hb : ∀ k, k < W.heap.size → W'.heap[k]? = W.heap[k]?) : LI TB AB OB CB RB LB PB XB xo xc BA bo bc O R rc oz rz n m xs bs S W' := by
  obtain ⟨h1, h2, h3, h4, h5, h6, h7, h8, h9, h10, h11, h12, h13, h14⟩ := h
  exact ⟨(hb _ (lt_of_block h1)).trans h1, (hb _ (lt_of_block h2)).trans h2, (hb _ (lt_of_block h3)).trans h3, (hb _ (lt_of_block h4)).trans h4, (hb _ (lt_of_block h5)).trans h5, (hb _ (lt_of_block h6)).trans h6, (hb _ (lt_of_block h7)).trans h7,
    h8.aSamE (hb _ h8.aLtE), h9.aSamE (hb _ h9.aLtE), h10, h11, fun i hi => (cell_of_same (p := ⟨XB, xo + i, none⟩) (hb XB hX)).trans (h12 i hi), fun i hi => (cell_of_same (p := ⟨BA, bo + i, none⟩) (hb BA hB)).trans (h13 i hi), h14⟩

/-- A station is put down. -/
theorem LI.setO (h : LI TB AB OB CB RB LB PB XB xo xc BA bo bc O R rc oz rz n m xs bs S W) {i : Nat} (hi : i < n) (v : Int) : LI TB AB OB CB RB LB PB XB xo xc BA bo bc O R rc oz rz n m xs bs (S.1.set i v, S.2.1, S.2.2) (W.setCell ⟨O, i, none⟩ (.int .i64 v)) := by
  obtain ⟨h1, h2, h3, h4, h5, h6, h7, h8, h9, h10, h11, h12, h13, h14⟩ := h
  obtain ⟨⟨a1, a2, a3⟩, ⟨b1, b2, b3, b4, b5, b6, b7, b8⟩, c, d⟩ := h14
  exact ⟨perm_set h1 _ (Ne.symm b1) _, perm_set h2 _ (Ne.symm b2) _, perm_set h3 _ (Ne.symm b3) _, perm_set h4 _ (Ne.symm b4) _, perm_set h5 _ (Ne.symm b5) _, perm_set h6 _ (Ne.symm a2) _, perm_set h7 _ (Ne.symm b6) _,
    h8.set (by rw [h10]; exact hi) v, h9.other (a := ⟨O, i, none⟩) (Ne.symm a1) _, by simpa using h10, h11, fun j hj => (cell_of_same (p := ⟨XB, xo + j, none⟩) (Below.heap_setCell _ _ _ _ (Ne.symm b7))).trans (h12 j hj), fun j hj => (cell_of_same (p := ⟨BA, bo + j, none⟩) (Below.heap_setCell _ _ _ _ (Ne.symm b8))).trans (h13 j hj),
    ⟨⟨a1, a2, a3⟩, ⟨b1, b2, b3, b4, b5, b6, b7, b8⟩, c, d⟩⟩

/-- The room at a station. -/
theorem LI.setR (h : LI TB AB OB CB RB LB PB XB xo xc BA bo bc O R rc oz rz n m xs bs S W) {i : Nat} (hi : i < m) (v : Int) : LI TB AB OB CB RB LB PB XB xo xc BA bo bc O R rc oz rz n m xs bs (S.1, S.2.1.set i v, S.2.2) (W.setCell ⟨R, i, none⟩ (.int .i64 v)) := by
  obtain ⟨h1, h2, h3, h4, h5, h6, h7, h8, h9, h10, h11, h12, h13, h14⟩ := h
  obtain ⟨⟨a1, a2, a3⟩, c, ⟨b1, b2, b3, b4, b5, b6, b7, b8⟩, d⟩ := h14
  exact ⟨perm_set h1 _ (Ne.symm b1) _, perm_set h2 _ (Ne.symm b2) _, perm_set h3 _ (Ne.symm b3) _, perm_set h4 _ (Ne.symm b4) _, perm_set h5 _ (Ne.symm b5) _, perm_set h6 _ (Ne.symm a3) _, perm_set h7 _ (Ne.symm b6) _,
    h8.other (a := ⟨R, i, none⟩) a1 _, h9.set (by rw [h11]; exact hi) v, h10, by simpa using h11, fun j hj => (cell_of_same (p := ⟨XB, xo + j, none⟩) (Below.heap_setCell _ _ _ _ (Ne.symm b7))).trans (h12 j hj), fun j hj => (cell_of_same (p := ⟨BA, bo + j, none⟩) (Below.heap_setCell _ _ _ _ (Ne.symm b8))).trans (h13 j hj),
    ⟨⟨a1, a2, a3⟩, c, ⟨b1, b2, b3, b4, b5, b6, b7, b8⟩, d⟩⟩

/-- The work that is left. -/
theorem LI.setL (h : LI TB AB OB CB RB LB PB XB xo xc BA bo bc O R rc oz rz n m xs bs S W) (v : Int) : LI TB AB OB CB RB LB PB XB xo xc BA bo bc O R rc oz rz n m xs bs (S.1, S.2.1, v) (W.setCell ⟨LB, 0, none⟩ (.int .i64 v)) := by
  obtain ⟨h1, h2, h3, h4, h5, h6, h7, h8, h9, h10, h11, h12, h13, h14⟩ := h
  obtain ⟨⟨a1, a2, a3⟩, c, d, ⟨b1, b2, b3, b4, b5, b6, b7, b8⟩⟩ := h14
  exact ⟨perm_set h1 _ (Ne.symm b1) _, perm_set h2 _ (Ne.symm b2) _, perm_set h3 _ (Ne.symm b3) _, perm_set h4 _ (Ne.symm b4) _, perm_set h5 _ (Ne.symm b5) _, by simpa using perm_row (i := 0) h6 (.int .i64 v), perm_set h7 _ (Ne.symm b6) _,
    h8.other (a := ⟨LB, 0, none⟩) a2 _, h9.other (a := ⟨LB, 0, none⟩) a3 _, h10, h11, fun j hj => (cell_of_same (p := ⟨XB, xo + j, none⟩) (Below.heap_setCell _ _ _ _ (Ne.symm b7))).trans (h12 j hj), fun j hj => (cell_of_same (p := ⟨BA, bo + j, none⟩) (Below.heap_setCell _ _ _ _ (Ne.symm b8))).trans (h13 j hj),
    ⟨⟨a1, a2, a3⟩, c, d, ⟨b1, b2, b3, b4, b5, b6, b7, b8⟩⟩⟩
end

/-- sumOf: the world stays as it is. -/
theorem sum_still {R o c : Nat} {l : List Int} (W : World) (hl : l.length ≤ 1000) (hok : okR l = true) (hrow : ∀ i, i < l.length → W.cell? ⟨R, o + i, none⟩ = some (.int .i64 (l.getD i 0))) :
    Calls Try.prog 66 #[.slice (some ⟨R, o, none⟩) l.length c] W fun e W' => e = .returned (.int .i64 (sumL l)) ∧ W' = W := by
  obtain ⟨n, hn⟩ : ∃ n, n = l.length := ⟨_, rfl⟩
  have HN : Hid (n = l.length) := hn
  have HOK : Hid (okR l = true) := hok
  rw [← hn]
  clear hn hok
  go_enter Try.func66, Try.ntmps66
  go_wp2_with fail
  go_loopw [3, 8] (fun s i wr => ∃ k : Nat, k ≤ n ∧ i = .int .i64 (k : Int) ∧ s = .int .i64 (sumK l k) ∧ wr = W) (fun _ i _ => n - (intOf i).toNat)
  case atStart => exact ⟨0, Nat.zero_le _, rfl, rfl, rfl⟩
  case round =>
    obtain ⟨k, hk, rfl, rfl, rfl⟩ := hrel
    by_cases hlt : k < n
    · have hc := hrow k (by rw [← HN.out]; exact hlt)
      have hb1 := sumK_bound HOK.out k
      have hb2 := okR_getD HOK.out k
      obtain ⟨v, hv⟩ : ∃ v : Int, v = l.getD k 0 := ⟨_, rfl⟩
      obtain ⟨s, hs⟩ : ∃ v : Int, v = sumK l k := ⟨_, rfl⟩
      rw [← hv] at hc hb2
      rw [← hs] at hb1
      rw [← hs]
      have HS : Hid (sumK l (k + 1) = s + v) := by
        show _ = _
        rw [sumK, hs, hv]
      have hnn := HN.out
      have hk8 : (k : Int) ≤ 1000 := by omega
      clear hnn hv hs
      go_wp2_with fail
      refine ⟨⟨k + 1, hlt, by simp, by rw [HS.out], ?_⟩, by simp [intOf]; omega⟩
      first | exact True.intro | rfl
    · obtain rfl : k = n := by omega
      have HS : Hid (sumL l = sumK l k) := by
        show _ = _
        rw [sumL, ← HN.out]
      go_wp2_with fail
      go_ret
      refine ⟨by rw [HS.out]; rfl, ?_⟩
      first | exact True.intro | rfl

set_option maxHeartbeats 16000000 in
theorem put_any {TB AB OB CB RB LB PB XB xo xc BA bo bc O R rc oz rz n m : Nat} {xs bs : List Int} (hn : 1 ≤ n ∧ n ≤ 12) (hxl : xs.length = n) (hbl : bs.length = n) (hm : m ≤ 1000) (hrc : m ≤ rc) :
    ∀ (r i : Nat) (S S' : LS) (b : Bool) (W : World), i + r = n → XB < W.heap.size → BA < W.heap.size → LI TB AB OB CB RB LB PB XB xo xc BA bo bc O R rc oz rz n m xs bs S W → putP xs bs m r S = some (b, S') →
      Calls Try.prog 67 (.int .i64 (i : Int) :: lsPs TB AB OB CB RB LB PB).toArray W fun e W' => e = .returned (.bool b) ∧ LI TB AB OB CB RB LB PB XB xo xc BA bo bc O R rc oz rz n m xs bs S' W' ∧ Chg (fun k => k = O ∨ k = R ∨ k = LB) W W' := by
  intro r
  induction r with
  | zero =>
    intro i S S' b W hir hX hB hI hr
    cases hr
    have ctb := perm_cell (i := 0) hI.tb
    simp only [List.getElem?_toArray, List.getElem?_cons_zero] at ctb
    have heq : ((i : Int) == (n : Int)) = true := by simp; omega
    unfold lsPs
    go_enter Try.func67, Try.ntmps67
    go_wp2_with fail
    go_ret
    exact ⟨rfl, hI, Chg.refl _ _⟩
  | succ r ih =>
    intro i S S' b W hir hX hB hI hr
    have ctb := perm_cell (i := 0) hI.tb
    simp only [List.getElem?_toArray, List.getElem?_cons_zero] at ctb
    have heq : ((i : Int) == (n : Int)) = false := by
      simp only [beq_eq_false_iff_ne]
      omega
    have hi : xs.length - (r + 1) = i := by omega
    have HR : Hid (scanP (tryP (putP xs bs m r) (xs.getD i 0) i m) (m - (firstP (bs.getD i 0) S.1 i).toNat) (firstP (bs.getD i 0) S.1 i).toNat S = some (b, S')) := by
      have := hr
      unfold putP at this
      rw [hi] at this
      exact this
    clear hr hi
    unfold lsPs
    go_enter Try.func67, Try.ntmps67
    go_wp2_with fail
    go_loopw [10, 18] (fun f k wr => ∃ q : Nat, q ≤ i ∧ k = .int .i64 (q : Int) ∧ f = .int .i64 (firstP (bs.getD i 0) S.1 q) ∧ LI TB AB OB CB RB LB PB XB xo xc BA bo bc O R rc oz rz n m xs bs S wr ∧ Ext W wr) (fun _ k _ => i - (intOf k).toNat)
    case atStart => exact ⟨0, Nat.zero_le _, rfl, rfl, hI, Chg.refl _ _⟩
    case round =>
      obtain ⟨q, hq, rfl, rfl, hIq, hEq⟩ := hrel
      by_cases hlt : q < i
      · have ctq := perm_cell (i := 0) hIq.tb
        have caq := perm_cell (i := 0) hIq.ab
        have coq := perm_cell (i := 0) hIq.ob
        simp only [List.getElem?_toArray, List.getElem?_cons_zero] at ctq caq coq
        obtain ⟨bv, hbv⟩ : ∃ v : Int, v = bs.getD i 0 := ⟨_, rfl⟩
        have cbv : wr.cell? ⟨BA, bo + i, none⟩ = some (.int .i64 bv) := by rw [hbv]; exact hIq.ba i (by omega)
        obtain ⟨ov, hov⟩ : ∃ v : Int, v = S.1.getD q 0 := ⟨_, rfl⟩
        have cov : wr.cell? ⟨O, q, none⟩ = some (.int .i64 ov) := by rw [hov]; exact hIq.orow.cell (by rw [hIq.ol]; omega)
        obtain ⟨fv, hfv⟩ : ∃ v : Int, v = firstP (bs.getD i 0) S.1 q := ⟨_, rfl⟩
        rw [← hfv]
        obtain ⟨tv, htv⟩ : ∃ v : Int, v = ibits .and .i64 (bv / 2 ^ q) 1 := ⟨_, rfl⟩
        have hbits : bits .and .i64 (bv / 2 ^ q) 1 = tv := htv.symm
        cases hbb : (tv == 1) with
        | false =>
          have HF : Hid (firstP (bs.getD i 0) S.1 (q + 1) = fv) := by
            show _ = _
            rw [firstP, befB, ← hbv, ← htv, hbb, if_neg (by decide), hfv, hbv]
          clear hbv hov hfv htv
          go_wp2_with fail
          exact ⟨⟨q + 1, hlt, by simp, by rw [HF.out], hIq, hEq⟩, by simp [intOf]; omega⟩
        | true =>
          have HF : Hid (firstP (bs.getD i 0) S.1 (q + 1) = maxI fv ov) := by
            show _ = _
            rw [firstP, befB, ← hbv, ← htv, hbb, if_pos rfl, hfv, hov, hbv]
          clear hbv hov hfv htv
          go_wp2_with fail
          exact ⟨⟨q + 1, hlt, by simp, by rw [HF.out]; rfl, hIq, hEq⟩, by simp [intOf]; omega⟩
      · obtain rfl : q = i := by omega
        obtain ⟨f0, hf0⟩ : ∃ k : Nat, firstP (bs.getD q 0) S.1 q = (k : Int) := ⟨(firstP (bs.getD q 0) S.1 q).toNat, by have := firstP_nn (b := bs.getD q 0) (out := S.1) q; omega⟩
        have HR1 := HR.out
        rw [hf0, Int.toNat_natCast] at HR1
        rw [hf0]
        have HR2 : Hid (scanP (tryP (putP xs bs m r) (xs.getD q 0) q m) (m - f0) f0 S = some (b, S')) := HR1
        clear HR1 HR hf0
        go_wp2_with fail
        go_loopw [12] (fun s wr => ∃ k : Nat, s = .int .i64 (k : Int) ∧ ∃ Sk : LS, Hid (scanP (tryP (putP xs bs m r) (xs.getD q 0) q m) (m - k) k Sk = some (b, S')) ∧ LI TB AB OB CB RB LB PB XB xo xc BA bo bc O R rc oz rz n m xs bs Sk wr ∧ Chg (fun k => k = O ∨ k = R ∨ k = LB) W wr) (fun s _ => m - (intOf s).toNat)
        case atStart => exact ⟨f0, rfl, S, HR2, hIq, hEq.weak _⟩
        case round =>
          obtain ⟨k, rfl, Sk, HG, hIk, hCk⟩ := hrel
          have cck := perm_cell (i := 0) hIk.cb
          simp only [List.getElem?_toArray, List.getElem?_cons_zero] at cck
          have hsk := hCk.size
          by_cases hlt : k < m
          · have hg := HG.out
            rw [show m - k = (m - k - 1) + 1 by omega] at hg
            obtain ⟨⟨b1, S1⟩, hf1, hg1⟩ := Option.bind_eq_some_iff.1 hg
            rw [show m - k - 1 = m - (k + 1) by omega] at hg1
            have HG1 : Hid (cond b1 (some (b1, S1)) (scanP (tryP (putP xs bs m r) (xs.getD q 0) q m) (m - (k + 1)) (k + 1) S1) = some (b, S')) := hg1
            obtain ⟨hok, hf2⟩ := cond_some hf1
            unfold okL at hok
            simp only [Bool.and_eq_true, decide_eq_true_eq] at hok
            obtain ⟨x, hx⟩ : ∃ v : Int, v = xs.getD q 0 := ⟨_, rfl⟩
            obtain ⟨rm, hrm⟩ : ∃ v : Int, v = Sk.2.1.getD k 0 := ⟨_, rfl⟩
            rw [← hx] at hok
            rw [← hx, ← hrm] at hf2
            obtain ⟨ok1, ok2, ok3, ok5, ok6⟩ := hok
            have ok34 := okR_getD ok3 k
            rw [← hrm] at ok34
            have HO3 : Hid (okR Sk.2.1 = true) := ok3
            clear ok3
            have HX : Hid (x = xs.getD q 0 ∧ rm = Sk.2.1.getD k 0) := ⟨hx, hrm⟩
            have HF2 : Hid (cond (decide (x > rm)) (some (false, Sk)) (cond (decide (Sk.2.2 - x ≤ sumL (Sk.2.1.set k (rm - x)))) (Option.bind (putP xs bs m r (Sk.1.set q (k : Int), Sk.2.1.set k (rm - x), Sk.2.2 - x)) fun r => cond r.1 (some r) (cond (decide (r.2.2.1 = Sk.2.1.set k (rm - x)) && decide (r.2.2.2 = Sk.2.2 - x)) (some (false, (r.2.1, Sk.2.1, Sk.2.2))) none)) (some (false, (Sk.1.set q (k : Int), Sk.2.1, Sk.2.2)))) = some (b1, S1)) := hf2
            have ctk := perm_cell (i := 0) hIk.tb
            have crk := perm_cell (i := 0) hIk.rb
            simp only [List.getElem?_toArray, List.getElem?_cons_zero] at ctk crk
            have cxk : wr.cell? ⟨XB, xo + q, none⟩ = some (.int .i64 x) := by rw [hx]; exact hIk.xa q (by omega)
            have crmk : wr.cell? ⟨R, k, none⟩ = some (.int .i64 rm) := by rw [hrm]; exact hIk.rrow.cell (by rw [hIk.rl]; omega)
            clear hg hg1 hf1 hf2 hx hrm HG
            go_upto_region 13 with (fail)
            go_cut [50] (fun v wx => v = .bool (decide (x > rm)) ∧ wx.heap = wr.heap ∧ wx.os = wr.os ∧ wx.tape = wr.tape ∧ wx.output = wr.output)
            case first =>
              go_region
              all_goals go_wp2_with fail
              all_goals go_meet
              all_goals exact ⟨rfl, rfl, rfl, rfl, rfl⟩
            case rest =>
              obtain ⟨rfl, he1, he2, he3, he4⟩ := hcut
              obtain ⟨V1, rfl⟩ : ∃ V, V = wc := ⟨_, rfl⟩
              have hXk : XB < wr.heap.size := by omega
              have hBk : BA < wr.heap.size := by omega
              have hI1 := hIk.below (W' := V1) hXk hBk fun k _ => by rw [he1]
              have hC1 : Chg (fun k => k = O ∨ k = R ∨ k = LB) W V1 := ⟨he2.trans hCk.os, he3.trans hCk.tape, he4.trans hCk.output, by rw [he1]; exact hCk.size, fun z hz hn => by rw [he1]; exact hCk.block z hz hn⟩
              clear he1 he2 he3 he4
              by_cases hgx : x > rm
              · have hgx' : decide (x > rm) = true := decide_eq_true hgx
                rw [hgx']
                have HE : Hid (b1 = false ∧ S1 = Sk) := by
                  have := HF2.out
                  rw [hgx'] at this
                  cases this
                  exact ⟨rfl, rfl⟩
                clear hgx'
                go_wp2_with fail
                refine ⟨⟨k + 1, by simp, Sk, ?_, hI1, hC1⟩, by simp [intOf]; omega⟩
                have := HG1.out
                rw [HE.out.1, HE.out.2] at this
                exact this
              · have hgx' : decide (x > rm) = false := decide_eq_false hgx
                rw [hgx']
                have HF3 : Hid (cond (decide (Sk.2.2 - x ≤ sumL (Sk.2.1.set k (rm - x)))) (Option.bind (putP xs bs m r (Sk.1.set q (k : Int), Sk.2.1.set k (rm - x), Sk.2.2 - x)) fun r => cond r.1 (some r) (cond (decide (r.2.2.1 = Sk.2.1.set k (rm - x)) && decide (r.2.2.2 = Sk.2.2 - x)) (some (false, (r.2.1, Sk.2.1, Sk.2.2))) none)) (some (false, (Sk.1.set q (k : Int), Sk.2.1, Sk.2.2))) = some (b1, S1)) := by
                  have := HF2.out
                  rw [hgx', cond_false] at this
                  exact this
                have HOKR : Hid (okR (Sk.2.1.set k (rm - x)) = true) := okR_set HO3.out (by omega) (by omega)
                clear hgx' HF2
                have co1 := perm_cell (i := 0) hI1.ob
                simp only [List.getElem?_toArray, List.getElem?_cons_zero] at co1
                have cO1 := hI1.orow.cell (i := q) (by rw [hI1.ol]; omega)
                have fO1 := hI1.orow.free q
                go_upto_region 15 with (fail)
                obtain ⟨V2, hV2⟩ : ∃ V, V = V1.setCell ⟨O, q, none⟩ (.int .i64 (k : Int)) := ⟨_, rfl⟩
                have hI2 : LI TB AB OB CB RB LB PB XB xo xc BA bo bc O R rc oz rz n m xs bs (Sk.1.set q (k : Int), Sk.2.1, Sk.2.2) V2 := by rw [hV2]; exact hI1.setO (by omega) _
                have hC2 : Chg (fun k => k = O ∨ k = R ∨ k = LB) W V2 := by rw [hV2]; exact hC1.set (a := ⟨O, q, none⟩) (.inl rfl) _
                rw [← hV2]
                clear hV2 co1 cO1 fO1
                -- the room
                have ct2 := perm_cell (i := 0) hI2.tb
                have cr2 := perm_cell (i := 0) hI2.rb
                simp only [List.getElem?_toArray, List.getElem?_cons_zero] at ct2 cr2
                have cx2 : V2.cell? ⟨XB, xo + q, none⟩ = some (.int .i64 x) := by rw [HX.out.1]; exact hI2.xa q (by omega)
                have cm2 : V2.cell? ⟨R, k, none⟩ = some (.int .i64 rm) := by rw [HX.out.2]; exact hI2.rrow.cell (by rw [hI2.rl]; omega)
                have fm2 := hI2.rrow.free k
                go_cut [] (fun wx => LI TB AB OB CB RB LB PB XB xo xc BA bo bc O R rc oz rz n m xs bs (Sk.1.set q (k : Int), Sk.2.1.set k (rm - x), Sk.2.2) wx ∧ Chg (fun k => k = O ∨ k = R ∨ k = LB) W wx)
                case first =>
                  have hs2 := hC2.size
                  have hd := hI2.below (W' := V2.drew) (by omega) (by omega) fun _ _ => rfl
                  go_region
                  all_goals go_wp2_with fail
                  all_goals go_meet
                  all_goals exact ⟨hd.setR hlt (rm - x), hC2.drew.set (a := ⟨R, k, none⟩) (.inr (.inl rfl)) _⟩
                case rest =>
                  obtain ⟨hI3, hC3⟩ := hcut
                  obtain ⟨V3, rfl⟩ : ∃ V, V = wc := ⟨_, rfl⟩
                  clear ct2 cr2 cx2 cm2 fm2
                  -- the work left
                  have ct3 := perm_cell (i := 0) hI3.tb
                  have cl3 := perm_cell (i := 0) hI3.lb
                  have fl3 := perm_free (i := 0) hI3.lb
                  simp only [List.getElem?_toArray, List.getElem?_cons_zero] at ct3 cl3
                  have cx3 : V3.cell? ⟨XB, xo + q, none⟩ = some (.int .i64 x) := by rw [HX.out.1]; exact hI3.xa q (by omega)
                  go_upto_region 16 with (fail)
                  go_cut [] (fun wx => LI TB AB OB CB RB LB PB XB xo xc BA bo bc O R rc oz rz n m xs bs (Sk.1.set q (k : Int), Sk.2.1.set k (rm - x), Sk.2.2 - x) wx ∧ Chg (fun k => k = O ∨ k = R ∨ k = LB) W wx)
                  case first =>
                    have hs3 := hC3.size
                    have hd := hI3.below (W' := V3.drew) (by omega) (by omega) fun _ _ => rfl
                    go_region
                    all_goals go_wp2_with fail
                    all_goals go_meet
                    all_goals exact ⟨hd.setL (Sk.2.2 - x), hC3.drew.set (a := ⟨LB, 0, none⟩) (.inr (.inr rfl)) _⟩
                  case rest =>
                    obtain ⟨hI4, hC4⟩ := hcut
                    obtain ⟨V4, rfl⟩ : ∃ V, V = wc := ⟨_, rfl⟩
                    clear ct3 cl3 cx3 fl3
                    obtain ⟨v, hv⟩ : ∃ v, v = sumL (Sk.2.1.set k (rm - x)) := ⟨_, rfl⟩
                    have hrest := HF3.out
                    rw [← hv] at hrest
                    have hs4 := hC4.size
                    have hP : ∀ V, Ext V4 V → LI TB AB OB CB RB LB PB XB xo xc BA bo bc O R rc oz rz n m xs bs (Sk.1.set q (k : Int), Sk.2.1.set k (rm - x), Sk.2.2 - x) V := fun V hV => hI4.below (by omega) (by omega) fun z hz => hV.block z hz id
                    have hPS : ∀ V S5, LI TB AB OB CB RB LB PB XB xo xc BA bo bc O R rc oz rz n m xs bs S5 V → V.cell? ⟨RB, 0, none⟩ = some (.slice (some ⟨R, 0, none⟩) m rc) ∧ V.cell? ⟨PB, 0, none⟩ = some (.func (.func 67) #[] #[.pointer (some ⟨TB, 0, none⟩), .pointer (some ⟨AB, 0, none⟩), .pointer (some ⟨OB, 0, none⟩), .pointer (some ⟨CB, 0, none⟩), .pointer (some ⟨RB, 0, none⟩), .pointer (some ⟨LB, 0, none⟩), .pointer (some ⟨PB, 0, none⟩)]) := fun V S5 h => ⟨perm_cell h.rb, perm_cell h.pb⟩
                    have hPL : ∀ V, Ext V4 V → V.cell? ⟨LB, 0, none⟩ = some (.int .i64 (Sk.2.2 - x)) := fun V hV => perm_cell (hP V hV).lb
                    have hsum : ∀ V, Ext V4 V → Calls Try.prog 66 #[.slice (some ⟨R, 0, none⟩) m rc] V fun e V' => e = .returned (.int .i64 v) ∧ V' = V := fun V hV => by
                      have h := sum_still (c := rc) V (by rw [List.length_set, hI2.rl]; exact hm) HOKR.out (o := 0) (R := R) fun i hi => by rw [Nat.zero_add]; exact (hP V hV).rrow.cell hi
                      rw [List.length_set, hI2.rl, ← hv] at h
                      exact h
                    have hE0 : Ext V4 V4.drew := (Chg.refl _ _).drew
                    have hX4 : XB < V4.heap.size := by omega
                    have hB4 : BA < V4.heap.size := by omega
                    by_cases hle : Sk.2.2 - x ≤ v
                    · have hle' : decide (Sk.2.2 - x ≤ v) = true := decide_eq_true hle
                      rw [hle', cond_true] at hrest
                      obtain ⟨⟨b2, S2⟩, hp2, hp3⟩ := Option.bind_eq_some_iff.1 hrest
                      have hput : ∀ V, Ext V4 V → Calls Try.prog 67 (.int .i64 ((q + 1 : Nat) : Int) :: lsPs TB AB OB CB RB LB PB).toArray V fun e V' => e = .returned (.bool b2) ∧ LI TB AB OB CB RB LB PB XB xo xc BA bo bc O R rc oz rz n m xs bs S2 V' ∧ Chg (fun k => k = O ∨ k = R ∨ k = LB) V V' := fun V hV => ih (q + 1) _ S2 b2 V (by omega) (by have := hV.size; omega) (by have := hV.size; omega) (hP V hV) hp2
                      have HP3 : Hid (cond b2 (some (b2, S2)) (cond (decide (S2.2.1 = Sk.2.1.set k (rm - x)) && decide (S2.2.2 = Sk.2.2 - x)) (some (false, (S2.1, Sk.2.1, Sk.2.2))) none) = some (b1, S1)) := hp3
                      unfold lsPs at hput
                      rw [show ((q + 1 : Nat) : Int) = (q : Int) + 1 by omega] at hput
                      obtain ⟨c01, c02⟩ := hPS _ _ (hP _ hE0)
                      have c03 := hPL _ hE0
                      clear hrest hp2 hp3 hv
                      go_upto_region 17 with (fail)
                      go_cut [80] (fun u wx => u = .bool b2 ∧ LI TB AB OB CB RB LB PB XB xo xc BA bo bc O R rc oz rz n m xs bs S2 wx ∧ Chg (fun k => k = O ∨ k = R ∨ k = LB) W wx)
                      case first =>
                        go_still_tail 8, (by kernel_rfl)
                        still_call (hsum _ hE0)
                        repeat still_step
                        refine wpStill_nil ?_
                        change wpList _ _ _ _ _ V4.drew
                        go_wp2_with (go_at_call 67; refine (hput _ hE0).mono ?_; rintro e V6 ⟨rfl, hI6, hC6⟩)
                        all_goals go_meet
                        all_goals exact ⟨rfl, hI6, hC4.drew.trans hC6 fun z _ h => h⟩
                      case rest =>
                        obtain ⟨rfl, hI6, hC6⟩ := hcut
                        obtain ⟨V6, rfl⟩ : ∃ V, V = wc := ⟨_, rfl⟩
                        clear hput c01 c02 c03 hE0 hsum hPL hPS hP
                        cases b2 with
                        | true =>
                          have HE : Hid (b = true ∧ S' = S2) := by
                            have h1 := HP3.out
                            cases h1
                            have h2 := HG1.out
                            cases h2
                            exact ⟨rfl, rfl⟩
                          go_wp2_with fail
                          go_ret
                          exact ⟨by rw [HE.out.1]; rfl, by rw [HE.out.2]; exact hI6, hC6⟩
                        | false =>
                          obtain ⟨hq1, hq2⟩ := cond_some HP3.out
                          simp only [Bool.and_eq_true, decide_eq_true_eq] at hq1
                          obtain ⟨hr1, hr2⟩ := hq1
                          obtain ⟨T1, T2, T3⟩ := S2
                          simp only at hr1 hr2 hq2
                          subst hr1
                          subst hr2
                          have HQ : Hid ((false, (T1, Sk.2.1, Sk.2.2)) = (b1, S1)) := Option.some.inj hq2
                          clear hq2
                          have ct6 := perm_cell (i := 0) hI6.tb
                          have cl6 := perm_cell (i := 0) hI6.lb
                          have fl6 := perm_free (i := 0) hI6.lb
                          simp only [List.getElem?_toArray, List.getElem?_cons_zero] at ct6 cl6
                          have cx6 : V6.cell? ⟨XB, xo + q, none⟩ = some (.int .i64 x) := by rw [HX.out.1]; exact hI6.xa q (by omega)
                          have hs6 := hC6.size
                          go_upto_region 19 with (fail)
                          go_cut [] (fun wx => LI TB AB OB CB RB LB PB XB xo xc BA bo bc O R rc oz rz n m xs bs (T1, Sk.2.1.set k (rm - x), Sk.2.2) wx ∧ Chg (fun k => k = O ∨ k = R ∨ k = LB) W wx)
                          case first =>
                            have hd := hI6.below (W' := V6.drew) (by omega) (by omega) fun _ _ => rfl
                            have hL := hd.setL (Sk.2.2 - x + x)
                            rw [show Sk.2.2 - x + x = Sk.2.2 by omega] at hL
                            go_region
                            all_goals go_wp2_with fail
                            all_goals go_meet
                            all_goals exact ⟨hL, hC6.drew.set (a := ⟨LB, 0, none⟩) (.inr (.inr rfl)) _⟩
                          case rest =>
                            obtain ⟨hI7, hC7⟩ := hcut
                            obtain ⟨V7, rfl⟩ : ∃ V, V = wc := ⟨_, rfl⟩
                            clear ct6 cl6 fl6 cx6
                            have ct7 := perm_cell (i := 0) hI7.tb
                            have cr7 := perm_cell (i := 0) hI7.rb
                            simp only [List.getElem?_toArray, List.getElem?_cons_zero] at ct7 cr7
                            have cx7 : V7.cell? ⟨XB, xo + q, none⟩ = some (.int .i64 x) := by rw [HX.out.1]; exact hI7.xa q (by omega)
                            have cm7 : V7.cell? ⟨R, k, none⟩ = some (.int .i64 (rm - x)) := by
                              have := hI7.rrow.cell (i := k) (by rw [List.length_set, hI2.rl]; exact hlt)
                              rw [getD_set_self7 (by rw [hI2.rl]; exact hlt)] at this
                              exact this
                            have fm7 := hI7.rrow.free k
                            have hs7 := hC7.size
                            go_upto_region 20 with (fail)
                            have hd := hI7.below (W' := V7.drew) (by omega) (by omega) fun _ _ => rfl
                            have hL := hd.setR hlt (rm - x + x)
                            rw [List.set_set, show rm - x + x = Sk.2.1.getD k 0 by rw [← HX.out.2]; omega, set_getD_self7] at hL
                            rw [← HX.out.2] at hL
                            have HLL : Hid (LI TB AB OB CB RB LB PB XB xo xc BA bo bc O R rc oz rz n m xs bs (T1, Sk.2.1, Sk.2.2) (V7.drew.setCell ⟨R, k, none⟩ (.int .i64 rm)) ∧ Chg (fun k => k = O ∨ k = R ∨ k = LB) W (V7.drew.setCell ⟨R, k, none⟩ (.int .i64 rm))) := ⟨hL, hC7.drew.set (a := ⟨R, k, none⟩) (.inr (.inl rfl)) (.int .i64 rm)⟩
                            clear hL hd
                            go_region
                            all_goals go_wp2_with fail
                            all_goals
                              refine ⟨⟨k + 1, by simp, _, ?_, HLL.out.1, HLL.out.2⟩, by simp [intOf]; omega⟩
                              have h := HG1.out
                              cases HQ.out
                              exact h
                    · have hle' : decide (Sk.2.2 - x ≤ v) = false := decide_eq_false hle
                      rw [hle', cond_false] at hrest
                      have HQ : Hid ((false, (Sk.1.set q (k : Int), Sk.2.1, Sk.2.2)) = (b1, S1)) := Option.some.inj hrest
                      obtain ⟨c01, c02⟩ := hPS _ _ (hP _ hE0)
                      have c03 := hPL _ hE0
                      clear hrest hv
                      go_upto_region 17 with (fail)
                      go_cut [80] (fun u wx => u = .bool false ∧ LI TB AB OB CB RB LB PB XB xo xc BA bo bc O R rc oz rz n m xs bs (Sk.1.set q (k : Int), Sk.2.1.set k (rm - x), Sk.2.2 - x) wx ∧ Chg (fun k => k = O ∨ k = R ∨ k = LB) W wx)
                      case first =>
                        go_still_tail 8, (by kernel_rfl)
                        still_call (hsum _ hE0)
                        repeat still_step
                        refine wpStill_nil ?_
                        change wpList _ _ _ _ _ V4.drew
                        go_wp2_with fail
                        all_goals go_meet
                        all_goals exact ⟨rfl, hP _ hE0, hC4.drew⟩
                      case rest =>
                        obtain ⟨rfl, hI6, hC6⟩ := hcut
                        obtain ⟨V6, rfl⟩ : ∃ V, V = wc := ⟨_, rfl⟩
                        clear c01 c02 c03 hE0 hsum hPL hPS hP
                        have ct6 := perm_cell (i := 0) hI6.tb
                        have cl6 := perm_cell (i := 0) hI6.lb
                        have fl6 := perm_free (i := 0) hI6.lb
                        simp only [List.getElem?_toArray, List.getElem?_cons_zero] at ct6 cl6
                        have cx6 : V6.cell? ⟨XB, xo + q, none⟩ = some (.int .i64 x) := by rw [HX.out.1]; exact hI6.xa q (by omega)
                        have hs6 := hC6.size
                        go_upto_region 19 with (fail)
                        go_cut [] (fun wx => LI TB AB OB CB RB LB PB XB xo xc BA bo bc O R rc oz rz n m xs bs (Sk.1.set q (k : Int), Sk.2.1.set k (rm - x), Sk.2.2) wx ∧ Chg (fun k => k = O ∨ k = R ∨ k = LB) W wx)
                        case first =>
                          have hd := hI6.below (W' := V6.drew) (by omega) (by omega) fun _ _ => rfl
                          have hL := hd.setL (Sk.2.2 - x + x)
                          rw [show Sk.2.2 - x + x = Sk.2.2 by omega] at hL
                          go_region
                          all_goals go_wp2_with fail
                          all_goals go_meet
                          all_goals exact ⟨hL, hC6.drew.set (a := ⟨LB, 0, none⟩) (.inr (.inr rfl)) _⟩
                        case rest =>
                          obtain ⟨hI7, hC7⟩ := hcut
                          obtain ⟨V7, rfl⟩ : ∃ V, V = wc := ⟨_, rfl⟩
                          clear ct6 cl6 fl6 cx6
                          have ct7 := perm_cell (i := 0) hI7.tb
                          have cr7 := perm_cell (i := 0) hI7.rb
                          simp only [List.getElem?_toArray, List.getElem?_cons_zero] at ct7 cr7
                          have cx7 : V7.cell? ⟨XB, xo + q, none⟩ = some (.int .i64 x) := by rw [HX.out.1]; exact hI7.xa q (by omega)
                          have cm7 : V7.cell? ⟨R, k, none⟩ = some (.int .i64 (rm - x)) := by
                            have := hI7.rrow.cell (i := k) (by rw [List.length_set, hI2.rl]; exact hlt)
                            rw [getD_set_self7 (by rw [hI2.rl]; exact hlt)] at this
                            exact this
                          have fm7 := hI7.rrow.free k
                          have hs7 := hC7.size
                          go_upto_region 20 with (fail)
                          have hd := hI7.below (W' := V7.drew) (by omega) (by omega) fun _ _ => rfl
                          have hL := hd.setR hlt (rm - x + x)
                          rw [List.set_set, show rm - x + x = Sk.2.1.getD k 0 by rw [← HX.out.2]; omega, set_getD_self7] at hL
                          rw [← HX.out.2] at hL
                          have HLL : Hid (LI TB AB OB CB RB LB PB XB xo xc BA bo bc O R rc oz rz n m xs bs (Sk.1.set q (k : Int), Sk.2.1, Sk.2.2) (V7.drew.setCell ⟨R, k, none⟩ (.int .i64 rm)) ∧ Chg (fun k => k = O ∨ k = R ∨ k = LB) W (V7.drew.setCell ⟨R, k, none⟩ (.int .i64 rm))) := ⟨hL, hC7.drew.set (a := ⟨R, k, none⟩) (.inr (.inl rfl)) (.int .i64 rm)⟩
                          clear hL hd
                          go_region
                          all_goals go_wp2_with fail
                          all_goals
                            refine ⟨⟨k + 1, by simp, _, ?_, HLL.out.1, HLL.out.2⟩, by simp [intOf]; omega⟩
                            have h := HG1.out
                            cases HQ.out
                            exact h
          · have HE : Hid (b = false ∧ S' = Sk) := by
              have h := HG.out
              rw [show m - k = 0 by omega] at h
              cases h
              exact ⟨rfl, rfl⟩
            go_wp2_with fail
            go_ret
            exact ⟨by rw [HE.out.1]; rfl, by rw [HE.out.2]; exact hIk, hCk⟩

end Go.Proofs.Ytgcmklniacjcfaa.Ls
