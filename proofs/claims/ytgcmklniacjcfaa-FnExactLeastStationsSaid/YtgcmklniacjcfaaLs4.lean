/-
  spec.l04Fits, walked. No condition.
-/
import Derived.Test.YtgcmklniacjcfaaArr
import Derived.Test.YtgcmklniacjcfaaLsG
namespace Go.Proofs.Ytgcmklniacjcfaa.Ls
open Go Go.RowKit Go.Proofs.Ytgcmklniacjcfaa Go.Proofs.Ytgcmklniacjcfaa.Fw Go.Proofs.Ytgcmklniacjcfaa.Arr
set_option maxRecDepth 100000
set_option linter.unusedVariables false
set_option linter.unusedSimpArgs false

/-- A contract of l00Max. -/
def MaxC2 (fX : Int → Int → Option (Int × Unit)) : Prop := ∀ (W : World) (a b v : Int), fX a b = some (v, ()) → Calls Try.prog 28 #[.int .i64 a, .int .i64 b] W fun e W' => Below W.heap.size W W' ∧ e = .returned (.int .i64 v)

/-- What comes out of the reference's search. -/
def FitR (T L lz : Nat) (a' : List Int × List Int) (W : World) (e : Ending) (W' : World) : Prop :=
  ∃ A dc, e = .returned (.slice A a'.1.length dc) ∧ (a'.1 ≠ [] → ∃ D dz, A = some ⟨D, 0, none⟩ ∧ RowL W' D dz a'.1 ∧ (D = T ∨ W.heap.size ≤ D) ∧ a'.1.length ≤ dc ∧ dc ≤ dz) ∧ Chg (fun k => k = L) W W' ∧ RowL W' L lz a'.2 ∧ (a'.1 = [] → A = none ∧ dc = 0)

set_option maxHeartbeats 16000000 in
theorem fit_any {fX : Int → Int → Option (Int × Unit)} (hX : MaxC2 fX) {w : World} {xs bs : List Int} {c : Int} {n q XB xo xc BA bo bc : Nat} (hn : 1 ≤ n ∧ n ≤ 12) (hxl : xs.length = n) (hbl : bs.length = n) (hq : q ≤ 1000) (hXB : XB < w.heap.size) (hBA : BA < w.heap.size)
    (hx : ∀ i, i < n → w.cell? ⟨XB, xo + i, none⟩ = some (.int .i64 (xs.getD i 0))) (hb : ∀ i, i < n → w.cell? ⟨BA, bo + i, none⟩ = some (.int .i64 (bs.getD i 0))) :
    ∀ (r : Nat) (tu ld : List Int) (a' : List Int × List Int) (T tc tz L lc lz : Nat) (W : World), tu.length + r = n → ld.length = q → q ≤ lc → RowL W L lz ld → tu.length ≤ tc ∧ tc ≤ tz → RowL W T tz tu → L ≠ T ∧ w.heap.size ≤ L → Below w.heap.size w W → fitP fX xs bs c q r tu ld = some a' →
      Calls Try.prog 61 #[.slice (some ⟨XB, xo, none⟩) n xc, .slice (some ⟨BA, bo, none⟩) n bc, .slice (some ⟨T, 0, none⟩) tu.length tc, .slice (some ⟨L, 0, none⟩) q lc, .int .i64 c] W (FitR T L lz a' W) := by
  intro r
  induction r with
  | zero =>
    intro tu ld a' T tc tz L lc lz W hlen hlq hlc hL ⟨htc, htz⟩ hTr hne hbw hr
    obtain rfl : (tu, ld) = a' := Option.some.inj hr
    have heq : ((tu.length : Int) == (n : Int)) = true := by simp; omega
    have HN : Hid (tu.length = n) := by show _ = _; omega
    clear hlen hr
    go_enter Try.func61, Try.ntmps61
    go_wp2_with fail
    go_ret
    refine ⟨some ⟨T, 0, none⟩, tc, rfl, fun _ => ⟨T, tz, rfl, hTr, .inl rfl, htc, htz⟩, Chg.refl _ _, hL, fun h => ?_⟩
    have := HN.out
    simp only at h
    rw [h] at this
    simp at this
    omega
  | succ r ih =>
    intro tu ld a' T tc tz L lc lz W hlen hlq hlc hL ⟨htc, htz⟩ hTr hne hbw hr
    obtain ⟨f, hf, hr⟩ := Option.bind_eq_some_iff.1 hr
    obtain ⟨hf0, hr⟩ := cond_some hr
    have hf0 := of_decide_eq_true hf0
    obtain ⟨i, hi⟩ : ∃ i, i = tu.length := ⟨_, rfl⟩
    rw [← hi] at hf hr hlen htc ⊢
    have heq : ((i : Int) == (n : Int)) = false := by
      simp only [beq_eq_false_iff_ne]
      omega
    have HI : Hid (i = tu.length) := hi
    have HF : Hid (firstQ fX (bs.getD i 0) tu i = some f) := hf
    have HR : Hid (scanF (tryF (fitP fX xs bs c q r) (xs.getD i 0) c tu) (q - f.toNat) f.toNat ld = some a') := hr
    have hTl := hTr.aLtE
    have hLl := hL.aLtE
    clear hi hf hr
    go_enter Try.func61, Try.ntmps61
    go_wp2_with fail
    go_loopw [12, 13] (fun g k wr => ∃ j : Nat, j ≤ i ∧ k = .int .i64 (j : Int) ∧ ∃ v, Hid (firstQ fX (bs.getD i 0) tu j = some v) ∧ g = .int .i64 v ∧ Ext W wr) (fun _ k _ => i - (intOf k).toNat)
    case atStart => exact ⟨0, Nat.zero_le _, rfl, 0, rfl, rfl, Chg.refl _ _⟩
    case round =>
      obtain ⟨j, hj, rfl, fv, HV, rfl, hEj⟩ := hrel
      by_cases hlt : j < i
      · have hbj : Below w.heap.size w wr := hbw.trans (hEj.below (B := w.heap.size) (fun _ _ h => h) hbw.size)
        obtain ⟨bv, hbv⟩ : ∃ v : Int, v = bs.getD i 0 := ⟨_, rfl⟩
        have cbv : wr.cell? ⟨BA, bo + i, none⟩ = some (.int .i64 bv) := by rw [hbv]; exact (hbj.cell (p := ⟨BA, bo + i, none⟩) hBA).trans (hb i (by omega))
        obtain ⟨ov, hov⟩ : ∃ v : Int, v = tu.getD j 0 := ⟨_, rfl⟩
        have cov : wr.cell? ⟨T, j, none⟩ = some (.int .i64 ov) := by rw [hov]; exact (hTr.aSamE (hEj.block T hTl id)).cell (by rw [← HI.out]; exact hlt)
        obtain ⟨tv, htv⟩ : ∃ v : Int, v = ibits .and .i64 (bv / 2 ^ j) 1 := ⟨_, rfl⟩
        have hbits : bits .and .i64 (bv / 2 ^ j) 1 = tv := htv.symm
        cases hbb : (tv == 1) with
        | false =>
          have HV2 : Hid (firstQ fX (bs.getD i 0) tu (j + 1) = some fv) := by
            show _ = _
            rw [firstQ, HV.out, Option.bind_some, befB, ← hbv, ← htv, hbb, if_neg (by decide)]
          clear hbv hov htv
          go_wp2_with fail
          exact ⟨⟨j + 1, hlt, by simp, fv, HV2, rfl, hEj⟩, by simp [intOf]; omega⟩
        | true =>
          have hsn := HF.out
          obtain ⟨v2, hfx, HV2⟩ : ∃ v2, fX fv ov = some (v2, ()) ∧ Hid (firstQ fX (bs.getD i 0) tu (j + 1) = some v2) := by
            have hdef := firstQ_some (j := j + 1) (i := i) (by omega) hsn
            obtain ⟨v2, h2⟩ := hdef
            have h3 := h2
            rw [firstQ, HV.out, Option.bind_some, befB, ← hbv, ← htv, hbb, if_pos rfl, ← hov] at h3
            obtain ⟨⟨u, _⟩, e1, e2⟩ := Option.bind_eq_some_iff.1 h3
            cases e2
            exact ⟨_, e1, h2⟩
          have hmax := hX wr fv ov v2 hfx
          clear hbv hov htv hfx hsn
          go_wp2_with (go_at_call 28; refine hmax.mono ?_; rintro e W2 ⟨hb2, rfl⟩)
          exact ⟨⟨j + 1, hlt, by simp, v2, HV2, rfl, Ext.of (n := 0) hEj hb2⟩, by simp [intOf]; omega⟩
      · obtain rfl : j = i := by omega
        have hfe := HF.out
        rw [HV.out] at hfe
        obtain rfl : fv = f := Option.some.inj hfe
        obtain ⟨f0, rfl⟩ : ∃ k : Nat, fv = (k : Int) := ⟨fv.toNat, by omega⟩
        have HR1 := HR.out
        rw [Int.toNat_natCast] at HR1
        have HR2 : Hid (scanF (tryF (fitP fX xs bs c q r) (xs.getD j 0) c tu) (q - f0) f0 ld = some a') := HR1
        clear HR1 HR hfe HV HF
        go_wp2_with fail
        go_loopw [14] (fun s wr => ∃ k : Nat, s = .int .i64 (k : Int) ∧ ∃ lk : List Int, Hid (scanF (tryF (fitP fX xs bs c q r) (xs.getD j 0) c tu) (q - k) k lk = some a') ∧ lk.length = q ∧ RowL wr L lz lk ∧ Chg (fun k => k = L) W wr) (fun s _ => q - (intOf s).toNat)
        case atStart => exact ⟨f0, rfl, ld, HR2, hlq, hL.aSamE (hEj.block L hLl id), hEj.weak _⟩
        case round =>
          obtain ⟨k, rfl, lk, HG, hlk, hLk, hCk⟩ := hrel
          have hsk := hCk.size
          by_cases hlt : k < q
          · have hbk : Below w.heap.size w wr := hbw.trans (hCk.below (by rintro z hz rfl; omega) hbw.size)
            have hTk := hTr.aSamE (hCk.block T hTl (Ne.symm hne.1))
            have hg := HG.out
            rw [show q - k = (q - k - 1) + 1 by omega] at hg
            obtain ⟨⟨o1, l1⟩, hf1, hg1⟩ := Option.bind_eq_some_iff.1 hg
            rw [show q - k - 1 = q - (k + 1) by omega] at hg1
            have HG1 : Hid (cond (decide (o1.length = 0)) (scanF (tryF (fitP fX xs bs c q r) (xs.getD j 0) c tu) (q - (k + 1)) (k + 1) l1) (some (o1, l1)) = some a') := hg1
            obtain ⟨hok, hf2⟩ := cond_some hf1
            simp only [Bool.and_eq_true, decide_eq_true_eq] at hok
            obtain ⟨x, hxv⟩ : ∃ v : Int, v = xs.getD j 0 := ⟨_, rfl⟩
            obtain ⟨rm, hrm⟩ : ∃ v : Int, v = lk.getD k 0 := ⟨_, rfl⟩
            rw [← hxv, ← hrm] at hok hf2
            obtain ⟨ok1, ok2, ok3, ok4⟩ := hok
            have HX : Hid (x = xs.getD j 0 ∧ rm = lk.getD k 0) := ⟨hxv, hrm⟩
            have cxk : wr.cell? ⟨XB, xo + j, none⟩ = some (.int .i64 x) := by rw [hxv]; exact (hbk.cell (p := ⟨XB, xo + j, none⟩) hXB).trans (hx j (by omega))
            have crk : wr.cell? ⟨L, k, none⟩ = some (.int .i64 rm) := by rw [hrm]; exact hLk.cell (by omega)
            have HF2 : Hid (cond (decide (rm + x > c)) (some ([], lk)) (Option.bind (fitP fX xs bs c q r (tu ++ [(k : Int)]) (lk.set k (rm + x))) fun (r : List Int × List Int) => cond (decide (r.1.length = 0)) (cond (decide (r.2 = lk.set k (rm + x))) (some ([], lk)) none) (some r)) = some (o1, l1)) := hf2
            clear hg hg1 hf1 hf2 hxv hrm HG
            go_upto_region 13 with (fail)
            go_cut [60] (fun v wx => v = .bool (decide (rm + x > c)) ∧ wx.heap = wr.heap ∧ wx.os = wr.os ∧ wx.tape = wr.tape ∧ wx.output = wr.output)
            case first =>
              go_region
              all_goals go_wp2_with fail
              all_goals go_meet
              all_goals exact ⟨rfl, rfl, rfl, rfl, rfl⟩
            case rest =>
              obtain ⟨rfl, he1, he2, he3, he4⟩ := hcut
              obtain ⟨V1, rfl⟩ : ∃ V, V = wc := ⟨_, rfl⟩
              have hk1 : ∀ z : Nat, V1.heap[z]? = wr.heap[z]? := fun z => by rw [he1]
              have hs1 : V1.heap.size = wr.heap.size := by rw [he1]
              have hL1 : RowL V1 L lz lk := hLk.aSamE (hk1 _)
              have hT1 : RowL V1 T tz tu := hTk.aSamE (hk1 _)
              have hC1 : Chg (fun k => k = L) W V1 := ⟨he2.trans hCk.os, he3.trans hCk.tape, he4.trans hCk.output, by rw [he1]; exact hCk.size, fun z hz hn => (hk1 z).trans (hCk.block z hz hn)⟩
              have hb1 : Below w.heap.size w V1 := hbw.trans (hC1.below (by rintro z hz rfl; omega) hbw.size)
              clear he1 he2 he3 he4 hk1
              by_cases hgx : rm + x > c
              · have hgx' : decide (rm + x > c) = true := decide_eq_true hgx
                rw [hgx']
                have HE : Hid (o1 = [] ∧ l1 = lk) := by
                  have := HF2.out
                  rw [hgx'] at this
                  cases this
                  exact ⟨rfl, rfl⟩
                clear hgx'
                go_wp2_with fail
                refine ⟨⟨k + 1, by simp, lk, ?_, hlk, hL1, hC1⟩, by simp [intOf]; omega⟩
                have := HG1.out
                rw [HE.out.1, HE.out.2] at this
                exact this
              · have hgx' : decide (rm + x > c) = false := decide_eq_false hgx
                rw [hgx']
                have hbnd := HF2.out
                rw [hgx', cond_false] at hbnd
                obtain ⟨⟨o2, l2⟩, hfit, hb2⟩ := Option.bind_eq_some_iff.1 hbnd
                have HFIT : Hid (fitP fX xs bs c q r (tu ++ [(k : Int)]) (lk.set k (rm + x)) = some (o2, l2)) := hfit
                have HB2 : Hid (cond (decide (o2.length = 0)) (cond (decide (l2 = lk.set k (rm + x))) (some ([], lk)) none) (some (o2, l2)) = some (o1, l1)) := hb2
                clear hgx' HF2 hbnd hfit hb2
                have cx1 : V1.cell? ⟨XB, xo + j, none⟩ = some (.int .i64 x) := by rw [HX.out.1]; exact (hb1.cell (p := ⟨XB, xo + j, none⟩) hXB).trans (hx j (by omega))
                have cr1 : V1.cell? ⟨L, k, none⟩ = some (.int .i64 rm) := by rw [HX.out.2]; exact hL1.cell (by omega)
                have fr1 := hL1.free k
                go_upto_region 14 with (fail)
                go_cut [] (fun wx => RowL wx L lz (lk.set k (rm + x)) ∧ Chg (fun k => k = L) V1 wx)
                case first =>
                  go_region
                  all_goals go_wp2_with fail
                  all_goals go_meet
                  all_goals exact ⟨(hL1.drew).set (i := k) (by omega) (rm + x), ((Chg.refl (fun k => k = L) V1).drew).set (a := ⟨L, k, none⟩) rfl _⟩
                case rest =>
                  obtain ⟨hL2, hC12⟩ := hcut
                  obtain ⟨V2, rfl⟩ : ∃ V, V = wc := ⟨_, rfl⟩
                  clear cx1 cr1 fr1
                  have hs12 := hC12.size
                  have hC2 : Chg (fun k => k = L) W V2 := hC1.trans hC12 fun z _ h => h
                  have hb2 : Below w.heap.size w V2 := hbw.trans (hC2.below (by rintro z hz rfl; omega) hbw.size)
                  have hT2 : RowL V2 T tz tu := hT1.aSamE (hC12.block T (by omega) (Ne.symm hne.1))
                  obtain ⟨T3, tc3, tz3, W4, happ1, hR3, hR31, hR32, hR33, hE4⟩ := app_row (W := V2.alloc (.cells #[] 2)) (E := V2.heap.size) ⟨#[], 2, perm_new rfl _, ⟨Nat.le_refl _, rfl⟩, fun i x hi => by cases hi⟩ (hT2.alloc _) (by rw [← HI.out]; exact htc) (by rw [← HI.out]; omega)
                  have hs4 : V2.heap.size + 1 ≤ W4.heap.size := by simpa using hE4.size
                  have hT3 : V2.heap.size ≤ T3 := by
                    rcases hR33 with h | h
                    · omega
                    · have : V2.heap.size + 1 ≤ T3 := by simpa using h
                      omega
                  have hT3l := hR3.aLtE
                  have hk4 : ∀ z, z < V2.heap.size → W4.heap[z]? = V2.heap[z]? := fun z hz => (hE4.block z (by simp; omega) id).trans (((Chg.refl (fun _ => False) V2).alloc _).block z hz id)
                  obtain ⟨T5, tc5, tz5, W6, happ2, hR5, hR51, hR52, hR53, hC6⟩ := app_one (W := W4.alloc (.cells #[.int .i64 (k : Int)] 2)) (X := W4.heap.size) (xc := 1) (v := (k : Int)) (hR3.alloc _) hR31 hR32 (by rw [← HI.out]; omega) (perm_cell (i := 0) (perm_new rfl _))
                  have hs6 : W4.heap.size + 1 ≤ W6.heap.size := by simpa using hC6.size
                  have hT5 : V2.heap.size ≤ T5 := by
                    rcases hR53 with h | h
                    · omega
                    · have : W4.heap.size + 1 ≤ T5 := by simpa using h
                      omega
                  have hk6 : ∀ z, z < V2.heap.size → W6.heap[z]? = V2.heap[z]? := fun z hz => (hC6.block z (by simp; omega) (by omega)).trans ((((Chg.refl (fun _ => False) W4).alloc _).block z (by omega) id).trans (hk4 z hz))
                  have hs2 := hC2.size
                  have hL6 : RowL W6 L lz (lk.set k (rm + x)) := hL2.aSamE (hk6 L (by omega))
                  have hC26 : Chg (fun k => k = L) W W6 := ⟨hC6.os.trans (hE4.os.trans hC2.os), hC6.tape.trans (hE4.tape.trans hC2.tape), hC6.output.trans (hE4.output.trans hC2.output), by omega, fun z hz hn => (hk6 z (by omega)).trans (hC2.block z hz hn)⟩
                  have hb6 : Below w.heap.size w W6 := hbw.trans (hC26.below (by rintro z hz rfl; omega) hbw.size)
                  have hput := ih (tu ++ [(k : Int)]) (lk.set k (rm + x)) (o2, l2) T5 tc5 tz5 L lc lz W6 (by rw [List.length_append, List.length_singleton, ← HI.out]; omega) (by rw [List.length_set]; exact hlk) hlc hL6 ⟨by rw [List.length_append, List.length_singleton]; exact hR51, hR52⟩ hR5 ⟨by omega, hne.2⟩ hb6 HFIT.out
                  simp only [List.length_append, List.length_singleton] at hput
                  rw [← HI.out] at happ1 happ2 hput
                  clear hk4 hk6 hC6 hE4 HFIT
                  cases ho : o2 with
                  | nil =>
                    have HE : Hid (l2 = lk.set k (rm + x) ∧ o1 = [] ∧ l1 = lk) := by
                      have h := HB2.out
                      rw [ho] at h
                      obtain ⟨h1, h2⟩ := cond_some h
                      cases h2
                      exact ⟨of_decide_eq_true h1, rfl, rfl⟩
                    rw [ho] at hput
                    clear HB2
                    go_upto_region 18 with (first
                      | (at_builtin; refine Lib.wpList_append_run _ rfl _ _ _ _ rfl _ _ rfl rfl _ _ happ1 ?_)
                      | (at_builtin; refine Lib.wpList_append_run _ rfl _ _ _ _ rfl _ _ rfl rfl _ _ happ2 ?_)
                      | (go_at_call 61; refine hput.mono ?_; rintro e W7 ⟨A, dc, rfl, hA, hC7, hL7, hnil⟩; obtain ⟨rfl, rfl⟩ := hnil rfl; simp only [List.length_nil]))
                    have hs7 := hC7.size
                    simp only at hL7
                    rw [HE.out.1] at hL7
                    have cL7 := hL7.cell (i := k) (by rw [List.length_set]; omega)
                    rw [getD_set_self7 (by omega)] at cL7
                    have fL7 := hL7.free k
                    have hC27 : Chg (fun k => k = L) W W7 := hC26.trans hC7 fun z _ h => h
                    have hb7 : Below w.heap.size w W7 := hbw.trans (hC27.below (by rintro z hz rfl; omega) hbw.size)
                    have cx7 : W7.cell? ⟨XB, xo + j, none⟩ = some (.int .i64 x) := by rw [HX.out.1]; exact (hb7.cell (p := ⟨XB, xo + j, none⟩) hXB).trans (hx j (by omega))
                    have hL8 := hL7.drew.set (i := k) (by rw [List.length_set]; omega) (rm + x - x)
                    rw [List.set_set, show rm + x - x = lk.getD k 0 by rw [← HX.out.2]; omega, set_getD_self7] at hL8
                    rw [← HX.out.2] at hL8
                    have HLL : Hid (RowL (W7.drew.setCell ⟨L, k, none⟩ (.int .i64 rm)) L lz lk ∧ Chg (fun k => k = L) W (W7.drew.setCell ⟨L, k, none⟩ (.int .i64 rm))) := ⟨hL8, hC27.drew.set (a := ⟨L, k, none⟩) rfl _⟩
                    clear hL8
                    go_region
                    all_goals go_wp2_with fail
                    all_goals
                      refine ⟨⟨k + 1, by simp, lk, ?_, hlk, HLL.out.1, HLL.out.2⟩, by simp [intOf]; omega⟩
                      have h := HG1.out
                      rw [HE.out.2.1, HE.out.2.2] at h
                      exact h
                  | cons y ys =>
                    have HE : Hid (a' = (o2, l2)) := by
                      have h := HB2.out
                      rw [ho] at h
                      cases h
                      have h2 := HG1.out
                      cases h2
                      show _ = _
                      rw [ho]
                    have hpos : 0 < o2.length := by
                      rw [ho]
                      simp
                    have HO : Hid (o2 ≠ []) := by
                      show _ ≠ _
                      rw [ho]
                      simp
                    clear ho HB2 HG1
                    go_wp2_with (first
                      | (at_builtin; refine Lib.wpList_append_run _ rfl _ _ _ _ rfl _ _ rfl rfl _ _ happ1 ?_)
                      | (at_builtin; refine Lib.wpList_append_run _ rfl _ _ _ _ rfl _ _ rfl rfl _ _ happ2 ?_)
                      | (go_at_call 61; refine hput.mono ?_; rintro e W7 ⟨A, dc, rfl, hA, hC7, hL7, hnil⟩; simp only at hA hL7))
                    go_ret
                    obtain ⟨D, dz, rfl, hD, hDn, hd1, hd2⟩ := hA HO.out
                    refine ⟨some ⟨D, 0, none⟩, dc, by rw [HE.out]; rfl, fun _ => ⟨D, dz, rfl, by rw [HE.out]; exact hD, .inr (by omega), by rw [HE.out]; exact hd1, hd2⟩, hC26.trans hC7 fun z _ h => h, by rw [HE.out]; exact hL7, fun h => absurd (by rw [HE.out] at h; exact h) HO.out⟩
          · have HE : Hid (a' = ([], lk)) := by
              have h := HG.out
              rw [show q - k = 0 by omega] at h
              cases h
              rfl
            go_wp2_with fail
            go_ret
            refine ⟨none, 0, by rw [HE.out]; rfl, fun h => absurd (by rw [HE.out]) h, hCk, by rw [HE.out]; exact hLk, fun _ => ⟨rfl, rfl⟩⟩

end Go.Proofs.Ytgcmklniacjcfaa.Ls
