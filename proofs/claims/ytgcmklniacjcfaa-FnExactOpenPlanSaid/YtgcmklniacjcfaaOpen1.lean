/-
  impl.OpenPlan, walked. No condition.
-/
import Derived.BigRegion
import Derived.BigQuiet
import Derived.RegionTactic
import Derived.Test.YtgcmklniacjcfaaPermU
import Derived.Test.YtgcmklniacjcfaaOpenF
namespace Go.Proofs.Ytgcmklniacjcfaa
open Go Go.RowKit Go.Proofs.Ytgcmklniacjcfaa.Fw
set_option maxRecDepth 100000
set_option linter.unusedVariables false
set_option linter.unusedSimpArgs false

/-- A row that begins with a list. -/
def RowL (W : World) (b z : Nat) (l : List Int) : Prop := ∃ cs e, W.heap[b]? = some (.cells cs e (0, 0)) ∧ (l.length ≤ cs.size ∧ cs.size = z) ∧ ∀ (i : Nat) (x : Int), l[i]? = some x → cs[i]? = some (.int .i64 x)

/-- What lies in memory while the plan is made. -/
structure OI (z SB O JB FB : Nat) (c0 : Value) (q m : Nat) (s : OS) (W : World) : Prop where
  sb : W.heap[SB]? = some (.cells #[c0, .int .i64 (q : Int), .int .i64 (m : Int)] 44 (0, 0))
  o : RowL W O z s.1
  jb : RowL W JB q s.2.1
  fb : RowL W FB m s.2.2

theorem RowL.cell {W : World} {b z : Nat} {l : List Int} (h : RowL W b z l) {i : Nat} (hi : i < l.length) : W.cell? ⟨b, i, none⟩ = some (.int .i64 (l.getD i 0)) := by
  obtain ⟨cs, e, h1, h2, h3⟩ := h
  rw [perm_cell h1, h3 i (l.getD i 0)]
  rw [List.getD_eq_getElem?_getD, List.getElem?_eq_getElem hi]
  rfl
theorem RowL.free {W : World} {b z : Nat} {l : List Int} (h : RowL W b z l) (i : Nat) : W.frozen? ⟨b, i, none⟩ = false := by
  obtain ⟨cs, e, h1, h2, h3⟩ := h
  exact perm_free h1
theorem RowL.other {W : World} {b z : Nat} {l : List Int} (h : RowL W b z l) {a : Addr} (hab : b ≠ a.block) (v : Value) : RowL (W.setCell a v) b z l := by
  obtain ⟨cs, e, h1, h2, h3⟩ := h
  exact ⟨cs, e, perm_set h1 a hab v, h2, h3⟩
theorem RowL.set {W : World} {b z : Nat} {l : List Int} (h : RowL W b z l) {i : Nat} (hi : i < l.length) (v : Int) : RowL (W.setCell ⟨b, i, none⟩ (.int .i64 v)) b z (l.set i v) := by
  obtain ⟨cs, e, h1, h2, h3⟩ := h
  refine ⟨_, e, perm_row h1 _, by simpa using h2, fun j x hj => ?_⟩
  rw [List.getElem?_set] at hj
  rw [Array.getElem?_setIfInBounds]
  by_cases hij : i = j
  · subst hij
    rw [if_pos rfl, if_pos hi] at hj
    cases hj
    rw [if_pos rfl, if_pos (by have := h2.1; omega)]
  · rw [if_neg hij] at hj
    rw [if_neg hij]
    exact h3 j x hj
theorem RowL.alloc {W : World} {b z : Nat} {l : List Int} (h : RowL W b z l) (o : Obj) : RowL (W.alloc o) b z l := by
  obtain ⟨cs, e, h1, h2, h3⟩ := h
  exact ⟨cs, e, perm_alloc h1 o, h2, h3⟩
theorem RowL.new {W : World} {k n : Nat} (h : W.heap.size = k) : RowL (W.alloc (.cells (Array.replicate n (.int .i64 0)) 2)) k n (List.replicate n 0) := by
  refine ⟨_, 2, perm_new h _, by simp, fun i x hi => ?_⟩
  rw [List.getElem?_replicate] at hi
  split at hi
  · cases hi
    rw [Array.getElem?_replicate, if_pos (by assumption)]
  · cases hi

set_option maxHeartbeats 16000000 in
theorem open_any {xs : List Int} {q m B off : Nat} {cap : Nat} (hm : 1 ≤ m ∧ m ≤ 8) (hq : 1 ≤ q ∧ q ≤ 24) (hqm : q * m = xs.length) (w : World) (hB0 : B < w.heap.size) {mx : Int}
    (hxs : ∀ i, i < xs.length → w.cell? ⟨B, off + i, none⟩ = some (.int .i64 (xs.getD i 0)))
    (hok : ∀ t, t < xs.length → okO m xs (openL m q xs t) = true)
    (hS : ∀ W, Below w.heap.size w W → Calls Try.prog 29 #[.slice (some ⟨B, off, none⟩) xs.length cap, .int .i64 (m : Int)] W fun e W' => Below W.heap.size W W' ∧ ∃ A2 n2 c2, e = .returned (.tuple #[.agg #[.slice A2 n2 c2, .int .i64 (q : Int), .int .i64 (m : Int)], .bool true]))
    (hNo : ∀ W, Below w.heap.size w W → Calls Try.prog 30 #[.int .i64 (xs.length : Int)] W fun e W' => Below W.heap.size W W' ∧ ∃ O c z, e = .returned (.slice (some ⟨O, 0, none⟩) xs.length c) ∧ W.heap.size ≤ O ∧ RowL W' O z (List.replicate xs.length (-1)) ∧ xs.length ≤ c ∧ c ≤ z)
    (hMx : ∀ W FB, Below w.heap.size w W → RowL W FB m (openL m q xs xs.length).2.2 → Calls Try.prog 31 #[.slice (some ⟨FB, 0, none⟩) m m] W fun e W' => Below W.heap.size W W' ∧ e = .returned (.int .i64 mx)) :
    Calls Try.prog 10 #[.slice (some ⟨B, off, none⟩) xs.length cap, .int .i64 (m : Int)] w fun e W' => Below w.heap.size w W' ∧ ∃ O c z, e = .returned (.tuple #[.slice (some ⟨O, 0, none⟩) xs.length c, .int .i64 mx, .bool true]) ∧ w.heap.size ≤ O ∧ RowL W' O z (openL m q xs xs.length).1 ∧ xs.length ≤ c ∧ c ≤ z := by
  have hmk : ∀ (k : Nat) (W : World), k ≤ 1000 → (Instr.makeSlice 22 (.int .i64 (k : Int)) (.int .i64 (k : Int))).run Try.prog W = .ok (.slice (some ⟨W.heap.size, 0, none⟩) k k) (W.alloc (.cells (Array.replicate k (.int .i64 0)) 2)) := fun k W hk => perm_make Try.underlying22 perm_info_int (by omega) rfl k k (by omega) hk W
  have hmk1 := fun W => hmk q W (by omega)
  have hmk2 := fun W => hmk m W (by omega)
  have hAl : ∀ W1 o, Below w.heap.size w W1 → Below w.heap.size w (W1.alloc o) := fun W1 o h => h.alloc h.size o
  have hB : ∀ (W1 W2 : World) (A2 : Option Addr) (n2 c2 : Nat), Below (W1.alloc (.cells #[.slice A2 n2 c2, .int .i64 (q : Int), .int .i64 (m : Int)] 44)).heap.size (W1.alloc (.cells #[.slice A2 n2 c2, .int .i64 (q : Int), .int .i64 (m : Int)] 44)) W2 → W2.heap[W1.heap.size]? = some (.cells #[.slice A2 n2 c2, .int .i64 (q : Int), .int .i64 (m : Int)] 44 (0, 0)) := fun W1 W2 A2 n2 c2 h =>
    (h.block _ (by simp)).trans (perm_new rfl _)
  have hx32 : xs.length ≤ 192 := by
    rw [← hqm]
    exact Nat.mul_le_mul hq.2 hm.2
  go_enter Try.func10, Try.ntmps10
  go_wp2_with (first | (go_at_call 29; refine (hS _ (Below.refl _ _)).mono ?_; rintro e W1 ⟨hb1, A2, n2, c2, rfl⟩) | (go_at_call 30; refine (hNo _ (hAl _ _ hb1)).mono ?_; rintro e W2 ⟨hb2, O, c, z, rfl, hO1, hO2, hz1, hz2⟩; have hsb := hB W1 W2 A2 n2 c2 hb2; have cq := perm_cell (i := 1) hsb; have cm := perm_cell (i := 2) hsb; have cq2 := perm_cell (i := 1) (perm_alloc hsb (.cells (Array.replicate m (.int .i64 0)) 2)); have cm2 := perm_cell (i := 2) (perm_alloc hsb (.cells (Array.replicate q (.int .i64 0)) 2)); simp only [List.getElem?_toArray, List.getElem?_cons_succ, List.getElem?_cons_zero] at cq cm cq2 cm2))
  go_region
  all_goals go_wp2_with fail
  · obtain ⟨W3, hW3⟩ : ∃ W3, W3 = ((W2.alloc (.cells (Array.replicate q (.int .i64 0)) 2)).alloc (.cells (Array.replicate m (.int .i64 0)) 2)).drew := ⟨_, rfl⟩
    have hsz1 : w.heap.size ≤ W1.heap.size := hb1.size
    have hO1' : W1.heap.size + 1 ≤ O := by simpa using hO1
    have hsz2 : W1.heap.size + 1 ≤ W2.heap.size := by have := hb2.size; simpa using this
    have hO3 : O < W2.heap.size := by
      obtain ⟨cs, e, h1, _⟩ := hO2
      exact lt_of_block h1
    have hI3 : OI z W1.heap.size O (W2.heap.size) (W2.heap.size + 1) (.slice A2 n2 c2) q m (openL m q xs 0) W3 := by
      rw [hW3]
      exact ⟨perm_alloc (perm_alloc hsb _) _, (hO2.alloc _).alloc _, (RowL.new rfl).alloc _, RowL.new (by simp)⟩
    have hb3 : Below w.heap.size w W3 := by
      rw [hW3]
      have hb2' : Below w.heap.size w W2 := (hAl _ _ hb1).trans (hb2.mono (by simp; omega))
      exact (hAl _ _ (hAl _ _ hb2')).drew
    rw [← hW3]
    clear hW3 hS hNo hmk hmk1 hmk2 hB cq cm cq2 cm2
    go_loopw [36] (fun i wr => ∃ t : Nat, t ≤ xs.length ∧ i = .int .i64 (t : Int) ∧ Below w.heap.size w wr ∧ OI z W1.heap.size O (W2.heap.size) (W2.heap.size + 1) (.slice A2 n2 c2) q m (openL m q xs t) wr) (fun i _ => xs.length - (intOf i).toNat)
    case atStart => exact ⟨0, Nat.zero_le _, rfl, hb3, hI3⟩
    case round =>
      obtain ⟨t, ht, rfl, hbr, hIr⟩ := hrel
      by_cases hlt : t < xs.length
      · have hokt := hok t hlt
        obtain ⟨l1, l2, l3⟩ := openL_len (m := m) (q := q) (xs := xs) t
        obtain ⟨s, hs⟩ : ∃ s, s = openL m q xs t := ⟨_, rfl⟩
        have hsn : openL m q xs (t + 1) = stepO m xs s := by rw [hs]; rfl
        rw [← hs] at l1 l2 l3 hokt hIr
        have HS : Hid (s = openL m q xs t) := hs
        have HN : Hid (openL m q xs (t + 1) = stepO m xs s) := hsn
        have HOK : Hid (okO m xs s = true) := hokt
        clear hs hsn hokt
        go_wp2_with fail
        go_loopw [12, 13, 40] (fun b wh i wr2 => ∃ k : Nat, k ≤ xs.length ∧ i = .int .i64 (k : Int) ∧ b = .int .i64 (pickO m xs s.1 s.2.1 s.2.2 k).1 ∧ wh = .int .i64 (pickO m xs s.1 s.2.1 s.2.2 k).2 ∧ Below w.heap.size w wr2 ∧ OI z W1.heap.size O (W2.heap.size) (W2.heap.size + 1) (.slice A2 n2 c2) q m s wr2) (fun _ _ i _ => xs.length - (intOf i).toNat)
        case atStart => exact ⟨0, Nat.zero_le _, rfl, rfl, rfl, hbr, hIr⟩
        case round =>
          obtain ⟨k, hk, rfl, rfl, rfl, hb2, hI2⟩ := hrel
          obtain ⟨P1, hP1⟩ : ∃ P, P = (pickO m xs s.1 s.2.1 s.2.2 k).1 := ⟨_, rfl⟩
          obtain ⟨P2, hP2⟩ : ∃ P, P = (pickO m xs s.1 s.2.1 s.2.2 k).2 := ⟨_, rfl⟩
          have hpl := pickO_lt (m := m) (xs := xs) (out := s.1) (J := s.2.1) (Fr := s.2.2) k
          rw [← hP1] at hpl
          rw [← hP1, ← hP2]
          have HP : Hid (pickO m xs s.1 s.2.1 s.2.2 k = (P1, P2)) := by
            show _ = _
            rw [hP1, hP2]
          clear hP1 hP2
          by_cases hlt2 : k < xs.length
          · obtain ⟨ov, hov⟩ : ∃ v : Int, v = s.1.getD k 0 := ⟨_, rfl⟩
            have cO : wr.cell? ⟨O, k, none⟩ = some (.int .i64 ov) := by
              rw [hov]
              exact hI2.o.cell (by omega)
            by_cases ho : ov ≥ 0
            · have HK : Hid (pickO m xs s.1 s.2.1 s.2.2 (k + 1) = (P1, P2)) := by
                show _ = _
                rw [pickO, decide_eq_true (by rw [← hov]; exact ho), cond_true]
                exact HP.out
              clear hov
              go_wp2_with fail
              go_roundw
              case rel => exact ⟨k + 1, hlt2, by simp, by rw [HK.out], by rw [HK.out], hb2, hI2⟩
              case measure => simp [intOf]; omega
            · have hkm : k / m < q := Nat.div_lt_of_lt_mul (by rw [Nat.mul_comm, hqm]; exact hlt2)
              have hkr : k % m < m := Nat.mod_lt _ (by omega)
              have hdv : Int.tdiv (k : Int) (m : Int) = ((k / m : Nat) : Int) := (Int.ofNat_tdiv k m).symm
              have hmd : Int.tmod (k : Int) (m : Int) = ((k % m : Nat) : Int) := (Int.ofNat_tmod k m).symm
              have hm0 : ((m : Int) == 0) = false := by
                simp only [beq_eq_false_iff_ne]
                omega
              have cM : wr.cell? ⟨W1.heap.size, 2, none⟩ = some (.int .i64 (m : Int)) := perm_cell (i := 2) hI2.sb
              obtain ⟨jv, hjv⟩ : ∃ v : Int, v = s.2.1.getD (k / m) 0 := ⟨_, rfl⟩
              obtain ⟨fv, hfv⟩ : ∃ v : Int, v = s.2.2.getD (k % m) 0 := ⟨_, rfl⟩
              obtain ⟨xv, hxv⟩ : ∃ v : Int, v = xs.getD k 0 := ⟨_, rfl⟩
              obtain ⟨xp, hxp⟩ : ∃ v : Int, v = xs.getD P1.toNat 0 := ⟨_, rfl⟩
              have cJ : wr.cell? ⟨(W2.heap.size), k / m, none⟩ = some (.int .i64 jv) := by rw [hjv]; exact hI2.jb.cell (by omega)
              have cF : wr.cell? ⟨(W2.heap.size + 1), k % m, none⟩ = some (.int .i64 fv) := by rw [hfv]; exact hI2.fb.cell (by omega)
              have cX : wr.cell? ⟨B, off + k, none⟩ = some (.int .i64 xv) := by rw [hxv]; exact (hb2.cell (p := ⟨B, off + k, none⟩) hB0).trans (hxs k hlt2)
              have cP : 0 ≤ P1 → wr.cell? ⟨B, off + P1.toNat, none⟩ = some (.int .i64 xp) := fun hp => by rw [hxp]; exact (hb2.cell (p := ⟨B, off + P1.toNat, none⟩) hB0).trans (hxs _ (by omega))
              have HK : Hid (pickO m xs s.1 s.2.1 s.2.2 (k + 1) = cond (decide (P1 < 0) || (decide (imax jv fv < P2) || (decide (imax jv fv = P2) && decide (xv > xp)))) ((k : Int), imax jv fv) (P1, P2)) := by
                show _ = _
                rw [pickO, decide_eq_false (by rw [← hov]; exact ho), cond_false, HP.out, hjv, hfv, hxv, hxp]
              clear hov hjv hfv hxv hxp
              generalize k / m = d at *
              generalize k % m = r at *
              by_cases hjf : jv < fv
              · have HM : Hid (imax jv fv = fv) := by
                  show _ = _
                  unfold imax
                  simp [hjf]
                by_cases h1 : P1 < 0
                · have e1 : decide (P1 < 0) = true := decide_eq_true h1
                  have HE : Hid (cond (decide (P1 < 0) || (decide (imax jv fv < P2) || (decide (imax jv fv = P2) && decide (xv > xp)))) ((k : Int), imax jv fv) (P1, P2) = ((k : Int), fv)) := by
                    show _ = _
                    rw [HM.out]
                    simp [h1]
                  go_wp2_with fail
                  go_region
                  all_goals go_wp2_with fail
                  all_goals go_region
                  all_goals go_wp2_with fail
                  all_goals go_roundw
                  case rel => exact ⟨k + 1, hlt2, by simp, (by first | (rw [HK.out, HE.out]; done) | (rw [HK.out, HE.out, h3]; done)), (by first | (rw [HK.out, HE.out]; done) | (rw [HK.out, HE.out, h3]; done)), hb2.drew.drew, ⟨hI2.sb, hI2.o, hI2.jb, hI2.fb⟩⟩
                  case measure => simp [intOf]; omega
                · have e1 : decide (P1 < 0) = false := decide_eq_false h1
                  have cP1 := cP (by omega)
                  by_cases h2 : fv < P2
                  · have e2 : decide (fv < P2) = true := decide_eq_true h2
                    have HE : Hid (cond (decide (P1 < 0) || (decide (imax jv fv < P2) || (decide (imax jv fv = P2) && decide (xv > xp)))) ((k : Int), imax jv fv) (P1, P2) = ((k : Int), fv)) := by
                      show _ = _
                      rw [HM.out]
                      simp [h2]
                    go_wp2_with fail
                    go_region
                    all_goals go_wp2_with fail
                    all_goals go_region
                    all_goals go_wp2_with fail
                    all_goals go_roundw
                    case rel => exact ⟨k + 1, hlt2, by simp, (by first | (rw [HK.out, HE.out]; done) | (rw [HK.out, HE.out, h3]; done)), (by first | (rw [HK.out, HE.out]; done) | (rw [HK.out, HE.out, h3]; done)), hb2.drew.drew, ⟨hI2.sb, hI2.o, hI2.jb, hI2.fb⟩⟩
                    case measure => simp [intOf]; omega
                  · have e2 : decide (fv < P2) = false := decide_eq_false h2
                    by_cases h3 : fv = P2
                    · have e3 : (fv == P2) = true := by simp [h3]
                      by_cases h4 : xp < xv
                      · have e4 : decide (xp < xv) = true := decide_eq_true h4
                        have HE : Hid (cond (decide (P1 < 0) || (decide (imax jv fv < P2) || (decide (imax jv fv = P2) && decide (xv > xp)))) ((k : Int), imax jv fv) (P1, P2) = ((k : Int), fv)) := by
                          show _ = _
                          rw [HM.out]
                          simp [h3, h4]
                        go_wp2_with fail
                        go_region
                        all_goals go_wp2_with fail
                        all_goals go_region
                        all_goals go_wp2_with fail
                        all_goals go_roundw
                        case rel => exact ⟨k + 1, hlt2, by simp, (by first | (rw [HK.out, HE.out]; done) | (rw [HK.out, HE.out, h3]; done)), (by first | (rw [HK.out, HE.out]; done) | (rw [HK.out, HE.out, h3]; done)), hb2.drew.drew, ⟨hI2.sb, hI2.o, hI2.jb, hI2.fb⟩⟩
                        case measure => simp [intOf]; omega
                      · have e4 : decide (xp < xv) = false := decide_eq_false h4
                        have HE : Hid (cond (decide (P1 < 0) || (decide (imax jv fv < P2) || (decide (imax jv fv = P2) && decide (xv > xp)))) ((k : Int), imax jv fv) (P1, P2) = (P1, P2)) := by
                          show _ = _
                          rw [HM.out]
                          simp [h1, h2, h3, h4]
                        go_wp2_with fail
                        go_region
                        all_goals go_wp2_with fail
                        all_goals go_region
                        all_goals go_wp2_with fail
                        all_goals go_roundw
                        case rel => exact ⟨k + 1, hlt2, by simp, (by first | (rw [HK.out, HE.out]; done) | (rw [HK.out, HE.out, h3]; done)), (by first | (rw [HK.out, HE.out]; done) | (rw [HK.out, HE.out, h3]; done)), hb2.drew.drew, ⟨hI2.sb, hI2.o, hI2.jb, hI2.fb⟩⟩
                        case measure => simp [intOf]; omega
                    · have e3 : (fv == P2) = false := by simp [h3]
                      have HE : Hid (cond (decide (P1 < 0) || (decide (imax jv fv < P2) || (decide (imax jv fv = P2) && decide (xv > xp)))) ((k : Int), imax jv fv) (P1, P2) = (P1, P2)) := by
                        show _ = _
                        rw [HM.out]
                        simp [h1, h2, h3]
                      go_wp2_with fail
                      go_region
                      all_goals go_wp2_with fail
                      all_goals go_region
                      all_goals go_wp2_with fail
                      all_goals go_roundw
                      case rel => exact ⟨k + 1, hlt2, by simp, (by first | (rw [HK.out, HE.out]; done) | (rw [HK.out, HE.out, h3]; done)), (by first | (rw [HK.out, HE.out]; done) | (rw [HK.out, HE.out, h3]; done)), hb2.drew.drew, ⟨hI2.sb, hI2.o, hI2.jb, hI2.fb⟩⟩
                      case measure => simp [intOf]; omega
              · have HM : Hid (imax jv fv = jv) := by
                  show _ = _
                  unfold imax
                  simp [hjf]
                by_cases h1 : P1 < 0
                · have e1 : decide (P1 < 0) = true := decide_eq_true h1
                  have HE : Hid (cond (decide (P1 < 0) || (decide (imax jv fv < P2) || (decide (imax jv fv = P2) && decide (xv > xp)))) ((k : Int), imax jv fv) (P1, P2) = ((k : Int), jv)) := by
                    show _ = _
                    rw [HM.out]
                    simp [h1]
                  go_wp2_with fail
                  go_region
                  all_goals go_wp2_with fail
                  all_goals go_region
                  all_goals go_wp2_with fail
                  all_goals go_roundw
                  case rel => exact ⟨k + 1, hlt2, by simp, (by first | (rw [HK.out, HE.out]; done) | (rw [HK.out, HE.out, h3]; done)), (by first | (rw [HK.out, HE.out]; done) | (rw [HK.out, HE.out, h3]; done)), hb2.drew.drew, ⟨hI2.sb, hI2.o, hI2.jb, hI2.fb⟩⟩
                  case measure => simp [intOf]; omega
                · have e1 : decide (P1 < 0) = false := decide_eq_false h1
                  have cP1 := cP (by omega)
                  by_cases h2 : jv < P2
                  · have e2 : decide (jv < P2) = true := decide_eq_true h2
                    have HE : Hid (cond (decide (P1 < 0) || (decide (imax jv fv < P2) || (decide (imax jv fv = P2) && decide (xv > xp)))) ((k : Int), imax jv fv) (P1, P2) = ((k : Int), jv)) := by
                      show _ = _
                      rw [HM.out]
                      simp [h2]
                    go_wp2_with fail
                    go_region
                    all_goals go_wp2_with fail
                    all_goals go_region
                    all_goals go_wp2_with fail
                    all_goals go_roundw
                    case rel => exact ⟨k + 1, hlt2, by simp, (by first | (rw [HK.out, HE.out]; done) | (rw [HK.out, HE.out, h3]; done)), (by first | (rw [HK.out, HE.out]; done) | (rw [HK.out, HE.out, h3]; done)), hb2.drew.drew, ⟨hI2.sb, hI2.o, hI2.jb, hI2.fb⟩⟩
                    case measure => simp [intOf]; omega
                  · have e2 : decide (jv < P2) = false := decide_eq_false h2
                    by_cases h3 : jv = P2
                    · have e3 : (jv == P2) = true := by simp [h3]
                      by_cases h4 : xp < xv
                      · have e4 : decide (xp < xv) = true := decide_eq_true h4
                        have HE : Hid (cond (decide (P1 < 0) || (decide (imax jv fv < P2) || (decide (imax jv fv = P2) && decide (xv > xp)))) ((k : Int), imax jv fv) (P1, P2) = ((k : Int), jv)) := by
                          show _ = _
                          rw [HM.out]
                          simp [h3, h4]
                        go_wp2_with fail
                        go_region
                        all_goals go_wp2_with fail
                        all_goals go_region
                        all_goals go_wp2_with fail
                        all_goals go_roundw
                        case rel => exact ⟨k + 1, hlt2, by simp, (by first | (rw [HK.out, HE.out]; done) | (rw [HK.out, HE.out, h3]; done)), (by first | (rw [HK.out, HE.out]; done) | (rw [HK.out, HE.out, h3]; done)), hb2.drew.drew, ⟨hI2.sb, hI2.o, hI2.jb, hI2.fb⟩⟩
                        case measure => simp [intOf]; omega
                      · have e4 : decide (xp < xv) = false := decide_eq_false h4
                        have HE : Hid (cond (decide (P1 < 0) || (decide (imax jv fv < P2) || (decide (imax jv fv = P2) && decide (xv > xp)))) ((k : Int), imax jv fv) (P1, P2) = (P1, P2)) := by
                          show _ = _
                          rw [HM.out]
                          simp [h1, h2, h3, h4]
                        go_wp2_with fail
                        go_region
                        all_goals go_wp2_with fail
                        all_goals go_region
                        all_goals go_wp2_with fail
                        all_goals go_roundw
                        case rel => exact ⟨k + 1, hlt2, by simp, (by first | (rw [HK.out, HE.out]; done) | (rw [HK.out, HE.out, h3]; done)), (by first | (rw [HK.out, HE.out]; done) | (rw [HK.out, HE.out, h3]; done)), hb2.drew.drew, ⟨hI2.sb, hI2.o, hI2.jb, hI2.fb⟩⟩
                        case measure => simp [intOf]; omega
                    · have e3 : (jv == P2) = false := by simp [h3]
                      have HE : Hid (cond (decide (P1 < 0) || (decide (imax jv fv < P2) || (decide (imax jv fv = P2) && decide (xv > xp)))) ((k : Int), imax jv fv) (P1, P2) = (P1, P2)) := by
                        show _ = _
                        rw [HM.out]
                        simp [h1, h2, h3]
                      go_wp2_with fail
                      go_region
                      all_goals go_wp2_with fail
                      all_goals go_region
                      all_goals go_wp2_with fail
                      all_goals go_roundw
                      case rel => exact ⟨k + 1, hlt2, by simp, (by first | (rw [HK.out, HE.out]; done) | (rw [HK.out, HE.out, h3]; done)), (by first | (rw [HK.out, HE.out]; done) | (rw [HK.out, HE.out, h3]; done)), hb2.drew.drew, ⟨hI2.sb, hI2.o, hI2.jb, hI2.fb⟩⟩
                      case measure => simp [intOf]; omega
          · obtain rfl : k = xs.length := by omega
            have hokt := HOK.out
            unfold okO pickS at hokt
            rw [HP.out] at hokt
            simp only [Bool.and_eq_true, decide_eq_true_eq] at hokt
            obtain ⟨o1, o2, o3, o4⟩ := hokt
            obtain ⟨p, rfl⟩ : ∃ p : Nat, P1 = (p : Int) := ⟨P1.toNat, by omega⟩
            have hp : p < xs.length := by omega
            obtain ⟨xv, hxv⟩ : ∃ v : Int, v = xs.getD p 0 := ⟨_, rfl⟩
            have hxb : -1000000000 ≤ xv ∧ xv ≤ 1000000000 := by
              have := List.all_eq_true.1 o4 xv (by rw [hxv, List.getD_eq_getElem?_getD, List.getElem?_eq_getElem hp]; exact List.getElem_mem hp)
              simpa using this
            have HX : Hid (xv = xs.getD p 0) := hxv
            have hkm : p / m < q := Nat.div_lt_of_lt_mul (by rw [Nat.mul_comm, hqm]; exact hp)
            have hkr : p % m < m := Nat.mod_lt _ (by omega)
            have hdv : Int.tdiv (p : Int) (m : Int) = ((p / m : Nat) : Int) := (Int.ofNat_tdiv p m).symm
            have hmd : Int.tmod (p : Int) (m : Int) = ((p % m : Nat) : Int) := (Int.ofNat_tmod p m).symm
            have hm0 : ((m : Int) == 0) = false := by
              simp only [beq_eq_false_iff_ne]
              omega
            have HST : Hid (openL m q xs (t + 1) = (s.1.set p P2, s.2.1.set (p / m) (P2 + xv), s.2.2.set (p % m) (P2 + xv))) := by
              show _ = _
              rw [HN.out]
              unfold stepO pickS
              rw [HP.out]
              simp only [Int.toNat_natCast]
              rw [hxv]
            clear hxv o4
            generalize p / m = d at *
            generalize p % m = r at *
            -- the worlds behind the stores
            have cO := hI2.o.cell (i := p) (by omega)
            have fO := hI2.o.free p
            obtain ⟨ov, hov⟩ : ∃ v : Int, v = s.1.getD p 0 := ⟨_, rfl⟩
            rw [← hov] at cO
            clear hov
            have hI4 : OI z W1.heap.size O (W2.heap.size) (W2.heap.size + 1) (.slice A2 n2 c2) q m (s.1.set p P2, s.2.1, s.2.2) (wr.setCell ⟨O, p, none⟩ (.int .i64 P2)) := ⟨perm_set hI2.sb _ (by simp <;> omega) _, hI2.o.set (by omega) _, hI2.jb.other (by simp <;> omega) _, hI2.fb.other (by simp <;> omega) _⟩
            have hb4 := hb2.setCell (p := ⟨O, p, none⟩) (by simp <;> omega) (.int .i64 P2)
            have cX4 : (wr.setCell ⟨O, p, none⟩ (.int .i64 P2)).cell? ⟨B, off + p, none⟩ = some (.int .i64 xv) := by rw [HX.out]; exact (hb4.cell (p := ⟨B, off + p, none⟩) hB0).trans (hxs p hp)
            have cM4 : (wr.setCell ⟨O, p, none⟩ (.int .i64 P2)).cell? ⟨W1.heap.size, 2, none⟩ = some (.int .i64 (m : Int)) := perm_cell (i := 2) hI4.sb
            obtain ⟨jv, hjv⟩ : ∃ v : Int, v = s.2.1.getD d 0 := ⟨_, rfl⟩
            obtain ⟨fv, hfv⟩ : ∃ v : Int, v = s.2.2.getD r 0 := ⟨_, rfl⟩
            have cJ4 : (wr.setCell ⟨O, p, none⟩ (.int .i64 P2)).cell? ⟨(W2.heap.size), d, none⟩ = some (.int .i64 jv) := by rw [hjv]; exact hI4.jb.cell (by simp only; omega)
            have cF4 : (wr.setCell ⟨O, p, none⟩ (.int .i64 P2)).cell? ⟨(W2.heap.size + 1), r, none⟩ = some (.int .i64 fv) := by rw [hfv]; exact hI4.fb.cell (by simp only; omega)
            have fJ4 := hI4.jb.free d
            have fF4 := hI4.fb.free r
            have hI5 : OI z W1.heap.size O (W2.heap.size) (W2.heap.size + 1) (.slice A2 n2 c2) q m (s.1.set p P2, s.2.1.set d (P2 + xv), s.2.2) ((wr.setCell ⟨O, p, none⟩ (.int .i64 P2)).setCell ⟨(W2.heap.size), d, none⟩ (.int .i64 (P2 + xv))) := ⟨perm_set hI4.sb _ (by simp <;> omega) _, hI4.o.other (by simp <;> omega) _, hI4.jb.set (by simp only; omega) _, hI4.fb.other (by simp <;> omega) _⟩
            have cM5 : ((wr.setCell ⟨O, p, none⟩ (.int .i64 P2)).setCell ⟨(W2.heap.size), d, none⟩ (.int .i64 (P2 + xv))).cell? ⟨W1.heap.size, 2, none⟩ = some (.int .i64 (m : Int)) := perm_cell (i := 2) hI5.sb
            have cF5 : ((wr.setCell ⟨O, p, none⟩ (.int .i64 P2)).setCell ⟨(W2.heap.size), d, none⟩ (.int .i64 (P2 + xv))).cell? ⟨(W2.heap.size + 1), r, none⟩ = some (.int .i64 fv) := by rw [hfv]; exact hI5.fb.cell (by simp only; omega)
            have fF5 := hI5.fb.free r
            have hI6 : OI z W1.heap.size O (W2.heap.size) (W2.heap.size + 1) (.slice A2 n2 c2) q m (openL m q xs (t + 1)) (((wr.setCell ⟨O, p, none⟩ (.int .i64 P2)).setCell ⟨(W2.heap.size), d, none⟩ (.int .i64 (P2 + xv))).setCell ⟨(W2.heap.size + 1), r, none⟩ (.int .i64 (P2 + xv))) := by
              rw [HST.out]
              exact ⟨perm_set hI5.sb _ (by simp <;> omega) _, hI5.o.other (by simp <;> omega) _, hI5.jb.other (by simp <;> omega) _, hI5.fb.set (by simp only; omega) _⟩
            have hb6 := (hb4.setCell (p := ⟨(W2.heap.size), d, none⟩) (by simp <;> omega) (.int .i64 (P2 + xv))).setCell (p := ⟨(W2.heap.size + 1), r, none⟩) (by simp <;> omega) (.int .i64 (P2 + xv))
            clear hjv hfv
            go_wp2_with fail
            go_region
            all_goals go_wp2_with fail
            all_goals go_roundw
            case rel => exact ⟨t + 1, hlt, by simp, hb6.drew, ⟨hI6.sb, hI6.o, hI6.jb, hI6.fb⟩⟩
            case measure => simp [intOf]; omega
      · obtain rfl : t = xs.length := by omega
        have hmx := hMx wr (W2.heap.size + 1) hbr hIr.fb
        go_wp2_with (go_at_call 31; refine hmx.mono ?_; rintro e W9 ⟨hb9, rfl⟩)
        go_ret3
        refine ⟨hbr.trans (hb9.mono hbr.size), O, c, z, rfl, by omega, ?_, hz1, hz2⟩
        obtain ⟨cs, e, g1, g2, g3⟩ := hIr.o
        exact ⟨cs, e, (hb9.block _ (lt_of_block g1)).trans g1, g2, g3⟩
  · obtain ⟨W3, hW3⟩ : ∃ W3, W3 = ((W2.alloc (.cells (Array.replicate m (.int .i64 0)) 2)).alloc (.cells (Array.replicate q (.int .i64 0)) 2)).drew := ⟨_, rfl⟩
    have hsz1 : w.heap.size ≤ W1.heap.size := hb1.size
    have hO1' : W1.heap.size + 1 ≤ O := by simpa using hO1
    have hsz2 : W1.heap.size + 1 ≤ W2.heap.size := by have := hb2.size; simpa using this
    have hO3 : O < W2.heap.size := by
      obtain ⟨cs, e, h1, _⟩ := hO2
      exact lt_of_block h1
    have hI3 : OI z W1.heap.size O (W2.heap.size + 1) (W2.heap.size) (.slice A2 n2 c2) q m (openL m q xs 0) W3 := by
      rw [hW3]
      exact ⟨perm_alloc (perm_alloc hsb _) _, (hO2.alloc _).alloc _, RowL.new (by simp), (RowL.new rfl).alloc _⟩
    have hb3 : Below w.heap.size w W3 := by
      rw [hW3]
      have hb2' : Below w.heap.size w W2 := (hAl _ _ hb1).trans (hb2.mono (by simp; omega))
      exact (hAl _ _ (hAl _ _ hb2')).drew
    rw [← hW3]
    clear hW3 hS hNo hmk hmk1 hmk2 hB cq cm cq2 cm2
    go_loopw [36] (fun i wr => ∃ t : Nat, t ≤ xs.length ∧ i = .int .i64 (t : Int) ∧ Below w.heap.size w wr ∧ OI z W1.heap.size O (W2.heap.size + 1) (W2.heap.size) (.slice A2 n2 c2) q m (openL m q xs t) wr) (fun i _ => xs.length - (intOf i).toNat)
    case atStart => exact ⟨0, Nat.zero_le _, rfl, hb3, hI3⟩
    case round =>
      obtain ⟨t, ht, rfl, hbr, hIr⟩ := hrel
      by_cases hlt : t < xs.length
      · have hokt := hok t hlt
        obtain ⟨l1, l2, l3⟩ := openL_len (m := m) (q := q) (xs := xs) t
        obtain ⟨s, hs⟩ : ∃ s, s = openL m q xs t := ⟨_, rfl⟩
        have hsn : openL m q xs (t + 1) = stepO m xs s := by rw [hs]; rfl
        rw [← hs] at l1 l2 l3 hokt hIr
        have HS : Hid (s = openL m q xs t) := hs
        have HN : Hid (openL m q xs (t + 1) = stepO m xs s) := hsn
        have HOK : Hid (okO m xs s = true) := hokt
        clear hs hsn hokt
        go_wp2_with fail
        go_loopw [12, 13, 40] (fun b wh i wr2 => ∃ k : Nat, k ≤ xs.length ∧ i = .int .i64 (k : Int) ∧ b = .int .i64 (pickO m xs s.1 s.2.1 s.2.2 k).1 ∧ wh = .int .i64 (pickO m xs s.1 s.2.1 s.2.2 k).2 ∧ Below w.heap.size w wr2 ∧ OI z W1.heap.size O (W2.heap.size + 1) (W2.heap.size) (.slice A2 n2 c2) q m s wr2) (fun _ _ i _ => xs.length - (intOf i).toNat)
        case atStart => exact ⟨0, Nat.zero_le _, rfl, rfl, rfl, hbr, hIr⟩
        case round =>
          obtain ⟨k, hk, rfl, rfl, rfl, hb2, hI2⟩ := hrel
          obtain ⟨P1, hP1⟩ : ∃ P, P = (pickO m xs s.1 s.2.1 s.2.2 k).1 := ⟨_, rfl⟩
          obtain ⟨P2, hP2⟩ : ∃ P, P = (pickO m xs s.1 s.2.1 s.2.2 k).2 := ⟨_, rfl⟩
          have hpl := pickO_lt (m := m) (xs := xs) (out := s.1) (J := s.2.1) (Fr := s.2.2) k
          rw [← hP1] at hpl
          rw [← hP1, ← hP2]
          have HP : Hid (pickO m xs s.1 s.2.1 s.2.2 k = (P1, P2)) := by
            show _ = _
            rw [hP1, hP2]
          clear hP1 hP2
          by_cases hlt2 : k < xs.length
          · obtain ⟨ov, hov⟩ : ∃ v : Int, v = s.1.getD k 0 := ⟨_, rfl⟩
            have cO : wr.cell? ⟨O, k, none⟩ = some (.int .i64 ov) := by
              rw [hov]
              exact hI2.o.cell (by omega)
            by_cases ho : ov ≥ 0
            · have HK : Hid (pickO m xs s.1 s.2.1 s.2.2 (k + 1) = (P1, P2)) := by
                show _ = _
                rw [pickO, decide_eq_true (by rw [← hov]; exact ho), cond_true]
                exact HP.out
              clear hov
              go_wp2_with fail
              go_roundw
              case rel => exact ⟨k + 1, hlt2, by simp, by rw [HK.out], by rw [HK.out], hb2, hI2⟩
              case measure => simp [intOf]; omega
            · have hkm : k / m < q := Nat.div_lt_of_lt_mul (by rw [Nat.mul_comm, hqm]; exact hlt2)
              have hkr : k % m < m := Nat.mod_lt _ (by omega)
              have hdv : Int.tdiv (k : Int) (m : Int) = ((k / m : Nat) : Int) := (Int.ofNat_tdiv k m).symm
              have hmd : Int.tmod (k : Int) (m : Int) = ((k % m : Nat) : Int) := (Int.ofNat_tmod k m).symm
              have hm0 : ((m : Int) == 0) = false := by
                simp only [beq_eq_false_iff_ne]
                omega
              have cM : wr.cell? ⟨W1.heap.size, 2, none⟩ = some (.int .i64 (m : Int)) := perm_cell (i := 2) hI2.sb
              obtain ⟨jv, hjv⟩ : ∃ v : Int, v = s.2.1.getD (k / m) 0 := ⟨_, rfl⟩
              obtain ⟨fv, hfv⟩ : ∃ v : Int, v = s.2.2.getD (k % m) 0 := ⟨_, rfl⟩
              obtain ⟨xv, hxv⟩ : ∃ v : Int, v = xs.getD k 0 := ⟨_, rfl⟩
              obtain ⟨xp, hxp⟩ : ∃ v : Int, v = xs.getD P1.toNat 0 := ⟨_, rfl⟩
              have cJ : wr.cell? ⟨(W2.heap.size + 1), k / m, none⟩ = some (.int .i64 jv) := by rw [hjv]; exact hI2.jb.cell (by omega)
              have cF : wr.cell? ⟨(W2.heap.size), k % m, none⟩ = some (.int .i64 fv) := by rw [hfv]; exact hI2.fb.cell (by omega)
              have cX : wr.cell? ⟨B, off + k, none⟩ = some (.int .i64 xv) := by rw [hxv]; exact (hb2.cell (p := ⟨B, off + k, none⟩) hB0).trans (hxs k hlt2)
              have cP : 0 ≤ P1 → wr.cell? ⟨B, off + P1.toNat, none⟩ = some (.int .i64 xp) := fun hp => by rw [hxp]; exact (hb2.cell (p := ⟨B, off + P1.toNat, none⟩) hB0).trans (hxs _ (by omega))
              have HK : Hid (pickO m xs s.1 s.2.1 s.2.2 (k + 1) = cond (decide (P1 < 0) || (decide (imax jv fv < P2) || (decide (imax jv fv = P2) && decide (xv > xp)))) ((k : Int), imax jv fv) (P1, P2)) := by
                show _ = _
                rw [pickO, decide_eq_false (by rw [← hov]; exact ho), cond_false, HP.out, hjv, hfv, hxv, hxp]
              clear hov hjv hfv hxv hxp
              generalize k / m = d at *
              generalize k % m = r at *
              by_cases hjf : jv < fv
              · have HM : Hid (imax jv fv = fv) := by
                  show _ = _
                  unfold imax
                  simp [hjf]
                by_cases h1 : P1 < 0
                · have e1 : decide (P1 < 0) = true := decide_eq_true h1
                  have HE : Hid (cond (decide (P1 < 0) || (decide (imax jv fv < P2) || (decide (imax jv fv = P2) && decide (xv > xp)))) ((k : Int), imax jv fv) (P1, P2) = ((k : Int), fv)) := by
                    show _ = _
                    rw [HM.out]
                    simp [h1]
                  go_wp2_with fail
                  go_region
                  all_goals go_wp2_with fail
                  all_goals go_region
                  all_goals go_wp2_with fail
                  all_goals go_roundw
                  case rel => exact ⟨k + 1, hlt2, by simp, (by first | (rw [HK.out, HE.out]; done) | (rw [HK.out, HE.out, h3]; done)), (by first | (rw [HK.out, HE.out]; done) | (rw [HK.out, HE.out, h3]; done)), hb2.drew.drew, ⟨hI2.sb, hI2.o, hI2.jb, hI2.fb⟩⟩
                  case measure => simp [intOf]; omega
                · have e1 : decide (P1 < 0) = false := decide_eq_false h1
                  have cP1 := cP (by omega)
                  by_cases h2 : fv < P2
                  · have e2 : decide (fv < P2) = true := decide_eq_true h2
                    have HE : Hid (cond (decide (P1 < 0) || (decide (imax jv fv < P2) || (decide (imax jv fv = P2) && decide (xv > xp)))) ((k : Int), imax jv fv) (P1, P2) = ((k : Int), fv)) := by
                      show _ = _
                      rw [HM.out]
                      simp [h2]
                    go_wp2_with fail
                    go_region
                    all_goals go_wp2_with fail
                    all_goals go_region
                    all_goals go_wp2_with fail
                    all_goals go_roundw
                    case rel => exact ⟨k + 1, hlt2, by simp, (by first | (rw [HK.out, HE.out]; done) | (rw [HK.out, HE.out, h3]; done)), (by first | (rw [HK.out, HE.out]; done) | (rw [HK.out, HE.out, h3]; done)), hb2.drew.drew, ⟨hI2.sb, hI2.o, hI2.jb, hI2.fb⟩⟩
                    case measure => simp [intOf]; omega
                  · have e2 : decide (fv < P2) = false := decide_eq_false h2
                    by_cases h3 : fv = P2
                    · have e3 : (fv == P2) = true := by simp [h3]
                      by_cases h4 : xp < xv
                      · have e4 : decide (xp < xv) = true := decide_eq_true h4
                        have HE : Hid (cond (decide (P1 < 0) || (decide (imax jv fv < P2) || (decide (imax jv fv = P2) && decide (xv > xp)))) ((k : Int), imax jv fv) (P1, P2) = ((k : Int), fv)) := by
                          show _ = _
                          rw [HM.out]
                          simp [h3, h4]
                        go_wp2_with fail
                        go_region
                        all_goals go_wp2_with fail
                        all_goals go_region
                        all_goals go_wp2_with fail
                        all_goals go_roundw
                        case rel => exact ⟨k + 1, hlt2, by simp, (by first | (rw [HK.out, HE.out]; done) | (rw [HK.out, HE.out, h3]; done)), (by first | (rw [HK.out, HE.out]; done) | (rw [HK.out, HE.out, h3]; done)), hb2.drew.drew, ⟨hI2.sb, hI2.o, hI2.jb, hI2.fb⟩⟩
                        case measure => simp [intOf]; omega
                      · have e4 : decide (xp < xv) = false := decide_eq_false h4
                        have HE : Hid (cond (decide (P1 < 0) || (decide (imax jv fv < P2) || (decide (imax jv fv = P2) && decide (xv > xp)))) ((k : Int), imax jv fv) (P1, P2) = (P1, P2)) := by
                          show _ = _
                          rw [HM.out]
                          simp [h1, h2, h3, h4]
                        go_wp2_with fail
                        go_region
                        all_goals go_wp2_with fail
                        all_goals go_region
                        all_goals go_wp2_with fail
                        all_goals go_roundw
                        case rel => exact ⟨k + 1, hlt2, by simp, (by first | (rw [HK.out, HE.out]; done) | (rw [HK.out, HE.out, h3]; done)), (by first | (rw [HK.out, HE.out]; done) | (rw [HK.out, HE.out, h3]; done)), hb2.drew.drew, ⟨hI2.sb, hI2.o, hI2.jb, hI2.fb⟩⟩
                        case measure => simp [intOf]; omega
                    · have e3 : (fv == P2) = false := by simp [h3]
                      have HE : Hid (cond (decide (P1 < 0) || (decide (imax jv fv < P2) || (decide (imax jv fv = P2) && decide (xv > xp)))) ((k : Int), imax jv fv) (P1, P2) = (P1, P2)) := by
                        show _ = _
                        rw [HM.out]
                        simp [h1, h2, h3]
                      go_wp2_with fail
                      go_region
                      all_goals go_wp2_with fail
                      all_goals go_region
                      all_goals go_wp2_with fail
                      all_goals go_roundw
                      case rel => exact ⟨k + 1, hlt2, by simp, (by first | (rw [HK.out, HE.out]; done) | (rw [HK.out, HE.out, h3]; done)), (by first | (rw [HK.out, HE.out]; done) | (rw [HK.out, HE.out, h3]; done)), hb2.drew.drew, ⟨hI2.sb, hI2.o, hI2.jb, hI2.fb⟩⟩
                      case measure => simp [intOf]; omega
              · have HM : Hid (imax jv fv = jv) := by
                  show _ = _
                  unfold imax
                  simp [hjf]
                by_cases h1 : P1 < 0
                · have e1 : decide (P1 < 0) = true := decide_eq_true h1
                  have HE : Hid (cond (decide (P1 < 0) || (decide (imax jv fv < P2) || (decide (imax jv fv = P2) && decide (xv > xp)))) ((k : Int), imax jv fv) (P1, P2) = ((k : Int), jv)) := by
                    show _ = _
                    rw [HM.out]
                    simp [h1]
                  go_wp2_with fail
                  go_region
                  all_goals go_wp2_with fail
                  all_goals go_region
                  all_goals go_wp2_with fail
                  all_goals go_roundw
                  case rel => exact ⟨k + 1, hlt2, by simp, (by first | (rw [HK.out, HE.out]; done) | (rw [HK.out, HE.out, h3]; done)), (by first | (rw [HK.out, HE.out]; done) | (rw [HK.out, HE.out, h3]; done)), hb2.drew.drew, ⟨hI2.sb, hI2.o, hI2.jb, hI2.fb⟩⟩
                  case measure => simp [intOf]; omega
                · have e1 : decide (P1 < 0) = false := decide_eq_false h1
                  have cP1 := cP (by omega)
                  by_cases h2 : jv < P2
                  · have e2 : decide (jv < P2) = true := decide_eq_true h2
                    have HE : Hid (cond (decide (P1 < 0) || (decide (imax jv fv < P2) || (decide (imax jv fv = P2) && decide (xv > xp)))) ((k : Int), imax jv fv) (P1, P2) = ((k : Int), jv)) := by
                      show _ = _
                      rw [HM.out]
                      simp [h2]
                    go_wp2_with fail
                    go_region
                    all_goals go_wp2_with fail
                    all_goals go_region
                    all_goals go_wp2_with fail
                    all_goals go_roundw
                    case rel => exact ⟨k + 1, hlt2, by simp, (by first | (rw [HK.out, HE.out]; done) | (rw [HK.out, HE.out, h3]; done)), (by first | (rw [HK.out, HE.out]; done) | (rw [HK.out, HE.out, h3]; done)), hb2.drew.drew, ⟨hI2.sb, hI2.o, hI2.jb, hI2.fb⟩⟩
                    case measure => simp [intOf]; omega
                  · have e2 : decide (jv < P2) = false := decide_eq_false h2
                    by_cases h3 : jv = P2
                    · have e3 : (jv == P2) = true := by simp [h3]
                      by_cases h4 : xp < xv
                      · have e4 : decide (xp < xv) = true := decide_eq_true h4
                        have HE : Hid (cond (decide (P1 < 0) || (decide (imax jv fv < P2) || (decide (imax jv fv = P2) && decide (xv > xp)))) ((k : Int), imax jv fv) (P1, P2) = ((k : Int), jv)) := by
                          show _ = _
                          rw [HM.out]
                          simp [h3, h4]
                        go_wp2_with fail
                        go_region
                        all_goals go_wp2_with fail
                        all_goals go_region
                        all_goals go_wp2_with fail
                        all_goals go_roundw
                        case rel => exact ⟨k + 1, hlt2, by simp, (by first | (rw [HK.out, HE.out]; done) | (rw [HK.out, HE.out, h3]; done)), (by first | (rw [HK.out, HE.out]; done) | (rw [HK.out, HE.out, h3]; done)), hb2.drew.drew, ⟨hI2.sb, hI2.o, hI2.jb, hI2.fb⟩⟩
                        case measure => simp [intOf]; omega
                      · have e4 : decide (xp < xv) = false := decide_eq_false h4
                        have HE : Hid (cond (decide (P1 < 0) || (decide (imax jv fv < P2) || (decide (imax jv fv = P2) && decide (xv > xp)))) ((k : Int), imax jv fv) (P1, P2) = (P1, P2)) := by
                          show _ = _
                          rw [HM.out]
                          simp [h1, h2, h3, h4]
                        go_wp2_with fail
                        go_region
                        all_goals go_wp2_with fail
                        all_goals go_region
                        all_goals go_wp2_with fail
                        all_goals go_roundw
                        case rel => exact ⟨k + 1, hlt2, by simp, (by first | (rw [HK.out, HE.out]; done) | (rw [HK.out, HE.out, h3]; done)), (by first | (rw [HK.out, HE.out]; done) | (rw [HK.out, HE.out, h3]; done)), hb2.drew.drew, ⟨hI2.sb, hI2.o, hI2.jb, hI2.fb⟩⟩
                        case measure => simp [intOf]; omega
                    · have e3 : (jv == P2) = false := by simp [h3]
                      have HE : Hid (cond (decide (P1 < 0) || (decide (imax jv fv < P2) || (decide (imax jv fv = P2) && decide (xv > xp)))) ((k : Int), imax jv fv) (P1, P2) = (P1, P2)) := by
                        show _ = _
                        rw [HM.out]
                        simp [h1, h2, h3]
                      go_wp2_with fail
                      go_region
                      all_goals go_wp2_with fail
                      all_goals go_region
                      all_goals go_wp2_with fail
                      all_goals go_roundw
                      case rel => exact ⟨k + 1, hlt2, by simp, (by first | (rw [HK.out, HE.out]; done) | (rw [HK.out, HE.out, h3]; done)), (by first | (rw [HK.out, HE.out]; done) | (rw [HK.out, HE.out, h3]; done)), hb2.drew.drew, ⟨hI2.sb, hI2.o, hI2.jb, hI2.fb⟩⟩
                      case measure => simp [intOf]; omega
          · obtain rfl : k = xs.length := by omega
            have hokt := HOK.out
            unfold okO pickS at hokt
            rw [HP.out] at hokt
            simp only [Bool.and_eq_true, decide_eq_true_eq] at hokt
            obtain ⟨o1, o2, o3, o4⟩ := hokt
            obtain ⟨p, rfl⟩ : ∃ p : Nat, P1 = (p : Int) := ⟨P1.toNat, by omega⟩
            have hp : p < xs.length := by omega
            obtain ⟨xv, hxv⟩ : ∃ v : Int, v = xs.getD p 0 := ⟨_, rfl⟩
            have hxb : -1000000000 ≤ xv ∧ xv ≤ 1000000000 := by
              have := List.all_eq_true.1 o4 xv (by rw [hxv, List.getD_eq_getElem?_getD, List.getElem?_eq_getElem hp]; exact List.getElem_mem hp)
              simpa using this
            have HX : Hid (xv = xs.getD p 0) := hxv
            have hkm : p / m < q := Nat.div_lt_of_lt_mul (by rw [Nat.mul_comm, hqm]; exact hp)
            have hkr : p % m < m := Nat.mod_lt _ (by omega)
            have hdv : Int.tdiv (p : Int) (m : Int) = ((p / m : Nat) : Int) := (Int.ofNat_tdiv p m).symm
            have hmd : Int.tmod (p : Int) (m : Int) = ((p % m : Nat) : Int) := (Int.ofNat_tmod p m).symm
            have hm0 : ((m : Int) == 0) = false := by
              simp only [beq_eq_false_iff_ne]
              omega
            have HST : Hid (openL m q xs (t + 1) = (s.1.set p P2, s.2.1.set (p / m) (P2 + xv), s.2.2.set (p % m) (P2 + xv))) := by
              show _ = _
              rw [HN.out]
              unfold stepO pickS
              rw [HP.out]
              simp only [Int.toNat_natCast]
              rw [hxv]
            clear hxv o4
            generalize p / m = d at *
            generalize p % m = r at *
            -- the worlds behind the stores
            have cO := hI2.o.cell (i := p) (by omega)
            have fO := hI2.o.free p
            obtain ⟨ov, hov⟩ : ∃ v : Int, v = s.1.getD p 0 := ⟨_, rfl⟩
            rw [← hov] at cO
            clear hov
            have hI4 : OI z W1.heap.size O (W2.heap.size + 1) (W2.heap.size) (.slice A2 n2 c2) q m (s.1.set p P2, s.2.1, s.2.2) (wr.setCell ⟨O, p, none⟩ (.int .i64 P2)) := ⟨perm_set hI2.sb _ (by simp <;> omega) _, hI2.o.set (by omega) _, hI2.jb.other (by simp <;> omega) _, hI2.fb.other (by simp <;> omega) _⟩
            have hb4 := hb2.setCell (p := ⟨O, p, none⟩) (by simp <;> omega) (.int .i64 P2)
            have cX4 : (wr.setCell ⟨O, p, none⟩ (.int .i64 P2)).cell? ⟨B, off + p, none⟩ = some (.int .i64 xv) := by rw [HX.out]; exact (hb4.cell (p := ⟨B, off + p, none⟩) hB0).trans (hxs p hp)
            have cM4 : (wr.setCell ⟨O, p, none⟩ (.int .i64 P2)).cell? ⟨W1.heap.size, 2, none⟩ = some (.int .i64 (m : Int)) := perm_cell (i := 2) hI4.sb
            obtain ⟨jv, hjv⟩ : ∃ v : Int, v = s.2.1.getD d 0 := ⟨_, rfl⟩
            obtain ⟨fv, hfv⟩ : ∃ v : Int, v = s.2.2.getD r 0 := ⟨_, rfl⟩
            have cJ4 : (wr.setCell ⟨O, p, none⟩ (.int .i64 P2)).cell? ⟨(W2.heap.size + 1), d, none⟩ = some (.int .i64 jv) := by rw [hjv]; exact hI4.jb.cell (by simp only; omega)
            have cF4 : (wr.setCell ⟨O, p, none⟩ (.int .i64 P2)).cell? ⟨(W2.heap.size), r, none⟩ = some (.int .i64 fv) := by rw [hfv]; exact hI4.fb.cell (by simp only; omega)
            have fJ4 := hI4.jb.free d
            have fF4 := hI4.fb.free r
            have hI5 : OI z W1.heap.size O (W2.heap.size + 1) (W2.heap.size) (.slice A2 n2 c2) q m (s.1.set p P2, s.2.1.set d (P2 + xv), s.2.2) ((wr.setCell ⟨O, p, none⟩ (.int .i64 P2)).setCell ⟨(W2.heap.size + 1), d, none⟩ (.int .i64 (P2 + xv))) := ⟨perm_set hI4.sb _ (by simp <;> omega) _, hI4.o.other (by simp <;> omega) _, hI4.jb.set (by simp only; omega) _, hI4.fb.other (by simp <;> omega) _⟩
            have cM5 : ((wr.setCell ⟨O, p, none⟩ (.int .i64 P2)).setCell ⟨(W2.heap.size + 1), d, none⟩ (.int .i64 (P2 + xv))).cell? ⟨W1.heap.size, 2, none⟩ = some (.int .i64 (m : Int)) := perm_cell (i := 2) hI5.sb
            have cF5 : ((wr.setCell ⟨O, p, none⟩ (.int .i64 P2)).setCell ⟨(W2.heap.size + 1), d, none⟩ (.int .i64 (P2 + xv))).cell? ⟨(W2.heap.size), r, none⟩ = some (.int .i64 fv) := by rw [hfv]; exact hI5.fb.cell (by simp only; omega)
            have fF5 := hI5.fb.free r
            have hI6 : OI z W1.heap.size O (W2.heap.size + 1) (W2.heap.size) (.slice A2 n2 c2) q m (openL m q xs (t + 1)) (((wr.setCell ⟨O, p, none⟩ (.int .i64 P2)).setCell ⟨(W2.heap.size + 1), d, none⟩ (.int .i64 (P2 + xv))).setCell ⟨(W2.heap.size), r, none⟩ (.int .i64 (P2 + xv))) := by
              rw [HST.out]
              exact ⟨perm_set hI5.sb _ (by simp <;> omega) _, hI5.o.other (by simp <;> omega) _, hI5.jb.other (by simp <;> omega) _, hI5.fb.set (by simp only; omega) _⟩
            have hb6 := (hb4.setCell (p := ⟨(W2.heap.size + 1), d, none⟩) (by simp <;> omega) (.int .i64 (P2 + xv))).setCell (p := ⟨(W2.heap.size), r, none⟩) (by simp <;> omega) (.int .i64 (P2 + xv))
            clear hjv hfv
            go_wp2_with fail
            go_region
            all_goals go_wp2_with fail
            all_goals go_roundw
            case rel => exact ⟨t + 1, hlt, by simp, hb6.drew, ⟨hI6.sb, hI6.o, hI6.jb, hI6.fb⟩⟩
            case measure => simp [intOf]; omega
      · obtain rfl : t = xs.length := by omega
        have hmx := hMx wr (W2.heap.size) hbr hIr.fb
        go_wp2_with (go_at_call 31; refine hmx.mono ?_; rintro e W9 ⟨hb9, rfl⟩)
        go_ret3
        refine ⟨hbr.trans (hb9.mono hbr.size), O, c, z, rfl, by omega, ?_, hz1, hz2⟩
        obtain ⟨cs, e, g1, g2, g3⟩ := hIr.o
        exact ⟨cs, e, (hb9.block _ (lt_of_block g1)).trans g1, g2, g3⟩

end Go.Proofs.Ytgcmklniacjcfaa
