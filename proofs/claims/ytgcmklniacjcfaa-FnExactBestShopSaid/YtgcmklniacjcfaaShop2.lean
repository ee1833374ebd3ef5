/-
  impl.ShopStarts, walked. No condition.
-/
import Derived.Test.YtgcmklniacjcfaaShop1
namespace Go.Proofs.Ytgcmklniacjcfaa
open Go Go.RowKit Go.Proofs.Ytgcmklniacjcfaa.Fw
set_option maxRecDepth 100000
set_option linter.unusedVariables false
set_option linter.unusedSimpArgs false

/-- No shop. -/
theorem start_false1 {v0 v1 v3 : Value} {M : Int} (w : World) (hS : ∀ W, Below w.heap.size w W → Calls Try.prog 35 #[v0, v1, .int .i64 M] W fun e W' => Below W.heap.size W W' ∧ ∃ A2 n2 c2 q m, e = .returned (.tuple #[.agg #[.slice A2 n2 c2, .int .i64 q, .int .i64 m], .bool false])) :
    Calls Try.prog 15 #[v0, v1, .int .i64 M, v3] w fun e W' => Below w.heap.size w W' ∧ e = .returned (.tuple #[.slice none 0 0, .int .i64 0, .bool false]) := by
  go_enter Try.func15, Try.ntmps15
  go_wp2_with (go_at_call 35; refine (hS _ (Below.refl _ _)).mono ?_; rintro e W1 ⟨hb1, A2, n2, c2, q, m, rfl⟩)
  go_ret3
  exact ⟨hb1.alloc hb1.size _, rfl⟩

/-- Too few turns, or too many. -/
theorem start_false2 {v0 : Value} {A1 A3 : Option Addr} {n1 c1 n3 c3 : Nat} {M : Int} (w : World) (hne : n3 ≠ n1) (hS : ∀ W, Below w.heap.size w W → Calls Try.prog 35 #[v0, .slice A1 n1 c1, .int .i64 M] W fun e W' => Below W.heap.size W W' ∧ ∃ A2 n2 c2 q m, e = .returned (.tuple #[.agg #[.slice A2 n2 c2, .int .i64 q, .int .i64 m], .bool true])) :
    Calls Try.prog 15 #[v0, .slice A1 n1 c1, .int .i64 M, .slice A3 n3 c3] w fun e W' => Below w.heap.size w W' ∧ e = .returned (.tuple #[.slice none 0 0, .int .i64 0, .bool false]) := by
  have hb : ((n3 : Int) == (n1 : Int)) = false := by
    simp only [beq_eq_false_iff_ne]
    omega
  go_enter Try.func15, Try.ntmps15
  go_wp2_with (go_at_call 35; refine (hS _ (Below.refl _ _)).mono ?_; rintro e W1 ⟨hb1, A2, n2, c2, q, m, rfl⟩)
  go_ret3
  exact ⟨hb1.alloc hb1.size _, rfl⟩

/-- A turn of no job. -/
theorem start_false3 {v0 : Value} {A1 A3 : Option Addr} {n c1 c3 : Nat} {M q m : Int} (w : World) (hq : 1 ≤ q ∧ q ≤ 24) (hS : ∀ W, Below w.heap.size w W → Calls Try.prog 35 #[v0, .slice A1 n c1, .int .i64 M] W fun e W' => Below W.heap.size W W' ∧ ∃ A2 n2 c2, e = .returned (.tuple #[.agg #[.slice A2 n2 c2, .int .i64 q, .int .i64 m], .bool true]))
    (hA : ∀ W, Below w.heap.size w W → Calls Try.prog 36 #[.slice A3 n c3, .int .i64 0, .int .i64 (q - 1)] W fun e W' => Below W.heap.size W W' ∧ e = .returned (.bool false)) :
    Calls Try.prog 15 #[v0, .slice A1 n c1, .int .i64 M, .slice A3 n c3] w fun e W' => Below w.heap.size w W' ∧ e = .returned (.tuple #[.slice none 0 0, .int .i64 0, .bool false]) := by
  have hAl : ∀ W1 o, Below w.heap.size w W1 → Below w.heap.size w (W1.alloc o) := fun W1 o h => h.alloc h.size o
  go_enter Try.func15, Try.ntmps15
  go_wp2_with (first | (go_at_call 35; refine (hS _ (Below.refl _ _)).mono ?_; rintro e W1 ⟨hb1, A2, n2, c2, rfl⟩) | (go_at_call 36; refine (hA _ (hAl _ _ hb1)).mono ?_; rintro e W2 ⟨hb2, rfl⟩))
  go_ret3
  exact ⟨(hAl _ _ hb1).trans (hb2.mono (hAl _ _ hb1).size), rfl⟩

theorem RowL.same {W W' : World} {b z : Nat} {l : List Int} (h : RowL W b z l) (e : W'.heap[b]? = W.heap[b]?) : RowL W' b z l := by
  obtain ⟨cs, t, h1, h2, h3⟩ := h
  exact ⟨cs, t, e.trans h1, h2, h3⟩
theorem RowL.lt {W : World} {b z : Nat} {l : List Int} (h : RowL W b z l) : b < W.heap.size := by
  obtain ⟨cs, t, h1, h2, h3⟩ := h
  exact lt_of_block h1

theorem okT_lt {m q : Nat} {rt xs : List Int} (hqm : q * m = xs.length) {s : TS} {j : Nat} (hok : okT m q rt xs s (j : Int) = true) (hne : (s.1.getD j 0 == (m : Int)) = false) : stepX m s j < xs.length := by
  unfold okT at hok
  simp only [Int.toNat_natCast, Bool.and_eq_true, Bool.or_eq_true, decide_eq_true_eq] at hok
  obtain ⟨_, o2, o3, o4, _⟩ := hok
  have hne' : s.1.getD j 0 ≠ (m : Int) := by simpa using hne
  unfold stepX
  rw [← hqm]
  have : (j + 1) * m ≤ q * m := Nat.mul_le_mul_right m (by omega)
  rw [Nat.add_mul] at this
  omega

/-- What lies in memory while the turns go on. -/
structure SI (n q m : Nat) (xs : List Int) (SB TB O NB JB FB B off c RB roff rc : Nat) (s : TS) (out : List Int) (W : World) : Prop where
  sb : W.heap[SB]? = some (.cells #[.slice (some ⟨B, off, none⟩) n c, .int .i64 (q : Int), .int .i64 (m : Int)] 44 (0, 0))
  tb : W.heap[TB]? = some (.cells #[.slice (some ⟨B, off, none⟩) n c, .int .i64 (q : Int), .int .i64 (m : Int), .slice (some ⟨RB, roff, none⟩) n rc, .slice (some ⟨NB, 0, none⟩) q q, .slice (some ⟨JB, 0, none⟩) q q, .slice (some ⟨FB, 0, none⟩) m m] 55 (0, 0))
  o : RowL W O n out
  nb : RowL W NB q s.1
  jb : RowL W JB q s.2.1
  fb : RowL W FB m s.2.2
  xb : ∀ i, i < n → W.cell? ⟨B, off + i, none⟩ = some (.int .i64 (xs.getD i 0))

set_option maxHeartbeats 16000000 in
theorem start_any {rt xs tu : List Int} {q m XB xo xc RB roff rc UB uo uc : Nat} (hm : 1 ≤ m ∧ m ≤ 8) (hq : 1 ≤ q ∧ q ≤ 24) (hqm : q * m = xs.length) (hrl : rt.length = xs.length) (hul : tu.length = xs.length) (w : World) (hR0 : RB < w.heap.size) (hU0 : UB < w.heap.size) {mx : Int}
    (hrs : ∀ i, i < xs.length → w.cell? ⟨RB, roff + i, none⟩ = some (.int .i64 (rt.getD i 0)))
    (hus : ∀ i, i < xs.length → w.cell? ⟨UB, uo + i, none⟩ = some (.int .i64 (tu.getD i 0)))
    (hok : ∀ t, t < xs.length → okT m q rt xs (shopT m q rt xs tu t).1 (tu.getD t 0) = true)
    (hS : ∀ W, Below w.heap.size w W → Calls Try.prog 35 #[.slice (some ⟨RB, roff, none⟩) xs.length rc, .slice (some ⟨XB, xo, none⟩) xs.length xc, .int .i64 (m : Int)] W fun e W' => Below W.heap.size W W' ∧ ∃ B off c, e = .returned (.tuple #[.agg #[.slice (some ⟨B, off, none⟩) xs.length c, .int .i64 (q : Int), .int .i64 (m : Int)], .bool true]) ∧ B < W'.heap.size ∧ ∀ i, i < xs.length → W'.cell? ⟨B, off + i, none⟩ = some (.int .i64 (xs.getD i 0)))
    (hA : ∀ W, Below w.heap.size w W → Calls Try.prog 36 #[.slice (some ⟨UB, uo, none⟩) xs.length uc, .int .i64 0, .int .i64 ((q : Int) - 1)] W fun e W' => Below W.heap.size W W' ∧ e = .returned (.bool true))
    (hMx : (∀ t, t < xs.length → ((shopT m q rt xs tu t).1.1.getD (tu.getD t 0).toNat 0 == (m : Int)) = false) → ∀ W FB, Below w.heap.size w W → RowL W FB m (shopT m q rt xs tu xs.length).1.2.2 → Calls Try.prog 31 #[.slice (some ⟨FB, 0, none⟩) m m] W fun e W' => Below W.heap.size W W' ∧ e = .returned (.int .i64 mx)) :
    Calls Try.prog 15 #[.slice (some ⟨RB, roff, none⟩) xs.length rc, .slice (some ⟨XB, xo, none⟩) xs.length xc, .int .i64 (m : Int), .slice (some ⟨UB, uo, none⟩) xs.length uc] w fun e W' => Below w.heap.size w W' ∧
      (((∀ t, t < xs.length → ((shopT m q rt xs tu t).1.1.getD (tu.getD t 0).toNat 0 == (m : Int)) = false) ∧ ∃ O, e = .returned (.tuple #[.slice (some ⟨O, 0, none⟩) xs.length xs.length, .int .i64 mx, .bool true]) ∧ w.heap.size ≤ O ∧ RowL W' O xs.length (shopT m q rt xs tu xs.length).2) ∨
       ((∃ t, t < xs.length ∧ ((shopT m q rt xs tu t).1.1.getD (tu.getD t 0).toNat 0 == (m : Int)) = true) ∧ e = .returned (.tuple #[.slice none 0 0, .int .i64 0, .bool false]))) := by
  have hx192 : xs.length ≤ 192 := by
    rw [← hqm]
    exact Nat.mul_le_mul hq.2 hm.2
  have hmkO : ∀ (W : World), (Instr.makeSlice 22 (.int .i64 (xs.length : Int)) (.int .i64 (xs.length : Int))).run Try.prog W = .ok (.slice (some ⟨W.heap.size, 0, none⟩) xs.length xs.length) (W.alloc (.cells (Array.replicate xs.length (.int .i64 0)) 2)) := fun W => perm_make Try.underlying22 perm_info_int (by omega) rfl _ _ (by omega) (by omega) W
  have hAl : ∀ W1 o, Below w.heap.size w W1 → Below w.heap.size w (W1.alloc o) := fun W1 o h => h.alloc h.size o
  have hSB : ∀ (W1 W2 : World) (B off c : Nat), Below (W1.alloc (.cells #[.slice (some ⟨B, off, none⟩) xs.length c, .int .i64 (q : Int), .int .i64 (m : Int)] 44)).heap.size (W1.alloc (.cells #[.slice (some ⟨B, off, none⟩) xs.length c, .int .i64 (q : Int), .int .i64 (m : Int)] 44)) W2 → W2.heap[W1.heap.size]? = some (.cells #[.slice (some ⟨B, off, none⟩) xs.length c, .int .i64 (q : Int), .int .i64 (m : Int)] 44 (0, 0)) := fun W1 W2 B off c h =>
    (h.block _ (by simp)).trans (perm_new rfl _)
  have c10 : ∀ (W1 : World) (B off c : Nat), (W1.alloc (.cells #[.slice (some ⟨B, off, none⟩) xs.length c, .int .i64 (q : Int), .int .i64 (m : Int)] 44)).cell? ⟨W1.heap.size, 1, none⟩ = some (.int .i64 (q : Int)) := fun W1 B off c => (perm_cell (i := 1) (perm_new (k := W1.heap.size) rfl _)).trans (by simp)
  go_enter Try.func15, Try.ntmps15
  go_wp2_with (first | (go_at_call 35; refine (hS _ (Below.refl _ _)).mono ?_; rintro e W1 ⟨hb1, B, off, c, rfl, hBlt, hxb⟩) | (go_at_call 36; refine (hA _ (hAl _ _ hb1)).mono ?_; rintro e W2 ⟨hb2, rfl⟩; have hsb := hSB W1 W2 B off c hb2; have cs0 := perm_cell (i := 0) hsb; have cs1 := perm_cell (i := 1) hsb; have cs2 := perm_cell (i := 2) hsb; simp only [List.getElem?_toArray, List.getElem?_cons_succ, List.getElem?_cons_zero] at cs0 cs1 cs2) | (go_at_call 37; refine (steps_any hm hq _).mono ?_; rintro e W3 ⟨hb3, NB, JB, FB, rfl, hn0, hj0, hf0, d1, d2, d3, hN3, hJ3, hF3⟩))
  have hsz1 : w.heap.size ≤ W1.heap.size := hb1.size
  have hsz2 : W1.heap.size + 1 ≤ W2.heap.size := by have := hb2.size; simpa using this
  have hsz3 : W2.heap.size ≤ W3.heap.size := hb3.size
  have hNl := hN3.lt
  have hJl := hJ3.lt
  have hFl := hF3.lt
  obtain ⟨W4, hW4⟩ : ∃ W4, W4 = (W3.alloc (.cells #[.slice (some ⟨B, off, none⟩) xs.length c, .int .i64 (q : Int), .int .i64 (m : Int), .slice (some ⟨RB, roff, none⟩) xs.length rc, .slice (some ⟨NB, 0, none⟩) q q, .slice (some ⟨JB, 0, none⟩) q q, .slice (some ⟨FB, 0, none⟩) m m] 55)).alloc (.cells (Array.replicate xs.length (.int .i64 0)) 2) := ⟨_, rfl⟩
  have hb4 : Below w.heap.size w W4 := by
    have h1 := (hAl _ (.cells #[.slice (some ⟨B, off, none⟩) xs.length c, .int .i64 (q : Int), .int .i64 (m : Int)] 44) hb1)
    have h2 : Below w.heap.size w W2 := h1.trans (hb2.mono h1.size)
    have h3 : Below w.heap.size w W3 := h2.trans (hb3.mono h2.size)
    rw [hW4]
    exact hAl _ _ (hAl _ _ h3)
  have hI4 : SI xs.length q m xs W1.heap.size W3.heap.size (W3.heap.size + 1) NB JB FB B off c RB roff rc (zeroT m q) (List.replicate xs.length 0) W4 := by
    rw [hW4]
    refine ⟨perm_alloc (perm_alloc ((hb3.block _ (by omega)).trans hsb) _) _, perm_alloc (perm_new rfl _) _, row_new (by simp), (hN3.alloc _).alloc _, (hJ3.alloc _).alloc _, (hF3.alloc _).alloc _, fun i hi => ?_⟩
    have e1 : Below W1.heap.size W1 W2 := ((Below.refl _ _).alloc (Nat.le_refl _) _).trans (hb2.mono (by simp))
    have e2 : Below W1.heap.size W1 W3 := e1.trans (hb3.mono e1.size)
    have e3 : Below W1.heap.size W1 _ := (e2.alloc e2.size (.cells #[.slice (some ⟨B, off, none⟩) xs.length c, .int .i64 (q : Int), .int .i64 (m : Int), .slice (some ⟨RB, roff, none⟩) xs.length rc, .slice (some ⟨NB, 0, none⟩) q q, .slice (some ⟨JB, 0, none⟩) q q, .slice (some ⟨FB, 0, none⟩) m m] 55)).alloc (by simp; omega) (.cells (Array.replicate xs.length (.int .i64 0)) 2)
    exact (e3.cell (p := ⟨B, off + i, none⟩) hBlt).trans (hxb i hi)
  rw [← hW4]
  clear hW4 hS hA hmkO hSB c10 cs0 cs1 cs2
  go_loopw [51] (fun i wr => ∃ t : Nat, t ≤ xs.length ∧ i = .int .i64 (t : Int) ∧ Hid (∀ t', t' < t → ((shopT m q rt xs tu t').1.1.getD (tu.getD t' 0).toNat 0 == (m : Int)) = false) ∧ Below w.heap.size w wr ∧ SI xs.length q m xs W1.heap.size W3.heap.size (W3.heap.size + 1) NB JB FB B off c RB roff rc (shopT m q rt xs tu t).1 (shopT m q rt xs tu t).2 wr) (fun i _ => xs.length - (intOf i).toNat)
  case atStart => exact ⟨0, Nat.zero_le _, rfl, fun t' h => absurd h (Nat.not_lt_zero _), hb4, hI4⟩
  case round =>
    obtain ⟨t, ht, rfl, HD, hbr, hI⟩ := hrel
    by_cases hlt : t < xs.length
    · have hokt := hok t hlt
      obtain ⟨l1, l2, l3, l4⟩ := shopT_len (m := m) (q := q) (rt := rt) (xs := xs) (tu := tu) t
      obtain ⟨s, hs⟩ : ∃ s, s = (shopT m q rt xs tu t).1 := ⟨_, rfl⟩
      obtain ⟨out, hout⟩ : ∃ s, s = (shopT m q rt xs tu t).2 := ⟨_, rfl⟩
      have hj0 : 0 ≤ tu.getD t 0 ∧ tu.getD t 0 < (q : Int) := by
        unfold okT at hokt
        simp only [Bool.and_eq_true, decide_eq_true_eq] at hokt
        exact ⟨hokt.1, hokt.2.1⟩
      obtain ⟨j, hj⟩ : ∃ j : Nat, tu.getD t 0 = (j : Int) := ⟨(tu.getD t 0).toNat, by omega⟩
      have hst : shopT m q rt xs tu (t + 1) = cond (s.1.getD j 0 == (m : Int)) (s, out) (turnT m rt xs s j, out.set (stepX m s j) (stepAt m rt s j)) := by
        rw [shopT, hj, Int.toNat_natCast, ← hs, ← hout]
        cases (s.1.getD j 0 == (m : Int)) with
        | true => rw [hs, hout]
        | false => rfl
      have hmt : ((shopT m q rt xs tu t).1.1.getD (tu.getD t 0).toNat 0 == (m : Int)) = (s.1.getD j 0 == (m : Int)) := by rw [hj, Int.toNat_natCast, hs]
      have cU : wr.cell? ⟨UB, uo + t, none⟩ = some (.int .i64 (j : Int)) := by rw [← hj]; exact (hbr.cell (p := ⟨UB, uo + t, none⟩) hU0).trans (hus t hlt)
      rw [← hs, ← hout] at hI
      rw [← hs] at l1 l2 l3 hokt
      rw [← hout] at l4
      rw [hj] at hokt hj0
      have hjq : j < q := by omega
      have HST : Hid (shopT m q rt xs tu (t + 1) = cond (s.1.getD j 0 == (m : Int)) (s, out) (turnT m rt xs s j, out.set (stepX m s j) (stepAt m rt s j))) := hst
      have HMT : Hid (((shopT m q rt xs tu t).1.1.getD (tu.getD t 0).toNat 0 == (m : Int)) = (s.1.getD j 0 == (m : Int))) := hmt
      have HOK : Hid (okT m q rt xs s (j : Int) = true) := hokt
      clear hst hmt hs hout hokt hj
      have hsb := hI.sb
      have htb := hI.tb
      have cs2 := perm_cell (i := 2) hsb
      have ct0 := perm_cell (i := 0) htb
      have ct1 := perm_cell (i := 1) htb
      have ct2 := perm_cell (i := 2) htb
      have ct3 := perm_cell (i := 3) htb
      have ct4 := perm_cell (i := 4) htb
      have ct5 := perm_cell (i := 5) htb
      have ct6 := perm_cell (i := 6) htb
      simp only [List.getElem?_toArray, List.getElem?_cons_succ, List.getElem?_cons_zero] at cs2 ct0 ct1 ct2 ct3 ct4 ct5 ct6
      obtain ⟨kv, hkv⟩ : ∃ v : Int, v = s.1.getD j 0 := ⟨_, rfl⟩
      have cN : wr.cell? ⟨NB, j, none⟩ = some (.int .i64 kv) := by rw [hkv]; exact hI.nb.cell (by omega)
      cases hkm : (kv == (m : Int)) with
      | true =>
        have HK : Hid ((s.1.getD j 0 == (m : Int)) = true) := by rw [← hkv]; exact hkm
        clear hkv
        go_wp2_with fail
        go_region
        all_goals go_wp2_with fail
        go_ret3
        exact ⟨hbr.drew, .inr ⟨⟨t, hlt, HMT.out.trans HK.out⟩, rfl⟩⟩
      | false =>
        have HK : Hid ((s.1.getD j 0 == (m : Int)) = false) := by rw [← hkv]; exact hkm
        obtain ⟨x, hx⟩ : ∃ x, x = stepX m s j := ⟨_, rfl⟩
        obtain ⟨av, hav⟩ : ∃ x, x = stepAt m rt s j := ⟨_, rfl⟩
        have HX : Hid (x = stepX m s j ∧ av = stepAt m rt s j) := ⟨hx, hav⟩
        have hxl : x < xs.length := by rw [hx]; exact okT_lt hqm HOK.out HK.out
        have hcall := turn_any (s := s) (j := j) (c := c) (rc := rc) (nc := q) (jc := q) (fc := m) hm hq hqm hrl wr.drew HOK.out HK.out l1 l2 l3 hI.nb.drew hI.jb.drew hI.fb.drew d1 d2 d3 (B := B) (off := off) (RB := RB) (roff := roff) ⟨by have := lt_of_block hsb; show B < wr.heap.size; omega, by omega, by omega, by omega⟩ ⟨by have := lt_of_block hsb; show RB < wr.heap.size; omega, by omega, by omega, by omega⟩ hI.xb (fun i hi => (hbr.cell (p := ⟨RB, roff + i, none⟩) hR0).trans (hrs i hi))
        clear hkv hx hav
        go_wp2_with fail
        go_region
        all_goals go_wp2_with (go_at_call 38; refine hcall.mono ?_; rintro e W5 ⟨he, hC5, hN5, hJ5, hF5⟩; rw [← HX.out.1, ← HX.out.2] at he; subst he; have hO5 : RowL W5 (W3.heap.size + 1) xs.length out := hI.o.same (hC5.block _ hI.o.lt (by rintro (e | e | e) <;> omega)); have cO5 := hO5.cell (i := x) (by omega); have fO5 := hO5.free x)
        refine ⟨⟨t + 1, hlt, by simp, fun t' ht' => ?_, ?_, ?_⟩, ?_⟩
        · by_cases e : t' < t
          · exact HD.out t' e
          · obtain rfl : t' = t := by omega
            exact HMT.out.trans HK.out
        · exact (hbr.drew.trans (hC5.below (by rintro k hk (e | e | e) <;> omega) hbr.size)).setCell (p := ⟨W3.heap.size + 1, x, none⟩) (by show w.heap.size ≤ W3.heap.size + 1; omega) _
        · rw [HST.out, HK.out, cond_false, ← HX.out.1, ← HX.out.2]
          have hne : ∀ {k : Nat}, k < wr.heap.size → k ≠ NB → k ≠ JB → k ≠ FB → W5.heap[k]? = wr.heap[k]? := fun hk h1 h2 h3 => hC5.block _ hk (by rintro (e | e | e) <;> omega)
          have hsl := lt_of_block hsb
          have htl := lt_of_block htb
          refine ⟨perm_set ((hne hsl (by omega) (by omega) (by omega)).trans hsb) _ (by show W1.heap.size ≠ W3.heap.size + 1; omega) _, perm_set ((hne htl (by omega) (by omega) (by omega)).trans htb) _ (by show W3.heap.size ≠ W3.heap.size + 1; omega) _, hO5.set (by omega) _, hN5.other (by show NB ≠ W3.heap.size + 1; omega) _, hJ5.other (by show JB ≠ W3.heap.size + 1; omega) _, hF5.other (by show FB ≠ W3.heap.size + 1; omega) _, fun i hi => ?_⟩
          rw [← hI.xb i hi]
          unfold World.cell?
          rw [Below.heap_setCell _ _ _ _ (by show B ≠ W3.heap.size + 1; omega), hne (k := B) (by omega) (by omega) (by omega) (by omega)]
        · simp [intOf]
          omega
    · obtain rfl : t = xs.length := by omega
      have hmx := hMx HD.out wr FB hbr hI.fb
      have ct6 := perm_cell (i := 6) hI.tb
      simp only [List.getElem?_toArray, List.getElem?_cons_succ, List.getElem?_cons_zero] at ct6
      go_wp2_with (go_at_call 31; refine hmx.mono ?_; rintro e W9 ⟨hb9, rfl⟩)
      go_ret3
      refine ⟨hbr.trans (hb9.mono hbr.size), .inl ⟨HD.out, W3.heap.size + 1, rfl, by omega, hI.o.same (hb9.block _ hI.o.lt)⟩⟩

end Go.Proofs.Ytgcmklniacjcfaa
