/-
  spec.LeastStations: its contract. No condition.
-/
import Derived.Test.YtgcmklniacjcfaaLs1
import Derived.Test.YtgcmklniacjcfaaLs4
namespace Go.Proofs.Ytgcmklniacjcfaa.Ls
open Go Go.RowKit Go.Proofs.Ytgcmklniacjcfaa Go.Proofs.Ytgcmklniacjcfaa.Fw Go.Proofs.Ytgcmklniacjcfaa.Arr
set_option maxRecDepth 100000
set_option linter.unusedVariables false
set_option linter.unusedSimpArgs false

theorem le_false1 {A0 A1 : Option Addr} {n0 c0 n1 c1 : Nat} {C : Int} (w : World) (hL : ∀ W, Below w.heap.size w W → Calls Try.prog 58 #[.slice A0 n0 c0, .slice A1 n1 c1] W fun e W' => Below W.heap.size W W' ∧ e = .returned (.bool false)) :
    Calls Try.prog 24 #[.slice A0 n0 c0, .slice A1 n1 c1, .int .i64 C] w fun e W' => Below w.heap.size w W' ∧ e = .returned (.tuple #[.slice none 0 0, .int .i64 0, .bool false]) := by
  go_enter Try.func24, Try.ntmps24
  go_wp2_with (go_at_call 58; refine (hL _ (Below.refl _ _)).mono ?_; rintro e W1 ⟨hb1, rfl⟩)
  go_ret3
  exact ⟨hb1, rfl⟩

theorem le_false2 {A0 A1 : Option Addr} {n0 c0 n1 c1 : Nat} {C : Int} (w : World) (hL : ∀ W, Below w.heap.size w W → Calls Try.prog 58 #[.slice A0 n0 c0, .slice A1 n1 c1] W fun e W' => Below W.heap.size W W' ∧ e = .returned (.bool true))
    (hC : ∀ W, Below w.heap.size w W → Calls Try.prog 59 #[.slice A0 n0 c0, .int .i64 C] W fun e W' => Below W.heap.size W W' ∧ e = .returned (.bool false)) :
    Calls Try.prog 24 #[.slice A0 n0 c0, .slice A1 n1 c1, .int .i64 C] w fun e W' => Below w.heap.size w W' ∧ e = .returned (.tuple #[.slice none 0 0, .int .i64 0, .bool false]) := by
  go_enter Try.func24, Try.ntmps24
  go_wp2_with (first | (go_at_call 58; refine (hL _ (Below.refl _ _)).mono ?_; rintro e W1 ⟨hb1, rfl⟩) | (go_at_call 59; refine (hC _ hb1).mono ?_; rintro e W2 ⟨hb2, rfl⟩))
  go_ret3
  exact ⟨hb1.trans (hb2.mono hb1.size), rfl⟩

theorem findF_pos {fX : Int → Int → Option (Int × Unit)} {xs bs : List Int} {c : Int} {d n : Nat} {r : List Int × Nat} (h : findF fX xs bs c d n = some r) : 0 < d := by
  cases d with
  | zero => cases h
  | succ d => omega

set_option maxHeartbeats 16000000 in
theorem le_any {fX : Int → Int → Option (Int × Unit)} (hX : MaxC2 fX) {w : World} {xs bs : List Int} {C : Int} {n k0 XB xo xc BA bo bc : Nat} (hn : 1 ≤ n ∧ n ≤ 12) (hxl : xs.length = n) (hbl : bs.length = n) (hk0 : k0 ≤ 500) (hXB : XB < w.heap.size) (hBA : BA < w.heap.size)
    (hx : ∀ i, i < n → w.cell? ⟨XB, xo + i, none⟩ = some (.int .i64 (xs.getD i 0))) (hb : ∀ i, i < n → w.cell? ⟨BA, bo + i, none⟩ = some (.int .i64 (bs.getD i 0))) {res : List Int × Nat} (hr : findF fX xs bs C 100 k0 = some res)
    (hL : ∀ W, Below w.heap.size w W → Calls Try.prog 58 #[.slice (some ⟨XB, xo, none⟩) n xc, .slice (some ⟨BA, bo, none⟩) n bc] W fun e W' => Below W.heap.size W W' ∧ e = .returned (.bool true))
    (hC : ∀ W, Below w.heap.size w W → Calls Try.prog 59 #[.slice (some ⟨XB, xo, none⟩) n xc, .int .i64 C] W fun e W' => Below W.heap.size W W' ∧ e = .returned (.bool true))
    (hW : ∀ W, Below w.heap.size w W → Calls Try.prog 60 #[.slice (some ⟨XB, xo, none⟩) n xc, .int .i64 C] W fun e W' => Below W.heap.size W W' ∧ e = .returned (.int .i64 (k0 : Int))) :
    Calls Try.prog 24 #[.slice (some ⟨XB, xo, none⟩) n xc, .slice (some ⟨BA, bo, none⟩) n bc, .int .i64 C] w fun e W' => Below w.heap.size w W' ∧ ∃ D dc dz, e = .returned (.tuple #[.slice (some ⟨D, 0, none⟩) res.1.length dc, .int .i64 (res.2 : Int), .bool true]) ∧ w.heap.size ≤ D ∧ RowL W' D dz res.1 ∧ res.1.length ≤ dc ∧ dc ≤ dz := by
  have HR : Hid (findF fX xs bs C 100 k0 = some res ∧ xs.length = n ∧ bs.length = n) := ⟨hr, hxl, hbl⟩
  have hfit := fun (q : Nat) (hq : q ≤ 1000) (a' : List Int × List Int) (W : World) (hbW : Below w.heap.size w W) (h : fitP fX xs bs C q n [] (List.replicate q 0) = some a') => by
    have hs := hbW.size
    exact fit_any (c := C) (xc := xc) (bc := bc) hX hn hxl hbl hq hXB hBA hx hb n [] (List.replicate q 0) a' W.heap.size 0 0 (W.heap.size + 1) q q ((W.alloc (.cells #[] 2)).alloc (.cells (Array.replicate q (.int .i64 0)) 2)) (by simp) (by simp) (Nat.le_refl _) (row_new (by simp)) ⟨Nat.le_refl _, Nat.le_refl _⟩ ⟨#[], 2, perm_alloc (perm_new rfl _) _, ⟨Nat.le_refl _, rfl⟩, fun i x hi => by cases hi⟩ ⟨by omega, by omega⟩ ((hbW.alloc hs _).alloc (by simp; omega) _) h
  have hmk : ∀ (q : Nat), q ≤ 1000 → ∀ W : World, (Instr.makeSlice 22 (.int .i64 (q : Int)) (.int .i64 (q : Int))).run Try.prog W = .ok (.slice (some ⟨W.heap.size, 0, none⟩) q q) (W.alloc (.cells (Array.replicate q (.int .i64 0)) 2)) := fun q hq W => perm_make Try.underlying22 perm_info_int (by omega) rfl q q (by omega) hq W
  have HFIT : Hid (∀ (q : Nat) (hq : q ≤ 1000) (a' : List Int × List Int) (W : World) (hbW : Below w.heap.size w W) (h : fitP fX xs bs C q n [] (List.replicate q 0) = some a'), _) := hfit
  have HMK : Hid (∀ (q : Nat), q ≤ 1000 → ∀ W : World, (Instr.makeSlice 22 (.int .i64 (q : Int)) (.int .i64 (q : Int))).run Try.prog W = .ok (.slice (some ⟨W.heap.size, 0, none⟩) q q) (W.alloc (.cells (Array.replicate q (.int .i64 0)) 2))) := hmk
  clear hr hxl hbl hx hb hfit hmk
  go_enter Try.func24, Try.ntmps24
  go_wp2_with (first | (go_at_call 58; refine (hL _ (Below.refl _ _)).mono ?_; rintro e W1 ⟨hb1, rfl⟩) | (go_at_call 59; refine (hC _ hb1).mono ?_; rintro e W2 ⟨hb2, rfl⟩; have hw2 := hb1.trans (hb2.mono hb1.size)) | (go_at_call 60; refine (hW _ hw2).mono ?_; rintro e W3 ⟨hb3, rfl⟩; have hw3 := hw2.trans (hb3.mono hw2.size)))
  go_loopw [9] (fun i wr => ∃ k : Nat, k0 ≤ k ∧ i = .int .i64 (k : Int) ∧ Hid (findF fX xs bs C (k0 + 100 - k) k = some res) ∧ Below w.heap.size w wr) (fun i _ => k0 + 100 - (intOf i).toNat)
  case atStart => exact ⟨k0, Nat.le_refl _, rfl, by rw [Nat.add_sub_cancel_left]; exact HR.out.1, hw3⟩
  case round =>
    obtain ⟨k, hk, rfl, HG, hbk⟩ := hrel
    have hpos := findF_pos HG.out
    have hg := HG.out
    rw [show k0 + 100 - k = (k0 + 100 - k - 1) + 1 by omega] at hg
    obtain ⟨⟨o1, l1⟩, hf1, hg1⟩ := Option.bind_eq_some_iff.1 hg
    rw [show k0 + 100 - k - 1 = k0 + 100 - (k + 1) by omega] at hg1
    rw [HR.out.2.1] at hf1
    have HG1 : Hid (cond (decide (o1.length = 0)) (findF fX xs bs C (k0 + 100 - (k + 1)) (k + 1)) (some (o1, k)) = some res) := hg1
    have hcall := HFIT.out k (by omega) (o1, l1) wr hbk hf1
    have hmk := HMK.out k (by omega)
    have hsk := hbk.size
    simp only [List.length_nil] at hcall
    clear hg hf1 hg1 HG
    cases ho : o1 with
    | nil =>
      have HE : Hid (findF fX xs bs C (k0 + 100 - (k + 1)) (k + 1) = some res) := by
        have h := HG1.out
        rw [ho] at h
        exact h
      rw [ho] at hcall
      clear HG1 ho
      go_wp2_with (go_at_call 61; refine hcall.mono ?_; rintro e W7 ⟨A, dc, rfl, hA, hC7, hL7, hnil⟩; obtain ⟨rfl, rfl⟩ := hnil rfl; simp only [List.length_nil])
      all_goals
        refine ⟨⟨k + 1, by omega, by simp, HE, ?_⟩, by simp [intOf]; omega⟩
        have h2 := ((hbk.alloc hsk (.cells #[] 2)).alloc (by simp; omega) (.cells (Array.replicate k (.int .i64 0)) 2))
        exact h2.trans (hC7.below (by rintro z hz rfl; omega) h2.size)
    | cons y ys =>
      have HE : Hid (res = (o1, k)) := by
        have h := HG1.out
        rw [ho] at h
        cases h
        show _ = _
        rw [ho]
      have hpo : 0 < o1.length := by rw [ho]; simp
      have HO : Hid (o1 ≠ []) := by
        show _ ≠ _
        rw [ho]
        simp
      clear HG1 ho
      go_wp2_with (go_at_call 61; refine hcall.mono ?_; rintro e W7 ⟨A, dc, rfl, hA, hC7, hL7, hnil⟩; simp only at hA)
      go_ret3
      obtain ⟨D, dz, rfl, hD, hDn, hd1, hd2⟩ := hA HO.out
      have h2 := ((hbk.alloc hsk (.cells #[] 2)).alloc (by simp; omega) (.cells (Array.replicate k (.int .i64 0)) 2))
      rw [HE.out]
      refine ⟨h2.trans (hC7.below (by rintro z hz rfl; omega) h2.size), D, dc, dz, rfl, ?_, hD, hd1, hd2⟩
      rcases hDn with h | h
      · omega
      · have : wr.heap.size + 1 + 1 ≤ D := by simpa using h
        omega

theorem maxC2_of {fX : Int → Int → Option (Int × Unit)} (hX : SoundC Try.prog 28 { ins := [.int .i64, .int .i64], outs := [.val (.int .i64)], F := fun x => fX x.1 x.2.1 }) : MaxC2 fX := fun W a b v hv => by
  have h := hX (fun _ => False) W [.int .i64 a, .int .i64 b] (a, b, ()) (v, ()) (fun b h => h.elim) ⟨⟨rfl, rfl⟩, ⟨rfl, rfl⟩, trivial⟩ hv
  have h := shop_calls Try.func28 rfl (by kernel_rfl) h
  refine h.mono ?_
  rintro e W' ⟨v, rfl, vs, bs, e1, e2, e3, e4⟩
  exact ⟨e2, by rw [shop_int e4 e1]⟩

theorem le_sound {fL : List Int → List Int → Option (Bool × Unit)} {fC : List Int → Int → Option (Bool × Unit)} {fW : List Int → Int → Option (Int × Unit)} {fX : Int → Int → Option (Int × Unit)}
    (hL : SoundC Try.prog 58 { ins := [.sl (.int .i64), .sl (.int .i64)], outs := [.val .bool], F := fun x => fL x.1 x.2.1 })
    (hC : SoundC Try.prog 59 { ins := [.sl (.int .i64), .int .i64], outs := [.val .bool], F := fun x => fC x.1 x.2.1 })
    (hW : SoundC Try.prog 60 { ins := [.sl (.int .i64), .int .i64], outs := [.val (.int .i64)], F := fun x => fW x.1 x.2.1 })
    (hX : SoundC Try.prog 28 { ins := [.int .i64, .int .i64], outs := [.val (.int .i64)], F := fun x => fX x.1 x.2.1 }) :
    SoundC Try.prog 24 { ins := [.sl (.int .i64), .sl (.int .i64), .int .i64], outs := [.own (.int .i64), .val (.int .i64), .val .bool], F := fun x => leF fL fC fW fX x.1 x.2.1 x.2.2.1 } := by
  rintro p w vals ⟨xs, bs, C, _⟩ ⟨yl, yv, yb, _⟩ hp hA hF
  match vals, hA with
  | [v0, v1, v2], hA =>
    obtain ⟨⟨h0, a0⟩, ⟨h1, a1⟩, ⟨h2, a2⟩, _⟩ := hA
    have h2 : v2 = .int .i64 C := shop_one h2 a2
    subst h2
    obtain ⟨A0, c0, hc0, hcap0, hx0⟩ := h0
    obtain rfl : v0 = .slice A0 xs.length c0 := shop_one hc0 a0
    obtain ⟨A1, c1, hc1, hcap1, hx1⟩ := h1
    obtain rfl : v1 = .slice A1 bs.length c1 := shop_one hc1 a1
    have g0 : RC (fun _ => p) w.heap (.sl (.int .i64)) xs [.slice A0 xs.length c0] := ⟨A0, c0, rfl, hcap0, hx0⟩
    have g1 : RC (fun _ => p) w.heap (.sl (.int .i64)) bs [.slice A1 bs.length c1] := ⟨A1, c1, rfl, hcap1, hx1⟩
    obtain ⟨⟨ok, _⟩, hr, hF⟩ := Option.bind_eq_some_iff.1 hF
    have hLC : ∀ W, Below w.heap.size w W → Calls Try.prog 58 #[.slice A0 xs.length c0, .slice A1 bs.length c1] W fun e W' => Below W.heap.size W W' ∧ e = .returned (.bool ok) := fun W hb => by
      have h := hL p W [.slice A0 xs.length c0, .slice A1 bs.length c1] (xs, bs, ()) (ok, ()) (fun b h => Nat.lt_of_lt_of_le (hp b h) hb.size) ⟨⟨shop_mono hp hb g0, rfl⟩, ⟨shop_mono hp hb g1, rfl⟩, trivial⟩ hr
      have h := shop_calls Try.func58 rfl (by kernel_rfl) h
      refine h.mono ?_
      rintro e W' ⟨v, rfl, vs, bs, e1, e2, e3, e4⟩
      exact ⟨e2, by rw [shop_bool e4 e1]⟩
    unfold CallOk
    rw [enter_of Try.func24 rfl (by kernel_rfl)]
    refine ⟨rfl, ?_⟩
    cases ok with
    | false =>
      cases hF
      refine (le_false1 w hLC).mono ?_
      rintro e W' ⟨hb, rfl⟩
      exact ⟨_, rfl, [.slice none 0 0, .int .i64 0, .bool false], [none], rfl, hb, by simp [Dist], ⟨rfl, rfl⟩, ⟨rfl, rfl⟩, ⟨rfl, rfl⟩, trivial⟩
    | true =>
      simp only [cond_true] at hF
      obtain ⟨⟨ok2, _⟩, hr2, hF⟩ := Option.bind_eq_some_iff.1 hF
      have hCC : ∀ W, Below w.heap.size w W → Calls Try.prog 59 #[.slice A0 xs.length c0, .int .i64 C] W fun e W' => Below W.heap.size W W' ∧ e = .returned (.bool ok2) := fun W hb => by
        have h := hC p W [.slice A0 xs.length c0, .int .i64 C] (xs, C, ()) (ok2, ()) (fun b h => Nat.lt_of_lt_of_le (hp b h) hb.size) ⟨⟨shop_mono hp hb g0, rfl⟩, ⟨rfl, rfl⟩, trivial⟩ hr2
        have h := shop_calls Try.func59 rfl (by kernel_rfl) h
        refine h.mono ?_
        rintro e W' ⟨v, rfl, vs, bs, e1, e2, e3, e4⟩
        exact ⟨e2, by rw [shop_bool e4 e1]⟩
      cases ok2 with
      | false =>
        cases hF
        refine (le_false2 w hLC hCC).mono ?_
        rintro e W' ⟨hb, rfl⟩
        exact ⟨_, rfl, [.slice none 0 0, .int .i64 0, .bool false], [none], rfl, hb, by simp [Dist], ⟨rfl, rfl⟩, ⟨rfl, rfl⟩, ⟨rfl, rfl⟩, trivial⟩
      | true =>
        simp only [cond_true] at hF
        obtain ⟨⟨k0, _⟩, hr3, hF⟩ := Option.bind_eq_some_iff.1 hF
        obtain ⟨hg, hF⟩ := cond_some hF
        simp only [Bool.and_eq_true, decide_eq_true_eq] at hg
        obtain ⟨k1, k2, k3, k4, k5⟩ := hg
        obtain ⟨res, hfind, hG⟩ := Option.bind_eq_some_iff.1 hF
        clear hF
        obtain ⟨k, rfl⟩ : ∃ k : Nat, k0 = (k : Int) := ⟨k0.toNat, by omega⟩
        simp only [Int.toNat_natCast] at hfind
        have hWC : ∀ W, Below w.heap.size w W → Calls Try.prog 60 #[.slice A0 xs.length c0, .int .i64 C] W fun e W' => Below W.heap.size W W' ∧ e = .returned (.int .i64 (k : Int)) := fun W hb => by
          have h := hW p W [.slice A0 xs.length c0, .int .i64 C] (xs, C, ()) ((k : Int), ()) (fun b h => Nat.lt_of_lt_of_le (hp b h) hb.size) ⟨⟨shop_mono hp hb g0, rfl⟩, ⟨rfl, rfl⟩, trivial⟩ hr3
          have h := shop_calls Try.func60 rfl (by kernel_rfl) h
          refine h.mono ?_
          rintro e W' ⟨v, rfl, vs, bs, e1, e2, e3, e4⟩
          exact ⟨e2, by rw [shop_int e4 e1]⟩
        have hne : ∀ {l : List Int}, l.length = xs.length → l ≠ [] := fun h e => by
          rw [e] at h
          simp at h
          omega
        obtain ⟨B0, o0, rfl, hp0, hel0⟩ := hx0 (hne rfl)
        obtain ⟨B1, o1, rfl, hp1, hel1⟩ := hx1 (hne k3)
        have hrd := shop_reads hel0
        have hrb := shop_reads hel1
        rw [k3] at hrb hLC ⊢
        have hcall := le_any (maxC2_of hX) (w := w) (xs := xs) (bs := bs) (C := C) (n := xs.length) (k0 := k) (XB := B0) (xo := o0) (xc := c0) (BA := B1) (bo := o1) (bc := c1) ⟨k1, k2⟩ rfl k3 (by omega) (hp B0 hp0) (hp B1 hp1) hrd hrb hfind hLC hCC hWC
        refine hcall.mono ?_
        rintro e W' ⟨hbe, D, dc, dz, rfl, hD, hrow, h1, h2⟩
        cases hG
        exact ⟨_, rfl, [.slice (some ⟨D, 0, none⟩) res.1.length dc, .int .i64 (res.2 : Int), .bool true], [some D], rfl, hbe, by simp [Dist], row_own hD hrow h1 h2, ⟨rfl, rfl⟩, ⟨rfl, rfl⟩, trivial⟩

end Go.Proofs.Ytgcmklniacjcfaa.Ls
