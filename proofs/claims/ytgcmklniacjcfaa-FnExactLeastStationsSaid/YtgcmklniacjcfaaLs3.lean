/-
  impl.LeastStations: its contract. No condition.
-/
import Derived.Test.YtgcmklniacjcfaaLs1
import Derived.Test.YtgcmklniacjcfaaLs2
namespace Go.Proofs.Ytgcmklniacjcfaa.Ls
open Go Go.RowKit Go.Proofs.Ytgcmklniacjcfaa Go.Proofs.Ytgcmklniacjcfaa.Fw Go.Proofs.Ytgcmklniacjcfaa.Arr
set_option maxRecDepth 100000
set_option linter.unusedVariables false
set_option linter.unusedSimpArgs false

/-- No line. -/
theorem ls_false1 {A0 A1 : Option Addr} {n0 c0 n1 c1 : Nat} {C : Int} (w : World) (hL : ∀ W, Below w.heap.size w W → Calls Try.prog 62 #[.slice A0 n0 c0, .slice A1 n1 c1] W fun e W' => Below W.heap.size W W' ∧ e = .returned (.bool false)) :
    Calls Try.prog 25 #[.slice A0 n0 c0, .slice A1 n1 c1, .int .i64 C] w fun e W' => Below w.heap.size w W' ∧ e = .returned (.tuple #[.slice none 0 0, .int .i64 0, .bool false]) := by
  have hw2 : Below w.heap.size w ((w.alloc (.cells #[.slice A0 n0 c0] 22)).alloc (.cells #[.slice A1 n1 c1] 22)) := ((Below.refl _ _).alloc (Nat.le_refl _) _).alloc (by simp) _
  go_enter Try.func25, Try.ntmps25
  go_wp2_with (go_at_call 62; refine (hL _ hw2).mono ?_; rintro e W1 ⟨hb1, rfl⟩)
  go_ret3
  exact ⟨hw2.trans (hb1.mono hw2.size), rfl⟩

/-- No cycle. -/
theorem ls_false2 {A0 A1 : Option Addr} {n0 c0 n1 c1 : Nat} {C : Int} (w : World) (hL : ∀ W, Below w.heap.size w W → Calls Try.prog 62 #[.slice A0 n0 c0, .slice A1 n1 c1] W fun e W' => Below W.heap.size W W' ∧ e = .returned (.bool true))
    (hC : ∀ W, Below w.heap.size w W → Calls Try.prog 63 #[.int .i64 C] W fun e W' => Below W.heap.size W W' ∧ e = .returned (.bool false)) :
    Calls Try.prog 25 #[.slice A0 n0 c0, .slice A1 n1 c1, .int .i64 C] w fun e W' => Below w.heap.size w W' ∧ e = .returned (.tuple #[.slice none 0 0, .int .i64 0, .bool false]) := by
  have hw2 : Below w.heap.size w ((w.alloc (.cells #[.slice A0 n0 c0] 22)).alloc (.cells #[.slice A1 n1 c1] 22)) := ((Below.refl _ _).alloc (Nat.le_refl _) _).alloc (by simp) _
  go_enter Try.func25, Try.ntmps25
  go_wp2_with (first | (go_at_call 62; refine (hL _ hw2).mono ?_; rintro e W1 ⟨hb1, rfl⟩; have hw3 := hw2.trans (hb1.mono hw2.size)) | (go_at_call 63; refine (hC _ hw3).mono ?_; rintro e W2 ⟨hb2, rfl⟩))
  go_ret3
  exact ⟨hw3.trans (hb2.mono hw3.size), rfl⟩

/-- A task that is too long. -/
theorem ls_false3 {A0 A1 : Option Addr} {n0 c0 n1 c1 : Nat} {C mx : Int} (w : World) (hmx : mx > C) (hL : ∀ W, Below w.heap.size w W → Calls Try.prog 62 #[.slice A0 n0 c0, .slice A1 n1 c1] W fun e W' => Below W.heap.size W W' ∧ e = .returned (.bool true))
    (hC : ∀ W, Below w.heap.size w W → Calls Try.prog 63 #[.int .i64 C] W fun e W' => Below W.heap.size W W' ∧ e = .returned (.bool true))
    (hM : ∀ W, Below w.heap.size w W → Calls Try.prog 31 #[.slice A0 n0 c0] W fun e W' => Below W.heap.size W W' ∧ e = .returned (.int .i64 mx)) :
    Calls Try.prog 25 #[.slice A0 n0 c0, .slice A1 n1 c1, .int .i64 C] w fun e W' => Below w.heap.size w W' ∧ e = .returned (.tuple #[.slice none 0 0, .int .i64 0, .bool false]) := by
  have hw2 : Below w.heap.size w ((w.alloc (.cells #[.slice A0 n0 c0] 22)).alloc (.cells #[.slice A1 n1 c1] 22)) := ((Below.refl _ _).alloc (Nat.le_refl _) _).alloc (by simp) _
  have hgt : decide (mx > C) = true := decide_eq_true hmx
  go_enter Try.func25, Try.ntmps25
  go_wp2_with (first | (go_at_call 62; refine (hL _ hw2).mono ?_; rintro e W1 ⟨hb1, rfl⟩; have hw3 := hw2.trans (hb1.mono hw2.size)) | (go_at_call 63; refine (hC _ hw3).mono ?_; rintro e W2 ⟨hb2, rfl⟩; have hw4 := hw3.trans (hb2.mono hw3.size); have ct2 := perm_cell (i := 0) ((hb2.block w.heap.size (by have := hb1.size; simp at this; omega)).trans ((hb1.block w.heap.size (by simp; omega)).trans (perm_alloc (perm_new rfl _) _))); simp only [List.getElem?_toArray, List.getElem?_cons_zero] at ct2) | (go_at_call 31; refine (hM _ hw4).mono ?_; rintro e W3 ⟨hb3, rfl⟩))
  go_ret3
  exact ⟨hw4.trans (hb3.mono hw4.size), rfl⟩

/-- A contract of slices.Repeat. -/
def RepC (fP : List Int → Int → Option (List Int × Unit)) : Prop := ∀ (W : World) (b z c : Nat) (l l' : List Int) (k : Int), fP l k = some (l', ()) → l' ≠ [] → l.length ≤ c → RowL W b z l →
  Calls Try.prog 65 #[.slice (some ⟨b, 0, none⟩) l.length c, .int .i64 k] W fun e W' => Below W.heap.size W W' ∧ ∃ O oc oz, e = .returned (.slice (some ⟨O, 0, none⟩) l'.length oc) ∧ W.heap.size ≤ O ∧ RowL W' O oz l' ∧ l'.length ≤ oc ∧ oc ≤ oz

set_option maxHeartbeats 16000000 in
theorem ls_any {fP : List Int → Int → Option (List Int × Unit)} (hP : RepC fP) {xs bs : List Int} {C mx : Int} {n m XB xo xc BA bo bc : Nat} (hxl : xs.length = n) (hn : 1 ≤ n ∧ n ≤ 12) (hbl : bs.length = n) (hCb : 1 ≤ C ∧ C ≤ 1000000) (w : World) (hXB : XB < w.heap.size) (hBA : BA < w.heap.size)
    (hx : ∀ i, i < n → w.cell? ⟨XB, xo + i, none⟩ = some (.int .i64 (xs.getD i 0))) (hb : ∀ i, i < n → w.cell? ⟨BA, bo + i, none⟩ = some (.int .i64 (bs.getD i 0)))
    (hxb : ∀ i, i < n → 0 ≤ xs.getD i 0 ∧ xs.getD i 0 ≤ C) (hxr : okR xs = true) (hm : 1 ≤ m ∧ m ≤ 1000) (hfew : fewT xs bs C = (m : Int)) (hrep : fP [C] (m : Int) = some (List.replicate m C, ())) (hmx : ¬ mx > C) {b : Bool} {S' : LS}
    (hput : putP xs bs m n (List.replicate n 0, List.replicate m C, sumL xs) = some (b, S'))
    (hL : ∀ W, Below w.heap.size w W → Calls Try.prog 62 #[.slice (some ⟨XB, xo, none⟩) n xc, .slice (some ⟨BA, bo, none⟩) n bc] W fun e W' => Below W.heap.size W W' ∧ e = .returned (.bool true))
    (hC : ∀ W, Below w.heap.size w W → Calls Try.prog 63 #[.int .i64 C] W fun e W' => Below W.heap.size W W' ∧ e = .returned (.bool true))
    (hM : ∀ W, Below w.heap.size w W → Calls Try.prog 31 #[.slice (some ⟨XB, xo, none⟩) n xc] W fun e W' => Below W.heap.size W W' ∧ e = .returned (.int .i64 mx)) :
    Calls Try.prog 25 #[.slice (some ⟨XB, xo, none⟩) n xc, .slice (some ⟨BA, bo, none⟩) n bc, .int .i64 C] w fun e W' => Below w.heap.size w W' ∧ ∃ O oz, e = .returned (.tuple #[.slice (some ⟨O, 0, none⟩) n n, .int .i64 (m : Int), .bool true]) ∧ w.heap.size ≤ O ∧ RowL W' O oz S'.1 ∧ S'.1.length = n ∧ n ≤ oz := by
  have hmkO : ∀ W : World, (Instr.makeSlice 22 (.int .i64 (n : Int)) (.int .i64 (n : Int))).run Try.prog W = .ok (.slice (some ⟨W.heap.size, 0, none⟩) n n) (W.alloc (.cells (Array.replicate n (.int .i64 0)) 2)) := fun W => perm_make Try.underlying22 perm_info_int (by omega) rfl n n (by omega) (by omega) W
  have hw2 : Below w.heap.size w ((w.alloc (.cells #[.slice (some ⟨XB, xo, none⟩) n xc] 22)).alloc (.cells #[.slice (some ⟨BA, bo, none⟩) n bc] 22)) := ((Below.refl _ _).alloc (Nat.le_refl _) _).alloc (by simp) _
  have hgt : decide (mx > C) = false := decide_eq_false hmx
  have hxs : ∀ V, Below w.heap.size w V → ∀ i, i < n → V.cell? ⟨XB, xo + i, none⟩ = some (.int .i64 (xs.getD i 0)) := fun V hV i hi => (hV.cell (p := ⟨XB, xo + i, none⟩) hXB).trans (hx i hi)
  have hbs : ∀ V, Below w.heap.size w V → ∀ i, i < n → V.cell? ⟨BA, bo + i, none⟩ = some (.int .i64 (bs.getD i 0)) := fun V hV i hi => (hV.cell (p := ⟨BA, bo + i, none⟩) hBA).trans (hb i hi)
  have hfe : ∀ V, Below w.heap.size w V → Calls Try.prog 64 #[.slice (some ⟨XB, xo, none⟩) n xc, .slice (some ⟨BA, bo, none⟩) n bc, .int .i64 C] V fun e W' => Below V.heap.size V W' ∧ e = .returned (.int .i64 (m : Int)) := fun V hV => by
    have h := few_any (xc := xc) (bc := bc) hxl hn hbl hCb V (Nat.lt_of_lt_of_le hXB hV.size) (Nat.lt_of_lt_of_le hBA hV.size) (hxs V hV) (hbs V hV) hxb
    rw [hfew] at h
    exact h
  have hsu : ∀ V, Below w.heap.size w V → Calls Try.prog 66 #[.slice (some ⟨XB, xo, none⟩) n xc] V fun e W' => e = .returned (.int .i64 (sumL xs)) ∧ W' = V := fun V hV => by
    have h := sum_still (R := XB) (o := xo) (c := xc) V (l := xs) (by omega) hxr (by rw [hxl]; exact hxs V hV)
    rw [hxl] at h
    exact h
  have HALL : Hid (xs.length = n ∧ bs.length = n ∧ fP [C] (m : Int) = some (List.replicate m C, ()) ∧ putP xs bs m n (List.replicate n 0, List.replicate m C, sumL xs) = some (b, S')) := ⟨hxl, hbl, hrep, hput⟩
  clear hxl hbl hrep hput hfew hx hb
  have h0 : (w.alloc (.cells #[.slice (some ⟨XB, xo, none⟩) n xc] 22)).heap[w.heap.size]? = _ := perm_new rfl _
  have hB0 := perm_alloc h0 (.cells #[.slice (some ⟨BA, bo, none⟩) n bc] 22)
  have hB1 : ((w.alloc (.cells #[.slice (some ⟨XB, xo, none⟩) n xc] 22)).alloc (.cells #[.slice (some ⟨BA, bo, none⟩) n bc] 22)).heap[w.heap.size + 1]? = _ := perm_new (by simp) _
  go_enter Try.func25, Try.ntmps25
  go_upto_region 4 with (first
    | (go_at_call 62; refine (hL _ hw2).mono ?_; rintro e W1 ⟨hb1, rfl⟩; have hw3 := hw2.trans (hb1.mono hw2.size); have a10 := (hb1.block _ (lt_of_block hB0)).trans hB0; have a11 := (hb1.block _ (lt_of_block hB1)).trans hB1)
    | (go_at_call 63; refine (hC _ hw3).mono ?_; rintro e W2 ⟨hb2, rfl⟩; have hw4 := hw3.trans (hb2.mono hw3.size); have a20 := (hb2.block _ (lt_of_block a10)).trans a10; have a21 := (hb2.block _ (lt_of_block a11)).trans a11; have ct2 := perm_cell (i := 0) a20; simp only [List.getElem?_toArray, List.getElem?_cons_zero] at ct2)
    | (go_at_call 31; refine (hM _ hw4).mono ?_; rintro e W3 ⟨hb3, rfl⟩; have hw5 := hw4.trans (hb3.mono hw4.size); have a30 := (hb3.block _ (lt_of_block a20)).trans a20; have a31 := (hb3.block _ (lt_of_block a21)).trans a21; have ct3 := perm_cell (i := 0) a30; have cb3 := perm_cell (i := 0) a31; simp only [List.getElem?_toArray, List.getElem?_cons_zero] at ct3 cb3)
    | (go_at_call 64; refine (hfe _ hw5).mono ?_; rintro e W4 ⟨hb4, rfl⟩; have hw6 := hw5.trans (hb4.mono hw5.size); have a40 := (hb4.block _ (lt_of_block a30)).trans a30; have a41 := (hb4.block _ (lt_of_block a31)).trans a31))
  have hz4 : w.heap.size + 2 ≤ W4.heap.size := by
    have := lt_of_block a41
    omega
  have hcA : ∀ V, Below W4.heap.size W4 V → V.cell? ⟨w.heap.size, 0, none⟩ = some (.slice (some ⟨XB, xo, none⟩) n xc) := fun V hV => perm_cell ((hV.block _ (by omega)).trans a40)
  have hv5 : Below W4.heap.size W4 (W4.alloc (.cells #[.int .i64 (m : Int)] 2)) := (Below.refl _ _).alloc (Nat.le_refl _) _
  have ct5 := hcA _ hv5
  obtain ⟨V0, hV0⟩ : ∃ V0, V0 = (((W4.alloc (.cells #[.int .i64 (m : Int)] 2)).alloc (.cells (Array.replicate n (.int .i64 0)) 2)).alloc (.cells #[.slice (some ⟨W4.heap.size + 1, 0, none⟩) n n] 22)).alloc (.cells #[.int .i64 C] 2) := ⟨_, rfl⟩
  have hs0 : V0.heap.size = W4.heap.size + 4 := by rw [hV0]; simp
  have hbV0 : Below W4.heap.size W4 V0 := by
    rw [hV0]
    exact (((hv5).alloc (by simp) _).alloc (by simp; omega) _).alloc (by simp; omega) _
  have e0 : V0.heap[W4.heap.size]? = some (.cells #[.int .i64 (m : Int)] 2 (0, 0)) := by rw [hV0]; exact perm_alloc (perm_alloc (perm_alloc (perm_new rfl _) _) _) _
  have e1 : RowL V0 (W4.heap.size + 1) n (List.replicate n 0) := by rw [hV0]; exact ((row_new (by simp)).alloc _).alloc _
  have e2 : V0.heap[W4.heap.size + 2]? = some (.cells #[.slice (some ⟨W4.heap.size + 1, 0, none⟩) n n] 22 (0, 0)) := by rw [hV0]; exact perm_alloc (perm_new (by simp) _) _
  have e3 : RowL V0 (W4.heap.size + 3) 1 [C] := by
    rw [hV0]
    refine ⟨_, _, perm_new (by simp) _, ⟨Nat.le_refl _, rfl⟩, fun i x hi => ?_⟩
    cases i with
    | zero => cases hi; rfl
    | succ i => simp at hi
  have hrp := hP V0 (W4.heap.size + 3) 1 1 [C] (List.replicate m C) (m : Int) HALL.out.2.2.1 (by intro h; have := congrArg List.length h; simp at this; omega) (Nat.le_refl _) e3
  rw [List.length_replicate] at hrp
  have cc0 : V0.cell? ⟨W4.heap.size, 0, none⟩ = some (.int .i64 (m : Int)) := perm_cell e0
  have HV0 : Hid (V0 = (((W4.alloc (.cells #[.int .i64 (m : Int)] 2)).alloc (.cells (Array.replicate n (.int .i64 0)) 2)).alloc (.cells #[.slice (some ⟨W4.heap.size + 1, 0, none⟩) n n] 22)).alloc (.cells #[.int .i64 C] 2)) := hV0
  have hbw0 := hw6.trans (hbV0.mono hw6.size)
  rw [hV0] at hrp cc0
  simp only [List.length_cons, List.length_nil, Nat.zero_add] at hrp
  clear hV0
  go_upto_region 6 with (go_at_call 65; refine hrp.mono ?_; rintro e V6 ⟨hb6, R, rc, rz, rfl, hR1, hRrow, hrc, hrz⟩; rw [← HV0.out] at hb6 hR1)
  have hs6 := hb6.size
  have hbw6 := hbw0.trans (hb6.mono hbw0.size)
  have hb46 := hbV0.trans (hb6.mono hbV0.size)
  have hv7 : Below W4.heap.size W4 (V6.alloc (.cells #[.slice (some ⟨R, 0, none⟩) m rc] 22)) := hb46.alloc hb46.size _
  have ct7 := hcA _ hv7
  have hsum7 := hsu _ (hw6.trans (hv7.mono hw6.size))
  go_upto_region 9 with (go_at_call 66; refine hsum7.mono ?_; rintro e V7 ⟨rfl, rfl⟩)
  obtain ⟨W8, hW8⟩ : ∃ W8, W8 = ((V6.alloc (.cells #[.slice (some ⟨R, 0, none⟩) m rc] 22)).alloc (.cells #[.int .i64 (sumL xs)] 2)).alloc (.cells #[.func (.func 67) #[] (lsPs w.heap.size (w.heap.size + 1) (W4.heap.size + 2) W4.heap.size V6.heap.size (V6.heap.size + 1) (V6.heap.size + 2)).toArray] 79) := ⟨_, rfl⟩
  have hs8 : W8.heap.size = V6.heap.size + 3 := by rw [hW8]; simp
  have hb8 : Below V6.heap.size V6 W8 := by
    rw [hW8]
    exact (((Below.refl _ _).alloc (Nat.le_refl _) _).alloc (by simp) _).alloc (by simp; omega) _
  have hb48 := hb46.trans (hb8.mono hb46.size)
  have hbw8 := hw6.trans (hb48.mono hw6.size)
  have k08 : ∀ z, z < V0.heap.size → W8.heap[z]? = V0.heap[z]? := fun z hz => (hb8.block z (by omega)).trans (hb6.block z hz)
  have hRl := hRrow.aLtE
  have hI8 : LI w.heap.size (w.heap.size + 1) (W4.heap.size + 2) W4.heap.size V6.heap.size (V6.heap.size + 1) (V6.heap.size + 2) XB xo xc BA bo bc (W4.heap.size + 1) R rc n rz n m xs bs (List.replicate n 0, List.replicate m C, sumL xs) W8 := by
    refine ⟨(hb48.block _ (by omega)).trans a40, (hb48.block _ (by omega)).trans a41, (k08 _ (by omega)).trans e2, (k08 _ (by omega)).trans e0, ?_, ?_, ?_, e1.aSamE (k08 _ (by omega)), hRrow.aSamE (hb8.block _ hRl), by simp, by simp, hxs _ hbw8, hbs _ hbw8,
      ⟨by omega, by omega, by omega⟩, ⟨by omega, by omega, by omega, by omega, by omega, by omega, by omega, by omega⟩, ⟨by omega, by omega, by omega, by omega, by omega, by omega, by omega, by omega⟩, ⟨by omega, by omega, by omega, by omega, by omega, by omega, by omega, by omega⟩⟩
    all_goals rw [hW8]
    · exact perm_alloc (perm_alloc (perm_new rfl _) _) _
    · exact perm_alloc (perm_new (by simp) _) _
    · exact perm_new (by simp) _
  have hcall := put_any hn HALL.out.1 HALL.out.2.1 hm.2 hrc n 0 _ S' b W8 (by omega) (by have := hbw8.size; omega) (by have := hbw8.size; omega) hI8 HALL.out.2.2.2
  have cp8 := perm_cell (i := 0) hI8.pb
  simp only [List.getElem?_toArray, List.getElem?_cons_zero] at cp8
  unfold lsPs at hW8 cp8 hcall
  have hE8 : ((V6.alloc (.cells #[.slice (some ⟨R, 0, none⟩) m rc] 22)).alloc (.cells #[.int .i64 (sumL xs)] 2)).alloc (.cells #[.func (.func 67) #[] #[.pointer (some ⟨w.heap.size, 0, none⟩), .pointer (some ⟨w.heap.size + 1, 0, none⟩), .pointer (some ⟨W4.heap.size + 1 + 1, 0, none⟩), .pointer (some ⟨W4.heap.size, 0, none⟩), .pointer (some ⟨V6.heap.size, 0, none⟩), .pointer (some ⟨V6.heap.size + 1, 0, none⟩), .pointer (some ⟨V6.heap.size + 1 + 1, 0, none⟩)]] 79) = W8 := hW8.symm
  rw [hE8]
  clear hE8 hW8
  have q1 : W4.heap.size + 1 + 1 = W4.heap.size + 2 := rfl
  have q2 : V6.heap.size + 1 + 1 = V6.heap.size + 2 := rfl
  simp only [q1, q2]
  go_wp2_with (go_at_call 67; refine hcall.mono ?_; rintro e W9 ⟨rfl, hI9, hC9⟩; have co9 := perm_cell (i := 0) hI9.ob; have cc9 := perm_cell (i := 0) hI9.cb; simp only [List.getElem?_toArray, List.getElem?_cons_zero] at co9 cc9)
  go_region
  all_goals go_wp2_with fail
  all_goals go_ret3
  all_goals
    have hcs := hC9.size
    have hoz : n ≤ n := Nat.le_refl _
    exact ⟨(hbw8.trans (hC9.below (by rintro z hz (e | e | e) <;> omega) hbw8.size)).drew, W4.heap.size + 1, n, rfl, by omega, hI9.orow.drew, hI9.ol, Nat.le_refl _⟩

theorem repC_of {fP : List Int → Int → Option (List Int × Unit)} (hP : SoundC Try.prog 65 { ins := [.sl (.int .i64), .int .i64], outs := [.own (.int .i64)], F := fun x => fP x.1 x.2.1 }) : RepC fP := fun W b z c l l' k hv hl hc hrow => by
  have h := hP (fun q => q = b) W [.slice (some ⟨b, 0, none⟩) l.length c, .int .i64 k] (l, k, ()) (l', ()) (fun q h => by rw [h]; exact hrow.aLtE) ⟨shop_arg rfl hc rfl hrow, ⟨rfl, rfl⟩, trivial⟩ hv
  have h := shop_calls Try.func65 rfl (by kernel_rfl) h
  refine h.mono ?_
  rintro e W' ⟨v, rfl, vs, bs, e1, e2, e3, e4⟩
  refine ⟨e2, ?_⟩
  match vs, bs, e4 with
  | [u], [none], e4 => exact absurd e4.1.2 hl
  | [u], [some O], e4 =>
    have hv : v = u := e1
    subst hv
    obtain ⟨oc, oz, q1, q2, q3, q4, q5⟩ := own_row e4.1 hl
    exact ⟨O, oc, oz, by rw [q1], q2, q3, q4, q5⟩
  | [], _, e4 => cases e4
  | [_], [], e4 => exact e4.elim
  | [_], none :: _ :: _, e4 => exact e4.2.elim
  | [_], some _ :: _ :: _, e4 => exact e4.2.elim
  | _ :: _ :: _, [], e4 => exact e4.elim
  | _ :: _ :: _, _ :: _, e4 => exact e4.2.elim

theorem ls_sound {fL : List Int → List Int → Option (Bool × Unit)} {fC : Int → Option (Bool × Unit)} {fM : List Int → Option (Int × Unit)} {fP : List Int → Int → Option (List Int × Unit)}
    (hL : SoundC Try.prog 62 { ins := [.sl (.int .i64), .sl (.int .i64)], outs := [.val .bool], F := fun x => fL x.1 x.2.1 })
    (hC : SoundC Try.prog 63 { ins := [.int .i64], outs := [.val .bool], F := fun x => fC x.1 })
    (hM : SoundC Try.prog 31 { ins := [.sl (.int .i64)], outs := [.val (.int .i64)], F := fun x => fM x.1 })
    (hP : SoundC Try.prog 65 { ins := [.sl (.int .i64), .int .i64], outs := [.own (.int .i64)], F := fun x => fP x.1 x.2.1 }) :
    SoundC Try.prog 25 { ins := [.sl (.int .i64), .sl (.int .i64), .int .i64], outs := [.own (.int .i64), .val (.int .i64), .val .bool], F := fun x => lsF fL fC fM fP x.1 x.2.1 x.2.2.1 } := by
  rintro p w vals ⟨xs, bs, C, _⟩ ⟨yl, yv, yb, _⟩ hp hA hF
  match vals, hA with
  | [v0, v1, v2], hA =>
    obtain ⟨⟨h0, a0⟩, ⟨h1, a1⟩, ⟨h2, a2⟩, _⟩ := hA
    have h2 : v2 = .int .i64 C := shop_one h2 a2
    subst h2
    obtain ⟨A0, c0, hc0, hcap0, hx0⟩ := h0
    obtain rfl : v0 = .slice A0 xs.length c0 := shop_one hc0 a0
    obtain ⟨A1, c1, hc1, hcap1, hx1⟩ := h1
    obtain rfl : v1 = .slice A1 bs.length c1 := shop_one hc1 a1
    have g0 : RC (fun _ => p) w.heap (.sl (.int .i64)) xs [.slice A0 xs.length c0] := ⟨A0, c0, rfl, hcap0, hx0⟩
    have g1 : RC (fun _ => p) w.heap (.sl (.int .i64)) bs [.slice A1 bs.length c1] := ⟨A1, c1, rfl, hcap1, hx1⟩
    obtain ⟨⟨ok, _⟩, hr, hF⟩ := Option.bind_eq_some_iff.1 hF
    have hLC : ∀ W, Below w.heap.size w W → Calls Try.prog 62 #[.slice A0 xs.length c0, .slice A1 bs.length c1] W fun e W' => Below W.heap.size W W' ∧ e = .returned (.bool ok) := fun W hb => by
      have h := hL p W [.slice A0 xs.length c0, .slice A1 bs.length c1] (xs, bs, ()) (ok, ()) (fun b h => Nat.lt_of_lt_of_le (hp b h) hb.size) ⟨⟨shop_mono hp hb g0, rfl⟩, ⟨shop_mono hp hb g1, rfl⟩, trivial⟩ hr
      have h := shop_calls Try.func62 rfl (by kernel_rfl) h
      refine h.mono ?_
      rintro e W' ⟨v, rfl, vs, bs, e1, e2, e3, e4⟩
      exact ⟨e2, by rw [shop_bool e4 e1]⟩
    unfold CallOk
    rw [enter_of Try.func25 rfl (by kernel_rfl)]
    refine ⟨rfl, ?_⟩
    cases ok with
    | false =>
      cases hF
      refine (ls_false1 w hLC).mono ?_
      rintro e W' ⟨hb, rfl⟩
      exact ⟨_, rfl, [.slice none 0 0, .int .i64 0, .bool false], [none], rfl, hb, by simp [Dist], ⟨rfl, rfl⟩, ⟨rfl, rfl⟩, ⟨rfl, rfl⟩, trivial⟩
    | true =>
      simp only [cond_true] at hF
      obtain ⟨⟨ok2, _⟩, hr2, hF⟩ := Option.bind_eq_some_iff.1 hF
      have hCC : ∀ W, Below w.heap.size w W → Calls Try.prog 63 #[.int .i64 C] W fun e W' => Below W.heap.size W W' ∧ e = .returned (.bool ok2) := fun W hb => by
        have h := hC p W [.int .i64 C] (C, ()) (ok2, ()) (fun b h => Nat.lt_of_lt_of_le (hp b h) hb.size) ⟨⟨rfl, rfl⟩, trivial⟩ hr2
        have h := shop_calls Try.func63 rfl (by kernel_rfl) h
        refine h.mono ?_
        rintro e W' ⟨v, rfl, vs, bs, e1, e2, e3, e4⟩
        exact ⟨e2, by rw [shop_bool e4 e1]⟩
      cases ok2 with
      | false =>
        cases hF
        refine (ls_false2 w hLC hCC).mono ?_
        rintro e W' ⟨hb, rfl⟩
        exact ⟨_, rfl, [.slice none 0 0, .int .i64 0, .bool false], [none], rfl, hb, by simp [Dist], ⟨rfl, rfl⟩, ⟨rfl, rfl⟩, ⟨rfl, rfl⟩, trivial⟩
      | true =>
        simp only [cond_true] at hF
        obtain ⟨⟨mx, _⟩, hr3, hF⟩ := Option.bind_eq_some_iff.1 hF
        have hMC : ∀ W, Below w.heap.size w W → Calls Try.prog 31 #[.slice A0 xs.length c0] W fun e W' => Below W.heap.size W W' ∧ e = .returned (.int .i64 mx) := fun W hb => by
          have h := hM p W [.slice A0 xs.length c0] (xs, ()) (mx, ()) (fun b h => Nat.lt_of_lt_of_le (hp b h) hb.size) ⟨⟨shop_mono hp hb g0, rfl⟩, trivial⟩ hr3
          have h := shop_calls Try.func31 rfl (by kernel_rfl) h
          refine h.mono ?_
          rintro e W' ⟨v, rfl, vs, bs, e1, e2, e3, e4⟩
          exact ⟨e2, by rw [shop_int e4 e1]⟩
        by_cases hgt : mx > C
        · simp only [decide_eq_true hgt, cond_true] at hF
          cases hF
          refine (ls_false3 w hgt hLC hCC hMC).mono ?_
          rintro e W' ⟨hb, rfl⟩
          exact ⟨_, rfl, [.slice none 0 0, .int .i64 0, .bool false], [none], rfl, hb, by simp [Dist], ⟨rfl, rfl⟩, ⟨rfl, rfl⟩, ⟨rfl, rfl⟩, trivial⟩
        · simp only [decide_eq_false hgt, cond_false] at hF
          obtain ⟨hg, hF⟩ := cond_some hF
          unfold lsOk at hg
          simp only [Bool.and_eq_true, decide_eq_true_eq] at hg
          obtain ⟨k1, k2, k3, k4, k5, k6, k7, k8, k9, k10⟩ := hg
          obtain ⟨⟨b, S'⟩, hput, hG⟩ := Option.bind_eq_some_iff.1 hF
          clear hF
          obtain ⟨m, hm⟩ : ∃ m : Nat, fewT xs bs C = (m : Int) := ⟨(fewT xs bs C).toNat, by omega⟩
          rw [hm] at k8 k9 k10 hput hG
          simp only [Int.toNat_natCast] at k10 hput
          have hne : ∀ {l : List Int}, l.length = xs.length → l ≠ [] := fun h e => by
            rw [e] at h
            simp at h
            omega
          obtain ⟨B0, o0, rfl, hp0, hel0⟩ := hx0 (hne rfl)
          obtain ⟨B1, o1, rfl, hp1, hel1⟩ := hx1 (hne k3)
          have hrd := shop_reads hel0
          have hrb := shop_reads hel1
          rw [k3] at hrb hLC ⊢
          have hcall := ls_any (repC_of hP) (xs := xs) (bs := bs) (C := C) (mx := mx) (n := xs.length) (m := m) (XB := B0) (xo := o0) (xc := c0) (BA := B1) (bo := o1) (bc := c1) rfl ⟨k1, k2⟩ k3 ⟨k4, k5⟩ w (hp B0 hp0) (hp B1 hp1) hrd hrb
            (fun i hi => by
              have := okC_getD k6 i hi
              exact this) k7 ⟨by omega, by omega⟩ hm k10 hgt hput hLC hCC hMC
          refine hcall.mono ?_
          rintro e W' ⟨hbe, O, oz, rfl, hO, hrow, hl, hoz⟩
          cases hG
          rw [← hl]
          exact ⟨_, rfl, [.slice (some ⟨O, 0, none⟩) S'.1.length S'.1.length, .int .i64 (m : Int), .bool true], [some O], rfl, hbe, by simp [Dist], row_own hO hrow (Nat.le_refl _) (by rw [hl]; exact hoz), ⟨rfl, rfl⟩, ⟨rfl, rfl⟩, trivial⟩

end Go.Proofs.Ytgcmklniacjcfaa.Ls
