/-
  spec.EndsDrawn: the walk. No condition.
-/
import Derived.Test.YtmdicmdodbndgaaEd2
namespace Go.Proofs.Ytmdicmdodbndgaa.Ed
open Go Go.RowKit Go.Proofs.Ytmdicmdodbndgaa Go.Proofs.Ytmdicmdodbndgaa.Fw
open Go.Proofs.Ytmdicmdodbndgaa.Arr hiding Tk goJ goJ_step
set_option maxRecDepth 100000
set_option linter.unusedVariables false
set_option linter.unusedSimpArgs false

/-- What lies in memory between two turns. -/
structure EJ (w : World) (O0 n : Nat) (ev : Value) (ends often : List Int) (W : World) : Prop where
  ch : Ext w W
  lo : w.heap.size ≤ O0
  oro : RowL W O0 n often
  olen : often.length = n
  en : ∃ D dc dz, ev = .slice (some ⟨D, 0, none⟩) ends.length dc ∧ RowL W D dz ends ∧ (w.heap.size ≤ D ∧ D ≠ O0) ∧ ends.length ≤ dc ∧ dc ≤ dz

theorem es_false0 {A0 : Option Addr} {n0 c0 lo hi : Nat} {sd ct : Int} (w : World) (hA : ∀ W, Below w.heap.size w W → Calls Try.prog 17 #[.slice A0 n0 c0] W fun e W' => Below W.heap.size W W' ∧ e = .returned (.bool false)) :
    Calls Try.prog 5 #[.slice A0 n0 c0, .float .f32 lo, .float .f32 hi, .int .i64 sd, .int .i64 ct] w fun e W' => Below w.heap.size w W' ∧ e = .returned (.tuple #[.slice none 0 0, .slice none 0 0, .int .i64 0, .bool false]) := by
  have hw0 : Below w.heap.size w w := Below.refl _ _
  go_enter Try.func5, Try.ntmps5
  go_wp2_with (first | (go_at_call 17; with_reducible refine (hA _ hw0).mono ?_; rintro e W1 ⟨hb1, rfl⟩; have hw1 := hw0.trans (hb1.mono hw0.size)))
  all_goals refine bodyPost_ret (results_tmp4 rfl _ _ _) rfl ?_
  all_goals exact ⟨hw1, rfl⟩

set_option maxHeartbeats 4000000 in
theorem es_g0 {A0 : Option Addr} {n0 c0 lo hi : Nat} {sd ct : Int} (w : World)  (g0 : ¬ (FloatKind.f32.format.order lo 0 = some .gt ∨ FloatKind.f32.format.order lo 0 = some .eq)) (hA : ∀ W, Below w.heap.size w W → Calls Try.prog 17 #[.slice A0 n0 c0] W fun e W' => Below W.heap.size W W' ∧ e = .returned (.bool true)) :
    Calls Try.prog 5 #[.slice A0 n0 c0, .float .f32 lo, .float .f32 hi, .int .i64 sd, .int .i64 ct] w fun e W' => Below w.heap.size w W' ∧ e = .returned (.tuple #[.slice none 0 0, .slice none 0 0, .int .i64 0, .bool false]) := by
  have hw0 : Below w.heap.size w w := Below.refl _ _
  have b0 : (FloatKind.f32.format.order lo 0 == some Ordering.gt || FloatKind.f32.format.order lo 0 == some Ordering.eq) = false := by simpa using g0
  go_enter Try.func5, Try.ntmps5
  go_wp2_with (first | (go_at_call 17; with_reducible refine (hA _ hw0).mono ?_; rintro e W1 ⟨hb1, rfl⟩; have hw1 := hw0.trans (hb1.mono hw0.size)))
  all_goals refine bodyPost_ret (results_tmp4 rfl _ _ _) rfl ?_
  all_goals exact ⟨hw1, rfl⟩

set_option maxHeartbeats 4000000 in
theorem es_g1 {A0 : Option Addr} {n0 c0 lo hi : Nat} {sd ct : Int} (w : World) (g0 : (FloatKind.f32.format.order lo 0 = some .gt ∨ FloatKind.f32.format.order lo 0 = some .eq)) (g1 : ¬ (FloatKind.f32.format.order lo 1065353216 = some .lt ∨ FloatKind.f32.format.order lo 1065353216 = some .eq)) (hA : ∀ W, Below w.heap.size w W → Calls Try.prog 17 #[.slice A0 n0 c0] W fun e W' => Below W.heap.size W W' ∧ e = .returned (.bool true)) :
    Calls Try.prog 5 #[.slice A0 n0 c0, .float .f32 lo, .float .f32 hi, .int .i64 sd, .int .i64 ct] w fun e W' => Below w.heap.size w W' ∧ e = .returned (.tuple #[.slice none 0 0, .slice none 0 0, .int .i64 0, .bool false]) := by
  have hw0 : Below w.heap.size w w := Below.refl _ _
  have b0 : (FloatKind.f32.format.order lo 0 == some Ordering.gt || FloatKind.f32.format.order lo 0 == some Ordering.eq) = true := by simpa using g0
  have b1 : (FloatKind.f32.format.order lo 1065353216 == some Ordering.lt || FloatKind.f32.format.order lo 1065353216 == some Ordering.eq) = false := by simpa using g1
  go_enter Try.func5, Try.ntmps5
  go_wp2_with (first | (go_at_call 17; with_reducible refine (hA _ hw0).mono ?_; rintro e W1 ⟨hb1, rfl⟩; have hw1 := hw0.trans (hb1.mono hw0.size)))
  all_goals refine bodyPost_ret (results_tmp4 rfl _ _ _) rfl ?_
  all_goals exact ⟨hw1, rfl⟩

set_option maxHeartbeats 4000000 in
theorem es_g2 {A0 : Option Addr} {n0 c0 lo hi : Nat} {sd ct : Int} (w : World) (g0 : (FloatKind.f32.format.order lo 0 = some .gt ∨ FloatKind.f32.format.order lo 0 = some .eq)) (g1 : (FloatKind.f32.format.order lo 1065353216 = some .lt ∨ FloatKind.f32.format.order lo 1065353216 = some .eq)) (g2 : ¬ (FloatKind.f32.format.order hi 1065353216 = some .gt ∨ FloatKind.f32.format.order hi 1065353216 = some .eq)) (hA : ∀ W, Below w.heap.size w W → Calls Try.prog 17 #[.slice A0 n0 c0] W fun e W' => Below W.heap.size W W' ∧ e = .returned (.bool true)) :
    Calls Try.prog 5 #[.slice A0 n0 c0, .float .f32 lo, .float .f32 hi, .int .i64 sd, .int .i64 ct] w fun e W' => Below w.heap.size w W' ∧ e = .returned (.tuple #[.slice none 0 0, .slice none 0 0, .int .i64 0, .bool false]) := by
  have hw0 : Below w.heap.size w w := Below.refl _ _
  have b0 : (FloatKind.f32.format.order lo 0 == some Ordering.gt || FloatKind.f32.format.order lo 0 == some Ordering.eq) = true := by simpa using g0
  have b1 : (FloatKind.f32.format.order lo 1065353216 == some Ordering.lt || FloatKind.f32.format.order lo 1065353216 == some Ordering.eq) = true := by simpa using g1
  have b2 : (FloatKind.f32.format.order hi 1065353216 == some Ordering.gt || FloatKind.f32.format.order hi 1065353216 == some Ordering.eq) = false := by simpa using g2
  go_enter Try.func5, Try.ntmps5
  go_wp2_with (first | (go_at_call 17; with_reducible refine (hA _ hw0).mono ?_; rintro e W1 ⟨hb1, rfl⟩; have hw1 := hw0.trans (hb1.mono hw0.size)))
  all_goals refine bodyPost_ret (results_tmp4 rfl _ _ _) rfl ?_
  all_goals exact ⟨hw1, rfl⟩

set_option maxHeartbeats 4000000 in
theorem es_g3 {A0 : Option Addr} {n0 c0 lo hi : Nat} {sd ct : Int} (w : World) (g0 : (FloatKind.f32.format.order lo 0 = some .gt ∨ FloatKind.f32.format.order lo 0 = some .eq)) (g1 : (FloatKind.f32.format.order lo 1065353216 = some .lt ∨ FloatKind.f32.format.order lo 1065353216 = some .eq)) (g2 : (FloatKind.f32.format.order hi 1065353216 = some .gt ∨ FloatKind.f32.format.order hi 1065353216 = some .eq)) (g3 : ¬ (FloatKind.f32.format.order hi 1082130432 = some .lt ∨ FloatKind.f32.format.order hi 1082130432 = some .eq)) (hA : ∀ W, Below w.heap.size w W → Calls Try.prog 17 #[.slice A0 n0 c0] W fun e W' => Below W.heap.size W W' ∧ e = .returned (.bool true)) :
    Calls Try.prog 5 #[.slice A0 n0 c0, .float .f32 lo, .float .f32 hi, .int .i64 sd, .int .i64 ct] w fun e W' => Below w.heap.size w W' ∧ e = .returned (.tuple #[.slice none 0 0, .slice none 0 0, .int .i64 0, .bool false]) := by
  have hw0 : Below w.heap.size w w := Below.refl _ _
  have b0 : (FloatKind.f32.format.order lo 0 == some Ordering.gt || FloatKind.f32.format.order lo 0 == some Ordering.eq) = true := by simpa using g0
  have b1 : (FloatKind.f32.format.order lo 1065353216 == some Ordering.lt || FloatKind.f32.format.order lo 1065353216 == some Ordering.eq) = true := by simpa using g1
  have b2 : (FloatKind.f32.format.order hi 1065353216 == some Ordering.gt || FloatKind.f32.format.order hi 1065353216 == some Ordering.eq) = true := by simpa using g2
  have b3 : (FloatKind.f32.format.order hi 1082130432 == some Ordering.lt || FloatKind.f32.format.order hi 1082130432 == some Ordering.eq) = false := by simpa using g3
  go_enter Try.func5, Try.ntmps5
  go_wp2_with (first | (go_at_call 17; with_reducible refine (hA _ hw0).mono ?_; rintro e W1 ⟨hb1, rfl⟩; have hw1 := hw0.trans (hb1.mono hw0.size)))
  all_goals refine bodyPost_ret (results_tmp4 rfl _ _ _) rfl ?_
  all_goals exact ⟨hw1, rfl⟩

set_option maxHeartbeats 4000000 in
theorem es_g4 {A0 : Option Addr} {n0 c0 lo hi : Nat} {sd ct : Int} (w : World) (g0 : (FloatKind.f32.format.order lo 0 = some .gt ∨ FloatKind.f32.format.order lo 0 = some .eq)) (g1 : (FloatKind.f32.format.order lo 1065353216 = some .lt ∨ FloatKind.f32.format.order lo 1065353216 = some .eq)) (g2 : (FloatKind.f32.format.order hi 1065353216 = some .gt ∨ FloatKind.f32.format.order hi 1065353216 = some .eq)) (g3 : (FloatKind.f32.format.order hi 1082130432 = some .lt ∨ FloatKind.f32.format.order hi 1082130432 = some .eq)) (g4 : ¬ FloatKind.f32.format.order lo hi = some .lt) (hA : ∀ W, Below w.heap.size w W → Calls Try.prog 17 #[.slice A0 n0 c0] W fun e W' => Below W.heap.size W W' ∧ e = .returned (.bool true)) :
    Calls Try.prog 5 #[.slice A0 n0 c0, .float .f32 lo, .float .f32 hi, .int .i64 sd, .int .i64 ct] w fun e W' => Below w.heap.size w W' ∧ e = .returned (.tuple #[.slice none 0 0, .slice none 0 0, .int .i64 0, .bool false]) := by
  have hw0 : Below w.heap.size w w := Below.refl _ _
  have b0 : (FloatKind.f32.format.order lo 0 == some Ordering.gt || FloatKind.f32.format.order lo 0 == some Ordering.eq) = true := by simpa using g0
  have b1 : (FloatKind.f32.format.order lo 1065353216 == some Ordering.lt || FloatKind.f32.format.order lo 1065353216 == some Ordering.eq) = true := by simpa using g1
  have b2 : (FloatKind.f32.format.order hi 1065353216 == some Ordering.gt || FloatKind.f32.format.order hi 1065353216 == some Ordering.eq) = true := by simpa using g2
  have b3 : (FloatKind.f32.format.order hi 1082130432 == some Ordering.lt || FloatKind.f32.format.order hi 1082130432 == some Ordering.eq) = true := by simpa using g3
  have b4 : (FloatKind.f32.format.order lo hi == some Ordering.lt) = false := by simpa using g4
  go_enter Try.func5, Try.ntmps5
  go_wp2_with (first | (go_at_call 17; with_reducible refine (hA _ hw0).mono ?_; rintro e W1 ⟨hb1, rfl⟩; have hw1 := hw0.trans (hb1.mono hw0.size)))
  all_goals refine bodyPost_ret (results_tmp4 rfl _ _ _) rfl ?_
  all_goals exact ⟨hw1, rfl⟩

theorem es_false1 {A0 : Option Addr} {n0 c0 lo hi : Nat} {sd ct : Int} (w : World) (hg : ¬ Gd lo hi) (hA : ∀ W, Below w.heap.size w W → Calls Try.prog 17 #[.slice A0 n0 c0] W fun e W' => Below W.heap.size W W' ∧ e = .returned (.bool true)) :
    Calls Try.prog 5 #[.slice A0 n0 c0, .float .f32 lo, .float .f32 hi, .int .i64 sd, .int .i64 ct] w fun e W' => Below w.heap.size w W' ∧ e = .returned (.tuple #[.slice none 0 0, .slice none 0 0, .int .i64 0, .bool false]) := by
  by_cases g0 : (FloatKind.f32.format.order lo 0 = some .gt ∨ FloatKind.f32.format.order lo 0 = some .eq)
  case neg => exact es_g0 w g0 hA
  by_cases g1 : (FloatKind.f32.format.order lo 1065353216 = some .lt ∨ FloatKind.f32.format.order lo 1065353216 = some .eq)
  case neg => exact es_g1 w g0 g1 hA
  by_cases g2 : (FloatKind.f32.format.order hi 1065353216 = some .gt ∨ FloatKind.f32.format.order hi 1065353216 = some .eq)
  case neg => exact es_g2 w g0 g1 g2 hA
  by_cases g3 : (FloatKind.f32.format.order hi 1082130432 = some .lt ∨ FloatKind.f32.format.order hi 1082130432 = some .eq)
  case neg => exact es_g3 w g0 g1 g2 g3 hA
  by_cases g4 : FloatKind.f32.format.order lo hi = some .lt
  case neg => exact es_g4 w g0 g1 g2 g3 g4 hA
  exact absurd ⟨g0, g1, g2, g3, g4⟩ hg

set_option maxHeartbeats 16000000 in
theorem es_false2 {A0 : Option Addr} {n0 c0 lo hi : Nat} {sd ct : Int} (w : World) (hg : Gd lo hi) (hA : ∀ W, Below w.heap.size w W → Calls Try.prog 17 #[.slice A0 n0 c0] W fun e W' => Below W.heap.size W W' ∧ e = .returned (.bool true)) (hS : ∀ W, Below w.heap.size w W → Calls Try.prog 18 #[.int .i64 sd] W fun e W' => Below W.heap.size W W' ∧ e = .returned (.bool false)) :
    Calls Try.prog 5 #[.slice A0 n0 c0, .float .f32 lo, .float .f32 hi, .int .i64 sd, .int .i64 ct] w fun e W' => Below w.heap.size w W' ∧ e = .returned (.tuple #[.slice none 0 0, .slice none 0 0, .int .i64 0, .bool false]) := by
  have hw0 : Below w.heap.size w w := Below.refl _ _
  obtain ⟨g1, g2, g3, g4, g5⟩ := hg
  go_enter Try.func5, Try.ntmps5
  go_wp2_with (first | (go_at_call 17; with_reducible refine (hA _ hw0).mono ?_; rintro e W1 ⟨hb1, rfl⟩; have hw1 := hw0.trans (hb1.mono hw0.size)) | (go_at_call 18; with_reducible refine (hS _ hw1).mono ?_; rintro e W2 ⟨hb2, rfl⟩; have hw2 := hw1.trans (hb2.mono hw1.size)))
  all_goals refine bodyPost_ret (results_tmp4 rfl _ _ _) rfl ?_
  all_goals exact ⟨hw2, rfl⟩

set_option maxHeartbeats 16000000 in
theorem es_false3 {A0 : Option Addr} {n0 c0 lo hi : Nat} {sd ct : Int} (w : World) (hg : Gd lo hi) (hA : ∀ W, Below w.heap.size w W → Calls Try.prog 17 #[.slice A0 n0 c0] W fun e W' => Below W.heap.size W W' ∧ e = .returned (.bool true)) (hS : ∀ W, Below w.heap.size w W → Calls Try.prog 18 #[.int .i64 sd] W fun e W' => Below W.heap.size W W' ∧ e = .returned (.bool true)) (hW : ∀ W, Below w.heap.size w W → Calls Try.prog 19 #[.int .i64 ct, .int .i64 1, .int .i64 64] W fun e W' => Below W.heap.size W W' ∧ e = .returned (.bool false)) :
    Calls Try.prog 5 #[.slice A0 n0 c0, .float .f32 lo, .float .f32 hi, .int .i64 sd, .int .i64 ct] w fun e W' => Below w.heap.size w W' ∧ e = .returned (.tuple #[.slice none 0 0, .slice none 0 0, .int .i64 0, .bool false]) := by
  have hw0 : Below w.heap.size w w := Below.refl _ _
  obtain ⟨g1, g2, g3, g4, g5⟩ := hg
  go_enter Try.func5, Try.ntmps5
  go_wp2_with (first | (go_at_call 17; with_reducible refine (hA _ hw0).mono ?_; rintro e W1 ⟨hb1, rfl⟩; have hw1 := hw0.trans (hb1.mono hw0.size)) | (go_at_call 18; with_reducible refine (hS _ hw1).mono ?_; rintro e W2 ⟨hb2, rfl⟩; have hw2 := hw1.trans (hb2.mono hw1.size)) | (go_at_call 19; with_reducible refine (hW _ hw2).mono ?_; rintro e W3 ⟨hb3, rfl⟩; have hw3 := hw2.trans (hb3.mono hw2.size)))
  all_goals refine bodyPost_ret (results_tmp4 rfl _ _ _) rfl ?_
  all_goals exact ⟨hw3, rfl⟩

set_option maxHeartbeats 16000000 in
theorem es_any {p : Nat → Prop} {fD : DrawF} {fE : List Tk → Option (List Int × Unit)} {fL : List Tk → List Int → Option (Int × Unit)} {fK : List Tk → Option (List Int × Unit)} (hD : DrawC 20 fD) (hE : RowsC 22 p fE) (hL : EndC 21 p fL) (hK : RowsC 23 p fK)
    {LA lo0 lc n lo hi : Nat} {list : List Tk} {sd ct : Int} (hn1 : 1 ≤ n ∧ n ≤ 900) (hct : 0 ≤ ct ∧ ct ≤ 1000) (hll : list.length = n) (hg : Gd lo hi) (hlo : toF .f32 lo = some lo) (hhi : toF .f32 hi = some hi) (w : World) (hp : ∀ k, p k → k < w.heap.size) (hLA : LA < w.heap.size)
    (hlist : RC (fun _ => p) w.heap (.sl tkS) list [.slice (some ⟨LA, lo0, none⟩) list.length lc]) (hla : ∀ i x, list[i]? = some x → ∃ v1 v2, w.cell? ⟨LA, lo0 + i * 4, none⟩ = some (.int .i64 x.1) ∧ w.cell? ⟨LA, lo0 + i * 4 + 1, none⟩ = some (.int .i64 x.2.1) ∧ w.cell? ⟨LA, lo0 + i * 4 + 2, none⟩ = some v1 ∧ w.cell? ⟨LA, lo0 + i * 4 + 3, none⟩ = some v2 ∧ (∃ A1 m1 c1, v1 = .slice A1 m1 c1) ∧ ∃ A2 m2 c2, v2 = .slice A2 m2 c2)
    {R : ES} (hR : turnsT fD fE fL fK (some lo) (some hi) list ct.toNat (sd, [], List.replicate n 0) = some R) {shs : List Nat} (hsh : shT ct R.2.2 n = some shs)
    (hA : ∀ W, Below w.heap.size w W → Calls Try.prog 17 #[.slice (some ⟨LA, lo0, none⟩) n lc] W fun e W' => Below W.heap.size W W' ∧ e = .returned (.bool true)) (hS : ∀ W, Below w.heap.size w W → Calls Try.prog 18 #[.int .i64 sd] W fun e W' => Below W.heap.size W W' ∧ e = .returned (.bool true)) (hW : ∀ W, Below w.heap.size w W → Calls Try.prog 19 #[.int .i64 ct, .int .i64 1, .int .i64 64] W fun e W' => Below W.heap.size W W' ∧ e = .returned (.bool true)) :
    Calls Try.prog 5 #[.slice (some ⟨LA, lo0, none⟩) n lc, .float .f32 lo, .float .f32 hi, .int .i64 sd, .int .i64 ct] w fun e W' => Below w.heap.size w W' ∧ ∃ D dc dz F fc fz, e = .returned (.tuple #[.slice (some ⟨D, 0, none⟩) R.2.1.length dc, .slice (some ⟨F, 0, none⟩) shs.length fc, .int .i64 R.1, .bool true]) ∧ RowL W' D dz R.2.1 ∧ RowF W' F fz shs ∧ (w.heap.size ≤ D ∧ w.heap.size ≤ F ∧ D ≠ F) ∧ (R.2.1.length ≤ dc ∧ dc ≤ dz) ∧ shs.length ≤ fc ∧ fc ≤ fz := by
  have hmk : ∀ W : World, (Instr.makeSlice 25 (.int .i64 (n : Int)) (.int .i64 (n : Int))).run Try.prog W = .ok (.slice (some ⟨W.heap.size, 0, none⟩) n n) (W.alloc (.cells (Array.replicate n (.int .i64 0)) 2)) := fun W => perm_make Try.underlying25 perm_info_int (by omega) rfl n n (by omega) (by omega) W
  have HLA : Hid ((∀ i x, list[i]? = some x → ∃ v1 v2, w.cell? ⟨LA, lo0 + i * 4, none⟩ = some (.int .i64 x.1) ∧ w.cell? ⟨LA, lo0 + i * 4 + 1, none⟩ = some (.int .i64 x.2.1) ∧ w.cell? ⟨LA, lo0 + i * 4 + 2, none⟩ = some v1 ∧ w.cell? ⟨LA, lo0 + i * 4 + 3, none⟩ = some v2 ∧ (∃ A1 m1 c1, v1 = .slice A1 m1 c1) ∧ ∃ A2 m2 c2, v2 = .slice A2 m2 c2)) := hla
  have HL : Hid (list.length = n) := hll
  have HR : Hid (turnsT fD fE fL fK (some lo) (some hi) list ct.toNat (sd, [], List.replicate n 0) = some R ∧ shT ct R.2.2 n = some shs) := ⟨hR, hsh⟩
  have HF : Hid (toF .f32 lo = some lo ∧ toF .f32 hi = some hi) := ⟨hlo, hhi⟩
  obtain ⟨g1, g2, g3, g4, g5⟩ := hg
  have b1 : (FloatKind.f32.format.order lo 0 == some Ordering.gt || FloatKind.f32.format.order lo 0 == some Ordering.eq) = true := by simpa using g1
  have b2 : (FloatKind.f32.format.order lo 1065353216 == some Ordering.lt || FloatKind.f32.format.order lo 1065353216 == some Ordering.eq) = true := by simpa using g2
  have b3 : (FloatKind.f32.format.order hi 1065353216 == some Ordering.gt || FloatKind.f32.format.order hi 1065353216 == some Ordering.eq) = true := by simpa using g3
  have b4 : (FloatKind.f32.format.order hi 1082130432 == some Ordering.lt || FloatKind.f32.format.order hi 1082130432 == some Ordering.eq) = true := by simpa using g4
  clear hla hll hR hsh hlo hhi
  have hw0 : Below w.heap.size w w := Below.refl _ _
  go_enter Try.func5, Try.ntmps5
  go_upto_region 5 with (first | (go_at_call 17; with_reducible refine (hA _ hw0).mono ?_; rintro e W1 ⟨hb1, rfl⟩; have hw1 := hw0.trans (hb1.mono hw0.size)) | (go_at_call 18; with_reducible refine (hS _ hw1).mono ?_; rintro e W2 ⟨hb2, rfl⟩; have hw2 := hw1.trans (hb2.mono hw1.size)) | (go_at_call 19; with_reducible refine (hW _ hw2).mono ?_; rintro e W3 ⟨hb3, rfl⟩; have hw3 := hw2.trans (hb3.mono hw2.size)))
  have hE3 : Ext w W3 := (Chg.refl _ _).trans (S' := fun _ => False) ⟨hw3.os, hw3.tape, hw3.output, hw3.size, fun k hk _ => hw3.block k hk⟩ fun _ _ h => h
  clear hA hS hW hb1 hb2 hb3 hw1 hw2 g1 g2 g3 g4 g5 b1 b2 b3 b4
  obtain ⟨V4, hV4⟩ : ∃ V, V = ((W3.alloc (.cells (Array.replicate n (.int .i64 0)) 2)).alloc (.cells #[] 2)) := ⟨_, rfl⟩
  have hE34 : Ext W3 V4 := by rw [hV4]; exact ((Chg.refl _ _).alloc _).alloc _
  have hEn : RowL V4 (W3.heap.size + 1) 0 [] := by
    rw [hV4]
    exact ⟨#[], 2, perm_new (by simp) _, ⟨Nat.le_refl _, rfl⟩, fun i x hi => by simp at hi⟩
  have hOf : RowL V4 W3.heap.size n (List.replicate n 0) := by rw [hV4]; exact (row_new rfl).alloc _
  have hs4 : V4.heap.size = W3.heap.size + 2 := by rw [hV4]; simp
  rw [← hV4]
  clear hV4
  have hE4 := hE3.trans hE34 fun _ _ h => h
  have hws := hE3.size
  obtain ⟨C, hC⟩ : ∃ C : Nat, ct = (C : Int) := ⟨ct.toNat, by omega⟩
  subst hC
  have HRR : Hid (turnsT fD fE fL fK (some lo) (some hi) list C (sd, [], List.replicate n 0) = some R) := by
    have h := HR.out.1
    rw [Int.toNat_natCast] at h
    exact h
  obtain ⟨O0, hO0⟩ : ∃ o, o = W3.heap.size := ⟨_, rfl⟩
  have hEI : EJ w O0 n (.slice (some ⟨W3.heap.size + 1, 0, none⟩) 0 0) [] (List.replicate n 0) V4 :=
    ⟨hE4, by omega, by rw [hO0]; exact hOf, by simp, W3.heap.size + 1, 0, 0, rfl, hEn, ⟨by omega, by omega⟩, Nat.le_refl _, Nat.le_refl _⟩
  rw [← hO0] at hEI ⊢
  clear hEn hOf hE34 hE4 hO0 hs4
  go_wp2_with fail
  go_loopw [3, 15, 16] (fun sv ev iv W => ∃ (k : Nat) (S : ES), k ≤ C ∧ iv = .int .i64 (k : Int) ∧ sv = .int .i64 S.1 ∧ EJ w O0 n ev S.2.1 S.2.2 W ∧ Hid (turnsT fD fE fL fK (some lo) (some hi) list (C - k) S = some R)) (fun _ _ iv _ => C - (intOf iv).toNat)
  case atStart => exact ⟨0, _, Nat.zero_le _, rfl, rfl, hEI, HRR⟩
  case round =>
    clear hEI HRR hE3
    obtain ⟨k, S, hkC, rfl, rfl, hI, HG⟩ := hrel
    by_cases hlt : k < C
    · have hg := HG.out
      rw [show C - k = (C - (k + 1)) + 1 by omega] at hg
      obtain ⟨S1, ht, hg2⟩ := Option.bind_eq_some_iff.1 hg
      obtain ⟨d, hd, ht⟩ := Option.bind_eq_some_iff.1 ht
      obtain ⟨⟨st, _⟩, hf1, ht⟩ := Option.bind_eq_some_iff.1 ht
      obtain ⟨hlen, ht⟩ := cond_some ht
      have hlen := of_decide_eq_true hlen
      obtain ⟨⟨ev0, _⟩, hf2, ht⟩ := Option.bind_eq_some_iff.1 ht
      obtain ⟨⟨sl, _⟩, hf3, ht⟩ := Option.bind_eq_some_iff.1 ht
      obtain ⟨hok, ht⟩ := cond_some ht
      rw [HL.out] at hd hlen hok ht
      simp only [Bool.and_eq_true, decide_eq_true_eq] at hok
      have HD : Hid (dT fD (some lo) (some hi) list n S.1 = some d) := hd
      have HFS : Hid (fE (zipT list d.1) = some (st, ()) ∧ st.length = n ∧ fL (zipT list d.1) st = some (ev0, ()) ∧ fK (zipT list d.1) = some (sl, ()) ∧ sl.length = n ∧ okO S.2.2 = true ∧ S.2.1.length ≤ 900) := ⟨hf1, hlen, hf2, hf3, hok⟩
      have HS1 : Hid ((d.2, S.2.1 ++ [ev0], cntT S.2.2 sl n) = S1) := Option.some.inj ht
      have HG1 : Hid (turnsT fD fE fL fK (some lo) (some hi) list (C - (k + 1)) S1 = some R) := hg2
      clear hg hg2 hd ht hf1 hf2 hf3 hok hlen HG
      obtain ⟨V1, rfl⟩ : ∃ V, V = wr := ⟨_, rfl⟩
      have hks : (k : Int) ≤ 1000 := by omega
      have hbw := hI.ch.below (B := w.heap.size) (fun _ _ h => h) (Nat.le_refl _)
      have hA' : RC (fun _ => p) (V1.alloc (.cells #[] 46)).heap (.sl tkS) list [.slice (some ⟨LA, lo0, none⟩) list.length lc] := shop_mono hp (hbw.alloc hbw.size _) hlist
      obtain ⟨T, tc, WT, ha1, ha2, ha3, ha4, ha5⟩ := app_tasks (E := V1.heap.size) (W := V1.alloc (.cells #[] 46)) (c0 := lc) ⟨46, perm_new rfl _⟩ (fun h => by have := HL.out; rw [h] at this; simp at this; omega) (by have := HL.out; omega) hA' (fun b hb => by have := hp b hb; have := hbw.size; simp; omega)
      rw [HL.out] at ha1 ha3
      have htc := ha3
      have HE1 : Hid (Ext V1 WT) := ((Chg.refl (fun _ => False) V1).alloc (.cells #[] 46)).trans ha5 fun _ _ h => h
      have hT : T = V1.heap.size + 1 := by rw [ha4]; simp
      have HT : Hid (T = V1.heap.size + 1) := hT
      have hDr : DrawnR p n list T 0 [] WT := ⟨list, ha2, HL.out, fun j hj => rfl, fun j hj => by omega⟩
      clear hA' ha4 ha5 ha2 ha3 hT
      go_wp2_with (at_builtin; refine Lib.wpList_append_run _ rfl _ _ _ _ rfl _ _ rfl rfl _ _ ha1 ?_)
      clear ha1
      go_loopw [3, 76] (fun sv iv W1 => ∃ (i : Nat) (tms : List Int) (sdk : Int), i ≤ n ∧ iv = .int .i64 (i : Int) ∧ sv = .int .i64 sdk ∧ Hid (dT fD (some lo) (some hi) list i S.1 = some (tms, sdk)) ∧ DrawnR p n list T i tms W1 ∧ Hid (Ext V1 W1)) (fun _ iv _ => n - (intOf iv).toNat)
      case atStart => exact ⟨0, [], S.1, Nat.zero_le _, rfl, rfl, rfl, hDr, HE1⟩
      case round =>
        clear hDr
        obtain ⟨i, tms, sdk, hin, rfl, rfl, HDi, hDi, HCi⟩ := hrel
        by_cases hlt2 : i < n
        · obtain ⟨_, _, z, s', xb, mb, k1, k2, k3, ⟨k4, k5, k6⟩, ⟨k7, k8⟩, k9⟩ := dT_next HD.out hlt2 HDi.out
          have hiL : list[i]? = some (list.getD i tkD) := by
            rw [List.getD_eq_getElem?_getD, List.getElem?_eq_getElem (by rw [HL.out]; exact hlt2)]
            rfl
          have hEw : Ext w wr := hI.ch.trans HCi.out fun _ _ h => h
          obtain ⟨v1, v2, c0, _⟩ := HLA.out i _ hiL
          obtain ⟨t, htt⟩ : ∃ v : Int, v = (list.getD i tkD).1 := ⟨_, rfl⟩
          rw [← htt] at c0 k7 k8 k9
          have HK9 : Hid (dT fD (some lo) (some hi) list (i + 1) S.1 = some (tms ++ [Int.tdiv (z * t) 1000], s')) := k9
          clear k9 htt hiL
          go_upto_region 12 with (fail)
          have hdr := hD wr lo hi xb sdk s' HF.out.1 HF.out.2 k1
          have km : ∀ w, (binOp .mul 23 (.float .f32 xb) (.float .f32 1148846080)).run Try.prog w = .ok (.float .f32 mb) w := fun w => flt_mul w _ k2
          have kc : ∀ w, (convert 23 2 (.float .f32 mb)).run Try.prog w = .ok (.int .i64 z) w := fun w => flt_toInt w (by kernel_rfl) (by kernel_rfl) k3 ⟨k4, k5⟩
          go_upto_region 14 with (go_at_call 20; with_reducible refine hdr.mono ?_; rintro e W2 ⟨hv2, rfl⟩)
          have hE2 : Ext wr W2 := Ext.of (n := 0) (Chg.refl _ _) hv2
          rw [← cell_same (p := ⟨LA, lo0 + i * 4, none⟩) ((hEw.trans hE2 fun _ _ h => h).block LA hLA id)] at c0
          have hTl : T < wr.heap.size := by
            obtain ⟨ts, a1, _⟩ := hDi
            exact a1.lt
          have hnp : ¬ p T := fun h => by have := hp T h; have := HT.out; have := hI.ch.size; omega
          have hpw : ∀ b, p b → b < wr.heap.size := fun b hb => by have := hp b hb; have := hEw.size; omega
          have hD2 := hDi.same (hE2.block T hTl id) (fun b hb => hE2.block b (hpw b hb) id)
          obtain ⟨hD3, tv, c4, c5⟩ := drawn_set hD2 hlt2 (dT_len HDi.out) hnp (Int.tdiv (z * t) 1000)
          have hC3 : Hid (Ext V1 (W2.setCell ⟨T, i * 4, none⟩ (.int .i64 (Int.tdiv (z * t) 1000)))) := Ext.new (HCi.out.trans hE2 fun _ _ h => h) (a := ⟨T, i * 4, none⟩) (by show V1.heap.size ≤ T; have := HT.out; omega) _
          clear hdr hv2 k1 hD2 hDi
          clear k2 k3
          have p1 : z * t ≤ 1000000000000000 := by
            have h1 : z * t ≤ 1000000000 * t := Int.mul_le_mul_of_nonneg_right k5 k7
            omega
          have p2 : -1000000000000000 ≤ z * t := by
            have h1 : -1000000000 * t ≤ z * t := Int.mul_le_mul_of_nonneg_right k4 k7
            omega
          have hw1 : IntKind.i64.wrap (z * t) = z * t := IntWalk.i64_in _ (by omega)
          have hw2 : IntKind.i64.wrap (Int.tdiv (z * t) 1000) = Int.tdiv (z * t) 1000 := IntWalk.i64_in _ (by have := tdiv_small p2 p1; omega)
          go_wp2_with fail
          exact ⟨⟨i + 1, _, s', hlt2, by simp, rfl, HK9, hD3, hC3⟩, by simp [intOf]; omega⟩
        · obtain rfl : n = i := by omega
          have hde : (tms, sdk) = d := by
            have h := HDi.out
            rw [HD.out] at h
            exact (Option.some.inj h).symm
          have HS2 : Hid ((sdk, S.2.1 ++ [ev0], cntT S.2.2 sl n) = S1) := by
            have h := HS1.out
            rw [← hde] at h
            exact h
          have HFS2 : Hid (fE (zipT list tms) = some (st, ()) ∧ st.length = n ∧ fL (zipT list tms) st = some (ev0, ()) ∧ fK (zipT list tms) = some (sl, ()) ∧ sl.length = n ∧ okO S.2.2 = true ∧ S.2.1.length ≤ 900) := by
            have h := HFS.out
            rw [← hde] at h
            exact h
          have hTR : TR p wr T (zipT list tms) := hDi.all HL.out
          have hzl : (zipT list tms).length = n := by rw [zipT_length, HL.out]
          have hzn : zipT list tms ≠ [] := fun h => by rw [h] at hzl; simp at hzl; omega
          clear hde HS1 HFS HDi hDi HD
          obtain ⟨V2, rfl⟩ : ∃ V, V = wr := ⟨_, rfl⟩
          have hEw : Ext w V2 := hI.ch.trans HCi.out fun _ _ h => h
          have hTV : V1.heap.size < T := by have := HT.out; omega
          have hs12 := HCi.out.size
          have hws2 := hEw.size
          have hpl : ∀ V, Ext V2 V → ∀ k, p k → k < V.heap.size := fun V hV k hk => by
            have := hp k hk
            have := hV.size
            omega
          have hTs : ∀ V, Ext V2 V → TR p V T (zipT list tms) := fun V hV => hTR.same (hV.block T hTR.lt id) (fun b hb => hV.block b (hpl V2 (Chg.refl _ _) b hb) id)
          have hcE : ∀ V, Ext V2 V → Calls Try.prog 22 #[.slice (some ⟨T, 0, none⟩) n tc] V fun e W' => Below V.heap.size V W' ∧ ∃ O oc oz, e = .returned (.slice (some ⟨O, 0, none⟩) n oc) ∧ RowL W' O oz st ∧ n ≤ oc ∧ V.heap.size ≤ O := fun V hV => by
            have h := hE V T tc _ st HFS2.out.1 (by rw [hzl]; exact HFS2.out.2.1) hzn (hTs V hV) (by rw [hzl]; exact htc) (hpl V hV)
            rw [hzl] at h
            exact h
          have hcL : ∀ V, Ext V2 V → ∀ O oc oz, RowL V O oz st → n ≤ oc → Calls Try.prog 21 #[.slice (some ⟨T, 0, none⟩) n tc, .slice (some ⟨O, 0, none⟩) n oc] V fun e W' => Below V.heap.size V W' ∧ e = .returned (.int .i64 ev0) := fun V hV O oc oz hO hoc => by
            have h := hL V T tc O oc oz _ st ev0 HFS2.out.2.2.1 (by rw [hzl]; exact HFS2.out.2.1) (hTs V hV) (by rw [hzl]; exact htc) hO (by rw [hzl]; exact hoc) (hpl V hV)
            rw [hzl] at h
            exact h
          obtain ⟨D, dc, dz, rfl, hDr, hDn, hdc, hdz⟩ := hI.en
          have hDl := hDr.aLtE
          have hO0l := hI.oro.aLtE
          have happ : ∀ V, Ext V2 V → ∃ T' tc' tz' W', (Builtin.append_ #[25, 25] 25 #[.slice (some ⟨D, 0, none⟩) S.2.1.length dc, .slice (some ⟨V.heap.size, 0, none⟩) 1 1]).run Try.prog (V.alloc (.cells #[.int .i64 ev0] 2)) = .ok (.slice (some ⟨T', 0, none⟩) (S.2.1.length + 1) tc') W' ∧ RowL W' T' tz' (S.2.1 ++ [ev0]) ∧ S.2.1.length + 1 ≤ tc' ∧ tc' ≤ tz' ∧ (T' = D ∨ (V.alloc (.cells #[.int .i64 ev0] 2)).heap.size ≤ T') ∧ Chg (fun b => b = D) (V.alloc (.cells #[.int .i64 ev0] 2)) W' := fun V hV => by
            have h1 : RowL V D dz S.2.1 := (hDr.aSamE (HCi.out.block D hDl id)).aSamE (hV.block D (by have := HCi.out.size; omega) id)
            exact app_one (xc := 1) (h1.alloc _) hdc hdz (by have := HFS2.out.2.2.2.2.2.2; omega) ((perm_cell (i := 0) (perm_new (W := V) rfl (.cells #[.int .i64 ev0] 2))).trans rfl)
          have hEr : Ext V2 V2 := Chg.refl _ _
          go_upto_region 17 with (first
            | (go_at_call 22; with_reducible refine (hcE _ hEr).mono ?_; rintro e V3 ⟨hv3, O, oc, oz, rfl, hO, hoc, _⟩; have hE3 := Ext.of (n := 0) hEr hv3)
            | (go_at_call 21; with_reducible refine (hcL _ hE3 _ _ _ hO hoc).mono ?_; rintro e V4 ⟨hv4, rfl⟩; have hE4 := Ext.of (n := 0) hE3 hv4; obtain ⟨D', dc', dz', W', ha1, ha2, ha3, ha4, ha5, ha6⟩ := happ _ hE4)
            | (at_builtin; refine Lib.wpList_append_run _ rfl _ _ _ _ rfl _ _ rfl rfl _ _ ha1 ?_))
          have hC5 : Chg (fun b => b = D) V2 W' := (Ext.weak (hE4.alloc _) (fun b => b = D)).trans ha6 fun _ _ h => h
          have hT5 : TR p W' T (zipT list tms) := hTR.same (hC5.block T hTR.lt (fun e => by have e : T = D := e; omega)) (fun b hb => hC5.block b (hpl V2 (Chg.refl _ _) b hb) (fun e => by have e : b = D := e; have := hp b hb; omega))
          have hs45 : V2.heap.size ≤ V4.heap.size := hE4.size
          have hDs : D' = D ∨ V4.heap.size + 1 ≤ D' := by simpa using ha5
          have hD' : w.heap.size ≤ D' ∧ D' ≠ O0 := by
            have := hTR.lt
            have := HCi.out.size
            have := hI.lo
            rcases hDs with h | h
            · rw [h]; exact hDn
            · exact ⟨by omega, by omega⟩
          have hO5 : RowL W' O0 n S.2.2 := (hI.oro.aSamE (HCi.out.block O0 hO0l id)).aSamE (hC5.block O0 (by have := HCi.out.size; omega) (fun e => hDn.2 (by have e : O0 = D := e; exact e.symm)))
          have hE5 : Ext w W' := hEw.trans hC5 fun z hz e => by have e : z = D := e; omega
          have hcK := hK W' T tc _ sl HFS2.out.2.2.2.1 (by rw [hzl]; exact HFS2.out.2.2.2.2.1) hzn hT5 (by rw [hzl]; exact htc) (fun k hk => by have := hp k hk; have := hE5.size; omega)
          rw [hzl] at hcK
          have HAP : Hid (RowL W' D' dz' (S.2.1 ++ [ev0]) ∧ S.2.1.length + 1 ≤ dc' ∧ dc' ≤ dz') := ⟨ha2, ha3, ha4⟩
          have hO0W : O0 < W'.heap.size := hO5.aLtE
          have hDW : D' < W'.heap.size := ha2.aLtE
          clear happ ha1 ha2 ha3 ha4 ha5 ha6 hcE hcL hTs hE3 hE4 hv3 hv4 hO hoc hEr
          go_wp2_with (go_at_call 23; with_reducible refine hcK.mono ?_; rintro e V6 ⟨hv6, K, kc, kz, rfl, hKr, hkc, hKn⟩)
          have hE6 : Ext W' V6 := Ext.of (n := 0) (Chg.refl _ _) hv6
          have hO6 : RowL V6 O0 n (cntT S.2.2 sl 0) := hO5.aSamE (hE6.block O0 hO0W id)
          have hKO : K ≠ O0 := by omega
          have hol : S.2.2.length = n := hI.olen
          go_loopw [113] (fun iv W1 => ∃ i : Nat, i ≤ n ∧ iv = .int .i64 (i : Int) ∧ RowL W1 O0 n (cntT S.2.2 sl i) ∧ Hid (Chg (fun b => b = O0) V6 W1)) (fun iv _ => n - (intOf iv).toNat)
          case atStart => exact ⟨0, Nat.zero_le _, rfl, hO6, Chg.refl _ _⟩
          case round =>
            obtain ⟨i, hin2, rfl, hOi, HC6⟩ := hrel
            by_cases hlt3 : i < n
            · have hKi : RowL wr K kz sl := hKr.aSamE (HC6.out.block K hKr.aLtE (fun e => hKO e))
              have cK := hKi.cell (i := i) (by rw [HFS2.out.2.2.2.2.1]; exact hlt3)
              have cO := hOi.cell (i := i) (by rw [cntT_length, hol]; exact hlt3)
              have fO := hOi.free i
              rw [cntT_ge _ _ _ _ (Nat.le_refl _)] at cO
              have hob : 0 ≤ S.2.2.getD i 0 ∧ S.2.2.getD i 0 ≤ 1000000 := by
                have h := List.all_eq_true.1 HFS2.out.2.2.2.2.2.1 (S.2.2.getD i 0) (by
                  rw [List.getD_eq_getElem?_getD, List.getElem?_eq_getElem (by omega)]
                  exact List.getElem_mem _)
                simpa using h
              obtain ⟨sv, hsv⟩ : ∃ v : Int, v = sl.getD i 0 := ⟨_, rfl⟩
              obtain ⟨ov, hov⟩ : ∃ v : Int, v = S.2.2.getD i 0 := ⟨_, rfl⟩
              rw [← hsv] at cK
              rw [← hov] at cO hob
              obtain ⟨ob1, ob2⟩ := hob
              have hi9 : (i : Int) ≤ 900 := by omega
              cases hz0 : (sv == 0) with
              | false =>
                have hO2 : RowL wr O0 n (cntT S.2.2 sl (i + 1)) := by
                  rw [cntT, ← hsv, hz0]
                  exact hOi
                have HO2 : Hid (RowL wr O0 n (cntT S.2.2 sl (i + 1))) := hO2
                clear hsv hov hO2 hOi hKi
                go_wp2_with fail
                exact ⟨⟨i + 1, hlt3, by simp, HO2.out, HC6⟩, by simp [intOf]; omega⟩
              | true =>
                have hO2 : RowL (wr.setCell ⟨O0, i, none⟩ (.int .i64 (ov + 1))) O0 n (cntT S.2.2 sl (i + 1)) := by
                  rw [cntT, ← hsv, hz0, ← hov]
                  exact hOi.set (by rw [cntT_length, hol]; exact hlt3) _
                have HO2 : Hid (RowL (wr.setCell ⟨O0, i, none⟩ (.int .i64 (ov + 1))) O0 n (cntT S.2.2 sl (i + 1)) ∧ Chg (fun b => b = O0) V6 (wr.setCell ⟨O0, i, none⟩ (.int .i64 (ov + 1)))) := ⟨hO2, HC6.out.set (a := ⟨O0, i, none⟩) rfl _⟩
                clear hsv hov hO2 hOi hKi
                go_wp2_with fail
                exact ⟨⟨i + 1, hlt3, by simp, HO2.out.1, HO2.out.2⟩, by simp [intOf]; omega⟩
            · obtain rfl : n = i := by omega
              have HEI2 : Hid (EJ w O0 n (.slice (some ⟨D', 0, none⟩) (S.2.1.length + 1) dc') (S.2.1 ++ [ev0]) (cntT S.2.2 sl n) wr) :=
                ⟨(hE5.trans hE6 fun _ _ h => h).trans HC6.out fun z hz e => by have e : z = O0 := e; have := hI.lo; omega, hI.lo, hOi, by rw [cntT_length, hol], D', dc', dz', by simp, HAP.out.1.aSamE ((HC6.out.block D' (by have := hE6.size; omega) (fun e => hD'.2 e)).trans (hE6.block D' hDW id)), hD', by simpa using HAP.out.2.1, HAP.out.2.2⟩
              clear hOi hO6 hKr hT5 hO5 hDr hTR
              go_wp2_with fail
              refine ⟨⟨k + 1, S1, hlt, by simp, ?_, ?_, HG1⟩, by simp [intOf]; omega⟩
              · rw [← HS2.out]
              · rw [← HS2.out]; exact HEI2.out
    · obtain rfl : k = C := by omega
      have hSR : S = R := by
        have h := HG.out
        rw [Nat.sub_self] at h
        exact Option.some.inj h
      subst hSR
      have HSH : Hid (shT (k : Int) S.2.2 n = some shs) := HR.out.2
      obtain ⟨D, dc, dz, rfl, hDr, hDn, hdc, hdz⟩ := hI.en
      have hol := hI.olen
      have hDl := hDr.aLtE
      obtain ⟨V7, rfl⟩ : ∃ V, V = wr := ⟨_, rfl⟩
      go_upto_region 25 with (fail)
      have hF0 : RowF (V7.alloc (.cells #[] 23)) V7.heap.size 0 [] := ⟨#[], 23, perm_new rfl _, ⟨Nat.le_refl _, rfl⟩, fun i x hi => by simp at hi⟩
      have hE8 : Ext V7 (V7.alloc (.cells #[] 23)) := (Chg.refl _ _).alloc _
      obtain ⟨V8, hV8⟩ : ∃ V, V = V7.alloc (.cells #[] 23) := ⟨_, rfl⟩
      rw [← hV8] at hF0 hE8 ⊢
      clear hV8
      go_wp2_with fail
      go_loopw [23, 131] (fun fv iv W1 => ∃ (i : Nat) (l : List Nat) (F fc fz : Nat), i ≤ n ∧ iv = .int .i64 (i : Int) ∧ fv = .slice (some ⟨F, 0, none⟩) l.length fc ∧ Hid (shT (k : Int) S.2.2 i = some l) ∧ RowF W1 F fz l ∧ V7.heap.size ≤ F ∧ l.length ≤ fc ∧ fc ≤ fz ∧ Hid (Ext V7 W1)) (fun _ iv _ => n - (intOf iv).toNat)
      case atStart => exact ⟨0, [], V7.heap.size, 0, 0, Nat.zero_le _, rfl, rfl, rfl, hF0, Nat.le_refl _, Nat.le_refl _, Nat.le_refl _, hE8⟩
      case round =>
        obtain ⟨i, l, F, fc, fz, hin, rfl, rfl, HSi, hFr, hFn, hfc, hfz, HE9⟩ := hrel
        have hll2 := shT_len HSi.out
        by_cases hlt : i < n
        · obtain ⟨r, hr1, hr2⟩ := shT_next HSH.out hlt HSi.out
          have HS2 : Hid (shT (k : Int) S.2.2 (i + 1) = some (l ++ [r])) := hr2
          have cO := (hI.oro.aSamE (HE9.out.block O0 hI.oro.aLtE id)).cell (i := i) (by rw [hol]; exact hlt)
          obtain ⟨ov, hov⟩ : ∃ v : Int, v = S.2.2.getD i 0 := ⟨_, rfl⟩
          rw [← hov] at cO hr1
          have kc1 : ∀ w, (convert 2 23 (.int .i64 ov)).run Try.prog w = .ok (.float .f32 (FloatKind.nearest .f32 ov)) w := fun w => int_toFlt w (by kernel_rfl) (by kernel_rfl)
          have kc2 : ∀ w, (convert 2 23 (.int .i64 (k : Int))).run Try.prog w = .ok (.float .f32 (FloatKind.nearest .f32 (k : Int))) w := fun w => int_toFlt w (by kernel_rfl) (by kernel_rfl)
          have kq : ∀ w, (binOp .quo 23 (.float .f32 (FloatKind.nearest .f32 ov)) (.float .f32 (FloatKind.nearest .f32 (k : Int)))).run Try.prog w = .ok (.float .f32 r) w := fun w => flt_quo w _ hr1
          obtain ⟨fo, hfo⟩ : ∃ f, f = FloatKind.nearest .f32 ov := ⟨_, rfl⟩
          obtain ⟨fk, hfk⟩ : ∃ f, f = FloatKind.nearest .f32 (k : Int) := ⟨_, rfl⟩
          rw [← hfo] at kc1 kq
          rw [← hfk] at kc2 kq
          have hFr2 : RowF (wr.alloc (.cells #[.float .f32 r] 23)) F fz l := hFr.aSamE (((Chg.refl (fun _ => False) wr).alloc _).block F hFr.aLtE id)
          obtain ⟨F', fc', fz', W', ha1, ha2, ha3, ha4, ha5, ha6⟩ := app_flt (X := wr.heap.size) (xc := 1) (v := r) hFr2 hfc hfz (by omega) ((perm_cell (i := 0) (perm_new (W := wr) rfl (.cells #[.float .f32 r] 23))).trans rfl)
          have HW : Hid (RowF W' F' fz' (l ++ [r]) ∧ V7.heap.size ≤ F' ∧ l.length + 1 ≤ fc' ∧ fc' ≤ fz' ∧ Ext V7 W') := by
            refine ⟨ha2, ?_, ha3, ha4, (HE9.out.alloc _).trans ha6 fun z hz e => by have e : z = F := e; omega⟩
            have := HE9.out.size
            rcases ha5 with h | h
            · omega
            · simp at h; omega
          clear hr1 hr2 hov hfo hfk hFr2 ha2 ha3 ha4 ha5 ha6 hFr
          go_wp2_with (at_builtin; refine Lib.wpList_append_run _ rfl _ _ _ _ rfl _ _ rfl rfl _ _ ha1 ?_)
          exact ⟨⟨i + 1, l ++ [r], F', fc', fz', hlt, by simp, by simp [hll2], HS2, HW.out.1, HW.out.2.1, by simpa using HW.out.2.2.1, HW.out.2.2.2.1, HW.out.2.2.2.2⟩, by simp [intOf]; omega⟩
        · obtain rfl : n = i := by omega
          have hls : l = shs := by
            have h := HSi.out
            rw [HSH.out] at h
            exact (Option.some.inj h).symm
          subst hls
          have HW : Hid (Below w.heap.size w wr ∧ RowL wr D dz S.2.1 ∧ RowF wr F fz l ∧ (w.heap.size ≤ D ∧ w.heap.size ≤ F ∧ D ≠ F) ∧ (S.2.1.length ≤ dc ∧ dc ≤ dz) ∧ l.length ≤ fc ∧ fc ≤ fz) := by
            have hs7 := hI.ch.size
            exact ⟨(hI.ch.trans HE9.out fun _ _ h => h).below (fun _ _ h => h) (Nat.le_refl _), hDr.aSamE (HE9.out.block D hDl id), hFr, ⟨hDn.1, by omega, by omega⟩, ⟨hdc, hdz⟩, hfc, hfz⟩
          clear hFr hDr
          go_wp2_with fail
          refine bodyPost_ret (results_tmp4 rfl _ _ _) rfl ?_
          exact ⟨HW.out.1, D, dc, dz, F, fc, fz, rfl, HW.out.2⟩

end Go.Proofs.Ytmdicmdodbndgaa.Ed
