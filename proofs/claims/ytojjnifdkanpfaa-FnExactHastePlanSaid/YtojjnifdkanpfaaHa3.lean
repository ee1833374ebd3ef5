/-
  impl.HastePlan: its contract. No condition.
-/
import Derived.Test.YtojjnifdkanpfaaTkC
import Derived.Test.YtojjnifdkanpfaaHa2
namespace Go.Proofs.Ytojjnifdkanpfaa.Ha
open Go Go.RowKit Go.Proofs.Ytojjnifdkanpfaa Go.Proofs.Ytojjnifdkanpfaa.Fw
open Go.Proofs.Ytojjnifdkanpfaa.Arr hiding Tk goJ goJ_step
set_option maxRecDepth 100000
set_option linter.unusedVariables false
set_option linter.unusedSimpArgs false

/-- The boxes of the arguments. -/
theorem ha_box {A0 A1 A2 : Option Addr} {n0 c0 n1 c1 n2 c2 : Nat} {fin : Int} (w V : World) (h : Below (w.heap.size + 5) (((((w.alloc (.cells #[.slice A0 n0 c0] 27)).alloc (.cells #[.slice A1 n1 c1] 23)).alloc (.cells #[.slice A2 n2 c2] 23)).alloc (.cells #[.int .i64 fin] 2)).alloc (.cells #[.int .i64 (n0 : Int)] 3)) V) :
    V.heap[w.heap.size]? = some (.cells #[.slice A0 n0 c0] 27 (0, 0)) ∧ V.heap[w.heap.size + 1]? = some (.cells #[.slice A1 n1 c1] 23 (0, 0)) ∧ V.heap[w.heap.size + 1 + 1]? = some (.cells #[.slice A2 n2 c2] 23 (0, 0)) ∧ V.heap[w.heap.size + 1 + 1 + 1]? = some (.cells #[.int .i64 fin] 2 (0, 0)) ∧ V.heap[w.heap.size + 1 + 1 + 1 + 1]? = some (.cells #[.int .i64 (n0 : Int)] 3 (0, 0)) := by
  have hc : ∀ i o, i < w.heap.size + 5 → ((((((w.alloc (.cells #[.slice A0 n0 c0] 27)).alloc (.cells #[.slice A1 n1 c1] 23)).alloc (.cells #[.slice A2 n2 c2] 23)).alloc (.cells #[.int .i64 fin] 2)).alloc (.cells #[.int .i64 (n0 : Int)] 3))).heap[i]? = some o → V.heap[i]? = some o := fun i o hi ho => (h.block i hi).trans ho
  refine ⟨hc _ _ (by omega) (perm_alloc (perm_alloc (perm_alloc (perm_alloc (perm_new (by simp) _) _) _) _) _), hc _ _ (by omega) (perm_alloc (perm_alloc (perm_alloc (perm_new (by simp) _) _) _) _), hc _ _ (by omega) (perm_alloc (perm_alloc (perm_new (by simp) _) _) _), hc _ _ (by omega) (perm_alloc (perm_new (by simp) _) _), hc _ _ (by omega) (perm_new (by simp) _)⟩

theorem ha_false0 {A0 A1 A2 : Option Addr} {n0 c0 n1 c1 n2 c2 : Nat} {fin : Int} (w : World) (hA : ∀ W, Below w.heap.size w W → Calls Try.prog 21 #[.slice A0 n0 c0] W fun e W' => Below W.heap.size W W' ∧ e = .returned (.bool false)) :
    Calls Try.prog 8 #[.slice A0 n0 c0, .slice A1 n1 c1, .slice A2 n2 c2, .int .i64 fin] w fun e W' => Below w.heap.size w W' ∧ e = .returned (.tuple #[.slice none 0 0, .int .i64 0, .bool false]) := by
  have hw0 : Below w.heap.size w (((((w.alloc (.cells #[.slice A0 n0 c0] 27)).alloc (.cells #[.slice A1 n1 c1] 23)).alloc (.cells #[.slice A2 n2 c2] 23)).alloc (.cells #[.int .i64 fin] 2)).alloc (.cells #[.int .i64 (n0 : Int)] 3)) := ((((((Below.refl _ _).alloc (Nat.le_refl _) _).alloc (by simp) _).alloc (by simp; omega) _).alloc (by simp; omega) _).alloc (by simp; omega) _)
  have hv0 : Below (w.heap.size + 5) (((((w.alloc (.cells #[.slice A0 n0 c0] 27)).alloc (.cells #[.slice A1 n1 c1] 23)).alloc (.cells #[.slice A2 n2 c2] 23)).alloc (.cells #[.int .i64 fin] 2)).alloc (.cells #[.int .i64 (n0 : Int)] 3)) (((((w.alloc (.cells #[.slice A0 n0 c0] 27)).alloc (.cells #[.slice A1 n1 c1] 23)).alloc (.cells #[.slice A2 n2 c2] 23)).alloc (.cells #[.int .i64 fin] 2)).alloc (.cells #[.int .i64 (n0 : Int)] 3)) := Below.refl _ _
  have hz0 : w.heap.size + 5 ≤ (((((w.alloc (.cells #[.slice A0 n0 c0] 27)).alloc (.cells #[.slice A1 n1 c1] 23)).alloc (.cells #[.slice A2 n2 c2] 23)).alloc (.cells #[.int .i64 fin] 2)).alloc (.cells #[.int .i64 (n0 : Int)] 3)).heap.size := by simp
  have hP : ∀ V, Below (w.heap.size + 5) (((((w.alloc (.cells #[.slice A0 n0 c0] 27)).alloc (.cells #[.slice A1 n1 c1] 23)).alloc (.cells #[.slice A2 n2 c2] 23)).alloc (.cells #[.int .i64 fin] 2)).alloc (.cells #[.int .i64 (n0 : Int)] 3)) V → V.cell? ⟨w.heap.size, 0, none⟩ = some (.slice A0 n0 c0) ∧ V.cell? ⟨w.heap.size + 1, 0, none⟩ = some (.slice A1 n1 c1) ∧ V.cell? ⟨w.heap.size + 1 + 1, 0, none⟩ = some (.slice A2 n2 c2) ∧ V.cell? ⟨w.heap.size + 1 + 1 + 1, 0, none⟩ = some (.int .i64 fin) ∧ V.cell? ⟨w.heap.size + 1 + 1 + 1 + 1, 0, none⟩ = some (.int .i64 (n0 : Int)) := fun V hV => by
    obtain ⟨h0, h1, h2, h3, h4⟩ := ha_box w V hV
    exact ⟨perm_cell h0, perm_cell h1, perm_cell h2, perm_cell h3, perm_cell h4⟩
  obtain ⟨g00, g01, g02, g03, g04⟩ := hP _ hv0
  go_enter Try.func8, Try.ntmps8
  go_wp2_with (first | (go_at_call 21; with_reducible refine (hA _ hw0).mono ?_; rintro e W1 ⟨hb1, rfl⟩; have hw1 := hw0.trans (hb1.mono hw0.size); have hv1 := hv0.trans (hb1.mono hz0); have hz1 := Nat.le_trans hz0 hb1.size; obtain ⟨g10, g11, g12, g13, g14⟩ := hP _ hv1))
  go_ret3
  exact ⟨hw1, rfl⟩

theorem ha_false1 {A0 A1 A2 : Option Addr} {n0 c0 n1 c1 n2 c2 : Nat} {fin : Int} (w : World) (hA : ∀ W, Below w.heap.size w W → Calls Try.prog 21 #[.slice A0 n0 c0] W fun e W' => Below W.heap.size W W' ∧ e = .returned (.bool true)) (hn : decide ((n0 : Int) > 5) = true) :
    Calls Try.prog 8 #[.slice A0 n0 c0, .slice A1 n1 c1, .slice A2 n2 c2, .int .i64 fin] w fun e W' => Below w.heap.size w W' ∧ e = .returned (.tuple #[.slice none 0 0, .int .i64 0, .bool false]) := by
  have hw0 : Below w.heap.size w (((((w.alloc (.cells #[.slice A0 n0 c0] 27)).alloc (.cells #[.slice A1 n1 c1] 23)).alloc (.cells #[.slice A2 n2 c2] 23)).alloc (.cells #[.int .i64 fin] 2)).alloc (.cells #[.int .i64 (n0 : Int)] 3)) := ((((((Below.refl _ _).alloc (Nat.le_refl _) _).alloc (by simp) _).alloc (by simp; omega) _).alloc (by simp; omega) _).alloc (by simp; omega) _)
  have hv0 : Below (w.heap.size + 5) (((((w.alloc (.cells #[.slice A0 n0 c0] 27)).alloc (.cells #[.slice A1 n1 c1] 23)).alloc (.cells #[.slice A2 n2 c2] 23)).alloc (.cells #[.int .i64 fin] 2)).alloc (.cells #[.int .i64 (n0 : Int)] 3)) (((((w.alloc (.cells #[.slice A0 n0 c0] 27)).alloc (.cells #[.slice A1 n1 c1] 23)).alloc (.cells #[.slice A2 n2 c2] 23)).alloc (.cells #[.int .i64 fin] 2)).alloc (.cells #[.int .i64 (n0 : Int)] 3)) := Below.refl _ _
  have hz0 : w.heap.size + 5 ≤ (((((w.alloc (.cells #[.slice A0 n0 c0] 27)).alloc (.cells #[.slice A1 n1 c1] 23)).alloc (.cells #[.slice A2 n2 c2] 23)).alloc (.cells #[.int .i64 fin] 2)).alloc (.cells #[.int .i64 (n0 : Int)] 3)).heap.size := by simp
  have hP : ∀ V, Below (w.heap.size + 5) (((((w.alloc (.cells #[.slice A0 n0 c0] 27)).alloc (.cells #[.slice A1 n1 c1] 23)).alloc (.cells #[.slice A2 n2 c2] 23)).alloc (.cells #[.int .i64 fin] 2)).alloc (.cells #[.int .i64 (n0 : Int)] 3)) V → V.cell? ⟨w.heap.size, 0, none⟩ = some (.slice A0 n0 c0) ∧ V.cell? ⟨w.heap.size + 1, 0, none⟩ = some (.slice A1 n1 c1) ∧ V.cell? ⟨w.heap.size + 1 + 1, 0, none⟩ = some (.slice A2 n2 c2) ∧ V.cell? ⟨w.heap.size + 1 + 1 + 1, 0, none⟩ = some (.int .i64 fin) ∧ V.cell? ⟨w.heap.size + 1 + 1 + 1 + 1, 0, none⟩ = some (.int .i64 (n0 : Int)) := fun V hV => by
    obtain ⟨h0, h1, h2, h3, h4⟩ := ha_box w V hV
    exact ⟨perm_cell h0, perm_cell h1, perm_cell h2, perm_cell h3, perm_cell h4⟩
  obtain ⟨g00, g01, g02, g03, g04⟩ := hP _ hv0
  go_enter Try.func8, Try.ntmps8
  go_wp2_with (first | (go_at_call 21; with_reducible refine (hA _ hw0).mono ?_; rintro e W1 ⟨hb1, rfl⟩; have hw1 := hw0.trans (hb1.mono hw0.size); have hv1 := hv0.trans (hb1.mono hz0); have hz1 := Nat.le_trans hz0 hb1.size; obtain ⟨g10, g11, g12, g13, g14⟩ := hP _ hv1))
  go_ret3
  exact ⟨hw1, rfl⟩

theorem ha_false2 {A0 A1 A2 : Option Addr} {n0 c0 n1 c1 n2 c2 : Nat} {fin : Int} (w : World) (hA : ∀ W, Below w.heap.size w W → Calls Try.prog 21 #[.slice A0 n0 c0] W fun e W' => Below W.heap.size W W' ∧ e = .returned (.bool true)) (hM : ∀ W, Below w.heap.size w W → Calls Try.prog 22 #[.slice A1 n1 c1, .int .i64 (n0 : Int), .int .i64 (n0 : Int), .int .i64 0, .int .i64 3] W fun e W' => Below W.heap.size W W' ∧ e = .returned (.bool false)) (hn : decide ((n0 : Int) > 5) = false) :
    Calls Try.prog 8 #[.slice A0 n0 c0, .slice A1 n1 c1, .slice A2 n2 c2, .int .i64 fin] w fun e W' => Below w.heap.size w W' ∧ e = .returned (.tuple #[.slice none 0 0, .int .i64 0, .bool false]) := by
  have hw0 : Below w.heap.size w (((((w.alloc (.cells #[.slice A0 n0 c0] 27)).alloc (.cells #[.slice A1 n1 c1] 23)).alloc (.cells #[.slice A2 n2 c2] 23)).alloc (.cells #[.int .i64 fin] 2)).alloc (.cells #[.int .i64 (n0 : Int)] 3)) := ((((((Below.refl _ _).alloc (Nat.le_refl _) _).alloc (by simp) _).alloc (by simp; omega) _).alloc (by simp; omega) _).alloc (by simp; omega) _)
  have hv0 : Below (w.heap.size + 5) (((((w.alloc (.cells #[.slice A0 n0 c0] 27)).alloc (.cells #[.slice A1 n1 c1] 23)).alloc (.cells #[.slice A2 n2 c2] 23)).alloc (.cells #[.int .i64 fin] 2)).alloc (.cells #[.int .i64 (n0 : Int)] 3)) (((((w.alloc (.cells #[.slice A0 n0 c0] 27)).alloc (.cells #[.slice A1 n1 c1] 23)).alloc (.cells #[.slice A2 n2 c2] 23)).alloc (.cells #[.int .i64 fin] 2)).alloc (.cells #[.int .i64 (n0 : Int)] 3)) := Below.refl _ _
  have hz0 : w.heap.size + 5 ≤ (((((w.alloc (.cells #[.slice A0 n0 c0] 27)).alloc (.cells #[.slice A1 n1 c1] 23)).alloc (.cells #[.slice A2 n2 c2] 23)).alloc (.cells #[.int .i64 fin] 2)).alloc (.cells #[.int .i64 (n0 : Int)] 3)).heap.size := by simp
  have hP : ∀ V, Below (w.heap.size + 5) (((((w.alloc (.cells #[.slice A0 n0 c0] 27)).alloc (.cells #[.slice A1 n1 c1] 23)).alloc (.cells #[.slice A2 n2 c2] 23)).alloc (.cells #[.int .i64 fin] 2)).alloc (.cells #[.int .i64 (n0 : Int)] 3)) V → V.cell? ⟨w.heap.size, 0, none⟩ = some (.slice A0 n0 c0) ∧ V.cell? ⟨w.heap.size + 1, 0, none⟩ = some (.slice A1 n1 c1) ∧ V.cell? ⟨w.heap.size + 1 + 1, 0, none⟩ = some (.slice A2 n2 c2) ∧ V.cell? ⟨w.heap.size + 1 + 1 + 1, 0, none⟩ = some (.int .i64 fin) ∧ V.cell? ⟨w.heap.size + 1 + 1 + 1 + 1, 0, none⟩ = some (.int .i64 (n0 : Int)) := fun V hV => by
    obtain ⟨h0, h1, h2, h3, h4⟩ := ha_box w V hV
    exact ⟨perm_cell h0, perm_cell h1, perm_cell h2, perm_cell h3, perm_cell h4⟩
  obtain ⟨g00, g01, g02, g03, g04⟩ := hP _ hv0
  go_enter Try.func8, Try.ntmps8
  go_wp2_with (first | (go_at_call 21; with_reducible refine (hA _ hw0).mono ?_; rintro e W1 ⟨hb1, rfl⟩; have hw1 := hw0.trans (hb1.mono hw0.size); have hv1 := hv0.trans (hb1.mono hz0); have hz1 := Nat.le_trans hz0 hb1.size; obtain ⟨g10, g11, g12, g13, g14⟩ := hP _ hv1) | (go_at_call 22; with_reducible refine (hM _ hw1).mono ?_; rintro e W2 ⟨hb2, rfl⟩; have hw2 := hw1.trans (hb2.mono hw1.size); have hv2 := hv1.trans (hb2.mono hz1); have hz2 := Nat.le_trans hz1 hb2.size; obtain ⟨g20, g21, g22, g23, g24⟩ := hP _ hv2))
  go_ret3
  exact ⟨hw2, rfl⟩

theorem ha_false3 {A0 A1 A2 : Option Addr} {n0 c0 n1 c1 n2 c2 : Nat} {fin : Int} (w : World) (hA : ∀ W, Below w.heap.size w W → Calls Try.prog 21 #[.slice A0 n0 c0] W fun e W' => Below W.heap.size W W' ∧ e = .returned (.bool true)) (hM : ∀ W, Below w.heap.size w W → Calls Try.prog 22 #[.slice A1 n1 c1, .int .i64 (n0 : Int), .int .i64 (n0 : Int), .int .i64 0, .int .i64 3] W fun e W' => Below W.heap.size W W' ∧ e = .returned (.bool true)) (hK : ∀ W, Below w.heap.size w W → Calls Try.prog 22 #[.slice A2 n2 c2, .int .i64 (n0 : Int), .int .i64 (n0 : Int), .int .i64 0, .int .i64 1000] W fun e W' => Below W.heap.size W W' ∧ e = .returned (.bool false)) (hn : decide ((n0 : Int) > 5) = false) :
    Calls Try.prog 8 #[.slice A0 n0 c0, .slice A1 n1 c1, .slice A2 n2 c2, .int .i64 fin] w fun e W' => Below w.heap.size w W' ∧ e = .returned (.tuple #[.slice none 0 0, .int .i64 0, .bool false]) := by
  have hw0 : Below w.heap.size w (((((w.alloc (.cells #[.slice A0 n0 c0] 27)).alloc (.cells #[.slice A1 n1 c1] 23)).alloc (.cells #[.slice A2 n2 c2] 23)).alloc (.cells #[.int .i64 fin] 2)).alloc (.cells #[.int .i64 (n0 : Int)] 3)) := ((((((Below.refl _ _).alloc (Nat.le_refl _) _).alloc (by simp) _).alloc (by simp; omega) _).alloc (by simp; omega) _).alloc (by simp; omega) _)
  have hv0 : Below (w.heap.size + 5) (((((w.alloc (.cells #[.slice A0 n0 c0] 27)).alloc (.cells #[.slice A1 n1 c1] 23)).alloc (.cells #[.slice A2 n2 c2] 23)).alloc (.cells #[.int .i64 fin] 2)).alloc (.cells #[.int .i64 (n0 : Int)] 3)) (((((w.alloc (.cells #[.slice A0 n0 c0] 27)).alloc (.cells #[.slice A1 n1 c1] 23)).alloc (.cells #[.slice A2 n2 c2] 23)).alloc (.cells #[.int .i64 fin] 2)).alloc (.cells #[.int .i64 (n0 : Int)] 3)) := Below.refl _ _
  have hz0 : w.heap.size + 5 ≤ (((((w.alloc (.cells #[.slice A0 n0 c0] 27)).alloc (.cells #[.slice A1 n1 c1] 23)).alloc (.cells #[.slice A2 n2 c2] 23)).alloc (.cells #[.int .i64 fin] 2)).alloc (.cells #[.int .i64 (n0 : Int)] 3)).heap.size := by simp
  have hP : ∀ V, Below (w.heap.size + 5) (((((w.alloc (.cells #[.slice A0 n0 c0] 27)).alloc (.cells #[.slice A1 n1 c1] 23)).alloc (.cells #[.slice A2 n2 c2] 23)).alloc (.cells #[.int .i64 fin] 2)).alloc (.cells #[.int .i64 (n0 : Int)] 3)) V → V.cell? ⟨w.heap.size, 0, none⟩ = some (.slice A0 n0 c0) ∧ V.cell? ⟨w.heap.size + 1, 0, none⟩ = some (.slice A1 n1 c1) ∧ V.cell? ⟨w.heap.size + 1 + 1, 0, none⟩ = some (.slice A2 n2 c2) ∧ V.cell? ⟨w.heap.size + 1 + 1 + 1, 0, none⟩ = some (.int .i64 fin) ∧ V.cell? ⟨w.heap.size + 1 + 1 + 1 + 1, 0, none⟩ = some (.int .i64 (n0 : Int)) := fun V hV => by
    obtain ⟨h0, h1, h2, h3, h4⟩ := ha_box w V hV
    exact ⟨perm_cell h0, perm_cell h1, perm_cell h2, perm_cell h3, perm_cell h4⟩
  obtain ⟨g00, g01, g02, g03, g04⟩ := hP _ hv0
  go_enter Try.func8, Try.ntmps8
  go_wp2_with (first | (go_at_call 21; with_reducible refine (hA _ hw0).mono ?_; rintro e W1 ⟨hb1, rfl⟩; have hw1 := hw0.trans (hb1.mono hw0.size); have hv1 := hv0.trans (hb1.mono hz0); have hz1 := Nat.le_trans hz0 hb1.size; obtain ⟨g10, g11, g12, g13, g14⟩ := hP _ hv1) | (go_at_call 22; with_reducible refine (hM _ hw1).mono ?_; rintro e W2 ⟨hb2, rfl⟩; have hw2 := hw1.trans (hb2.mono hw1.size); have hv2 := hv1.trans (hb2.mono hz1); have hz2 := Nat.le_trans hz1 hb2.size; obtain ⟨g20, g21, g22, g23, g24⟩ := hP _ hv2) | (go_at_call 22; with_reducible refine (hK _ hw2).mono ?_; rintro e W3 ⟨hb3, rfl⟩; have hw3 := hw2.trans (hb3.mono hw2.size); have hv3 := hv2.trans (hb3.mono hz2); have hz3 := Nat.le_trans hz2 hb3.size; obtain ⟨g30, g31, g32, g33, g34⟩ := hP _ hv3))
  go_ret3
  exact ⟨hw3, rfl⟩

theorem ha_false4 {A0 A1 A2 : Option Addr} {n0 c0 n1 c1 n2 c2 : Nat} {fin : Int} (w : World) (hA : ∀ W, Below w.heap.size w W → Calls Try.prog 21 #[.slice A0 n0 c0] W fun e W' => Below W.heap.size W W' ∧ e = .returned (.bool true)) (hM : ∀ W, Below w.heap.size w W → Calls Try.prog 22 #[.slice A1 n1 c1, .int .i64 (n0 : Int), .int .i64 (n0 : Int), .int .i64 0, .int .i64 3] W fun e W' => Below W.heap.size W W' ∧ e = .returned (.bool true)) (hK : ∀ W, Below w.heap.size w W → Calls Try.prog 22 #[.slice A2 n2 c2, .int .i64 (n0 : Int), .int .i64 (n0 : Int), .int .i64 0, .int .i64 1000] W fun e W' => Below W.heap.size W W' ∧ e = .returned (.bool true)) (hW : ∀ W, Below w.heap.size w W → Calls Try.prog 23 #[.int .i64 fin, .int .i64 0, .int .i64 100000] W fun e W' => Below W.heap.size W W' ∧ e = .returned (.bool false)) (hn : decide ((n0 : Int) > 5) = false) :
    Calls Try.prog 8 #[.slice A0 n0 c0, .slice A1 n1 c1, .slice A2 n2 c2, .int .i64 fin] w fun e W' => Below w.heap.size w W' ∧ e = .returned (.tuple #[.slice none 0 0, .int .i64 0, .bool false]) := by
  have hw0 : Below w.heap.size w (((((w.alloc (.cells #[.slice A0 n0 c0] 27)).alloc (.cells #[.slice A1 n1 c1] 23)).alloc (.cells #[.slice A2 n2 c2] 23)).alloc (.cells #[.int .i64 fin] 2)).alloc (.cells #[.int .i64 (n0 : Int)] 3)) := ((((((Below.refl _ _).alloc (Nat.le_refl _) _).alloc (by simp) _).alloc (by simp; omega) _).alloc (by simp; omega) _).alloc (by simp; omega) _)
  have hv0 : Below (w.heap.size + 5) (((((w.alloc (.cells #[.slice A0 n0 c0] 27)).alloc (.cells #[.slice A1 n1 c1] 23)).alloc (.cells #[.slice A2 n2 c2] 23)).alloc (.cells #[.int .i64 fin] 2)).alloc (.cells #[.int .i64 (n0 : Int)] 3)) (((((w.alloc (.cells #[.slice A0 n0 c0] 27)).alloc (.cells #[.slice A1 n1 c1] 23)).alloc (.cells #[.slice A2 n2 c2] 23)).alloc (.cells #[.int .i64 fin] 2)).alloc (.cells #[.int .i64 (n0 : Int)] 3)) := Below.refl _ _
  have hz0 : w.heap.size + 5 ≤ (((((w.alloc (.cells #[.slice A0 n0 c0] 27)).alloc (.cells #[.slice A1 n1 c1] 23)).alloc (.cells #[.slice A2 n2 c2] 23)).alloc (.cells #[.int .i64 fin] 2)).alloc (.cells #[.int .i64 (n0 : Int)] 3)).heap.size := by simp
  have hP : ∀ V, Below (w.heap.size + 5) (((((w.alloc (.cells #[.slice A0 n0 c0] 27)).alloc (.cells #[.slice A1 n1 c1] 23)).alloc (.cells #[.slice A2 n2 c2] 23)).alloc (.cells #[.int .i64 fin] 2)).alloc (.cells #[.int .i64 (n0 : Int)] 3)) V → V.cell? ⟨w.heap.size, 0, none⟩ = some (.slice A0 n0 c0) ∧ V.cell? ⟨w.heap.size + 1, 0, none⟩ = some (.slice A1 n1 c1) ∧ V.cell? ⟨w.heap.size + 1 + 1, 0, none⟩ = some (.slice A2 n2 c2) ∧ V.cell? ⟨w.heap.size + 1 + 1 + 1, 0, none⟩ = some (.int .i64 fin) ∧ V.cell? ⟨w.heap.size + 1 + 1 + 1 + 1, 0, none⟩ = some (.int .i64 (n0 : Int)) := fun V hV => by
    obtain ⟨h0, h1, h2, h3, h4⟩ := ha_box w V hV
    exact ⟨perm_cell h0, perm_cell h1, perm_cell h2, perm_cell h3, perm_cell h4⟩
  obtain ⟨g00, g01, g02, g03, g04⟩ := hP _ hv0
  go_enter Try.func8, Try.ntmps8
  go_wp2_with (first | (go_at_call 21; with_reducible refine (hA _ hw0).mono ?_; rintro e W1 ⟨hb1, rfl⟩; have hw1 := hw0.trans (hb1.mono hw0.size); have hv1 := hv0.trans (hb1.mono hz0); have hz1 := Nat.le_trans hz0 hb1.size; obtain ⟨g10, g11, g12, g13, g14⟩ := hP _ hv1) | (go_at_call 22; with_reducible refine (hM _ hw1).mono ?_; rintro e W2 ⟨hb2, rfl⟩; have hw2 := hw1.trans (hb2.mono hw1.size); have hv2 := hv1.trans (hb2.mono hz1); have hz2 := Nat.le_trans hz1 hb2.size; obtain ⟨g20, g21, g22, g23, g24⟩ := hP _ hv2) | (go_at_call 22; with_reducible refine (hK _ hw2).mono ?_; rintro e W3 ⟨hb3, rfl⟩; have hw3 := hw2.trans (hb3.mono hw2.size); have hv3 := hv2.trans (hb3.mono hz2); have hz3 := Nat.le_trans hz2 hb3.size; obtain ⟨g30, g31, g32, g33, g34⟩ := hP _ hv3) | (go_at_call 23; with_reducible refine (hW _ hw3).mono ?_; rintro e W4 ⟨hb4, rfl⟩; have hw4 := hw3.trans (hb4.mono hw3.size); have hv4 := hv3.trans (hb4.mono hz3); have hz4 := Nat.le_trans hz3 hb4.size; obtain ⟨g40, g41, g42, g43, g44⟩ := hP _ hv4))
  go_ret3
  exact ⟨hw4, rfl⟩


--MAIN
set_option maxHeartbeats 16000000 in
/-- The cuts are looked for. -/
theorem ha_any {p : Nat → Prop} {fE : List Tk → Option (List Int × Unit)} {fL : List Tk → List Int → Option (Int × Unit)} {fC : List Int → Option (List Int × Unit)} (hE : EarlyC p fE) (hL : LastC p fL) (hC : CloneC fC)
    {LA lo lc MA mo mc CA co cc n : Nat} {list : List Tk} {most costs : List Int} {fin : Int} (hn5 : 1 ≤ n ∧ n ≤ 5) (hll : list.length = n) (w : World) (hp : ∀ k, p k → k < w.heap.size) (hLA : LA < w.heap.size) (hMA : MA < w.heap.size) (hCA : CA < w.heap.size)
    (hlist : RC (fun _ => p) w.heap (.sl tkS) list [.slice (some ⟨LA, lo, none⟩) list.length lc]) (hla : ∀ i, i < n → w.cell? ⟨LA, lo + i * 4, none⟩ = some (.int .i64 (list.getD i tkD).1)) (hma : ∀ i, i < n → w.cell? ⟨MA, mo + i, none⟩ = some (.int .i64 (most.getD i 0))) (hca : ∀ i, i < n → w.cell? ⟨CA, co + i, none⟩ = some (.int .i64 (costs.getD i 0)))
    {S' : HT} (hput : putH fE fL fC list most costs fin n 0 (list, List.replicate n 0, (none, 0)) = some S')
    (hA : ∀ W, Below w.heap.size w W → Calls Try.prog 21 #[.slice (some ⟨LA, lo, none⟩) n lc] W fun e W' => Below W.heap.size W W' ∧ e = .returned (.bool true)) (hM : ∀ W, Below w.heap.size w W → Calls Try.prog 22 #[.slice (some ⟨MA, mo, none⟩) n mc, .int .i64 (n : Int), .int .i64 (n : Int), .int .i64 0, .int .i64 3] W fun e W' => Below W.heap.size W W' ∧ e = .returned (.bool true)) (hK : ∀ W, Below w.heap.size w W → Calls Try.prog 22 #[.slice (some ⟨CA, co, none⟩) n cc, .int .i64 (n : Int), .int .i64 (n : Int), .int .i64 0, .int .i64 1000] W fun e W' => Below W.heap.size W W' ∧ e = .returned (.bool true)) (hW : ∀ W, Below w.heap.size w W → Calls Try.prog 23 #[.int .i64 fin, .int .i64 0, .int .i64 100000] W fun e W' => Below W.heap.size W W' ∧ e = .returned (.bool true)) :
    Calls Try.prog 8 #[.slice (some ⟨LA, lo, none⟩) n lc, .slice (some ⟨MA, mo, none⟩) n mc, .slice (some ⟨CA, co, none⟩) n cc, .int .i64 fin] w fun e W' => Below w.heap.size w W' ∧ ∃ x v, e = .returned (.tuple #[v, .int .i64 S'.2.2.2, .bool S'.2.2.1.isSome]) ∧ BestH W' x S'.2.2.1 v ∧ w.heap.size ≤ x := by
  have hw0 : Below w.heap.size w (((((w.alloc (.cells #[.slice (some ⟨LA, lo, none⟩) n lc] 27)).alloc (.cells #[.slice (some ⟨MA, mo, none⟩) n mc] 23)).alloc (.cells #[.slice (some ⟨CA, co, none⟩) n cc] 23)).alloc (.cells #[.int .i64 fin] 2)).alloc (.cells #[.int .i64 (n : Int)] 3)) := ((((((Below.refl _ _).alloc (Nat.le_refl _) _).alloc (by simp) _).alloc (by simp; omega) _).alloc (by simp; omega) _).alloc (by simp; omega) _)
  have hv0 : Below (w.heap.size + 5) (((((w.alloc (.cells #[.slice (some ⟨LA, lo, none⟩) n lc] 27)).alloc (.cells #[.slice (some ⟨MA, mo, none⟩) n mc] 23)).alloc (.cells #[.slice (some ⟨CA, co, none⟩) n cc] 23)).alloc (.cells #[.int .i64 fin] 2)).alloc (.cells #[.int .i64 (n : Int)] 3)) (((((w.alloc (.cells #[.slice (some ⟨LA, lo, none⟩) n lc] 27)).alloc (.cells #[.slice (some ⟨MA, mo, none⟩) n mc] 23)).alloc (.cells #[.slice (some ⟨CA, co, none⟩) n cc] 23)).alloc (.cells #[.int .i64 fin] 2)).alloc (.cells #[.int .i64 (n : Int)] 3)) := Below.refl _ _
  have hz0 : w.heap.size + 5 ≤ (((((w.alloc (.cells #[.slice (some ⟨LA, lo, none⟩) n lc] 27)).alloc (.cells #[.slice (some ⟨MA, mo, none⟩) n mc] 23)).alloc (.cells #[.slice (some ⟨CA, co, none⟩) n cc] 23)).alloc (.cells #[.int .i64 fin] 2)).alloc (.cells #[.int .i64 (n : Int)] 3)).heap.size := by simp
  have hP : ∀ V, Below (w.heap.size + 5) (((((w.alloc (.cells #[.slice (some ⟨LA, lo, none⟩) n lc] 27)).alloc (.cells #[.slice (some ⟨MA, mo, none⟩) n mc] 23)).alloc (.cells #[.slice (some ⟨CA, co, none⟩) n cc] 23)).alloc (.cells #[.int .i64 fin] 2)).alloc (.cells #[.int .i64 (n : Int)] 3)) V → V.cell? ⟨w.heap.size, 0, none⟩ = some (.slice (some ⟨LA, lo, none⟩) n lc) ∧ V.cell? ⟨w.heap.size + 1, 0, none⟩ = some (.slice (some ⟨MA, mo, none⟩) n mc) ∧ V.cell? ⟨w.heap.size + 1 + 1, 0, none⟩ = some (.slice (some ⟨CA, co, none⟩) n cc) ∧ V.cell? ⟨w.heap.size + 1 + 1 + 1, 0, none⟩ = some (.int .i64 fin) ∧ V.cell? ⟨w.heap.size + 1 + 1 + 1 + 1, 0, none⟩ = some (.int .i64 (n : Int)) := fun V hV => by
    obtain ⟨h0, h1, h2, h3, h4⟩ := ha_box w V hV
    exact ⟨perm_cell h0, perm_cell h1, perm_cell h2, perm_cell h3, perm_cell h4⟩
  obtain ⟨g00, g01, g02, g03, g04⟩ := hP _ hv0
  have hn : decide ((n : Int) > 5) = false := decide_eq_false (by omega)
  have hmk : ∀ W : World, (Instr.makeSlice 23 (.int .i64 (n : Int)) (.int .i64 (n : Int))).run Try.prog W = .ok (.slice (some ⟨W.heap.size, 0, none⟩) n n) (W.alloc (.cells (Array.replicate n (.int .i64 0)) 2)) := fun W => perm_make Try.underlying23 perm_info_int (by omega) rfl n n (by omega) (by omega) W
  have HALL : Hid (putH fE fL fC list most costs fin n 0 (list, List.replicate n 0, (none, 0)) = some S' ∧ list.length = n) := ⟨hput, hll⟩
  have hlt0 : LA < w.heap.size ∧ MA < w.heap.size ∧ CA < w.heap.size := ⟨hLA, hMA, hCA⟩
  have hlist' := hlist
  rw [hll] at hlist'
  clear hput hll hLA hMA hCA
  go_enter Try.func8, Try.ntmps8
  go_upto_region 6 with (first | (go_at_call 21; with_reducible refine (hA _ hw0).mono ?_; rintro e W1 ⟨hb1, rfl⟩; have hw1 := hw0.trans (hb1.mono hw0.size); have hv1 := hv0.trans (hb1.mono hz0); have hz1 := Nat.le_trans hz0 hb1.size; obtain ⟨g10, g11, g12, g13, g14⟩ := hP _ hv1) | (go_at_call 22; with_reducible refine (hM _ hw1).mono ?_; rintro e W2 ⟨hb2, rfl⟩; have hw2 := hw1.trans (hb2.mono hw1.size); have hv2 := hv1.trans (hb2.mono hz1); have hz2 := Nat.le_trans hz1 hb2.size; obtain ⟨g20, g21, g22, g23, g24⟩ := hP _ hv2) | (go_at_call 22; with_reducible refine (hK _ hw2).mono ?_; rintro e W3 ⟨hb3, rfl⟩; have hw3 := hw2.trans (hb3.mono hw2.size); have hv3 := hv2.trans (hb3.mono hz2); have hz3 := Nat.le_trans hz2 hb3.size; obtain ⟨g30, g31, g32, g33, g34⟩ := hP _ hv3) | (go_at_call 23; with_reducible refine (hW _ hw3).mono ?_; rintro e W4 ⟨hb4, rfl⟩; have hw4 := hw3.trans (hb4.mono hw3.size); have hv4 := hv3.trans (hb4.mono hz3); have hz4 := Nat.le_trans hz3 hb4.size; obtain ⟨g40, g41, g42, g43, g44⟩ := hP _ hv4))
  have hbx := fun V hV => ha_box (A0 := some ⟨LA, lo, none⟩) (A1 := some ⟨MA, mo, none⟩) (A2 := some ⟨CA, co, none⟩) (n0 := n) (c0 := lc) (n1 := n) (c1 := mc) (n2 := n) (c2 := cc) (fin := fin) w V hV
  obtain ⟨V5, hV5⟩ : ∃ V, V = ((W4.alloc (.cells #[.slice none 0 0] 23)).alloc (.cells #[.int .i64 0] 2)) := ⟨_, rfl⟩
  have hb45 : Below W4.heap.size W4 V5 := by
    rw [hV5]
    exact ((Below.refl _ _).alloc (Nat.le_refl _) _).alloc (by simp) _
  have hs5 : V5.heap.size = W4.heap.size + 2 := by rw [hV5]; simp
  have e50 : V5.heap[W4.heap.size]? = some (.cells #[.slice none 0 0] 23 (0, 0)) := by rw [hV5]; exact perm_alloc (perm_new rfl _) _
  have e51 : V5.heap[W4.heap.size + 1]? = some (.cells #[.int .i64 0] 2 (0, 0)) := by rw [hV5]; exact perm_new (by simp) _
  rw [← hV5]
  clear hV5
  have hw5 := hw4.trans (hb45.mono hw4.size)
  have hv5 := hv4.trans (hb45.mono hz4)
  have hz5 := Nat.le_trans hz4 hb45.size
  have hcl := Arr.clone_tasks (W := V5) (p := p) (A0 := LA) (o0 := lo) (c0 := lc) (ts := list) (fun h => by have := HALL.out.2; rw [h] at this; simp at this; omega) (by have := HALL.out.2; omega) (shop_mono hp hw5 hlist) (fun k hk => Nat.lt_of_lt_of_le (hp k hk) hw5.size)
  rw [HALL.out.2] at hcl
  obtain ⟨g50, g51, g52, g53, g54⟩ := hP _ hv5
  clear g00 g01 g02 g03 g04 g10 g11 g12 g13 g14 g20 g21 g22 g23 g24 g30 g31 g32 g33 g34 g40 g41 g42 g43 g44
  go_upto_region 7 with (go_at_call 24; refine hcl.mono ?_; rintro e V6 ⟨hb6, SB, sc, rfl, hTR, hsc, hSB⟩)
  have hs6 := hb6.size
  have hw6 := hw5.trans (hb6.mono hw5.size)
  have hv6 := hv5.trans (hb6.mono hz5)
  have hz6 := Nat.le_trans hz5 hs6
  have hTl := hTR.lt
  have hv7 : Below (w.heap.size + 5) _ (V6.alloc (.cells #[.slice (some ⟨SB, 0, none⟩) n sc] 27)) := hv6.alloc hz6 _
  obtain ⟨g70, g71, g72, g73, g74⟩ := hP _ hv7
  clear g50 g51 g52 g53 g54
  go_upto_region 10 with (fail)
  obtain ⟨W8, hW8⟩ : ∃ W8, W8 = (((V6.alloc (.cells #[.slice (some ⟨SB, 0, none⟩) n sc] 27)).alloc (.cells (Array.replicate n (.int .i64 0)) 2)).alloc (.cells #[.slice (some ⟨V6.heap.size + 1, 0, none⟩) n n] 23)).alloc (.cells #[.func (.func 25) #[] (haPs w.heap.size W4.heap.size V6.heap.size).toArray] 47) := ⟨_, rfl⟩
  have hb68 : Below V6.heap.size V6 W8 := by
    rw [hW8]
    exact ((((Below.refl _ _).alloc (Nat.le_refl _) _).alloc (by simp) _).alloc (by simp; omega) _).alloc (by simp; omega) _
  have hs8 : W8.heap.size = V6.heap.size + 4 := by rw [hW8]; simp
  have hw8 := hw6.trans (hb68.mono hw6.size)
  have hv8 := hv6.trans (hb68.mono hz6)
  have hb58 := hb6.trans (hb68.mono hs6)
  obtain ⟨x0, x1, x2, x3, x4⟩ := hbx W8 hv8
  have hI8 : HI p w.heap.size W4.heap.size V6.heap.size LA lo lc MA mo mc CA co cc SB sc n n list most costs fin (list, List.replicate n 0, (none, 0)) W8 := by
    refine ⟨⟨hp, hlt0.1, hlt0.2.1, hlt0.2.2, hz4, by omega, hTl⟩, x0, x1, x2, x3, x4, ⟨_, (hb58.block _ (by omega)).trans e50, rfl⟩, (hb58.block _ (by omega)).trans e51, ?_, ?_, ?_, hTR.same (hb68.block _ hTl) (fun k hk => hb68.block k (by have := hp k hk; have := hw6.size; omega)), ?_,
      ⟨HALL.out.2, hsc, by simp, Nat.le_refl _⟩, fun i hi => (hw8.cell (p := ⟨LA, lo + i * 4, none⟩) hlt0.1).trans (hla i hi), fun i hi => (hw8.cell (p := ⟨MA, mo + i, none⟩) hlt0.2.1).trans (hma i hi), fun i hi => (hw8.cell (p := ⟨CA, co + i, none⟩) hlt0.2.2).trans (hca i hi)⟩
    all_goals rw [hW8]
    · exact perm_alloc (perm_alloc (perm_alloc (perm_new rfl _) _) _) _
    · exact perm_alloc (perm_new (by simp) _) _
    · exact perm_new (by simp) _
    · exact ((row_new (by simp)).alloc _).alloc _
  have hcall := put_any hE hL hC hn5 HALL.out.2 n 0 _ S' 0 W8 (by omega) hI8 HALL.out.1
  have cp8 := perm_cell (i := 0) hI8.pb
  simp only [List.getElem?_toArray, List.getElem?_cons_zero] at cp8
  unfold haPs at hW8 cp8 hcall
  have hE8 : (((V6.alloc (.cells #[.slice (some ⟨SB, 0, none⟩) n sc] 27)).alloc (.cells (Array.replicate n (.int .i64 0)) 2)).alloc (.cells #[.slice (some ⟨V6.heap.size + 1, 0, none⟩) n n] 23)).alloc (.cells #[.func (.func 25) #[] #[.pointer (some ⟨w.heap.size + 1 + 1 + 1 + 1, 0, none⟩), .pointer (some ⟨V6.heap.size, 0, none⟩), .pointer (some ⟨w.heap.size + 1 + 1 + 1, 0, none⟩), .pointer (some ⟨W4.heap.size, 0, none⟩), .pointer (some ⟨W4.heap.size + 1, 0, none⟩), .pointer (some ⟨V6.heap.size + 1 + 1, 0, none⟩), .pointer (some ⟨w.heap.size + 1, 0, none⟩), .pointer (some ⟨w.heap.size, 0, none⟩), .pointer (some ⟨V6.heap.size + 1 + 1 + 1, 0, none⟩), .pointer (some ⟨w.heap.size + 1 + 1, 0, none⟩)]] 47) = W8 := hW8.symm
  rw [hE8]
  clear hE8 hW8 x0 x1 x2 x3 x4 g70 g71 g72 g73 g74
  have q1 : V6.heap.size + 1 + 1 + 1 = V6.heap.size + 3 := rfl
  simp only [q1]
  go_wp2_with (go_at_call 25; refine hcall.mono ?_; rintro e W9 ⟨rfl, hI9, hC9⟩)
  obtain ⟨bv, hbv, hbest⟩ := hI9.bb
  have cb9 := perm_cell (i := 0) hbv
  have cl9 := perm_cell (i := 0) hI9.ls
  simp only [List.getElem?_toArray, List.getElem?_cons_zero] at cb9 cl9
  obtain ⟨bo, hbo⟩ : ∃ o, o = S'.2.2.1 := ⟨_, rfl⟩
  have qn : ∀ w : World, (binOp .neq 23 bv (.slice none 0 0)).run Try.prog w = .ok (.bool bo.isSome) w := fun w => by
    rw [← hbo] at hbest
    cases bo with
    | none =>
      have h : bv = .slice none 0 0 := hbest
      rw [h]
      exact run_neq_slice_nil w _ _ none 0 0 Try.underlying23
    | some l =>
      obtain ⟨D, dc, dz, rfl, _⟩ := hbest
      exact run_neq_slice_nil w _ _ (some ⟨D, 0, none⟩) l.length dc Try.underlying23
  have hbest2 : BestH W9.drew V6.heap.size S'.2.2.1 bv := hbest.same fun _ _ _ => rfl
  obtain ⟨vA, vn, vc, rfl⟩ : ∃ A n c, bv = .slice A n c := by
    cases hS : S'.2.2.1 with
    | none => rw [hS] at hbest; exact ⟨_, _, _, hbest⟩
    | some l => rw [hS] at hbest; obtain ⟨D, dc, dz, e, _⟩ := hbest; exact ⟨_, _, _, e⟩
  have HB : Hid (bo = S'.2.2.1 ∧ BestH W9.drew V6.heap.size S'.2.2.1 (.slice vA vn vc)) := ⟨hbo, hbest2⟩
  have HW : Hid (Below w.heap.size w W9) := hw8.trans (hC9.below (by rintro z hz (e | e | e | e) <;> omega) hw8.size)
  clear hbo hbest hbest2
  go_region
  all_goals go_wp2_with fail
  all_goals go_ret3
  all_goals
    have := hw6.size
    exact ⟨HW.out.drew, V6.heap.size, _, by rw [← HB.out.1]; rfl, HB.out.2, by omega⟩

end Go.Proofs.Ytojjnifdkanpfaa.Ha
