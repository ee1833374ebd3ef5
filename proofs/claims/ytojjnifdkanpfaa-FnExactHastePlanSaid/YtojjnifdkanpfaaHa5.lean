/-
  spec.HastePlan: its contract. No condition.
-/
import Derived.Deep.LoopGhost
import Derived.Test.YtojjnifdkanpfaaHa4
import Derived.Test.YtojjnifdkanpfaaHaG
namespace Go.Proofs.Ytojjnifdkanpfaa.Ha
open Go Go.RowKit Go.Proofs.Ytojjnifdkanpfaa Go.Proofs.Ytojjnifdkanpfaa.Fw
open Go.Proofs.Ytojjnifdkanpfaa.Arr hiding Tk goJ goJ_step
set_option maxRecDepth 100000
set_option linter.unusedVariables false
set_option linter.unusedSimpArgs false

theorem hg_false0 {A0 A1 A2 : Option Addr} {n0 c0 n1 c1 n2 c2 : Nat} {fin : Int} (w : World) (hA : ∀ W, Below w.heap.size w W → Calls Try.prog 15 #[.slice A0 n0 c0] W fun e W' => Below W.heap.size W W' ∧ e = .returned (.bool false)) :
    Calls Try.prog 5 #[.slice A0 n0 c0, .slice A1 n1 c1, .slice A2 n2 c2, .int .i64 fin] w fun e W' => Below w.heap.size w W' ∧ e = .returned (.tuple #[.slice none 0 0, .int .i64 0, .bool false]) := by
  have hw0 : Below w.heap.size w w := Below.refl _ _
  go_enter Try.func5, Try.ntmps5
  go_wp2_with (first | (go_at_call 15; with_reducible refine (hA _ hw0).mono ?_; rintro e W1 ⟨hb1, rfl⟩; have hw1 := hw0.trans (hb1.mono hw0.size)))
  go_ret3
  exact ⟨hw1, rfl⟩

theorem hg_false1 {A0 A1 A2 : Option Addr} {n0 c0 n1 c1 n2 c2 : Nat} {fin : Int} (w : World) (hA : ∀ W, Below w.heap.size w W → Calls Try.prog 15 #[.slice A0 n0 c0] W fun e W' => Below W.heap.size W W' ∧ e = .returned (.bool true)) (hn : decide ((n0 : Int) > 5) = true) :
    Calls Try.prog 5 #[.slice A0 n0 c0, .slice A1 n1 c1, .slice A2 n2 c2, .int .i64 fin] w fun e W' => Below w.heap.size w W' ∧ e = .returned (.tuple #[.slice none 0 0, .int .i64 0, .bool false]) := by
  have hw0 : Below w.heap.size w w := Below.refl _ _
  go_enter Try.func5, Try.ntmps5
  go_wp2_with (first | (go_at_call 15; with_reducible refine (hA _ hw0).mono ?_; rintro e W1 ⟨hb1, rfl⟩; have hw1 := hw0.trans (hb1.mono hw0.size)))
  go_ret3
  exact ⟨hw1, rfl⟩

theorem hg_false2 {A0 A1 A2 : Option Addr} {n0 c0 n1 c1 n2 c2 : Nat} {fin : Int} (w : World) (hA : ∀ W, Below w.heap.size w W → Calls Try.prog 15 #[.slice A0 n0 c0] W fun e W' => Below W.heap.size W W' ∧ e = .returned (.bool true)) (hn : decide ((n0 : Int) > 5) = false) (h1 : ((n1 : Int) != (n0 : Int)) = true) :
    Calls Try.prog 5 #[.slice A0 n0 c0, .slice A1 n1 c1, .slice A2 n2 c2, .int .i64 fin] w fun e W' => Below w.heap.size w W' ∧ e = .returned (.tuple #[.slice none 0 0, .int .i64 0, .bool false]) := by
  have hw0 : Below w.heap.size w w := Below.refl _ _
  go_enter Try.func5, Try.ntmps5
  go_wp2_with (first | (go_at_call 15; with_reducible refine (hA _ hw0).mono ?_; rintro e W1 ⟨hb1, rfl⟩; have hw1 := hw0.trans (hb1.mono hw0.size)))
  go_ret3
  exact ⟨hw1, rfl⟩

theorem hg_false3 {A0 A1 A2 : Option Addr} {n0 c0 n1 c1 n2 c2 : Nat} {fin : Int} (w : World) (hA : ∀ W, Below w.heap.size w W → Calls Try.prog 15 #[.slice A0 n0 c0] W fun e W' => Below W.heap.size W W' ∧ e = .returned (.bool true)) (hn : decide ((n0 : Int) > 5) = false) (h1 : ((n1 : Int) != (n0 : Int)) = false) (h2 : ((n2 : Int) != (n0 : Int)) = true) :
    Calls Try.prog 5 #[.slice A0 n0 c0, .slice A1 n1 c1, .slice A2 n2 c2, .int .i64 fin] w fun e W' => Below w.heap.size w W' ∧ e = .returned (.tuple #[.slice none 0 0, .int .i64 0, .bool false]) := by
  have hw0 : Below w.heap.size w w := Below.refl _ _
  go_enter Try.func5, Try.ntmps5
  go_wp2_with (first | (go_at_call 15; with_reducible refine (hA _ hw0).mono ?_; rintro e W1 ⟨hb1, rfl⟩; have hw1 := hw0.trans (hb1.mono hw0.size)))
  go_ret3
  exact ⟨hw1, rfl⟩

theorem hg_false4 {A0 A1 A2 : Option Addr} {n0 c0 n1 c1 n2 c2 : Nat} {fin : Int} (w : World) (hA : ∀ W, Below w.heap.size w W → Calls Try.prog 15 #[.slice A0 n0 c0] W fun e W' => Below W.heap.size W W' ∧ e = .returned (.bool true)) (hW : ∀ W, Below w.heap.size w W → Calls Try.prog 16 #[.int .i64 fin, .int .i64 0, .int .i64 100000] W fun e W' => Below W.heap.size W W' ∧ e = .returned (.bool false)) (hn : decide ((n0 : Int) > 5) = false) (h1 : ((n1 : Int) != (n0 : Int)) = false) (h2 : ((n2 : Int) != (n0 : Int)) = false) :
    Calls Try.prog 5 #[.slice A0 n0 c0, .slice A1 n1 c1, .slice A2 n2 c2, .int .i64 fin] w fun e W' => Below w.heap.size w W' ∧ e = .returned (.tuple #[.slice none 0 0, .int .i64 0, .bool false]) := by
  have hw0 : Below w.heap.size w w := Below.refl _ _
  go_enter Try.func5, Try.ntmps5
  go_wp2_with (first | (go_at_call 15; with_reducible refine (hA _ hw0).mono ?_; rintro e W1 ⟨hb1, rfl⟩; have hw1 := hw0.trans (hb1.mono hw0.size)) | (go_at_call 16; with_reducible refine (hW _ hw1).mono ?_; rintro e W2 ⟨hb2, rfl⟩; have hw2 := hw1.trans (hb2.mono hw1.size)))
  go_ret3
  exact ⟨hw2, rfl⟩


end Go.Proofs.Ytojjnifdkanpfaa.Ha
