/-
  impl.EndsDrawn: the walk. No condition.
-/
import Derived.Test.YtmdicmdodbndgaaEdA
import Derived.Test.YtmdicmdodbndgaaEdF
namespace Go.Proofs.Ytmdicmdodbndgaa.Ed
open Go Go.RowKit Go.Proofs.Ytmdicmdodbndgaa Go.Proofs.Ytmdicmdodbndgaa.Fw
open Go.Proofs.Ytmdicmdodbndgaa.Arr hiding Tk goJ goJ_step
set_option maxRecDepth 100000
set_option linter.unusedVariables false
set_option linter.unusedSimpArgs false

def DrawC (f : FuncId) (fD : DrawF) : Prop := ∀ (W : World) (lo hi x : Nat) (sd n : Int), toF .f32 lo = some lo → toF .f32 hi = some hi → fD (some lo) (toF .f32 1065353216) (some hi) sd = some (some x, n, ()) →
  Calls Try.prog f #[.float .f32 lo, .float .f32 1065353216, .float .f32 hi, .int .i64 sd] W fun e W' => Below W.heap.size W W' ∧ e = .returned (.tuple #[.float .f32 x, .int .i64 n])
def RowsC (f : FuncId) (p : Nat → Prop) (fE : List Tk → Option (List Int × Unit)) : Prop := ∀ (W : World) (SB c : Nat) (ts : List Tk) (v : List Int), fE ts = some (v, ()) → v.length = ts.length → ts ≠ [] → TR p W SB ts → ts.length ≤ c → (∀ k, p k → k < W.heap.size) →
  Calls Try.prog f #[.slice (some ⟨SB, 0, none⟩) ts.length c] W fun e W' => Below W.heap.size W W' ∧ ∃ O oc oz, e = .returned (.slice (some ⟨O, 0, none⟩) ts.length oc) ∧ RowL W' O oz v ∧ ts.length ≤ oc ∧ W.heap.size ≤ O
def EndC (f : FuncId) (p : Nat → Prop) (fL : List Tk → List Int → Option (Int × Unit)) : Prop := ∀ (W : World) (SB c O oc oz : Nat) (ts : List Tk) (s : List Int) (v : Int), fL ts s = some (v, ()) → s.length = ts.length → TR p W SB ts → ts.length ≤ c → RowL W O oz s → ts.length ≤ oc → (∀ k, p k → k < W.heap.size) →
  Calls Try.prog f #[.slice (some ⟨SB, 0, none⟩) ts.length c, .slice (some ⟨O, 0, none⟩) ts.length oc] W fun e W' => Below W.heap.size W W' ∧ e = .returned (.int .i64 v)

/-- The order's words about the two factors. -/
structure Gd (lo hi : Nat) : Prop where
  g1 : FloatKind.f32.format.order lo 0 = some .gt ∨ FloatKind.f32.format.order lo 0 = some .eq
  g2 : FloatKind.f32.format.order lo 1065353216 = some .lt ∨ FloatKind.f32.format.order lo 1065353216 = some .eq
  g3 : FloatKind.f32.format.order hi 1065353216 = some .gt ∨ FloatKind.f32.format.order hi 1065353216 = some .eq
  g4 : FloatKind.f32.format.order hi 1082130432 = some .lt ∨ FloatKind.f32.format.order hi 1082130432 = some .eq
  g5 : FloatKind.f32.format.order lo hi = some .lt

theorem gd_iff {lo hi : Nat} : gdI (toF .f32 lo) (toF .f32 hi) = true ↔ Gd lo hi := by
  have e1 := forder_eq (k := .f32) (x := lo) (y := 0) rfl rfl
  have e2 := forder_eq (k := .f32) (x := lo) (y := 1065353216) rfl rfl
  have e3 := forder_eq (k := .f32) (x := hi) (y := 1065353216) rfl rfl
  have e4 := forder_eq (k := .f32) (x := hi) (y := 1082130432) rfl rfl
  have e5 := forder_eq (k := .f32) (x := lo) (y := hi) rfl rfl
  unfold gdI fcmp
  simp only [← e1, ← e2, ← e3, ← e4, ← e5, Bool.and_eq_true, Bool.or_eq_true, beq_iff_eq]
  exact ⟨fun h => ⟨h.1, h.2.1, h.2.2.1, h.2.2.2.1, h.2.2.2.2⟩, fun h => ⟨h.1, h.2, h.3, h.4, h.5⟩⟩

/-- What lies in memory between two turns. -/
structure EI (p : Nat → Prop) (w : World) (O0 T n : Nat) (list : List Tk) (ev : Value) (ends often : List Int) (W : World) : Prop where
  ch : Ext w W
  lo : w.heap.size ≤ O0 ∧ w.heap.size ≤ T ∧ O0 ≠ T
  oro : RowL W O0 n often
  olen : often.length = n
  tr : ∃ ts, TR p W T ts ∧ ts.length = n ∧ ∀ j, j < n → (ts.getD j tkD).2 = (list.getD j tkD).2
  en : ∃ D dc dz, ev = .slice (some ⟨D, 0, none⟩) ends.length dc ∧ RowL W D dz ends ∧ (w.heap.size ≤ D ∧ D ≠ O0 ∧ D ≠ T) ∧ ends.length ≤ dc ∧ dc ≤ dz

theorem ed_false0 {A0 : Option Addr} {n0 c0 lo hi : Nat} {sd ct : Int} (w : World) (hA : ∀ W, Below w.heap.size w W → Calls Try.prog 25 #[.slice A0 n0 c0] W fun e W' => Below W.heap.size W W' ∧ e = .returned (.bool false)) :
    Calls Try.prog 7 #[.slice A0 n0 c0, .float .f32 lo, .float .f32 hi, .int .i64 sd, .int .i64 ct] w fun e W' => Below w.heap.size w W' ∧ e = .returned (.tuple #[.slice none 0 0, .slice none 0 0, .int .i64 0, .bool false]) := by
  have hw0 : Below w.heap.size w w := Below.refl _ _
  go_enter Try.func7, Try.ntmps7
  go_wp2_with (first | (go_at_call 25; with_reducible refine (hA _ hw0).mono ?_; rintro e W1 ⟨hb1, rfl⟩; have hw1 := hw0.trans (hb1.mono hw0.size)))
  all_goals refine bodyPost_ret (results_tmp4 rfl _ _ _) rfl ?_
  all_goals exact ⟨hw1, rfl⟩

theorem ed_false1 {A0 : Option Addr} {n0 c0 lo hi : Nat} {sd ct : Int} (w : World) (hg : ¬ Gd lo hi) (hA : ∀ W, Below w.heap.size w W → Calls Try.prog 25 #[.slice A0 n0 c0] W fun e W' => Below W.heap.size W W' ∧ e = .returned (.bool true)) :
    Calls Try.prog 7 #[.slice A0 n0 c0, .float .f32 lo, .float .f32 hi, .int .i64 sd, .int .i64 ct] w fun e W' => Below w.heap.size w W' ∧ e = .returned (.tuple #[.slice none 0 0, .slice none 0 0, .int .i64 0, .bool false]) := by
  have hw0 : Below w.heap.size w w := Below.refl _ _
  have HG : Hid (¬ Gd lo hi) := hg
  clear hg
  go_enter Try.func7, Try.ntmps7
  go_wp2_with (first | (go_at_call 25; with_reducible refine (hA _ hw0).mono ?_; rintro e W1 ⟨hb1, rfl⟩; have hw1 := hw0.trans (hb1.mono hw0.size)))
  all_goals first
    | (refine bodyPost_ret (results_tmp4 rfl _ _ _) rfl ?_; exact ⟨hw1, rfl⟩)
    | (exfalso; refine HG.out ⟨?_, ?_, ?_, ?_, ?_⟩ <;> assumption)

theorem ed_false2 {A0 : Option Addr} {n0 c0 lo hi : Nat} {sd ct : Int} (w : World) (hg : Gd lo hi) (hA : ∀ W, Below w.heap.size w W → Calls Try.prog 25 #[.slice A0 n0 c0] W fun e W' => Below W.heap.size W W' ∧ e = .returned (.bool true)) (hS : ∀ W, Below w.heap.size w W → Calls Try.prog 26 #[.int .i64 sd] W fun e W' => Below W.heap.size W W' ∧ e = .returned (.bool false)) :
    Calls Try.prog 7 #[.slice A0 n0 c0, .float .f32 lo, .float .f32 hi, .int .i64 sd, .int .i64 ct] w fun e W' => Below w.heap.size w W' ∧ e = .returned (.tuple #[.slice none 0 0, .slice none 0 0, .int .i64 0, .bool false]) := by
  have hw0 : Below w.heap.size w w := Below.refl _ _
  obtain ⟨g1, g2, g3, g4, g5⟩ := hg
  go_enter Try.func7, Try.ntmps7
  go_wp2_with (first | (go_at_call 25; with_reducible refine (hA _ hw0).mono ?_; rintro e W1 ⟨hb1, rfl⟩; have hw1 := hw0.trans (hb1.mono hw0.size)) | (go_at_call 26; with_reducible refine (hS _ hw1).mono ?_; rintro e W2 ⟨hb2, rfl⟩; have hw2 := hw1.trans (hb2.mono hw1.size)))
  all_goals refine bodyPost_ret (results_tmp4 rfl _ _ _) rfl ?_
  all_goals exact ⟨hw2, rfl⟩

theorem ed_false3 {A0 : Option Addr} {n0 c0 lo hi : Nat} {sd ct : Int} (w : World) (hg : Gd lo hi) (hA : ∀ W, Below w.heap.size w W → Calls Try.prog 25 #[.slice A0 n0 c0] W fun e W' => Below W.heap.size W W' ∧ e = .returned (.bool true)) (hS : ∀ W, Below w.heap.size w W → Calls Try.prog 26 #[.int .i64 sd] W fun e W' => Below W.heap.size W W' ∧ e = .returned (.bool true)) (hW : ∀ W, Below w.heap.size w W → Calls Try.prog 27 #[.int .i64 ct, .int .i64 1, .int .i64 64] W fun e W' => Below W.heap.size W W' ∧ e = .returned (.bool false)) :
    Calls Try.prog 7 #[.slice A0 n0 c0, .float .f32 lo, .float .f32 hi, .int .i64 sd, .int .i64 ct] w fun e W' => Below w.heap.size w W' ∧ e = .returned (.tuple #[.slice none 0 0, .slice none 0 0, .int .i64 0, .bool false]) := by
  have hw0 : Below w.heap.size w w := Below.refl _ _
  obtain ⟨g1, g2, g3, g4, g5⟩ := hg
  go_enter Try.func7, Try.ntmps7
  go_wp2_with (first | (go_at_call 25; with_reducible refine (hA _ hw0).mono ?_; rintro e W1 ⟨hb1, rfl⟩; have hw1 := hw0.trans (hb1.mono hw0.size)) | (go_at_call 26; with_reducible refine (hS _ hw1).mono ?_; rintro e W2 ⟨hb2, rfl⟩; have hw2 := hw1.trans (hb2.mono hw1.size)) | (go_at_call 27; with_reducible refine (hW _ hw2).mono ?_; rintro e W3 ⟨hb3, rfl⟩; have hw3 := hw2.trans (hb3.mono hw2.size)))
  all_goals refine bodyPost_ret (results_tmp4 rfl _ _ _) rfl ?_
  all_goals exact ⟨hw3, rfl⟩


end Go.Proofs.Ytmdicmdodbndgaa.Ed
