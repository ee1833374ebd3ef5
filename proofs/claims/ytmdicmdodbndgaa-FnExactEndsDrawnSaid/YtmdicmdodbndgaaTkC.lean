/-
  slices.Clone over tasks. No condition.
-/
import Derived.Lib.Walk
import Derived.Test.YtmdicmdodbndgaaTk
set_option linter.unusedVariables false
set_option linter.unusedSimpArgs false
namespace Go.Proofs.Ytmdicmdodbndgaa.Arr
open Go Go.RowKit Go.Proofs.Ytmdicmdodbndgaa Go.Proofs.Ytmdicmdodbndgaa.Fw

set_option maxRecDepth 100000 in
/-- A row of tasks copied: what its lists name is the elder's. -/
theorem clone_tasks {p : Nat → Prop} {W : World} {A0 o0 c0 : Nat} {ts : List Tk} (hne : ts ≠ []) (hlen : ts.length ≤ 100000) (hA : RC (fun _ => p) W.heap (.sl tkS) ts [.slice (some ⟨A0, o0, none⟩) ts.length c0]) (hlt : ∀ b, p b → b < W.heap.size) :
    Calls Try.prog 28 #[.slice (some ⟨A0, o0, none⟩) ts.length c0] W fun e W' => Below W.heap.size W W' ∧ ∃ T c, e = .returned (.slice (some ⟨T, 0, none⟩) ts.length c) ∧ TR p W' T ts ∧ ts.length ≤ c ∧ W.heap.size ≤ T := by
  have q22 : ∀ (w : World) (a : Option Addr) (n c n' c' : Nat), (binOp .eql 29 (.slice a n c) (.slice none n' c')).run Try.prog w = .ok (.bool a.isNone) w := fun w a n c n' c' => Lib.run_eql_slice_nil w _ _ a n c n' c' Try.underlying29
  have hA' : RC (fun _ => p) (W.alloc (.cells #[] 46)).heap (.sl tkS) ts [.slice (some ⟨A0, o0, none⟩) ts.length c0] := RC.mono_ (fun _ b hb => ⟨hb, fun o => by
    unfold cellH
    rw [((Chg.refl (fun _ => False) W).alloc _).block b (hlt b hb) id]⟩) hA
  obtain ⟨T, c, W', h1, h2, h3, h4, h5⟩ := app_tasks (E := W.heap.size) (W := W.alloc (.cells #[] 46)) ⟨46, perm_new rfl _⟩ hne hlen hA' (fun b hb => by have := hlt b hb; simp; omega)
  have HW : Hid (Below W.heap.size W W') := (((Chg.refl (fun _ => False) W).alloc (.cells #[] 46)).trans h5 fun _ _ h => h).below (fun _ _ h => h) (Nat.le_refl _)
  have hT : W.heap.size ≤ T := by rw [h4]; simp
  clear hA hA' h4 h5 hlt
  go_enter Try.func28, Try.ntmps28
  go_wp2_with (at_builtin; refine Lib.wpList_append_run _ rfl _ _ _ _ rfl _ _ rfl rfl _ _ h1 ?_)
  go_ret
  exact ⟨HW.out, T, c, rfl, h2, h3, hT⟩

end Go.Proofs.Ytmdicmdodbndgaa.Arr
