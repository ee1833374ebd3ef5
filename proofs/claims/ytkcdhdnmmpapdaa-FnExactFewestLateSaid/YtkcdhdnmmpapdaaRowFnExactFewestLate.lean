/-
  The law FnExactFewestLate answers true at every input and leaves its arguments as they were. No condition.
-/
import Derived.Test.YtkcdhdnmmpapdaaRows
import Derived.Test.YtkcdhdnmmpapdaaFwT
import Derived.Test.YtkcdhdnmmpapdaaFewest
namespace Go.Proofs.Ytkcdhdnmmpapdaa.rowFnExactFewestLate
open Go Go.ChangeShapes Go.WideShapes Go.ChangeAt Go.RowKit Go.Proofs.Ytkcdhdnmmpapdaa Go.Proofs.Ytkcdhdnmmpapdaa.Fw

theorem own : ownKnob Try.prog.godebug = none := by kernel_rfl
theorem laid : laidOutB Try.prog = true := by kernel_rfl
theorem shapes : HasAll Try.prog Try.f11.params.toList [.sl (.pair (.int .i64) (.pair (.int .i64) (.pair (.int .i64) (.int .i64))))] := by
  rw [Try.params11]
  exact ⟨(.sl (e := 72) (by kernel_rfl) (by kernel_rfl) (by decide) (.st (ks := [.i64, .i64, .i64, .i64]) (by kernel_rfl) (by decide))), trivial⟩
theorem reads : ∀ t ∈ Try.f11.params.toList, Try.prog.readableRec t = true ∧ t < Try.prog.types.size := by
  rw [Try.params11]
  exact List.forall_mem_cons.2 ⟨⟨by kernel_rfl, of_decide_eq_true (by kernel_rfl)⟩, (fun _ h => by cases h)⟩
theorem told {H : Type} (ds : List (DataW H)) (h : ds.length = Try.f11.params.size) : Rows.fnExactFewestLateSpec.fn H ds = { results := [.lit (.bool true)], args := ds } := by
  have h : ds.length = 1 := h.trans (by kernel_rfl)
  match ds, h with
  | [_], _ => rfl

set_option maxRecDepth 100000 in
theorem lifted (os : Os) (started : os.Started) (H : Type) (enc : TypeId × Value → H) :
    ReturnsInHanded {} Try.checked os 11 .any (Rows.fnExactFewestLateSpec.pre6 enc Try.prog Try.f11 Rows.fnExactFewestLateRow.domain false) (Rows.fnExactFewestLateSpec.post enc Try.prog Try.f11 false true false false) := by
  refine returnsInHanded_of_change (C := Try.checked) own started (by kernel_rfl) Try.func11
    (ChangeSpec.witness6 (enc := enc) (C := Try.checked) false ⟨#[], #[.slice none 0 0], []⟩ 8 (by kernel_rfl) (by kernel_rfl) (by kernel_rfl) (by kernel_rfl)) ?_
  intro W base args ds gs before hval hW _ _
  exact law_post (laws_FnExactFewestLate_sound FUEL) (fun x hw => FnExactFewestLate_eq fuel_ge x.1 hw.1.1) Try.func11 (by kernel_rfl) (by kernel_rfl) shapes laid reads (tb := 4) (by kernel_rfl) (by kernel_rfl) rfl told hval hW

theorem proved : Rows.FnExactFewestLateSaid :=
  OpenClaim.holds_of_wide 11 Try.f11 rfl rfl rfl rfl rfl rfl rfl ⟨rfl, rfl, rfl, rfl, rfl⟩ rfl rfl rfl rfl rfl (by kernel_rfl) Try.func11 (by kernel_rfl)
    (of_decide_eq_true (by kernel_rfl)) (by unfold Func.isWrapper; first | (rw [if_pos (by decide +kernel)]; kernel_rfl) | (rw [if_neg (by decide +kernel)]; exact ⟨rfl, rfl⟩))
    (fun os started H enc _ => lifted os started H enc)

end Go.Proofs.Ytkcdhdnmmpapdaa.rowFnExactFewestLate
