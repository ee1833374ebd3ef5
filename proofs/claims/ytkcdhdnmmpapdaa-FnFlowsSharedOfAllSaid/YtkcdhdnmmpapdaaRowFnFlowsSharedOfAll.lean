/-
  The law FnFlowsSharedOfAll answers true at every input and leaves its arguments as they were. No condition.
-/
import Derived.Test.YtkcdhdnmmpapdaaRows
import Derived.Test.YtkcdhdnmmpapdaaFwT
import Derived.Test.YtkcdhdnmmpapdaaInsert
namespace Go.Proofs.Ytkcdhdnmmpapdaa.rowFnFlowsSharedOfAll
open Go Go.ChangeShapes Go.WideShapes Go.ChangeAt Go.RowKit Go.Proofs.Ytkcdhdnmmpapdaa Go.Proofs.Ytkcdhdnmmpapdaa.Fw

theorem own : ownKnob Try.prog.godebug = none := by kernel_rfl
theorem laid : laidOutB Try.prog = true := by kernel_rfl
theorem shapes : HasAll Try.prog Try.f9.params.toList [.sl (.sl (.int .i64)), .int .i64, .int .i64, .int .i64] := by
  rw [Try.params9]
  exact ⟨(.sl (e := 22) (by kernel_rfl) (by kernel_rfl) (by decide) (.sl (e := 2) (by kernel_rfl) (by kernel_rfl) (by decide) (.int (by kernel_rfl)))), (.int (by kernel_rfl)), (.int (by kernel_rfl)), (.int (by kernel_rfl)), trivial⟩
theorem reads : ∀ t ∈ Try.f9.params.toList, Try.prog.readableRec t = true ∧ t < Try.prog.types.size := by
  rw [Try.params9]
  exact List.forall_mem_cons.2 ⟨⟨by kernel_rfl, of_decide_eq_true (by kernel_rfl)⟩, List.forall_mem_cons.2 ⟨⟨by kernel_rfl, of_decide_eq_true (by kernel_rfl)⟩, List.forall_mem_cons.2 ⟨⟨by kernel_rfl, of_decide_eq_true (by kernel_rfl)⟩, List.forall_mem_cons.2 ⟨⟨by kernel_rfl, of_decide_eq_true (by kernel_rfl)⟩, (fun _ h => by cases h)⟩⟩⟩⟩
theorem told {H : Type} (ds : List (DataW H)) (h : ds.length = Try.f9.params.size) : Rows.fnFlowsSharedOfAllSpec.fn H ds = { results := [.lit (.bool true)], args := ds } := by
  have h : ds.length = 4 := h.trans (by kernel_rfl)
  match ds, h with
  | [_, _, _, _], _ => rfl

set_option maxRecDepth 100000 in
theorem lifted (os : Os) (started : os.Started) (H : Type) (enc : TypeId × Value → H) :
    ReturnsInHanded {} Try.checked os 9 .any (Rows.fnFlowsSharedOfAllSpec.pre6 enc Try.prog Try.f9 Rows.fnFlowsSharedOfAllRow.domain false) (Rows.fnFlowsSharedOfAllSpec.post enc Try.prog Try.f9 false true false false) := by
  refine returnsInHanded_of_change (C := Try.checked) own started (by kernel_rfl) Try.func9
    (ChangeSpec.witness6 (enc := enc) (C := Try.checked) false ⟨#[], #[.slice none 0 0, .int .i64 0, .int .i64 0, .int .i64 0], []⟩ 8 (by kernel_rfl) (by kernel_rfl) (by kernel_rfl) (by kernel_rfl)) ?_
  intro W base args ds gs before hval hW _ _
  exact law_post (laws_FnFlowsSharedOfAll_sound FUEL) (fun x hw => FnFlowsSharedOfAll_eq fuel_ge x.1 x.2.1 x.2.2.1 x.2.2.2.1 (smallL_of hw.1)) Try.func9 (by kernel_rfl) (by kernel_rfl) shapes laid reads (tb := 4) (by kernel_rfl) (by kernel_rfl) rfl told hval hW

theorem proved : Rows.FnFlowsSharedOfAllSaid :=
  OpenClaim.holds_of_wide 9 Try.f9 rfl rfl rfl rfl rfl rfl rfl ⟨rfl, rfl, rfl, rfl, rfl⟩ rfl rfl rfl rfl rfl (by kernel_rfl) Try.func9 (by kernel_rfl)
    (of_decide_eq_true (by kernel_rfl)) (by unfold Func.isWrapper; first | (rw [if_pos (by decide +kernel)]; kernel_rfl) | (rw [if_neg (by decide +kernel)]; exact ⟨rfl, rfl⟩))
    (fun os started H enc _ => lifted os started H enc)

end Go.Proofs.Ytkcdhdnmmpapdaa.rowFnFlowsSharedOfAll
