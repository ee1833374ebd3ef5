/-
  The law FnExactLeastStations answers true at every input and leaves its arguments as they were. No condition.
-/
import Derived.Test.YtgcmklniacjcfaaRows
import Derived.Test.YtgcmklniacjcfaaFwT
import Derived.Test.YtgcmklniacjcfaaLsP
namespace Go.Proofs.Ytgcmklniacjcfaa.rowFnExactLeastStations
open Go Go.ChangeShapes Go.WideShapes Go.ChangeAt Go.RowKit Go.Proofs.Ytgcmklniacjcfaa Go.Proofs.Ytgcmklniacjcfaa.Fw

theorem own : ownKnob Try.prog.godebug = none := by kernel_rfl
theorem laid : laidOutB Try.prog = true := by kernel_rfl
theorem shapes : HasAll Try.prog Try.f7.params.toList [.sl (.int .i64), .sl (.int .i64), .int .i64] := by
  rw [Try.params7]
  exact ⟨(.sl (e := 2) (by kernel_rfl) (by kernel_rfl) (by decide) (.int (by kernel_rfl))), (.sl (e := 2) (by kernel_rfl) (by kernel_rfl) (by decide) (.int (by kernel_rfl))), (.int (by kernel_rfl)), trivial⟩
theorem reads : ∀ t ∈ Try.f7.params.toList, Try.prog.readableRec t = true ∧ t < Try.prog.types.size := by
  rw [Try.params7]
  exact List.forall_mem_cons.2 ⟨⟨by kernel_rfl, of_decide_eq_true (by kernel_rfl)⟩, List.forall_mem_cons.2 ⟨⟨by kernel_rfl, of_decide_eq_true (by kernel_rfl)⟩, List.forall_mem_cons.2 ⟨⟨by kernel_rfl, of_decide_eq_true (by kernel_rfl)⟩, (fun _ h => by cases h)⟩⟩⟩
theorem told {H : Type} (ds : List (DataW H)) (h : ds.length = Try.f7.params.size) : Rows.fnExactLeastStationsSpec.fn H ds = { results := [.lit (.bool true)], args := ds } := by
  have h : ds.length = 3 := h.trans (by kernel_rfl)
  match ds, h with
  | [_, _, _], _ => rfl

set_option maxRecDepth 100000 in
theorem lifted (os : Os) (started : os.Started) (H : Type) (enc : TypeId × Value → H) :
    ReturnsInHanded {} Try.checked os 7 .any (Rows.fnExactLeastStationsSpec.pre6 enc Try.prog Try.f7 Rows.fnExactLeastStationsRow.domain false) (Rows.fnExactLeastStationsSpec.post enc Try.prog Try.f7 false true false false) := by
  refine returnsInHanded_of_change (C := Try.checked) own started (by kernel_rfl) Try.func7
    (ChangeSpec.witness6 (enc := enc) (C := Try.checked) false ⟨#[], #[.slice none 0 0, .slice none 0 0, .int .i64 0], []⟩ 8 (by kernel_rfl) (by kernel_rfl) (by kernel_rfl) (by kernel_rfl)) ?_
  intro W base args ds gs before hval hW _ _
  exact law_post (laws_FnExactLeastStations_sound FUEL) (fun x _ => FnExactLeastStations_eq fuel_ge x.1 x.2.1 x.2.2.1) Try.func7 (by kernel_rfl) (by kernel_rfl) shapes laid reads (tb := 4) (by kernel_rfl) (by kernel_rfl) rfl told hval hW

theorem proved : Rows.FnExactLeastStationsSaid :=
  OpenClaim.holds_of_wide 7 Try.f7 rfl rfl rfl rfl rfl rfl rfl ⟨rfl, rfl, rfl, rfl, rfl⟩ rfl rfl rfl rfl rfl (by kernel_rfl) Try.func7 (by kernel_rfl)
    (of_decide_eq_true (by kernel_rfl)) (by unfold Func.isWrapper; first | (rw [if_pos (by decide +kernel)]; kernel_rfl) | (rw [if_neg (by decide +kernel)]; exact ⟨rfl, rfl⟩))
    (fun os started H enc _ => lifted os started H enc)

end Go.Proofs.Ytgcmklniacjcfaa.rowFnExactLeastStations
