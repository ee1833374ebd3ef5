/-
  The law FnExactBufferOf answers true at every input and leaves its arguments as they were. No condition.
-/
import Derived.Test.YtblmginpolckoaaRows
import Derived.Test.YtblmginpolckoaaFwT
import Derived.Test.YtblmginpolckoaaBuffer
namespace Go.Proofs.Ytblmginpolckoaa.rowFnExactBufferOf
open Go Go.ChangeShapes Go.WideShapes Go.ChangeAt Go.RowKit Go.Proofs.Ytblmginpolckoaa Go.Proofs.Ytblmginpolckoaa.Fw

theorem own : ownKnob Try.prog.godebug = none := by kernel_rfl
theorem laid : laidOutB Try.prog = true := by kernel_rfl
theorem shapes : HasAll Try.prog Try.f12.params.toList [.sl (.flt .f32), .flt .f32] := by
  rw [Try.params12]
  exact ⟨(.sl (e := 43) (by kernel_rfl) (by kernel_rfl) (by decide) (.flt (by kernel_rfl))), (.flt (by kernel_rfl)), trivial⟩
theorem reads : ∀ t ∈ Try.f12.params.toList, Try.prog.readableRec t = true ∧ t < Try.prog.types.size := by
  rw [Try.params12]
  exact List.forall_mem_cons.2 ⟨⟨by kernel_rfl, of_decide_eq_true (by kernel_rfl)⟩, List.forall_mem_cons.2 ⟨⟨by kernel_rfl, of_decide_eq_true (by kernel_rfl)⟩, (fun _ h => by cases h)⟩⟩
theorem told {H : Type} (ds : List (DataW H)) (h : ds.length = Try.f12.params.size) : Rows.fnExactBufferOfSpec.fn H ds = { results := [.lit (.bool true)], args := ds } := by
  have h : ds.length = 2 := h.trans (by kernel_rfl)
  match ds, h with
  | [_, _], _ => rfl

set_option maxRecDepth 100000 in
theorem lifted (os : Os) (started : os.Started) (H : Type) (enc : TypeId × Value → H) :
    ReturnsInHanded {} Try.checked os 12 .any (Rows.fnExactBufferOfSpec.pre6 enc Try.prog Try.f12 Rows.fnExactBufferOfRow.domain false) (Rows.fnExactBufferOfSpec.post enc Try.prog Try.f12 false true false false) := by
  refine returnsInHanded_of_change (C := Try.checked) own started (by kernel_rfl) Try.func12
    (ChangeSpec.witness6 (enc := enc) (C := Try.checked) false ⟨#[], #[.slice none 0 0, .float .f32 0], []⟩ 8 (by kernel_rfl) (by kernel_rfl) (by kernel_rfl) (by kernel_rfl)) ?_
  intro W base args ds gs before hval hW _ _
  exact law_post (laws_FnExactBufferOf_sound FUEL) (fun x hw => FnExactBufferOf_eq fuel_ge x.1 x.2.1 hw.1) Try.func12 (by kernel_rfl) (by kernel_rfl) shapes laid reads (tb := 4) (by kernel_rfl) (by kernel_rfl) rfl told hval hW

theorem proved : Rows.FnExactBufferOfSaid :=
  OpenClaim.holds_of_wide 12 Try.f12 rfl rfl rfl rfl rfl rfl rfl ⟨rfl, rfl, rfl, rfl, rfl⟩ rfl rfl rfl rfl rfl (by kernel_rfl) Try.func12 (by kernel_rfl)
    (of_decide_eq_true (by kernel_rfl)) (by unfold Func.isWrapper; first | (rw [if_pos (by decide +kernel)]; kernel_rfl) | (rw [if_neg (by decide +kernel)]; exact ⟨rfl, rfl⟩))
    (fun os started H enc _ => lifted os started H enc)

end Go.Proofs.Ytblmginpolckoaa.rowFnExactBufferOf
