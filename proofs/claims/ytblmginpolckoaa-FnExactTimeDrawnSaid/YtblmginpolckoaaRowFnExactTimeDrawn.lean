/-
  The law FnExactTimeDrawn answers true at every input and leaves its arguments as they were. No condition.
-/
import Derived.Test.YtblmginpolckoaaRows
import Derived.Test.YtblmginpolckoaaFwT
import Derived.Test.YtblmginpolckoaaTimeD
namespace Go.Proofs.Ytblmginpolckoaa.rowFnExactTimeDrawn
open Go Go.ChangeShapes Go.WideShapes Go.ChangeAt Go.RowKit Go.Proofs.Ytblmginpolckoaa Go.Proofs.Ytblmginpolckoaa.Fw

theorem own : ownKnob Try.prog.godebug = none := by kernel_rfl
theorem laid : laidOutB Try.prog = true := by kernel_rfl
theorem shapes : HasAll Try.prog Try.f14.params.toList [.flt .f32, .flt .f32, .flt .f32, .int .i64] := by
  rw [Try.params14]
  exact ⟨(.flt (by kernel_rfl)), (.flt (by kernel_rfl)), (.flt (by kernel_rfl)), (.int (by kernel_rfl)), trivial⟩
theorem reads : ∀ t ∈ Try.f14.params.toList, Try.prog.readableRec t = true ∧ t < Try.prog.types.size := by
  rw [Try.params14]
  exact List.forall_mem_cons.2 ⟨⟨by kernel_rfl, of_decide_eq_true (by kernel_rfl)⟩, List.forall_mem_cons.2 ⟨⟨by kernel_rfl, of_decide_eq_true (by kernel_rfl)⟩, List.forall_mem_cons.2 ⟨⟨by kernel_rfl, of_decide_eq_true (by kernel_rfl)⟩, List.forall_mem_cons.2 ⟨⟨by kernel_rfl, of_decide_eq_true (by kernel_rfl)⟩, (fun _ h => by cases h)⟩⟩⟩⟩
theorem told {H : Type} (ds : List (DataW H)) (h : ds.length = Try.f14.params.size) : Rows.fnExactTimeDrawnSpec.fn H ds = { results := [.lit (.bool true)], args := ds } := by
  have h : ds.length = 4 := h.trans (by kernel_rfl)
  match ds, h with
  | [_, _, _, _], _ => rfl

set_option maxRecDepth 100000 in
theorem lifted (os : Os) (started : os.Started) (H : Type) (enc : TypeId × Value → H) :
    ReturnsInHanded {} Try.checked os 14 .any (Rows.fnExactTimeDrawnSpec.pre6 enc Try.prog Try.f14 Rows.fnExactTimeDrawnRow.domain false) (Rows.fnExactTimeDrawnSpec.post enc Try.prog Try.f14 false true false false) := by
  refine returnsInHanded_of_change (C := Try.checked) own started (by kernel_rfl) Try.func14
    (ChangeSpec.witness6 (enc := enc) (C := Try.checked) false ⟨#[], #[.float .f32 0, .float .f32 0, .float .f32 0, .int .i64 0], []⟩ 8 (by kernel_rfl) (by kernel_rfl) (by kernel_rfl) (by kernel_rfl)) ?_
  intro W base args ds gs before hval hW _ _
  exact law_post (laws_FnExactTimeDrawn_sound FUEL) (fun x _ => FnExactTimeDrawn_eq fuel_ge x.1 x.2.1 x.2.2.1 x.2.2.2.1) Try.func14 (by kernel_rfl) (by kernel_rfl) shapes laid reads (tb := 4) (by kernel_rfl) (by kernel_rfl) rfl told hval hW

theorem proved : Rows.FnExactTimeDrawnSaid :=
  OpenClaim.holds_of_wide 14 Try.f14 rfl rfl rfl rfl rfl rfl rfl ⟨rfl, rfl, rfl, rfl, rfl⟩ rfl rfl rfl rfl rfl (by kernel_rfl) Try.func14 (by kernel_rfl)
    (of_decide_eq_true (by kernel_rfl)) (by unfold Func.isWrapper; first | (rw [if_pos (by decide +kernel)]; kernel_rfl) | (rw [if_neg (by decide +kernel)]; exact ⟨rfl, rfl⟩))
    (fun os started H enc _ => lifted os started H enc)

end Go.Proofs.Ytblmginpolckoaa.rowFnExactTimeDrawn
