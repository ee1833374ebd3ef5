/-
  The law FnExactEndsDrawn answers true at every input and leaves its arguments as they were. No condition.
-/
import Derived.Test.YtmdicmdodbndgaaRows
import Derived.Test.YtmdicmdodbndgaaFwT
import Derived.Test.YtmdicmdodbndgaaEdP
namespace Go.Proofs.Ytmdicmdodbndgaa.rowFnExactEndsDrawn
open Go Go.ChangeShapes Go.WideShapes Go.ChangeAt Go.RowKit Go.Proofs.Ytmdicmdodbndgaa Go.Proofs.Ytmdicmdodbndgaa.Fw

theorem own : ownKnob Try.prog.godebug = none := by kernel_rfl
theorem laid : laidOutB Try.prog = true := by kernel_rfl
theorem shapes : HasAll Try.prog Try.f3.params.toList [.sl (.pair (.int .i64) (.pair (.int .i64) (.pair (.sl (.int .i64)) (.sl (.int .i64))))), .flt .f32, .flt .f32, .int .i64, .int .i64] := by
  rw [Try.params3]
  exact ⟨(.sl (e := 40) (by kernel_rfl) (by kernel_rfl) (by decide) (.ss (ss := [(.int .i64), (.int .i64), (.sl (.int .i64)), (.sl (.int .i64))]) (ts := [2, 2, 25, 25]) (by kernel_rfl) (by decide) (by kernel_rfl) (hasAll_get (P := Try.prog) (ts := [2, 2, 25, 25]) (ss := [(.int .i64), (.int .i64), (.sl (.int .i64)), (.sl (.int .i64))]) ⟨(.int (by kernel_rfl)), (.int (by kernel_rfl)), (.sl (e := 2) (by kernel_rfl) (by kernel_rfl) (by decide) (.int (by kernel_rfl))), (.sl (e := 2) (by kernel_rfl) (by kernel_rfl) (by decide) (.int (by kernel_rfl))), trivial⟩))), (.flt (by kernel_rfl)), (.flt (by kernel_rfl)), (.int (by kernel_rfl)), (.int (by kernel_rfl)), trivial⟩
theorem reads : ∀ t ∈ Try.f3.params.toList, Try.prog.readableRec t = true ∧ t < Try.prog.types.size := by
  rw [Try.params3]
  exact List.forall_mem_cons.2 ⟨⟨by kernel_rfl, of_decide_eq_true (by kernel_rfl)⟩, List.forall_mem_cons.2 ⟨⟨by kernel_rfl, of_decide_eq_true (by kernel_rfl)⟩, List.forall_mem_cons.2 ⟨⟨by kernel_rfl, of_decide_eq_true (by kernel_rfl)⟩, List.forall_mem_cons.2 ⟨⟨by kernel_rfl, of_decide_eq_true (by kernel_rfl)⟩, List.forall_mem_cons.2 ⟨⟨by kernel_rfl, of_decide_eq_true (by kernel_rfl)⟩, (fun _ h => by cases h)⟩⟩⟩⟩⟩
theorem told {H : Type} (ds : List (DataW H)) (h : ds.length = Try.f3.params.size) : Rows.fnExactEndsDrawnSpec.fn H ds = { results := [.lit (.bool true)], args := ds } := by
  have h : ds.length = 5 := h.trans (by kernel_rfl)
  match ds, h with
  | [_, _, _, _, _], _ => rfl

set_option maxRecDepth 100000 in
theorem lifted (os : Os) (started : os.Started) (H : Type) (enc : TypeId × Value → H) :
    ReturnsInHanded {} Try.checked os 3 .any (Rows.fnExactEndsDrawnSpec.pre6 enc Try.prog Try.f3 Rows.fnExactEndsDrawnRow.domain false) (Rows.fnExactEndsDrawnSpec.post enc Try.prog Try.f3 false true false false) := by
  refine returnsInHanded_of_change (C := Try.checked) own started (by kernel_rfl) Try.func3
    (ChangeSpec.witness6 (enc := enc) (C := Try.checked) false ⟨#[], #[.slice none 0 0, .float .f32 0, .float .f32 0, .int .i64 0, .int .i64 0], []⟩ 8 (by kernel_rfl) (by kernel_rfl) (by kernel_rfl) (by kernel_rfl)) ?_
  intro W base args ds gs before hval hW _ _
  exact law_post (laws_FnExactEndsDrawn_sound FUEL) (fun x hw => FnExactEndsDrawn_eq fuel_ge x.1 x.2.1 x.2.2.1 x.2.2.2.1 x.2.2.2.2.1 hw.2.1 hw.2.2.1 (small_of hw.1)) Try.func3 (by kernel_rfl) (by kernel_rfl) shapes laid reads (tb := 4) (by kernel_rfl) (by kernel_rfl) rfl told hval hW

theorem proved : Rows.FnExactEndsDrawnSaid :=
  OpenClaim.holds_of_wide 3 Try.f3 rfl rfl rfl rfl rfl rfl rfl ⟨rfl, rfl, rfl, rfl, rfl⟩ rfl rfl rfl rfl rfl (by kernel_rfl) Try.func3 (by kernel_rfl)
    (of_decide_eq_true (by kernel_rfl)) (by unfold Func.isWrapper; first | (rw [if_pos (by decide +kernel)]; kernel_rfl) | (rw [if_neg (by decide +kernel)]; exact ⟨rfl, rfl⟩))
    (fun os started H enc _ => lifted os started H enc)

end Go.Proofs.Ytmdicmdodbndgaa.rowFnExactEndsDrawn
