/-
  No cell of these rows narrows 'for every input' (looked for: loops, veiled, ifaces, maps, wideKeys, modest, calm, conditions, laid).
  DERIVED. THE GIVEN ROWS OF THIS SEAT. 6 by the template 'for every input the law returns true; each argument reads behind the call as it read before'; 0 by the template 'total and deterministic' (their statements: YtgbahgkfjghidaaTotals.lean).
  GIVEN WITH THE SEED: the statements are not yours to turn. If you find one false, say at which input.
  Laid BY PROGRAM, IN A SANDBOX (cutbox-rows.mjs): the forced cells as the released guide's own fill.sh prints them over the translation 3a281f4380796dcd… (all of the seat's roots in one cut). By AI agents, Wed Nov 11 2026. No macro, syntax, notation, axiom, sorry.
-/
import Derived.Test.YtgbahgkfjghidaaChecked
import GoSem.Claim
import GoSem.ClaimJoined
import GoSem.ClaimMapViews
import Derived.JoinedTies
import Derived.KernelRfl
namespace Go.Proofs.Ytgbahgkfjghidaa
/- THE CELL 'sum', in the pinned program and in every row, IS THE sha256 OF THE DUMP (.gsa) THAT YtgbahgkfjghidaaProg.lean LOADS. Nothing in Lean hashes anything: it is a label: what it is worth is what the hold of that sum in a sandbox is worth. -/
noncomputable def Try.pinned : Pinned := { name := "ytgbahgkfjghidaa", sum := "3a281f4380796dcdaa116c219eb3a353abad5973b718ab021ba36a31a07bd841", checked := Try.checked }
namespace Rows
def none {H : Type} : Left H := { results := [], args := [] }

/-- 'laws.FnExactAreArcs': WHATEVER THE INPUT: true; the input reads as it did. -/
def fnExactAreArcsSpec : ChangeSpec := { name := "fnExactAreArcs", fn := fun _ => fun
  | [d1, d2] => { results := [.lit (.bool true)], args := [d1, d2] }
  | _ => none }
def fnExactAreArcsRow : OpenClaim := { program := "ytgbahgkfjghidaa", sum := "3a281f4380796dcdaa116c219eb3a353abad5973b718ab021ba36a31a07bd841", func := "loop.example/g01389/laws.FnExactAreArcs", spec := "fnExactAreArcs", apart := false }
def FnExactAreArcsSaid : Prop := fnExactAreArcsRow.holds Try.pinned (OpenSpec.ofChange fnExactAreArcsSpec)

/-- ITS FALSE NEIGHBOUR: 'it returns false'. Refute it at one input. -/
def fnExactAreArcsWrong : ChangeSpec := { name := "fnExactAreArcs", fn := fun _ => fun
  | [d1, d2] => { results := [.lit (.bool false)], args := [d1, d2] }
  | _ => none }
def FnExactAreArcsWrongFalsely : Prop := fnExactAreArcsRow.holds Try.pinned (OpenSpec.ofChange fnExactAreArcsWrong)

/-- 'laws.FnExactIsOpenPlan': WHATEVER THE INPUT: true; the input reads as it did. -/
def fnExactIsOpenPlanSpec : ChangeSpec := { name := "fnExactIsOpenPlan", fn := fun _ => fun
  | [d1, d2, d3] => { results := [.lit (.bool true)], args := [d1, d2, d3] }
  | _ => none }
def fnExactIsOpenPlanRow : OpenClaim := { program := "ytgbahgkfjghidaa", sum := "3a281f4380796dcdaa116c219eb3a353abad5973b718ab021ba36a31a07bd841", func := "loop.example/g01389/laws.FnExactIsOpenPlan", spec := "fnExactIsOpenPlan", apart := false }
def FnExactIsOpenPlanSaid : Prop := fnExactIsOpenPlanRow.holds Try.pinned (OpenSpec.ofChange fnExactIsOpenPlanSpec)

/-- ITS FALSE NEIGHBOUR: 'it returns false'. Refute it at one input. -/
def fnExactIsOpenPlanWrong : ChangeSpec := { name := "fnExactIsOpenPlan", fn := fun _ => fun
  | [d1, d2, d3] => { results := [.lit (.bool false)], args := [d1, d2, d3] }
  | _ => none }
def FnExactIsOpenPlanWrongFalsely : Prop := fnExactIsOpenPlanRow.holds Try.pinned (OpenSpec.ofChange fnExactIsOpenPlanWrong)

/-- 'laws.FnExactMixedGap': WHATEVER THE INPUT: true; the input reads as it did. -/
def fnExactMixedGapSpec : ChangeSpec := { name := "fnExactMixedGap", fn := fun _ => fun
  | [d1, d2] => { results := [.lit (.bool true)], args := [d1, d2] }
  | _ => none }
def fnExactMixedGapRow : OpenClaim := { program := "ytgbahgkfjghidaa", sum := "3a281f4380796dcdaa116c219eb3a353abad5973b718ab021ba36a31a07bd841", func := "loop.example/g01389/laws.FnExactMixedGap", spec := "fnExactMixedGap", apart := false }
def FnExactMixedGapSaid : Prop := fnExactMixedGapRow.holds Try.pinned (OpenSpec.ofChange fnExactMixedGapSpec)

/-- ITS FALSE NEIGHBOUR: 'it returns false'. Refute it at one input. -/
def fnExactMixedGapWrong : ChangeSpec := { name := "fnExactMixedGap", fn := fun _ => fun
  | [d1, d2] => { results := [.lit (.bool false)], args := [d1, d2] }
  | _ => none }
def FnExactMixedGapWrongFalsely : Prop := fnExactMixedGapRow.holds Try.pinned (OpenSpec.ofChange fnExactMixedGapWrong)

/-- 'laws.FnExactFlowBound': WHATEVER THE INPUT: true; the input reads as it did. -/
def fnExactFlowBoundSpec : ChangeSpec := { name := "fnExactFlowBound", fn := fun _ => fun
  | [d1, d2] => { results := [.lit (.bool true)], args := [d1, d2] }
  | _ => none }
def fnExactFlowBoundRow : OpenClaim := { program := "ytgbahgkfjghidaa", sum := "3a281f4380796dcdaa116c219eb3a353abad5973b718ab021ba36a31a07bd841", func := "loop.example/g01389/laws.FnExactFlowBound", spec := "fnExactFlowBound", apart := false }
def FnExactFlowBoundSaid : Prop := fnExactFlowBoundRow.holds Try.pinned (OpenSpec.ofChange fnExactFlowBoundSpec)

/-- ITS FALSE NEIGHBOUR: 'it returns false'. Refute it at one input. -/
def fnExactFlowBoundWrong : ChangeSpec := { name := "fnExactFlowBound", fn := fun _ => fun
  | [d1, d2] => { results := [.lit (.bool false)], args := [d1, d2] }
  | _ => none }
def FnExactFlowBoundWrongFalsely : Prop := fnExactFlowBoundRow.holds Try.pinned (OpenSpec.ofChange fnExactFlowBoundWrong)

/-- 'laws.FnExactOpenBound': WHATEVER THE INPUT: true; the input reads as it did. -/
def fnExactOpenBoundSpec : ChangeSpec := { name := "fnExactOpenBound", fn := fun _ => fun
  | [d1, d2] => { results := [.lit (.bool true)], args := [d1, d2] }
  | _ => none }
def fnExactOpenBoundRow : OpenClaim := { program := "ytgbahgkfjghidaa", sum := "3a281f4380796dcdaa116c219eb3a353abad5973b718ab021ba36a31a07bd841", func := "loop.example/g01389/laws.FnExactOpenBound", spec := "fnExactOpenBound", apart := false }
def FnExactOpenBoundSaid : Prop := fnExactOpenBoundRow.holds Try.pinned (OpenSpec.ofChange fnExactOpenBoundSpec)

/-- ITS FALSE NEIGHBOUR: 'it returns false'. Refute it at one input. -/
def fnExactOpenBoundWrong : ChangeSpec := { name := "fnExactOpenBound", fn := fun _ => fun
  | [d1, d2] => { results := [.lit (.bool false)], args := [d1, d2] }
  | _ => none }
def FnExactOpenBoundWrongFalsely : Prop := fnExactOpenBoundRow.holds Try.pinned (OpenSpec.ofChange fnExactOpenBoundWrong)

/-- 'laws.FnExactBlockLast': WHATEVER THE INPUT: true; the input reads as it did. -/
def fnExactBlockLastSpec : ChangeSpec := { name := "fnExactBlockLast", fn := fun _ => fun
  | [d1, d2, d3] => { results := [.lit (.bool true)], args := [d1, d2, d3] }
  | _ => none }
def fnExactBlockLastRow : OpenClaim := { program := "ytgbahgkfjghidaa", sum := "3a281f4380796dcdaa116c219eb3a353abad5973b718ab021ba36a31a07bd841", func := "loop.example/g01389/laws.FnExactBlockLast", spec := "fnExactBlockLast", apart := false }
def FnExactBlockLastSaid : Prop := fnExactBlockLastRow.holds Try.pinned (OpenSpec.ofChange fnExactBlockLastSpec)

/-- ITS FALSE NEIGHBOUR: 'it returns false'. Refute it at one input. -/
def fnExactBlockLastWrong : ChangeSpec := { name := "fnExactBlockLast", fn := fun _ => fun
  | [d1, d2, d3] => { results := [.lit (.bool false)], args := [d1, d2, d3] }
  | _ => none }
def FnExactBlockLastWrongFalsely : Prop := fnExactBlockLastRow.holds Try.pinned (OpenSpec.ofChange fnExactBlockLastWrong)

/- THE SECOND FORM. 'bulk': how many values and letters a reading holds, each counted each time it is reached (what is shared counts as often as it is met; a slice's spare places count too). A statement '..UptoSaid' is the law's where the arguments, and the package variables that the reading takes, are together of bulk at most 1048576: NARROWER than '..Said'. Prove '..Said' where nothing that the law and all that it calls make is longer than what came in: it says more and counts as full. Else prove '..UptoSaid'. A law counts once. -/
mutual
def uptoBulk {H : Type} : DataW H → Nat
  | .lit (.string bytes) => bytes.length + 1
  | .lit _ => 1
  | .nil => 1
  | .ptr d => uptoBulk d + 1
  | .slice elems spare => uptoBulkAll elems + uptoBulkAll spare + 1
  | .agg parts => uptoBulkAll parts + 1
  | .iface _ d => uptoBulk d + 1
  | .map entries => uptoBulkEntries entries + 1
  | .held _ => 1
def uptoBulkAll {H : Type} : List (DataW H) → Nat
  | [] => 0
  | d :: r => uptoBulk d + uptoBulkAll r
def uptoBulkEntries {H : Type} : List (Lit × DataW H) → Nat
  | [] => 0
  | x :: r => uptoBulkEntry x + uptoBulkEntries r
def uptoBulkEntry {H : Type} : Lit × DataW H → Nat
  | (.string bytes, d) => bytes.length + uptoBulk d + 1
  | (_, d) => uptoBulk d + 1
 end
def uptoSmall : (H : Type) → List (DataW H) → Bool := fun _ ds => decide (uptoBulkAll ds ≤ 1048576)
def OpenSpec.upto (s : _root_.Go.ChangeSpec) : _root_.Go.OpenSpec := { _root_.Go.OpenSpec.ofChange s with cond := some uptoSmall }

/-- 'laws.FnExactAreArcs', WHERE WHAT IT READS IS OF BULK AT MOST 1048576: true; the input reads as it did. -/
def fnExactAreArcsUptoRow : OpenClaim := { program := "ytgbahgkfjghidaa", sum := "3a281f4380796dcdaa116c219eb3a353abad5973b718ab021ba36a31a07bd841", func := "loop.example/g01389/laws.FnExactAreArcs", spec := "fnExactAreArcs", apart := false, narrowed := true }
def FnExactAreArcsUptoSaid : Prop := fnExactAreArcsUptoRow.holds Try.pinned (OpenSpec.upto fnExactAreArcsSpec)

/-- 'laws.FnExactIsOpenPlan', WHERE WHAT IT READS IS OF BULK AT MOST 1048576: true; the input reads as it did. -/
def fnExactIsOpenPlanUptoRow : OpenClaim := { program := "ytgbahgkfjghidaa", sum := "3a281f4380796dcdaa116c219eb3a353abad5973b718ab021ba36a31a07bd841", func := "loop.example/g01389/laws.FnExactIsOpenPlan", spec := "fnExactIsOpenPlan", apart := false, narrowed := true }
def FnExactIsOpenPlanUptoSaid : Prop := fnExactIsOpenPlanUptoRow.holds Try.pinned (OpenSpec.upto fnExactIsOpenPlanSpec)

/-- 'laws.FnExactMixedGap', WHERE WHAT IT READS IS OF BULK AT MOST 1048576: true; the input reads as it did. -/
def fnExactMixedGapUptoRow : OpenClaim := { program := "ytgbahgkfjghidaa", sum := "3a281f4380796dcdaa116c219eb3a353abad5973b718ab021ba36a31a07bd841", func := "loop.example/g01389/laws.FnExactMixedGap", spec := "fnExactMixedGap", apart := false, narrowed := true }
def FnExactMixedGapUptoSaid : Prop := fnExactMixedGapUptoRow.holds Try.pinned (OpenSpec.upto fnExactMixedGapSpec)

/-- 'laws.FnExactFlowBound', WHERE WHAT IT READS IS OF BULK AT MOST 1048576: true; the input reads as it did. -/
def fnExactFlowBoundUptoRow : OpenClaim := { program := "ytgbahgkfjghidaa", sum := "3a281f4380796dcdaa116c219eb3a353abad5973b718ab021ba36a31a07bd841", func := "loop.example/g01389/laws.FnExactFlowBound", spec := "fnExactFlowBound", apart := false, narrowed := true }
def FnExactFlowBoundUptoSaid : Prop := fnExactFlowBoundUptoRow.holds Try.pinned (OpenSpec.upto fnExactFlowBoundSpec)

/-- 'laws.FnExactOpenBound', WHERE WHAT IT READS IS OF BULK AT MOST 1048576: true; the input reads as it did. -/
def fnExactOpenBoundUptoRow : OpenClaim := { program := "ytgbahgkfjghidaa", sum := "3a281f4380796dcdaa116c219eb3a353abad5973b718ab021ba36a31a07bd841", func := "loop.example/g01389/laws.FnExactOpenBound", spec := "fnExactOpenBound", apart := false, narrowed := true }
def FnExactOpenBoundUptoSaid : Prop := fnExactOpenBoundUptoRow.holds Try.pinned (OpenSpec.upto fnExactOpenBoundSpec)

/-- 'laws.FnExactBlockLast', WHERE WHAT IT READS IS OF BULK AT MOST 1048576: true; the input reads as it did. -/
def fnExactBlockLastUptoRow : OpenClaim := { program := "ytgbahgkfjghidaa", sum := "3a281f4380796dcdaa116c219eb3a353abad5973b718ab021ba36a31a07bd841", func := "loop.example/g01389/laws.FnExactBlockLast", spec := "fnExactBlockLast", apart := false, narrowed := true }
def FnExactBlockLastUptoSaid : Prop := fnExactBlockLastUptoRow.holds Try.pinned (OpenSpec.upto fnExactBlockLastSpec)

end Rows
end Go.Proofs.Ytgbahgkfjghidaa
