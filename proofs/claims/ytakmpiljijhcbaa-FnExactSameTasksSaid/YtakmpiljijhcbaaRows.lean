/-
  No cell of these rows narrows 'for every input' (looked for: loops, veiled, ifaces, maps, wideKeys, modest, calm, conditions, laid).
  DERIVED. THE GIVEN ROWS OF THIS SEAT. 12 by the template 'for every input the law returns true; each argument reads behind the call as it read before'; 0 by the template 'total and deterministic' (their statements: YtakmpiljijhcbaaTotals.lean).
  GIVEN WITH THE SEED: the statements are not yours to turn. If you find one false, say at which input.
  Laid BY PROGRAM, IN A SANDBOX (cutbox-rows.mjs): the forced cells as the released guide's own fill.sh prints them over the translation 592a21000bcc4912… (all of the seat's roots in one cut). By AI agents, Wed Nov 11 2026. No macro, syntax, notation, axiom, sorry.
-/
import Derived.Test.YtakmpiljijhcbaaChecked
import GoSem.Claim
import GoSem.ClaimJoined
import GoSem.ClaimMapViews
import Derived.JoinedTies
import Derived.KernelRfl
namespace Go.Proofs.Ytakmpiljijhcbaa
/- THE CELL 'sum', in the pinned program and in every row, IS THE sha256 OF THE DUMP (.gsa) THAT YtakmpiljijhcbaaProg.lean LOADS. Nothing in Lean hashes anything: it is a label: what it is worth is what the hold of that sum in a sandbox is worth. -/
noncomputable def Try.pinned : Pinned := { name := "ytakmpiljijhcbaa", sum := "592a21000bcc49123d237db3e6163c066cdb249ce020f60e7469d05109ed3a90", checked := Try.checked }
namespace Rows
def none {H : Type} : Left H := { results := [], args := [] }

/-- 'laws.FnExactSameArcs': WHATEVER THE INPUT: true; the input reads as it did. -/
def fnExactSameArcsSpec : ChangeSpec := { name := "fnExactSameArcs", fn := fun _ => fun
  | [d1, d2] => { results := [.lit (.bool true)], args := [d1, d2] }
  | _ => none }
def fnExactSameArcsRow : OpenClaim := { program := "ytakmpiljijhcbaa", sum := "592a21000bcc49123d237db3e6163c066cdb249ce020f60e7469d05109ed3a90", func := "loop.example/g01389/laws.FnExactSameArcs", spec := "fnExactSameArcs", apart := false }
def FnExactSameArcsSaid : Prop := fnExactSameArcsRow.holds Try.pinned (OpenSpec.ofChange fnExactSameArcsSpec)

/-- ITS FALSE NEIGHBOUR: 'it returns false'. Refute it at one input. -/
def fnExactSameArcsWrong : ChangeSpec := { name := "fnExactSameArcs", fn := fun _ => fun
  | [d1, d2] => { results := [.lit (.bool false)], args := [d1, d2] }
  | _ => none }
def FnExactSameArcsWrongFalsely : Prop := fnExactSameArcsRow.holds Try.pinned (OpenSpec.ofChange fnExactSameArcsWrong)

/-- 'laws.FnExactSameRules': WHATEVER THE INPUT: true; the input reads as it did. -/
def fnExactSameRulesSpec : ChangeSpec := { name := "fnExactSameRules", fn := fun _ => fun
  | [d1, d2] => { results := [.lit (.bool true)], args := [d1, d2] }
  | _ => none }
def fnExactSameRulesRow : OpenClaim := { program := "ytakmpiljijhcbaa", sum := "592a21000bcc49123d237db3e6163c066cdb249ce020f60e7469d05109ed3a90", func := "loop.example/g01389/laws.FnExactSameRules", spec := "fnExactSameRules", apart := false }
def FnExactSameRulesSaid : Prop := fnExactSameRulesRow.holds Try.pinned (OpenSpec.ofChange fnExactSameRulesSpec)

/-- ITS FALSE NEIGHBOUR: 'it returns false'. Refute it at one input. -/
def fnExactSameRulesWrong : ChangeSpec := { name := "fnExactSameRules", fn := fun _ => fun
  | [d1, d2] => { results := [.lit (.bool false)], args := [d1, d2] }
  | _ => none }
def FnExactSameRulesWrongFalsely : Prop := fnExactSameRulesRow.holds Try.pinned (OpenSpec.ofChange fnExactSameRulesWrong)

/-- 'laws.FnExactAreRoutes': WHATEVER THE INPUT: true; the input reads as it did. -/
def fnExactAreRoutesSpec : ChangeSpec := { name := "fnExactAreRoutes", fn := fun _ => fun
  | [d1, d2] => { results := [.lit (.bool true)], args := [d1, d2] }
  | _ => none }
def fnExactAreRoutesRow : OpenClaim := { program := "ytakmpiljijhcbaa", sum := "592a21000bcc49123d237db3e6163c066cdb249ce020f60e7469d05109ed3a90", func := "loop.example/g01389/laws.FnExactAreRoutes", spec := "fnExactAreRoutes", unfollowed := true, recurses := true, apart := false }
def FnExactAreRoutesSaid : Prop := fnExactAreRoutesRow.holds Try.pinned (OpenSpec.ofChange fnExactAreRoutesSpec)

/-- ITS FALSE NEIGHBOUR: 'it returns false'. Refute it at one input. -/
def fnExactAreRoutesWrong : ChangeSpec := { name := "fnExactAreRoutes", fn := fun _ => fun
  | [d1, d2] => { results := [.lit (.bool false)], args := [d1, d2] }
  | _ => none }
def FnExactAreRoutesWrongFalsely : Prop := fnExactAreRoutesRow.holds Try.pinned (OpenSpec.ofChange fnExactAreRoutesWrong)

/-- 'laws.FnExactLoadsOfLine': WHATEVER THE INPUT: true; the input reads as it did. -/
def fnExactLoadsOfLineSpec : ChangeSpec := { name := "fnExactLoadsOfLine", fn := fun _ => fun
  | [d1, d2] => { results := [.lit (.bool true)], args := [d1, d2] }
  | _ => none }
def fnExactLoadsOfLineRow : OpenClaim := { program := "ytakmpiljijhcbaa", sum := "592a21000bcc49123d237db3e6163c066cdb249ce020f60e7469d05109ed3a90", func := "loop.example/g01389/laws.FnExactLoadsOfLine", spec := "fnExactLoadsOfLine", apart := false }
def FnExactLoadsOfLineSaid : Prop := fnExactLoadsOfLineRow.holds Try.pinned (OpenSpec.ofChange fnExactLoadsOfLineSpec)

/-- ITS FALSE NEIGHBOUR: 'it returns false'. Refute it at one input. -/
def fnExactLoadsOfLineWrong : ChangeSpec := { name := "fnExactLoadsOfLine", fn := fun _ => fun
  | [d1, d2] => { results := [.lit (.bool false)], args := [d1, d2] }
  | _ => none }
def FnExactLoadsOfLineWrongFalsely : Prop := fnExactLoadsOfLineRow.holds Try.pinned (OpenSpec.ofChange fnExactLoadsOfLineWrong)

/-- 'laws.FnExactMixedOrder': WHATEVER THE INPUT: true; the input reads as it did. -/
def fnExactMixedOrderSpec : ChangeSpec := { name := "fnExactMixedOrder", fn := fun _ => fun
  | [d] => { results := [.lit (.bool true)], args := [d] }
  | _ => none }
def fnExactMixedOrderRow : OpenClaim := { program := "ytakmpiljijhcbaa", sum := "592a21000bcc49123d237db3e6163c066cdb249ce020f60e7469d05109ed3a90", func := "loop.example/g01389/laws.FnExactMixedOrder", spec := "fnExactMixedOrder", apart := false }
def FnExactMixedOrderSaid : Prop := fnExactMixedOrderRow.holds Try.pinned (OpenSpec.ofChange fnExactMixedOrderSpec)

/-- ITS FALSE NEIGHBOUR: 'it returns false'. Refute it at one input. -/
def fnExactMixedOrderWrong : ChangeSpec := { name := "fnExactMixedOrder", fn := fun _ => fun
  | [d] => { results := [.lit (.bool false)], args := [d] }
  | _ => none }
def FnExactMixedOrderWrongFalsely : Prop := fnExactMixedOrderRow.holds Try.pinned (OpenSpec.ofChange fnExactMixedOrderWrong)

/-- 'laws.FnExactAreTasks': WHATEVER THE INPUT: true; the input reads as it did. -/
def fnExactAreTasksSpec : ChangeSpec := { name := "fnExactAreTasks", fn := fun _ => fun
  | [d] => { results := [.lit (.bool true)], args := [d] }
  | _ => none }
def fnExactAreTasksRow : OpenClaim := { program := "ytakmpiljijhcbaa", sum := "592a21000bcc49123d237db3e6163c066cdb249ce020f60e7469d05109ed3a90", func := "loop.example/g01389/laws.FnExactAreTasks", spec := "fnExactAreTasks", apart := false }
def FnExactAreTasksSaid : Prop := fnExactAreTasksRow.holds Try.pinned (OpenSpec.ofChange fnExactAreTasksSpec)

/-- ITS FALSE NEIGHBOUR: 'it returns false'. Refute it at one input. -/
def fnExactAreTasksWrong : ChangeSpec := { name := "fnExactAreTasks", fn := fun _ => fun
  | [d] => { results := [.lit (.bool false)], args := [d] }
  | _ => none }
def FnExactAreTasksWrongFalsely : Prop := fnExactAreTasksRow.holds Try.pinned (OpenSpec.ofChange fnExactAreTasksWrong)

/-- 'laws.FnExactNoWaitGaps': WHATEVER THE INPUT: true; the input reads as it did. -/
def fnExactNoWaitGapsSpec : ChangeSpec := { name := "fnExactNoWaitGaps", fn := fun _ => fun
  | [d1, d2] => { results := [.lit (.bool true)], args := [d1, d2] }
  | _ => none }
def fnExactNoWaitGapsRow : OpenClaim := { program := "ytakmpiljijhcbaa", sum := "592a21000bcc49123d237db3e6163c066cdb249ce020f60e7469d05109ed3a90", func := "loop.example/g01389/laws.FnExactNoWaitGaps", spec := "fnExactNoWaitGaps", apart := false }
def FnExactNoWaitGapsSaid : Prop := fnExactNoWaitGapsRow.holds Try.pinned (OpenSpec.ofChange fnExactNoWaitGapsSpec)

/-- ITS FALSE NEIGHBOUR: 'it returns false'. Refute it at one input. -/
def fnExactNoWaitGapsWrong : ChangeSpec := { name := "fnExactNoWaitGaps", fn := fun _ => fun
  | [d1, d2] => { results := [.lit (.bool false)], args := [d1, d2] }
  | _ => none }
def FnExactNoWaitGapsWrongFalsely : Prop := fnExactNoWaitGapsRow.holds Try.pinned (OpenSpec.ofChange fnExactNoWaitGapsWrong)

/-- 'laws.FnExactOpenBound': WHATEVER THE INPUT: true; the input reads as it did. -/
def fnExactOpenBoundSpec : ChangeSpec := { name := "fnExactOpenBound", fn := fun _ => fun
  | [d1, d2] => { results := [.lit (.bool true)], args := [d1, d2] }
  | _ => none }
def fnExactOpenBoundRow : OpenClaim := { program := "ytakmpiljijhcbaa", sum := "592a21000bcc49123d237db3e6163c066cdb249ce020f60e7469d05109ed3a90", func := "loop.example/g01389/laws.FnExactOpenBound", spec := "fnExactOpenBound", apart := false }
def FnExactOpenBoundSaid : Prop := fnExactOpenBoundRow.holds Try.pinned (OpenSpec.ofChange fnExactOpenBoundSpec)

/-- ITS FALSE NEIGHBOUR: 'it returns false'. Refute it at one input. -/
def fnExactOpenBoundWrong : ChangeSpec := { name := "fnExactOpenBound", fn := fun _ => fun
  | [d1, d2] => { results := [.lit (.bool false)], args := [d1, d2] }
  | _ => none }
def FnExactOpenBoundWrongFalsely : Prop := fnExactOpenBoundRow.holds Try.pinned (OpenSpec.ofChange fnExactOpenBoundWrong)

/-- 'laws.FnExactBlockLast': WHATEVER THE INPUT: true; the input reads as it did. -/
def fnExactBlockLastSpec : ChangeSpec := { name := "fnExactBlockLast", fn := fun _ => fun
  | [d1, d2, d3] => { results := [.lit (.bool true)], args := [d1, d2, d3] }
  | _ => none }
def fnExactBlockLastRow : OpenClaim := { program := "ytakmpiljijhcbaa", sum := "592a21000bcc49123d237db3e6163c066cdb249ce020f60e7469d05109ed3a90", func := "loop.example/g01389/laws.FnExactBlockLast", spec := "fnExactBlockLast", apart := false }
def FnExactBlockLastSaid : Prop := fnExactBlockLastRow.holds Try.pinned (OpenSpec.ofChange fnExactBlockLastSpec)

/-- ITS FALSE NEIGHBOUR: 'it returns false'. Refute it at one input. -/
def fnExactBlockLastWrong : ChangeSpec := { name := "fnExactBlockLast", fn := fun _ => fun
  | [d1, d2, d3] => { results := [.lit (.bool false)], args := [d1, d2, d3] }
  | _ => none }
def FnExactBlockLastWrongFalsely : Prop := fnExactBlockLastRow.holds Try.pinned (OpenSpec.ofChange fnExactBlockLastWrong)

/-- 'laws.FnExactSameTasks': WHATEVER THE INPUT: true; the input reads as it did. -/
def fnExactSameTasksSpec : ChangeSpec := { name := "fnExactSameTasks", fn := fun _ => fun
  | [d1, d2] => { results := [.lit (.bool true)], args := [d1, d2] }
  | _ => none }
def fnExactSameTasksRow : OpenClaim := { program := "ytakmpiljijhcbaa", sum := "592a21000bcc49123d237db3e6163c066cdb249ce020f60e7469d05109ed3a90", func := "loop.example/g01389/laws.FnExactSameTasks", spec := "fnExactSameTasks", unfollowed := true, recurses := true, apart := false }
def FnExactSameTasksSaid : Prop := fnExactSameTasksRow.holds Try.pinned (OpenSpec.ofChange fnExactSameTasksSpec)

/-- ITS FALSE NEIGHBOUR: 'it returns false'. Refute it at one input. -/
def fnExactSameTasksWrong : ChangeSpec := { name := "fnExactSameTasks", fn := fun _ => fun
  | [d1, d2] => { results := [.lit (.bool false)], args := [d1, d2] }
  | _ => none }
def FnExactSameTasksWrongFalsely : Prop := fnExactSameTasksRow.holds Try.pinned (OpenSpec.ofChange fnExactSameTasksWrong)

/-- 'laws.FnExactFlowLast': WHATEVER THE INPUT: true; the input reads as it did. -/
def fnExactFlowLastSpec : ChangeSpec := { name := "fnExactFlowLast", fn := fun _ => fun
  | [d1, d2, d3] => { results := [.lit (.bool true)], args := [d1, d2, d3] }
  | _ => none }
def fnExactFlowLastRow : OpenClaim := { program := "ytakmpiljijhcbaa", sum := "592a21000bcc49123d237db3e6163c066cdb249ce020f60e7469d05109ed3a90", func := "loop.example/g01389/laws.FnExactFlowLast", spec := "fnExactFlowLast", apart := false }
def FnExactFlowLastSaid : Prop := fnExactFlowLastRow.holds Try.pinned (OpenSpec.ofChange fnExactFlowLastSpec)

/-- ITS FALSE NEIGHBOUR: 'it returns false'. Refute it at one input. -/
def fnExactFlowLastWrong : ChangeSpec := { name := "fnExactFlowLast", fn := fun _ => fun
  | [d1, d2, d3] => { results := [.lit (.bool false)], args := [d1, d2, d3] }
  | _ => none }
def FnExactFlowLastWrongFalsely : Prop := fnExactFlowLastRow.holds Try.pinned (OpenSpec.ofChange fnExactFlowLastWrong)

/-- 'laws.FnExactFlowEnds': WHATEVER THE INPUT: true; the input reads as it did. -/
def fnExactFlowEndsSpec : ChangeSpec := { name := "fnExactFlowEnds", fn := fun _ => fun
  | [d1, d2, d3] => { results := [.lit (.bool true)], args := [d1, d2, d3] }
  | _ => none }
def fnExactFlowEndsRow : OpenClaim := { program := "ytakmpiljijhcbaa", sum := "592a21000bcc49123d237db3e6163c066cdb249ce020f60e7469d05109ed3a90", func := "loop.example/g01389/laws.FnExactFlowEnds", spec := "fnExactFlowEnds", apart := false }
def FnExactFlowEndsSaid : Prop := fnExactFlowEndsRow.holds Try.pinned (OpenSpec.ofChange fnExactFlowEndsSpec)

/-- ITS FALSE NEIGHBOUR: 'it returns false'. Refute it at one input. -/
def fnExactFlowEndsWrong : ChangeSpec := { name := "fnExactFlowEnds", fn := fun _ => fun
  | [d1, d2, d3] => { results := [.lit (.bool false)], args := [d1, d2, d3] }
  | _ => none }
def FnExactFlowEndsWrongFalsely : Prop := fnExactFlowEndsRow.holds Try.pinned (OpenSpec.ofChange fnExactFlowEndsWrong)

/- THE SECOND FORM. 'bulk': how many values and letters a reading holds, each counted each time it is reached (what is shared counts as often as it is met; a slice's spare places count too). A statement '..UptoSaid' is the law's where the arguments, and the package variables that the reading takes, are together of bulk at most 1048576: NARROWER than '..Said'. Prove '..Said' where nothing that the law and all that it calls make is longer than what came in: it says more and counts as full. Else prove '..UptoSaid'. A law counts once. -/
mutual
def uptoBulk {H : Type} : DataW H → Nat
  | .lit (.string bytes) => bytes.length + 1
  | .lit _ => 1
  | .nil => 1
  | .ptr d => uptoBulk d + 1
  | .slice elems spare => uptoBulkAll elems + uptoBulkAll spare + 1
  | .agg parts => uptoBulkAll parts + 1
  | .iface _ d => uptoBulk d + 1
  | .map entries => uptoBulkEntries entries + 1
  | .held _ => 1
def uptoBulkAll {H : Type} : List (DataW H) → Nat
  | [] => 0
  | d :: r => uptoBulk d + uptoBulkAll r
def uptoBulkEntries {H : Type} : List (Lit × DataW H) → Nat
  | [] => 0
  | x :: r => uptoBulkEntry x + uptoBulkEntries r
def uptoBulkEntry {H : Type} : Lit × DataW H → Nat
  | (.string bytes, d) => bytes.length + uptoBulk d + 1
  | (_, d) => uptoBulk d + 1
 end
def uptoSmall : (H : Type) → List (DataW H) → Bool := fun _ ds => decide (uptoBulkAll ds ≤ 1048576)
def OpenSpec.upto (s : _root_.Go.ChangeSpec) : _root_.Go.OpenSpec := { _root_.Go.OpenSpec.ofChange s with cond := some uptoSmall }

/-- 'laws.FnExactSameArcs', WHERE WHAT IT READS IS OF BULK AT MOST 1048576: true; the input reads as it did. -/
def fnExactSameArcsUptoRow : OpenClaim := { program := "ytakmpiljijhcbaa", sum := "592a21000bcc49123d237db3e6163c066cdb249ce020f60e7469d05109ed3a90", func := "loop.example/g01389/laws.FnExactSameArcs", spec := "fnExactSameArcs", apart := false, narrowed := true }
def FnExactSameArcsUptoSaid : Prop := fnExactSameArcsUptoRow.holds Try.pinned (OpenSpec.upto fnExactSameArcsSpec)

/-- 'laws.FnExactSameRules', WHERE WHAT IT READS IS OF BULK AT MOST 1048576: true; the input reads as it did. -/
def fnExactSameRulesUptoRow : OpenClaim := { program := "ytakmpiljijhcbaa", sum := "592a21000bcc49123d237db3e6163c066cdb249ce020f60e7469d05109ed3a90", func := "loop.example/g01389/laws.FnExactSameRules", spec := "fnExactSameRules", apart := false, narrowed := true }
def FnExactSameRulesUptoSaid : Prop := fnExactSameRulesUptoRow.holds Try.pinned (OpenSpec.upto fnExactSameRulesSpec)

/-- 'laws.FnExactAreRoutes', WHERE WHAT IT READS IS OF BULK AT MOST 1048576: true; the input reads as it did. -/
def fnExactAreRoutesUptoRow : OpenClaim := { program := "ytakmpiljijhcbaa", sum := "592a21000bcc49123d237db3e6163c066cdb249ce020f60e7469d05109ed3a90", func := "loop.example/g01389/laws.FnExactAreRoutes", spec := "fnExactAreRoutes", unfollowed := true, recurses := true, apart := false, narrowed := true }
def FnExactAreRoutesUptoSaid : Prop := fnExactAreRoutesUptoRow.holds Try.pinned (OpenSpec.upto fnExactAreRoutesSpec)

/-- 'laws.FnExactLoadsOfLine', WHERE WHAT IT READS IS OF BULK AT MOST 1048576: true; the input reads as it did. -/
def fnExactLoadsOfLineUptoRow : OpenClaim := { program := "ytakmpiljijhcbaa", sum := "592a21000bcc49123d237db3e6163c066cdb249ce020f60e7469d05109ed3a90", func := "loop.example/g01389/laws.FnExactLoadsOfLine", spec := "fnExactLoadsOfLine", apart := false, narrowed := true }
def FnExactLoadsOfLineUptoSaid : Prop := fnExactLoadsOfLineUptoRow.holds Try.pinned (OpenSpec.upto fnExactLoadsOfLineSpec)

/-- 'laws.FnExactMixedOrder', WHERE WHAT IT READS IS OF BULK AT MOST 1048576: true; the input reads as it did. -/
def fnExactMixedOrderUptoRow : OpenClaim := { program := "ytakmpiljijhcbaa", sum := "592a21000bcc49123d237db3e6163c066cdb249ce020f60e7469d05109ed3a90", func := "loop.example/g01389/laws.FnExactMixedOrder", spec := "fnExactMixedOrder", apart := false, narrowed := true }
def FnExactMixedOrderUptoSaid : Prop := fnExactMixedOrderUptoRow.holds Try.pinned (OpenSpec.upto fnExactMixedOrderSpec)

/-- 'laws.FnExactAreTasks', WHERE WHAT IT READS IS OF BULK AT MOST 1048576: true; the input reads as it did. -/
def fnExactAreTasksUptoRow : OpenClaim := { program := "ytakmpiljijhcbaa", sum := "592a21000bcc49123d237db3e6163c066cdb249ce020f60e7469d05109ed3a90", func := "loop.example/g01389/laws.FnExactAreTasks", spec := "fnExactAreTasks", apart := false, narrowed := true }
def FnExactAreTasksUptoSaid : Prop := fnExactAreTasksUptoRow.holds Try.pinned (OpenSpec.upto fnExactAreTasksSpec)

/-- 'laws.FnExactNoWaitGaps', WHERE WHAT IT READS IS OF BULK AT MOST 1048576: true; the input reads as it did. -/
def fnExactNoWaitGapsUptoRow : OpenClaim := { program := "ytakmpiljijhcbaa", sum := "592a21000bcc49123d237db3e6163c066cdb249ce020f60e7469d05109ed3a90", func := "loop.example/g01389/laws.FnExactNoWaitGaps", spec := "fnExactNoWaitGaps", apart := false, narrowed := true }
def FnExactNoWaitGapsUptoSaid : Prop := fnExactNoWaitGapsUptoRow.holds Try.pinned (OpenSpec.upto fnExactNoWaitGapsSpec)

/-- 'laws.FnExactOpenBound', WHERE WHAT IT READS IS OF BULK AT MOST 1048576: true; the input reads as it did. -/
def fnExactOpenBoundUptoRow : OpenClaim := { program := "ytakmpiljijhcbaa", sum := "592a21000bcc49123d237db3e6163c066cdb249ce020f60e7469d05109ed3a90", func := "loop.example/g01389/laws.FnExactOpenBound", spec := "fnExactOpenBound", apart := false, narrowed := true }
def FnExactOpenBoundUptoSaid : Prop := fnExactOpenBoundUptoRow.holds Try.pinned (OpenSpec.upto fnExactOpenBoundSpec)

/-- 'laws.FnExactBlockLast', WHERE WHAT IT READS IS OF BULK AT MOST 1048576: true; the input reads as it did. -/
def fnExactBlockLastUptoRow : OpenClaim := { program := "ytakmpiljijhcbaa", sum := "592a21000bcc49123d237db3e6163c066cdb249ce020f60e7469d05109ed3a90", func := "loop.example/g01389/laws.FnExactBlockLast", spec := "fnExactBlockLast", apart := false, narrowed := true }
def FnExactBlockLastUptoSaid : Prop := fnExactBlockLastUptoRow.holds Try.pinned (OpenSpec.upto fnExactBlockLastSpec)

/-- 'laws.FnExactSameTasks', WHERE WHAT IT READS IS OF BULK AT MOST 1048576: true; the input reads as it did. -/
def fnExactSameTasksUptoRow : OpenClaim := { program := "ytakmpiljijhcbaa", sum := "592a21000bcc49123d237db3e6163c066cdb249ce020f60e7469d05109ed3a90", func := "loop.example/g01389/laws.FnExactSameTasks", spec := "fnExactSameTasks", unfollowed := true, recurses := true, apart := false, narrowed := true }
def FnExactSameTasksUptoSaid : Prop := fnExactSameTasksUptoRow.holds Try.pinned (OpenSpec.upto fnExactSameTasksSpec)

/-- 'laws.FnExactFlowLast', WHERE WHAT IT READS IS OF BULK AT MOST 1048576: true; the input reads as it did. -/
def fnExactFlowLastUptoRow : OpenClaim := { program := "ytakmpiljijhcbaa", sum := "592a21000bcc49123d237db3e6163c066cdb249ce020f60e7469d05109ed3a90", func := "loop.example/g01389/laws.FnExactFlowLast", spec := "fnExactFlowLast", apart := false, narrowed := true }
def FnExactFlowLastUptoSaid : Prop := fnExactFlowLastUptoRow.holds Try.pinned (OpenSpec.upto fnExactFlowLastSpec)

/-- 'laws.FnExactFlowEnds', WHERE WHAT IT READS IS OF BULK AT MOST 1048576: true; the input reads as it did. -/
def fnExactFlowEndsUptoRow : OpenClaim := { program := "ytakmpiljijhcbaa", sum := "592a21000bcc49123d237db3e6163c066cdb249ce020f60e7469d05109ed3a90", func := "loop.example/g01389/laws.FnExactFlowEnds", spec := "fnExactFlowEnds", apart := false, narrowed := true }
def FnExactFlowEndsUptoSaid : Prop := fnExactFlowEndsUptoRow.holds Try.pinned (OpenSpec.upto fnExactFlowEndsSpec)

end Rows
end Go.Proofs.Ytakmpiljijhcbaa
