/-
  No cell of these rows narrows 'for every input' (looked for: loops, veiled, ifaces, maps, wideKeys, modest, calm, conditions, laid).
  DERIVED. THE GIVEN ROWS OF THIS SEAT. 12 by the template 'for every input the law returns true; each argument reads behind the call as it read before'; 0 by the template 'total and deterministic' (their statements: YtblmginpolckoaaTotals.lean).
  GIVEN WITH THE SEED: the statements are not yours to turn. If you find one false, say at which input.
  Laid BY PROGRAM, IN A SANDBOX (cutbox-rows.mjs): the forced cells as the released guide's own fill.sh prints them over the translation 3d20d1eef707e0fc… (all of the seat's roots in one cut). By AI agents, Wed Nov 11 2026. No macro, syntax, notation, axiom, sorry.
-/
import Derived.Test.YtblmginpolckoaaChecked
import GoSem.Claim
import GoSem.ClaimJoined
import GoSem.ClaimMapViews
import Derived.JoinedTies
import Derived.KernelRfl
namespace Go.Proofs.Ytblmginpolckoaa
/- THE CELL 'sum', in the pinned program and in every row, IS THE sha256 OF THE DUMP (.gsa) THAT YtblmginpolckoaaProg.lean LOADS. Nothing in Lean hashes anything: it is a label: what it is worth is what the hold of that sum in a sandbox is worth. -/
noncomputable def Try.pinned : Pinned := { name := "ytblmginpolckoaa", sum := "3d20d1eef707e0fce03f2d006ea852f9f606897448a91e00316987789d133c01", checked := Try.checked }
namespace Rows
def none {H : Type} : Left H := { results := [], args := [] }

/-- 'laws.FnExactNoWaitLast': WHATEVER THE INPUT: true; the input reads as it did. -/
def fnExactNoWaitLastSpec : ChangeSpec := { name := "fnExactNoWaitLast", fn := fun _ => fun
  | [d1, d2, d3] => { results := [.lit (.bool true)], args := [d1, d2, d3] }
  | _ => none }
def fnExactNoWaitLastRow : OpenClaim := { program := "ytblmginpolckoaa", sum := "3d20d1eef707e0fce03f2d006ea852f9f606897448a91e00316987789d133c01", func := "loop.example/g01389/laws.FnExactNoWaitLast", spec := "fnExactNoWaitLast", apart := false }
def FnExactNoWaitLastSaid : Prop := fnExactNoWaitLastRow.holds Try.pinned (OpenSpec.ofChange fnExactNoWaitLastSpec)

/-- ITS FALSE NEIGHBOUR: 'it returns false'. Refute it at one input. -/
def fnExactNoWaitLastWrong : ChangeSpec := { name := "fnExactNoWaitLast", fn := fun _ => fun
  | [d1, d2, d3] => { results := [.lit (.bool false)], args := [d1, d2, d3] }
  | _ => none }
def FnExactNoWaitLastWrongFalsely : Prop := fnExactNoWaitLastRow.holds Try.pinned (OpenSpec.ofChange fnExactNoWaitLastWrong)

/-- 'laws.FnExactBestFlow': WHATEVER THE INPUT: true; the input reads as it did. -/
def fnExactBestFlowSpec : ChangeSpec := { name := "fnExactBestFlow", fn := fun _ => fun
  | [d1, d2] => { results := [.lit (.bool true)], args := [d1, d2] }
  | _ => none }
def fnExactBestFlowRow : OpenClaim := { program := "ytblmginpolckoaa", sum := "3d20d1eef707e0fce03f2d006ea852f9f606897448a91e00316987789d133c01", func := "loop.example/g01389/laws.FnExactBestFlow", spec := "fnExactBestFlow", unfollowed := true, recurses := true, apart := false }
def FnExactBestFlowSaid : Prop := fnExactBestFlowRow.holds Try.pinned (OpenSpec.ofChange fnExactBestFlowSpec)

/-- ITS FALSE NEIGHBOUR: 'it returns false'. Refute it at one input. -/
def fnExactBestFlowWrong : ChangeSpec := { name := "fnExactBestFlow", fn := fun _ => fun
  | [d1, d2] => { results := [.lit (.bool false)], args := [d1, d2] }
  | _ => none }
def FnExactBestFlowWrongFalsely : Prop := fnExactBestFlowRow.holds Try.pinned (OpenSpec.ofChange fnExactBestFlowWrong)

/-- 'laws.FnExactOpenPlan': WHATEVER THE INPUT: true; the input reads as it did. -/
def fnExactOpenPlanSpec : ChangeSpec := { name := "fnExactOpenPlan", fn := fun _ => fun
  | [d1, d2] => { results := [.lit (.bool true)], args := [d1, d2] }
  | _ => none }
def fnExactOpenPlanRow : OpenClaim := { program := "ytblmginpolckoaa", sum := "3d20d1eef707e0fce03f2d006ea852f9f606897448a91e00316987789d133c01", func := "loop.example/g01389/laws.FnExactOpenPlan", spec := "fnExactOpenPlan", apart := false }
def FnExactOpenPlanSaid : Prop := fnExactOpenPlanRow.holds Try.pinned (OpenSpec.ofChange fnExactOpenPlanSpec)

/-- ITS FALSE NEIGHBOUR: 'it returns false'. Refute it at one input. -/
def fnExactOpenPlanWrong : ChangeSpec := { name := "fnExactOpenPlan", fn := fun _ => fun
  | [d1, d2] => { results := [.lit (.bool false)], args := [d1, d2] }
  | _ => none }
def FnExactOpenPlanWrongFalsely : Prop := fnExactOpenPlanRow.holds Try.pinned (OpenSpec.ofChange fnExactOpenPlanWrong)

/-- 'laws.FnExactLineStations': WHATEVER THE INPUT: true; the input reads as it did. -/
def fnExactLineStationsSpec : ChangeSpec := { name := "fnExactLineStations", fn := fun _ => fun
  | [d1, d2, d3] => { results := [.lit (.bool true)], args := [d1, d2, d3] }
  | _ => none }
def fnExactLineStationsRow : OpenClaim := { program := "ytblmginpolckoaa", sum := "3d20d1eef707e0fce03f2d006ea852f9f606897448a91e00316987789d133c01", func := "loop.example/g01389/laws.FnExactLineStations", spec := "fnExactLineStations", apart := false }
def FnExactLineStationsSaid : Prop := fnExactLineStationsRow.holds Try.pinned (OpenSpec.ofChange fnExactLineStationsSpec)

/-- ITS FALSE NEIGHBOUR: 'it returns false'. Refute it at one input. -/
def fnExactLineStationsWrong : ChangeSpec := { name := "fnExactLineStations", fn := fun _ => fun
  | [d1, d2, d3] => { results := [.lit (.bool false)], args := [d1, d2, d3] }
  | _ => none }
def FnExactLineStationsWrongFalsely : Prop := fnExactLineStationsRow.holds Try.pinned (OpenSpec.ofChange fnExactLineStationsWrong)

/-- 'laws.FnExactTwoOrder': WHATEVER THE INPUT: true; the input reads as it did. -/
def fnExactTwoOrderSpec : ChangeSpec := { name := "fnExactTwoOrder", fn := fun _ => fun
  | [d] => { results := [.lit (.bool true)], args := [d] }
  | _ => none }
def fnExactTwoOrderRow : OpenClaim := { program := "ytblmginpolckoaa", sum := "3d20d1eef707e0fce03f2d006ea852f9f606897448a91e00316987789d133c01", func := "loop.example/g01389/laws.FnExactTwoOrder", spec := "fnExactTwoOrder", unfollowed := true, recurses := true, apart := false }
def FnExactTwoOrderSaid : Prop := fnExactTwoOrderRow.holds Try.pinned (OpenSpec.ofChange fnExactTwoOrderSpec)

/-- ITS FALSE NEIGHBOUR: 'it returns false'. Refute it at one input. -/
def fnExactTwoOrderWrong : ChangeSpec := { name := "fnExactTwoOrder", fn := fun _ => fun
  | [d] => { results := [.lit (.bool false)], args := [d] }
  | _ => none }
def FnExactTwoOrderWrongFalsely : Prop := fnExactTwoOrderRow.holds Try.pinned (OpenSpec.ofChange fnExactTwoOrderWrong)

/-- 'laws.FnExactAreRoutes': WHATEVER THE INPUT: true; the input reads as it did. -/
def fnExactAreRoutesSpec : ChangeSpec := { name := "fnExactAreRoutes", fn := fun _ => fun
  | [d1, d2] => { results := [.lit (.bool true)], args := [d1, d2] }
  | _ => none }
def fnExactAreRoutesRow : OpenClaim := { program := "ytblmginpolckoaa", sum := "3d20d1eef707e0fce03f2d006ea852f9f606897448a91e00316987789d133c01", func := "loop.example/g01389/laws.FnExactAreRoutes", spec := "fnExactAreRoutes", unfollowed := true, recurses := true, apart := false }
def FnExactAreRoutesSaid : Prop := fnExactAreRoutesRow.holds Try.pinned (OpenSpec.ofChange fnExactAreRoutesSpec)

/-- ITS FALSE NEIGHBOUR: 'it returns false'. Refute it at one input. -/
def fnExactAreRoutesWrong : ChangeSpec := { name := "fnExactAreRoutes", fn := fun _ => fun
  | [d1, d2] => { results := [.lit (.bool false)], args := [d1, d2] }
  | _ => none }
def FnExactAreRoutesWrongFalsely : Prop := fnExactAreRoutesRow.holds Try.pinned (OpenSpec.ofChange fnExactAreRoutesWrong)

/-- 'laws.FnExactIsShopPlan': WHATEVER THE INPUT: true; the input reads as it did. -/
def fnExactIsShopPlanSpec : ChangeSpec := { name := "fnExactIsShopPlan", fn := fun _ => fun
  | [d1, d2, d3, d4] => { results := [.lit (.bool true)], args := [d1, d2, d3, d4] }
  | _ => none }
def fnExactIsShopPlanRow : OpenClaim := { program := "ytblmginpolckoaa", sum := "3d20d1eef707e0fce03f2d006ea852f9f606897448a91e00316987789d133c01", func := "loop.example/g01389/laws.FnExactIsShopPlan", spec := "fnExactIsShopPlan", unfollowed := true, recurses := true, apart := false }
def FnExactIsShopPlanSaid : Prop := fnExactIsShopPlanRow.holds Try.pinned (OpenSpec.ofChange fnExactIsShopPlanSpec)

/-- ITS FALSE NEIGHBOUR: 'it returns false'. Refute it at one input. -/
def fnExactIsShopPlanWrong : ChangeSpec := { name := "fnExactIsShopPlan", fn := fun _ => fun
  | [d1, d2, d3, d4] => { results := [.lit (.bool false)], args := [d1, d2, d3, d4] }
  | _ => none }
def FnExactIsShopPlanWrongFalsely : Prop := fnExactIsShopPlanRow.holds Try.pinned (OpenSpec.ofChange fnExactIsShopPlanWrong)

/-- 'laws.FnExactShopBound': WHATEVER THE INPUT: true; the input reads as it did. -/
def fnExactShopBoundSpec : ChangeSpec := { name := "fnExactShopBound", fn := fun _ => fun
  | [d1, d2, d3] => { results := [.lit (.bool true)], args := [d1, d2, d3] }
  | _ => none }
def fnExactShopBoundRow : OpenClaim := { program := "ytblmginpolckoaa", sum := "3d20d1eef707e0fce03f2d006ea852f9f606897448a91e00316987789d133c01", func := "loop.example/g01389/laws.FnExactShopBound", spec := "fnExactShopBound", unfollowed := true, recurses := true, apart := false }
def FnExactShopBoundSaid : Prop := fnExactShopBoundRow.holds Try.pinned (OpenSpec.ofChange fnExactShopBoundSpec)

/-- ITS FALSE NEIGHBOUR: 'it returns false'. Refute it at one input. -/
def fnExactShopBoundWrong : ChangeSpec := { name := "fnExactShopBound", fn := fun _ => fun
  | [d1, d2, d3] => { results := [.lit (.bool false)], args := [d1, d2, d3] }
  | _ => none }
def FnExactShopBoundWrongFalsely : Prop := fnExactShopBoundRow.holds Try.pinned (OpenSpec.ofChange fnExactShopBoundWrong)

/-- 'laws.FnExactShopStarts': WHATEVER THE INPUT: true; the input reads as it did. -/
def fnExactShopStartsSpec : ChangeSpec := { name := "fnExactShopStarts", fn := fun _ => fun
  | [d1, d2, d3, d4] => { results := [.lit (.bool true)], args := [d1, d2, d3, d4] }
  | _ => none }
def fnExactShopStartsRow : OpenClaim := { program := "ytblmginpolckoaa", sum := "3d20d1eef707e0fce03f2d006ea852f9f606897448a91e00316987789d133c01", func := "loop.example/g01389/laws.FnExactShopStarts", spec := "fnExactShopStarts", unfollowed := true, recurses := true, apart := false }
def FnExactShopStartsSaid : Prop := fnExactShopStartsRow.holds Try.pinned (OpenSpec.ofChange fnExactShopStartsSpec)

/-- ITS FALSE NEIGHBOUR: 'it returns false'. Refute it at one input. -/
def fnExactShopStartsWrong : ChangeSpec := { name := "fnExactShopStarts", fn := fun _ => fun
  | [d1, d2, d3, d4] => { results := [.lit (.bool false)], args := [d1, d2, d3, d4] }
  | _ => none }
def FnExactShopStartsWrongFalsely : Prop := fnExactShopStartsRow.holds Try.pinned (OpenSpec.ofChange fnExactShopStartsWrong)

/-- 'laws.FnExactBufferOf': WHATEVER THE INPUT: true; the input reads as it did. -/
def fnExactBufferOfSpec : ChangeSpec := { name := "fnExactBufferOf", fn := fun _ => fun
  | [d1, d2] => { results := [.lit (.bool true)], args := [d1, d2] }
  | _ => none }
def fnExactBufferOfRow : OpenClaim := { program := "ytblmginpolckoaa", sum := "3d20d1eef707e0fce03f2d006ea852f9f606897448a91e00316987789d133c01", func := "loop.example/g01389/laws.FnExactBufferOf", spec := "fnExactBufferOf", inPlace := ["math.sqrt"], unfollowed := true, recurses := true, apart := false }
def FnExactBufferOfSaid : Prop := fnExactBufferOfRow.holds Try.pinned (OpenSpec.ofChange fnExactBufferOfSpec)

/-- ITS FALSE NEIGHBOUR: 'it returns false'. Refute it at one input. -/
def fnExactBufferOfWrong : ChangeSpec := { name := "fnExactBufferOf", fn := fun _ => fun
  | [d1, d2] => { results := [.lit (.bool false)], args := [d1, d2] }
  | _ => none }
def FnExactBufferOfWrongFalsely : Prop := fnExactBufferOfRow.holds Try.pinned (OpenSpec.ofChange fnExactBufferOfWrong)

/-- 'laws.FnExactMeanTime': WHATEVER THE INPUT: true; the input reads as it did. -/
def fnExactMeanTimeSpec : ChangeSpec := { name := "fnExactMeanTime", fn := fun _ => fun
  | [d1, d2, d3] => { results := [.lit (.bool true)], args := [d1, d2, d3] }
  | _ => none }
def fnExactMeanTimeRow : OpenClaim := { program := "ytblmginpolckoaa", sum := "3d20d1eef707e0fce03f2d006ea852f9f606897448a91e00316987789d133c01", func := "loop.example/g01389/laws.FnExactMeanTime", spec := "fnExactMeanTime", unfollowed := true, recurses := true, apart := false }
def FnExactMeanTimeSaid : Prop := fnExactMeanTimeRow.holds Try.pinned (OpenSpec.ofChange fnExactMeanTimeSpec)

/-- ITS FALSE NEIGHBOUR: 'it returns false'. Refute it at one input. -/
def fnExactMeanTimeWrong : ChangeSpec := { name := "fnExactMeanTime", fn := fun _ => fun
  | [d1, d2, d3] => { results := [.lit (.bool false)], args := [d1, d2, d3] }
  | _ => none }
def FnExactMeanTimeWrongFalsely : Prop := fnExactMeanTimeRow.holds Try.pinned (OpenSpec.ofChange fnExactMeanTimeWrong)

/-- 'laws.FnExactTimeDrawn': WHATEVER THE INPUT: true; the input reads as it did. -/
def fnExactTimeDrawnSpec : ChangeSpec := { name := "fnExactTimeDrawn", fn := fun _ => fun
  | [d1, d2, d3, d4] => { results := [.lit (.bool true)], args := [d1, d2, d3, d4] }
  | _ => none }
def fnExactTimeDrawnRow : OpenClaim := { program := "ytblmginpolckoaa", sum := "3d20d1eef707e0fce03f2d006ea852f9f606897448a91e00316987789d133c01", func := "loop.example/g01389/laws.FnExactTimeDrawn", spec := "fnExactTimeDrawn", inPlace := ["math.sqrt"], unfollowed := true, recurses := true, apart := false }
def FnExactTimeDrawnSaid : Prop := fnExactTimeDrawnRow.holds Try.pinned (OpenSpec.ofChange fnExactTimeDrawnSpec)

/-- ITS FALSE NEIGHBOUR: 'it returns false'. Refute it at one input. -/
def fnExactTimeDrawnWrong : ChangeSpec := { name := "fnExactTimeDrawn", fn := fun _ => fun
  | [d1, d2, d3, d4] => { results := [.lit (.bool false)], args := [d1, d2, d3, d4] }
  | _ => none }
def FnExactTimeDrawnWrongFalsely : Prop := fnExactTimeDrawnRow.holds Try.pinned (OpenSpec.ofChange fnExactTimeDrawnWrong)

/- THE SECOND FORM. 'bulk': how many values and letters a reading holds, each counted each time it is reached (what is shared counts as often as it is met; a slice's spare places count too). A statement '..UptoSaid' is the law's where the arguments, and the package variables that the reading takes, are together of bulk at most 1048576: NARROWER than '..Said'. Prove '..Said' where nothing that the law and all that it calls make is longer than what came in: it says more and counts as full. Else prove '..UptoSaid'. A law counts once. -/
mutual
def uptoBulk {H : Type} : DataW H → Nat
  | .lit (.string bytes) => bytes.length + 1
  | .lit _ => 1
  | .nil => 1
  | .ptr d => uptoBulk d + 1
  | .slice elems spare => uptoBulkAll elems + uptoBulkAll spare + 1
  | .agg parts => uptoBulkAll parts + 1
  | .iface _ d => uptoBulk d + 1
  | .map entries => uptoBulkEntries entries + 1
  | .held _ => 1
def uptoBulkAll {H : Type} : List (DataW H) → Nat
  | [] => 0
  | d :: r => uptoBulk d + uptoBulkAll r
def uptoBulkEntries {H : Type} : List (Lit × DataW H) → Nat
  | [] => 0
  | x :: r => uptoBulkEntry x + uptoBulkEntries r
def uptoBulkEntry {H : Type} : Lit × DataW H → Nat
  | (.string bytes, d) => bytes.length + uptoBulk d + 1
  | (_, d) => uptoBulk d + 1
 end
def uptoSmall : (H : Type) → List (DataW H) → Bool := fun _ ds => decide (uptoBulkAll ds ≤ 1048576)
def OpenSpec.upto (s : _root_.Go.ChangeSpec) : _root_.Go.OpenSpec := { _root_.Go.OpenSpec.ofChange s with cond := some uptoSmall }

/-- 'laws.FnExactNoWaitLast', WHERE WHAT IT READS IS OF BULK AT MOST 1048576: true; the input reads as it did. -/
def fnExactNoWaitLastUptoRow : OpenClaim := { program := "ytblmginpolckoaa", sum := "3d20d1eef707e0fce03f2d006ea852f9f606897448a91e00316987789d133c01", func := "loop.example/g01389/laws.FnExactNoWaitLast", spec := "fnExactNoWaitLast", apart := false, narrowed := true }
def FnExactNoWaitLastUptoSaid : Prop := fnExactNoWaitLastUptoRow.holds Try.pinned (OpenSpec.upto fnExactNoWaitLastSpec)

/-- 'laws.FnExactBestFlow', WHERE WHAT IT READS IS OF BULK AT MOST 1048576: true; the input reads as it did. -/
def fnExactBestFlowUptoRow : OpenClaim := { program := "ytblmginpolckoaa", sum := "3d20d1eef707e0fce03f2d006ea852f9f606897448a91e00316987789d133c01", func := "loop.example/g01389/laws.FnExactBestFlow", spec := "fnExactBestFlow", unfollowed := true, recurses := true, apart := false, narrowed := true }
def FnExactBestFlowUptoSaid : Prop := fnExactBestFlowUptoRow.holds Try.pinned (OpenSpec.upto fnExactBestFlowSpec)

/-- 'laws.FnExactOpenPlan', WHERE WHAT IT READS IS OF BULK AT MOST 1048576: true; the input reads as it did. -/
def fnExactOpenPlanUptoRow : OpenClaim := { program := "ytblmginpolckoaa", sum := "3d20d1eef707e0fce03f2d006ea852f9f606897448a91e00316987789d133c01", func := "loop.example/g01389/laws.FnExactOpenPlan", spec := "fnExactOpenPlan", apart := false, narrowed := true }
def FnExactOpenPlanUptoSaid : Prop := fnExactOpenPlanUptoRow.holds Try.pinned (OpenSpec.upto fnExactOpenPlanSpec)

/-- 'laws.FnExactLineStations', WHERE WHAT IT READS IS OF BULK AT MOST 1048576: true; the input reads as it did. -/
def fnExactLineStationsUptoRow : OpenClaim := { program := "ytblmginpolckoaa", sum := "3d20d1eef707e0fce03f2d006ea852f9f606897448a91e00316987789d133c01", func := "loop.example/g01389/laws.FnExactLineStations", spec := "fnExactLineStations", apart := false, narrowed := true }
def FnExactLineStationsUptoSaid : Prop := fnExactLineStationsUptoRow.holds Try.pinned (OpenSpec.upto fnExactLineStationsSpec)

/-- 'laws.FnExactTwoOrder', WHERE WHAT IT READS IS OF BULK AT MOST 1048576: true; the input reads as it did. -/
def fnExactTwoOrderUptoRow : OpenClaim := { program := "ytblmginpolckoaa", sum := "3d20d1eef707e0fce03f2d006ea852f9f606897448a91e00316987789d133c01", func := "loop.example/g01389/laws.FnExactTwoOrder", spec := "fnExactTwoOrder", unfollowed := true, recurses := true, apart := false, narrowed := true }
def FnExactTwoOrderUptoSaid : Prop := fnExactTwoOrderUptoRow.holds Try.pinned (OpenSpec.upto fnExactTwoOrderSpec)

/-- 'laws.FnExactAreRoutes', WHERE WHAT IT READS IS OF BULK AT MOST 1048576: true; the input reads as it did. -/
def fnExactAreRoutesUptoRow : OpenClaim := { program := "ytblmginpolckoaa", sum := "3d20d1eef707e0fce03f2d006ea852f9f606897448a91e00316987789d133c01", func := "loop.example/g01389/laws.FnExactAreRoutes", spec := "fnExactAreRoutes", unfollowed := true, recurses := true, apart := false, narrowed := true }
def FnExactAreRoutesUptoSaid : Prop := fnExactAreRoutesUptoRow.holds Try.pinned (OpenSpec.upto fnExactAreRoutesSpec)

/-- 'laws.FnExactIsShopPlan', WHERE WHAT IT READS IS OF BULK AT MOST 1048576: true; the input reads as it did. -/
def fnExactIsShopPlanUptoRow : OpenClaim := { program := "ytblmginpolckoaa", sum := "3d20d1eef707e0fce03f2d006ea852f9f606897448a91e00316987789d133c01", func := "loop.example/g01389/laws.FnExactIsShopPlan", spec := "fnExactIsShopPlan", unfollowed := true, recurses := true, apart := false, narrowed := true }
def FnExactIsShopPlanUptoSaid : Prop := fnExactIsShopPlanUptoRow.holds Try.pinned (OpenSpec.upto fnExactIsShopPlanSpec)

/-- 'laws.FnExactShopBound', WHERE WHAT IT READS IS OF BULK AT MOST 1048576: true; the input reads as it did. -/
def fnExactShopBoundUptoRow : OpenClaim := { program := "ytblmginpolckoaa", sum := "3d20d1eef707e0fce03f2d006ea852f9f606897448a91e00316987789d133c01", func := "loop.example/g01389/laws.FnExactShopBound", spec := "fnExactShopBound", unfollowed := true, recurses := true, apart := false, narrowed := true }
def FnExactShopBoundUptoSaid : Prop := fnExactShopBoundUptoRow.holds Try.pinned (OpenSpec.upto fnExactShopBoundSpec)

/-- 'laws.FnExactShopStarts', WHERE WHAT IT READS IS OF BULK AT MOST 1048576: true; the input reads as it did. -/
def fnExactShopStartsUptoRow : OpenClaim := { program := "ytblmginpolckoaa", sum := "3d20d1eef707e0fce03f2d006ea852f9f606897448a91e00316987789d133c01", func := "loop.example/g01389/laws.FnExactShopStarts", spec := "fnExactShopStarts", unfollowed := true, recurses := true, apart := false, narrowed := true }
def FnExactShopStartsUptoSaid : Prop := fnExactShopStartsUptoRow.holds Try.pinned (OpenSpec.upto fnExactShopStartsSpec)

/-- 'laws.FnExactBufferOf', WHERE WHAT IT READS IS OF BULK AT MOST 1048576: true; the input reads as it did. -/
def fnExactBufferOfUptoRow : OpenClaim := { program := "ytblmginpolckoaa", sum := "3d20d1eef707e0fce03f2d006ea852f9f606897448a91e00316987789d133c01", func := "loop.example/g01389/laws.FnExactBufferOf", spec := "fnExactBufferOf", inPlace := ["math.sqrt"], unfollowed := true, recurses := true, apart := false, narrowed := true }
def FnExactBufferOfUptoSaid : Prop := fnExactBufferOfUptoRow.holds Try.pinned (OpenSpec.upto fnExactBufferOfSpec)

/-- 'laws.FnExactMeanTime', WHERE WHAT IT READS IS OF BULK AT MOST 1048576: true; the input reads as it did. -/
def fnExactMeanTimeUptoRow : OpenClaim := { program := "ytblmginpolckoaa", sum := "3d20d1eef707e0fce03f2d006ea852f9f606897448a91e00316987789d133c01", func := "loop.example/g01389/laws.FnExactMeanTime", spec := "fnExactMeanTime", unfollowed := true, recurses := true, apart := false, narrowed := true }
def FnExactMeanTimeUptoSaid : Prop := fnExactMeanTimeUptoRow.holds Try.pinned (OpenSpec.upto fnExactMeanTimeSpec)

/-- 'laws.FnExactTimeDrawn', WHERE WHAT IT READS IS OF BULK AT MOST 1048576: true; the input reads as it did. -/
def fnExactTimeDrawnUptoRow : OpenClaim := { program := "ytblmginpolckoaa", sum := "3d20d1eef707e0fce03f2d006ea852f9f606897448a91e00316987789d133c01", func := "loop.example/g01389/laws.FnExactTimeDrawn", spec := "fnExactTimeDrawn", inPlace := ["math.sqrt"], unfollowed := true, recurses := true, apart := false, narrowed := true }
def FnExactTimeDrawnUptoSaid : Prop := fnExactTimeDrawnUptoRow.holds Try.pinned (OpenSpec.upto fnExactTimeDrawnSpec)

end Rows
end Go.Proofs.Ytblmginpolckoaa
