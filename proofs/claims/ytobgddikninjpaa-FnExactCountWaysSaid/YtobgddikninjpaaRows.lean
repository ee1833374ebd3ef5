/-
  No cell of these rows narrows 'for every input' (looked for: loops, veiled, ifaces, maps, wideKeys, modest, calm, conditions, laid).
  DERIVED. THE GIVEN ROWS OF THIS SEAT. 12 by the template 'for every input the law returns true; each argument reads behind the call as it read before'; 0 by the template 'total and deterministic' (their statements: YtobgddikninjpaaTotals.lean).
  GIVEN WITH THE SEED: the statements are not yours to turn. If you find one false, say at which input.
  Laid BY PROGRAM, IN A SANDBOX (cutbox-rows.mjs): the forced cells as the released guide's own fill.sh prints them over the translation 703d3fa2049606bf… (all of the seat's roots in one cut). By AI agents, Wed Nov 11 2026. No macro, syntax, notation, axiom, sorry.
-/
import Derived.Test.YtobgddikninjpaaChecked
import GoSem.Claim
import GoSem.ClaimJoined
import GoSem.ClaimMapViews
import Derived.JoinedTies
import Derived.KernelRfl
namespace Go.Proofs.Ytobgddikninjpaa
/- THE CELL 'sum', in the pinned program and in every row, IS THE sha256 OF THE DUMP (.gsa) THAT YtobgddikninjpaaProg.lean LOADS. Nothing in Lean hashes anything: it is a label: what it is worth is what the hold of that sum in a sandbox is worth. -/
noncomputable def Try.pinned : Pinned := { name := "ytobgddikninjpaa", sum := "703d3fa2049606bf9e54c3e56bfb77aa3b6734b38f06db3962393c8782fd70ad", checked := Try.checked }
namespace Rows
def none {H : Type} : Left H := { results := [], args := [] }

/-- 'laws.FnExactProgressOf': WHATEVER THE INPUT: true; the input reads as it did. -/
def fnExactProgressOfSpec : ChangeSpec := { name := "fnExactProgressOf", fn := fun _ => fun
  | [d1, d2, d3] => { results := [.lit (.bool true)], args := [d1, d2, d3] }
  | _ => none }
def fnExactProgressOfRow : OpenClaim := { program := "ytobgddikninjpaa", sum := "703d3fa2049606bf9e54c3e56bfb77aa3b6734b38f06db3962393c8782fd70ad", func := "loop.example/g01389/laws.FnExactProgressOf", spec := "fnExactProgressOf", apart := false }
def FnExactProgressOfSaid : Prop := fnExactProgressOfRow.holds Try.pinned (OpenSpec.ofChange fnExactProgressOfSpec)

/-- ITS FALSE NEIGHBOUR: 'it returns false'. Refute it at one input. -/
def fnExactProgressOfWrong : ChangeSpec := { name := "fnExactProgressOf", fn := fun _ => fun
  | [d1, d2, d3] => { results := [.lit (.bool false)], args := [d1, d2, d3] }
  | _ => none }
def FnExactProgressOfWrongFalsely : Prop := fnExactProgressOfRow.holds Try.pinned (OpenSpec.ofChange fnExactProgressOfWrong)

/-- 'laws.FnExactBehindOf': WHATEVER THE INPUT: true; the input reads as it did. -/
def fnExactBehindOfSpec : ChangeSpec := { name := "fnExactBehindOf", fn := fun _ => fun
  | [d] => { results := [.lit (.bool true)], args := [d] }
  | _ => none }
def fnExactBehindOfRow : OpenClaim := { program := "ytobgddikninjpaa", sum := "703d3fa2049606bf9e54c3e56bfb77aa3b6734b38f06db3962393c8782fd70ad", func := "loop.example/g01389/laws.FnExactBehindOf", spec := "fnExactBehindOf", apart := false }
def FnExactBehindOfSaid : Prop := fnExactBehindOfRow.holds Try.pinned (OpenSpec.ofChange fnExactBehindOfSpec)

/-- ITS FALSE NEIGHBOUR: 'it returns false'. Refute it at one input. -/
def fnExactBehindOfWrong : ChangeSpec := { name := "fnExactBehindOf", fn := fun _ => fun
  | [d] => { results := [.lit (.bool false)], args := [d] }
  | _ => none }
def FnExactBehindOfWrongFalsely : Prop := fnExactBehindOfRow.holds Try.pinned (OpenSpec.ofChange fnExactBehindOfWrong)

/-- 'laws.FnExactEarlyStarts': WHATEVER THE INPUT: true; the input reads as it did. -/
def fnExactEarlyStartsSpec : ChangeSpec := { name := "fnExactEarlyStarts", fn := fun _ => fun
  | [d] => { results := [.lit (.bool true)], args := [d] }
  | _ => none }
def fnExactEarlyStartsRow : OpenClaim := { program := "ytobgddikninjpaa", sum := "703d3fa2049606bf9e54c3e56bfb77aa3b6734b38f06db3962393c8782fd70ad", func := "loop.example/g01389/laws.FnExactEarlyStarts", spec := "fnExactEarlyStarts", apart := false }
def FnExactEarlyStartsSaid : Prop := fnExactEarlyStartsRow.holds Try.pinned (OpenSpec.ofChange fnExactEarlyStartsSpec)

/-- ITS FALSE NEIGHBOUR: 'it returns false'. Refute it at one input. -/
def fnExactEarlyStartsWrong : ChangeSpec := { name := "fnExactEarlyStarts", fn := fun _ => fun
  | [d] => { results := [.lit (.bool false)], args := [d] }
  | _ => none }
def FnExactEarlyStartsWrongFalsely : Prop := fnExactEarlyStartsRow.holds Try.pinned (OpenSpec.ofChange fnExactEarlyStartsWrong)

/-- 'laws.FnExactCrewUse': WHATEVER THE INPUT: true; the input reads as it did. -/
def fnExactCrewUseSpec : ChangeSpec := { name := "fnExactCrewUse", fn := fun _ => fun
  | [d1, d2] => { results := [.lit (.bool true)], args := [d1, d2] }
  | _ => none }
def fnExactCrewUseRow : OpenClaim := { program := "ytobgddikninjpaa", sum := "703d3fa2049606bf9e54c3e56bfb77aa3b6734b38f06db3962393c8782fd70ad", func := "loop.example/g01389/laws.FnExactCrewUse", spec := "fnExactCrewUse", apart := false }
def FnExactCrewUseSaid : Prop := fnExactCrewUseRow.holds Try.pinned (OpenSpec.ofChange fnExactCrewUseSpec)

/-- ITS FALSE NEIGHBOUR: 'it returns false'. Refute it at one input. -/
def fnExactCrewUseWrong : ChangeSpec := { name := "fnExactCrewUse", fn := fun _ => fun
  | [d1, d2] => { results := [.lit (.bool false)], args := [d1, d2] }
  | _ => none }
def FnExactCrewUseWrongFalsely : Prop := fnExactCrewUseRow.holds Try.pinned (OpenSpec.ofChange fnExactCrewUseWrong)

/-- 'laws.FnExactCountWays': WHATEVER THE INPUT: true; the input reads as it did. -/
def fnExactCountWaysSpec : ChangeSpec := { name := "fnExactCountWays", fn := fun _ => fun
  | [d] => { results := [.lit (.bool true)], args := [d] }
  | _ => none }
def fnExactCountWaysRow : OpenClaim := { program := "ytobgddikninjpaa", sum := "703d3fa2049606bf9e54c3e56bfb77aa3b6734b38f06db3962393c8782fd70ad", func := "loop.example/g01389/laws.FnExactCountWays", spec := "fnExactCountWays", apart := false }
def FnExactCountWaysSaid : Prop := fnExactCountWaysRow.holds Try.pinned (OpenSpec.ofChange fnExactCountWaysSpec)

/-- ITS FALSE NEIGHBOUR: 'it returns false'. Refute it at one input. -/
def fnExactCountWaysWrong : ChangeSpec := { name := "fnExactCountWays", fn := fun _ => fun
  | [d] => { results := [.lit (.bool false)], args := [d] }
  | _ => none }
def FnExactCountWaysWrongFalsely : Prop := fnExactCountWaysRow.holds Try.pinned (OpenSpec.ofChange fnExactCountWaysWrong)

/-- 'laws.FnExactIsCrewPlan': WHATEVER THE INPUT: true; the input reads as it did. -/
def fnExactIsCrewPlanSpec : ChangeSpec := { name := "fnExactIsCrewPlan", fn := fun _ => fun
  | [d1, d2, d3] => { results := [.lit (.bool true)], args := [d1, d2, d3] }
  | _ => none }
def fnExactIsCrewPlanRow : OpenClaim := { program := "ytobgddikninjpaa", sum := "703d3fa2049606bf9e54c3e56bfb77aa3b6734b38f06db3962393c8782fd70ad", func := "loop.example/g01389/laws.FnExactIsCrewPlan", spec := "fnExactIsCrewPlan", apart := false }
def FnExactIsCrewPlanSaid : Prop := fnExactIsCrewPlanRow.holds Try.pinned (OpenSpec.ofChange fnExactIsCrewPlanSpec)

/-- ITS FALSE NEIGHBOUR: 'it returns false'. Refute it at one input. -/
def fnExactIsCrewPlanWrong : ChangeSpec := { name := "fnExactIsCrewPlan", fn := fun _ => fun
  | [d1, d2, d3] => { results := [.lit (.bool false)], args := [d1, d2, d3] }
  | _ => none }
def FnExactIsCrewPlanWrongFalsely : Prop := fnExactIsCrewPlanRow.holds Try.pinned (OpenSpec.ofChange fnExactIsCrewPlanWrong)

/-- 'laws.FnExactLateStarts': WHATEVER THE INPUT: true; the input reads as it did. -/
def fnExactLateStartsSpec : ChangeSpec := { name := "fnExactLateStarts", fn := fun _ => fun
  | [d1, d2] => { results := [.lit (.bool true)], args := [d1, d2] }
  | _ => none }
def fnExactLateStartsRow : OpenClaim := { program := "ytobgddikninjpaa", sum := "703d3fa2049606bf9e54c3e56bfb77aa3b6734b38f06db3962393c8782fd70ad", func := "loop.example/g01389/laws.FnExactLateStarts", spec := "fnExactLateStarts", apart := false }
def FnExactLateStartsSaid : Prop := fnExactLateStartsRow.holds Try.pinned (OpenSpec.ofChange fnExactLateStartsSpec)

/-- ITS FALSE NEIGHBOUR: 'it returns false'. Refute it at one input. -/
def fnExactLateStartsWrong : ChangeSpec := { name := "fnExactLateStarts", fn := fun _ => fun
  | [d1, d2] => { results := [.lit (.bool false)], args := [d1, d2] }
  | _ => none }
def FnExactLateStartsWrongFalsely : Prop := fnExactLateStartsRow.holds Try.pinned (OpenSpec.ofChange fnExactLateStartsWrong)

/-- 'laws.FnExactSlackOf': WHATEVER THE INPUT: true; the input reads as it did. -/
def fnExactSlackOfSpec : ChangeSpec := { name := "fnExactSlackOf", fn := fun _ => fun
  | [d] => { results := [.lit (.bool true)], args := [d] }
  | _ => none }
def fnExactSlackOfRow : OpenClaim := { program := "ytobgddikninjpaa", sum := "703d3fa2049606bf9e54c3e56bfb77aa3b6734b38f06db3962393c8782fd70ad", func := "loop.example/g01389/laws.FnExactSlackOf", spec := "fnExactSlackOf", apart := false }
def FnExactSlackOfSaid : Prop := fnExactSlackOfRow.holds Try.pinned (OpenSpec.ofChange fnExactSlackOfSpec)

/-- ITS FALSE NEIGHBOUR: 'it returns false'. Refute it at one input. -/
def fnExactSlackOfWrong : ChangeSpec := { name := "fnExactSlackOf", fn := fun _ => fun
  | [d] => { results := [.lit (.bool false)], args := [d] }
  | _ => none }
def FnExactSlackOfWrongFalsely : Prop := fnExactSlackOfRow.holds Try.pinned (OpenSpec.ofChange fnExactSlackOfWrong)

/-- 'laws.FnExactFreeSlackOf': WHATEVER THE INPUT: true; the input reads as it did. -/
def fnExactFreeSlackOfSpec : ChangeSpec := { name := "fnExactFreeSlackOf", fn := fun _ => fun
  | [d] => { results := [.lit (.bool true)], args := [d] }
  | _ => none }
def fnExactFreeSlackOfRow : OpenClaim := { program := "ytobgddikninjpaa", sum := "703d3fa2049606bf9e54c3e56bfb77aa3b6734b38f06db3962393c8782fd70ad", func := "loop.example/g01389/laws.FnExactFreeSlackOf", spec := "fnExactFreeSlackOf", apart := false }
def FnExactFreeSlackOfSaid : Prop := fnExactFreeSlackOfRow.holds Try.pinned (OpenSpec.ofChange fnExactFreeSlackOfSpec)

/-- ITS FALSE NEIGHBOUR: 'it returns false'. Refute it at one input. -/
def fnExactFreeSlackOfWrong : ChangeSpec := { name := "fnExactFreeSlackOf", fn := fun _ => fun
  | [d] => { results := [.lit (.bool false)], args := [d] }
  | _ => none }
def FnExactFreeSlackOfWrongFalsely : Prop := fnExactFreeSlackOfRow.holds Try.pinned (OpenSpec.ofChange fnExactFreeSlackOfWrong)

/-- 'laws.FnExactLongestWay': WHATEVER THE INPUT: true; the input reads as it did. -/
def fnExactLongestWaySpec : ChangeSpec := { name := "fnExactLongestWay", fn := fun _ => fun
  | [d] => { results := [.lit (.bool true)], args := [d] }
  | _ => none }
def fnExactLongestWayRow : OpenClaim := { program := "ytobgddikninjpaa", sum := "703d3fa2049606bf9e54c3e56bfb77aa3b6734b38f06db3962393c8782fd70ad", func := "loop.example/g01389/laws.FnExactLongestWay", spec := "fnExactLongestWay", unfollowed := true, recurses := true, apart := false }
def FnExactLongestWaySaid : Prop := fnExactLongestWayRow.holds Try.pinned (OpenSpec.ofChange fnExactLongestWaySpec)

/-- ITS FALSE NEIGHBOUR: 'it returns false'. Refute it at one input. -/
def fnExactLongestWayWrong : ChangeSpec := { name := "fnExactLongestWay", fn := fun _ => fun
  | [d] => { results := [.lit (.bool false)], args := [d] }
  | _ => none }
def FnExactLongestWayWrongFalsely : Prop := fnExactLongestWayRow.holds Try.pinned (OpenSpec.ofChange fnExactLongestWayWrong)

/-- 'laws.FnExactPlanBound': WHATEVER THE INPUT: true; the input reads as it did. -/
def fnExactPlanBoundSpec : ChangeSpec := { name := "fnExactPlanBound", fn := fun _ => fun
  | [d1, d2] => { results := [.lit (.bool true)], args := [d1, d2] }
  | _ => none }
def fnExactPlanBoundRow : OpenClaim := { program := "ytobgddikninjpaa", sum := "703d3fa2049606bf9e54c3e56bfb77aa3b6734b38f06db3962393c8782fd70ad", func := "loop.example/g01389/laws.FnExactPlanBound", spec := "fnExactPlanBound", unfollowed := true, recurses := true, apart := false }
def FnExactPlanBoundSaid : Prop := fnExactPlanBoundRow.holds Try.pinned (OpenSpec.ofChange fnExactPlanBoundSpec)

/-- ITS FALSE NEIGHBOUR: 'it returns false'. Refute it at one input. -/
def fnExactPlanBoundWrong : ChangeSpec := { name := "fnExactPlanBound", fn := fun _ => fun
  | [d1, d2] => { results := [.lit (.bool false)], args := [d1, d2] }
  | _ => none }
def FnExactPlanBoundWrongFalsely : Prop := fnExactPlanBoundRow.holds Try.pinned (OpenSpec.ofChange fnExactPlanBoundWrong)

/-- 'laws.FnExactLevelPlan': WHATEVER THE INPUT: true; the input reads as it did. -/
def fnExactLevelPlanSpec : ChangeSpec := { name := "fnExactLevelPlan", fn := fun _ => fun
  | [d1, d2, d3] => { results := [.lit (.bool true)], args := [d1, d2, d3] }
  | _ => none }
def fnExactLevelPlanRow : OpenClaim := { program := "ytobgddikninjpaa", sum := "703d3fa2049606bf9e54c3e56bfb77aa3b6734b38f06db3962393c8782fd70ad", func := "loop.example/g01389/laws.FnExactLevelPlan", spec := "fnExactLevelPlan", apart := false }
def FnExactLevelPlanSaid : Prop := fnExactLevelPlanRow.holds Try.pinned (OpenSpec.ofChange fnExactLevelPlanSpec)

/-- ITS FALSE NEIGHBOUR: 'it returns false'. Refute it at one input. -/
def fnExactLevelPlanWrong : ChangeSpec := { name := "fnExactLevelPlan", fn := fun _ => fun
  | [d1, d2, d3] => { results := [.lit (.bool false)], args := [d1, d2, d3] }
  | _ => none }
def FnExactLevelPlanWrongFalsely : Prop := fnExactLevelPlanRow.holds Try.pinned (OpenSpec.ofChange fnExactLevelPlanWrong)

/- THE SECOND FORM. 'bulk': how many values and letters a reading holds, each counted each time it is reached (what is shared counts as often as it is met; a slice's spare places count too). A statement '..UptoSaid' is the law's where the arguments, and the package variables that the reading takes, are together of bulk at most 1048576: NARROWER than '..Said'. Prove '..Said' where nothing that the law and all that it calls make is longer than what came in: it says more and counts as full. Else prove '..UptoSaid'. A law counts once. -/
mutual
def uptoBulk {H : Type} : DataW H → Nat
  | .lit (.string bytes) => bytes.length + 1
  | .lit _ => 1
  | .nil => 1
  | .ptr d => uptoBulk d + 1
  | .slice elems spare => uptoBulkAll elems + uptoBulkAll spare + 1
  | .agg parts => uptoBulkAll parts + 1
  | .iface _ d => uptoBulk d + 1
  | .map entries => uptoBulkEntries entries + 1
  | .held _ => 1
def uptoBulkAll {H : Type} : List (DataW H) → Nat
  | [] => 0
  | d :: r => uptoBulk d + uptoBulkAll r
def uptoBulkEntries {H : Type} : List (Lit × DataW H) → Nat
  | [] => 0
  | x :: r => uptoBulkEntry x + uptoBulkEntries r
def uptoBulkEntry {H : Type} : Lit × DataW H → Nat
  | (.string bytes, d) => bytes.length + uptoBulk d + 1
  | (_, d) => uptoBulk d + 1
 end
def uptoSmall : (H : Type) → List (DataW H) → Bool := fun _ ds => decide (uptoBulkAll ds ≤ 1048576)
def OpenSpec.upto (s : _root_.Go.ChangeSpec) : _root_.Go.OpenSpec := { _root_.Go.OpenSpec.ofChange s with cond := some uptoSmall }

/-- 'laws.FnExactProgressOf', WHERE WHAT IT READS IS OF BULK AT MOST 1048576: true; the input reads as it did. -/
def fnExactProgressOfUptoRow : OpenClaim := { program := "ytobgddikninjpaa", sum := "703d3fa2049606bf9e54c3e56bfb77aa3b6734b38f06db3962393c8782fd70ad", func := "loop.example/g01389/laws.FnExactProgressOf", spec := "fnExactProgressOf", apart := false, narrowed := true }
def FnExactProgressOfUptoSaid : Prop := fnExactProgressOfUptoRow.holds Try.pinned (OpenSpec.upto fnExactProgressOfSpec)

/-- 'laws.FnExactBehindOf', WHERE WHAT IT READS IS OF BULK AT MOST 1048576: true; the input reads as it did. -/
def fnExactBehindOfUptoRow : OpenClaim := { program := "ytobgddikninjpaa", sum := "703d3fa2049606bf9e54c3e56bfb77aa3b6734b38f06db3962393c8782fd70ad", func := "loop.example/g01389/laws.FnExactBehindOf", spec := "fnExactBehindOf", apart := false, narrowed := true }
def FnExactBehindOfUptoSaid : Prop := fnExactBehindOfUptoRow.holds Try.pinned (OpenSpec.upto fnExactBehindOfSpec)

/-- 'laws.FnExactEarlyStarts', WHERE WHAT IT READS IS OF BULK AT MOST 1048576: true; the input reads as it did. -/
def fnExactEarlyStartsUptoRow : OpenClaim := { program := "ytobgddikninjpaa", sum := "703d3fa2049606bf9e54c3e56bfb77aa3b6734b38f06db3962393c8782fd70ad", func := "loop.example/g01389/laws.FnExactEarlyStarts", spec := "fnExactEarlyStarts", apart := false, narrowed := true }
def FnExactEarlyStartsUptoSaid : Prop := fnExactEarlyStartsUptoRow.holds Try.pinned (OpenSpec.upto fnExactEarlyStartsSpec)

/-- 'laws.FnExactCrewUse', WHERE WHAT IT READS IS OF BULK AT MOST 1048576: true; the input reads as it did. -/
def fnExactCrewUseUptoRow : OpenClaim := { program := "ytobgddikninjpaa", sum := "703d3fa2049606bf9e54c3e56bfb77aa3b6734b38f06db3962393c8782fd70ad", func := "loop.example/g01389/laws.FnExactCrewUse", spec := "fnExactCrewUse", apart := false, narrowed := true }
def FnExactCrewUseUptoSaid : Prop := fnExactCrewUseUptoRow.holds Try.pinned (OpenSpec.upto fnExactCrewUseSpec)

/-- 'laws.FnExactCountWays', WHERE WHAT IT READS IS OF BULK AT MOST 1048576: true; the input reads as it did. -/
def fnExactCountWaysUptoRow : OpenClaim := { program := "ytobgddikninjpaa", sum := "703d3fa2049606bf9e54c3e56bfb77aa3b6734b38f06db3962393c8782fd70ad", func := "loop.example/g01389/laws.FnExactCountWays", spec := "fnExactCountWays", apart := false, narrowed := true }
def FnExactCountWaysUptoSaid : Prop := fnExactCountWaysUptoRow.holds Try.pinned (OpenSpec.upto fnExactCountWaysSpec)

/-- 'laws.FnExactIsCrewPlan', WHERE WHAT IT READS IS OF BULK AT MOST 1048576: true; the input reads as it did. -/
def fnExactIsCrewPlanUptoRow : OpenClaim := { program := "ytobgddikninjpaa", sum := "703d3fa2049606bf9e54c3e56bfb77aa3b6734b38f06db3962393c8782fd70ad", func := "loop.example/g01389/laws.FnExactIsCrewPlan", spec := "fnExactIsCrewPlan", apart := false, narrowed := true }
def FnExactIsCrewPlanUptoSaid : Prop := fnExactIsCrewPlanUptoRow.holds Try.pinned (OpenSpec.upto fnExactIsCrewPlanSpec)

/-- 'laws.FnExactLateStarts', WHERE WHAT IT READS IS OF BULK AT MOST 1048576: true; the input reads as it did. -/
def fnExactLateStartsUptoRow : OpenClaim := { program := "ytobgddikninjpaa", sum := "703d3fa2049606bf9e54c3e56bfb77aa3b6734b38f06db3962393c8782fd70ad", func := "loop.example/g01389/laws.FnExactLateStarts", spec := "fnExactLateStarts", apart := false, narrowed := true }
def FnExactLateStartsUptoSaid : Prop := fnExactLateStartsUptoRow.holds Try.pinned (OpenSpec.upto fnExactLateStartsSpec)

/-- 'laws.FnExactSlackOf', WHERE WHAT IT READS IS OF BULK AT MOST 1048576: true; the input reads as it did. -/
def fnExactSlackOfUptoRow : OpenClaim := { program := "ytobgddikninjpaa", sum := "703d3fa2049606bf9e54c3e56bfb77aa3b6734b38f06db3962393c8782fd70ad", func := "loop.example/g01389/laws.FnExactSlackOf", spec := "fnExactSlackOf", apart := false, narrowed := true }
def FnExactSlackOfUptoSaid : Prop := fnExactSlackOfUptoRow.holds Try.pinned (OpenSpec.upto fnExactSlackOfSpec)

/-- 'laws.FnExactFreeSlackOf', WHERE WHAT IT READS IS OF BULK AT MOST 1048576: true; the input reads as it did. -/
def fnExactFreeSlackOfUptoRow : OpenClaim := { program := "ytobgddikninjpaa", sum := "703d3fa2049606bf9e54c3e56bfb77aa3b6734b38f06db3962393c8782fd70ad", func := "loop.example/g01389/laws.FnExactFreeSlackOf", spec := "fnExactFreeSlackOf", apart := false, narrowed := true }
def FnExactFreeSlackOfUptoSaid : Prop := fnExactFreeSlackOfUptoRow.holds Try.pinned (OpenSpec.upto fnExactFreeSlackOfSpec)

/-- 'laws.FnExactLongestWay', WHERE WHAT IT READS IS OF BULK AT MOST 1048576: true; the input reads as it did. -/
def fnExactLongestWayUptoRow : OpenClaim := { program := "ytobgddikninjpaa", sum := "703d3fa2049606bf9e54c3e56bfb77aa3b6734b38f06db3962393c8782fd70ad", func := "loop.example/g01389/laws.FnExactLongestWay", spec := "fnExactLongestWay", unfollowed := true, recurses := true, apart := false, narrowed := true }
def FnExactLongestWayUptoSaid : Prop := fnExactLongestWayUptoRow.holds Try.pinned (OpenSpec.upto fnExactLongestWaySpec)

/-- 'laws.FnExactPlanBound', WHERE WHAT IT READS IS OF BULK AT MOST 1048576: true; the input reads as it did. -/
def fnExactPlanBoundUptoRow : OpenClaim := { program := "ytobgddikninjpaa", sum := "703d3fa2049606bf9e54c3e56bfb77aa3b6734b38f06db3962393c8782fd70ad", func := "loop.example/g01389/laws.FnExactPlanBound", spec := "fnExactPlanBound", unfollowed := true, recurses := true, apart := false, narrowed := true }
def FnExactPlanBoundUptoSaid : Prop := fnExactPlanBoundUptoRow.holds Try.pinned (OpenSpec.upto fnExactPlanBoundSpec)

/-- 'laws.FnExactLevelPlan', WHERE WHAT IT READS IS OF BULK AT MOST 1048576: true; the input reads as it did. -/
def fnExactLevelPlanUptoRow : OpenClaim := { program := "ytobgddikninjpaa", sum := "703d3fa2049606bf9e54c3e56bfb77aa3b6734b38f06db3962393c8782fd70ad", func := "loop.example/g01389/laws.FnExactLevelPlan", spec := "fnExactLevelPlan", apart := false, narrowed := true }
def FnExactLevelPlanUptoSaid : Prop := fnExactLevelPlanUptoRow.holds Try.pinned (OpenSpec.upto fnExactLevelPlanSpec)

end Rows
end Go.Proofs.Ytobgddikninjpaa
