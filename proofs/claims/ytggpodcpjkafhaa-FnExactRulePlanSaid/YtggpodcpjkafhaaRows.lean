/-
  No cell of these rows narrows 'for every input' (looked for: loops, veiled, ifaces, maps, wideKeys, modest, calm, conditions, laid).
  DERIVED. THE GIVEN ROWS OF THIS SEAT. 4 by the template 'for every input the law returns true; each argument reads behind the call as it read before'; 0 by the template 'total and deterministic' (their statements: YtggpodcpjkafhaaTotals.lean).
  GIVEN WITH THE SEED: the statements are not yours to turn. If you find one false, say at which input.
  Laid BY PROGRAM, IN A SANDBOX (cutbox-rows.mjs): the forced cells as the released guide's own fill.sh prints them over the translation 10459eb7ab79cca0… (all of the seat's roots in one cut). By AI agents, Wed Nov 11 2026. No macro, syntax, notation, axiom, sorry.
-/
import Derived.Test.YtggpodcpjkafhaaChecked
import GoSem.Claim
import GoSem.ClaimJoined
import GoSem.ClaimMapViews
import Derived.JoinedTies
import Derived.KernelRfl
namespace Go.Proofs.Ytggpodcpjkafhaa
/- THE CELL 'sum', in the pinned program and in every row, IS THE sha256 OF THE DUMP (.gsa) THAT YtggpodcpjkafhaaProg.lean LOADS. Nothing in Lean hashes anything: it is a label: what it is worth is what the hold of that sum in a sandbox is worth. -/
noncomputable def Try.pinned : Pinned := { name := "ytggpodcpjkafhaa", sum := "10459eb7ab79cca0dfdadcfd18a78b6d329af1152ccbaa6058585632b861741d", checked := Try.checked }
namespace Rows
def none {H : Type} : Left H := { results := [], args := [] }

/-- 'laws.FnExactOrderPlan': WHATEVER THE INPUT: true; the input reads as it did. -/
def fnExactOrderPlanSpec : ChangeSpec := { name := "fnExactOrderPlan", fn := fun _ => fun
  | [d1, d2, d3] => { results := [.lit (.bool true)], args := [d1, d2, d3] }
  | _ => none }
def fnExactOrderPlanRow : OpenClaim := { program := "ytggpodcpjkafhaa", sum := "10459eb7ab79cca0dfdadcfd18a78b6d329af1152ccbaa6058585632b861741d", func := "loop.example/g01389/laws.FnExactOrderPlan", spec := "fnExactOrderPlan", unfollowed := true, recurses := true, apart := false }
def FnExactOrderPlanSaid : Prop := fnExactOrderPlanRow.holds Try.pinned (OpenSpec.ofChange fnExactOrderPlanSpec)

/-- ITS FALSE NEIGHBOUR: 'it returns false'. Refute it at one input. -/
def fnExactOrderPlanWrong : ChangeSpec := { name := "fnExactOrderPlan", fn := fun _ => fun
  | [d1, d2, d3] => { results := [.lit (.bool false)], args := [d1, d2, d3] }
  | _ => none }
def FnExactOrderPlanWrongFalsely : Prop := fnExactOrderPlanRow.holds Try.pinned (OpenSpec.ofChange fnExactOrderPlanWrong)

/-- 'laws.FnExactRulePlan': WHATEVER THE INPUT: true; the input reads as it did. -/
def fnExactRulePlanSpec : ChangeSpec := { name := "fnExactRulePlan", fn := fun _ => fun
  | [d1, d2, d3] => { results := [.lit (.bool true)], args := [d1, d2, d3] }
  | _ => none }
def fnExactRulePlanRow : OpenClaim := { program := "ytggpodcpjkafhaa", sum := "10459eb7ab79cca0dfdadcfd18a78b6d329af1152ccbaa6058585632b861741d", func := "loop.example/g01389/laws.FnExactRulePlan", spec := "fnExactRulePlan", unfollowed := true, recurses := true, apart := false }
def FnExactRulePlanSaid : Prop := fnExactRulePlanRow.holds Try.pinned (OpenSpec.ofChange fnExactRulePlanSpec)

/-- ITS FALSE NEIGHBOUR: 'it returns false'. Refute it at one input. -/
def fnExactRulePlanWrong : ChangeSpec := { name := "fnExactRulePlan", fn := fun _ => fun
  | [d1, d2, d3] => { results := [.lit (.bool false)], args := [d1, d2, d3] }
  | _ => none }
def FnExactRulePlanWrongFalsely : Prop := fnExactRulePlanRow.holds Try.pinned (OpenSpec.ofChange fnExactRulePlanWrong)

/-- 'laws.FnExactCrewsShared': WHATEVER THE INPUT: true; the input reads as it did. -/
def fnExactCrewsSharedSpec : ChangeSpec := { name := "fnExactCrewsShared", fn := fun _ => fun
  | [d1, d2, d3] => { results := [.lit (.bool true)], args := [d1, d2, d3] }
  | _ => none }
def fnExactCrewsSharedRow : OpenClaim := { program := "ytggpodcpjkafhaa", sum := "10459eb7ab79cca0dfdadcfd18a78b6d329af1152ccbaa6058585632b861741d", func := "loop.example/g01389/laws.FnExactCrewsShared", spec := "fnExactCrewsShared", unfollowed := true, recurses := true, apart := false }
def FnExactCrewsSharedSaid : Prop := fnExactCrewsSharedRow.holds Try.pinned (OpenSpec.ofChange fnExactCrewsSharedSpec)

/-- ITS FALSE NEIGHBOUR: 'it returns false'. Refute it at one input. -/
def fnExactCrewsSharedWrong : ChangeSpec := { name := "fnExactCrewsShared", fn := fun _ => fun
  | [d1, d2, d3] => { results := [.lit (.bool false)], args := [d1, d2, d3] }
  | _ => none }
def FnExactCrewsSharedWrongFalsely : Prop := fnExactCrewsSharedRow.holds Try.pinned (OpenSpec.ofChange fnExactCrewsSharedWrong)

/-- 'laws.FnCrewsSharedOfAll': WHATEVER THE INPUT: true; the input reads as it did. -/
def fnCrewsSharedOfAllSpec : ChangeSpec := { name := "fnCrewsSharedOfAll", fn := fun _ => fun
  | [d1, d2, d3, d4] => { results := [.lit (.bool true)], args := [d1, d2, d3, d4] }
  | _ => none }
def fnCrewsSharedOfAllRow : OpenClaim := { program := "ytggpodcpjkafhaa", sum := "10459eb7ab79cca0dfdadcfd18a78b6d329af1152ccbaa6058585632b861741d", func := "loop.example/g01389/laws.FnCrewsSharedOfAll", spec := "fnCrewsSharedOfAll", unfollowed := true, recurses := true, apart := false }
def FnCrewsSharedOfAllSaid : Prop := fnCrewsSharedOfAllRow.holds Try.pinned (OpenSpec.ofChange fnCrewsSharedOfAllSpec)

/-- ITS FALSE NEIGHBOUR: 'it returns false'. Refute it at one input. -/
def fnCrewsSharedOfAllWrong : ChangeSpec := { name := "fnCrewsSharedOfAll", fn := fun _ => fun
  | [d1, d2, d3, d4] => { results := [.lit (.bool false)], args := [d1, d2, d3, d4] }
  | _ => none }
def FnCrewsSharedOfAllWrongFalsely : Prop := fnCrewsSharedOfAllRow.holds Try.pinned (OpenSpec.ofChange fnCrewsSharedOfAllWrong)

/- THE SECOND FORM. 'bulk': how many values and letters a reading holds, each counted each time it is reached (what is shared counts as often as it is met; a slice's spare places count too). A statement '..UptoSaid' is the law's where the arguments, and the package variables that the reading takes, are together of bulk at most 1048576: NARROWER than '..Said'. Prove '..Said' where nothing that the law and all that it calls make is longer than what came in: it says more and counts as full. Else prove '..UptoSaid'. A law counts once. -/
mutual
def uptoBulk {H : Type} : DataW H → Nat
  | .lit (.string bytes) => bytes.length + 1
  | .lit _ => 1
  | .nil => 1
  | .ptr d => uptoBulk d + 1
  | .slice elems spare => uptoBulkAll elems + uptoBulkAll spare + 1
  | .agg parts => uptoBulkAll parts + 1
  | .iface _ d => uptoBulk d + 1
  | .map entries => uptoBulkEntries entries + 1
  | .held _ => 1
def uptoBulkAll {H : Type} : List (DataW H) → Nat
  | [] => 0
  | d :: r => uptoBulk d + uptoBulkAll r
def uptoBulkEntries {H : Type} : List (Lit × DataW H) → Nat
  | [] => 0
  | x :: r => uptoBulkEntry x + uptoBulkEntries r
def uptoBulkEntry {H : Type} : Lit × DataW H → Nat
  | (.string bytes, d) => bytes.length + uptoBulk d + 1
  | (_, d) => uptoBulk d + 1
 end
def uptoSmall : (H : Type) → List (DataW H) → Bool := fun _ ds => decide (uptoBulkAll ds ≤ 1048576)
def OpenSpec.upto (s : _root_.Go.ChangeSpec) : _root_.Go.OpenSpec := { _root_.Go.OpenSpec.ofChange s with cond := some uptoSmall }

/-- 'laws.FnExactOrderPlan', WHERE WHAT IT READS IS OF BULK AT MOST 1048576: true; the input reads as it did. -/
def fnExactOrderPlanUptoRow : OpenClaim := { program := "ytggpodcpjkafhaa", sum := "10459eb7ab79cca0dfdadcfd18a78b6d329af1152ccbaa6058585632b861741d", func := "loop.example/g01389/laws.FnExactOrderPlan", spec := "fnExactOrderPlan", unfollowed := true, recurses := true, apart := false, narrowed := true }
def FnExactOrderPlanUptoSaid : Prop := fnExactOrderPlanUptoRow.holds Try.pinned (OpenSpec.upto fnExactOrderPlanSpec)

/-- 'laws.FnExactRulePlan', WHERE WHAT IT READS IS OF BULK AT MOST 1048576: true; the input reads as it did. -/
def fnExactRulePlanUptoRow : OpenClaim := { program := "ytggpodcpjkafhaa", sum := "10459eb7ab79cca0dfdadcfd18a78b6d329af1152ccbaa6058585632b861741d", func := "loop.example/g01389/laws.FnExactRulePlan", spec := "fnExactRulePlan", unfollowed := true, recurses := true, apart := false, narrowed := true }
def FnExactRulePlanUptoSaid : Prop := fnExactRulePlanUptoRow.holds Try.pinned (OpenSpec.upto fnExactRulePlanSpec)

/-- 'laws.FnExactCrewsShared', WHERE WHAT IT READS IS OF BULK AT MOST 1048576: true; the input reads as it did. -/
def fnExactCrewsSharedUptoRow : OpenClaim := { program := "ytggpodcpjkafhaa", sum := "10459eb7ab79cca0dfdadcfd18a78b6d329af1152ccbaa6058585632b861741d", func := "loop.example/g01389/laws.FnExactCrewsShared", spec := "fnExactCrewsShared", unfollowed := true, recurses := true, apart := false, narrowed := true }
def FnExactCrewsSharedUptoSaid : Prop := fnExactCrewsSharedUptoRow.holds Try.pinned (OpenSpec.upto fnExactCrewsSharedSpec)

/-- 'laws.FnCrewsSharedOfAll', WHERE WHAT IT READS IS OF BULK AT MOST 1048576: true; the input reads as it did. -/
def fnCrewsSharedOfAllUptoRow : OpenClaim := { program := "ytggpodcpjkafhaa", sum := "10459eb7ab79cca0dfdadcfd18a78b6d329af1152ccbaa6058585632b861741d", func := "loop.example/g01389/laws.FnCrewsSharedOfAll", spec := "fnCrewsSharedOfAll", unfollowed := true, recurses := true, apart := false, narrowed := true }
def FnCrewsSharedOfAllUptoSaid : Prop := fnCrewsSharedOfAllUptoRow.holds Try.pinned (OpenSpec.upto fnCrewsSharedOfAllSpec)

end Rows
end Go.Proofs.Ytggpodcpjkafhaa
