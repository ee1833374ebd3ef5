/-
  No cell of these rows narrows 'for every input' (looked for: loops, veiled, ifaces, maps, wideKeys, modest, calm, conditions, laid).
  DERIVED. THE GIVEN ROWS OF THIS SEAT. 5 by the template 'for every input the law returns true; each argument reads behind the call as it read before'; 0 by the template 'total and deterministic' (their statements: YtehmdibkccbamaaTotals.lean).
  GIVEN WITH THE SEED: the statements are not yours to turn. If you find one false, say at which input.
  Laid BY PROGRAM, IN A SANDBOX (cutbox-rows.mjs): the forced cells as the released guide's own fill.sh prints them over the translation ddefc7c31805812f… (all of the seat's roots in one cut). By AI agents, Wed Nov 11 2026. No macro, syntax, notation, axiom, sorry.
-/
import Derived.Test.YtehmdibkccbamaaChecked
import GoSem.Claim
import GoSem.ClaimJoined
import GoSem.ClaimMapViews
import Derived.JoinedTies
import Derived.KernelRfl
namespace Go.Proofs.Ytehmdibkccbamaa
/- THE CELL 'sum', in the pinned program and in every row, IS THE sha256 OF THE DUMP (.gsa) THAT YtehmdibkccbamaaProg.lean LOADS. Nothing in Lean hashes anything: it is a label: what it is worth is what the hold of that sum in a sandbox is worth. -/
noncomputable def Try.pinned : Pinned := { name := "ytehmdibkccbamaa", sum := "ddefc7c31805812fdf957b6a04c1044e072dfdc13f84602ed4ede9bcb31a1638", checked := Try.checked }
namespace Rows
def none {H : Type} : Left H := { results := [], args := [] }

/-- 'laws.FnExactMeanTime': WHATEVER THE INPUT: true; the input reads as it did. -/
def fnExactMeanTimeSpec : ChangeSpec := { name := "fnExactMeanTime", fn := fun _ => fun
  | [d1, d2, d3] => { results := [.lit (.bool true)], args := [d1, d2, d3] }
  | _ => none }
def fnExactMeanTimeRow : OpenClaim := { program := "ytehmdibkccbamaa", sum := "ddefc7c31805812fdf957b6a04c1044e072dfdc13f84602ed4ede9bcb31a1638", func := "loop.example/g01389/laws.FnExactMeanTime", spec := "fnExactMeanTime", unfollowed := true, recurses := true, apart := false }
def FnExactMeanTimeSaid : Prop := fnExactMeanTimeRow.holds Try.pinned (OpenSpec.ofChange fnExactMeanTimeSpec)

/-- ITS FALSE NEIGHBOUR: 'it returns false'. Refute it at one input. -/
def fnExactMeanTimeWrong : ChangeSpec := { name := "fnExactMeanTime", fn := fun _ => fun
  | [d1, d2, d3] => { results := [.lit (.bool false)], args := [d1, d2, d3] }
  | _ => none }
def FnExactMeanTimeWrongFalsely : Prop := fnExactMeanTimeRow.holds Try.pinned (OpenSpec.ofChange fnExactMeanTimeWrong)

/-- 'laws.FnExactIsLine': WHATEVER THE INPUT: true; the input reads as it did. -/
def fnExactIsLineSpec : ChangeSpec := { name := "fnExactIsLine", fn := fun _ => fun
  | [d1, d2] => { results := [.lit (.bool true)], args := [d1, d2] }
  | _ => none }
def fnExactIsLineRow : OpenClaim := { program := "ytehmdibkccbamaa", sum := "ddefc7c31805812fdf957b6a04c1044e072dfdc13f84602ed4ede9bcb31a1638", func := "loop.example/g01389/laws.FnExactIsLine", spec := "fnExactIsLine", apart := false }
def FnExactIsLineSaid : Prop := fnExactIsLineRow.holds Try.pinned (OpenSpec.ofChange fnExactIsLineSpec)

/-- ITS FALSE NEIGHBOUR: 'it returns false'. Refute it at one input. -/
def fnExactIsLineWrong : ChangeSpec := { name := "fnExactIsLine", fn := fun _ => fun
  | [d1, d2] => { results := [.lit (.bool false)], args := [d1, d2] }
  | _ => none }
def FnExactIsLineWrongFalsely : Prop := fnExactIsLineRow.holds Try.pinned (OpenSpec.ofChange fnExactIsLineWrong)

/-- 'laws.FnExactLeastHead': WHATEVER THE INPUT: true; the input reads as it did. -/
def fnExactLeastHeadSpec : ChangeSpec := { name := "fnExactLeastHead", fn := fun _ => fun
  | [d1, d2] => { results := [.lit (.bool true)], args := [d1, d2] }
  | _ => none }
def fnExactLeastHeadRow : OpenClaim := { program := "ytehmdibkccbamaa", sum := "ddefc7c31805812fdf957b6a04c1044e072dfdc13f84602ed4ede9bcb31a1638", func := "loop.example/g01389/laws.FnExactLeastHead", spec := "fnExactLeastHead", apart := false }
def FnExactLeastHeadSaid : Prop := fnExactLeastHeadRow.holds Try.pinned (OpenSpec.ofChange fnExactLeastHeadSpec)

/-- ITS FALSE NEIGHBOUR: 'it returns false'. Refute it at one input. -/
def fnExactLeastHeadWrong : ChangeSpec := { name := "fnExactLeastHead", fn := fun _ => fun
  | [d1, d2] => { results := [.lit (.bool false)], args := [d1, d2] }
  | _ => none }
def FnExactLeastHeadWrongFalsely : Prop := fnExactLeastHeadRow.holds Try.pinned (OpenSpec.ofChange fnExactLeastHeadWrong)

/-- 'laws.FnExactLineBound': WHATEVER THE INPUT: true; the input reads as it did. -/
def fnExactLineBoundSpec : ChangeSpec := { name := "fnExactLineBound", fn := fun _ => fun
  | [d1, d2] => { results := [.lit (.bool true)], args := [d1, d2] }
  | _ => none }
def fnExactLineBoundRow : OpenClaim := { program := "ytehmdibkccbamaa", sum := "ddefc7c31805812fdf957b6a04c1044e072dfdc13f84602ed4ede9bcb31a1638", func := "loop.example/g01389/laws.FnExactLineBound", spec := "fnExactLineBound", apart := false }
def FnExactLineBoundSaid : Prop := fnExactLineBoundRow.holds Try.pinned (OpenSpec.ofChange fnExactLineBoundSpec)

/-- ITS FALSE NEIGHBOUR: 'it returns false'. Refute it at one input. -/
def fnExactLineBoundWrong : ChangeSpec := { name := "fnExactLineBound", fn := fun _ => fun
  | [d1, d2] => { results := [.lit (.bool false)], args := [d1, d2] }
  | _ => none }
def FnExactLineBoundWrongFalsely : Prop := fnExactLineBoundRow.holds Try.pinned (OpenSpec.ofChange fnExactLineBoundWrong)

/-- 'laws.FnExactSameArcs': WHATEVER THE INPUT: true; the input reads as it did. -/
def fnExactSameArcsSpec : ChangeSpec := { name := "fnExactSameArcs", fn := fun _ => fun
  | [d1, d2] => { results := [.lit (.bool true)], args := [d1, d2] }
  | _ => none }
def fnExactSameArcsRow : OpenClaim := { program := "ytehmdibkccbamaa", sum := "ddefc7c31805812fdf957b6a04c1044e072dfdc13f84602ed4ede9bcb31a1638", func := "loop.example/g01389/laws.FnExactSameArcs", spec := "fnExactSameArcs", apart := false }
def FnExactSameArcsSaid : Prop := fnExactSameArcsRow.holds Try.pinned (OpenSpec.ofChange fnExactSameArcsSpec)

/-- ITS FALSE NEIGHBOUR: 'it returns false'. Refute it at one input. -/
def fnExactSameArcsWrong : ChangeSpec := { name := "fnExactSameArcs", fn := fun _ => fun
  | [d1, d2] => { results := [.lit (.bool false)], args := [d1, d2] }
  | _ => none }
def FnExactSameArcsWrongFalsely : Prop := fnExactSameArcsRow.holds Try.pinned (OpenSpec.ofChange fnExactSameArcsWrong)

/- THE SECOND FORM. 'bulk': how many values and letters a reading holds, each counted each time it is reached (what is shared counts as often as it is met; a slice's spare places count too). A statement '..UptoSaid' is the law's where the arguments, and the package variables that the reading takes, are together of bulk at most 1048576: NARROWER than '..Said'. Prove '..Said' where nothing that the law and all that it calls make is longer than what came in: it says more and counts as full. Else prove '..UptoSaid'. A law counts once. -/
mutual
def uptoBulk {H : Type} : DataW H → Nat
  | .lit (.string bytes) => bytes.length + 1
  | .lit _ => 1
  | .nil => 1
  | .ptr d => uptoBulk d + 1
  | .slice elems spare => uptoBulkAll elems + uptoBulkAll spare + 1
  | .agg parts => uptoBulkAll parts + 1
  | .iface _ d => uptoBulk d + 1
  | .map entries => uptoBulkEntries entries + 1
  | .held _ => 1
def uptoBulkAll {H : Type} : List (DataW H) → Nat
  | [] => 0
  | d :: r => uptoBulk d + uptoBulkAll r
def uptoBulkEntries {H : Type} : List (Lit × DataW H) → Nat
  | [] => 0
  | x :: r => uptoBulkEntry x + uptoBulkEntries r
def uptoBulkEntry {H : Type} : Lit × DataW H → Nat
  | (.string bytes, d) => bytes.length + uptoBulk d + 1
  | (_, d) => uptoBulk d + 1
 end
def uptoSmall : (H : Type) → List (DataW H) → Bool := fun _ ds => decide (uptoBulkAll ds ≤ 1048576)
def OpenSpec.upto (s : _root_.Go.ChangeSpec) : _root_.Go.OpenSpec := { _root_.Go.OpenSpec.ofChange s with cond := some uptoSmall }

/-- 'laws.FnExactMeanTime', WHERE WHAT IT READS IS OF BULK AT MOST 1048576: true; the input reads as it did. -/
def fnExactMeanTimeUptoRow : OpenClaim := { program := "ytehmdibkccbamaa", sum := "ddefc7c31805812fdf957b6a04c1044e072dfdc13f84602ed4ede9bcb31a1638", func := "loop.example/g01389/laws.FnExactMeanTime", spec := "fnExactMeanTime", unfollowed := true, recurses := true, apart := false, narrowed := true }
def FnExactMeanTimeUptoSaid : Prop := fnExactMeanTimeUptoRow.holds Try.pinned (OpenSpec.upto fnExactMeanTimeSpec)

/-- 'laws.FnExactIsLine', WHERE WHAT IT READS IS OF BULK AT MOST 1048576: true; the input reads as it did. -/
def fnExactIsLineUptoRow : OpenClaim := { program := "ytehmdibkccbamaa", sum := "ddefc7c31805812fdf957b6a04c1044e072dfdc13f84602ed4ede9bcb31a1638", func := "loop.example/g01389/laws.FnExactIsLine", spec := "fnExactIsLine", apart := false, narrowed := true }
def FnExactIsLineUptoSaid : Prop := fnExactIsLineUptoRow.holds Try.pinned (OpenSpec.upto fnExactIsLineSpec)

/-- 'laws.FnExactLeastHead', WHERE WHAT IT READS IS OF BULK AT MOST 1048576: true; the input reads as it did. -/
def fnExactLeastHeadUptoRow : OpenClaim := { program := "ytehmdibkccbamaa", sum := "ddefc7c31805812fdf957b6a04c1044e072dfdc13f84602ed4ede9bcb31a1638", func := "loop.example/g01389/laws.FnExactLeastHead", spec := "fnExactLeastHead", apart := false, narrowed := true }
def FnExactLeastHeadUptoSaid : Prop := fnExactLeastHeadUptoRow.holds Try.pinned (OpenSpec.upto fnExactLeastHeadSpec)

/-- 'laws.FnExactLineBound', WHERE WHAT IT READS IS OF BULK AT MOST 1048576: true; the input reads as it did. -/
def fnExactLineBoundUptoRow : OpenClaim := { program := "ytehmdibkccbamaa", sum := "ddefc7c31805812fdf957b6a04c1044e072dfdc13f84602ed4ede9bcb31a1638", func := "loop.example/g01389/laws.FnExactLineBound", spec := "fnExactLineBound", apart := false, narrowed := true }
def FnExactLineBoundUptoSaid : Prop := fnExactLineBoundUptoRow.holds Try.pinned (OpenSpec.upto fnExactLineBoundSpec)

/-- 'laws.FnExactSameArcs', WHERE WHAT IT READS IS OF BULK AT MOST 1048576: true; the input reads as it did. -/
def fnExactSameArcsUptoRow : OpenClaim := { program := "ytehmdibkccbamaa", sum := "ddefc7c31805812fdf957b6a04c1044e072dfdc13f84602ed4ede9bcb31a1638", func := "loop.example/g01389/laws.FnExactSameArcs", spec := "fnExactSameArcs", apart := false, narrowed := true }
def FnExactSameArcsUptoSaid : Prop := fnExactSameArcsUptoRow.holds Try.pinned (OpenSpec.upto fnExactSameArcsSpec)

end Rows
end Go.Proofs.Ytehmdibkccbamaa
