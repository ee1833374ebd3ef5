/-
  No cell of these rows narrows 'for every input' (looked for: loops, veiled, ifaces, maps, wideKeys, modest, calm, conditions, laid).
  DERIVED. THE GIVEN ROWS OF THIS SEAT. 10 by the template 'for every input the law returns true; each argument reads behind the call as it read before'; 0 by the template 'total and deterministic' (their statements: YtkcdhdnmmpapdaaTotals.lean).
  GIVEN WITH THE SEED: the statements are not yours to turn. If you find one false, say at which input.
  Laid BY PROGRAM, IN A SANDBOX (cutbox-rows.mjs): the forced cells as the released guide's own fill.sh prints them over the translation 95a88ba6d66bbf71… (all of the seat's roots in one cut). By AI agents, Wed Nov 11 2026. No macro, syntax, notation, axiom, sorry.
-/
import Derived.Test.YtkcdhdnmmpapdaaChecked
import GoSem.Claim
import GoSem.ClaimJoined
import GoSem.ClaimMapViews
import Derived.JoinedTies
import Derived.KernelRfl
namespace Go.Proofs.Ytkcdhdnmmpapdaa
/- THE CELL 'sum', in the pinned program and in every row, IS THE sha256 OF THE DUMP (.gsa) THAT YtkcdhdnmmpapdaaProg.lean LOADS. Nothing in Lean hashes anything: it is a label: what it is worth is what the hold of that sum in a sandbox is worth. -/
noncomputable def Try.pinned : Pinned := { name := "ytkcdhdnmmpapdaa", sum := "95a88ba6d66bbf71a524f21e71fc285f3edf9ea8eaadcc9529c33abc3896c317", checked := Try.checked }
namespace Rows
def none {H : Type} : Left H := { results := [], args := [] }

/-- 'laws.FnExactLongestFirst': WHATEVER THE INPUT: true; the input reads as it did. -/
def fnExactLongestFirstSpec : ChangeSpec := { name := "fnExactLongestFirst", fn := fun _ => fun
  | [d1, d2] => { results := [.lit (.bool true)], args := [d1, d2] }
  | _ => none }
def fnExactLongestFirstRow : OpenClaim := { program := "ytkcdhdnmmpapdaa", sum := "95a88ba6d66bbf71a524f21e71fc285f3edf9ea8eaadcc9529c33abc3896c317", func := "loop.example/g01389/laws.FnExactLongestFirst", spec := "fnExactLongestFirst", unfollowed := true, recurses := true, apart := false }
def FnExactLongestFirstSaid : Prop := fnExactLongestFirstRow.holds Try.pinned (OpenSpec.ofChange fnExactLongestFirstSpec)

/-- ITS FALSE NEIGHBOUR: 'it returns false'. Refute it at one input. -/
def fnExactLongestFirstWrong : ChangeSpec := { name := "fnExactLongestFirst", fn := fun _ => fun
  | [d1, d2] => { results := [.lit (.bool false)], args := [d1, d2] }
  | _ => none }
def FnExactLongestFirstWrongFalsely : Prop := fnExactLongestFirstRow.holds Try.pinned (OpenSpec.ofChange fnExactLongestFirstWrong)

/-- 'laws.FnExactRatioOf': WHATEVER THE INPUT: true; the input reads as it did. -/
def fnExactRatioOfSpec : ChangeSpec := { name := "fnExactRatioOf", fn := fun _ => fun
  | [d1, d2] => { results := [.lit (.bool true)], args := [d1, d2] }
  | _ => none }
def fnExactRatioOfRow : OpenClaim := { program := "ytkcdhdnmmpapdaa", sum := "95a88ba6d66bbf71a524f21e71fc285f3edf9ea8eaadcc9529c33abc3896c317", func := "loop.example/g01389/laws.FnExactRatioOf", spec := "fnExactRatioOf", unfollowed := true, recurses := true, apart := false }
def FnExactRatioOfSaid : Prop := fnExactRatioOfRow.holds Try.pinned (OpenSpec.ofChange fnExactRatioOfSpec)

/-- ITS FALSE NEIGHBOUR: 'it returns false'. Refute it at one input. -/
def fnExactRatioOfWrong : ChangeSpec := { name := "fnExactRatioOf", fn := fun _ => fun
  | [d1, d2] => { results := [.lit (.bool false)], args := [d1, d2] }
  | _ => none }
def FnExactRatioOfWrongFalsely : Prop := fnExactRatioOfRow.holds Try.pinned (OpenSpec.ofChange fnExactRatioOfWrong)

/-- 'laws.FnExactLastsShared': WHATEVER THE INPUT: true; the input reads as it did. -/
def fnExactLastsSharedSpec : ChangeSpec := { name := "fnExactLastsShared", fn := fun _ => fun
  | [d1, d2, d3] => { results := [.lit (.bool true)], args := [d1, d2, d3] }
  | _ => none }
def fnExactLastsSharedRow : OpenClaim := { program := "ytkcdhdnmmpapdaa", sum := "95a88ba6d66bbf71a524f21e71fc285f3edf9ea8eaadcc9529c33abc3896c317", func := "loop.example/g01389/laws.FnExactLastsShared", spec := "fnExactLastsShared", unfollowed := true, recurses := true, apart := false }
def FnExactLastsSharedSaid : Prop := fnExactLastsSharedRow.holds Try.pinned (OpenSpec.ofChange fnExactLastsSharedSpec)

/-- ITS FALSE NEIGHBOUR: 'it returns false'. Refute it at one input. -/
def fnExactLastsSharedWrong : ChangeSpec := { name := "fnExactLastsShared", fn := fun _ => fun
  | [d1, d2, d3] => { results := [.lit (.bool false)], args := [d1, d2, d3] }
  | _ => none }
def FnExactLastsSharedWrongFalsely : Prop := fnExactLastsSharedRow.holds Try.pinned (OpenSpec.ofChange fnExactLastsSharedWrong)

/-- 'laws.FnLastsSharedOfAll': WHATEVER THE INPUT: true; the input reads as it did. -/
def fnLastsSharedOfAllSpec : ChangeSpec := { name := "fnLastsSharedOfAll", fn := fun _ => fun
  | [d1, d2, d3, d4] => { results := [.lit (.bool true)], args := [d1, d2, d3, d4] }
  | _ => none }
def fnLastsSharedOfAllRow : OpenClaim := { program := "ytkcdhdnmmpapdaa", sum := "95a88ba6d66bbf71a524f21e71fc285f3edf9ea8eaadcc9529c33abc3896c317", func := "loop.example/g01389/laws.FnLastsSharedOfAll", spec := "fnLastsSharedOfAll", unfollowed := true, recurses := true, apart := false }
def FnLastsSharedOfAllSaid : Prop := fnLastsSharedOfAllRow.holds Try.pinned (OpenSpec.ofChange fnLastsSharedOfAllSpec)

/-- ITS FALSE NEIGHBOUR: 'it returns false'. Refute it at one input. -/
def fnLastsSharedOfAllWrong : ChangeSpec := { name := "fnLastsSharedOfAll", fn := fun _ => fun
  | [d1, d2, d3, d4] => { results := [.lit (.bool false)], args := [d1, d2, d3, d4] }
  | _ => none }
def FnLastsSharedOfAllWrongFalsely : Prop := fnLastsSharedOfAllRow.holds Try.pinned (OpenSpec.ofChange fnLastsSharedOfAllWrong)

/-- 'laws.FnExactInsertOrder': WHATEVER THE INPUT: true; the input reads as it did. -/
def fnExactInsertOrderSpec : ChangeSpec := { name := "fnExactInsertOrder", fn := fun _ => fun
  | [d1, d2] => { results := [.lit (.bool true)], args := [d1, d2] }
  | _ => none }
def fnExactInsertOrderRow : OpenClaim := { program := "ytkcdhdnmmpapdaa", sum := "95a88ba6d66bbf71a524f21e71fc285f3edf9ea8eaadcc9529c33abc3896c317", func := "loop.example/g01389/laws.FnExactInsertOrder", spec := "fnExactInsertOrder", inPlace := ["slices.overlaps[int64]"], unfollowed := true, recurses := true, apart := false }
def FnExactInsertOrderSaid : Prop := fnExactInsertOrderRow.holds Try.pinned (OpenSpec.ofChange fnExactInsertOrderSpec)

/-- ITS FALSE NEIGHBOUR: 'it returns false'. Refute it at one input. -/
def fnExactInsertOrderWrong : ChangeSpec := { name := "fnExactInsertOrder", fn := fun _ => fun
  | [d1, d2] => { results := [.lit (.bool false)], args := [d1, d2] }
  | _ => none }
def FnExactInsertOrderWrongFalsely : Prop := fnExactInsertOrderRow.holds Try.pinned (OpenSpec.ofChange fnExactInsertOrderWrong)

/-- 'laws.FnExactFlowsShared': WHATEVER THE INPUT: true; the input reads as it did. -/
def fnExactFlowsSharedSpec : ChangeSpec := { name := "fnExactFlowsShared", fn := fun _ => fun
  | [d1, d2, d3] => { results := [.lit (.bool true)], args := [d1, d2, d3] }
  | _ => none }
def fnExactFlowsSharedRow : OpenClaim := { program := "ytkcdhdnmmpapdaa", sum := "95a88ba6d66bbf71a524f21e71fc285f3edf9ea8eaadcc9529c33abc3896c317", func := "loop.example/g01389/laws.FnExactFlowsShared", spec := "fnExactFlowsShared", inPlace := ["slices.overlaps[int64]"], unfollowed := true, recurses := true, apart := false }
def FnExactFlowsSharedSaid : Prop := fnExactFlowsSharedRow.holds Try.pinned (OpenSpec.ofChange fnExactFlowsSharedSpec)

/-- ITS FALSE NEIGHBOUR: 'it returns false'. Refute it at one input. -/
def fnExactFlowsSharedWrong : ChangeSpec := { name := "fnExactFlowsShared", fn := fun _ => fun
  | [d1, d2, d3] => { results := [.lit (.bool false)], args := [d1, d2, d3] }
  | _ => none }
def FnExactFlowsSharedWrongFalsely : Prop := fnExactFlowsSharedRow.holds Try.pinned (OpenSpec.ofChange fnExactFlowsSharedWrong)

/-- 'laws.FnFlowsSharedOfAll': WHATEVER THE INPUT: true; the input reads as it did. -/
def fnFlowsSharedOfAllSpec : ChangeSpec := { name := "fnFlowsSharedOfAll", fn := fun _ => fun
  | [d1, d2, d3, d4] => { results := [.lit (.bool true)], args := [d1, d2, d3, d4] }
  | _ => none }
def fnFlowsSharedOfAllRow : OpenClaim := { program := "ytkcdhdnmmpapdaa", sum := "95a88ba6d66bbf71a524f21e71fc285f3edf9ea8eaadcc9529c33abc3896c317", func := "loop.example/g01389/laws.FnFlowsSharedOfAll", spec := "fnFlowsSharedOfAll", inPlace := ["slices.overlaps[int64]"], unfollowed := true, recurses := true, apart := false }
def FnFlowsSharedOfAllSaid : Prop := fnFlowsSharedOfAllRow.holds Try.pinned (OpenSpec.ofChange fnFlowsSharedOfAllSpec)

/-- ITS FALSE NEIGHBOUR: 'it returns false'. Refute it at one input. -/
def fnFlowsSharedOfAllWrong : ChangeSpec := { name := "fnFlowsSharedOfAll", fn := fun _ => fun
  | [d1, d2, d3, d4] => { results := [.lit (.bool false)], args := [d1, d2, d3, d4] }
  | _ => none }
def FnFlowsSharedOfAllWrongFalsely : Prop := fnFlowsSharedOfAllRow.holds Try.pinned (OpenSpec.ofChange fnFlowsSharedOfAllWrong)

/-- 'laws.FnExactOrderBy': WHATEVER THE INPUT: true; the input reads as it did. -/
def fnExactOrderBySpec : ChangeSpec := { name := "fnExactOrderBy", fn := fun _ => fun
  | [d1, d2] => { results := [.lit (.bool true)], args := [d1, d2] }
  | _ => none }
def fnExactOrderByRow : OpenClaim := { program := "ytkcdhdnmmpapdaa", sum := "95a88ba6d66bbf71a524f21e71fc285f3edf9ea8eaadcc9529c33abc3896c317", func := "loop.example/g01389/laws.FnExactOrderBy", spec := "fnExactOrderBy", unfollowed := true, recurses := true, apart := false }
def FnExactOrderBySaid : Prop := fnExactOrderByRow.holds Try.pinned (OpenSpec.ofChange fnExactOrderBySpec)

/-- ITS FALSE NEIGHBOUR: 'it returns false'. Refute it at one input. -/
def fnExactOrderByWrong : ChangeSpec := { name := "fnExactOrderBy", fn := fun _ => fun
  | [d1, d2] => { results := [.lit (.bool false)], args := [d1, d2] }
  | _ => none }
def FnExactOrderByWrongFalsely : Prop := fnExactOrderByRow.holds Try.pinned (OpenSpec.ofChange fnExactOrderByWrong)

/-- 'laws.FnExactFewestLate': WHATEVER THE INPUT: true; the input reads as it did. -/
def fnExactFewestLateSpec : ChangeSpec := { name := "fnExactFewestLate", fn := fun _ => fun
  | [d] => { results := [.lit (.bool true)], args := [d] }
  | _ => none }
def fnExactFewestLateRow : OpenClaim := { program := "ytkcdhdnmmpapdaa", sum := "95a88ba6d66bbf71a524f21e71fc285f3edf9ea8eaadcc9529c33abc3896c317", func := "loop.example/g01389/laws.FnExactFewestLate", spec := "fnExactFewestLate", unfollowed := true, recurses := true, apart := false }
def FnExactFewestLateSaid : Prop := fnExactFewestLateRow.holds Try.pinned (OpenSpec.ofChange fnExactFewestLateSpec)

/-- ITS FALSE NEIGHBOUR: 'it returns false'. Refute it at one input. -/
def fnExactFewestLateWrong : ChangeSpec := { name := "fnExactFewestLate", fn := fun _ => fun
  | [d] => { results := [.lit (.bool false)], args := [d] }
  | _ => none }
def FnExactFewestLateWrongFalsely : Prop := fnExactFewestLateRow.holds Try.pinned (OpenSpec.ofChange fnExactFewestLateWrong)

/-- 'laws.FnExactBestReleased': WHATEVER THE INPUT: true; the input reads as it did. -/
def fnExactBestReleasedSpec : ChangeSpec := { name := "fnExactBestReleased", fn := fun _ => fun
  | [d1, d2] => { results := [.lit (.bool true)], args := [d1, d2] }
  | _ => none }
def fnExactBestReleasedRow : OpenClaim := { program := "ytkcdhdnmmpapdaa", sum := "95a88ba6d66bbf71a524f21e71fc285f3edf9ea8eaadcc9529c33abc3896c317", func := "loop.example/g01389/laws.FnExactBestReleased", spec := "fnExactBestReleased", unfollowed := true, recurses := true, apart := false }
def FnExactBestReleasedSaid : Prop := fnExactBestReleasedRow.holds Try.pinned (OpenSpec.ofChange fnExactBestReleasedSpec)

/-- ITS FALSE NEIGHBOUR: 'it returns false'. Refute it at one input. -/
def fnExactBestReleasedWrong : ChangeSpec := { name := "fnExactBestReleased", fn := fun _ => fun
  | [d1, d2] => { results := [.lit (.bool false)], args := [d1, d2] }
  | _ => none }
def FnExactBestReleasedWrongFalsely : Prop := fnExactBestReleasedRow.holds Try.pinned (OpenSpec.ofChange fnExactBestReleasedWrong)

/- THE SECOND FORM. 'bulk': how many values and letters a reading holds, each counted each time it is reached (what is shared counts as often as it is met; a slice's spare places count too). A statement '..UptoSaid' is the law's where the arguments, and the package variables that the reading takes, are together of bulk at most 1048576: NARROWER than '..Said'. Prove '..Said' where nothing that the law and all that it calls make is longer than what came in: it says more and counts as full. Else prove '..UptoSaid'. A law counts once. -/
mutual
def uptoBulk {H : Type} : DataW H → Nat
  | .lit (.string bytes) => bytes.length + 1
  | .lit _ => 1
  | .nil => 1
  | .ptr d => uptoBulk d + 1
  | .slice elems spare => uptoBulkAll elems + uptoBulkAll spare + 1
  | .agg parts => uptoBulkAll parts + 1
  | .iface _ d => uptoBulk d + 1
  | .map entries => uptoBulkEntries entries + 1
  | .held _ => 1
def uptoBulkAll {H : Type} : List (DataW H) → Nat
  | [] => 0
  | d :: r => uptoBulk d + uptoBulkAll r
def uptoBulkEntries {H : Type} : List (Lit × DataW H) → Nat
  | [] => 0
  | x :: r => uptoBulkEntry x + uptoBulkEntries r
def uptoBulkEntry {H : Type} : Lit × DataW H → Nat
  | (.string bytes, d) => bytes.length + uptoBulk d + 1
  | (_, d) => uptoBulk d + 1
 end
def uptoSmall : (H : Type) → List (DataW H) → Bool := fun _ ds => decide (uptoBulkAll ds ≤ 1048576)
def OpenSpec.upto (s : _root_.Go.ChangeSpec) : _root_.Go.OpenSpec := { _root_.Go.OpenSpec.ofChange s with cond := some uptoSmall }

/-- 'laws.FnExactLongestFirst', WHERE WHAT IT READS IS OF BULK AT MOST 1048576: true; the input reads as it did. -/
def fnExactLongestFirstUptoRow : OpenClaim := { program := "ytkcdhdnmmpapdaa", sum := "95a88ba6d66bbf71a524f21e71fc285f3edf9ea8eaadcc9529c33abc3896c317", func := "loop.example/g01389/laws.FnExactLongestFirst", spec := "fnExactLongestFirst", unfollowed := true, recurses := true, apart := false, narrowed := true }
def FnExactLongestFirstUptoSaid : Prop := fnExactLongestFirstUptoRow.holds Try.pinned (OpenSpec.upto fnExactLongestFirstSpec)

/-- 'laws.FnExactRatioOf', WHERE WHAT IT READS IS OF BULK AT MOST 1048576: true; the input reads as it did. -/
def fnExactRatioOfUptoRow : OpenClaim := { program := "ytkcdhdnmmpapdaa", sum := "95a88ba6d66bbf71a524f21e71fc285f3edf9ea8eaadcc9529c33abc3896c317", func := "loop.example/g01389/laws.FnExactRatioOf", spec := "fnExactRatioOf", unfollowed := true, recurses := true, apart := false, narrowed := true }
def FnExactRatioOfUptoSaid : Prop := fnExactRatioOfUptoRow.holds Try.pinned (OpenSpec.upto fnExactRatioOfSpec)

/-- 'laws.FnExactLastsShared', WHERE WHAT IT READS IS OF BULK AT MOST 1048576: true; the input reads as it did. -/
def fnExactLastsSharedUptoRow : OpenClaim := { program := "ytkcdhdnmmpapdaa", sum := "95a88ba6d66bbf71a524f21e71fc285f3edf9ea8eaadcc9529c33abc3896c317", func := "loop.example/g01389/laws.FnExactLastsShared", spec := "fnExactLastsShared", unfollowed := true, recurses := true, apart := false, narrowed := true }
def FnExactLastsSharedUptoSaid : Prop := fnExactLastsSharedUptoRow.holds Try.pinned (OpenSpec.upto fnExactLastsSharedSpec)

/-- 'laws.FnLastsSharedOfAll', WHERE WHAT IT READS IS OF BULK AT MOST 1048576: true; the input reads as it did. -/
def fnLastsSharedOfAllUptoRow : OpenClaim := { program := "ytkcdhdnmmpapdaa", sum := "95a88ba6d66bbf71a524f21e71fc285f3edf9ea8eaadcc9529c33abc3896c317", func := "loop.example/g01389/laws.FnLastsSharedOfAll", spec := "fnLastsSharedOfAll", unfollowed := true, recurses := true, apart := false, narrowed := true }
def FnLastsSharedOfAllUptoSaid : Prop := fnLastsSharedOfAllUptoRow.holds Try.pinned (OpenSpec.upto fnLastsSharedOfAllSpec)

/-- 'laws.FnExactInsertOrder', WHERE WHAT IT READS IS OF BULK AT MOST 1048576: true; the input reads as it did. -/
def fnExactInsertOrderUptoRow : OpenClaim := { program := "ytkcdhdnmmpapdaa", sum := "95a88ba6d66bbf71a524f21e71fc285f3edf9ea8eaadcc9529c33abc3896c317", func := "loop.example/g01389/laws.FnExactInsertOrder", spec := "fnExactInsertOrder", inPlace := ["slices.overlaps[int64]"], unfollowed := true, recurses := true, apart := false, narrowed := true }
def FnExactInsertOrderUptoSaid : Prop := fnExactInsertOrderUptoRow.holds Try.pinned (OpenSpec.upto fnExactInsertOrderSpec)

/-- 'laws.FnExactFlowsShared', WHERE WHAT IT READS IS OF BULK AT MOST 1048576: true; the input reads as it did. -/
def fnExactFlowsSharedUptoRow : OpenClaim := { program := "ytkcdhdnmmpapdaa", sum := "95a88ba6d66bbf71a524f21e71fc285f3edf9ea8eaadcc9529c33abc3896c317", func := "loop.example/g01389/laws.FnExactFlowsShared", spec := "fnExactFlowsShared", inPlace := ["slices.overlaps[int64]"], unfollowed := true, recurses := true, apart := false, narrowed := true }
def FnExactFlowsSharedUptoSaid : Prop := fnExactFlowsSharedUptoRow.holds Try.pinned (OpenSpec.upto fnExactFlowsSharedSpec)

/-- 'laws.FnFlowsSharedOfAll', WHERE WHAT IT READS IS OF BULK AT MOST 1048576: true; the input reads as it did. -/
def fnFlowsSharedOfAllUptoRow : OpenClaim := { program := "ytkcdhdnmmpapdaa", sum := "95a88ba6d66bbf71a524f21e71fc285f3edf9ea8eaadcc9529c33abc3896c317", func := "loop.example/g01389/laws.FnFlowsSharedOfAll", spec := "fnFlowsSharedOfAll", inPlace := ["slices.overlaps[int64]"], unfollowed := true, recurses := true, apart := false, narrowed := true }
def FnFlowsSharedOfAllUptoSaid : Prop := fnFlowsSharedOfAllUptoRow.holds Try.pinned (OpenSpec.upto fnFlowsSharedOfAllSpec)

/-- 'laws.FnExactOrderBy', WHERE WHAT IT READS IS OF BULK AT MOST 1048576: true; the input reads as it did. -/
def fnExactOrderByUptoRow : OpenClaim := { program := "ytkcdhdnmmpapdaa", sum := "95a88ba6d66bbf71a524f21e71fc285f3edf9ea8eaadcc9529c33abc3896c317", func := "loop.example/g01389/laws.FnExactOrderBy", spec := "fnExactOrderBy", unfollowed := true, recurses := true, apart := false, narrowed := true }
def FnExactOrderByUptoSaid : Prop := fnExactOrderByUptoRow.holds Try.pinned (OpenSpec.upto fnExactOrderBySpec)

/-- 'laws.FnExactFewestLate', WHERE WHAT IT READS IS OF BULK AT MOST 1048576: true; the input reads as it did. -/
def fnExactFewestLateUptoRow : OpenClaim := { program := "ytkcdhdnmmpapdaa", sum := "95a88ba6d66bbf71a524f21e71fc285f3edf9ea8eaadcc9529c33abc3896c317", func := "loop.example/g01389/laws.FnExactFewestLate", spec := "fnExactFewestLate", unfollowed := true, recurses := true, apart := false, narrowed := true }
def FnExactFewestLateUptoSaid : Prop := fnExactFewestLateUptoRow.holds Try.pinned (OpenSpec.upto fnExactFewestLateSpec)

/-- 'laws.FnExactBestReleased', WHERE WHAT IT READS IS OF BULK AT MOST 1048576: true; the input reads as it did. -/
def fnExactBestReleasedUptoRow : OpenClaim := { program := "ytkcdhdnmmpapdaa", sum := "95a88ba6d66bbf71a524f21e71fc285f3edf9ea8eaadcc9529c33abc3896c317", func := "loop.example/g01389/laws.FnExactBestReleased", spec := "fnExactBestReleased", unfollowed := true, recurses := true, apart := false, narrowed := true }
def FnExactBestReleasedUptoSaid : Prop := fnExactBestReleasedUptoRow.holds Try.pinned (OpenSpec.upto fnExactBestReleasedSpec)

end Rows
end Go.Proofs.Ytkcdhdnmmpapdaa
