/-
  No cell of these rows narrows 'for every input' (looked for: loops, veiled, ifaces, maps, wideKeys, modest, calm, conditions, laid).
  DERIVED. THE GIVEN ROWS OF THIS SEAT. 5 by the template 'for every input the law returns true; each argument reads behind the call as it read before'; 0 by the template 'total and deterministic' (their statements: YtgcmklniacjcfaaTotals.lean).
  GIVEN WITH THE SEED: the statements are not yours to turn. If you find one false, say at which input.
  Laid BY PROGRAM, IN A SANDBOX (cutbox-rows.mjs): the forced cells as the released guide's own fill.sh prints them over the translation 83a70b3d766b32ea… (all of the seat's roots in one cut). By AI agents, Wed Nov 11 2026. No macro, syntax, notation, axiom, sorry.
-/
import Derived.Test.YtgcmklniacjcfaaChecked
import GoSem.Claim
import GoSem.ClaimJoined
import GoSem.ClaimMapViews
import Derived.JoinedTies
import Derived.KernelRfl
namespace Go.Proofs.Ytgcmklniacjcfaa
/- THE CELL 'sum', in the pinned program and in every row, IS THE sha256 OF THE DUMP (.gsa) THAT YtgcmklniacjcfaaProg.lean LOADS. Nothing in Lean hashes anything: it is a label: what it is worth is what the hold of that sum in a sandbox is worth. -/
noncomputable def Try.pinned : Pinned := { name := "ytgcmklniacjcfaa", sum := "83a70b3d766b32ea80939ac0af6d888f7856009dc036351ac242f20218fbfd83", checked := Try.checked }
namespace Rows
def none {H : Type} : Left H := { results := [], args := [] }

/-- 'laws.FnExactOpenPlan': WHATEVER THE INPUT: true; the input reads as it did. -/
def fnExactOpenPlanSpec : ChangeSpec := { name := "fnExactOpenPlan", fn := fun _ => fun
  | [d1, d2] => { results := [.lit (.bool true)], args := [d1, d2] }
  | _ => none }
def fnExactOpenPlanRow : OpenClaim := { program := "ytgcmklniacjcfaa", sum := "83a70b3d766b32ea80939ac0af6d888f7856009dc036351ac242f20218fbfd83", func := "loop.example/g01389/laws.FnExactOpenPlan", spec := "fnExactOpenPlan", apart := false }
def FnExactOpenPlanSaid : Prop := fnExactOpenPlanRow.holds Try.pinned (OpenSpec.ofChange fnExactOpenPlanSpec)

/-- ITS FALSE NEIGHBOUR: 'it returns false'. Refute it at one input. -/
def fnExactOpenPlanWrong : ChangeSpec := { name := "fnExactOpenPlan", fn := fun _ => fun
  | [d1, d2] => { results := [.lit (.bool false)], args := [d1, d2] }
  | _ => none }
def FnExactOpenPlanWrongFalsely : Prop := fnExactOpenPlanRow.holds Try.pinned (OpenSpec.ofChange fnExactOpenPlanWrong)

/-- 'laws.FnExactShopStarts': WHATEVER THE INPUT: true; the input reads as it did. -/
def fnExactShopStartsSpec : ChangeSpec := { name := "fnExactShopStarts", fn := fun _ => fun
  | [d1, d2, d3, d4] => { results := [.lit (.bool true)], args := [d1, d2, d3, d4] }
  | _ => none }
def fnExactShopStartsRow : OpenClaim := { program := "ytgcmklniacjcfaa", sum := "83a70b3d766b32ea80939ac0af6d888f7856009dc036351ac242f20218fbfd83", func := "loop.example/g01389/laws.FnExactShopStarts", spec := "fnExactShopStarts", unfollowed := true, recurses := true, apart := false }
def FnExactShopStartsSaid : Prop := fnExactShopStartsRow.holds Try.pinned (OpenSpec.ofChange fnExactShopStartsSpec)

/-- ITS FALSE NEIGHBOUR: 'it returns false'. Refute it at one input. -/
def fnExactShopStartsWrong : ChangeSpec := { name := "fnExactShopStarts", fn := fun _ => fun
  | [d1, d2, d3, d4] => { results := [.lit (.bool false)], args := [d1, d2, d3, d4] }
  | _ => none }
def FnExactShopStartsWrongFalsely : Prop := fnExactShopStartsRow.holds Try.pinned (OpenSpec.ofChange fnExactShopStartsWrong)

/-- 'laws.FnExactBestShop': WHATEVER THE INPUT: true; the input reads as it did. -/
def fnExactBestShopSpec : ChangeSpec := { name := "fnExactBestShop", fn := fun _ => fun
  | [d1, d2, d3] => { results := [.lit (.bool true)], args := [d1, d2, d3] }
  | _ => none }
def fnExactBestShopRow : OpenClaim := { program := "ytgcmklniacjcfaa", sum := "83a70b3d766b32ea80939ac0af6d888f7856009dc036351ac242f20218fbfd83", func := "loop.example/g01389/laws.FnExactBestShop", spec := "fnExactBestShop", unfollowed := true, recurses := true, apart := false }
def FnExactBestShopSaid : Prop := fnExactBestShopRow.holds Try.pinned (OpenSpec.ofChange fnExactBestShopSpec)

/-- ITS FALSE NEIGHBOUR: 'it returns false'. Refute it at one input. -/
def fnExactBestShopWrong : ChangeSpec := { name := "fnExactBestShop", fn := fun _ => fun
  | [d1, d2, d3] => { results := [.lit (.bool false)], args := [d1, d2, d3] }
  | _ => none }
def FnExactBestShopWrongFalsely : Prop := fnExactBestShopRow.holds Try.pinned (OpenSpec.ofChange fnExactBestShopWrong)

/-- 'laws.FnExactHastePlan': WHATEVER THE INPUT: true; the input reads as it did. -/
def fnExactHastePlanSpec : ChangeSpec := { name := "fnExactHastePlan", fn := fun _ => fun
  | [d1, d2, d3, d4] => { results := [.lit (.bool true)], args := [d1, d2, d3, d4] }
  | _ => none }
def fnExactHastePlanRow : OpenClaim := { program := "ytgcmklniacjcfaa", sum := "83a70b3d766b32ea80939ac0af6d888f7856009dc036351ac242f20218fbfd83", func := "loop.example/g01389/laws.FnExactHastePlan", spec := "fnExactHastePlan", unfollowed := true, recurses := true, apart := false }
def FnExactHastePlanSaid : Prop := fnExactHastePlanRow.holds Try.pinned (OpenSpec.ofChange fnExactHastePlanSpec)

/-- ITS FALSE NEIGHBOUR: 'it returns false'. Refute it at one input. -/
def fnExactHastePlanWrong : ChangeSpec := { name := "fnExactHastePlan", fn := fun _ => fun
  | [d1, d2, d3, d4] => { results := [.lit (.bool false)], args := [d1, d2, d3, d4] }
  | _ => none }
def FnExactHastePlanWrongFalsely : Prop := fnExactHastePlanRow.holds Try.pinned (OpenSpec.ofChange fnExactHastePlanWrong)

/-- 'laws.FnExactLeastStations': WHATEVER THE INPUT: true; the input reads as it did. -/
def fnExactLeastStationsSpec : ChangeSpec := { name := "fnExactLeastStations", fn := fun _ => fun
  | [d1, d2, d3] => { results := [.lit (.bool true)], args := [d1, d2, d3] }
  | _ => none }
def fnExactLeastStationsRow : OpenClaim := { program := "ytgcmklniacjcfaa", sum := "83a70b3d766b32ea80939ac0af6d888f7856009dc036351ac242f20218fbfd83", func := "loop.example/g01389/laws.FnExactLeastStations", spec := "fnExactLeastStations", unfollowed := true, recurses := true, apart := false }
def FnExactLeastStationsSaid : Prop := fnExactLeastStationsRow.holds Try.pinned (OpenSpec.ofChange fnExactLeastStationsSpec)

/-- ITS FALSE NEIGHBOUR: 'it returns false'. Refute it at one input. -/
def fnExactLeastStationsWrong : ChangeSpec := { name := "fnExactLeastStations", fn := fun _ => fun
  | [d1, d2, d3] => { results := [.lit (.bool false)], args := [d1, d2, d3] }
  | _ => none }
def FnExactLeastStationsWrongFalsely : Prop := fnExactLeastStationsRow.holds Try.pinned (OpenSpec.ofChange fnExactLeastStationsWrong)

/- THE SECOND FORM. 'bulk': how many values and letters a reading holds, each counted each time it is reached (what is shared counts as often as it is met; a slice's spare places count too). A statement '..UptoSaid' is the law's where the arguments, and the package variables that the reading takes, are together of bulk at most 1048576: NARROWER than '..Said'. Prove '..Said' where nothing that the law and all that it calls make is longer than what came in: it says more and counts as full. Else prove '..UptoSaid'. A law counts once. -/
mutual
def uptoBulk {H : Type} : DataW H → Nat
  | .lit (.string bytes) => bytes.length + 1
  | .lit _ => 1
  | .nil => 1
  | .ptr d => uptoBulk d + 1
  | .slice elems spare => uptoBulkAll elems + uptoBulkAll spare + 1
  | .agg parts => uptoBulkAll parts + 1
  | .iface _ d => uptoBulk d + 1
  | .map entries => uptoBulkEntries entries + 1
  | .held _ => 1
def uptoBulkAll {H : Type} : List (DataW H) → Nat
  | [] => 0
  | d :: r => uptoBulk d + uptoBulkAll r
def uptoBulkEntries {H : Type} : List (Lit × DataW H) → Nat
  | [] => 0
  | x :: r => uptoBulkEntry x + uptoBulkEntries r
def uptoBulkEntry {H : Type} : Lit × DataW H → Nat
  | (.string bytes, d) => bytes.length + uptoBulk d + 1
  | (_, d) => uptoBulk d + 1
 end
def uptoSmall : (H : Type) → List (DataW H) → Bool := fun _ ds => decide (uptoBulkAll ds ≤ 1048576)
def OpenSpec.upto (s : _root_.Go.ChangeSpec) : _root_.Go.OpenSpec := { _root_.Go.OpenSpec.ofChange s with cond := some uptoSmall }

/-- 'laws.FnExactOpenPlan', WHERE WHAT IT READS IS OF BULK AT MOST 1048576: true; the input reads as it did. -/
def fnExactOpenPlanUptoRow : OpenClaim := { program := "ytgcmklniacjcfaa", sum := "83a70b3d766b32ea80939ac0af6d888f7856009dc036351ac242f20218fbfd83", func := "loop.example/g01389/laws.FnExactOpenPlan", spec := "fnExactOpenPlan", apart := false, narrowed := true }
def FnExactOpenPlanUptoSaid : Prop := fnExactOpenPlanUptoRow.holds Try.pinned (OpenSpec.upto fnExactOpenPlanSpec)

/-- 'laws.FnExactShopStarts', WHERE WHAT IT READS IS OF BULK AT MOST 1048576: true; the input reads as it did. -/
def fnExactShopStartsUptoRow : OpenClaim := { program := "ytgcmklniacjcfaa", sum := "83a70b3d766b32ea80939ac0af6d888f7856009dc036351ac242f20218fbfd83", func := "loop.example/g01389/laws.FnExactShopStarts", spec := "fnExactShopStarts", unfollowed := true, recurses := true, apart := false, narrowed := true }
def FnExactShopStartsUptoSaid : Prop := fnExactShopStartsUptoRow.holds Try.pinned (OpenSpec.upto fnExactShopStartsSpec)

/-- 'laws.FnExactBestShop', WHERE WHAT IT READS IS OF BULK AT MOST 1048576: true; the input reads as it did. -/
def fnExactBestShopUptoRow : OpenClaim := { program := "ytgcmklniacjcfaa", sum := "83a70b3d766b32ea80939ac0af6d888f7856009dc036351ac242f20218fbfd83", func := "loop.example/g01389/laws.FnExactBestShop", spec := "fnExactBestShop", unfollowed := true, recurses := true, apart := false, narrowed := true }
def FnExactBestShopUptoSaid : Prop := fnExactBestShopUptoRow.holds Try.pinned (OpenSpec.upto fnExactBestShopSpec)

/-- 'laws.FnExactHastePlan', WHERE WHAT IT READS IS OF BULK AT MOST 1048576: true; the input reads as it did. -/
def fnExactHastePlanUptoRow : OpenClaim := { program := "ytgcmklniacjcfaa", sum := "83a70b3d766b32ea80939ac0af6d888f7856009dc036351ac242f20218fbfd83", func := "loop.example/g01389/laws.FnExactHastePlan", spec := "fnExactHastePlan", unfollowed := true, recurses := true, apart := false, narrowed := true }
def FnExactHastePlanUptoSaid : Prop := fnExactHastePlanUptoRow.holds Try.pinned (OpenSpec.upto fnExactHastePlanSpec)

/-- 'laws.FnExactLeastStations', WHERE WHAT IT READS IS OF BULK AT MOST 1048576: true; the input reads as it did. -/
def fnExactLeastStationsUptoRow : OpenClaim := { program := "ytgcmklniacjcfaa", sum := "83a70b3d766b32ea80939ac0af6d888f7856009dc036351ac242f20218fbfd83", func := "loop.example/g01389/laws.FnExactLeastStations", spec := "fnExactLeastStations", unfollowed := true, recurses := true, apart := false, narrowed := true }
def FnExactLeastStationsUptoSaid : Prop := fnExactLeastStationsUptoRow.holds Try.pinned (OpenSpec.upto fnExactLeastStationsSpec)

end Rows
end Go.Proofs.Ytgcmklniacjcfaa
