/-
  No cell of these rows narrows 'for every input' (looked for: loops, veiled, ifaces, maps, wideKeys, modest, calm, conditions, laid).
  DERIVED. THE GIVEN ROWS OF THIS SEAT. 5 by the template 'for every input the law returns true; each argument reads behind the call as it read before'; 0 by the template 'total and deterministic' (their statements: YtcghkemfepnihaaTotals.lean).
  GIVEN WITH THE SEED: the statements are not yours to turn. If you find one false, say at which input.
  Laid BY PROGRAM, IN A SANDBOX (cutbox-rows.mjs): the forced cells as the released guide's own fill.sh prints them over the translation dfab31ef1a35657d… (all of the seat's roots in one cut). By AI agents, Wed Nov 11 2026. No macro, syntax, notation, axiom, sorry.
-/
import Derived.Test.YtcghkemfepnihaaChecked
import GoSem.Claim
import GoSem.ClaimJoined
import GoSem.ClaimMapViews
import Derived.JoinedTies
import Derived.KernelRfl
namespace Go.Proofs.Ytcghkemfepnihaa
/- THE CELL 'sum', in the pinned program and in every row, IS THE sha256 OF THE DUMP (.gsa) THAT YtcghkemfepnihaaProg.lean LOADS. Nothing in Lean hashes anything: it is a label: what it is worth is what the hold of that sum in a sandbox is worth. -/
noncomputable def Try.pinned : Pinned := { name := "ytcghkemfepnihaa", sum := "dfab31ef1a35657da3698389cca0fb59acefb5bcb72fef3706f816f41efc2466", checked := Try.checked }
namespace Rows
def none {H : Type} : Left H := { results := [], args := [] }

/-- 'hallmarklaw14.FlowGrows': WHATEVER THE INPUT: true; the input reads as it did. -/
def flowGrowsSpec : ChangeSpec := { name := "flowGrows", fn := fun _ => fun
  | [d1, d2, d3] => { results := [.lit (.bool true)], args := [d1, d2, d3] }
  | _ => none }
def flowGrowsRow : OpenClaim := { program := "ytcghkemfepnihaa", sum := "dfab31ef1a35657da3698389cca0fb59acefb5bcb72fef3706f816f41efc2466", func := "hallmark/hallmarklaw14.FlowGrows", spec := "flowGrows", unfollowed := true, recurses := true, apart := false }
def FlowGrowsSaid : Prop := flowGrowsRow.holds Try.pinned (OpenSpec.ofChange flowGrowsSpec)

/-- ITS FALSE NEIGHBOUR: 'it returns false'. Refute it at one input. -/
def flowGrowsWrong : ChangeSpec := { name := "flowGrows", fn := fun _ => fun
  | [d1, d2, d3] => { results := [.lit (.bool false)], args := [d1, d2, d3] }
  | _ => none }
def FlowGrowsWrongFalsely : Prop := flowGrowsRow.holds Try.pinned (OpenSpec.ofChange flowGrowsWrong)

/-- 'hallmarklaw14.FlowReach': WHATEVER THE INPUT: true; the input reads as it did. -/
def flowReachSpec : ChangeSpec := { name := "flowReach", fn := fun _ => fun
  | [d1, d2, d3] => { results := [.lit (.bool true)], args := [d1, d2, d3] }
  | _ => none }
def flowReachRow : OpenClaim := { program := "ytcghkemfepnihaa", sum := "dfab31ef1a35657da3698389cca0fb59acefb5bcb72fef3706f816f41efc2466", func := "hallmark/hallmarklaw14.FlowReach", spec := "flowReach", unfollowed := true, recurses := true, apart := false }
def FlowReachSaid : Prop := flowReachRow.holds Try.pinned (OpenSpec.ofChange flowReachSpec)

/-- ITS FALSE NEIGHBOUR: 'it returns false'. Refute it at one input. -/
def flowReachWrong : ChangeSpec := { name := "flowReach", fn := fun _ => fun
  | [d1, d2, d3] => { results := [.lit (.bool false)], args := [d1, d2, d3] }
  | _ => none }
def FlowReachWrongFalsely : Prop := flowReachRow.holds Try.pinned (OpenSpec.ofChange flowReachWrong)

/-- 'hallmarklaw14.FlowBoth': WHATEVER THE INPUT: true; the input reads as it did. -/
def flowBothSpec : ChangeSpec := { name := "flowBoth", fn := fun _ => fun
  | [d1, d2, d3] => { results := [.lit (.bool true)], args := [d1, d2, d3] }
  | _ => none }
def flowBothRow : OpenClaim := { program := "ytcghkemfepnihaa", sum := "dfab31ef1a35657da3698389cca0fb59acefb5bcb72fef3706f816f41efc2466", func := "hallmark/hallmarklaw14.FlowBoth", spec := "flowBoth", unfollowed := true, recurses := true, apart := false }
def FlowBothSaid : Prop := flowBothRow.holds Try.pinned (OpenSpec.ofChange flowBothSpec)

/-- ITS FALSE NEIGHBOUR: 'it returns false'. Refute it at one input. -/
def flowBothWrong : ChangeSpec := { name := "flowBoth", fn := fun _ => fun
  | [d1, d2, d3] => { results := [.lit (.bool false)], args := [d1, d2, d3] }
  | _ => none }
def FlowBothWrongFalsely : Prop := flowBothRow.holds Try.pinned (OpenSpec.ofChange flowBothWrong)

/-- 'hallmarklaw14.FlowDistances': WHATEVER THE INPUT: true; the input reads as it did. -/
def flowDistancesSpec : ChangeSpec := { name := "flowDistances", fn := fun _ => fun
  | [d1, d2, d3] => { results := [.lit (.bool true)], args := [d1, d2, d3] }
  | _ => none }
def flowDistancesRow : OpenClaim := { program := "ytcghkemfepnihaa", sum := "dfab31ef1a35657da3698389cca0fb59acefb5bcb72fef3706f816f41efc2466", func := "hallmark/hallmarklaw14.FlowDistances", spec := "flowDistances", unfollowed := true, recurses := true, apart := false }
def FlowDistancesSaid : Prop := flowDistancesRow.holds Try.pinned (OpenSpec.ofChange flowDistancesSpec)

/-- ITS FALSE NEIGHBOUR: 'it returns false'. Refute it at one input. -/
def flowDistancesWrong : ChangeSpec := { name := "flowDistances", fn := fun _ => fun
  | [d1, d2, d3] => { results := [.lit (.bool false)], args := [d1, d2, d3] }
  | _ => none }
def FlowDistancesWrongFalsely : Prop := flowDistancesRow.holds Try.pinned (OpenSpec.ofChange flowDistancesWrong)

/-- 'hallmarklaw14.FlowSets': WHATEVER THE INPUT: true; the input reads as it did. -/
def flowSetsSpec : ChangeSpec := { name := "flowSets", fn := fun _ => fun
  | [d1, d2, d3] => { results := [.lit (.bool true)], args := [d1, d2, d3] }
  | _ => none }
def flowSetsRow : OpenClaim := { program := "ytcghkemfepnihaa", sum := "dfab31ef1a35657da3698389cca0fb59acefb5bcb72fef3706f816f41efc2466", func := "hallmark/hallmarklaw14.FlowSets", spec := "flowSets", inPlace := ["slices.overlaps[int]"], unfollowed := true, recurses := true, apart := false }
def FlowSetsSaid : Prop := flowSetsRow.holds Try.pinned (OpenSpec.ofChange flowSetsSpec)

/-- ITS FALSE NEIGHBOUR: 'it returns false'. Refute it at one input. -/
def flowSetsWrong : ChangeSpec := { name := "flowSets", fn := fun _ => fun
  | [d1, d2, d3] => { results := [.lit (.bool false)], args := [d1, d2, d3] }
  | _ => none }
def FlowSetsWrongFalsely : Prop := flowSetsRow.holds Try.pinned (OpenSpec.ofChange flowSetsWrong)

/- THE SECOND FORM. 'bulk': how many values and letters a reading holds, each counted each time it is reached (what is shared counts as often as it is met; a slice's spare places count too). A statement '..UptoSaid' is the law's where the arguments, and the package variables that the reading takes, are together of bulk at most 1048576: NARROWER than '..Said'. Prove '..Said' where nothing that the law and all that it calls make is longer than what came in: it says more and counts as full. Else prove '..UptoSaid'. A law counts once. -/
mutual
def uptoBulk {H : Type} : DataW H → Nat
  | .lit (.string bytes) => bytes.length + 1
  | .lit _ => 1
  | .nil => 1
  | .ptr d => uptoBulk d + 1
  | .slice elems spare => uptoBulkAll elems + uptoBulkAll spare + 1
  | .agg parts => uptoBulkAll parts + 1
  | .iface _ d => uptoBulk d + 1
  | .map entries => uptoBulkEntries entries + 1
  | .held _ => 1
def uptoBulkAll {H : Type} : List (DataW H) → Nat
  | [] => 0
  | d :: r => uptoBulk d + uptoBulkAll r
def uptoBulkEntries {H : Type} : List (Lit × DataW H) → Nat
  | [] => 0
  | x :: r => uptoBulkEntry x + uptoBulkEntries r
def uptoBulkEntry {H : Type} : Lit × DataW H → Nat
  | (.string bytes, d) => bytes.length + uptoBulk d + 1
  | (_, d) => uptoBulk d + 1
 end
def uptoSmall : (H : Type) → List (DataW H) → Bool := fun _ ds => decide (uptoBulkAll ds ≤ 1048576)
def OpenSpec.upto (s : _root_.Go.ChangeSpec) : _root_.Go.OpenSpec := { _root_.Go.OpenSpec.ofChange s with cond := some uptoSmall }

/-- 'hallmarklaw14.FlowGrows', WHERE WHAT IT READS IS OF BULK AT MOST 1048576: true; the input reads as it did. -/
def flowGrowsUptoRow : OpenClaim := { program := "ytcghkemfepnihaa", sum := "dfab31ef1a35657da3698389cca0fb59acefb5bcb72fef3706f816f41efc2466", func := "hallmark/hallmarklaw14.FlowGrows", spec := "flowGrows", unfollowed := true, recurses := true, apart := false, narrowed := true }
def FlowGrowsUptoSaid : Prop := flowGrowsUptoRow.holds Try.pinned (OpenSpec.upto flowGrowsSpec)

/-- 'hallmarklaw14.FlowReach', WHERE WHAT IT READS IS OF BULK AT MOST 1048576: true; the input reads as it did. -/
def flowReachUptoRow : OpenClaim := { program := "ytcghkemfepnihaa", sum := "dfab31ef1a35657da3698389cca0fb59acefb5bcb72fef3706f816f41efc2466", func := "hallmark/hallmarklaw14.FlowReach", spec := "flowReach", unfollowed := true, recurses := true, apart := false, narrowed := true }
def FlowReachUptoSaid : Prop := flowReachUptoRow.holds Try.pinned (OpenSpec.upto flowReachSpec)

/-- 'hallmarklaw14.FlowBoth', WHERE WHAT IT READS IS OF BULK AT MOST 1048576: true; the input reads as it did. -/
def flowBothUptoRow : OpenClaim := { program := "ytcghkemfepnihaa", sum := "dfab31ef1a35657da3698389cca0fb59acefb5bcb72fef3706f816f41efc2466", func := "hallmark/hallmarklaw14.FlowBoth", spec := "flowBoth", unfollowed := true, recurses := true, apart := false, narrowed := true }
def FlowBothUptoSaid : Prop := flowBothUptoRow.holds Try.pinned (OpenSpec.upto flowBothSpec)

/-- 'hallmarklaw14.FlowDistances', WHERE WHAT IT READS IS OF BULK AT MOST 1048576: true; the input reads as it did. -/
def flowDistancesUptoRow : OpenClaim := { program := "ytcghkemfepnihaa", sum := "dfab31ef1a35657da3698389cca0fb59acefb5bcb72fef3706f816f41efc2466", func := "hallmark/hallmarklaw14.FlowDistances", spec := "flowDistances", unfollowed := true, recurses := true, apart := false, narrowed := true }
def FlowDistancesUptoSaid : Prop := flowDistancesUptoRow.holds Try.pinned (OpenSpec.upto flowDistancesSpec)

/-- 'hallmarklaw14.FlowSets', WHERE WHAT IT READS IS OF BULK AT MOST 1048576: true; the input reads as it did. -/
def flowSetsUptoRow : OpenClaim := { program := "ytcghkemfepnihaa", sum := "dfab31ef1a35657da3698389cca0fb59acefb5bcb72fef3706f816f41efc2466", func := "hallmark/hallmarklaw14.FlowSets", spec := "flowSets", inPlace := ["slices.overlaps[int]"], unfollowed := true, recurses := true, apart := false, narrowed := true }
def FlowSetsUptoSaid : Prop := flowSetsUptoRow.holds Try.pinned (OpenSpec.upto flowSetsSpec)

end Rows
end Go.Proofs.Ytcghkemfepnihaa
