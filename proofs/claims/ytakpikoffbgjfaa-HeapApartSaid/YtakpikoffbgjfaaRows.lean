/-
  No cell of these rows narrows 'for every input' (looked for: loops, veiled, ifaces, maps, wideKeys, modest, calm, conditions, laid).
  DERIVED. THE GIVEN ROWS OF THIS SEAT. 4 by the template 'for every input the law returns true; each argument reads behind the call as it read before'; 0 by the template 'total and deterministic' (their statements: YtakpikoffbgjfaaTotals.lean).
  GIVEN WITH THE SEED: the statements are not yours to turn. If you find one false, say at which input.
  Laid BY PROGRAM, IN A SANDBOX (cutbox-rows.mjs): the forced cells as the released guide's own fill.sh prints them over the translation 07cb30595435f1bf… (all of the seat's roots in one cut). By AI agents, Wed Nov 11 2026. No macro, syntax, notation, axiom, sorry.
-/
import Derived.Test.YtakpikoffbgjfaaChecked
import GoSem.Claim
import GoSem.ClaimJoined
import GoSem.ClaimMapViews
import Derived.JoinedTies
import Derived.KernelRfl
namespace Go.Proofs.Ytakpikoffbgjfaa
/- THE CELL 'sum', in the pinned program and in every row, IS THE sha256 OF THE DUMP (.gsa) THAT YtakpikoffbgjfaaProg.lean LOADS. Nothing in Lean hashes anything: it is a label: what it is worth is what the hold of that sum in a sandbox is worth. -/
noncomputable def Try.pinned : Pinned := { name := "ytakpikoffbgjfaa", sum := "07cb30595435f1bf948bd2c6a6ec0bfbf4a591a2355d64d02cf41cf8411d9170", checked := Try.checked }
namespace Rows
def none {H : Type} : Left H := { results := [], args := [] }

/-- 'hallmarklaw10.HeapFrames': WHATEVER THE INPUT: true; the input reads as it did. -/
def heapFramesSpec : ChangeSpec := { name := "heapFrames", fn := fun _ => fun
  | [d1, d2, d3] => { results := [.lit (.bool true)], args := [d1, d2, d3] }
  | _ => none }
def heapFramesRow : OpenClaim := { program := "ytakpikoffbgjfaa", sum := "07cb30595435f1bf948bd2c6a6ec0bfbf4a591a2355d64d02cf41cf8411d9170", func := "hallmark/hallmarklaw10.HeapFrames", spec := "heapFrames", apart := false }
def HeapFramesSaid : Prop := heapFramesRow.holds Try.pinned (OpenSpec.ofChange heapFramesSpec)

/-- ITS FALSE NEIGHBOUR: 'it returns false'. Refute it at one input. -/
def heapFramesWrong : ChangeSpec := { name := "heapFrames", fn := fun _ => fun
  | [d1, d2, d3] => { results := [.lit (.bool false)], args := [d1, d2, d3] }
  | _ => none }
def HeapFramesWrongFalsely : Prop := heapFramesRow.holds Try.pinned (OpenSpec.ofChange heapFramesWrong)

/-- 'hallmarklaw10.HeapTables': WHATEVER THE INPUT: true; the input reads as it did. -/
def heapTablesSpec : ChangeSpec := { name := "heapTables", fn := fun _ => fun
  | [d] => { results := [.lit (.bool true)], args := [d] }
  | _ => none }
def heapTablesRow : OpenClaim := { program := "ytakpikoffbgjfaa", sum := "07cb30595435f1bf948bd2c6a6ec0bfbf4a591a2355d64d02cf41cf8411d9170", func := "hallmark/hallmarklaw10.HeapTables", spec := "heapTables", apart := false }
def HeapTablesSaid : Prop := heapTablesRow.holds Try.pinned (OpenSpec.ofChange heapTablesSpec)

/-- ITS FALSE NEIGHBOUR: 'it returns false'. Refute it at one input. -/
def heapTablesWrong : ChangeSpec := { name := "heapTables", fn := fun _ => fun
  | [d] => { results := [.lit (.bool false)], args := [d] }
  | _ => none }
def HeapTablesWrongFalsely : Prop := heapTablesRow.holds Try.pinned (OpenSpec.ofChange heapTablesWrong)

/-- 'hallmarklaw10.HeapApart': WHATEVER THE INPUT: true; the input reads as it did. -/
def heapApartSpec : ChangeSpec := { name := "heapApart", fn := fun _ => fun
  | [d1, d2] => { results := [.lit (.bool true)], args := [d1, d2] }
  | _ => none }
def heapApartRow : OpenClaim := { program := "ytakpikoffbgjfaa", sum := "07cb30595435f1bf948bd2c6a6ec0bfbf4a591a2355d64d02cf41cf8411d9170", func := "hallmark/hallmarklaw10.HeapApart", spec := "heapApart", apart := false }
def HeapApartSaid : Prop := heapApartRow.holds Try.pinned (OpenSpec.ofChange heapApartSpec)

/-- ITS FALSE NEIGHBOUR: 'it returns false'. Refute it at one input. -/
def heapApartWrong : ChangeSpec := { name := "heapApart", fn := fun _ => fun
  | [d1, d2] => { results := [.lit (.bool false)], args := [d1, d2] }
  | _ => none }
def HeapApartWrongFalsely : Prop := heapApartRow.holds Try.pinned (OpenSpec.ofChange heapApartWrong)

/-- 'hallmarklaw10.HeapAlone': WHATEVER THE INPUT: true; the input reads as it did. -/
def heapAloneSpec : ChangeSpec := { name := "heapAlone", fn := fun _ => fun
  | [d] => { results := [.lit (.bool true)], args := [d] }
  | _ => none }
def heapAloneRow : OpenClaim := { program := "ytakpikoffbgjfaa", sum := "07cb30595435f1bf948bd2c6a6ec0bfbf4a591a2355d64d02cf41cf8411d9170", func := "hallmark/hallmarklaw10.HeapAlone", spec := "heapAlone", apart := false }
def HeapAloneSaid : Prop := heapAloneRow.holds Try.pinned (OpenSpec.ofChange heapAloneSpec)

/-- ITS FALSE NEIGHBOUR: 'it returns false'. Refute it at one input. -/
def heapAloneWrong : ChangeSpec := { name := "heapAlone", fn := fun _ => fun
  | [d] => { results := [.lit (.bool false)], args := [d] }
  | _ => none }
def HeapAloneWrongFalsely : Prop := heapAloneRow.holds Try.pinned (OpenSpec.ofChange heapAloneWrong)

/- THE SECOND FORM. 'bulk': how many values and letters a reading holds, each counted each time it is reached (what is shared counts as often as it is met; a slice's spare places count too). A statement '..UptoSaid' is the law's where the arguments, and the package variables that the reading takes, are together of bulk at most 1048576: NARROWER than '..Said'. Prove '..Said' where nothing that the law and all that it calls make is longer than what came in: it says more and counts as full. Else prove '..UptoSaid'. A law counts once. -/
mutual
def uptoBulk {H : Type} : DataW H → Nat
  | .lit (.string bytes) => bytes.length + 1
  | .lit _ => 1
  | .nil => 1
  | .ptr d => uptoBulk d + 1
  | .slice elems spare => uptoBulkAll elems + uptoBulkAll spare + 1
  | .agg parts => uptoBulkAll parts + 1
  | .iface _ d => uptoBulk d + 1
  | .map entries => uptoBulkEntries entries + 1
  | .held _ => 1
def uptoBulkAll {H : Type} : List (DataW H) → Nat
  | [] => 0
  | d :: r => uptoBulk d + uptoBulkAll r
def uptoBulkEntries {H : Type} : List (Lit × DataW H) → Nat
  | [] => 0
  | x :: r => uptoBulkEntry x + uptoBulkEntries r
def uptoBulkEntry {H : Type} : Lit × DataW H → Nat
  | (.string bytes, d) => bytes.length + uptoBulk d + 1
  | (_, d) => uptoBulk d + 1
 end
def uptoSmall : (H : Type) → List (DataW H) → Bool := fun _ ds => decide (uptoBulkAll ds ≤ 1048576)
def OpenSpec.upto (s : _root_.Go.ChangeSpec) : _root_.Go.OpenSpec := { _root_.Go.OpenSpec.ofChange s with cond := some uptoSmall }

/-- 'hallmarklaw10.HeapFrames', WHERE WHAT IT READS IS OF BULK AT MOST 1048576: true; the input reads as it did. -/
def heapFramesUptoRow : OpenClaim := { program := "ytakpikoffbgjfaa", sum := "07cb30595435f1bf948bd2c6a6ec0bfbf4a591a2355d64d02cf41cf8411d9170", func := "hallmark/hallmarklaw10.HeapFrames", spec := "heapFrames", apart := false, narrowed := true }
def HeapFramesUptoSaid : Prop := heapFramesUptoRow.holds Try.pinned (OpenSpec.upto heapFramesSpec)

/-- 'hallmarklaw10.HeapTables', WHERE WHAT IT READS IS OF BULK AT MOST 1048576: true; the input reads as it did. -/
def heapTablesUptoRow : OpenClaim := { program := "ytakpikoffbgjfaa", sum := "07cb30595435f1bf948bd2c6a6ec0bfbf4a591a2355d64d02cf41cf8411d9170", func := "hallmark/hallmarklaw10.HeapTables", spec := "heapTables", apart := false, narrowed := true }
def HeapTablesUptoSaid : Prop := heapTablesUptoRow.holds Try.pinned (OpenSpec.upto heapTablesSpec)

/-- 'hallmarklaw10.HeapApart', WHERE WHAT IT READS IS OF BULK AT MOST 1048576: true; the input reads as it did. -/
def heapApartUptoRow : OpenClaim := { program := "ytakpikoffbgjfaa", sum := "07cb30595435f1bf948bd2c6a6ec0bfbf4a591a2355d64d02cf41cf8411d9170", func := "hallmark/hallmarklaw10.HeapApart", spec := "heapApart", apart := false, narrowed := true }
def HeapApartUptoSaid : Prop := heapApartUptoRow.holds Try.pinned (OpenSpec.upto heapApartSpec)

/-- 'hallmarklaw10.HeapAlone', WHERE WHAT IT READS IS OF BULK AT MOST 1048576: true; the input reads as it did. -/
def heapAloneUptoRow : OpenClaim := { program := "ytakpikoffbgjfaa", sum := "07cb30595435f1bf948bd2c6a6ec0bfbf4a591a2355d64d02cf41cf8411d9170", func := "hallmark/hallmarklaw10.HeapAlone", spec := "heapAlone", apart := false, narrowed := true }
def HeapAloneUptoSaid : Prop := heapAloneUptoRow.holds Try.pinned (OpenSpec.upto heapAloneSpec)

end Rows
end Go.Proofs.Ytakpikoffbgjfaa
