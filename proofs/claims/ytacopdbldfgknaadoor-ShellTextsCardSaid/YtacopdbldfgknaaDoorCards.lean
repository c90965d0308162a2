/-
  DERIVED. GIVEN WITH THE SEED: THE CARDS: each row of YtacopdbldfgknaaDoorRows.lean that lists a variable, with what it lists TIED to the program's text (the seventh form; the later family's looks); each row that meets fmt, with fmt's text TOLD by the authors' own Lean function (tested against real Go, not proved from fmt's source: count such statements apart). THE CARD IS WHAT COUNTS. Prove the row's statement (the work); the ties are given (YtacopdbldfgknaaDoorTie.lean); close each card by the builder's one call (the guide's Derived/Test/ToyasCard.lean, 'card_holds'). Laid BY PROGRAM, IN A SANDBOX (cutbox-door.mjs). By AI agents, Wed Nov 11 2026. No macro, syntax, notation, axiom, sorry.
-/
import Derived.Test.YtacopdbldfgknaaDoorRows
import GoSem.ClaimSeven
namespace Go.Proofs.YtacopdbldfgknaaDoor
namespace Rows

/-- THE TIED CARD OF 'hallmarklaw28.ShellTexts'. -/
def shellTextsCard : Claim7 := { stood := { row := shellTextsRow, standIns := [], harness := (true, "7d249045891f0d0dc6979f3c4efefd2507d53f7de7a3381870f61a4bf61a8d8c"), looks := false }, kinds := [], alts := [], laidByText := true, laidKinds := [.data, .data, .data, .data, .data, .widerDeep, .widerDeep, .data], laidTests := true, laidLooks := .later }
def ShellTextsCardSaid : Prop := Claim7.holds Tryd.pinned (.plain (OpenSpec.ofChange shellTextsSpec)) shellTextsCard

/-- THE SECOND FORM's CARD OF 'hallmarklaw28.ShellTexts'. -/
def shellTextsUptoCard : Claim7 := { stood := { row := shellTextsUptoRow, standIns := [], harness := (true, "7d249045891f0d0dc6979f3c4efefd2507d53f7de7a3381870f61a4bf61a8d8c"), looks := false }, kinds := [], alts := [], laidByText := true, laidKinds := [.data, .data, .data, .data, .data, .widerDeep, .widerDeep, .data], laidTests := true, laidLooks := .later }
def ShellTextsUptoCardSaid : Prop := Claim7.holds Tryd.pinned (.plain (OpenSpec.upto shellTextsSpec)) shellTextsUptoCard
end Rows
end Go.Proofs.YtacopdbldfgknaaDoor
