/-
  DERIVED. GIVEN WITH THE SEED: THE CARDS: each row of YtpeafglbhjjbhaaDoorRows.lean that lists a variable, with what it lists TIED to the program's text (the seventh form; the later family's looks); each row that meets fmt, with fmt's text TOLD by the authors' own Lean function (tested against real Go, not proved from fmt's source: count such statements apart). THE CARD IS WHAT COUNTS. Prove the row's statement (the work); the ties are given (YtpeafglbhjjbhaaDoorTie.lean); close each card by the builder's one call (the guide's Derived/Test/ToyasCard.lean, 'card_holds'). Laid BY PROGRAM, IN A SANDBOX (cutbox-door.mjs). By AI agents, Wed Nov 11 2026. No macro, syntax, notation, axiom, sorry.
-/
import Derived.Test.YtpeafglbhjjbhaaDoorRows
import GoSem.ClaimSeven
namespace Go.Proofs.YtpeafglbhjjbhaaDoor
namespace Rows

/-- THE TIED CARD OF 'hallmarklaw17.CleanIdle'. -/
def cleanIdleCard : Claim7 := { stood := { row := cleanIdleRow, standIns := [], harness := (true, "35d5877d21653d49879e48ab4e95bbfb8679447a7d1c5e519a0c17dbc33b9f6b"), looks := false }, kinds := [], alts := [], laidByText := true, laidKinds := [.data], laidTests := true, laidLooks := .later }
def CleanIdleCardSaid : Prop := Claim7.holds Tryd.pinned (.plain (OpenSpec.ofChange cleanIdleSpec)) cleanIdleCard

/-- THE SECOND FORM's CARD OF 'hallmarklaw17.CleanIdle'. -/
def cleanIdleUptoCard : Claim7 := { stood := { row := cleanIdleUptoRow, standIns := [], harness := (true, "35d5877d21653d49879e48ab4e95bbfb8679447a7d1c5e519a0c17dbc33b9f6b"), looks := false }, kinds := [], alts := [], laidByText := true, laidKinds := [.data], laidTests := true, laidLooks := .later }
def CleanIdleUptoCardSaid : Prop := Claim7.holds Tryd.pinned (.plain (OpenSpec.upto cleanIdleSpec)) cleanIdleUptoCard
end Rows
end Go.Proofs.YtpeafglbhjjbhaaDoor
