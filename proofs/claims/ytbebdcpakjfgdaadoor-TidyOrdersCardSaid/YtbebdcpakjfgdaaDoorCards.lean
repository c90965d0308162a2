/-
  DERIVED. GIVEN WITH THE SEED: THE CARDS: each row of YtbebdcpakjfgdaaDoorRows.lean that lists a variable, with what it lists TIED to the program's text (the seventh form; the later family's looks); each row that meets fmt, with fmt's text TOLD by the authors' own Lean function (tested against real Go, not proved from fmt's source: count such statements apart). THE CARD IS WHAT COUNTS. Prove the row's statement (the work); the ties are given (YtbebdcpakjfgdaaDoorTie.lean); close each card by the builder's one call (the guide's Derived/Test/ToyasCard.lean, 'card_holds'). Laid BY PROGRAM, IN A SANDBOX (cutbox-door.mjs). By AI agents, Wed Nov 11 2026. No macro, syntax, notation, axiom, sorry.
-/
import Derived.Test.YtbebdcpakjfgdaaDoorRows
import GoSem.ClaimSeven
namespace Go.Proofs.YtbebdcpakjfgdaaDoor
namespace Rows

/-- THE TIED CARD OF 'hallmarklaw16.TidyRenames'. -/
def tidyRenamesCard : Claim7 := { stood := { row := tidyRenamesRow, standIns := [], harness := (true, "e83308da06ab569eedb4c1dda09947cc7978bab881f8387b8b2da13ec90c4877"), looks := false }, kinds := [], alts := [], laidByText := true, laidKinds := [.data], laidTests := true, laidLooks := .later }
def TidyRenamesCardSaid : Prop := Claim7.holds Tryd.pinned (.plain (OpenSpec.ofChange tidyRenamesSpec)) tidyRenamesCard

/-- THE TIED CARD OF 'hallmarklaw16.TidyOrders'. -/
def tidyOrdersCard : Claim7 := { stood := { row := tidyOrdersRow, standIns := [], harness := (true, "e83308da06ab569eedb4c1dda09947cc7978bab881f8387b8b2da13ec90c4877"), looks := false }, kinds := [], alts := [], laidByText := true, laidKinds := [.data], laidTests := true, laidLooks := .later }
def TidyOrdersCardSaid : Prop := Claim7.holds Tryd.pinned (.plain (OpenSpec.ofChange tidyOrdersSpec)) tidyOrdersCard

/-- THE TIED CARD OF 'hallmarklaw16.TidyKeeps'. -/
def tidyKeepsCard : Claim7 := { stood := { row := tidyKeepsRow, standIns := [], harness := (true, "e83308da06ab569eedb4c1dda09947cc7978bab881f8387b8b2da13ec90c4877"), looks := false }, kinds := [], alts := [], laidByText := true, laidKinds := [.data], laidTests := true, laidLooks := .later }
def TidyKeepsCardSaid : Prop := Claim7.holds Tryd.pinned (.plain (OpenSpec.ofChange tidyKeepsSpec)) tidyKeepsCard

/-- THE SECOND FORM's CARD OF 'hallmarklaw16.TidyRenames'. -/
def tidyRenamesUptoCard : Claim7 := { stood := { row := tidyRenamesUptoRow, standIns := [], harness := (true, "e83308da06ab569eedb4c1dda09947cc7978bab881f8387b8b2da13ec90c4877"), looks := false }, kinds := [], alts := [], laidByText := true, laidKinds := [.data], laidTests := true, laidLooks := .later }
def TidyRenamesUptoCardSaid : Prop := Claim7.holds Tryd.pinned (.plain (OpenSpec.upto tidyRenamesSpec)) tidyRenamesUptoCard

/-- THE SECOND FORM's CARD OF 'hallmarklaw16.TidyOrders'. -/
def tidyOrdersUptoCard : Claim7 := { stood := { row := tidyOrdersUptoRow, standIns := [], harness := (true, "e83308da06ab569eedb4c1dda09947cc7978bab881f8387b8b2da13ec90c4877"), looks := false }, kinds := [], alts := [], laidByText := true, laidKinds := [.data], laidTests := true, laidLooks := .later }
def TidyOrdersUptoCardSaid : Prop := Claim7.holds Tryd.pinned (.plain (OpenSpec.upto tidyOrdersSpec)) tidyOrdersUptoCard

/-- THE SECOND FORM's CARD OF 'hallmarklaw16.TidyKeeps'. -/
def tidyKeepsUptoCard : Claim7 := { stood := { row := tidyKeepsUptoRow, standIns := [], harness := (true, "e83308da06ab569eedb4c1dda09947cc7978bab881f8387b8b2da13ec90c4877"), looks := false }, kinds := [], alts := [], laidByText := true, laidKinds := [.data], laidTests := true, laidLooks := .later }
def TidyKeepsUptoCardSaid : Prop := Claim7.holds Tryd.pinned (.plain (OpenSpec.upto tidyKeepsSpec)) tidyKeepsUptoCard
end Rows
end Go.Proofs.YtbebdcpakjfgdaaDoor
