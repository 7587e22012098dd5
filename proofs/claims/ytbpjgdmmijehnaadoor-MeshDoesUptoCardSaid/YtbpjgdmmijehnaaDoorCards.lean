/-
  DERIVED. GIVEN WITH THE SEED: THE CARDS: each row of YtbpjgdmmijehnaaDoorRows.lean that lists a variable, with what it lists TIED to the program's text (the seventh form; the later family's looks); each row that meets fmt, with fmt's text TOLD by the authors' own Lean function (tested against real Go, not proved from fmt's source: count such statements apart). THE CARD IS WHAT COUNTS. Prove the row's statement (the work); the ties are given (YtbpjgdmmijehnaaDoorTie.lean); close each card by the builder's one call (the guide's Derived/Test/ToyasCard.lean, 'card_holds'). Laid BY PROGRAM, IN A SANDBOX (cutbox-door.mjs). By AI agents, Wed Nov 11 2026. No macro, syntax, notation, axiom, sorry.
-/
import Derived.Test.YtbpjgdmmijehnaaDoorRows
import GoSem.ClaimSeven
namespace Go.Proofs.YtbpjgdmmijehnaaDoor
namespace Rows

/-- THE TIED CARD OF 'pleachlaw21.MeshNames'. -/
def meshNamesCard : Claim7 := { stood := { row := meshNamesRow, standIns := [], harness := (true, "1410fb78c3261e4b30306e72ebc828ecdafa37d41a11c37f2817a8f0b676521e"), looks := true }, kinds := [], alts := [], laidByText := true, laidKinds := [.sentinel], laidTests := true, laidLooks := .later }
def MeshNamesCardSaid : Prop := Claim7.holds Tryd.pinned (.plain (OpenSpec.ofChange meshNamesSpec)) meshNamesCard

/-- THE TIED CARD OF 'pleachlaw21.MeshRow'. -/
def meshRowCard : Claim7 := { stood := { row := meshRowRow, standIns := [], harness := (true, "1410fb78c3261e4b30306e72ebc828ecdafa37d41a11c37f2817a8f0b676521e"), looks := true }, kinds := [], alts := [], laidByText := true, laidKinds := [.sentinel], laidTests := true, laidLooks := .later }
def MeshRowCardSaid : Prop := Claim7.holds Tryd.pinned (.plain (OpenSpec.ofChange meshRowSpec)) meshRowCard

/-- THE TIED CARD OF 'pleachlaw21.MeshSpoils'. -/
def meshSpoilsCard : Claim7 := { stood := { row := meshSpoilsRow, standIns := [], harness := (true, "1410fb78c3261e4b30306e72ebc828ecdafa37d41a11c37f2817a8f0b676521e"), looks := true }, kinds := [], alts := [], laidByText := true, laidKinds := [.sentinel], laidTests := true, laidLooks := .later }
def MeshSpoilsCardSaid : Prop := Claim7.holds Tryd.pinned (.plain (OpenSpec.ofChange meshSpoilsSpec)) meshSpoilsCard

/-- THE TIED CARD OF 'pleachlaw21.MeshDoes'. -/
def meshDoesCard : Claim7 := { stood := { row := meshDoesRow, standIns := [], harness := (true, "1410fb78c3261e4b30306e72ebc828ecdafa37d41a11c37f2817a8f0b676521e"), looks := true }, kinds := [], alts := [], laidByText := true, laidKinds := [.sentinel], laidTests := true, laidLooks := .later }
def MeshDoesCardSaid : Prop := Claim7.holds Tryd.pinned (.plain (OpenSpec.ofChange meshDoesSpec)) meshDoesCard

/-- THE SECOND FORM's CARD OF 'pleachlaw21.MeshNames'. -/
def meshNamesUptoCard : Claim7 := { stood := { row := meshNamesUptoRow, standIns := [], harness := (true, "1410fb78c3261e4b30306e72ebc828ecdafa37d41a11c37f2817a8f0b676521e"), looks := true }, kinds := [], alts := [], laidByText := true, laidKinds := [.sentinel], laidTests := true, laidLooks := .later }
def MeshNamesUptoCardSaid : Prop := Claim7.holds Tryd.pinned (.plain (OpenSpec.upto meshNamesSpec)) meshNamesUptoCard

/-- THE SECOND FORM's CARD OF 'pleachlaw21.MeshRow'. -/
def meshRowUptoCard : Claim7 := { stood := { row := meshRowUptoRow, standIns := [], harness := (true, "1410fb78c3261e4b30306e72ebc828ecdafa37d41a11c37f2817a8f0b676521e"), looks := true }, kinds := [], alts := [], laidByText := true, laidKinds := [.sentinel], laidTests := true, laidLooks := .later }
def MeshRowUptoCardSaid : Prop := Claim7.holds Tryd.pinned (.plain (OpenSpec.upto meshRowSpec)) meshRowUptoCard

/-- THE SECOND FORM's CARD OF 'pleachlaw21.MeshSpoils'. -/
def meshSpoilsUptoCard : Claim7 := { stood := { row := meshSpoilsUptoRow, standIns := [], harness := (true, "1410fb78c3261e4b30306e72ebc828ecdafa37d41a11c37f2817a8f0b676521e"), looks := true }, kinds := [], alts := [], laidByText := true, laidKinds := [.sentinel], laidTests := true, laidLooks := .later }
def MeshSpoilsUptoCardSaid : Prop := Claim7.holds Tryd.pinned (.plain (OpenSpec.upto meshSpoilsSpec)) meshSpoilsUptoCard

/-- THE SECOND FORM's CARD OF 'pleachlaw21.MeshDoes'. -/
def meshDoesUptoCard : Claim7 := { stood := { row := meshDoesUptoRow, standIns := [], harness := (true, "1410fb78c3261e4b30306e72ebc828ecdafa37d41a11c37f2817a8f0b676521e"), looks := true }, kinds := [], alts := [], laidByText := true, laidKinds := [.sentinel], laidTests := true, laidLooks := .later }
def MeshDoesUptoCardSaid : Prop := Claim7.holds Tryd.pinned (.plain (OpenSpec.upto meshDoesSpec)) meshDoesUptoCard
end Rows
end Go.Proofs.YtbpjgdmmijehnaaDoor
