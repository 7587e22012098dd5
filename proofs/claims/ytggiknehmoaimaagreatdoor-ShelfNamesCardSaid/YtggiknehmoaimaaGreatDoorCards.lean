/-
  DERIVED. GIVEN WITH THE SEED: THE CARDS: each row of YtggiknehmoaimaaGreatDoorRows.lean that lists a variable, with what it lists TIED to the program's text (the seventh form; the later family's looks); each row that meets fmt, with fmt's text TOLD by the authors' own Lean function (tested against real Go, not proved from fmt's source: count such statements apart). THE CARD IS WHAT COUNTS. Prove the row's statement (the work); the ties are given (YtggiknehmoaimaaGreatDoorTie.lean); close each card by the builder's one call (the guide's Derived/Test/ToyasCard.lean, 'card_holds'). Laid BY PROGRAM, IN A SANDBOX (cutbox-door.mjs). By AI agents, Wed Nov 11 2026. No macro, syntax, notation, axiom, sorry.
-/
import Derived.Test.YtggiknehmoaimaaGreatDoorRows
import GoSem.ClaimSeven
namespace Go.Proofs.YtggiknehmoaimaaGreatDoor
namespace Rows

/-- THE TIED CARD OF 'pleachlaw12.ShelfNames'. -/
def shelfNamesCard : Claim7 := { stood := { row := shelfNamesRow, standIns := [], harness := (true, "55dcbe16debce0683d0ead54c0c8fded65618e8924c21a9753402c4190fb1f45"), looks := true }, kinds := [], alts := [], laidByText := true, laidKinds := [.handle], laidTests := true, laidLooks := .later }
def ShelfNamesCardSaid : Prop := Claim7.holds Tryz.pinned (.plain (OpenSpec.ofChange shelfNamesSpec)) shelfNamesCard

/-- THE TIED CARD OF 'pleachlaw12.ShelfFull'. -/
def shelfFullCard : Claim7 := { stood := { row := shelfFullRow, standIns := [], harness := (true, "55dcbe16debce0683d0ead54c0c8fded65618e8924c21a9753402c4190fb1f45"), looks := true }, kinds := [], alts := [], laidByText := true, laidKinds := [.handle], laidTests := true, laidLooks := .later }
def ShelfFullCardSaid : Prop := Claim7.holds Tryz.pinned (.plain (OpenSpec.ofChange shelfFullSpec)) shelfFullCard

/-- THE TIED CARD OF 'pleachlaw13.ArkNames'. -/
def arkNamesCard : Claim7 := { stood := { row := arkNamesRow, standIns := [], harness := (true, "55dcbe16debce0683d0ead54c0c8fded65618e8924c21a9753402c4190fb1f45"), looks := true }, kinds := [], alts := [], laidByText := true, laidKinds := [.handle], laidTests := true, laidLooks := .later }
def ArkNamesCardSaid : Prop := Claim7.holds Tryz.pinned (.plain (OpenSpec.ofChange arkNamesSpec)) arkNamesCard

/-- THE TIED CARD OF 'pleachlaw13.ArkUnpacks'. -/
def arkUnpacksCard : Claim7 := { stood := { row := arkUnpacksRow, standIns := [], harness := (true, "55dcbe16debce0683d0ead54c0c8fded65618e8924c21a9753402c4190fb1f45"), looks := true }, kinds := [], alts := [], laidByText := true, laidKinds := [.handle], laidTests := true, laidLooks := .later }
def ArkUnpacksCardSaid : Prop := Claim7.holds Tryz.pinned (.plain (OpenSpec.ofChange arkUnpacksSpec)) arkUnpacksCard

/-- THE TIED CARD OF 'pleachlaw13.ArkTurned'. -/
def arkTurnedCard : Claim7 := { stood := { row := arkTurnedRow, standIns := [], harness := (true, "55dcbe16debce0683d0ead54c0c8fded65618e8924c21a9753402c4190fb1f45"), looks := true }, kinds := [], alts := [], laidByText := true, laidKinds := [.handle], laidTests := true, laidLooks := .later }
def ArkTurnedCardSaid : Prop := Claim7.holds Tryz.pinned (.plain (OpenSpec.ofChange arkTurnedSpec)) arkTurnedCard

/-- THE SECOND FORM's CARD OF 'pleachlaw12.ShelfNames'. -/
def shelfNamesUptoCard : Claim7 := { stood := { row := shelfNamesUptoRow, standIns := [], harness := (true, "55dcbe16debce0683d0ead54c0c8fded65618e8924c21a9753402c4190fb1f45"), looks := true }, kinds := [], alts := [], laidByText := true, laidKinds := [.handle], laidTests := true, laidLooks := .later }
def ShelfNamesUptoCardSaid : Prop := Claim7.holds Tryz.pinned (.plain (OpenSpec.upto shelfNamesSpec)) shelfNamesUptoCard

/-- THE SECOND FORM's CARD OF 'pleachlaw12.ShelfFull'. -/
def shelfFullUptoCard : Claim7 := { stood := { row := shelfFullUptoRow, standIns := [], harness := (true, "55dcbe16debce0683d0ead54c0c8fded65618e8924c21a9753402c4190fb1f45"), looks := true }, kinds := [], alts := [], laidByText := true, laidKinds := [.handle], laidTests := true, laidLooks := .later }
def ShelfFullUptoCardSaid : Prop := Claim7.holds Tryz.pinned (.plain (OpenSpec.upto shelfFullSpec)) shelfFullUptoCard

/-- THE SECOND FORM's CARD OF 'pleachlaw13.ArkNames'. -/
def arkNamesUptoCard : Claim7 := { stood := { row := arkNamesUptoRow, standIns := [], harness := (true, "55dcbe16debce0683d0ead54c0c8fded65618e8924c21a9753402c4190fb1f45"), looks := true }, kinds := [], alts := [], laidByText := true, laidKinds := [.handle], laidTests := true, laidLooks := .later }
def ArkNamesUptoCardSaid : Prop := Claim7.holds Tryz.pinned (.plain (OpenSpec.upto arkNamesSpec)) arkNamesUptoCard

/-- THE SECOND FORM's CARD OF 'pleachlaw13.ArkUnpacks'. -/
def arkUnpacksUptoCard : Claim7 := { stood := { row := arkUnpacksUptoRow, standIns := [], harness := (true, "55dcbe16debce0683d0ead54c0c8fded65618e8924c21a9753402c4190fb1f45"), looks := true }, kinds := [], alts := [], laidByText := true, laidKinds := [.handle], laidTests := true, laidLooks := .later }
def ArkUnpacksUptoCardSaid : Prop := Claim7.holds Tryz.pinned (.plain (OpenSpec.upto arkUnpacksSpec)) arkUnpacksUptoCard

/-- THE SECOND FORM's CARD OF 'pleachlaw13.ArkTurned'. -/
def arkTurnedUptoCard : Claim7 := { stood := { row := arkTurnedUptoRow, standIns := [], harness := (true, "55dcbe16debce0683d0ead54c0c8fded65618e8924c21a9753402c4190fb1f45"), looks := true }, kinds := [], alts := [], laidByText := true, laidKinds := [.handle], laidTests := true, laidLooks := .later }
def ArkTurnedUptoCardSaid : Prop := Claim7.holds Tryz.pinned (.plain (OpenSpec.upto arkTurnedSpec)) arkTurnedUptoCard
end Rows
end Go.Proofs.YtggiknehmoaimaaGreatDoor
