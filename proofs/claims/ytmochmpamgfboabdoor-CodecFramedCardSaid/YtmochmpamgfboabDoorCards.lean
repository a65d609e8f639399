/-
  DERIVED. GIVEN WITH THE SEED: THE CARDS: each row of YtmochmpamgfboabDoorRows.lean that lists a variable, with what it lists TIED to the program's text (the seventh form; the later family's looks); each row that meets fmt, with fmt's text TOLD by the authors' own Lean function (tested against real Go, not proved from fmt's source: count such statements apart). THE CARD IS WHAT COUNTS. Prove the row's statement (the work); the ties are given (YtmochmpamgfboabDoorTie.lean); close each card by the builder's one call (the guide's Derived/Test/ToyasCard.lean, 'card_holds'). Laid BY PROGRAM, IN A SANDBOX (cutbox-door.mjs). By AI agents, Wed Nov 11 2026. No macro, syntax, notation, axiom, sorry.
-/
import Derived.Test.YtmochmpamgfboabDoorRows
import GoSem.ClaimSeven
namespace Go.Proofs.YtmochmpamgfboabDoor
namespace Rows

/-- THE TIED CARD OF 'trystlaw20.CodecNames'. -/
def codecNamesCard : Claim7 := { stood := { row := codecNamesRow, standIns := [], harness := (true, "3181ec4d8828e408f78342ec1f70f900bba0608e020fcd658d61c9212a596a65"), looks := true }, kinds := [], alts := [], laidByText := true, laidKinds := [.handle], laidTests := true, laidLooks := .later }
def CodecNamesCardSaid : Prop := Claim7.holds Tryd.pinned (.plain (OpenSpec.ofChange codecNamesSpec)) codecNamesCard

/-- THE TIED CARD OF 'trystlaw20.CodecFramed'. -/
def codecFramedCard : Claim7 := { stood := { row := codecFramedRow, standIns := [], harness := (true, "3181ec4d8828e408f78342ec1f70f900bba0608e020fcd658d61c9212a596a65"), looks := true }, kinds := [], alts := [], laidByText := true, laidKinds := [.handle], laidTests := true, laidLooks := .later }
def CodecFramedCardSaid : Prop := Claim7.holds Tryd.pinned (.plain (OpenSpec.ofChange codecFramedSpec)) codecFramedCard

/-- THE TIED CARD OF 'trystlaw20.CodecBack'. -/
def codecBackCard : Claim7 := { stood := { row := codecBackRow, standIns := [], harness := (true, "3181ec4d8828e408f78342ec1f70f900bba0608e020fcd658d61c9212a596a65"), looks := true }, kinds := [], alts := [], laidByText := true, laidKinds := [.handle], laidTests := true, laidLooks := .later }
def CodecBackCardSaid : Prop := Claim7.holds Tryd.pinned (.plain (OpenSpec.ofChange codecBackSpec)) codecBackCard

/-- THE TIED CARD OF 'trystlaw20.CodecOnce'. -/
def codecOnceCard : Claim7 := { stood := { row := codecOnceRow, standIns := [], harness := (true, "3181ec4d8828e408f78342ec1f70f900bba0608e020fcd658d61c9212a596a65"), looks := true }, kinds := [], alts := [], laidByText := true, laidKinds := [.handle], laidTests := true, laidLooks := .later }
def CodecOnceCardSaid : Prop := Claim7.holds Tryd.pinned (.plain (OpenSpec.ofChange codecOnceSpec)) codecOnceCard

/-- THE SECOND FORM's CARD OF 'trystlaw20.CodecNames'. -/
def codecNamesUptoCard : Claim7 := { stood := { row := codecNamesUptoRow, standIns := [], harness := (true, "3181ec4d8828e408f78342ec1f70f900bba0608e020fcd658d61c9212a596a65"), looks := true }, kinds := [], alts := [], laidByText := true, laidKinds := [.handle], laidTests := true, laidLooks := .later }
def CodecNamesUptoCardSaid : Prop := Claim7.holds Tryd.pinned (.plain (OpenSpec.upto codecNamesSpec)) codecNamesUptoCard

/-- THE SECOND FORM's CARD OF 'trystlaw20.CodecFramed'. -/
def codecFramedUptoCard : Claim7 := { stood := { row := codecFramedUptoRow, standIns := [], harness := (true, "3181ec4d8828e408f78342ec1f70f900bba0608e020fcd658d61c9212a596a65"), looks := true }, kinds := [], alts := [], laidByText := true, laidKinds := [.handle], laidTests := true, laidLooks := .later }
def CodecFramedUptoCardSaid : Prop := Claim7.holds Tryd.pinned (.plain (OpenSpec.upto codecFramedSpec)) codecFramedUptoCard

/-- THE SECOND FORM's CARD OF 'trystlaw20.CodecBack'. -/
def codecBackUptoCard : Claim7 := { stood := { row := codecBackUptoRow, standIns := [], harness := (true, "3181ec4d8828e408f78342ec1f70f900bba0608e020fcd658d61c9212a596a65"), looks := true }, kinds := [], alts := [], laidByText := true, laidKinds := [.handle], laidTests := true, laidLooks := .later }
def CodecBackUptoCardSaid : Prop := Claim7.holds Tryd.pinned (.plain (OpenSpec.upto codecBackSpec)) codecBackUptoCard

/-- THE SECOND FORM's CARD OF 'trystlaw20.CodecOnce'. -/
def codecOnceUptoCard : Claim7 := { stood := { row := codecOnceUptoRow, standIns := [], harness := (true, "3181ec4d8828e408f78342ec1f70f900bba0608e020fcd658d61c9212a596a65"), looks := true }, kinds := [], alts := [], laidByText := true, laidKinds := [.handle], laidTests := true, laidLooks := .later }
def CodecOnceUptoCardSaid : Prop := Claim7.holds Tryd.pinned (.plain (OpenSpec.upto codecOnceSpec)) codecOnceUptoCard
end Rows
end Go.Proofs.YtmochmpamgfboabDoor
