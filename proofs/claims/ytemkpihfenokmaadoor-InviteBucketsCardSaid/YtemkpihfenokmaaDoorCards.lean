/-
  DERIVED. GIVEN WITH THE SEED: THE CARDS: each row of YtemkpihfenokmaaDoorRows.lean that lists a variable, with what it lists TIED to the program's text (the seventh form; the later family's looks); each row that meets fmt, with fmt's text TOLD by the authors' own Lean function (tested against real Go, not proved from fmt's source: count such statements apart). THE CARD IS WHAT COUNTS. Prove the row's statement (the work); the ties are given (YtemkpihfenokmaaDoorTie.lean); close each card by the builder's one call (the guide's Derived/Test/ToyasCard.lean, 'card_holds'). Laid BY PROGRAM, IN A SANDBOX (cutbox-door.mjs). By AI agents, Wed Nov 11 2026. No macro, syntax, notation, axiom, sorry.
-/
import Derived.Test.YtemkpihfenokmaaDoorRows
import GoSem.ClaimSeven
namespace Go.Proofs.YtemkpihfenokmaaDoor
namespace Rows

/-- THE TIED CARD OF 'trystlaw22.InviteBuckets'. -/
def inviteBucketsCard : Claim7 := { stood := { row := inviteBucketsRow, standIns := [], harness := (true, "ff84a94894c2921e9987cfc35d418c1caac430003671d70da15049779f757825"), looks := false }, kinds := [], alts := [], laidByText := true, laidKinds := [.data, .data], laidTests := true, laidLooks := .later }
def InviteBucketsCardSaid : Prop := Claim7.holds Tryd.pinned (.plain (OpenSpec.ofChange inviteBucketsSpec)) inviteBucketsCard

/-- THE SECOND FORM's CARD OF 'trystlaw22.InviteBuckets'. -/
def inviteBucketsUptoCard : Claim7 := { stood := { row := inviteBucketsUptoRow, standIns := [], harness := (true, "ff84a94894c2921e9987cfc35d418c1caac430003671d70da15049779f757825"), looks := false }, kinds := [], alts := [], laidByText := true, laidKinds := [.data, .data], laidTests := true, laidLooks := .later }
def InviteBucketsUptoCardSaid : Prop := Claim7.holds Tryd.pinned (.plain (OpenSpec.upto inviteBucketsSpec)) inviteBucketsUptoCard
end Rows
end Go.Proofs.YtemkpihfenokmaaDoor
