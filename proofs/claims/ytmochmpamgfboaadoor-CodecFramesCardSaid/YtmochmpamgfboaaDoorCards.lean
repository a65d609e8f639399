/-
  DERIVED. GIVEN WITH THE SEED: THE CARDS: each row of YtmochmpamgfboaaDoorRows.lean that lists a variable, with what it lists TIED to the program's text (the seventh form; the later family's looks); each row that meets fmt, with fmt's text TOLD by the authors' own Lean function (tested against real Go, not proved from fmt's source: count such statements apart). THE CARD IS WHAT COUNTS. Prove the row's statement (the work); the ties are given (YtmochmpamgfboaaDoorTie.lean); close each card by the builder's one call (the guide's Derived/Test/ToyasCard.lean, 'card_holds'). Laid BY PROGRAM, IN A SANDBOX (cutbox-door.mjs). By AI agents, Wed Nov 11 2026. No macro, syntax, notation, axiom, sorry.
-/
import Derived.Test.YtmochmpamgfboaaDoorRows
import GoSem.ClaimSeven
namespace Go.Proofs.YtmochmpamgfboaaDoor
namespace Rows

/-- THE TIED CARD OF 'trystlaw20.CodecTalks'. -/
def codecTalksCard : Claim7 := { stood := { row := codecTalksRow, standIns := [], harness := (true, "4232e9b28d368ab6a52c4a409d0c868f4eb8f337e8aba82493afe2429d35a3dc"), looks := true }, kinds := [], alts := [], laidByText := true, laidKinds := [.handle], laidTests := true, laidLooks := .later }
def CodecTalksCardSaid : Prop := Claim7.holds Tryd.pinned (.plain (OpenSpec.ofChange codecTalksSpec)) codecTalksCard

/-- THE TIED CARD OF 'trystlaw20.CodecFrames'. -/
def codecFramesCard : Claim7 := { stood := { row := codecFramesRow, standIns := [], harness := (true, "4232e9b28d368ab6a52c4a409d0c868f4eb8f337e8aba82493afe2429d35a3dc"), looks := true }, kinds := [], alts := [], laidByText := true, laidKinds := [.handle], laidTests := true, laidLooks := .later }
def CodecFramesCardSaid : Prop := Claim7.holds Tryd.pinned (.plain (OpenSpec.ofChange codecFramesSpec)) codecFramesCard

/-- THE TIED CARD OF 'trystlaw20.CodecDials'. -/
def codecDialsCard : Claim7 := { stood := { row := codecDialsRow, standIns := [], harness := (true, "4232e9b28d368ab6a52c4a409d0c868f4eb8f337e8aba82493afe2429d35a3dc"), looks := true }, kinds := [], alts := [], laidByText := true, laidKinds := [.handle], laidTests := true, laidLooks := .later }
def CodecDialsCardSaid : Prop := Claim7.holds Tryd.pinned (.plain (OpenSpec.ofChange codecDialsSpec)) codecDialsCard

/-- THE TIED CARD OF 'trystlaw20.CodecSizes'. -/
def codecSizesCard : Claim7 := { stood := { row := codecSizesRow, standIns := [], harness := (true, "4232e9b28d368ab6a52c4a409d0c868f4eb8f337e8aba82493afe2429d35a3dc"), looks := true }, kinds := [], alts := [], laidByText := true, laidKinds := [.handle], laidTests := true, laidLooks := .later }
def CodecSizesCardSaid : Prop := Claim7.holds Tryd.pinned (.plain (OpenSpec.ofChange codecSizesSpec)) codecSizesCard

/-- THE TIED CARD OF 'trystlaw20.CodecPages'. -/
def codecPagesCard : Claim7 := { stood := { row := codecPagesRow, standIns := [], harness := (true, "4232e9b28d368ab6a52c4a409d0c868f4eb8f337e8aba82493afe2429d35a3dc"), looks := true }, kinds := [], alts := [], laidByText := true, laidKinds := [.handle], laidTests := true, laidLooks := .later }
def CodecPagesCardSaid : Prop := Claim7.holds Tryd.pinned (.plain (OpenSpec.ofChange codecPagesSpec)) codecPagesCard

/-- THE SECOND FORM's CARD OF 'trystlaw20.CodecTalks'. -/
def codecTalksUptoCard : Claim7 := { stood := { row := codecTalksUptoRow, standIns := [], harness := (true, "4232e9b28d368ab6a52c4a409d0c868f4eb8f337e8aba82493afe2429d35a3dc"), looks := true }, kinds := [], alts := [], laidByText := true, laidKinds := [.handle], laidTests := true, laidLooks := .later }
def CodecTalksUptoCardSaid : Prop := Claim7.holds Tryd.pinned (.plain (OpenSpec.upto codecTalksSpec)) codecTalksUptoCard

/-- THE SECOND FORM's CARD OF 'trystlaw20.CodecFrames'. -/
def codecFramesUptoCard : Claim7 := { stood := { row := codecFramesUptoRow, standIns := [], harness := (true, "4232e9b28d368ab6a52c4a409d0c868f4eb8f337e8aba82493afe2429d35a3dc"), looks := true }, kinds := [], alts := [], laidByText := true, laidKinds := [.handle], laidTests := true, laidLooks := .later }
def CodecFramesUptoCardSaid : Prop := Claim7.holds Tryd.pinned (.plain (OpenSpec.upto codecFramesSpec)) codecFramesUptoCard

/-- THE SECOND FORM's CARD OF 'trystlaw20.CodecDials'. -/
def codecDialsUptoCard : Claim7 := { stood := { row := codecDialsUptoRow, standIns := [], harness := (true, "4232e9b28d368ab6a52c4a409d0c868f4eb8f337e8aba82493afe2429d35a3dc"), looks := true }, kinds := [], alts := [], laidByText := true, laidKinds := [.handle], laidTests := true, laidLooks := .later }
def CodecDialsUptoCardSaid : Prop := Claim7.holds Tryd.pinned (.plain (OpenSpec.upto codecDialsSpec)) codecDialsUptoCard

/-- THE SECOND FORM's CARD OF 'trystlaw20.CodecSizes'. -/
def codecSizesUptoCard : Claim7 := { stood := { row := codecSizesUptoRow, standIns := [], harness := (true, "4232e9b28d368ab6a52c4a409d0c868f4eb8f337e8aba82493afe2429d35a3dc"), looks := true }, kinds := [], alts := [], laidByText := true, laidKinds := [.handle], laidTests := true, laidLooks := .later }
def CodecSizesUptoCardSaid : Prop := Claim7.holds Tryd.pinned (.plain (OpenSpec.upto codecSizesSpec)) codecSizesUptoCard

/-- THE SECOND FORM's CARD OF 'trystlaw20.CodecPages'. -/
def codecPagesUptoCard : Claim7 := { stood := { row := codecPagesUptoRow, standIns := [], harness := (true, "4232e9b28d368ab6a52c4a409d0c868f4eb8f337e8aba82493afe2429d35a3dc"), looks := true }, kinds := [], alts := [], laidByText := true, laidKinds := [.handle], laidTests := true, laidLooks := .later }
def CodecPagesUptoCardSaid : Prop := Claim7.holds Tryd.pinned (.plain (OpenSpec.upto codecPagesSpec)) codecPagesUptoCard
end Rows
end Go.Proofs.YtmochmpamgfboaaDoor
