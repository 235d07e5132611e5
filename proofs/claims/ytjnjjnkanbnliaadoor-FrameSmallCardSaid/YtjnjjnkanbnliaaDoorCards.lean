/-
  DERIVED. GIVEN WITH THE SEED: THE CARDS: each row of YtjnjjnkanbnliaaDoorRows.lean that lists a variable, with what it lists TIED to the program's text (the seventh form; the later family's looks); each row that meets fmt, with fmt's text TOLD by the authors' own Lean function (tested against real Go, not proved from fmt's source: count such statements apart). THE CARD IS WHAT COUNTS. Prove the row's statement (the work); the ties are given (YtjnjjnkanbnliaaDoorTie.lean); close each card by the builder's one call (the guide's Derived/Test/ToyasCard.lean, 'card_holds'). Laid BY PROGRAM, IN A SANDBOX (cutbox-door.mjs). By AI agents, Wed Nov 11 2026. No macro, syntax, notation, axiom, sorry.
-/
import Derived.Test.YtjnjjnkanbnliaaDoorRows
import GoSem.ClaimSeven
namespace Go.Proofs.YtjnjjnkanbnliaaDoor
namespace Rows

/-- THE TIED CARD OF 'nacellelaw17.FrameTells'. -/
def frameTellsCard : Claim7 := { stood := { row := frameTellsRow, standIns := [], harness := (true, "68fd5e8b63b233fbef04420c74811df56bc3bae715f1394d1023e3c3d235b45f"), looks := false }, kinds := [], alts := [], laidByText := true, laidKinds := [.data], laidTests := true, laidLooks := .later }
def FrameTellsCardSaid : Prop := Claim7.holds Tryd.pinned (.plain (OpenSpec.ofChange frameTellsSpec)) frameTellsCard

/-- THE TIED CARD OF 'nacellelaw17.FrameReads'. -/
def frameReadsCard : Claim7 := { stood := { row := frameReadsRow, standIns := [], harness := (true, "68fd5e8b63b233fbef04420c74811df56bc3bae715f1394d1023e3c3d235b45f"), looks := false }, kinds := [], alts := [], laidByText := true, laidKinds := [.data], laidTests := true, laidLooks := .later }
def FrameReadsCardSaid : Prop := Claim7.holds Tryd.pinned (.plain (OpenSpec.ofChange frameReadsSpec)) frameReadsCard

/-- THE TIED CARD OF 'nacellelaw17.FrameSmall'. -/
def frameSmallCard : Claim7 := { stood := { row := frameSmallRow, standIns := [], harness := (true, "68fd5e8b63b233fbef04420c74811df56bc3bae715f1394d1023e3c3d235b45f"), looks := false }, kinds := [], alts := [], laidByText := true, laidKinds := [.data], laidTests := true, laidLooks := .later }
def FrameSmallCardSaid : Prop := Claim7.holds Tryd.pinned (.plain (OpenSpec.ofChange frameSmallSpec)) frameSmallCard

/-- THE TIED CARD OF 'nacellelaw17.FrameBurst'. -/
def frameBurstCard : Claim7 := { stood := { row := frameBurstRow, standIns := [], harness := (true, "68fd5e8b63b233fbef04420c74811df56bc3bae715f1394d1023e3c3d235b45f"), looks := false }, kinds := [], alts := [], laidByText := true, laidKinds := [.data], laidTests := true, laidLooks := .later }
def FrameBurstCardSaid : Prop := Claim7.holds Tryd.pinned (.plain (OpenSpec.ofChange frameBurstSpec)) frameBurstCard

/-- THE TIED CARD OF 'nacellelaw17.FrameBack'. -/
def frameBackCard : Claim7 := { stood := { row := frameBackRow, standIns := [], harness := (true, "68fd5e8b63b233fbef04420c74811df56bc3bae715f1394d1023e3c3d235b45f"), looks := false }, kinds := [], alts := [], laidByText := true, laidKinds := [.data], laidTests := true, laidLooks := .later }
def FrameBackCardSaid : Prop := Claim7.holds Tryd.pinned (.plain (OpenSpec.ofChange frameBackSpec)) frameBackCard

/-- THE TIED CARD OF 'nacellelaw17.FrameFields'. -/
def frameFieldsCard : Claim7 := { stood := { row := frameFieldsRow, standIns := [], harness := (true, "68fd5e8b63b233fbef04420c74811df56bc3bae715f1394d1023e3c3d235b45f"), looks := false }, kinds := [], alts := [], laidByText := true, laidKinds := [.data], laidTests := true, laidLooks := .later }
def FrameFieldsCardSaid : Prop := Claim7.holds Tryd.pinned (.plain (OpenSpec.ofChange frameFieldsSpec)) frameFieldsCard

/-- THE TIED CARD OF 'nacellelaw17.FrameMasks'. -/
def frameMasksCard : Claim7 := { stood := { row := frameMasksRow, standIns := [], harness := (true, "68fd5e8b63b233fbef04420c74811df56bc3bae715f1394d1023e3c3d235b45f"), looks := false }, kinds := [], alts := [], laidByText := true, laidKinds := [.data], laidTests := true, laidLooks := .later }
def FrameMasksCardSaid : Prop := Claim7.holds Tryd.pinned (.plain (OpenSpec.ofChange frameMasksSpec)) frameMasksCard

/-- THE TIED CARD OF 'nacellelaw17.FrameBad'. -/
def frameBadCard : Claim7 := { stood := { row := frameBadRow, standIns := [], harness := (true, "68fd5e8b63b233fbef04420c74811df56bc3bae715f1394d1023e3c3d235b45f"), looks := false }, kinds := [], alts := [], laidByText := true, laidKinds := [.data], laidTests := true, laidLooks := .later }
def FrameBadCardSaid : Prop := Claim7.holds Tryd.pinned (.plain (OpenSpec.ofChange frameBadSpec)) frameBadCard

/-- THE SECOND FORM's CARD OF 'nacellelaw17.FrameTells'. -/
def frameTellsUptoCard : Claim7 := { stood := { row := frameTellsUptoRow, standIns := [], harness := (true, "68fd5e8b63b233fbef04420c74811df56bc3bae715f1394d1023e3c3d235b45f"), looks := false }, kinds := [], alts := [], laidByText := true, laidKinds := [.data], laidTests := true, laidLooks := .later }
def FrameTellsUptoCardSaid : Prop := Claim7.holds Tryd.pinned (.plain (OpenSpec.upto frameTellsSpec)) frameTellsUptoCard

/-- THE SECOND FORM's CARD OF 'nacellelaw17.FrameReads'. -/
def frameReadsUptoCard : Claim7 := { stood := { row := frameReadsUptoRow, standIns := [], harness := (true, "68fd5e8b63b233fbef04420c74811df56bc3bae715f1394d1023e3c3d235b45f"), looks := false }, kinds := [], alts := [], laidByText := true, laidKinds := [.data], laidTests := true, laidLooks := .later }
def FrameReadsUptoCardSaid : Prop := Claim7.holds Tryd.pinned (.plain (OpenSpec.upto frameReadsSpec)) frameReadsUptoCard

/-- THE SECOND FORM's CARD OF 'nacellelaw17.FrameSmall'. -/
def frameSmallUptoCard : Claim7 := { stood := { row := frameSmallUptoRow, standIns := [], harness := (true, "68fd5e8b63b233fbef04420c74811df56bc3bae715f1394d1023e3c3d235b45f"), looks := false }, kinds := [], alts := [], laidByText := true, laidKinds := [.data], laidTests := true, laidLooks := .later }
def FrameSmallUptoCardSaid : Prop := Claim7.holds Tryd.pinned (.plain (OpenSpec.upto frameSmallSpec)) frameSmallUptoCard

/-- THE SECOND FORM's CARD OF 'nacellelaw17.FrameBurst'. -/
def frameBurstUptoCard : Claim7 := { stood := { row := frameBurstUptoRow, standIns := [], harness := (true, "68fd5e8b63b233fbef04420c74811df56bc3bae715f1394d1023e3c3d235b45f"), looks := false }, kinds := [], alts := [], laidByText := true, laidKinds := [.data], laidTests := true, laidLooks := .later }
def FrameBurstUptoCardSaid : Prop := Claim7.holds Tryd.pinned (.plain (OpenSpec.upto frameBurstSpec)) frameBurstUptoCard

/-- THE SECOND FORM's CARD OF 'nacellelaw17.FrameBack'. -/
def frameBackUptoCard : Claim7 := { stood := { row := frameBackUptoRow, standIns := [], harness := (true, "68fd5e8b63b233fbef04420c74811df56bc3bae715f1394d1023e3c3d235b45f"), looks := false }, kinds := [], alts := [], laidByText := true, laidKinds := [.data], laidTests := true, laidLooks := .later }
def FrameBackUptoCardSaid : Prop := Claim7.holds Tryd.pinned (.plain (OpenSpec.upto frameBackSpec)) frameBackUptoCard

/-- THE SECOND FORM's CARD OF 'nacellelaw17.FrameFields'. -/
def frameFieldsUptoCard : Claim7 := { stood := { row := frameFieldsUptoRow, standIns := [], harness := (true, "68fd5e8b63b233fbef04420c74811df56bc3bae715f1394d1023e3c3d235b45f"), looks := false }, kinds := [], alts := [], laidByText := true, laidKinds := [.data], laidTests := true, laidLooks := .later }
def FrameFieldsUptoCardSaid : Prop := Claim7.holds Tryd.pinned (.plain (OpenSpec.upto frameFieldsSpec)) frameFieldsUptoCard

/-- THE SECOND FORM's CARD OF 'nacellelaw17.FrameMasks'. -/
def frameMasksUptoCard : Claim7 := { stood := { row := frameMasksUptoRow, standIns := [], harness := (true, "68fd5e8b63b233fbef04420c74811df56bc3bae715f1394d1023e3c3d235b45f"), looks := false }, kinds := [], alts := [], laidByText := true, laidKinds := [.data], laidTests := true, laidLooks := .later }
def FrameMasksUptoCardSaid : Prop := Claim7.holds Tryd.pinned (.plain (OpenSpec.upto frameMasksSpec)) frameMasksUptoCard

/-- THE SECOND FORM's CARD OF 'nacellelaw17.FrameBad'. -/
def frameBadUptoCard : Claim7 := { stood := { row := frameBadUptoRow, standIns := [], harness := (true, "68fd5e8b63b233fbef04420c74811df56bc3bae715f1394d1023e3c3d235b45f"), looks := false }, kinds := [], alts := [], laidByText := true, laidKinds := [.data], laidTests := true, laidLooks := .later }
def FrameBadUptoCardSaid : Prop := Claim7.holds Tryd.pinned (.plain (OpenSpec.upto frameBadSpec)) frameBadUptoCard
end Rows
end Go.Proofs.YtjnjjnkanbnliaaDoor
