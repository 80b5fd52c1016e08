/-
  DERIVED. GIVEN WITH THE SEED: THE CARDS: each row of YtgicofpllopjmaaDoorRows.lean that lists a variable, with what it lists TIED to the program's text (the seventh form; the later family's looks); each row that meets fmt, with fmt's text TOLD by the authors' own Lean function (tested against real Go, not proved from fmt's source: count such statements apart). THE CARD IS WHAT COUNTS. Prove the row's statement (the work); the ties are given (YtgicofpllopjmaaDoorTie.lean); close each card by the builder's one call (the guide's Derived/Test/ToyasCard.lean, 'card_holds'). Laid BY PROGRAM, IN A SANDBOX (cutbox-door.mjs). By AI agents, Wed Nov 11 2026. No macro, syntax, notation, axiom, sorry.
-/
import Derived.Test.YtgicofpllopjmaaDoorRows
import GoSem.ClaimSeven
namespace Go.Proofs.YtgicofpllopjmaaDoor
namespace Rows

/-- THE TIED CARD OF 'additivelaw18.RegionPictures'. -/
def regionPicturesCard : Claim7 := { stood := { row := regionPicturesRow, standIns := [], harness := (true, "d7f6be0e9c720fb0fea7274c0dc3e730ad55da6ce1669a0de5f21f808e714b7f"), looks := false }, kinds := [], alts := [], laidByText := true, laidKinds := [.data, .pinned], laidTests := true, laidLooks := .later }
def RegionPicturesCardSaid : Prop := Claim7.holds Tryd.pinned (.plain (OpenSpec.ofChange regionPicturesSpec)) regionPicturesCard

/-- THE TIED CARD OF 'additivelaw18.RegionReads'. -/
def regionReadsCard : Claim7 := { stood := { row := regionReadsRow, standIns := [], harness := (true, "d7f6be0e9c720fb0fea7274c0dc3e730ad55da6ce1669a0de5f21f808e714b7f"), looks := false }, kinds := [], alts := [], laidByText := true, laidKinds := [.data, .pinned], laidTests := true, laidLooks := .later }
def RegionReadsCardSaid : Prop := Claim7.holds Tryd.pinned (.plain (OpenSpec.ofChange regionReadsSpec)) regionReadsCard

/-- THE TIED CARD OF 'additivelaw18.RegionLarge'. -/
def regionLargeCard : Claim7 := { stood := { row := regionLargeRow, standIns := [], harness := (true, "d7f6be0e9c720fb0fea7274c0dc3e730ad55da6ce1669a0de5f21f808e714b7f"), looks := false }, kinds := [], alts := [], laidByText := true, laidKinds := [.data, .pinned], laidTests := true, laidLooks := .later }
def RegionLargeCardSaid : Prop := Claim7.holds Tryd.pinned (.plain (OpenSpec.ofChange regionLargeSpec)) regionLargeCard

/-- THE TIED CARD OF 'additivelaw18.RegionDrawn'. -/
def regionDrawnCard : Claim7 := { stood := { row := regionDrawnRow, standIns := [], harness := (true, "d7f6be0e9c720fb0fea7274c0dc3e730ad55da6ce1669a0de5f21f808e714b7f"), looks := false }, kinds := [], alts := [], laidByText := true, laidKinds := [.data, .pinned], laidTests := true, laidLooks := .later }
def RegionDrawnCardSaid : Prop := Claim7.holds Tryd.pinned (.plain (OpenSpec.ofChange regionDrawnSpec)) regionDrawnCard

/-- THE SECOND FORM's CARD OF 'additivelaw18.RegionPictures'. -/
def regionPicturesUptoCard : Claim7 := { stood := { row := regionPicturesUptoRow, standIns := [], harness := (true, "d7f6be0e9c720fb0fea7274c0dc3e730ad55da6ce1669a0de5f21f808e714b7f"), looks := false }, kinds := [], alts := [], laidByText := true, laidKinds := [.data, .pinned], laidTests := true, laidLooks := .later }
def RegionPicturesUptoCardSaid : Prop := Claim7.holds Tryd.pinned (.plain (OpenSpec.upto regionPicturesSpec)) regionPicturesUptoCard

/-- THE SECOND FORM's CARD OF 'additivelaw18.RegionReads'. -/
def regionReadsUptoCard : Claim7 := { stood := { row := regionReadsUptoRow, standIns := [], harness := (true, "d7f6be0e9c720fb0fea7274c0dc3e730ad55da6ce1669a0de5f21f808e714b7f"), looks := false }, kinds := [], alts := [], laidByText := true, laidKinds := [.data, .pinned], laidTests := true, laidLooks := .later }
def RegionReadsUptoCardSaid : Prop := Claim7.holds Tryd.pinned (.plain (OpenSpec.upto regionReadsSpec)) regionReadsUptoCard

/-- THE SECOND FORM's CARD OF 'additivelaw18.RegionLarge'. -/
def regionLargeUptoCard : Claim7 := { stood := { row := regionLargeUptoRow, standIns := [], harness := (true, "d7f6be0e9c720fb0fea7274c0dc3e730ad55da6ce1669a0de5f21f808e714b7f"), looks := false }, kinds := [], alts := [], laidByText := true, laidKinds := [.data, .pinned], laidTests := true, laidLooks := .later }
def RegionLargeUptoCardSaid : Prop := Claim7.holds Tryd.pinned (.plain (OpenSpec.upto regionLargeSpec)) regionLargeUptoCard

/-- THE SECOND FORM's CARD OF 'additivelaw18.RegionDrawn'. -/
def regionDrawnUptoCard : Claim7 := { stood := { row := regionDrawnUptoRow, standIns := [], harness := (true, "d7f6be0e9c720fb0fea7274c0dc3e730ad55da6ce1669a0de5f21f808e714b7f"), looks := false }, kinds := [], alts := [], laidByText := true, laidKinds := [.data, .pinned], laidTests := true, laidLooks := .later }
def RegionDrawnUptoCardSaid : Prop := Claim7.holds Tryd.pinned (.plain (OpenSpec.upto regionDrawnSpec)) regionDrawnUptoCard
end Rows
end Go.Proofs.YtgicofpllopjmaaDoor
