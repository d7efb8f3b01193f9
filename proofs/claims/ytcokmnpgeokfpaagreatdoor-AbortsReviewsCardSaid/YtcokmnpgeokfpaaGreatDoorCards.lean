/-
  DERIVED. GIVEN WITH THE SEED: THE CARDS: each row of YtcokmnpgeokfpaaGreatDoorRows.lean that lists a variable, with what it lists TIED to the program's text (the seventh form; the later family's looks); each row that meets fmt, with fmt's text TOLD by the authors' own Lean function (tested against real Go, not proved from fmt's source: count such statements apart). THE CARD IS WHAT COUNTS. Prove the row's statement (the work); the ties are given (YtcokmnpgeokfpaaGreatDoorTie.lean); close each card by the builder's one call (the guide's Derived/Test/ToyasCard.lean, 'card_holds'). Laid BY PROGRAM, IN A SANDBOX (cutbox-door.mjs). By AI agents, Wed Nov 11 2026. No macro, syntax, notation, axiom, sorry.
-/
import Derived.Test.YtcokmnpgeokfpaaGreatDoorRows
import GoSem.ClaimSeven
namespace Go.Proofs.YtcokmnpgeokfpaaGreatDoor
namespace Rows

/-- THE TIED CARD OF 'pointcodelaw28.ComponentsKnown'. -/
def componentsKnownCard : Claim7 := { stood := { row := componentsKnownRow, standIns := [], harness := (true, "636417eaad8edcda55e358d67abfcaf76db2dcd5b9a0031e0f302d89dead0a47"), looks := true }, kinds := [], alts := [], laidByText := true, laidKinds := [.data, .data, .data, .sentinel, .sentinel], laidTests := true, laidLooks := .later }
def ComponentsKnownCardSaid : Prop := Claim7.holds Tryz.pinned (.plain (OpenSpec.ofChange componentsKnownSpec)) componentsKnownCard

/-- THE TIED CARD OF 'pointcodelaw31.AbortsReviews'. -/
def abortsReviewsCard : Claim7 := { stood := { row := abortsReviewsRow, standIns := [], harness := (true, "636417eaad8edcda55e358d67abfcaf76db2dcd5b9a0031e0f302d89dead0a47"), looks := true }, kinds := [], alts := [], laidByText := true, laidKinds := [.data, .data, .data, .sentinel, .sentinel], laidTests := true, laidLooks := .later }
def AbortsReviewsCardSaid : Prop := Claim7.holds Tryz.pinned (.plain (OpenSpec.ofChange abortsReviewsSpec)) abortsReviewsCard

/-- THE TIED CARD OF 'pointcodelaw31.AbortsRest'. -/
def abortsRestCard : Claim7 := { stood := { row := abortsRestRow, standIns := [], harness := (true, "636417eaad8edcda55e358d67abfcaf76db2dcd5b9a0031e0f302d89dead0a47"), looks := true }, kinds := [], alts := [], laidByText := true, laidKinds := [.data, .data, .data, .sentinel, .sentinel], laidTests := true, laidLooks := .later }
def AbortsRestCardSaid : Prop := Claim7.holds Tryz.pinned (.plain (OpenSpec.ofChange abortsRestSpec)) abortsRestCard

/-- THE TIED CARD OF 'pointcodelaw31.AbortsKnown'. -/
def abortsKnownCard : Claim7 := { stood := { row := abortsKnownRow, standIns := [], harness := (true, "636417eaad8edcda55e358d67abfcaf76db2dcd5b9a0031e0f302d89dead0a47"), looks := true }, kinds := [], alts := [], laidByText := true, laidKinds := [.data, .data, .data, .sentinel, .sentinel], laidTests := true, laidLooks := .later }
def AbortsKnownCardSaid : Prop := Claim7.holds Tryz.pinned (.plain (OpenSpec.ofChange abortsKnownSpec)) abortsKnownCard

/-- THE SECOND FORM's CARD OF 'pointcodelaw28.ComponentsKnown'. -/
def componentsKnownUptoCard : Claim7 := { stood := { row := componentsKnownUptoRow, standIns := [], harness := (true, "636417eaad8edcda55e358d67abfcaf76db2dcd5b9a0031e0f302d89dead0a47"), looks := true }, kinds := [], alts := [], laidByText := true, laidKinds := [.data, .data, .data, .sentinel, .sentinel], laidTests := true, laidLooks := .later }
def ComponentsKnownUptoCardSaid : Prop := Claim7.holds Tryz.pinned (.plain (OpenSpec.upto componentsKnownSpec)) componentsKnownUptoCard

/-- THE SECOND FORM's CARD OF 'pointcodelaw31.AbortsReviews'. -/
def abortsReviewsUptoCard : Claim7 := { stood := { row := abortsReviewsUptoRow, standIns := [], harness := (true, "636417eaad8edcda55e358d67abfcaf76db2dcd5b9a0031e0f302d89dead0a47"), looks := true }, kinds := [], alts := [], laidByText := true, laidKinds := [.data, .data, .data, .sentinel, .sentinel], laidTests := true, laidLooks := .later }
def AbortsReviewsUptoCardSaid : Prop := Claim7.holds Tryz.pinned (.plain (OpenSpec.upto abortsReviewsSpec)) abortsReviewsUptoCard

/-- THE SECOND FORM's CARD OF 'pointcodelaw31.AbortsRest'. -/
def abortsRestUptoCard : Claim7 := { stood := { row := abortsRestUptoRow, standIns := [], harness := (true, "636417eaad8edcda55e358d67abfcaf76db2dcd5b9a0031e0f302d89dead0a47"), looks := true }, kinds := [], alts := [], laidByText := true, laidKinds := [.data, .data, .data, .sentinel, .sentinel], laidTests := true, laidLooks := .later }
def AbortsRestUptoCardSaid : Prop := Claim7.holds Tryz.pinned (.plain (OpenSpec.upto abortsRestSpec)) abortsRestUptoCard

/-- THE SECOND FORM's CARD OF 'pointcodelaw31.AbortsKnown'. -/
def abortsKnownUptoCard : Claim7 := { stood := { row := abortsKnownUptoRow, standIns := [], harness := (true, "636417eaad8edcda55e358d67abfcaf76db2dcd5b9a0031e0f302d89dead0a47"), looks := true }, kinds := [], alts := [], laidByText := true, laidKinds := [.data, .data, .data, .sentinel, .sentinel], laidTests := true, laidLooks := .later }
def AbortsKnownUptoCardSaid : Prop := Claim7.holds Tryz.pinned (.plain (OpenSpec.upto abortsKnownSpec)) abortsKnownUptoCard
end Rows
end Go.Proofs.YtcokmnpgeokfpaaGreatDoor
