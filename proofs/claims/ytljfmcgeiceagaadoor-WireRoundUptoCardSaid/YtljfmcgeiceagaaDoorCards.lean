/-
  DERIVED. GIVEN WITH THE SEED: THE CARDS: each row of YtljfmcgeiceagaaDoorRows.lean that lists a variable, with what it lists TIED to the program's text (the seventh form; the later family's looks); each row that meets fmt, with fmt's text TOLD by the authors' own Lean function (tested against real Go, not proved from fmt's source: count such statements apart). THE CARD IS WHAT COUNTS. Prove the row's statement (the work); the ties are given (YtljfmcgeiceagaaDoorTie.lean); close each card by the builder's one call (the guide's Derived/Test/ToyasCard.lean, 'card_holds'). Laid BY PROGRAM, IN A SANDBOX (cutbox-door.mjs). By AI agents, Wed Nov 11 2026. No macro, syntax, notation, axiom, sorry.
-/
import Derived.Test.YtljfmcgeiceagaaDoorRows
import GoSem.ClaimSeven
namespace Go.Proofs.YtljfmcgeiceagaaDoor
namespace Rows

/-- THE TIED CARD OF 'chroniclelaw16.WireRequests'. -/
def wireRequestsCard : Claim7 := { stood := { row := wireRequestsRow, standIns := [], harness := (true, "7425149a2e0e147105b0be88a918982390ff4d5ce390aa22e797acd4023bce31"), looks := false }, kinds := [], alts := [], laidByText := true, laidKinds := [.data], laidTests := true, laidLooks := .later }
def WireRequestsCardSaid : Prop := Claim7.holds Tryd.pinned (.plain (OpenSpec.ofChange wireRequestsSpec)) wireRequestsCard

/-- THE TIED CARD OF 'chroniclelaw16.WireRound'. -/
def wireRoundCard : Claim7 := { stood := { row := wireRoundRow, standIns := [], harness := (true, "7425149a2e0e147105b0be88a918982390ff4d5ce390aa22e797acd4023bce31"), looks := false }, kinds := [], alts := [], laidByText := true, laidKinds := [.data], laidTests := true, laidLooks := .later }
def WireRoundCardSaid : Prop := Claim7.holds Tryd.pinned (.plain (OpenSpec.ofChange wireRoundSpec)) wireRoundCard

/-- THE TIED CARD OF 'chroniclelaw16.WireDamage'. -/
def wireDamageCard : Claim7 := { stood := { row := wireDamageRow, standIns := [], harness := (true, "7425149a2e0e147105b0be88a918982390ff4d5ce390aa22e797acd4023bce31"), looks := false }, kinds := [], alts := [], laidByText := true, laidKinds := [.data], laidTests := true, laidLooks := .later }
def WireDamageCardSaid : Prop := Claim7.holds Tryd.pinned (.plain (OpenSpec.ofChange wireDamageSpec)) wireDamageCard

/-- THE TIED CARD OF 'chroniclelaw16.WireHeads'. -/
def wireHeadsCard : Claim7 := { stood := { row := wireHeadsRow, standIns := [], harness := (true, "7425149a2e0e147105b0be88a918982390ff4d5ce390aa22e797acd4023bce31"), looks := false }, kinds := [], alts := [], laidByText := true, laidKinds := [.data], laidTests := true, laidLooks := .later }
def WireHeadsCardSaid : Prop := Claim7.holds Tryd.pinned (.plain (OpenSpec.ofChange wireHeadsSpec)) wireHeadsCard

/-- THE TIED CARD OF 'chroniclelaw16.WireRoom'. -/
def wireRoomCard : Claim7 := { stood := { row := wireRoomRow, standIns := [], harness := (true, "7425149a2e0e147105b0be88a918982390ff4d5ce390aa22e797acd4023bce31"), looks := false }, kinds := [], alts := [], laidByText := true, laidKinds := [.data], laidTests := true, laidLooks := .later }
def WireRoomCardSaid : Prop := Claim7.holds Tryd.pinned (.plain (OpenSpec.ofChange wireRoomSpec)) wireRoomCard

/-- THE SECOND FORM's CARD OF 'chroniclelaw16.WireRequests'. -/
def wireRequestsUptoCard : Claim7 := { stood := { row := wireRequestsUptoRow, standIns := [], harness := (true, "7425149a2e0e147105b0be88a918982390ff4d5ce390aa22e797acd4023bce31"), looks := false }, kinds := [], alts := [], laidByText := true, laidKinds := [.data], laidTests := true, laidLooks := .later }
def WireRequestsUptoCardSaid : Prop := Claim7.holds Tryd.pinned (.plain (OpenSpec.upto wireRequestsSpec)) wireRequestsUptoCard

/-- THE SECOND FORM's CARD OF 'chroniclelaw16.WireRound'. -/
def wireRoundUptoCard : Claim7 := { stood := { row := wireRoundUptoRow, standIns := [], harness := (true, "7425149a2e0e147105b0be88a918982390ff4d5ce390aa22e797acd4023bce31"), looks := false }, kinds := [], alts := [], laidByText := true, laidKinds := [.data], laidTests := true, laidLooks := .later }
def WireRoundUptoCardSaid : Prop := Claim7.holds Tryd.pinned (.plain (OpenSpec.upto wireRoundSpec)) wireRoundUptoCard

/-- THE SECOND FORM's CARD OF 'chroniclelaw16.WireDamage'. -/
def wireDamageUptoCard : Claim7 := { stood := { row := wireDamageUptoRow, standIns := [], harness := (true, "7425149a2e0e147105b0be88a918982390ff4d5ce390aa22e797acd4023bce31"), looks := false }, kinds := [], alts := [], laidByText := true, laidKinds := [.data], laidTests := true, laidLooks := .later }
def WireDamageUptoCardSaid : Prop := Claim7.holds Tryd.pinned (.plain (OpenSpec.upto wireDamageSpec)) wireDamageUptoCard

/-- THE SECOND FORM's CARD OF 'chroniclelaw16.WireHeads'. -/
def wireHeadsUptoCard : Claim7 := { stood := { row := wireHeadsUptoRow, standIns := [], harness := (true, "7425149a2e0e147105b0be88a918982390ff4d5ce390aa22e797acd4023bce31"), looks := false }, kinds := [], alts := [], laidByText := true, laidKinds := [.data], laidTests := true, laidLooks := .later }
def WireHeadsUptoCardSaid : Prop := Claim7.holds Tryd.pinned (.plain (OpenSpec.upto wireHeadsSpec)) wireHeadsUptoCard

/-- THE SECOND FORM's CARD OF 'chroniclelaw16.WireRoom'. -/
def wireRoomUptoCard : Claim7 := { stood := { row := wireRoomUptoRow, standIns := [], harness := (true, "7425149a2e0e147105b0be88a918982390ff4d5ce390aa22e797acd4023bce31"), looks := false }, kinds := [], alts := [], laidByText := true, laidKinds := [.data], laidTests := true, laidLooks := .later }
def WireRoomUptoCardSaid : Prop := Claim7.holds Tryd.pinned (.plain (OpenSpec.upto wireRoomSpec)) wireRoomUptoCard
end Rows
end Go.Proofs.YtljfmcgeiceagaaDoor
