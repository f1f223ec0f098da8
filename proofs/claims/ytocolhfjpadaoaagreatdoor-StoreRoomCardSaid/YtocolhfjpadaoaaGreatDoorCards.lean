/-
  DERIVED. GIVEN WITH THE SEED: THE CARDS: each row of YtocolhfjpadaoaaGreatDoorRows.lean that lists a variable, with what it lists TIED to the program's text (the seventh form; the later family's looks); each row that meets fmt, with fmt's text TOLD by the authors' own Lean function (tested against real Go, not proved from fmt's source: count such statements apart). THE CARD IS WHAT COUNTS. Prove the row's statement (the work); the ties are given (YtocolhfjpadaoaaGreatDoorTie.lean); close each card by the builder's one call (the guide's Derived/Test/ToyasCard.lean, 'card_holds'). Laid BY PROGRAM, IN A SANDBOX (cutbox-door.mjs). By AI agents, Wed Nov 11 2026. No macro, syntax, notation, axiom, sorry.
-/
import Derived.Test.YtocolhfjpadaoaaGreatDoorRows
import GoSem.ClaimSeven
namespace Go.Proofs.YtocolhfjpadaoaaGreatDoor
namespace Rows

/-- THE TIED CARD OF 'bastillelaw35.RecordShown'. -/
def recordShownCard : Claim7 := { stood := { row := recordShownRow, standIns := [], harness := (true, "fe1f7d1f983a81012574920abb1da18ae93e3d4109d71de23d1a3f9481a94022"), looks := false }, kinds := [], alts := [], laidByText := true, laidKinds := [.data, .data, .data], laidTests := true, laidLooks := .later }
def RecordShownCardSaid : Prop := Claim7.holds Tryz.pinned (.plain (OpenSpec.ofChange recordShownSpec)) recordShownCard

/-- THE TIED CARD OF 'bastillelaw22.StoreRoom'. -/
def storeRoomCard : Claim7 := { stood := { row := storeRoomRow, standIns := [], harness := (true, "fe1f7d1f983a81012574920abb1da18ae93e3d4109d71de23d1a3f9481a94022"), looks := false }, kinds := [], alts := [], laidByText := true, laidKinds := [.data], laidTests := true, laidLooks := .later }
def StoreRoomCardSaid : Prop := Claim7.holds Tryz.pinned (.plain (OpenSpec.ofChange storeRoomSpec)) storeRoomCard

/-- THE TIED CARD OF 'bastillelaw22.StoreKeeps'. -/
def storeKeepsCard : Claim7 := { stood := { row := storeKeepsRow, standIns := [], harness := (true, "fe1f7d1f983a81012574920abb1da18ae93e3d4109d71de23d1a3f9481a94022"), looks := false }, kinds := [], alts := [], laidByText := true, laidKinds := [.data], laidTests := true, laidLooks := .later }
def StoreKeepsCardSaid : Prop := Claim7.holds Tryz.pinned (.plain (OpenSpec.ofChange storeKeepsSpec)) storeKeepsCard

/-- THE TIED CARD OF 'bastillelaw22.StoreCompact'. -/
def storeCompactCard : Claim7 := { stood := { row := storeCompactRow, standIns := [], harness := (true, "fe1f7d1f983a81012574920abb1da18ae93e3d4109d71de23d1a3f9481a94022"), looks := false }, kinds := [], alts := [], laidByText := true, laidKinds := [.data], laidTests := true, laidLooks := .later }
def StoreCompactCardSaid : Prop := Claim7.holds Tryz.pinned (.plain (OpenSpec.ofChange storeCompactSpec)) storeCompactCard

/-- THE TIED CARD OF 'bastillelaw22.StoreWhole'. -/
def storeWholeCard : Claim7 := { stood := { row := storeWholeRow, standIns := [], harness := (true, "fe1f7d1f983a81012574920abb1da18ae93e3d4109d71de23d1a3f9481a94022"), looks := false }, kinds := [], alts := [], laidByText := true, laidKinds := [.data], laidTests := true, laidLooks := .later }
def StoreWholeCardSaid : Prop := Claim7.holds Tryz.pinned (.plain (OpenSpec.ofChange storeWholeSpec)) storeWholeCard

/-- THE TIED CARD OF 'bastillelaw22.StoreDoes'. -/
def storeDoesCard : Claim7 := { stood := { row := storeDoesRow, standIns := [], harness := (true, "fe1f7d1f983a81012574920abb1da18ae93e3d4109d71de23d1a3f9481a94022"), looks := false }, kinds := [], alts := [], laidByText := true, laidKinds := [.data], laidTests := true, laidLooks := .later }
def StoreDoesCardSaid : Prop := Claim7.holds Tryz.pinned (.plain (OpenSpec.ofChange storeDoesSpec)) storeDoesCard

/-- THE TIED CARD OF 'bastillelaw36.ServerReplies'. -/
def serverRepliesCard : Claim7 := { stood := { row := serverRepliesRow, standIns := [], harness := (true, "fe1f7d1f983a81012574920abb1da18ae93e3d4109d71de23d1a3f9481a94022"), looks := false }, kinds := [], alts := [], laidByText := true, laidKinds := [.data], laidTests := true, laidLooks := .later }
def ServerRepliesCardSaid : Prop := Claim7.holds Tryz.pinned (.plain (OpenSpec.ofChange serverRepliesSpec)) serverRepliesCard

/-- THE TIED CARD OF 'bastillelaw36.ServerWire'. -/
def serverWireCard : Claim7 := { stood := { row := serverWireRow, standIns := [], harness := (true, "fe1f7d1f983a81012574920abb1da18ae93e3d4109d71de23d1a3f9481a94022"), looks := false }, kinds := [], alts := [], laidByText := true, laidKinds := [.data], laidTests := true, laidLooks := .later }
def ServerWireCardSaid : Prop := Claim7.holds Tryz.pinned (.plain (OpenSpec.ofChange serverWireSpec)) serverWireCard

/-- THE TIED CARD OF 'bastillelaw36.ServerHandles'. -/
def serverHandlesCard : Claim7 := { stood := { row := serverHandlesRow, standIns := [], harness := (true, "fe1f7d1f983a81012574920abb1da18ae93e3d4109d71de23d1a3f9481a94022"), looks := false }, kinds := [], alts := [], laidByText := true, laidKinds := [.data], laidTests := true, laidLooks := .later }
def ServerHandlesCardSaid : Prop := Claim7.holds Tryz.pinned (.plain (OpenSpec.ofChange serverHandlesSpec)) serverHandlesCard

/-- THE TIED CARD OF 'bastillelaw36.ServerAgain'. -/
def serverAgainCard : Claim7 := { stood := { row := serverAgainRow, standIns := [], harness := (true, "fe1f7d1f983a81012574920abb1da18ae93e3d4109d71de23d1a3f9481a94022"), looks := false }, kinds := [], alts := [], laidByText := true, laidKinds := [.data], laidTests := true, laidLooks := .later }
def ServerAgainCardSaid : Prop := Claim7.holds Tryz.pinned (.plain (OpenSpec.ofChange serverAgainSpec)) serverAgainCard

/-- THE TIED CARD OF 'bastillelaw36.ServerLine'. -/
def serverLineCard : Claim7 := { stood := { row := serverLineRow, standIns := [], harness := (true, "fe1f7d1f983a81012574920abb1da18ae93e3d4109d71de23d1a3f9481a94022"), looks := false }, kinds := [], alts := [], laidByText := true, laidKinds := [.data], laidTests := true, laidLooks := .later }
def ServerLineCardSaid : Prop := Claim7.holds Tryz.pinned (.plain (OpenSpec.ofChange serverLineSpec)) serverLineCard

/-- THE SECOND FORM's CARD OF 'bastillelaw35.RecordShown'. -/
def recordShownUptoCard : Claim7 := { stood := { row := recordShownUptoRow, standIns := [], harness := (true, "fe1f7d1f983a81012574920abb1da18ae93e3d4109d71de23d1a3f9481a94022"), looks := false }, kinds := [], alts := [], laidByText := true, laidKinds := [.data, .data, .data], laidTests := true, laidLooks := .later }
def RecordShownUptoCardSaid : Prop := Claim7.holds Tryz.pinned (.plain (OpenSpec.upto recordShownSpec)) recordShownUptoCard

/-- THE SECOND FORM's CARD OF 'bastillelaw22.StoreRoom'. -/
def storeRoomUptoCard : Claim7 := { stood := { row := storeRoomUptoRow, standIns := [], harness := (true, "fe1f7d1f983a81012574920abb1da18ae93e3d4109d71de23d1a3f9481a94022"), looks := false }, kinds := [], alts := [], laidByText := true, laidKinds := [.data], laidTests := true, laidLooks := .later }
def StoreRoomUptoCardSaid : Prop := Claim7.holds Tryz.pinned (.plain (OpenSpec.upto storeRoomSpec)) storeRoomUptoCard

/-- THE SECOND FORM's CARD OF 'bastillelaw22.StoreKeeps'. -/
def storeKeepsUptoCard : Claim7 := { stood := { row := storeKeepsUptoRow, standIns := [], harness := (true, "fe1f7d1f983a81012574920abb1da18ae93e3d4109d71de23d1a3f9481a94022"), looks := false }, kinds := [], alts := [], laidByText := true, laidKinds := [.data], laidTests := true, laidLooks := .later }
def StoreKeepsUptoCardSaid : Prop := Claim7.holds Tryz.pinned (.plain (OpenSpec.upto storeKeepsSpec)) storeKeepsUptoCard

/-- THE SECOND FORM's CARD OF 'bastillelaw22.StoreCompact'. -/
def storeCompactUptoCard : Claim7 := { stood := { row := storeCompactUptoRow, standIns := [], harness := (true, "fe1f7d1f983a81012574920abb1da18ae93e3d4109d71de23d1a3f9481a94022"), looks := false }, kinds := [], alts := [], laidByText := true, laidKinds := [.data], laidTests := true, laidLooks := .later }
def StoreCompactUptoCardSaid : Prop := Claim7.holds Tryz.pinned (.plain (OpenSpec.upto storeCompactSpec)) storeCompactUptoCard

/-- THE SECOND FORM's CARD OF 'bastillelaw22.StoreWhole'. -/
def storeWholeUptoCard : Claim7 := { stood := { row := storeWholeUptoRow, standIns := [], harness := (true, "fe1f7d1f983a81012574920abb1da18ae93e3d4109d71de23d1a3f9481a94022"), looks := false }, kinds := [], alts := [], laidByText := true, laidKinds := [.data], laidTests := true, laidLooks := .later }
def StoreWholeUptoCardSaid : Prop := Claim7.holds Tryz.pinned (.plain (OpenSpec.upto storeWholeSpec)) storeWholeUptoCard

/-- THE SECOND FORM's CARD OF 'bastillelaw22.StoreDoes'. -/
def storeDoesUptoCard : Claim7 := { stood := { row := storeDoesUptoRow, standIns := [], harness := (true, "fe1f7d1f983a81012574920abb1da18ae93e3d4109d71de23d1a3f9481a94022"), looks := false }, kinds := [], alts := [], laidByText := true, laidKinds := [.data], laidTests := true, laidLooks := .later }
def StoreDoesUptoCardSaid : Prop := Claim7.holds Tryz.pinned (.plain (OpenSpec.upto storeDoesSpec)) storeDoesUptoCard

/-- THE SECOND FORM's CARD OF 'bastillelaw36.ServerReplies'. -/
def serverRepliesUptoCard : Claim7 := { stood := { row := serverRepliesUptoRow, standIns := [], harness := (true, "fe1f7d1f983a81012574920abb1da18ae93e3d4109d71de23d1a3f9481a94022"), looks := false }, kinds := [], alts := [], laidByText := true, laidKinds := [.data], laidTests := true, laidLooks := .later }
def ServerRepliesUptoCardSaid : Prop := Claim7.holds Tryz.pinned (.plain (OpenSpec.upto serverRepliesSpec)) serverRepliesUptoCard

/-- THE SECOND FORM's CARD OF 'bastillelaw36.ServerWire'. -/
def serverWireUptoCard : Claim7 := { stood := { row := serverWireUptoRow, standIns := [], harness := (true, "fe1f7d1f983a81012574920abb1da18ae93e3d4109d71de23d1a3f9481a94022"), looks := false }, kinds := [], alts := [], laidByText := true, laidKinds := [.data], laidTests := true, laidLooks := .later }
def ServerWireUptoCardSaid : Prop := Claim7.holds Tryz.pinned (.plain (OpenSpec.upto serverWireSpec)) serverWireUptoCard

/-- THE SECOND FORM's CARD OF 'bastillelaw36.ServerHandles'. -/
def serverHandlesUptoCard : Claim7 := { stood := { row := serverHandlesUptoRow, standIns := [], harness := (true, "fe1f7d1f983a81012574920abb1da18ae93e3d4109d71de23d1a3f9481a94022"), looks := false }, kinds := [], alts := [], laidByText := true, laidKinds := [.data], laidTests := true, laidLooks := .later }
def ServerHandlesUptoCardSaid : Prop := Claim7.holds Tryz.pinned (.plain (OpenSpec.upto serverHandlesSpec)) serverHandlesUptoCard

/-- THE SECOND FORM's CARD OF 'bastillelaw36.ServerAgain'. -/
def serverAgainUptoCard : Claim7 := { stood := { row := serverAgainUptoRow, standIns := [], harness := (true, "fe1f7d1f983a81012574920abb1da18ae93e3d4109d71de23d1a3f9481a94022"), looks := false }, kinds := [], alts := [], laidByText := true, laidKinds := [.data], laidTests := true, laidLooks := .later }
def ServerAgainUptoCardSaid : Prop := Claim7.holds Tryz.pinned (.plain (OpenSpec.upto serverAgainSpec)) serverAgainUptoCard

/-- THE SECOND FORM's CARD OF 'bastillelaw36.ServerLine'. -/
def serverLineUptoCard : Claim7 := { stood := { row := serverLineUptoRow, standIns := [], harness := (true, "fe1f7d1f983a81012574920abb1da18ae93e3d4109d71de23d1a3f9481a94022"), looks := false }, kinds := [], alts := [], laidByText := true, laidKinds := [.data], laidTests := true, laidLooks := .later }
def ServerLineUptoCardSaid : Prop := Claim7.holds Tryz.pinned (.plain (OpenSpec.upto serverLineSpec)) serverLineUptoCard
end Rows
end Go.Proofs.YtocolhfjpadaoaaGreatDoor
