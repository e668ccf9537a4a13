/-
  DERIVED. GIVEN WITH THE SEED: THE CARDS: each row of YtoemipeomingaaaDoorRows.lean that lists a variable, with what it lists TIED to the program's text (the seventh form; the later family's looks); each row that meets fmt, with fmt's text TOLD by the authors' own Lean function (tested against real Go, not proved from fmt's source: count such statements apart). THE CARD IS WHAT COUNTS. Prove the row's statement (the work); the ties are given (YtoemipeomingaaaDoorTie.lean); close each card by the builder's one call (the guide's Derived/Test/ToyasCard.lean, 'card_holds'). Laid BY PROGRAM, IN A SANDBOX (cutbox-door.mjs). By AI agents, Wed Nov 11 2026. No macro, syntax, notation, axiom, sorry.
-/
import Derived.Test.YtoemipeomingaaaDoorRows
import GoSem.ClaimSeven
namespace Go.Proofs.YtoemipeomingaaaDoor
namespace Rows

/-- THE TIED CARD OF 'caravanlaw20.QueueReady'. -/
def queueReadyCard : Claim7 := { stood := { row := queueReadyRow, standIns := [], harness := (true, "36755cd7580face8c6a48b7694b1089122ffb07001cb94ad2b4ac71f3cddad08"), looks := false }, kinds := [], alts := [], laidByText := true, laidKinds := [.data, .pinned], laidTests := true, laidLooks := .later }
def QueueReadyCardSaid : Prop := Claim7.holds Tryd.pinned (.plain (OpenSpec.ofChange queueReadySpec)) queueReadyCard

/-- THE TIED CARD OF 'caravanlaw20.QueueBlocked'. -/
def queueBlockedCard : Claim7 := { stood := { row := queueBlockedRow, standIns := [], harness := (true, "36755cd7580face8c6a48b7694b1089122ffb07001cb94ad2b4ac71f3cddad08"), looks := false }, kinds := [], alts := [], laidByText := true, laidKinds := [.data, .pinned], laidTests := true, laidLooks := .later }
def QueueBlockedCardSaid : Prop := Claim7.holds Tryd.pinned (.plain (OpenSpec.ofChange queueBlockedSpec)) queueBlockedCard

/-- THE TIED CARD OF 'caravanlaw20.QueueKnown'. -/
def queueKnownCard : Claim7 := { stood := { row := queueKnownRow, standIns := [], harness := (true, "36755cd7580face8c6a48b7694b1089122ffb07001cb94ad2b4ac71f3cddad08"), looks := false }, kinds := [], alts := [], laidByText := true, laidKinds := [.data, .pinned], laidTests := true, laidLooks := .later }
def QueueKnownCardSaid : Prop := Claim7.holds Tryd.pinned (.plain (OpenSpec.ofChange queueKnownSpec)) queueKnownCard

/-- THE TIED CARD OF 'caravanlaw20.QueueTree'. -/
def queueTreeCard : Claim7 := { stood := { row := queueTreeRow, standIns := [], harness := (true, "36755cd7580face8c6a48b7694b1089122ffb07001cb94ad2b4ac71f3cddad08"), looks := false }, kinds := [], alts := [], laidByText := true, laidKinds := [.data, .pinned], laidTests := true, laidLooks := .later }
def QueueTreeCardSaid : Prop := Claim7.holds Tryd.pinned (.plain (OpenSpec.ofChange queueTreeSpec)) queueTreeCard

/-- THE TIED CARD OF 'caravanlaw20.QueueOrder'. -/
def queueOrderCard : Claim7 := { stood := { row := queueOrderRow, standIns := [], harness := (true, "36755cd7580face8c6a48b7694b1089122ffb07001cb94ad2b4ac71f3cddad08"), looks := false }, kinds := [], alts := [], laidByText := true, laidKinds := [.data, .pinned], laidTests := true, laidLooks := .later }
def QueueOrderCardSaid : Prop := Claim7.holds Tryd.pinned (.plain (OpenSpec.ofChange queueOrderSpec)) queueOrderCard

/-- THE TIED CARD OF 'caravanlaw20.QueueEnds'. -/
def queueEndsCard : Claim7 := { stood := { row := queueEndsRow, standIns := [], harness := (true, "36755cd7580face8c6a48b7694b1089122ffb07001cb94ad2b4ac71f3cddad08"), looks := false }, kinds := [], alts := [], laidByText := true, laidKinds := [.data, .pinned], laidTests := true, laidLooks := .later }
def QueueEndsCardSaid : Prop := Claim7.holds Tryd.pinned (.plain (OpenSpec.ofChange queueEndsSpec)) queueEndsCard

/-- THE SECOND FORM's CARD OF 'caravanlaw20.QueueReady'. -/
def queueReadyUptoCard : Claim7 := { stood := { row := queueReadyUptoRow, standIns := [], harness := (true, "36755cd7580face8c6a48b7694b1089122ffb07001cb94ad2b4ac71f3cddad08"), looks := false }, kinds := [], alts := [], laidByText := true, laidKinds := [.data, .pinned], laidTests := true, laidLooks := .later }
def QueueReadyUptoCardSaid : Prop := Claim7.holds Tryd.pinned (.plain (OpenSpec.upto queueReadySpec)) queueReadyUptoCard

/-- THE SECOND FORM's CARD OF 'caravanlaw20.QueueBlocked'. -/
def queueBlockedUptoCard : Claim7 := { stood := { row := queueBlockedUptoRow, standIns := [], harness := (true, "36755cd7580face8c6a48b7694b1089122ffb07001cb94ad2b4ac71f3cddad08"), looks := false }, kinds := [], alts := [], laidByText := true, laidKinds := [.data, .pinned], laidTests := true, laidLooks := .later }
def QueueBlockedUptoCardSaid : Prop := Claim7.holds Tryd.pinned (.plain (OpenSpec.upto queueBlockedSpec)) queueBlockedUptoCard

/-- THE SECOND FORM's CARD OF 'caravanlaw20.QueueKnown'. -/
def queueKnownUptoCard : Claim7 := { stood := { row := queueKnownUptoRow, standIns := [], harness := (true, "36755cd7580face8c6a48b7694b1089122ffb07001cb94ad2b4ac71f3cddad08"), looks := false }, kinds := [], alts := [], laidByText := true, laidKinds := [.data, .pinned], laidTests := true, laidLooks := .later }
def QueueKnownUptoCardSaid : Prop := Claim7.holds Tryd.pinned (.plain (OpenSpec.upto queueKnownSpec)) queueKnownUptoCard

/-- THE SECOND FORM's CARD OF 'caravanlaw20.QueueTree'. -/
def queueTreeUptoCard : Claim7 := { stood := { row := queueTreeUptoRow, standIns := [], harness := (true, "36755cd7580face8c6a48b7694b1089122ffb07001cb94ad2b4ac71f3cddad08"), looks := false }, kinds := [], alts := [], laidByText := true, laidKinds := [.data, .pinned], laidTests := true, laidLooks := .later }
def QueueTreeUptoCardSaid : Prop := Claim7.holds Tryd.pinned (.plain (OpenSpec.upto queueTreeSpec)) queueTreeUptoCard

/-- THE SECOND FORM's CARD OF 'caravanlaw20.QueueOrder'. -/
def queueOrderUptoCard : Claim7 := { stood := { row := queueOrderUptoRow, standIns := [], harness := (true, "36755cd7580face8c6a48b7694b1089122ffb07001cb94ad2b4ac71f3cddad08"), looks := false }, kinds := [], alts := [], laidByText := true, laidKinds := [.data, .pinned], laidTests := true, laidLooks := .later }
def QueueOrderUptoCardSaid : Prop := Claim7.holds Tryd.pinned (.plain (OpenSpec.upto queueOrderSpec)) queueOrderUptoCard

/-- THE SECOND FORM's CARD OF 'caravanlaw20.QueueEnds'. -/
def queueEndsUptoCard : Claim7 := { stood := { row := queueEndsUptoRow, standIns := [], harness := (true, "36755cd7580face8c6a48b7694b1089122ffb07001cb94ad2b4ac71f3cddad08"), looks := false }, kinds := [], alts := [], laidByText := true, laidKinds := [.data, .pinned], laidTests := true, laidLooks := .later }
def QueueEndsUptoCardSaid : Prop := Claim7.holds Tryd.pinned (.plain (OpenSpec.upto queueEndsSpec)) queueEndsUptoCard
end Rows
end Go.Proofs.YtoemipeomingaaaDoor
