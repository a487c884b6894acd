/-
  DERIVED. GIVEN WITH THE SEED: THE CARDS: each row of YtpniggmdokkkcaaGreatDoorRows.lean that lists a variable, with what it lists TIED to the program's text (the seventh form; the later family's looks); each row that meets fmt, with fmt's text TOLD by the authors' own Lean function (tested against real Go, not proved from fmt's source: count such statements apart). THE CARD IS WHAT COUNTS. Prove the row's statement (the work); the ties are given (YtpniggmdokkkcaaGreatDoorTie.lean); close each card by the builder's one call (the guide's Derived/Test/ToyasCard.lean, 'card_holds'). Laid BY PROGRAM, IN A SANDBOX (cutbox-door.mjs). By AI agents, Wed Nov 11 2026. No macro, syntax, notation, axiom, sorry.
-/
import Derived.Test.YtpniggmdokkkcaaGreatDoorRows
import GoSem.ClaimSeven
namespace Go.Proofs.YtpniggmdokkkcaaGreatDoor
namespace Rows

/-- THE TIED CARD OF 'chatelainelaw22.LocksPlays'. -/
def locksPlaysCard : Claim7 := { stood := { row := locksPlaysRow, standIns := [], harness := (true, "d888ca4c99136da969a5888e161eec93c0577a4f6d5ef10e58a6c6d09c57c117"), looks := true }, kinds := [], alts := [], laidByText := true, laidKinds := [.data, .handle, .pinned], laidTests := true, laidLooks := .later }
def LocksPlaysCardSaid : Prop := Claim7.holds Tryz.pinned (.plain (OpenSpec.ofChange locksPlaysSpec)) locksPlaysCard

/-- THE TIED CARD OF 'chatelainelaw22.LocksApart'. -/
def locksApartCard : Claim7 := { stood := { row := locksApartRow, standIns := [], harness := (true, "d888ca4c99136da969a5888e161eec93c0577a4f6d5ef10e58a6c6d09c57c117"), looks := true }, kinds := [], alts := [], laidByText := true, laidKinds := [.data, .handle, .pinned], laidTests := true, laidLooks := .later }
def LocksApartCardSaid : Prop := Claim7.holds Tryz.pinned (.plain (OpenSpec.ofChange locksApartSpec)) locksApartCard

/-- THE TIED CARD OF 'chatelainelaw22.LocksLoads'. -/
def locksLoadsCard : Claim7 := { stood := { row := locksLoadsRow, standIns := [], harness := (true, "d888ca4c99136da969a5888e161eec93c0577a4f6d5ef10e58a6c6d09c57c117"), looks := true }, kinds := [], alts := [], laidByText := true, laidKinds := [.data, .handle, .pinned], laidTests := true, laidLooks := .later }
def LocksLoadsCardSaid : Prop := Claim7.holds Tryz.pinned (.plain (OpenSpec.ofChange locksLoadsSpec)) locksLoadsCard

/-- THE SECOND FORM's CARD OF 'chatelainelaw22.LocksPlays'. -/
def locksPlaysUptoCard : Claim7 := { stood := { row := locksPlaysUptoRow, standIns := [], harness := (true, "d888ca4c99136da969a5888e161eec93c0577a4f6d5ef10e58a6c6d09c57c117"), looks := true }, kinds := [], alts := [], laidByText := true, laidKinds := [.data, .handle, .pinned], laidTests := true, laidLooks := .later }
def LocksPlaysUptoCardSaid : Prop := Claim7.holds Tryz.pinned (.plain (OpenSpec.upto locksPlaysSpec)) locksPlaysUptoCard

/-- THE SECOND FORM's CARD OF 'chatelainelaw22.LocksApart'. -/
def locksApartUptoCard : Claim7 := { stood := { row := locksApartUptoRow, standIns := [], harness := (true, "d888ca4c99136da969a5888e161eec93c0577a4f6d5ef10e58a6c6d09c57c117"), looks := true }, kinds := [], alts := [], laidByText := true, laidKinds := [.data, .handle, .pinned], laidTests := true, laidLooks := .later }
def LocksApartUptoCardSaid : Prop := Claim7.holds Tryz.pinned (.plain (OpenSpec.upto locksApartSpec)) locksApartUptoCard

/-- THE SECOND FORM's CARD OF 'chatelainelaw22.LocksLoads'. -/
def locksLoadsUptoCard : Claim7 := { stood := { row := locksLoadsUptoRow, standIns := [], harness := (true, "d888ca4c99136da969a5888e161eec93c0577a4f6d5ef10e58a6c6d09c57c117"), looks := true }, kinds := [], alts := [], laidByText := true, laidKinds := [.data, .handle, .pinned], laidTests := true, laidLooks := .later }
def LocksLoadsUptoCardSaid : Prop := Claim7.holds Tryz.pinned (.plain (OpenSpec.upto locksLoadsSpec)) locksLoadsUptoCard
end Rows
end Go.Proofs.YtpniggmdokkkcaaGreatDoor
