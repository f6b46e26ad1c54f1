/-
  DERIVED. GIVEN WITH THE SEED: THE CARDS: each row of YtkolhdlmpjehfaaDoorRows.lean that lists a variable, with what it lists TIED to the program's text (the seventh form; the later family's looks); each row that meets fmt, with fmt's text TOLD by the authors' own Lean function (tested against real Go, not proved from fmt's source: count such statements apart). THE CARD IS WHAT COUNTS. Prove the row's statement (the work); the ties are given (YtkolhdlmpjehfaaDoorTie.lean); close each card by the builder's one call (the guide's Derived/Test/ToyasCard.lean, 'card_holds'). Laid BY PROGRAM, IN A SANDBOX (cutbox-door.mjs). By AI agents, Wed Nov 11 2026. No macro, syntax, notation, axiom, sorry.
-/
import Derived.Test.YtkolhdlmpjehfaaDoorRows
import GoSem.ClaimSeven
namespace Go.Proofs.YtkolhdlmpjehfaaDoor
namespace Rows

/-- THE TIED CARD OF 'laws.FnTakeAllOne'. -/
def fnTakeAllOneCard : Claim7 := { stood := { row := fnTakeAllOneRow, standIns := [], harness := (true, "48408080c52d8bfef2ada29263aadb8a6d50ec2355b7a1a3b0a9928aed6e21ed"), looks := false }, kinds := [], alts := [], laidByText := true, laidKinds := [.data, .data], laidTests := true, laidLooks := .later }
def FnTakeAllOneCardSaid : Prop := Claim7.holds Tryd.pinned (.plain (OpenSpec.ofChange fnTakeAllOneSpec)) fnTakeAllOneCard

/-- THE TIED CARD OF 'laws.FnTakeAllTwice'. -/
def fnTakeAllTwiceCard : Claim7 := { stood := { row := fnTakeAllTwiceRow, standIns := [], harness := (true, "48408080c52d8bfef2ada29263aadb8a6d50ec2355b7a1a3b0a9928aed6e21ed"), looks := false }, kinds := [], alts := [], laidByText := true, laidKinds := [.data, .data], laidTests := true, laidLooks := .later }
def FnTakeAllTwiceCardSaid : Prop := Claim7.holds Tryd.pinned (.plain (OpenSpec.ofChange fnTakeAllTwiceSpec)) fnTakeAllTwiceCard

/-- THE TIED CARD OF 'laws.FnTakeAll'. -/
def fnTakeAllCard : Claim7 := { stood := { row := fnTakeAllRow, standIns := [], harness := (true, "48408080c52d8bfef2ada29263aadb8a6d50ec2355b7a1a3b0a9928aed6e21ed"), looks := false }, kinds := [], alts := [], laidByText := true, laidKinds := [.data, .data], laidTests := true, laidLooks := .later }
def FnTakeAllCardSaid : Prop := Claim7.holds Tryd.pinned (.plain (OpenSpec.ofChange fnTakeAllSpec)) fnTakeAllCard

/-- THE TIED CARD OF 'laws.FnLocksForTake'. -/
def fnLocksForTakeCard : Claim7 := { stood := { row := fnLocksForTakeRow, standIns := [], harness := (true, "48408080c52d8bfef2ada29263aadb8a6d50ec2355b7a1a3b0a9928aed6e21ed"), looks := false }, kinds := [], alts := [], laidByText := true, laidKinds := [.data, .data], laidTests := true, laidLooks := .later }
def FnLocksForTakeCardSaid : Prop := Claim7.holds Tryd.pinned (.plain (OpenSpec.ofChange fnLocksForTakeSpec)) fnLocksForTakeCard

/-- THE TIED CARD OF 'laws.FnGrainFaultOne'. -/
def fnGrainFaultOneCard : Claim7 := { stood := { row := fnGrainFaultOneRow, standIns := [], harness := (true, "48408080c52d8bfef2ada29263aadb8a6d50ec2355b7a1a3b0a9928aed6e21ed"), looks := false }, kinds := [], alts := [], laidByText := true, laidKinds := [.data, .data], laidTests := true, laidLooks := .later }
def FnGrainFaultOneCardSaid : Prop := Claim7.holds Tryd.pinned (.plain (OpenSpec.ofChange fnGrainFaultOneSpec)) fnGrainFaultOneCard

/-- THE TIED CARD OF 'laws.FnGrainFault'. -/
def fnGrainFaultCard : Claim7 := { stood := { row := fnGrainFaultRow, standIns := [], harness := (true, "48408080c52d8bfef2ada29263aadb8a6d50ec2355b7a1a3b0a9928aed6e21ed"), looks := false }, kinds := [], alts := [], laidByText := true, laidKinds := [.data, .data], laidTests := true, laidLooks := .later }
def FnGrainFaultCardSaid : Prop := Claim7.holds Tryd.pinned (.plain (OpenSpec.ofChange fnGrainFaultSpec)) fnGrainFaultCard

/-- THE TIED CARD OF 'laws.FnMayReadFree'. -/
def fnMayReadFreeCard : Claim7 := { stood := { row := fnMayReadFreeRow, standIns := [], harness := (true, "48408080c52d8bfef2ada29263aadb8a6d50ec2355b7a1a3b0a9928aed6e21ed"), looks := false }, kinds := [], alts := [], laidByText := true, laidKinds := [.data, .data], laidTests := true, laidLooks := .later }
def FnMayReadFreeCardSaid : Prop := Claim7.holds Tryd.pinned (.plain (OpenSpec.ofChange fnMayReadFreeSpec)) fnMayReadFreeCard

/-- THE TIED CARD OF 'laws.FnMayRead'. -/
def fnMayReadCard : Claim7 := { stood := { row := fnMayReadRow, standIns := [], harness := (true, "48408080c52d8bfef2ada29263aadb8a6d50ec2355b7a1a3b0a9928aed6e21ed"), looks := false }, kinds := [], alts := [], laidByText := true, laidKinds := [.data, .data], laidTests := true, laidLooks := .later }
def FnMayReadCardSaid : Prop := Claim7.holds Tryd.pinned (.plain (OpenSpec.ofChange fnMayReadSpec)) fnMayReadCard

/-- THE TIED CARD OF 'laws.FnMayReadApart'. -/
def fnMayReadApartCard : Claim7 := { stood := { row := fnMayReadApartRow, standIns := [], harness := (true, "48408080c52d8bfef2ada29263aadb8a6d50ec2355b7a1a3b0a9928aed6e21ed"), looks := false }, kinds := [], alts := [], laidByText := true, laidKinds := [.data, .data], laidTests := true, laidLooks := .later }
def FnMayReadApartCardSaid : Prop := Claim7.holds Tryd.pinned (.plain (OpenSpec.ofChange fnMayReadApartSpec)) fnMayReadApartCard

/-- THE TIED CARD OF 'laws.FnMayWriteApart'. -/
def fnMayWriteApartCard : Claim7 := { stood := { row := fnMayWriteApartRow, standIns := [], harness := (true, "48408080c52d8bfef2ada29263aadb8a6d50ec2355b7a1a3b0a9928aed6e21ed"), looks := false }, kinds := [], alts := [], laidByText := true, laidKinds := [.data, .data], laidTests := true, laidLooks := .later }
def FnMayWriteApartCardSaid : Prop := Claim7.holds Tryd.pinned (.plain (OpenSpec.ofChange fnMayWriteApartSpec)) fnMayWriteApartCard

/-- THE TIED CARD OF 'laws.FnMayReadLock'. -/
def fnMayReadLockCard : Claim7 := { stood := { row := fnMayReadLockRow, standIns := [], harness := (true, "48408080c52d8bfef2ada29263aadb8a6d50ec2355b7a1a3b0a9928aed6e21ed"), looks := false }, kinds := [], alts := [], laidByText := true, laidKinds := [.data, .data], laidTests := true, laidLooks := .later }
def FnMayReadLockCardSaid : Prop := Claim7.holds Tryd.pinned (.plain (OpenSpec.ofChange fnMayReadLockSpec)) fnMayReadLockCard

/-- THE TIED CARD OF 'laws.FnGrainFaultFree'. -/
def fnGrainFaultFreeCard : Claim7 := { stood := { row := fnGrainFaultFreeRow, standIns := [], harness := (true, "48408080c52d8bfef2ada29263aadb8a6d50ec2355b7a1a3b0a9928aed6e21ed"), looks := false }, kinds := [], alts := [], laidByText := true, laidKinds := [.data, .data], laidTests := true, laidLooks := .later }
def FnGrainFaultFreeCardSaid : Prop := Claim7.holds Tryd.pinned (.plain (OpenSpec.ofChange fnGrainFaultFreeSpec)) fnGrainFaultFreeCard

/-- THE TIED CARD OF 'laws.FnMayWrite'. -/
def fnMayWriteCard : Claim7 := { stood := { row := fnMayWriteRow, standIns := [], harness := (true, "48408080c52d8bfef2ada29263aadb8a6d50ec2355b7a1a3b0a9928aed6e21ed"), looks := false }, kinds := [], alts := [], laidByText := true, laidKinds := [.data, .data], laidTests := true, laidLooks := .later }
def FnMayWriteCardSaid : Prop := Claim7.holds Tryd.pinned (.plain (OpenSpec.ofChange fnMayWriteSpec)) fnMayWriteCard

/-- THE SECOND FORM's CARD OF 'laws.FnTakeAllOne'. -/
def fnTakeAllOneUptoCard : Claim7 := { stood := { row := fnTakeAllOneUptoRow, standIns := [], harness := (true, "48408080c52d8bfef2ada29263aadb8a6d50ec2355b7a1a3b0a9928aed6e21ed"), looks := false }, kinds := [], alts := [], laidByText := true, laidKinds := [.data, .data], laidTests := true, laidLooks := .later }
def FnTakeAllOneUptoCardSaid : Prop := Claim7.holds Tryd.pinned (.plain (OpenSpec.upto fnTakeAllOneSpec)) fnTakeAllOneUptoCard

/-- THE SECOND FORM's CARD OF 'laws.FnTakeAllTwice'. -/
def fnTakeAllTwiceUptoCard : Claim7 := { stood := { row := fnTakeAllTwiceUptoRow, standIns := [], harness := (true, "48408080c52d8bfef2ada29263aadb8a6d50ec2355b7a1a3b0a9928aed6e21ed"), looks := false }, kinds := [], alts := [], laidByText := true, laidKinds := [.data, .data], laidTests := true, laidLooks := .later }
def FnTakeAllTwiceUptoCardSaid : Prop := Claim7.holds Tryd.pinned (.plain (OpenSpec.upto fnTakeAllTwiceSpec)) fnTakeAllTwiceUptoCard

/-- THE SECOND FORM's CARD OF 'laws.FnTakeAll'. -/
def fnTakeAllUptoCard : Claim7 := { stood := { row := fnTakeAllUptoRow, standIns := [], harness := (true, "48408080c52d8bfef2ada29263aadb8a6d50ec2355b7a1a3b0a9928aed6e21ed"), looks := false }, kinds := [], alts := [], laidByText := true, laidKinds := [.data, .data], laidTests := true, laidLooks := .later }
def FnTakeAllUptoCardSaid : Prop := Claim7.holds Tryd.pinned (.plain (OpenSpec.upto fnTakeAllSpec)) fnTakeAllUptoCard

/-- THE SECOND FORM's CARD OF 'laws.FnLocksForTake'. -/
def fnLocksForTakeUptoCard : Claim7 := { stood := { row := fnLocksForTakeUptoRow, standIns := [], harness := (true, "48408080c52d8bfef2ada29263aadb8a6d50ec2355b7a1a3b0a9928aed6e21ed"), looks := false }, kinds := [], alts := [], laidByText := true, laidKinds := [.data, .data], laidTests := true, laidLooks := .later }
def FnLocksForTakeUptoCardSaid : Prop := Claim7.holds Tryd.pinned (.plain (OpenSpec.upto fnLocksForTakeSpec)) fnLocksForTakeUptoCard

/-- THE SECOND FORM's CARD OF 'laws.FnGrainFaultOne'. -/
def fnGrainFaultOneUptoCard : Claim7 := { stood := { row := fnGrainFaultOneUptoRow, standIns := [], harness := (true, "48408080c52d8bfef2ada29263aadb8a6d50ec2355b7a1a3b0a9928aed6e21ed"), looks := false }, kinds := [], alts := [], laidByText := true, laidKinds := [.data, .data], laidTests := true, laidLooks := .later }
def FnGrainFaultOneUptoCardSaid : Prop := Claim7.holds Tryd.pinned (.plain (OpenSpec.upto fnGrainFaultOneSpec)) fnGrainFaultOneUptoCard

/-- THE SECOND FORM's CARD OF 'laws.FnGrainFault'. -/
def fnGrainFaultUptoCard : Claim7 := { stood := { row := fnGrainFaultUptoRow, standIns := [], harness := (true, "48408080c52d8bfef2ada29263aadb8a6d50ec2355b7a1a3b0a9928aed6e21ed"), looks := false }, kinds := [], alts := [], laidByText := true, laidKinds := [.data, .data], laidTests := true, laidLooks := .later }
def FnGrainFaultUptoCardSaid : Prop := Claim7.holds Tryd.pinned (.plain (OpenSpec.upto fnGrainFaultSpec)) fnGrainFaultUptoCard

/-- THE SECOND FORM's CARD OF 'laws.FnMayReadFree'. -/
def fnMayReadFreeUptoCard : Claim7 := { stood := { row := fnMayReadFreeUptoRow, standIns := [], harness := (true, "48408080c52d8bfef2ada29263aadb8a6d50ec2355b7a1a3b0a9928aed6e21ed"), looks := false }, kinds := [], alts := [], laidByText := true, laidKinds := [.data, .data], laidTests := true, laidLooks := .later }
def FnMayReadFreeUptoCardSaid : Prop := Claim7.holds Tryd.pinned (.plain (OpenSpec.upto fnMayReadFreeSpec)) fnMayReadFreeUptoCard

/-- THE SECOND FORM's CARD OF 'laws.FnMayRead'. -/
def fnMayReadUptoCard : Claim7 := { stood := { row := fnMayReadUptoRow, standIns := [], harness := (true, "48408080c52d8bfef2ada29263aadb8a6d50ec2355b7a1a3b0a9928aed6e21ed"), looks := false }, kinds := [], alts := [], laidByText := true, laidKinds := [.data, .data], laidTests := true, laidLooks := .later }
def FnMayReadUptoCardSaid : Prop := Claim7.holds Tryd.pinned (.plain (OpenSpec.upto fnMayReadSpec)) fnMayReadUptoCard

/-- THE SECOND FORM's CARD OF 'laws.FnMayReadApart'. -/
def fnMayReadApartUptoCard : Claim7 := { stood := { row := fnMayReadApartUptoRow, standIns := [], harness := (true, "48408080c52d8bfef2ada29263aadb8a6d50ec2355b7a1a3b0a9928aed6e21ed"), looks := false }, kinds := [], alts := [], laidByText := true, laidKinds := [.data, .data], laidTests := true, laidLooks := .later }
def FnMayReadApartUptoCardSaid : Prop := Claim7.holds Tryd.pinned (.plain (OpenSpec.upto fnMayReadApartSpec)) fnMayReadApartUptoCard

/-- THE SECOND FORM's CARD OF 'laws.FnMayWriteApart'. -/
def fnMayWriteApartUptoCard : Claim7 := { stood := { row := fnMayWriteApartUptoRow, standIns := [], harness := (true, "48408080c52d8bfef2ada29263aadb8a6d50ec2355b7a1a3b0a9928aed6e21ed"), looks := false }, kinds := [], alts := [], laidByText := true, laidKinds := [.data, .data], laidTests := true, laidLooks := .later }
def FnMayWriteApartUptoCardSaid : Prop := Claim7.holds Tryd.pinned (.plain (OpenSpec.upto fnMayWriteApartSpec)) fnMayWriteApartUptoCard

/-- THE SECOND FORM's CARD OF 'laws.FnMayReadLock'. -/
def fnMayReadLockUptoCard : Claim7 := { stood := { row := fnMayReadLockUptoRow, standIns := [], harness := (true, "48408080c52d8bfef2ada29263aadb8a6d50ec2355b7a1a3b0a9928aed6e21ed"), looks := false }, kinds := [], alts := [], laidByText := true, laidKinds := [.data, .data], laidTests := true, laidLooks := .later }
def FnMayReadLockUptoCardSaid : Prop := Claim7.holds Tryd.pinned (.plain (OpenSpec.upto fnMayReadLockSpec)) fnMayReadLockUptoCard

/-- THE SECOND FORM's CARD OF 'laws.FnGrainFaultFree'. -/
def fnGrainFaultFreeUptoCard : Claim7 := { stood := { row := fnGrainFaultFreeUptoRow, standIns := [], harness := (true, "48408080c52d8bfef2ada29263aadb8a6d50ec2355b7a1a3b0a9928aed6e21ed"), looks := false }, kinds := [], alts := [], laidByText := true, laidKinds := [.data, .data], laidTests := true, laidLooks := .later }
def FnGrainFaultFreeUptoCardSaid : Prop := Claim7.holds Tryd.pinned (.plain (OpenSpec.upto fnGrainFaultFreeSpec)) fnGrainFaultFreeUptoCard

/-- THE SECOND FORM's CARD OF 'laws.FnMayWrite'. -/
def fnMayWriteUptoCard : Claim7 := { stood := { row := fnMayWriteUptoRow, standIns := [], harness := (true, "48408080c52d8bfef2ada29263aadb8a6d50ec2355b7a1a3b0a9928aed6e21ed"), looks := false }, kinds := [], alts := [], laidByText := true, laidKinds := [.data, .data], laidTests := true, laidLooks := .later }
def FnMayWriteUptoCardSaid : Prop := Claim7.holds Tryd.pinned (.plain (OpenSpec.upto fnMayWriteSpec)) fnMayWriteUptoCard
end Rows
end Go.Proofs.YtkolhdlmpjehfaaDoor
