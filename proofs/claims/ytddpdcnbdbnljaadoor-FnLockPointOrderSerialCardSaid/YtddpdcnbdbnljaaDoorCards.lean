/-
  DERIVED. GIVEN WITH THE SEED: THE CARDS: each row of YtddpdcnbdbnljaaDoorRows.lean that lists a variable, with what it lists TIED to the program's text (the seventh form; the later family's looks); each row that meets fmt, with fmt's text TOLD by the authors' own Lean function (tested against real Go, not proved from fmt's source: count such statements apart). THE CARD IS WHAT COUNTS. Prove the row's statement (the work); the ties are given (YtddpdcnbdbnljaaDoorTie.lean); close each card by the builder's one call (the guide's Derived/Test/ToyasCard.lean, 'card_holds'). Laid BY PROGRAM, IN A SANDBOX (cutbox-door.mjs). By AI agents, Wed Nov 11 2026. No macro, syntax, notation, axiom, sorry.
-/
import Derived.Test.YtddpdcnbdbnljaaDoorRows
import GoSem.ClaimSeven
namespace Go.Proofs.YtddpdcnbdbnljaaDoor
namespace Rows

/-- THE TIED CARD OF 'laws.FnAccessesOf'. -/
def fnAccessesOfCard : Claim7 := { stood := { row := fnAccessesOfRow, standIns := [], harness := (true, "275946456ff6903eb86665f5e2ce45972d1995e3475ffe5607460689de69ffa9"), looks := false }, kinds := [], alts := [], laidByText := true, laidKinds := [.data, .data], laidTests := true, laidLooks := .later }
def FnAccessesOfCardSaid : Prop := Claim7.holds Tryd.pinned (.plain (OpenSpec.ofChange fnAccessesOfSpec)) fnAccessesOfCard

/-- THE TIED CARD OF 'laws.FnLockPointOrderShort'. -/
def fnLockPointOrderShortCard : Claim7 := { stood := { row := fnLockPointOrderShortRow, standIns := [], harness := (true, "275946456ff6903eb86665f5e2ce45972d1995e3475ffe5607460689de69ffa9"), looks := false }, kinds := [], alts := [], laidByText := true, laidKinds := [.data, .data], laidTests := true, laidLooks := .later }
def FnLockPointOrderShortCardSaid : Prop := Claim7.holds Tryd.pinned (.plain (OpenSpec.ofChange fnLockPointOrderShortSpec)) fnLockPointOrderShortCard

/-- THE TIED CARD OF 'laws.FnLockPointOrder'. -/
def fnLockPointOrderCard : Claim7 := { stood := { row := fnLockPointOrderRow, standIns := [], harness := (true, "275946456ff6903eb86665f5e2ce45972d1995e3475ffe5607460689de69ffa9"), looks := false }, kinds := [], alts := [], laidByText := true, laidKinds := [.data, .data], laidTests := true, laidLooks := .later }
def FnLockPointOrderCardSaid : Prop := Claim7.holds Tryd.pinned (.plain (OpenSpec.ofChange fnLockPointOrderSpec)) fnLockPointOrderCard

/-- THE TIED CARD OF 'laws.FnLockPointOrderSerial'. -/
def fnLockPointOrderSerialCard : Claim7 := { stood := { row := fnLockPointOrderSerialRow, standIns := [], harness := (true, "275946456ff6903eb86665f5e2ce45972d1995e3475ffe5607460689de69ffa9"), looks := false }, kinds := [], alts := [], laidByText := true, laidKinds := [.data, .data], laidTests := true, laidLooks := .later }
def FnLockPointOrderSerialCardSaid : Prop := Claim7.holds Tryd.pinned (.plain (OpenSpec.ofChange fnLockPointOrderSerialSpec)) fnLockPointOrderSerialCard

/-- THE TIED CARD OF 'laws.FnAlongFault'. -/
def fnAlongFaultCard : Claim7 := { stood := { row := fnAlongFaultRow, standIns := [], harness := (true, "275946456ff6903eb86665f5e2ce45972d1995e3475ffe5607460689de69ffa9"), looks := false }, kinds := [], alts := [], laidByText := true, laidKinds := [.data, .data], laidTests := true, laidLooks := .later }
def FnAlongFaultCardSaid : Prop := Claim7.holds Tryd.pinned (.plain (OpenSpec.ofChange fnAlongFaultSpec)) fnAlongFaultCard

/-- THE TIED CARD OF 'laws.FnAlongFaultFirst'. -/
def fnAlongFaultFirstCard : Claim7 := { stood := { row := fnAlongFaultFirstRow, standIns := [], harness := (true, "275946456ff6903eb86665f5e2ce45972d1995e3475ffe5607460689de69ffa9"), looks := false }, kinds := [], alts := [], laidByText := true, laidKinds := [.data, .data], laidTests := true, laidLooks := .later }
def FnAlongFaultFirstCardSaid : Prop := Claim7.holds Tryd.pinned (.plain (OpenSpec.ofChange fnAlongFaultFirstSpec)) fnAlongFaultFirstCard

/-- THE TIED CARD OF 'laws.FnAlongFaultShort'. -/
def fnAlongFaultShortCard : Claim7 := { stood := { row := fnAlongFaultShortRow, standIns := [], harness := (true, "275946456ff6903eb86665f5e2ce45972d1995e3475ffe5607460689de69ffa9"), looks := false }, kinds := [], alts := [], laidByText := true, laidKinds := [.data, .data], laidTests := true, laidLooks := .later }
def FnAlongFaultShortCardSaid : Prop := Claim7.holds Tryd.pinned (.plain (OpenSpec.ofChange fnAlongFaultShortSpec)) fnAlongFaultShortCard

/-- THE TIED CARD OF 'laws.FnGoesAlong'. -/
def fnGoesAlongCard : Claim7 := { stood := { row := fnGoesAlongRow, standIns := [], harness := (true, "275946456ff6903eb86665f5e2ce45972d1995e3475ffe5607460689de69ffa9"), looks := false }, kinds := [], alts := [], laidByText := true, laidKinds := [.data, .data], laidTests := true, laidLooks := .later }
def FnGoesAlongCardSaid : Prop := Claim7.holds Tryd.pinned (.plain (OpenSpec.ofChange fnGoesAlongSpec)) fnGoesAlongCard

/-- THE TIED CARD OF 'laws.FnGoesAlongOnce'. -/
def fnGoesAlongOnceCard : Claim7 := { stood := { row := fnGoesAlongOnceRow, standIns := [], harness := (true, "275946456ff6903eb86665f5e2ce45972d1995e3475ffe5607460689de69ffa9"), looks := false }, kinds := [], alts := [], laidByText := true, laidKinds := [.data, .data], laidTests := true, laidLooks := .later }
def FnGoesAlongOnceCardSaid : Prop := Claim7.holds Tryd.pinned (.plain (OpenSpec.ofChange fnGoesAlongOnceSpec)) fnGoesAlongOnceCard

/-- THE TIED CARD OF 'laws.FnGoesAlongShort'. -/
def fnGoesAlongShortCard : Claim7 := { stood := { row := fnGoesAlongShortRow, standIns := [], harness := (true, "275946456ff6903eb86665f5e2ce45972d1995e3475ffe5607460689de69ffa9"), looks := false }, kinds := [], alts := [], laidByText := true, laidKinds := [.data, .data], laidTests := true, laidLooks := .later }
def FnGoesAlongShortCardSaid : Prop := Claim7.holds Tryd.pinned (.plain (OpenSpec.ofChange fnGoesAlongShortSpec)) fnGoesAlongShortCard

/-- THE TIED CARD OF 'laws.FnNextAlong'. -/
def fnNextAlongCard : Claim7 := { stood := { row := fnNextAlongRow, standIns := [], harness := (true, "275946456ff6903eb86665f5e2ce45972d1995e3475ffe5607460689de69ffa9"), looks := false }, kinds := [], alts := [], laidByText := true, laidKinds := [.data, .data], laidTests := true, laidLooks := .later }
def FnNextAlongCardSaid : Prop := Claim7.holds Tryd.pinned (.plain (OpenSpec.ofChange fnNextAlongSpec)) fnNextAlongCard

/-- THE TIED CARD OF 'laws.FnNextAlongFirst'. -/
def fnNextAlongFirstCard : Claim7 := { stood := { row := fnNextAlongFirstRow, standIns := [], harness := (true, "275946456ff6903eb86665f5e2ce45972d1995e3475ffe5607460689de69ffa9"), looks := false }, kinds := [], alts := [], laidByText := true, laidKinds := [.data, .data], laidTests := true, laidLooks := .later }
def FnNextAlongFirstCardSaid : Prop := Claim7.holds Tryd.pinned (.plain (OpenSpec.ofChange fnNextAlongFirstSpec)) fnNextAlongFirstCard

/-- THE TIED CARD OF 'laws.FnNextAlongBelow'. -/
def fnNextAlongBelowCard : Claim7 := { stood := { row := fnNextAlongBelowRow, standIns := [], harness := (true, "275946456ff6903eb86665f5e2ce45972d1995e3475ffe5607460689de69ffa9"), looks := false }, kinds := [], alts := [], laidByText := true, laidKinds := [.data, .data], laidTests := true, laidLooks := .later }
def FnNextAlongBelowCardSaid : Prop := Claim7.holds Tryd.pinned (.plain (OpenSpec.ofChange fnNextAlongBelowSpec)) fnNextAlongBelowCard

/-- THE TIED CARD OF 'laws.FnGoesAlongSerial'. -/
def fnGoesAlongSerialCard : Claim7 := { stood := { row := fnGoesAlongSerialRow, standIns := [], harness := (true, "275946456ff6903eb86665f5e2ce45972d1995e3475ffe5607460689de69ffa9"), looks := false }, kinds := [], alts := [], laidByText := true, laidKinds := [.data, .data], laidTests := true, laidLooks := .later }
def FnGoesAlongSerialCardSaid : Prop := Claim7.holds Tryd.pinned (.plain (OpenSpec.ofChange fnGoesAlongSerialSpec)) fnGoesAlongSerialCard

/-- THE TIED CARD OF 'laws.FnGoesAlongDeadlock'. -/
def fnGoesAlongDeadlockCard : Claim7 := { stood := { row := fnGoesAlongDeadlockRow, standIns := [], harness := (true, "275946456ff6903eb86665f5e2ce45972d1995e3475ffe5607460689de69ffa9"), looks := false }, kinds := [], alts := [], laidByText := true, laidKinds := [.data, .data], laidTests := true, laidLooks := .later }
def FnGoesAlongDeadlockCardSaid : Prop := Claim7.holds Tryd.pinned (.plain (OpenSpec.ofChange fnGoesAlongDeadlockSpec)) fnGoesAlongDeadlockCard

/-- THE SECOND FORM's CARD OF 'laws.FnAccessesOf'. -/
def fnAccessesOfUptoCard : Claim7 := { stood := { row := fnAccessesOfUptoRow, standIns := [], harness := (true, "275946456ff6903eb86665f5e2ce45972d1995e3475ffe5607460689de69ffa9"), looks := false }, kinds := [], alts := [], laidByText := true, laidKinds := [.data, .data], laidTests := true, laidLooks := .later }
def FnAccessesOfUptoCardSaid : Prop := Claim7.holds Tryd.pinned (.plain (OpenSpec.upto fnAccessesOfSpec)) fnAccessesOfUptoCard

/-- THE SECOND FORM's CARD OF 'laws.FnLockPointOrderShort'. -/
def fnLockPointOrderShortUptoCard : Claim7 := { stood := { row := fnLockPointOrderShortUptoRow, standIns := [], harness := (true, "275946456ff6903eb86665f5e2ce45972d1995e3475ffe5607460689de69ffa9"), looks := false }, kinds := [], alts := [], laidByText := true, laidKinds := [.data, .data], laidTests := true, laidLooks := .later }
def FnLockPointOrderShortUptoCardSaid : Prop := Claim7.holds Tryd.pinned (.plain (OpenSpec.upto fnLockPointOrderShortSpec)) fnLockPointOrderShortUptoCard

/-- THE SECOND FORM's CARD OF 'laws.FnLockPointOrder'. -/
def fnLockPointOrderUptoCard : Claim7 := { stood := { row := fnLockPointOrderUptoRow, standIns := [], harness := (true, "275946456ff6903eb86665f5e2ce45972d1995e3475ffe5607460689de69ffa9"), looks := false }, kinds := [], alts := [], laidByText := true, laidKinds := [.data, .data], laidTests := true, laidLooks := .later }
def FnLockPointOrderUptoCardSaid : Prop := Claim7.holds Tryd.pinned (.plain (OpenSpec.upto fnLockPointOrderSpec)) fnLockPointOrderUptoCard

/-- THE SECOND FORM's CARD OF 'laws.FnLockPointOrderSerial'. -/
def fnLockPointOrderSerialUptoCard : Claim7 := { stood := { row := fnLockPointOrderSerialUptoRow, standIns := [], harness := (true, "275946456ff6903eb86665f5e2ce45972d1995e3475ffe5607460689de69ffa9"), looks := false }, kinds := [], alts := [], laidByText := true, laidKinds := [.data, .data], laidTests := true, laidLooks := .later }
def FnLockPointOrderSerialUptoCardSaid : Prop := Claim7.holds Tryd.pinned (.plain (OpenSpec.upto fnLockPointOrderSerialSpec)) fnLockPointOrderSerialUptoCard

/-- THE SECOND FORM's CARD OF 'laws.FnAlongFault'. -/
def fnAlongFaultUptoCard : Claim7 := { stood := { row := fnAlongFaultUptoRow, standIns := [], harness := (true, "275946456ff6903eb86665f5e2ce45972d1995e3475ffe5607460689de69ffa9"), looks := false }, kinds := [], alts := [], laidByText := true, laidKinds := [.data, .data], laidTests := true, laidLooks := .later }
def FnAlongFaultUptoCardSaid : Prop := Claim7.holds Tryd.pinned (.plain (OpenSpec.upto fnAlongFaultSpec)) fnAlongFaultUptoCard

/-- THE SECOND FORM's CARD OF 'laws.FnAlongFaultFirst'. -/
def fnAlongFaultFirstUptoCard : Claim7 := { stood := { row := fnAlongFaultFirstUptoRow, standIns := [], harness := (true, "275946456ff6903eb86665f5e2ce45972d1995e3475ffe5607460689de69ffa9"), looks := false }, kinds := [], alts := [], laidByText := true, laidKinds := [.data, .data], laidTests := true, laidLooks := .later }
def FnAlongFaultFirstUptoCardSaid : Prop := Claim7.holds Tryd.pinned (.plain (OpenSpec.upto fnAlongFaultFirstSpec)) fnAlongFaultFirstUptoCard

/-- THE SECOND FORM's CARD OF 'laws.FnAlongFaultShort'. -/
def fnAlongFaultShortUptoCard : Claim7 := { stood := { row := fnAlongFaultShortUptoRow, standIns := [], harness := (true, "275946456ff6903eb86665f5e2ce45972d1995e3475ffe5607460689de69ffa9"), looks := false }, kinds := [], alts := [], laidByText := true, laidKinds := [.data, .data], laidTests := true, laidLooks := .later }
def FnAlongFaultShortUptoCardSaid : Prop := Claim7.holds Tryd.pinned (.plain (OpenSpec.upto fnAlongFaultShortSpec)) fnAlongFaultShortUptoCard

/-- THE SECOND FORM's CARD OF 'laws.FnGoesAlong'. -/
def fnGoesAlongUptoCard : Claim7 := { stood := { row := fnGoesAlongUptoRow, standIns := [], harness := (true, "275946456ff6903eb86665f5e2ce45972d1995e3475ffe5607460689de69ffa9"), looks := false }, kinds := [], alts := [], laidByText := true, laidKinds := [.data, .data], laidTests := true, laidLooks := .later }
def FnGoesAlongUptoCardSaid : Prop := Claim7.holds Tryd.pinned (.plain (OpenSpec.upto fnGoesAlongSpec)) fnGoesAlongUptoCard

/-- THE SECOND FORM's CARD OF 'laws.FnGoesAlongOnce'. -/
def fnGoesAlongOnceUptoCard : Claim7 := { stood := { row := fnGoesAlongOnceUptoRow, standIns := [], harness := (true, "275946456ff6903eb86665f5e2ce45972d1995e3475ffe5607460689de69ffa9"), looks := false }, kinds := [], alts := [], laidByText := true, laidKinds := [.data, .data], laidTests := true, laidLooks := .later }
def FnGoesAlongOnceUptoCardSaid : Prop := Claim7.holds Tryd.pinned (.plain (OpenSpec.upto fnGoesAlongOnceSpec)) fnGoesAlongOnceUptoCard

/-- THE SECOND FORM's CARD OF 'laws.FnGoesAlongShort'. -/
def fnGoesAlongShortUptoCard : Claim7 := { stood := { row := fnGoesAlongShortUptoRow, standIns := [], harness := (true, "275946456ff6903eb86665f5e2ce45972d1995e3475ffe5607460689de69ffa9"), looks := false }, kinds := [], alts := [], laidByText := true, laidKinds := [.data, .data], laidTests := true, laidLooks := .later }
def FnGoesAlongShortUptoCardSaid : Prop := Claim7.holds Tryd.pinned (.plain (OpenSpec.upto fnGoesAlongShortSpec)) fnGoesAlongShortUptoCard

/-- THE SECOND FORM's CARD OF 'laws.FnNextAlong'. -/
def fnNextAlongUptoCard : Claim7 := { stood := { row := fnNextAlongUptoRow, standIns := [], harness := (true, "275946456ff6903eb86665f5e2ce45972d1995e3475ffe5607460689de69ffa9"), looks := false }, kinds := [], alts := [], laidByText := true, laidKinds := [.data, .data], laidTests := true, laidLooks := .later }
def FnNextAlongUptoCardSaid : Prop := Claim7.holds Tryd.pinned (.plain (OpenSpec.upto fnNextAlongSpec)) fnNextAlongUptoCard

/-- THE SECOND FORM's CARD OF 'laws.FnNextAlongFirst'. -/
def fnNextAlongFirstUptoCard : Claim7 := { stood := { row := fnNextAlongFirstUptoRow, standIns := [], harness := (true, "275946456ff6903eb86665f5e2ce45972d1995e3475ffe5607460689de69ffa9"), looks := false }, kinds := [], alts := [], laidByText := true, laidKinds := [.data, .data], laidTests := true, laidLooks := .later }
def FnNextAlongFirstUptoCardSaid : Prop := Claim7.holds Tryd.pinned (.plain (OpenSpec.upto fnNextAlongFirstSpec)) fnNextAlongFirstUptoCard

/-- THE SECOND FORM's CARD OF 'laws.FnNextAlongBelow'. -/
def fnNextAlongBelowUptoCard : Claim7 := { stood := { row := fnNextAlongBelowUptoRow, standIns := [], harness := (true, "275946456ff6903eb86665f5e2ce45972d1995e3475ffe5607460689de69ffa9"), looks := false }, kinds := [], alts := [], laidByText := true, laidKinds := [.data, .data], laidTests := true, laidLooks := .later }
def FnNextAlongBelowUptoCardSaid : Prop := Claim7.holds Tryd.pinned (.plain (OpenSpec.upto fnNextAlongBelowSpec)) fnNextAlongBelowUptoCard

/-- THE SECOND FORM's CARD OF 'laws.FnGoesAlongSerial'. -/
def fnGoesAlongSerialUptoCard : Claim7 := { stood := { row := fnGoesAlongSerialUptoRow, standIns := [], harness := (true, "275946456ff6903eb86665f5e2ce45972d1995e3475ffe5607460689de69ffa9"), looks := false }, kinds := [], alts := [], laidByText := true, laidKinds := [.data, .data], laidTests := true, laidLooks := .later }
def FnGoesAlongSerialUptoCardSaid : Prop := Claim7.holds Tryd.pinned (.plain (OpenSpec.upto fnGoesAlongSerialSpec)) fnGoesAlongSerialUptoCard

/-- THE SECOND FORM's CARD OF 'laws.FnGoesAlongDeadlock'. -/
def fnGoesAlongDeadlockUptoCard : Claim7 := { stood := { row := fnGoesAlongDeadlockUptoRow, standIns := [], harness := (true, "275946456ff6903eb86665f5e2ce45972d1995e3475ffe5607460689de69ffa9"), looks := false }, kinds := [], alts := [], laidByText := true, laidKinds := [.data, .data], laidTests := true, laidLooks := .later }
def FnGoesAlongDeadlockUptoCardSaid : Prop := Claim7.holds Tryd.pinned (.plain (OpenSpec.upto fnGoesAlongDeadlockSpec)) fnGoesAlongDeadlockUptoCard
end Rows
end Go.Proofs.YtddpdcnbdbnljaaDoor
