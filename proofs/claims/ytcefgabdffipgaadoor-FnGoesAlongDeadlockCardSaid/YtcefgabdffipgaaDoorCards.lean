/-
  DERIVED. GIVEN WITH THE SEED: THE CARDS: each row of YtcefgabdffipgaaDoorRows.lean that lists a variable, with what it lists TIED to the program's text (the seventh form; the later family's looks); each row that meets fmt, with fmt's text TOLD by the authors' own Lean function (tested against real Go, not proved from fmt's source: count such statements apart). THE CARD IS WHAT COUNTS. Prove the row's statement (the work); the ties are given (YtcefgabdffipgaaDoorTie.lean); close each card by the builder's one call (the guide's Derived/Test/ToyasCard.lean, 'card_holds'). Laid BY PROGRAM, IN A SANDBOX (cutbox-door.mjs). By AI agents, Wed Nov 11 2026. No macro, syntax, notation, axiom, sorry.
-/
import Derived.Test.YtcefgabdffipgaaDoorRows
import GoSem.ClaimSeven
namespace Go.Proofs.YtcefgabdffipgaaDoor
namespace Rows

/-- THE TIED CARD OF 'laws.FnGoesAlongDeadlock'. -/
def fnGoesAlongDeadlockCard : Claim7 := { stood := { row := fnGoesAlongDeadlockRow, standIns := [], harness := (true, "3d9a5aaa7e99f611f56466e7bdfa35d29a9c8746c6c2205aa6bba1b01924adb7"), looks := false }, kinds := [], alts := [], laidByText := true, laidKinds := [.data, .data], laidTests := true, laidLooks := .later }
def FnGoesAlongDeadlockCardSaid : Prop := Claim7.holds Tryd.pinned (.plain (OpenSpec.ofChange fnGoesAlongDeadlockSpec)) fnGoesAlongDeadlockCard

/-- THE SECOND FORM's CARD OF 'laws.FnGoesAlongDeadlock'. -/
def fnGoesAlongDeadlockUptoCard : Claim7 := { stood := { row := fnGoesAlongDeadlockUptoRow, standIns := [], harness := (true, "3d9a5aaa7e99f611f56466e7bdfa35d29a9c8746c6c2205aa6bba1b01924adb7"), looks := false }, kinds := [], alts := [], laidByText := true, laidKinds := [.data, .data], laidTests := true, laidLooks := .later }
def FnGoesAlongDeadlockUptoCardSaid : Prop := Claim7.holds Tryd.pinned (.plain (OpenSpec.upto fnGoesAlongDeadlockSpec)) fnGoesAlongDeadlockUptoCard
end Rows
end Go.Proofs.YtcefgabdffipgaaDoor
