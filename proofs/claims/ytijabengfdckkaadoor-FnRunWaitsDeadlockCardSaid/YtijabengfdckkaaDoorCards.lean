/-
  DERIVED. GIVEN WITH THE SEED: THE CARDS: each row of YtijabengfdckkaaDoorRows.lean that lists a variable, with what it lists TIED to the program's text (the seventh form; the later family's looks); each row that meets fmt, with fmt's text TOLD by the authors' own Lean function (tested against real Go, not proved from fmt's source: count such statements apart). THE CARD IS WHAT COUNTS. Prove the row's statement (the work); the ties are given (YtijabengfdckkaaDoorTie.lean); close each card by the builder's one call (the guide's Derived/Test/ToyasCard.lean, 'card_holds'). Laid BY PROGRAM, IN A SANDBOX (cutbox-door.mjs). By AI agents, Wed Nov 11 2026. No macro, syntax, notation, axiom, sorry.
-/
import Derived.Test.YtijabengfdckkaaDoorRows
import GoSem.ClaimSeven
namespace Go.Proofs.YtijabengfdckkaaDoor
namespace Rows

/-- THE TIED CARD OF 'laws.FnRunWaitsDeadlock'. -/
def fnRunWaitsDeadlockCard : Claim7 := { stood := { row := fnRunWaitsDeadlockRow, standIns := [], harness := (true, "747d3cccde3088ebe1cdb0fdebedc8e086e9c60f265266b08d76279d5cc91eea"), looks := false }, kinds := [], alts := [], laidByText := true, laidKinds := [.data, .data], laidTests := true, laidLooks := .later }
def FnRunWaitsDeadlockCardSaid : Prop := Claim7.holds Tryd.pinned (.plain (OpenSpec.ofChange fnRunWaitsDeadlockSpec)) fnRunWaitsDeadlockCard

/-- THE SECOND FORM's CARD OF 'laws.FnRunWaitsDeadlock'. -/
def fnRunWaitsDeadlockUptoCard : Claim7 := { stood := { row := fnRunWaitsDeadlockUptoRow, standIns := [], harness := (true, "747d3cccde3088ebe1cdb0fdebedc8e086e9c60f265266b08d76279d5cc91eea"), looks := false }, kinds := [], alts := [], laidByText := true, laidKinds := [.data, .data], laidTests := true, laidLooks := .later }
def FnRunWaitsDeadlockUptoCardSaid : Prop := Claim7.holds Tryd.pinned (.plain (OpenSpec.upto fnRunWaitsDeadlockSpec)) fnRunWaitsDeadlockUptoCard
end Rows
end Go.Proofs.YtijabengfdckkaaDoor
