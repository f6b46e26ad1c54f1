/-
  DERIVED. GIVEN WITH THE SEED: THE CARDS: each row of YtgpocjehiohimaaDoorRows.lean that lists a variable, with what it lists TIED to the program's text (the seventh form; the later family's looks); each row that meets fmt, with fmt's text TOLD by the authors' own Lean function (tested against real Go, not proved from fmt's source: count such statements apart). THE CARD IS WHAT COUNTS. Prove the row's statement (the work); the ties are given (YtgpocjehiohimaaDoorTie.lean); close each card by the builder's one call (the guide's Derived/Test/ToyasCard.lean, 'card_holds'). Laid BY PROGRAM, IN A SANDBOX (cutbox-door.mjs). By AI agents, Wed Nov 11 2026. No macro, syntax, notation, axiom, sorry.
-/
import Derived.Test.YtgpocjehiohimaaDoorRows
import GoSem.ClaimSeven
namespace Go.Proofs.YtgpocjehiohimaaDoor
namespace Rows

/-- THE TIED CARD OF 'laws.FnExactRunLocks'. -/
def fnExactRunLocksCard : Claim7 := { stood := { row := fnExactRunLocksRow, standIns := [], harness := (true, "298fd186a2b2a8443555f64080714cee12ae352e68e5868c8ef6217b0f2d5fbd"), looks := false }, kinds := [], alts := [], laidByText := true, laidKinds := [.data, .data], laidTests := true, laidLooks := .later }
def FnExactRunLocksCardSaid : Prop := Claim7.holds Tryd.pinned (.plain (OpenSpec.ofChange fnExactRunLocksSpec)) fnExactRunLocksCard

/-- THE TIED CARD OF 'laws.FnExactRunWaits'. -/
def fnExactRunWaitsCard : Claim7 := { stood := { row := fnExactRunWaitsRow, standIns := [], harness := (true, "298fd186a2b2a8443555f64080714cee12ae352e68e5868c8ef6217b0f2d5fbd"), looks := false }, kinds := [], alts := [], laidByText := true, laidKinds := [.data, .data], laidTests := true, laidLooks := .later }
def FnExactRunWaitsCardSaid : Prop := Claim7.holds Tryd.pinned (.plain (OpenSpec.ofChange fnExactRunWaitsSpec)) fnExactRunWaitsCard

/-- THE TIED CARD OF 'laws.FnExactRunOrder'. -/
def fnExactRunOrderCard : Claim7 := { stood := { row := fnExactRunOrderRow, standIns := [], harness := (true, "298fd186a2b2a8443555f64080714cee12ae352e68e5868c8ef6217b0f2d5fbd"), looks := false }, kinds := [], alts := [], laidByText := true, laidKinds := [.data, .data], laidTests := true, laidLooks := .later }
def FnExactRunOrderCardSaid : Prop := Claim7.holds Tryd.pinned (.plain (OpenSpec.ofChange fnExactRunOrderSpec)) fnExactRunOrderCard

/-- THE TIED CARD OF 'laws.FnExactRunValues'. -/
def fnExactRunValuesCard : Claim7 := { stood := { row := fnExactRunValuesRow, standIns := [], harness := (true, "298fd186a2b2a8443555f64080714cee12ae352e68e5868c8ef6217b0f2d5fbd"), looks := false }, kinds := [], alts := [], laidByText := true, laidKinds := [.data, .data], laidTests := true, laidLooks := .later }
def FnExactRunValuesCardSaid : Prop := Claim7.holds Tryd.pinned (.plain (OpenSpec.ofChange fnExactRunValuesSpec)) fnExactRunValuesCard

/-- THE SECOND FORM's CARD OF 'laws.FnExactRunLocks'. -/
def fnExactRunLocksUptoCard : Claim7 := { stood := { row := fnExactRunLocksUptoRow, standIns := [], harness := (true, "298fd186a2b2a8443555f64080714cee12ae352e68e5868c8ef6217b0f2d5fbd"), looks := false }, kinds := [], alts := [], laidByText := true, laidKinds := [.data, .data], laidTests := true, laidLooks := .later }
def FnExactRunLocksUptoCardSaid : Prop := Claim7.holds Tryd.pinned (.plain (OpenSpec.upto fnExactRunLocksSpec)) fnExactRunLocksUptoCard

/-- THE SECOND FORM's CARD OF 'laws.FnExactRunWaits'. -/
def fnExactRunWaitsUptoCard : Claim7 := { stood := { row := fnExactRunWaitsUptoRow, standIns := [], harness := (true, "298fd186a2b2a8443555f64080714cee12ae352e68e5868c8ef6217b0f2d5fbd"), looks := false }, kinds := [], alts := [], laidByText := true, laidKinds := [.data, .data], laidTests := true, laidLooks := .later }
def FnExactRunWaitsUptoCardSaid : Prop := Claim7.holds Tryd.pinned (.plain (OpenSpec.upto fnExactRunWaitsSpec)) fnExactRunWaitsUptoCard

/-- THE SECOND FORM's CARD OF 'laws.FnExactRunOrder'. -/
def fnExactRunOrderUptoCard : Claim7 := { stood := { row := fnExactRunOrderUptoRow, standIns := [], harness := (true, "298fd186a2b2a8443555f64080714cee12ae352e68e5868c8ef6217b0f2d5fbd"), looks := false }, kinds := [], alts := [], laidByText := true, laidKinds := [.data, .data], laidTests := true, laidLooks := .later }
def FnExactRunOrderUptoCardSaid : Prop := Claim7.holds Tryd.pinned (.plain (OpenSpec.upto fnExactRunOrderSpec)) fnExactRunOrderUptoCard

/-- THE SECOND FORM's CARD OF 'laws.FnExactRunValues'. -/
def fnExactRunValuesUptoCard : Claim7 := { stood := { row := fnExactRunValuesUptoRow, standIns := [], harness := (true, "298fd186a2b2a8443555f64080714cee12ae352e68e5868c8ef6217b0f2d5fbd"), looks := false }, kinds := [], alts := [], laidByText := true, laidKinds := [.data, .data], laidTests := true, laidLooks := .later }
def FnExactRunValuesUptoCardSaid : Prop := Claim7.holds Tryd.pinned (.plain (OpenSpec.upto fnExactRunValuesSpec)) fnExactRunValuesUptoCard
end Rows
end Go.Proofs.YtgpocjehiohimaaDoor
