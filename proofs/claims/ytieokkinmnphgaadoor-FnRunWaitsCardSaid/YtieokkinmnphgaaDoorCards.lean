/-
  DERIVED. GIVEN WITH THE SEED: THE CARDS: each row of YtieokkinmnphgaaDoorRows.lean that lists a variable, with what it lists TIED to the program's text (the seventh form; the later family's looks); each row that meets fmt, with fmt's text TOLD by the authors' own Lean function (tested against real Go, not proved from fmt's source: count such statements apart). THE CARD IS WHAT COUNTS. Prove the row's statement (the work); the ties are given (YtieokkinmnphgaaDoorTie.lean); close each card by the builder's one call (the guide's Derived/Test/ToyasCard.lean, 'card_holds'). Laid BY PROGRAM, IN A SANDBOX (cutbox-door.mjs). By AI agents, Wed Nov 11 2026. No macro, syntax, notation, axiom, sorry.
-/
import Derived.Test.YtieokkinmnphgaaDoorRows
import GoSem.ClaimSeven
namespace Go.Proofs.YtieokkinmnphgaaDoor
namespace Rows

/-- THE TIED CARD OF 'laws.FnRunValuesStep'. -/
def fnRunValuesStepCard : Claim7 := { stood := { row := fnRunValuesStepRow, standIns := [], harness := (true, "7a62e0f4aacb68c7920ce18acc60800c36ae2137f74225c1f097f55e6ad9ac45"), looks := false }, kinds := [], alts := [], laidByText := true, laidKinds := [.data, .data], laidTests := true, laidLooks := .later }
def FnRunValuesStepCardSaid : Prop := Claim7.holds Tryd.pinned (.plain (OpenSpec.ofChange fnRunValuesStepSpec)) fnRunValuesStepCard

/-- THE TIED CARD OF 'laws.FnRunValues'. -/
def fnRunValuesCard : Claim7 := { stood := { row := fnRunValuesRow, standIns := [], harness := (true, "7a62e0f4aacb68c7920ce18acc60800c36ae2137f74225c1f097f55e6ad9ac45"), looks := false }, kinds := [], alts := [], laidByText := true, laidKinds := [.data, .data], laidTests := true, laidLooks := .later }
def FnRunValuesCardSaid : Prop := Claim7.holds Tryd.pinned (.plain (OpenSpec.ofChange fnRunValuesSpec)) fnRunValuesCard

/-- THE TIED CARD OF 'laws.FnRunValuesOrder'. -/
def fnRunValuesOrderCard : Claim7 := { stood := { row := fnRunValuesOrderRow, standIns := [], harness := (true, "7a62e0f4aacb68c7920ce18acc60800c36ae2137f74225c1f097f55e6ad9ac45"), looks := false }, kinds := [], alts := [], laidByText := true, laidKinds := [.data, .data], laidTests := true, laidLooks := .later }
def FnRunValuesOrderCardSaid : Prop := Claim7.holds Tryd.pinned (.plain (OpenSpec.ofChange fnRunValuesOrderSpec)) fnRunValuesOrderCard

/-- THE TIED CARD OF 'laws.FnRunOrderAlone'. -/
def fnRunOrderAloneCard : Claim7 := { stood := { row := fnRunOrderAloneRow, standIns := [], harness := (true, "7a62e0f4aacb68c7920ce18acc60800c36ae2137f74225c1f097f55e6ad9ac45"), looks := false }, kinds := [], alts := [], laidByText := true, laidKinds := [.data, .data], laidTests := true, laidLooks := .later }
def FnRunOrderAloneCardSaid : Prop := Claim7.holds Tryd.pinned (.plain (OpenSpec.ofChange fnRunOrderAloneSpec)) fnRunOrderAloneCard

/-- THE TIED CARD OF 'laws.FnRunOrderShort'. -/
def fnRunOrderShortCard : Claim7 := { stood := { row := fnRunOrderShortRow, standIns := [], harness := (true, "7a62e0f4aacb68c7920ce18acc60800c36ae2137f74225c1f097f55e6ad9ac45"), looks := false }, kinds := [], alts := [], laidByText := true, laidKinds := [.data, .data], laidTests := true, laidLooks := .later }
def FnRunOrderShortCardSaid : Prop := Claim7.holds Tryd.pinned (.plain (OpenSpec.ofChange fnRunOrderShortSpec)) fnRunOrderShortCard

/-- THE TIED CARD OF 'laws.FnRunLocksNone'. -/
def fnRunLocksNoneCard : Claim7 := { stood := { row := fnRunLocksNoneRow, standIns := [], harness := (true, "7a62e0f4aacb68c7920ce18acc60800c36ae2137f74225c1f097f55e6ad9ac45"), looks := false }, kinds := [], alts := [], laidByText := true, laidKinds := [.data, .data], laidTests := true, laidLooks := .later }
def FnRunLocksNoneCardSaid : Prop := Claim7.holds Tryd.pinned (.plain (OpenSpec.ofChange fnRunLocksNoneSpec)) fnRunLocksNoneCard

/-- THE TIED CARD OF 'laws.FnRunLocks'. -/
def fnRunLocksCard : Claim7 := { stood := { row := fnRunLocksRow, standIns := [], harness := (true, "7a62e0f4aacb68c7920ce18acc60800c36ae2137f74225c1f097f55e6ad9ac45"), looks := false }, kinds := [], alts := [], laidByText := true, laidKinds := [.data, .data], laidTests := true, laidLooks := .later }
def FnRunLocksCardSaid : Prop := Claim7.holds Tryd.pinned (.plain (OpenSpec.ofChange fnRunLocksSpec)) fnRunLocksCard

/-- THE TIED CARD OF 'laws.FnRunOrder'. -/
def fnRunOrderCard : Claim7 := { stood := { row := fnRunOrderRow, standIns := [], harness := (true, "7a62e0f4aacb68c7920ce18acc60800c36ae2137f74225c1f097f55e6ad9ac45"), looks := false }, kinds := [], alts := [], laidByText := true, laidKinds := [.data, .data], laidTests := true, laidLooks := .later }
def FnRunOrderCardSaid : Prop := Claim7.holds Tryd.pinned (.plain (OpenSpec.ofChange fnRunOrderSpec)) fnRunOrderCard

/-- THE TIED CARD OF 'laws.FnRunLocksDirty'. -/
def fnRunLocksDirtyCard : Claim7 := { stood := { row := fnRunLocksDirtyRow, standIns := [], harness := (true, "7a62e0f4aacb68c7920ce18acc60800c36ae2137f74225c1f097f55e6ad9ac45"), looks := false }, kinds := [], alts := [], laidByText := true, laidKinds := [.data, .data], laidTests := true, laidLooks := .later }
def FnRunLocksDirtyCardSaid : Prop := Claim7.holds Tryd.pinned (.plain (OpenSpec.ofChange fnRunLocksDirtySpec)) fnRunLocksDirtyCard

/-- THE TIED CARD OF 'laws.FnRunOrderLocks'. -/
def fnRunOrderLocksCard : Claim7 := { stood := { row := fnRunOrderLocksRow, standIns := [], harness := (true, "7a62e0f4aacb68c7920ce18acc60800c36ae2137f74225c1f097f55e6ad9ac45"), looks := false }, kinds := [], alts := [], laidByText := true, laidKinds := [.data, .data], laidTests := true, laidLooks := .later }
def FnRunOrderLocksCardSaid : Prop := Claim7.holds Tryd.pinned (.plain (OpenSpec.ofChange fnRunOrderLocksSpec)) fnRunOrderLocksCard

/-- THE TIED CARD OF 'laws.FnRunValuesNone'. -/
def fnRunValuesNoneCard : Claim7 := { stood := { row := fnRunValuesNoneRow, standIns := [], harness := (true, "7a62e0f4aacb68c7920ce18acc60800c36ae2137f74225c1f097f55e6ad9ac45"), looks := false }, kinds := [], alts := [], laidByText := true, laidKinds := [.data, .data], laidTests := true, laidLooks := .later }
def FnRunValuesNoneCardSaid : Prop := Claim7.holds Tryd.pinned (.plain (OpenSpec.ofChange fnRunValuesNoneSpec)) fnRunValuesNoneCard

/-- THE TIED CARD OF 'laws.FnRunWaitsHeld'. -/
def fnRunWaitsHeldCard : Claim7 := { stood := { row := fnRunWaitsHeldRow, standIns := [], harness := (true, "7a62e0f4aacb68c7920ce18acc60800c36ae2137f74225c1f097f55e6ad9ac45"), looks := false }, kinds := [], alts := [], laidByText := true, laidKinds := [.data, .data], laidTests := true, laidLooks := .later }
def FnRunWaitsHeldCardSaid : Prop := Claim7.holds Tryd.pinned (.plain (OpenSpec.ofChange fnRunWaitsHeldSpec)) fnRunWaitsHeldCard

/-- THE TIED CARD OF 'laws.FnRunWaits'. -/
def fnRunWaitsCard : Claim7 := { stood := { row := fnRunWaitsRow, standIns := [], harness := (true, "7a62e0f4aacb68c7920ce18acc60800c36ae2137f74225c1f097f55e6ad9ac45"), looks := false }, kinds := [], alts := [], laidByText := true, laidKinds := [.data, .data], laidTests := true, laidLooks := .later }
def FnRunWaitsCardSaid : Prop := Claim7.holds Tryd.pinned (.plain (OpenSpec.ofChange fnRunWaitsSpec)) fnRunWaitsCard

/-- THE SECOND FORM's CARD OF 'laws.FnRunValuesStep'. -/
def fnRunValuesStepUptoCard : Claim7 := { stood := { row := fnRunValuesStepUptoRow, standIns := [], harness := (true, "7a62e0f4aacb68c7920ce18acc60800c36ae2137f74225c1f097f55e6ad9ac45"), looks := false }, kinds := [], alts := [], laidByText := true, laidKinds := [.data, .data], laidTests := true, laidLooks := .later }
def FnRunValuesStepUptoCardSaid : Prop := Claim7.holds Tryd.pinned (.plain (OpenSpec.upto fnRunValuesStepSpec)) fnRunValuesStepUptoCard

/-- THE SECOND FORM's CARD OF 'laws.FnRunValues'. -/
def fnRunValuesUptoCard : Claim7 := { stood := { row := fnRunValuesUptoRow, standIns := [], harness := (true, "7a62e0f4aacb68c7920ce18acc60800c36ae2137f74225c1f097f55e6ad9ac45"), looks := false }, kinds := [], alts := [], laidByText := true, laidKinds := [.data, .data], laidTests := true, laidLooks := .later }
def FnRunValuesUptoCardSaid : Prop := Claim7.holds Tryd.pinned (.plain (OpenSpec.upto fnRunValuesSpec)) fnRunValuesUptoCard

/-- THE SECOND FORM's CARD OF 'laws.FnRunValuesOrder'. -/
def fnRunValuesOrderUptoCard : Claim7 := { stood := { row := fnRunValuesOrderUptoRow, standIns := [], harness := (true, "7a62e0f4aacb68c7920ce18acc60800c36ae2137f74225c1f097f55e6ad9ac45"), looks := false }, kinds := [], alts := [], laidByText := true, laidKinds := [.data, .data], laidTests := true, laidLooks := .later }
def FnRunValuesOrderUptoCardSaid : Prop := Claim7.holds Tryd.pinned (.plain (OpenSpec.upto fnRunValuesOrderSpec)) fnRunValuesOrderUptoCard

/-- THE SECOND FORM's CARD OF 'laws.FnRunOrderAlone'. -/
def fnRunOrderAloneUptoCard : Claim7 := { stood := { row := fnRunOrderAloneUptoRow, standIns := [], harness := (true, "7a62e0f4aacb68c7920ce18acc60800c36ae2137f74225c1f097f55e6ad9ac45"), looks := false }, kinds := [], alts := [], laidByText := true, laidKinds := [.data, .data], laidTests := true, laidLooks := .later }
def FnRunOrderAloneUptoCardSaid : Prop := Claim7.holds Tryd.pinned (.plain (OpenSpec.upto fnRunOrderAloneSpec)) fnRunOrderAloneUptoCard

/-- THE SECOND FORM's CARD OF 'laws.FnRunOrderShort'. -/
def fnRunOrderShortUptoCard : Claim7 := { stood := { row := fnRunOrderShortUptoRow, standIns := [], harness := (true, "7a62e0f4aacb68c7920ce18acc60800c36ae2137f74225c1f097f55e6ad9ac45"), looks := false }, kinds := [], alts := [], laidByText := true, laidKinds := [.data, .data], laidTests := true, laidLooks := .later }
def FnRunOrderShortUptoCardSaid : Prop := Claim7.holds Tryd.pinned (.plain (OpenSpec.upto fnRunOrderShortSpec)) fnRunOrderShortUptoCard

/-- THE SECOND FORM's CARD OF 'laws.FnRunLocksNone'. -/
def fnRunLocksNoneUptoCard : Claim7 := { stood := { row := fnRunLocksNoneUptoRow, standIns := [], harness := (true, "7a62e0f4aacb68c7920ce18acc60800c36ae2137f74225c1f097f55e6ad9ac45"), looks := false }, kinds := [], alts := [], laidByText := true, laidKinds := [.data, .data], laidTests := true, laidLooks := .later }
def FnRunLocksNoneUptoCardSaid : Prop := Claim7.holds Tryd.pinned (.plain (OpenSpec.upto fnRunLocksNoneSpec)) fnRunLocksNoneUptoCard

/-- THE SECOND FORM's CARD OF 'laws.FnRunLocks'. -/
def fnRunLocksUptoCard : Claim7 := { stood := { row := fnRunLocksUptoRow, standIns := [], harness := (true, "7a62e0f4aacb68c7920ce18acc60800c36ae2137f74225c1f097f55e6ad9ac45"), looks := false }, kinds := [], alts := [], laidByText := true, laidKinds := [.data, .data], laidTests := true, laidLooks := .later }
def FnRunLocksUptoCardSaid : Prop := Claim7.holds Tryd.pinned (.plain (OpenSpec.upto fnRunLocksSpec)) fnRunLocksUptoCard

/-- THE SECOND FORM's CARD OF 'laws.FnRunOrder'. -/
def fnRunOrderUptoCard : Claim7 := { stood := { row := fnRunOrderUptoRow, standIns := [], harness := (true, "7a62e0f4aacb68c7920ce18acc60800c36ae2137f74225c1f097f55e6ad9ac45"), looks := false }, kinds := [], alts := [], laidByText := true, laidKinds := [.data, .data], laidTests := true, laidLooks := .later }
def FnRunOrderUptoCardSaid : Prop := Claim7.holds Tryd.pinned (.plain (OpenSpec.upto fnRunOrderSpec)) fnRunOrderUptoCard

/-- THE SECOND FORM's CARD OF 'laws.FnRunLocksDirty'. -/
def fnRunLocksDirtyUptoCard : Claim7 := { stood := { row := fnRunLocksDirtyUptoRow, standIns := [], harness := (true, "7a62e0f4aacb68c7920ce18acc60800c36ae2137f74225c1f097f55e6ad9ac45"), looks := false }, kinds := [], alts := [], laidByText := true, laidKinds := [.data, .data], laidTests := true, laidLooks := .later }
def FnRunLocksDirtyUptoCardSaid : Prop := Claim7.holds Tryd.pinned (.plain (OpenSpec.upto fnRunLocksDirtySpec)) fnRunLocksDirtyUptoCard

/-- THE SECOND FORM's CARD OF 'laws.FnRunOrderLocks'. -/
def fnRunOrderLocksUptoCard : Claim7 := { stood := { row := fnRunOrderLocksUptoRow, standIns := [], harness := (true, "7a62e0f4aacb68c7920ce18acc60800c36ae2137f74225c1f097f55e6ad9ac45"), looks := false }, kinds := [], alts := [], laidByText := true, laidKinds := [.data, .data], laidTests := true, laidLooks := .later }
def FnRunOrderLocksUptoCardSaid : Prop := Claim7.holds Tryd.pinned (.plain (OpenSpec.upto fnRunOrderLocksSpec)) fnRunOrderLocksUptoCard

/-- THE SECOND FORM's CARD OF 'laws.FnRunValuesNone'. -/
def fnRunValuesNoneUptoCard : Claim7 := { stood := { row := fnRunValuesNoneUptoRow, standIns := [], harness := (true, "7a62e0f4aacb68c7920ce18acc60800c36ae2137f74225c1f097f55e6ad9ac45"), looks := false }, kinds := [], alts := [], laidByText := true, laidKinds := [.data, .data], laidTests := true, laidLooks := .later }
def FnRunValuesNoneUptoCardSaid : Prop := Claim7.holds Tryd.pinned (.plain (OpenSpec.upto fnRunValuesNoneSpec)) fnRunValuesNoneUptoCard

/-- THE SECOND FORM's CARD OF 'laws.FnRunWaitsHeld'. -/
def fnRunWaitsHeldUptoCard : Claim7 := { stood := { row := fnRunWaitsHeldUptoRow, standIns := [], harness := (true, "7a62e0f4aacb68c7920ce18acc60800c36ae2137f74225c1f097f55e6ad9ac45"), looks := false }, kinds := [], alts := [], laidByText := true, laidKinds := [.data, .data], laidTests := true, laidLooks := .later }
def FnRunWaitsHeldUptoCardSaid : Prop := Claim7.holds Tryd.pinned (.plain (OpenSpec.upto fnRunWaitsHeldSpec)) fnRunWaitsHeldUptoCard

/-- THE SECOND FORM's CARD OF 'laws.FnRunWaits'. -/
def fnRunWaitsUptoCard : Claim7 := { stood := { row := fnRunWaitsUptoRow, standIns := [], harness := (true, "7a62e0f4aacb68c7920ce18acc60800c36ae2137f74225c1f097f55e6ad9ac45"), looks := false }, kinds := [], alts := [], laidByText := true, laidKinds := [.data, .data], laidTests := true, laidLooks := .later }
def FnRunWaitsUptoCardSaid : Prop := Claim7.holds Tryd.pinned (.plain (OpenSpec.upto fnRunWaitsSpec)) fnRunWaitsUptoCard
end Rows
end Go.Proofs.YtieokkinmnphgaaDoor
