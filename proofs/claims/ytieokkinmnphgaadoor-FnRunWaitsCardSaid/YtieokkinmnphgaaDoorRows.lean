/-
  NARROWER THAN 'FOR EVERY INPUT', by the rows' own cells (each row's printed sentence says how): FnRunValuesStep: laid · FnRunValues: laid · FnRunValuesOrder: laid · FnRunOrderAlone: laid · FnRunOrderShort: laid · FnRunLocksNone: laid · FnRunLocks: laid · FnRunOrder: laid · FnRunLocksDirty: laid · FnRunOrderLocks: laid · FnRunValuesNone: laid · FnRunWaitsHeld: laid · FnRunWaits: laid.
  DERIVED. THE GIVEN ROWS OF THIS SEAT. 13 by the template 'for every input the law returns true; each argument reads behind the call as it read before'; 0 by the template 'total and deterministic' (their statements: YtieokkinmnphgaaDoorTotals.lean).
  GIVEN WITH THE SEED: the statements are not yours to turn. If you find one false, say at which input.
  Laid BY PROGRAM, IN A SANDBOX (cutbox-rows.mjs): the forced cells as the released guide's own fill.sh prints them over the translation c1cf97e939fb2c3a… (all of the seat's roots in one cut). By AI agents, Wed Nov 11 2026. No macro, syntax, notation, axiom, sorry.
-/
import Derived.Test.YtieokkinmnphgaaDoorChecked
import GoSem.Claim
import GoSem.ClaimJoined
import GoSem.ClaimMapViews
import Derived.JoinedTies
import Derived.KernelRfl
namespace Go.Proofs.YtieokkinmnphgaaDoor
/- THE CELL 'sum', in the pinned program and in every row, IS THE sha256 OF THE DUMP (.gsa) THAT YtieokkinmnphgaaDoorProg.lean LOADS. Nothing in Lean hashes anything: it is a label: what it is worth is what the hold of that sum in a sandbox is worth. -/
noncomputable def Tryd.pinned : Pinned := { name := "ytieokkinmnphgaadoor", sum := "c1cf97e939fb2c3ae9816863ff2b9f25deb0bc5d546ad05313b4cbf7ec7ec25e", checked := Tryd.checked }
namespace Rows
def none {H : Type} : Left H := { results := [], args := [] }

/- WHAT THE LISTED PACKAGE-LEVEL VARIABLES READ AS WHEN THE CALL BEGINS. Each datum BY PROGRAM (the guide's laid-datum.mjs) off the statement by which the dump's own 'gosem.cut.vars' lays the variable. In a bare row this is a premise. The card (YtieokkinmnphgaaDoorCards.lean) ties it to the program's text. -/
def laid_loop_example_treelocks_impl_together {H : Type} : DataW H := .agg [.agg [.lit (.bool true), .lit (.bool true), .lit (.bool true), .lit (.bool true), .lit (.bool true), .lit (.bool true)], .agg [.lit (.bool true), .lit (.bool true), .lit (.bool true), .lit (.bool true), .lit (.bool true), .lit (.bool false)], .agg [.lit (.bool true), .lit (.bool true), .lit (.bool true), .lit (.bool false), .lit (.bool false), .lit (.bool false)], .agg [.lit (.bool true), .lit (.bool true), .lit (.bool false), .lit (.bool true), .lit (.bool false), .lit (.bool false)], .agg [.lit (.bool true), .lit (.bool true), .lit (.bool false), .lit (.bool false), .lit (.bool false), .lit (.bool false)], .agg [.lit (.bool true), .lit (.bool false), .lit (.bool false), .lit (.bool false), .lit (.bool false), .lit (.bool false)]]
def laid_loop_example_treelocks_impl_joined {H : Type} : DataW H := .agg [.agg [.lit (.int .i64 0), .lit (.int .i64 1), .lit (.int .i64 2), .lit (.int .i64 3), .lit (.int .i64 4), .lit (.int .i64 5)], .agg [.lit (.int .i64 1), .lit (.int .i64 1), .lit (.int .i64 2), .lit (.int .i64 3), .lit (.int .i64 4), .lit (.int .i64 5)], .agg [.lit (.int .i64 2), .lit (.int .i64 2), .lit (.int .i64 2), .lit (.int .i64 4), .lit (.int .i64 4), .lit (.int .i64 5)], .agg [.lit (.int .i64 3), .lit (.int .i64 3), .lit (.int .i64 4), .lit (.int .i64 3), .lit (.int .i64 4), .lit (.int .i64 5)], .agg [.lit (.int .i64 4), .lit (.int .i64 4), .lit (.int .i64 4), .lit (.int .i64 4), .lit (.int .i64 4), .lit (.int .i64 5)], .agg [.lit (.int .i64 5), .lit (.int .i64 5), .lit (.int .i64 5), .lit (.int .i64 5), .lit (.int .i64 5), .lit (.int .i64 5)]]

/-- 'laws.FnRunValuesStep': WHATEVER THE INPUT: true; the input reads as it did. -/
def fnRunValuesStepSpec : ChangeSpec := { name := "fnRunValuesStep", vars := ["loop.example/treelocks/impl.together", "loop.example/treelocks/impl.joined"], fn := fun _ => fun
  | [d, g1, g2] => { results := [.lit (.bool true)], args := [d], vars := [g1, g2] }
  | _ => none }
def fnRunValuesStepRow : OpenClaim := { program := "ytieokkinmnphgaadoor", sum := "c1cf97e939fb2c3ae9816863ff2b9f25deb0bc5d546ad05313b4cbf7ec7ec25e", func := "loop.example/treelocks/laws.FnRunValuesStep", spec := "fnRunValuesStep", unfollowed := true, recurses := true, named := ["loop.example/treelocks/impl.together", "loop.example/treelocks/impl.joined"], apart := false, laid := [("loop.example/treelocks/impl.together", laid_loop_example_treelocks_impl_together), ("loop.example/treelocks/impl.joined", laid_loop_example_treelocks_impl_joined)] }
def FnRunValuesStepSaid : Prop := fnRunValuesStepRow.holds Tryd.pinned (OpenSpec.ofChange fnRunValuesStepSpec)

/-- ITS FALSE NEIGHBOUR: 'it returns false'. Refute it at one input. -/
def fnRunValuesStepWrong : ChangeSpec := { name := "fnRunValuesStep", vars := ["loop.example/treelocks/impl.together", "loop.example/treelocks/impl.joined"], fn := fun _ => fun
  | [d, g1, g2] => { results := [.lit (.bool false)], args := [d], vars := [g1, g2] }
  | _ => none }
def FnRunValuesStepWrongFalsely : Prop := fnRunValuesStepRow.holds Tryd.pinned (OpenSpec.ofChange fnRunValuesStepWrong)

/-- 'laws.FnRunValues': WHATEVER THE INPUT: true; the input reads as it did. -/
def fnRunValuesSpec : ChangeSpec := { name := "fnRunValues", vars := ["loop.example/treelocks/impl.together", "loop.example/treelocks/impl.joined"], fn := fun _ => fun
  | [d, g1, g2] => { results := [.lit (.bool true)], args := [d], vars := [g1, g2] }
  | _ => none }
def fnRunValuesRow : OpenClaim := { program := "ytieokkinmnphgaadoor", sum := "c1cf97e939fb2c3ae9816863ff2b9f25deb0bc5d546ad05313b4cbf7ec7ec25e", func := "loop.example/treelocks/laws.FnRunValues", spec := "fnRunValues", unfollowed := true, recurses := true, named := ["loop.example/treelocks/impl.together", "loop.example/treelocks/impl.joined"], apart := false, laid := [("loop.example/treelocks/impl.together", laid_loop_example_treelocks_impl_together), ("loop.example/treelocks/impl.joined", laid_loop_example_treelocks_impl_joined)] }
def FnRunValuesSaid : Prop := fnRunValuesRow.holds Tryd.pinned (OpenSpec.ofChange fnRunValuesSpec)

/-- ITS FALSE NEIGHBOUR: 'it returns false'. Refute it at one input. -/
def fnRunValuesWrong : ChangeSpec := { name := "fnRunValues", vars := ["loop.example/treelocks/impl.together", "loop.example/treelocks/impl.joined"], fn := fun _ => fun
  | [d, g1, g2] => { results := [.lit (.bool false)], args := [d], vars := [g1, g2] }
  | _ => none }
def FnRunValuesWrongFalsely : Prop := fnRunValuesRow.holds Tryd.pinned (OpenSpec.ofChange fnRunValuesWrong)

/-- 'laws.FnRunValuesOrder': WHATEVER THE INPUT: true; the input reads as it did. -/
def fnRunValuesOrderSpec : ChangeSpec := { name := "fnRunValuesOrder", vars := ["loop.example/treelocks/impl.together", "loop.example/treelocks/impl.joined"], fn := fun _ => fun
  | [d, g1, g2] => { results := [.lit (.bool true)], args := [d], vars := [g1, g2] }
  | _ => none }
def fnRunValuesOrderRow : OpenClaim := { program := "ytieokkinmnphgaadoor", sum := "c1cf97e939fb2c3ae9816863ff2b9f25deb0bc5d546ad05313b4cbf7ec7ec25e", func := "loop.example/treelocks/laws.FnRunValuesOrder", spec := "fnRunValuesOrder", unfollowed := true, recurses := true, named := ["loop.example/treelocks/impl.together", "loop.example/treelocks/impl.joined"], apart := false, laid := [("loop.example/treelocks/impl.together", laid_loop_example_treelocks_impl_together), ("loop.example/treelocks/impl.joined", laid_loop_example_treelocks_impl_joined)] }
def FnRunValuesOrderSaid : Prop := fnRunValuesOrderRow.holds Tryd.pinned (OpenSpec.ofChange fnRunValuesOrderSpec)

/-- ITS FALSE NEIGHBOUR: 'it returns false'. Refute it at one input. -/
def fnRunValuesOrderWrong : ChangeSpec := { name := "fnRunValuesOrder", vars := ["loop.example/treelocks/impl.together", "loop.example/treelocks/impl.joined"], fn := fun _ => fun
  | [d, g1, g2] => { results := [.lit (.bool false)], args := [d], vars := [g1, g2] }
  | _ => none }
def FnRunValuesOrderWrongFalsely : Prop := fnRunValuesOrderRow.holds Tryd.pinned (OpenSpec.ofChange fnRunValuesOrderWrong)

/-- 'laws.FnRunOrderAlone': WHATEVER THE INPUT: true; the input reads as it did. -/
def fnRunOrderAloneSpec : ChangeSpec := { name := "fnRunOrderAlone", vars := ["loop.example/treelocks/impl.together", "loop.example/treelocks/impl.joined"], fn := fun _ => fun
  | [d, g1, g2] => { results := [.lit (.bool true)], args := [d], vars := [g1, g2] }
  | _ => none }
def fnRunOrderAloneRow : OpenClaim := { program := "ytieokkinmnphgaadoor", sum := "c1cf97e939fb2c3ae9816863ff2b9f25deb0bc5d546ad05313b4cbf7ec7ec25e", func := "loop.example/treelocks/laws.FnRunOrderAlone", spec := "fnRunOrderAlone", unfollowed := true, recurses := true, named := ["loop.example/treelocks/impl.together", "loop.example/treelocks/impl.joined"], apart := false, laid := [("loop.example/treelocks/impl.together", laid_loop_example_treelocks_impl_together), ("loop.example/treelocks/impl.joined", laid_loop_example_treelocks_impl_joined)] }
def FnRunOrderAloneSaid : Prop := fnRunOrderAloneRow.holds Tryd.pinned (OpenSpec.ofChange fnRunOrderAloneSpec)

/-- ITS FALSE NEIGHBOUR: 'it returns false'. Refute it at one input. -/
def fnRunOrderAloneWrong : ChangeSpec := { name := "fnRunOrderAlone", vars := ["loop.example/treelocks/impl.together", "loop.example/treelocks/impl.joined"], fn := fun _ => fun
  | [d, g1, g2] => { results := [.lit (.bool false)], args := [d], vars := [g1, g2] }
  | _ => none }
def FnRunOrderAloneWrongFalsely : Prop := fnRunOrderAloneRow.holds Tryd.pinned (OpenSpec.ofChange fnRunOrderAloneWrong)

/-- 'laws.FnRunOrderShort': WHATEVER THE INPUT: true; the input reads as it did. -/
def fnRunOrderShortSpec : ChangeSpec := { name := "fnRunOrderShort", vars := ["loop.example/treelocks/impl.together", "loop.example/treelocks/impl.joined"], fn := fun _ => fun
  | [d, g1, g2] => { results := [.lit (.bool true)], args := [d], vars := [g1, g2] }
  | _ => none }
def fnRunOrderShortRow : OpenClaim := { program := "ytieokkinmnphgaadoor", sum := "c1cf97e939fb2c3ae9816863ff2b9f25deb0bc5d546ad05313b4cbf7ec7ec25e", func := "loop.example/treelocks/laws.FnRunOrderShort", spec := "fnRunOrderShort", unfollowed := true, recurses := true, named := ["loop.example/treelocks/impl.together", "loop.example/treelocks/impl.joined"], apart := false, laid := [("loop.example/treelocks/impl.together", laid_loop_example_treelocks_impl_together), ("loop.example/treelocks/impl.joined", laid_loop_example_treelocks_impl_joined)] }
def FnRunOrderShortSaid : Prop := fnRunOrderShortRow.holds Tryd.pinned (OpenSpec.ofChange fnRunOrderShortSpec)

/-- ITS FALSE NEIGHBOUR: 'it returns false'. Refute it at one input. -/
def fnRunOrderShortWrong : ChangeSpec := { name := "fnRunOrderShort", vars := ["loop.example/treelocks/impl.together", "loop.example/treelocks/impl.joined"], fn := fun _ => fun
  | [d, g1, g2] => { results := [.lit (.bool false)], args := [d], vars := [g1, g2] }
  | _ => none }
def FnRunOrderShortWrongFalsely : Prop := fnRunOrderShortRow.holds Tryd.pinned (OpenSpec.ofChange fnRunOrderShortWrong)

/-- 'laws.FnRunLocksNone': WHATEVER THE INPUT: true; the input reads as it did. -/
def fnRunLocksNoneSpec : ChangeSpec := { name := "fnRunLocksNone", vars := ["loop.example/treelocks/impl.together", "loop.example/treelocks/impl.joined"], fn := fun _ => fun
  | [d, g1, g2] => { results := [.lit (.bool true)], args := [d], vars := [g1, g2] }
  | _ => none }
def fnRunLocksNoneRow : OpenClaim := { program := "ytieokkinmnphgaadoor", sum := "c1cf97e939fb2c3ae9816863ff2b9f25deb0bc5d546ad05313b4cbf7ec7ec25e", func := "loop.example/treelocks/laws.FnRunLocksNone", spec := "fnRunLocksNone", unfollowed := true, recurses := true, named := ["loop.example/treelocks/impl.together", "loop.example/treelocks/impl.joined"], apart := false, laid := [("loop.example/treelocks/impl.together", laid_loop_example_treelocks_impl_together), ("loop.example/treelocks/impl.joined", laid_loop_example_treelocks_impl_joined)] }
def FnRunLocksNoneSaid : Prop := fnRunLocksNoneRow.holds Tryd.pinned (OpenSpec.ofChange fnRunLocksNoneSpec)

/-- ITS FALSE NEIGHBOUR: 'it returns false'. Refute it at one input. -/
def fnRunLocksNoneWrong : ChangeSpec := { name := "fnRunLocksNone", vars := ["loop.example/treelocks/impl.together", "loop.example/treelocks/impl.joined"], fn := fun _ => fun
  | [d, g1, g2] => { results := [.lit (.bool false)], args := [d], vars := [g1, g2] }
  | _ => none }
def FnRunLocksNoneWrongFalsely : Prop := fnRunLocksNoneRow.holds Tryd.pinned (OpenSpec.ofChange fnRunLocksNoneWrong)

/-- 'laws.FnRunLocks': WHATEVER THE INPUT: true; the input reads as it did. -/
def fnRunLocksSpec : ChangeSpec := { name := "fnRunLocks", vars := ["loop.example/treelocks/impl.together", "loop.example/treelocks/impl.joined"], fn := fun _ => fun
  | [d, g1, g2] => { results := [.lit (.bool true)], args := [d], vars := [g1, g2] }
  | _ => none }
def fnRunLocksRow : OpenClaim := { program := "ytieokkinmnphgaadoor", sum := "c1cf97e939fb2c3ae9816863ff2b9f25deb0bc5d546ad05313b4cbf7ec7ec25e", func := "loop.example/treelocks/laws.FnRunLocks", spec := "fnRunLocks", unfollowed := true, recurses := true, named := ["loop.example/treelocks/impl.together", "loop.example/treelocks/impl.joined"], apart := false, laid := [("loop.example/treelocks/impl.together", laid_loop_example_treelocks_impl_together), ("loop.example/treelocks/impl.joined", laid_loop_example_treelocks_impl_joined)] }
def FnRunLocksSaid : Prop := fnRunLocksRow.holds Tryd.pinned (OpenSpec.ofChange fnRunLocksSpec)

/-- ITS FALSE NEIGHBOUR: 'it returns false'. Refute it at one input. -/
def fnRunLocksWrong : ChangeSpec := { name := "fnRunLocks", vars := ["loop.example/treelocks/impl.together", "loop.example/treelocks/impl.joined"], fn := fun _ => fun
  | [d, g1, g2] => { results := [.lit (.bool false)], args := [d], vars := [g1, g2] }
  | _ => none }
def FnRunLocksWrongFalsely : Prop := fnRunLocksRow.holds Tryd.pinned (OpenSpec.ofChange fnRunLocksWrong)

/-- 'laws.FnRunOrder': WHATEVER THE INPUT: true; the input reads as it did. -/
def fnRunOrderSpec : ChangeSpec := { name := "fnRunOrder", vars := ["loop.example/treelocks/impl.together", "loop.example/treelocks/impl.joined"], fn := fun _ => fun
  | [d, g1, g2] => { results := [.lit (.bool true)], args := [d], vars := [g1, g2] }
  | _ => none }
def fnRunOrderRow : OpenClaim := { program := "ytieokkinmnphgaadoor", sum := "c1cf97e939fb2c3ae9816863ff2b9f25deb0bc5d546ad05313b4cbf7ec7ec25e", func := "loop.example/treelocks/laws.FnRunOrder", spec := "fnRunOrder", unfollowed := true, recurses := true, named := ["loop.example/treelocks/impl.together", "loop.example/treelocks/impl.joined"], apart := false, laid := [("loop.example/treelocks/impl.together", laid_loop_example_treelocks_impl_together), ("loop.example/treelocks/impl.joined", laid_loop_example_treelocks_impl_joined)] }
def FnRunOrderSaid : Prop := fnRunOrderRow.holds Tryd.pinned (OpenSpec.ofChange fnRunOrderSpec)

/-- ITS FALSE NEIGHBOUR: 'it returns false'. Refute it at one input. -/
def fnRunOrderWrong : ChangeSpec := { name := "fnRunOrder", vars := ["loop.example/treelocks/impl.together", "loop.example/treelocks/impl.joined"], fn := fun _ => fun
  | [d, g1, g2] => { results := [.lit (.bool false)], args := [d], vars := [g1, g2] }
  | _ => none }
def FnRunOrderWrongFalsely : Prop := fnRunOrderRow.holds Tryd.pinned (OpenSpec.ofChange fnRunOrderWrong)

/-- 'laws.FnRunLocksDirty': WHATEVER THE INPUT: true; the input reads as it did. -/
def fnRunLocksDirtySpec : ChangeSpec := { name := "fnRunLocksDirty", vars := ["loop.example/treelocks/impl.together", "loop.example/treelocks/impl.joined"], fn := fun _ => fun
  | [d, g1, g2] => { results := [.lit (.bool true)], args := [d], vars := [g1, g2] }
  | _ => none }
def fnRunLocksDirtyRow : OpenClaim := { program := "ytieokkinmnphgaadoor", sum := "c1cf97e939fb2c3ae9816863ff2b9f25deb0bc5d546ad05313b4cbf7ec7ec25e", func := "loop.example/treelocks/laws.FnRunLocksDirty", spec := "fnRunLocksDirty", unfollowed := true, recurses := true, named := ["loop.example/treelocks/impl.together", "loop.example/treelocks/impl.joined"], apart := false, laid := [("loop.example/treelocks/impl.together", laid_loop_example_treelocks_impl_together), ("loop.example/treelocks/impl.joined", laid_loop_example_treelocks_impl_joined)] }
def FnRunLocksDirtySaid : Prop := fnRunLocksDirtyRow.holds Tryd.pinned (OpenSpec.ofChange fnRunLocksDirtySpec)

/-- ITS FALSE NEIGHBOUR: 'it returns false'. Refute it at one input. -/
def fnRunLocksDirtyWrong : ChangeSpec := { name := "fnRunLocksDirty", vars := ["loop.example/treelocks/impl.together", "loop.example/treelocks/impl.joined"], fn := fun _ => fun
  | [d, g1, g2] => { results := [.lit (.bool false)], args := [d], vars := [g1, g2] }
  | _ => none }
def FnRunLocksDirtyWrongFalsely : Prop := fnRunLocksDirtyRow.holds Tryd.pinned (OpenSpec.ofChange fnRunLocksDirtyWrong)

/-- 'laws.FnRunOrderLocks': WHATEVER THE INPUT: true; the input reads as it did. -/
def fnRunOrderLocksSpec : ChangeSpec := { name := "fnRunOrderLocks", vars := ["loop.example/treelocks/impl.together", "loop.example/treelocks/impl.joined"], fn := fun _ => fun
  | [d, g1, g2] => { results := [.lit (.bool true)], args := [d], vars := [g1, g2] }
  | _ => none }
def fnRunOrderLocksRow : OpenClaim := { program := "ytieokkinmnphgaadoor", sum := "c1cf97e939fb2c3ae9816863ff2b9f25deb0bc5d546ad05313b4cbf7ec7ec25e", func := "loop.example/treelocks/laws.FnRunOrderLocks", spec := "fnRunOrderLocks", unfollowed := true, recurses := true, named := ["loop.example/treelocks/impl.together", "loop.example/treelocks/impl.joined"], apart := false, laid := [("loop.example/treelocks/impl.together", laid_loop_example_treelocks_impl_together), ("loop.example/treelocks/impl.joined", laid_loop_example_treelocks_impl_joined)] }
def FnRunOrderLocksSaid : Prop := fnRunOrderLocksRow.holds Tryd.pinned (OpenSpec.ofChange fnRunOrderLocksSpec)

/-- ITS FALSE NEIGHBOUR: 'it returns false'. Refute it at one input. -/
def fnRunOrderLocksWrong : ChangeSpec := { name := "fnRunOrderLocks", vars := ["loop.example/treelocks/impl.together", "loop.example/treelocks/impl.joined"], fn := fun _ => fun
  | [d, g1, g2] => { results := [.lit (.bool false)], args := [d], vars := [g1, g2] }
  | _ => none }
def FnRunOrderLocksWrongFalsely : Prop := fnRunOrderLocksRow.holds Tryd.pinned (OpenSpec.ofChange fnRunOrderLocksWrong)

/-- 'laws.FnRunValuesNone': WHATEVER THE INPUT: true; the input reads as it did. -/
def fnRunValuesNoneSpec : ChangeSpec := { name := "fnRunValuesNone", vars := ["loop.example/treelocks/impl.together", "loop.example/treelocks/impl.joined"], fn := fun _ => fun
  | [d, g1, g2] => { results := [.lit (.bool true)], args := [d], vars := [g1, g2] }
  | _ => none }
def fnRunValuesNoneRow : OpenClaim := { program := "ytieokkinmnphgaadoor", sum := "c1cf97e939fb2c3ae9816863ff2b9f25deb0bc5d546ad05313b4cbf7ec7ec25e", func := "loop.example/treelocks/laws.FnRunValuesNone", spec := "fnRunValuesNone", unfollowed := true, recurses := true, named := ["loop.example/treelocks/impl.together", "loop.example/treelocks/impl.joined"], apart := false, laid := [("loop.example/treelocks/impl.together", laid_loop_example_treelocks_impl_together), ("loop.example/treelocks/impl.joined", laid_loop_example_treelocks_impl_joined)] }
def FnRunValuesNoneSaid : Prop := fnRunValuesNoneRow.holds Tryd.pinned (OpenSpec.ofChange fnRunValuesNoneSpec)

/-- ITS FALSE NEIGHBOUR: 'it returns false'. Refute it at one input. -/
def fnRunValuesNoneWrong : ChangeSpec := { name := "fnRunValuesNone", vars := ["loop.example/treelocks/impl.together", "loop.example/treelocks/impl.joined"], fn := fun _ => fun
  | [d, g1, g2] => { results := [.lit (.bool false)], args := [d], vars := [g1, g2] }
  | _ => none }
def FnRunValuesNoneWrongFalsely : Prop := fnRunValuesNoneRow.holds Tryd.pinned (OpenSpec.ofChange fnRunValuesNoneWrong)

/-- 'laws.FnRunWaitsHeld': WHATEVER THE INPUT: true; the input reads as it did. -/
def fnRunWaitsHeldSpec : ChangeSpec := { name := "fnRunWaitsHeld", vars := ["loop.example/treelocks/impl.together", "loop.example/treelocks/impl.joined"], fn := fun _ => fun
  | [d, g1, g2] => { results := [.lit (.bool true)], args := [d], vars := [g1, g2] }
  | _ => none }
def fnRunWaitsHeldRow : OpenClaim := { program := "ytieokkinmnphgaadoor", sum := "c1cf97e939fb2c3ae9816863ff2b9f25deb0bc5d546ad05313b4cbf7ec7ec25e", func := "loop.example/treelocks/laws.FnRunWaitsHeld", spec := "fnRunWaitsHeld", unfollowed := true, recurses := true, named := ["loop.example/treelocks/impl.together", "loop.example/treelocks/impl.joined"], apart := false, laid := [("loop.example/treelocks/impl.together", laid_loop_example_treelocks_impl_together), ("loop.example/treelocks/impl.joined", laid_loop_example_treelocks_impl_joined)] }
def FnRunWaitsHeldSaid : Prop := fnRunWaitsHeldRow.holds Tryd.pinned (OpenSpec.ofChange fnRunWaitsHeldSpec)

/-- ITS FALSE NEIGHBOUR: 'it returns false'. Refute it at one input. -/
def fnRunWaitsHeldWrong : ChangeSpec := { name := "fnRunWaitsHeld", vars := ["loop.example/treelocks/impl.together", "loop.example/treelocks/impl.joined"], fn := fun _ => fun
  | [d, g1, g2] => { results := [.lit (.bool false)], args := [d], vars := [g1, g2] }
  | _ => none }
def FnRunWaitsHeldWrongFalsely : Prop := fnRunWaitsHeldRow.holds Tryd.pinned (OpenSpec.ofChange fnRunWaitsHeldWrong)

/-- 'laws.FnRunWaits': WHATEVER THE INPUT: true; the input reads as it did. -/
def fnRunWaitsSpec : ChangeSpec := { name := "fnRunWaits", vars := ["loop.example/treelocks/impl.together", "loop.example/treelocks/impl.joined"], fn := fun _ => fun
  | [d, g1, g2] => { results := [.lit (.bool true)], args := [d], vars := [g1, g2] }
  | _ => none }
def fnRunWaitsRow : OpenClaim := { program := "ytieokkinmnphgaadoor", sum := "c1cf97e939fb2c3ae9816863ff2b9f25deb0bc5d546ad05313b4cbf7ec7ec25e", func := "loop.example/treelocks/laws.FnRunWaits", spec := "fnRunWaits", unfollowed := true, recurses := true, named := ["loop.example/treelocks/impl.together", "loop.example/treelocks/impl.joined"], apart := false, laid := [("loop.example/treelocks/impl.together", laid_loop_example_treelocks_impl_together), ("loop.example/treelocks/impl.joined", laid_loop_example_treelocks_impl_joined)] }
def FnRunWaitsSaid : Prop := fnRunWaitsRow.holds Tryd.pinned (OpenSpec.ofChange fnRunWaitsSpec)

/-- ITS FALSE NEIGHBOUR: 'it returns false'. Refute it at one input. -/
def fnRunWaitsWrong : ChangeSpec := { name := "fnRunWaits", vars := ["loop.example/treelocks/impl.together", "loop.example/treelocks/impl.joined"], fn := fun _ => fun
  | [d, g1, g2] => { results := [.lit (.bool false)], args := [d], vars := [g1, g2] }
  | _ => none }
def FnRunWaitsWrongFalsely : Prop := fnRunWaitsRow.holds Tryd.pinned (OpenSpec.ofChange fnRunWaitsWrong)

/- THE SECOND FORM. 'bulk': how many values and letters a reading holds, each counted each time it is reached (what is shared counts as often as it is met; a slice's spare places count too). A statement '..UptoSaid' is the law's where the arguments, and the package variables that the reading takes, are together of bulk at most 1048576: NARROWER than '..Said'. Prove '..Said' where nothing that the law and all that it calls make is longer than what came in: it says more and counts as full. Else prove '..UptoSaid'. A law counts once. -/
mutual
def uptoBulk {H : Type} : DataW H → Nat
  | .lit (.string bytes) => bytes.length + 1
  | .lit _ => 1
  | .nil => 1
  | .ptr d => uptoBulk d + 1
  | .slice elems spare => uptoBulkAll elems + uptoBulkAll spare + 1
  | .agg parts => uptoBulkAll parts + 1
  | .iface _ d => uptoBulk d + 1
  | .map entries => uptoBulkEntries entries + 1
  | .held _ => 1
def uptoBulkAll {H : Type} : List (DataW H) → Nat
  | [] => 0
  | d :: r => uptoBulk d + uptoBulkAll r
def uptoBulkEntries {H : Type} : List (Lit × DataW H) → Nat
  | [] => 0
  | x :: r => uptoBulkEntry x + uptoBulkEntries r
def uptoBulkEntry {H : Type} : Lit × DataW H → Nat
  | (.string bytes, d) => bytes.length + uptoBulk d + 1
  | (_, d) => uptoBulk d + 1
 end
def uptoSmall : (H : Type) → List (DataW H) → Bool := fun _ ds => decide (uptoBulkAll ds ≤ 1048576)
def OpenSpec.upto (s : _root_.Go.ChangeSpec) : _root_.Go.OpenSpec := { _root_.Go.OpenSpec.ofChange s with cond := some uptoSmall }

/-- 'laws.FnRunValuesStep', WHERE WHAT IT READS IS OF BULK AT MOST 1048576: true; the input reads as it did. -/
def fnRunValuesStepUptoRow : OpenClaim := { program := "ytieokkinmnphgaadoor", sum := "c1cf97e939fb2c3ae9816863ff2b9f25deb0bc5d546ad05313b4cbf7ec7ec25e", func := "loop.example/treelocks/laws.FnRunValuesStep", spec := "fnRunValuesStep", unfollowed := true, recurses := true, named := ["loop.example/treelocks/impl.together", "loop.example/treelocks/impl.joined"], apart := false, laid := [("loop.example/treelocks/impl.together", laid_loop_example_treelocks_impl_together), ("loop.example/treelocks/impl.joined", laid_loop_example_treelocks_impl_joined)], narrowed := true }
def FnRunValuesStepUptoSaid : Prop := fnRunValuesStepUptoRow.holds Tryd.pinned (OpenSpec.upto fnRunValuesStepSpec)

/-- 'laws.FnRunValues', WHERE WHAT IT READS IS OF BULK AT MOST 1048576: true; the input reads as it did. -/
def fnRunValuesUptoRow : OpenClaim := { program := "ytieokkinmnphgaadoor", sum := "c1cf97e939fb2c3ae9816863ff2b9f25deb0bc5d546ad05313b4cbf7ec7ec25e", func := "loop.example/treelocks/laws.FnRunValues", spec := "fnRunValues", unfollowed := true, recurses := true, named := ["loop.example/treelocks/impl.together", "loop.example/treelocks/impl.joined"], apart := false, laid := [("loop.example/treelocks/impl.together", laid_loop_example_treelocks_impl_together), ("loop.example/treelocks/impl.joined", laid_loop_example_treelocks_impl_joined)], narrowed := true }
def FnRunValuesUptoSaid : Prop := fnRunValuesUptoRow.holds Tryd.pinned (OpenSpec.upto fnRunValuesSpec)

/-- 'laws.FnRunValuesOrder', WHERE WHAT IT READS IS OF BULK AT MOST 1048576: true; the input reads as it did. -/
def fnRunValuesOrderUptoRow : OpenClaim := { program := "ytieokkinmnphgaadoor", sum := "c1cf97e939fb2c3ae9816863ff2b9f25deb0bc5d546ad05313b4cbf7ec7ec25e", func := "loop.example/treelocks/laws.FnRunValuesOrder", spec := "fnRunValuesOrder", unfollowed := true, recurses := true, named := ["loop.example/treelocks/impl.together", "loop.example/treelocks/impl.joined"], apart := false, laid := [("loop.example/treelocks/impl.together", laid_loop_example_treelocks_impl_together), ("loop.example/treelocks/impl.joined", laid_loop_example_treelocks_impl_joined)], narrowed := true }
def FnRunValuesOrderUptoSaid : Prop := fnRunValuesOrderUptoRow.holds Tryd.pinned (OpenSpec.upto fnRunValuesOrderSpec)

/-- 'laws.FnRunOrderAlone', WHERE WHAT IT READS IS OF BULK AT MOST 1048576: true; the input reads as it did. -/
def fnRunOrderAloneUptoRow : OpenClaim := { program := "ytieokkinmnphgaadoor", sum := "c1cf97e939fb2c3ae9816863ff2b9f25deb0bc5d546ad05313b4cbf7ec7ec25e", func := "loop.example/treelocks/laws.FnRunOrderAlone", spec := "fnRunOrderAlone", unfollowed := true, recurses := true, named := ["loop.example/treelocks/impl.together", "loop.example/treelocks/impl.joined"], apart := false, laid := [("loop.example/treelocks/impl.together", laid_loop_example_treelocks_impl_together), ("loop.example/treelocks/impl.joined", laid_loop_example_treelocks_impl_joined)], narrowed := true }
def FnRunOrderAloneUptoSaid : Prop := fnRunOrderAloneUptoRow.holds Tryd.pinned (OpenSpec.upto fnRunOrderAloneSpec)

/-- 'laws.FnRunOrderShort', WHERE WHAT IT READS IS OF BULK AT MOST 1048576: true; the input reads as it did. -/
def fnRunOrderShortUptoRow : OpenClaim := { program := "ytieokkinmnphgaadoor", sum := "c1cf97e939fb2c3ae9816863ff2b9f25deb0bc5d546ad05313b4cbf7ec7ec25e", func := "loop.example/treelocks/laws.FnRunOrderShort", spec := "fnRunOrderShort", unfollowed := true, recurses := true, named := ["loop.example/treelocks/impl.together", "loop.example/treelocks/impl.joined"], apart := false, laid := [("loop.example/treelocks/impl.together", laid_loop_example_treelocks_impl_together), ("loop.example/treelocks/impl.joined", laid_loop_example_treelocks_impl_joined)], narrowed := true }
def FnRunOrderShortUptoSaid : Prop := fnRunOrderShortUptoRow.holds Tryd.pinned (OpenSpec.upto fnRunOrderShortSpec)

/-- 'laws.FnRunLocksNone', WHERE WHAT IT READS IS OF BULK AT MOST 1048576: true; the input reads as it did. -/
def fnRunLocksNoneUptoRow : OpenClaim := { program := "ytieokkinmnphgaadoor", sum := "c1cf97e939fb2c3ae9816863ff2b9f25deb0bc5d546ad05313b4cbf7ec7ec25e", func := "loop.example/treelocks/laws.FnRunLocksNone", spec := "fnRunLocksNone", unfollowed := true, recurses := true, named := ["loop.example/treelocks/impl.together", "loop.example/treelocks/impl.joined"], apart := false, laid := [("loop.example/treelocks/impl.together", laid_loop_example_treelocks_impl_together), ("loop.example/treelocks/impl.joined", laid_loop_example_treelocks_impl_joined)], narrowed := true }
def FnRunLocksNoneUptoSaid : Prop := fnRunLocksNoneUptoRow.holds Tryd.pinned (OpenSpec.upto fnRunLocksNoneSpec)

/-- 'laws.FnRunLocks', WHERE WHAT IT READS IS OF BULK AT MOST 1048576: true; the input reads as it did. -/
def fnRunLocksUptoRow : OpenClaim := { program := "ytieokkinmnphgaadoor", sum := "c1cf97e939fb2c3ae9816863ff2b9f25deb0bc5d546ad05313b4cbf7ec7ec25e", func := "loop.example/treelocks/laws.FnRunLocks", spec := "fnRunLocks", unfollowed := true, recurses := true, named := ["loop.example/treelocks/impl.together", "loop.example/treelocks/impl.joined"], apart := false, laid := [("loop.example/treelocks/impl.together", laid_loop_example_treelocks_impl_together), ("loop.example/treelocks/impl.joined", laid_loop_example_treelocks_impl_joined)], narrowed := true }
def FnRunLocksUptoSaid : Prop := fnRunLocksUptoRow.holds Tryd.pinned (OpenSpec.upto fnRunLocksSpec)

/-- 'laws.FnRunOrder', WHERE WHAT IT READS IS OF BULK AT MOST 1048576: true; the input reads as it did. -/
def fnRunOrderUptoRow : OpenClaim := { program := "ytieokkinmnphgaadoor", sum := "c1cf97e939fb2c3ae9816863ff2b9f25deb0bc5d546ad05313b4cbf7ec7ec25e", func := "loop.example/treelocks/laws.FnRunOrder", spec := "fnRunOrder", unfollowed := true, recurses := true, named := ["loop.example/treelocks/impl.together", "loop.example/treelocks/impl.joined"], apart := false, laid := [("loop.example/treelocks/impl.together", laid_loop_example_treelocks_impl_together), ("loop.example/treelocks/impl.joined", laid_loop_example_treelocks_impl_joined)], narrowed := true }
def FnRunOrderUptoSaid : Prop := fnRunOrderUptoRow.holds Tryd.pinned (OpenSpec.upto fnRunOrderSpec)

/-- 'laws.FnRunLocksDirty', WHERE WHAT IT READS IS OF BULK AT MOST 1048576: true; the input reads as it did. -/
def fnRunLocksDirtyUptoRow : OpenClaim := { program := "ytieokkinmnphgaadoor", sum := "c1cf97e939fb2c3ae9816863ff2b9f25deb0bc5d546ad05313b4cbf7ec7ec25e", func := "loop.example/treelocks/laws.FnRunLocksDirty", spec := "fnRunLocksDirty", unfollowed := true, recurses := true, named := ["loop.example/treelocks/impl.together", "loop.example/treelocks/impl.joined"], apart := false, laid := [("loop.example/treelocks/impl.together", laid_loop_example_treelocks_impl_together), ("loop.example/treelocks/impl.joined", laid_loop_example_treelocks_impl_joined)], narrowed := true }
def FnRunLocksDirtyUptoSaid : Prop := fnRunLocksDirtyUptoRow.holds Tryd.pinned (OpenSpec.upto fnRunLocksDirtySpec)

/-- 'laws.FnRunOrderLocks', WHERE WHAT IT READS IS OF BULK AT MOST 1048576: true; the input reads as it did. -/
def fnRunOrderLocksUptoRow : OpenClaim := { program := "ytieokkinmnphgaadoor", sum := "c1cf97e939fb2c3ae9816863ff2b9f25deb0bc5d546ad05313b4cbf7ec7ec25e", func := "loop.example/treelocks/laws.FnRunOrderLocks", spec := "fnRunOrderLocks", unfollowed := true, recurses := true, named := ["loop.example/treelocks/impl.together", "loop.example/treelocks/impl.joined"], apart := false, laid := [("loop.example/treelocks/impl.together", laid_loop_example_treelocks_impl_together), ("loop.example/treelocks/impl.joined", laid_loop_example_treelocks_impl_joined)], narrowed := true }
def FnRunOrderLocksUptoSaid : Prop := fnRunOrderLocksUptoRow.holds Tryd.pinned (OpenSpec.upto fnRunOrderLocksSpec)

/-- 'laws.FnRunValuesNone', WHERE WHAT IT READS IS OF BULK AT MOST 1048576: true; the input reads as it did. -/
def fnRunValuesNoneUptoRow : OpenClaim := { program := "ytieokkinmnphgaadoor", sum := "c1cf97e939fb2c3ae9816863ff2b9f25deb0bc5d546ad05313b4cbf7ec7ec25e", func := "loop.example/treelocks/laws.FnRunValuesNone", spec := "fnRunValuesNone", unfollowed := true, recurses := true, named := ["loop.example/treelocks/impl.together", "loop.example/treelocks/impl.joined"], apart := false, laid := [("loop.example/treelocks/impl.together", laid_loop_example_treelocks_impl_together), ("loop.example/treelocks/impl.joined", laid_loop_example_treelocks_impl_joined)], narrowed := true }
def FnRunValuesNoneUptoSaid : Prop := fnRunValuesNoneUptoRow.holds Tryd.pinned (OpenSpec.upto fnRunValuesNoneSpec)

/-- 'laws.FnRunWaitsHeld', WHERE WHAT IT READS IS OF BULK AT MOST 1048576: true; the input reads as it did. -/
def fnRunWaitsHeldUptoRow : OpenClaim := { program := "ytieokkinmnphgaadoor", sum := "c1cf97e939fb2c3ae9816863ff2b9f25deb0bc5d546ad05313b4cbf7ec7ec25e", func := "loop.example/treelocks/laws.FnRunWaitsHeld", spec := "fnRunWaitsHeld", unfollowed := true, recurses := true, named := ["loop.example/treelocks/impl.together", "loop.example/treelocks/impl.joined"], apart := false, laid := [("loop.example/treelocks/impl.together", laid_loop_example_treelocks_impl_together), ("loop.example/treelocks/impl.joined", laid_loop_example_treelocks_impl_joined)], narrowed := true }
def FnRunWaitsHeldUptoSaid : Prop := fnRunWaitsHeldUptoRow.holds Tryd.pinned (OpenSpec.upto fnRunWaitsHeldSpec)

/-- 'laws.FnRunWaits', WHERE WHAT IT READS IS OF BULK AT MOST 1048576: true; the input reads as it did. -/
def fnRunWaitsUptoRow : OpenClaim := { program := "ytieokkinmnphgaadoor", sum := "c1cf97e939fb2c3ae9816863ff2b9f25deb0bc5d546ad05313b4cbf7ec7ec25e", func := "loop.example/treelocks/laws.FnRunWaits", spec := "fnRunWaits", unfollowed := true, recurses := true, named := ["loop.example/treelocks/impl.together", "loop.example/treelocks/impl.joined"], apart := false, laid := [("loop.example/treelocks/impl.together", laid_loop_example_treelocks_impl_together), ("loop.example/treelocks/impl.joined", laid_loop_example_treelocks_impl_joined)], narrowed := true }
def FnRunWaitsUptoSaid : Prop := fnRunWaitsUptoRow.holds Tryd.pinned (OpenSpec.upto fnRunWaitsSpec)

end Rows
end Go.Proofs.YtieokkinmnphgaaDoor
