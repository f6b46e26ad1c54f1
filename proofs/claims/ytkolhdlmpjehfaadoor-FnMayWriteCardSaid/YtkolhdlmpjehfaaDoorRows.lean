/-
  NARROWER THAN 'FOR EVERY INPUT', by the rows' own cells (each row's printed sentence says how): FnTakeAllOne: laid · FnTakeAllTwice: laid · FnTakeAll: laid · FnLocksForTake: laid · FnGrainFaultOne: laid · FnGrainFault: laid · FnMayReadFree: laid · FnMayRead: laid · FnMayReadApart: laid · FnMayWriteApart: laid · FnMayReadLock: laid · FnGrainFaultFree: laid · FnMayWrite: laid.
  DERIVED. THE GIVEN ROWS OF THIS SEAT. 13 by the template 'for every input the law returns true; each argument reads behind the call as it read before'; 0 by the template 'total and deterministic' (their statements: YtkolhdlmpjehfaaDoorTotals.lean).
  GIVEN WITH THE SEED: the statements are not yours to turn. If you find one false, say at which input.
  Laid BY PROGRAM, IN A SANDBOX (cutbox-rows.mjs): the forced cells as the released guide's own fill.sh prints them over the translation f0f97e332b055182… (all of the seat's roots in one cut). By AI agents, Wed Nov 11 2026. No macro, syntax, notation, axiom, sorry.
-/
import Derived.Test.YtkolhdlmpjehfaaDoorChecked
import GoSem.Claim
import GoSem.ClaimJoined
import GoSem.ClaimMapViews
import Derived.JoinedTies
import Derived.KernelRfl
namespace Go.Proofs.YtkolhdlmpjehfaaDoor
/- THE CELL 'sum', in the pinned program and in every row, IS THE sha256 OF THE DUMP (.gsa) THAT YtkolhdlmpjehfaaDoorProg.lean LOADS. Nothing in Lean hashes anything: it is a label: what it is worth is what the hold of that sum in a sandbox is worth. -/
noncomputable def Tryd.pinned : Pinned := { name := "ytkolhdlmpjehfaadoor", sum := "f0f97e332b055182fa26605e5fe73c23baddfe577b70b3c9bc7f814b70267e01", checked := Tryd.checked }
namespace Rows
def none {H : Type} : Left H := { results := [], args := [] }

/- WHAT THE LISTED PACKAGE-LEVEL VARIABLES READ AS WHEN THE CALL BEGINS. Each datum BY PROGRAM (the guide's laid-datum.mjs) off the statement by which the dump's own 'gosem.cut.vars' lays the variable. In a bare row this is a premise. The card (YtkolhdlmpjehfaaDoorCards.lean) ties it to the program's text. -/
def laid_loop_example_treelocks_impl_together {H : Type} : DataW H := .agg [.agg [.lit (.bool true), .lit (.bool true), .lit (.bool true), .lit (.bool true), .lit (.bool true), .lit (.bool true)], .agg [.lit (.bool true), .lit (.bool true), .lit (.bool true), .lit (.bool true), .lit (.bool true), .lit (.bool false)], .agg [.lit (.bool true), .lit (.bool true), .lit (.bool true), .lit (.bool false), .lit (.bool false), .lit (.bool false)], .agg [.lit (.bool true), .lit (.bool true), .lit (.bool false), .lit (.bool true), .lit (.bool false), .lit (.bool false)], .agg [.lit (.bool true), .lit (.bool true), .lit (.bool false), .lit (.bool false), .lit (.bool false), .lit (.bool false)], .agg [.lit (.bool true), .lit (.bool false), .lit (.bool false), .lit (.bool false), .lit (.bool false), .lit (.bool false)]]
def laid_loop_example_treelocks_impl_joined {H : Type} : DataW H := .agg [.agg [.lit (.int .i64 0), .lit (.int .i64 1), .lit (.int .i64 2), .lit (.int .i64 3), .lit (.int .i64 4), .lit (.int .i64 5)], .agg [.lit (.int .i64 1), .lit (.int .i64 1), .lit (.int .i64 2), .lit (.int .i64 3), .lit (.int .i64 4), .lit (.int .i64 5)], .agg [.lit (.int .i64 2), .lit (.int .i64 2), .lit (.int .i64 2), .lit (.int .i64 4), .lit (.int .i64 4), .lit (.int .i64 5)], .agg [.lit (.int .i64 3), .lit (.int .i64 3), .lit (.int .i64 4), .lit (.int .i64 3), .lit (.int .i64 4), .lit (.int .i64 5)], .agg [.lit (.int .i64 4), .lit (.int .i64 4), .lit (.int .i64 4), .lit (.int .i64 4), .lit (.int .i64 4), .lit (.int .i64 5)], .agg [.lit (.int .i64 5), .lit (.int .i64 5), .lit (.int .i64 5), .lit (.int .i64 5), .lit (.int .i64 5), .lit (.int .i64 5)]]

/-- 'laws.FnTakeAllOne': WHATEVER THE INPUT: true; the input reads as it did. -/
def fnTakeAllOneSpec : ChangeSpec := { name := "fnTakeAllOne", vars := ["loop.example/treelocks/impl.together", "loop.example/treelocks/impl.joined"], fn := fun _ => fun
  | [d, g1, g2] => { results := [.lit (.bool true)], args := [d], vars := [g1, g2] }
  | _ => none }
def fnTakeAllOneRow : OpenClaim := { program := "ytkolhdlmpjehfaadoor", sum := "f0f97e332b055182fa26605e5fe73c23baddfe577b70b3c9bc7f814b70267e01", func := "loop.example/treelocks/laws.FnTakeAllOne", spec := "fnTakeAllOne", unfollowed := true, recurses := true, named := ["loop.example/treelocks/impl.together", "loop.example/treelocks/impl.joined"], apart := false, laid := [("loop.example/treelocks/impl.together", laid_loop_example_treelocks_impl_together), ("loop.example/treelocks/impl.joined", laid_loop_example_treelocks_impl_joined)] }
def FnTakeAllOneSaid : Prop := fnTakeAllOneRow.holds Tryd.pinned (OpenSpec.ofChange fnTakeAllOneSpec)

/-- ITS FALSE NEIGHBOUR: 'it returns false'. Refute it at one input. -/
def fnTakeAllOneWrong : ChangeSpec := { name := "fnTakeAllOne", vars := ["loop.example/treelocks/impl.together", "loop.example/treelocks/impl.joined"], fn := fun _ => fun
  | [d, g1, g2] => { results := [.lit (.bool false)], args := [d], vars := [g1, g2] }
  | _ => none }
def FnTakeAllOneWrongFalsely : Prop := fnTakeAllOneRow.holds Tryd.pinned (OpenSpec.ofChange fnTakeAllOneWrong)

/-- 'laws.FnTakeAllTwice': WHATEVER THE INPUT: true; the input reads as it did. -/
def fnTakeAllTwiceSpec : ChangeSpec := { name := "fnTakeAllTwice", vars := ["loop.example/treelocks/impl.together", "loop.example/treelocks/impl.joined"], fn := fun _ => fun
  | [d, g1, g2] => { results := [.lit (.bool true)], args := [d], vars := [g1, g2] }
  | _ => none }
def fnTakeAllTwiceRow : OpenClaim := { program := "ytkolhdlmpjehfaadoor", sum := "f0f97e332b055182fa26605e5fe73c23baddfe577b70b3c9bc7f814b70267e01", func := "loop.example/treelocks/laws.FnTakeAllTwice", spec := "fnTakeAllTwice", unfollowed := true, recurses := true, named := ["loop.example/treelocks/impl.together", "loop.example/treelocks/impl.joined"], apart := false, laid := [("loop.example/treelocks/impl.together", laid_loop_example_treelocks_impl_together), ("loop.example/treelocks/impl.joined", laid_loop_example_treelocks_impl_joined)] }
def FnTakeAllTwiceSaid : Prop := fnTakeAllTwiceRow.holds Tryd.pinned (OpenSpec.ofChange fnTakeAllTwiceSpec)

/-- ITS FALSE NEIGHBOUR: 'it returns false'. Refute it at one input. -/
def fnTakeAllTwiceWrong : ChangeSpec := { name := "fnTakeAllTwice", vars := ["loop.example/treelocks/impl.together", "loop.example/treelocks/impl.joined"], fn := fun _ => fun
  | [d, g1, g2] => { results := [.lit (.bool false)], args := [d], vars := [g1, g2] }
  | _ => none }
def FnTakeAllTwiceWrongFalsely : Prop := fnTakeAllTwiceRow.holds Tryd.pinned (OpenSpec.ofChange fnTakeAllTwiceWrong)

/-- 'laws.FnTakeAll': WHATEVER THE INPUT: true; the input reads as it did. -/
def fnTakeAllSpec : ChangeSpec := { name := "fnTakeAll", vars := ["loop.example/treelocks/impl.together", "loop.example/treelocks/impl.joined"], fn := fun _ => fun
  | [d, g1, g2] => { results := [.lit (.bool true)], args := [d], vars := [g1, g2] }
  | _ => none }
def fnTakeAllRow : OpenClaim := { program := "ytkolhdlmpjehfaadoor", sum := "f0f97e332b055182fa26605e5fe73c23baddfe577b70b3c9bc7f814b70267e01", func := "loop.example/treelocks/laws.FnTakeAll", spec := "fnTakeAll", unfollowed := true, recurses := true, named := ["loop.example/treelocks/impl.together", "loop.example/treelocks/impl.joined"], apart := false, laid := [("loop.example/treelocks/impl.together", laid_loop_example_treelocks_impl_together), ("loop.example/treelocks/impl.joined", laid_loop_example_treelocks_impl_joined)] }
def FnTakeAllSaid : Prop := fnTakeAllRow.holds Tryd.pinned (OpenSpec.ofChange fnTakeAllSpec)

/-- ITS FALSE NEIGHBOUR: 'it returns false'. Refute it at one input. -/
def fnTakeAllWrong : ChangeSpec := { name := "fnTakeAll", vars := ["loop.example/treelocks/impl.together", "loop.example/treelocks/impl.joined"], fn := fun _ => fun
  | [d, g1, g2] => { results := [.lit (.bool false)], args := [d], vars := [g1, g2] }
  | _ => none }
def FnTakeAllWrongFalsely : Prop := fnTakeAllRow.holds Tryd.pinned (OpenSpec.ofChange fnTakeAllWrong)

/-- 'laws.FnLocksForTake': WHATEVER THE INPUT: true; the input reads as it did. -/
def fnLocksForTakeSpec : ChangeSpec := { name := "fnLocksForTake", vars := ["loop.example/treelocks/impl.together", "loop.example/treelocks/impl.joined"], fn := fun _ => fun
  | [d, g1, g2] => { results := [.lit (.bool true)], args := [d], vars := [g1, g2] }
  | _ => none }
def fnLocksForTakeRow : OpenClaim := { program := "ytkolhdlmpjehfaadoor", sum := "f0f97e332b055182fa26605e5fe73c23baddfe577b70b3c9bc7f814b70267e01", func := "loop.example/treelocks/laws.FnLocksForTake", spec := "fnLocksForTake", unfollowed := true, recurses := true, named := ["loop.example/treelocks/impl.together", "loop.example/treelocks/impl.joined"], apart := false, laid := [("loop.example/treelocks/impl.together", laid_loop_example_treelocks_impl_together), ("loop.example/treelocks/impl.joined", laid_loop_example_treelocks_impl_joined)] }
def FnLocksForTakeSaid : Prop := fnLocksForTakeRow.holds Tryd.pinned (OpenSpec.ofChange fnLocksForTakeSpec)

/-- ITS FALSE NEIGHBOUR: 'it returns false'. Refute it at one input. -/
def fnLocksForTakeWrong : ChangeSpec := { name := "fnLocksForTake", vars := ["loop.example/treelocks/impl.together", "loop.example/treelocks/impl.joined"], fn := fun _ => fun
  | [d, g1, g2] => { results := [.lit (.bool false)], args := [d], vars := [g1, g2] }
  | _ => none }
def FnLocksForTakeWrongFalsely : Prop := fnLocksForTakeRow.holds Tryd.pinned (OpenSpec.ofChange fnLocksForTakeWrong)

/-- 'laws.FnGrainFaultOne': WHATEVER THE INPUT: true; the input reads as it did. -/
def fnGrainFaultOneSpec : ChangeSpec := { name := "fnGrainFaultOne", vars := ["loop.example/treelocks/impl.together", "loop.example/treelocks/impl.joined"], fn := fun _ => fun
  | [d, g1, g2] => { results := [.lit (.bool true)], args := [d], vars := [g1, g2] }
  | _ => none }
def fnGrainFaultOneRow : OpenClaim := { program := "ytkolhdlmpjehfaadoor", sum := "f0f97e332b055182fa26605e5fe73c23baddfe577b70b3c9bc7f814b70267e01", func := "loop.example/treelocks/laws.FnGrainFaultOne", spec := "fnGrainFaultOne", unfollowed := true, recurses := true, named := ["loop.example/treelocks/impl.together", "loop.example/treelocks/impl.joined"], apart := false, laid := [("loop.example/treelocks/impl.together", laid_loop_example_treelocks_impl_together), ("loop.example/treelocks/impl.joined", laid_loop_example_treelocks_impl_joined)] }
def FnGrainFaultOneSaid : Prop := fnGrainFaultOneRow.holds Tryd.pinned (OpenSpec.ofChange fnGrainFaultOneSpec)

/-- ITS FALSE NEIGHBOUR: 'it returns false'. Refute it at one input. -/
def fnGrainFaultOneWrong : ChangeSpec := { name := "fnGrainFaultOne", vars := ["loop.example/treelocks/impl.together", "loop.example/treelocks/impl.joined"], fn := fun _ => fun
  | [d, g1, g2] => { results := [.lit (.bool false)], args := [d], vars := [g1, g2] }
  | _ => none }
def FnGrainFaultOneWrongFalsely : Prop := fnGrainFaultOneRow.holds Tryd.pinned (OpenSpec.ofChange fnGrainFaultOneWrong)

/-- 'laws.FnGrainFault': WHATEVER THE INPUT: true; the input reads as it did. -/
def fnGrainFaultSpec : ChangeSpec := { name := "fnGrainFault", vars := ["loop.example/treelocks/impl.together", "loop.example/treelocks/impl.joined"], fn := fun _ => fun
  | [d, g1, g2] => { results := [.lit (.bool true)], args := [d], vars := [g1, g2] }
  | _ => none }
def fnGrainFaultRow : OpenClaim := { program := "ytkolhdlmpjehfaadoor", sum := "f0f97e332b055182fa26605e5fe73c23baddfe577b70b3c9bc7f814b70267e01", func := "loop.example/treelocks/laws.FnGrainFault", spec := "fnGrainFault", unfollowed := true, recurses := true, named := ["loop.example/treelocks/impl.together", "loop.example/treelocks/impl.joined"], apart := false, laid := [("loop.example/treelocks/impl.together", laid_loop_example_treelocks_impl_together), ("loop.example/treelocks/impl.joined", laid_loop_example_treelocks_impl_joined)] }
def FnGrainFaultSaid : Prop := fnGrainFaultRow.holds Tryd.pinned (OpenSpec.ofChange fnGrainFaultSpec)

/-- ITS FALSE NEIGHBOUR: 'it returns false'. Refute it at one input. -/
def fnGrainFaultWrong : ChangeSpec := { name := "fnGrainFault", vars := ["loop.example/treelocks/impl.together", "loop.example/treelocks/impl.joined"], fn := fun _ => fun
  | [d, g1, g2] => { results := [.lit (.bool false)], args := [d], vars := [g1, g2] }
  | _ => none }
def FnGrainFaultWrongFalsely : Prop := fnGrainFaultRow.holds Tryd.pinned (OpenSpec.ofChange fnGrainFaultWrong)

/-- 'laws.FnMayReadFree': WHATEVER THE INPUT: true; the input reads as it did. -/
def fnMayReadFreeSpec : ChangeSpec := { name := "fnMayReadFree", vars := ["loop.example/treelocks/impl.together", "loop.example/treelocks/impl.joined"], fn := fun _ => fun
  | [d, g1, g2] => { results := [.lit (.bool true)], args := [d], vars := [g1, g2] }
  | _ => none }
def fnMayReadFreeRow : OpenClaim := { program := "ytkolhdlmpjehfaadoor", sum := "f0f97e332b055182fa26605e5fe73c23baddfe577b70b3c9bc7f814b70267e01", func := "loop.example/treelocks/laws.FnMayReadFree", spec := "fnMayReadFree", unfollowed := true, recurses := true, named := ["loop.example/treelocks/impl.together", "loop.example/treelocks/impl.joined"], apart := false, laid := [("loop.example/treelocks/impl.together", laid_loop_example_treelocks_impl_together), ("loop.example/treelocks/impl.joined", laid_loop_example_treelocks_impl_joined)] }
def FnMayReadFreeSaid : Prop := fnMayReadFreeRow.holds Tryd.pinned (OpenSpec.ofChange fnMayReadFreeSpec)

/-- ITS FALSE NEIGHBOUR: 'it returns false'. Refute it at one input. -/
def fnMayReadFreeWrong : ChangeSpec := { name := "fnMayReadFree", vars := ["loop.example/treelocks/impl.together", "loop.example/treelocks/impl.joined"], fn := fun _ => fun
  | [d, g1, g2] => { results := [.lit (.bool false)], args := [d], vars := [g1, g2] }
  | _ => none }
def FnMayReadFreeWrongFalsely : Prop := fnMayReadFreeRow.holds Tryd.pinned (OpenSpec.ofChange fnMayReadFreeWrong)

/-- 'laws.FnMayRead': WHATEVER THE INPUT: true; the input reads as it did. -/
def fnMayReadSpec : ChangeSpec := { name := "fnMayRead", vars := ["loop.example/treelocks/impl.together", "loop.example/treelocks/impl.joined"], fn := fun _ => fun
  | [d, g1, g2] => { results := [.lit (.bool true)], args := [d], vars := [g1, g2] }
  | _ => none }
def fnMayReadRow : OpenClaim := { program := "ytkolhdlmpjehfaadoor", sum := "f0f97e332b055182fa26605e5fe73c23baddfe577b70b3c9bc7f814b70267e01", func := "loop.example/treelocks/laws.FnMayRead", spec := "fnMayRead", unfollowed := true, recurses := true, named := ["loop.example/treelocks/impl.together", "loop.example/treelocks/impl.joined"], apart := false, laid := [("loop.example/treelocks/impl.together", laid_loop_example_treelocks_impl_together), ("loop.example/treelocks/impl.joined", laid_loop_example_treelocks_impl_joined)] }
def FnMayReadSaid : Prop := fnMayReadRow.holds Tryd.pinned (OpenSpec.ofChange fnMayReadSpec)

/-- ITS FALSE NEIGHBOUR: 'it returns false'. Refute it at one input. -/
def fnMayReadWrong : ChangeSpec := { name := "fnMayRead", vars := ["loop.example/treelocks/impl.together", "loop.example/treelocks/impl.joined"], fn := fun _ => fun
  | [d, g1, g2] => { results := [.lit (.bool false)], args := [d], vars := [g1, g2] }
  | _ => none }
def FnMayReadWrongFalsely : Prop := fnMayReadRow.holds Tryd.pinned (OpenSpec.ofChange fnMayReadWrong)

/-- 'laws.FnMayReadApart': WHATEVER THE INPUT: true; the input reads as it did. -/
def fnMayReadApartSpec : ChangeSpec := { name := "fnMayReadApart", vars := ["loop.example/treelocks/impl.together", "loop.example/treelocks/impl.joined"], fn := fun _ => fun
  | [d, g1, g2] => { results := [.lit (.bool true)], args := [d], vars := [g1, g2] }
  | _ => none }
def fnMayReadApartRow : OpenClaim := { program := "ytkolhdlmpjehfaadoor", sum := "f0f97e332b055182fa26605e5fe73c23baddfe577b70b3c9bc7f814b70267e01", func := "loop.example/treelocks/laws.FnMayReadApart", spec := "fnMayReadApart", unfollowed := true, recurses := true, named := ["loop.example/treelocks/impl.together", "loop.example/treelocks/impl.joined"], apart := false, laid := [("loop.example/treelocks/impl.together", laid_loop_example_treelocks_impl_together), ("loop.example/treelocks/impl.joined", laid_loop_example_treelocks_impl_joined)] }
def FnMayReadApartSaid : Prop := fnMayReadApartRow.holds Tryd.pinned (OpenSpec.ofChange fnMayReadApartSpec)

/-- ITS FALSE NEIGHBOUR: 'it returns false'. Refute it at one input. -/
def fnMayReadApartWrong : ChangeSpec := { name := "fnMayReadApart", vars := ["loop.example/treelocks/impl.together", "loop.example/treelocks/impl.joined"], fn := fun _ => fun
  | [d, g1, g2] => { results := [.lit (.bool false)], args := [d], vars := [g1, g2] }
  | _ => none }
def FnMayReadApartWrongFalsely : Prop := fnMayReadApartRow.holds Tryd.pinned (OpenSpec.ofChange fnMayReadApartWrong)

/-- 'laws.FnMayWriteApart': WHATEVER THE INPUT: true; the input reads as it did. -/
def fnMayWriteApartSpec : ChangeSpec := { name := "fnMayWriteApart", vars := ["loop.example/treelocks/impl.together", "loop.example/treelocks/impl.joined"], fn := fun _ => fun
  | [d, g1, g2] => { results := [.lit (.bool true)], args := [d], vars := [g1, g2] }
  | _ => none }
def fnMayWriteApartRow : OpenClaim := { program := "ytkolhdlmpjehfaadoor", sum := "f0f97e332b055182fa26605e5fe73c23baddfe577b70b3c9bc7f814b70267e01", func := "loop.example/treelocks/laws.FnMayWriteApart", spec := "fnMayWriteApart", unfollowed := true, recurses := true, named := ["loop.example/treelocks/impl.together", "loop.example/treelocks/impl.joined"], apart := false, laid := [("loop.example/treelocks/impl.together", laid_loop_example_treelocks_impl_together), ("loop.example/treelocks/impl.joined", laid_loop_example_treelocks_impl_joined)] }
def FnMayWriteApartSaid : Prop := fnMayWriteApartRow.holds Tryd.pinned (OpenSpec.ofChange fnMayWriteApartSpec)

/-- ITS FALSE NEIGHBOUR: 'it returns false'. Refute it at one input. -/
def fnMayWriteApartWrong : ChangeSpec := { name := "fnMayWriteApart", vars := ["loop.example/treelocks/impl.together", "loop.example/treelocks/impl.joined"], fn := fun _ => fun
  | [d, g1, g2] => { results := [.lit (.bool false)], args := [d], vars := [g1, g2] }
  | _ => none }
def FnMayWriteApartWrongFalsely : Prop := fnMayWriteApartRow.holds Tryd.pinned (OpenSpec.ofChange fnMayWriteApartWrong)

/-- 'laws.FnMayReadLock': WHATEVER THE INPUT: true; the input reads as it did. -/
def fnMayReadLockSpec : ChangeSpec := { name := "fnMayReadLock", vars := ["loop.example/treelocks/impl.together", "loop.example/treelocks/impl.joined"], fn := fun _ => fun
  | [d, g1, g2] => { results := [.lit (.bool true)], args := [d], vars := [g1, g2] }
  | _ => none }
def fnMayReadLockRow : OpenClaim := { program := "ytkolhdlmpjehfaadoor", sum := "f0f97e332b055182fa26605e5fe73c23baddfe577b70b3c9bc7f814b70267e01", func := "loop.example/treelocks/laws.FnMayReadLock", spec := "fnMayReadLock", unfollowed := true, recurses := true, named := ["loop.example/treelocks/impl.together", "loop.example/treelocks/impl.joined"], apart := false, laid := [("loop.example/treelocks/impl.together", laid_loop_example_treelocks_impl_together), ("loop.example/treelocks/impl.joined", laid_loop_example_treelocks_impl_joined)] }
def FnMayReadLockSaid : Prop := fnMayReadLockRow.holds Tryd.pinned (OpenSpec.ofChange fnMayReadLockSpec)

/-- ITS FALSE NEIGHBOUR: 'it returns false'. Refute it at one input. -/
def fnMayReadLockWrong : ChangeSpec := { name := "fnMayReadLock", vars := ["loop.example/treelocks/impl.together", "loop.example/treelocks/impl.joined"], fn := fun _ => fun
  | [d, g1, g2] => { results := [.lit (.bool false)], args := [d], vars := [g1, g2] }
  | _ => none }
def FnMayReadLockWrongFalsely : Prop := fnMayReadLockRow.holds Tryd.pinned (OpenSpec.ofChange fnMayReadLockWrong)

/-- 'laws.FnGrainFaultFree': WHATEVER THE INPUT: true; the input reads as it did. -/
def fnGrainFaultFreeSpec : ChangeSpec := { name := "fnGrainFaultFree", vars := ["loop.example/treelocks/impl.together", "loop.example/treelocks/impl.joined"], fn := fun _ => fun
  | [d, g1, g2] => { results := [.lit (.bool true)], args := [d], vars := [g1, g2] }
  | _ => none }
def fnGrainFaultFreeRow : OpenClaim := { program := "ytkolhdlmpjehfaadoor", sum := "f0f97e332b055182fa26605e5fe73c23baddfe577b70b3c9bc7f814b70267e01", func := "loop.example/treelocks/laws.FnGrainFaultFree", spec := "fnGrainFaultFree", unfollowed := true, recurses := true, named := ["loop.example/treelocks/impl.together", "loop.example/treelocks/impl.joined"], apart := false, laid := [("loop.example/treelocks/impl.together", laid_loop_example_treelocks_impl_together), ("loop.example/treelocks/impl.joined", laid_loop_example_treelocks_impl_joined)] }
def FnGrainFaultFreeSaid : Prop := fnGrainFaultFreeRow.holds Tryd.pinned (OpenSpec.ofChange fnGrainFaultFreeSpec)

/-- ITS FALSE NEIGHBOUR: 'it returns false'. Refute it at one input. -/
def fnGrainFaultFreeWrong : ChangeSpec := { name := "fnGrainFaultFree", vars := ["loop.example/treelocks/impl.together", "loop.example/treelocks/impl.joined"], fn := fun _ => fun
  | [d, g1, g2] => { results := [.lit (.bool false)], args := [d], vars := [g1, g2] }
  | _ => none }
def FnGrainFaultFreeWrongFalsely : Prop := fnGrainFaultFreeRow.holds Tryd.pinned (OpenSpec.ofChange fnGrainFaultFreeWrong)

/-- 'laws.FnMayWrite': WHATEVER THE INPUT: true; the input reads as it did. -/
def fnMayWriteSpec : ChangeSpec := { name := "fnMayWrite", vars := ["loop.example/treelocks/impl.together", "loop.example/treelocks/impl.joined"], fn := fun _ => fun
  | [d, g1, g2] => { results := [.lit (.bool true)], args := [d], vars := [g1, g2] }
  | _ => none }
def fnMayWriteRow : OpenClaim := { program := "ytkolhdlmpjehfaadoor", sum := "f0f97e332b055182fa26605e5fe73c23baddfe577b70b3c9bc7f814b70267e01", func := "loop.example/treelocks/laws.FnMayWrite", spec := "fnMayWrite", unfollowed := true, recurses := true, named := ["loop.example/treelocks/impl.together", "loop.example/treelocks/impl.joined"], apart := false, laid := [("loop.example/treelocks/impl.together", laid_loop_example_treelocks_impl_together), ("loop.example/treelocks/impl.joined", laid_loop_example_treelocks_impl_joined)] }
def FnMayWriteSaid : Prop := fnMayWriteRow.holds Tryd.pinned (OpenSpec.ofChange fnMayWriteSpec)

/-- ITS FALSE NEIGHBOUR: 'it returns false'. Refute it at one input. -/
def fnMayWriteWrong : ChangeSpec := { name := "fnMayWrite", vars := ["loop.example/treelocks/impl.together", "loop.example/treelocks/impl.joined"], fn := fun _ => fun
  | [d, g1, g2] => { results := [.lit (.bool false)], args := [d], vars := [g1, g2] }
  | _ => none }
def FnMayWriteWrongFalsely : Prop := fnMayWriteRow.holds Tryd.pinned (OpenSpec.ofChange fnMayWriteWrong)

/- THE SECOND FORM. 'bulk': how many values and letters a reading holds, each counted each time it is reached (what is shared counts as often as it is met; a slice's spare places count too). A statement '..UptoSaid' is the law's where the arguments, and the package variables that the reading takes, are together of bulk at most 1048576: NARROWER than '..Said'. Prove '..Said' where nothing that the law and all that it calls make is longer than what came in: it says more and counts as full. Else prove '..UptoSaid'. A law counts once. -/
mutual
def uptoBulk {H : Type} : DataW H → Nat
  | .lit (.string bytes) => bytes.length + 1
  | .lit _ => 1
  | .nil => 1
  | .ptr d => uptoBulk d + 1
  | .slice elems spare => uptoBulkAll elems + uptoBulkAll spare + 1
  | .agg parts => uptoBulkAll parts + 1
  | .iface _ d => uptoBulk d + 1
  | .map entries => uptoBulkEntries entries + 1
  | .held _ => 1
def uptoBulkAll {H : Type} : List (DataW H) → Nat
  | [] => 0
  | d :: r => uptoBulk d + uptoBulkAll r
def uptoBulkEntries {H : Type} : List (Lit × DataW H) → Nat
  | [] => 0
  | x :: r => uptoBulkEntry x + uptoBulkEntries r
def uptoBulkEntry {H : Type} : Lit × DataW H → Nat
  | (.string bytes, d) => bytes.length + uptoBulk d + 1
  | (_, d) => uptoBulk d + 1
 end
def uptoSmall : (H : Type) → List (DataW H) → Bool := fun _ ds => decide (uptoBulkAll ds ≤ 1048576)
def OpenSpec.upto (s : _root_.Go.ChangeSpec) : _root_.Go.OpenSpec := { _root_.Go.OpenSpec.ofChange s with cond := some uptoSmall }

/-- 'laws.FnTakeAllOne', WHERE WHAT IT READS IS OF BULK AT MOST 1048576: true; the input reads as it did. -/
def fnTakeAllOneUptoRow : OpenClaim := { program := "ytkolhdlmpjehfaadoor", sum := "f0f97e332b055182fa26605e5fe73c23baddfe577b70b3c9bc7f814b70267e01", func := "loop.example/treelocks/laws.FnTakeAllOne", spec := "fnTakeAllOne", unfollowed := true, recurses := true, named := ["loop.example/treelocks/impl.together", "loop.example/treelocks/impl.joined"], apart := false, laid := [("loop.example/treelocks/impl.together", laid_loop_example_treelocks_impl_together), ("loop.example/treelocks/impl.joined", laid_loop_example_treelocks_impl_joined)], narrowed := true }
def FnTakeAllOneUptoSaid : Prop := fnTakeAllOneUptoRow.holds Tryd.pinned (OpenSpec.upto fnTakeAllOneSpec)

/-- 'laws.FnTakeAllTwice', WHERE WHAT IT READS IS OF BULK AT MOST 1048576: true; the input reads as it did. -/
def fnTakeAllTwiceUptoRow : OpenClaim := { program := "ytkolhdlmpjehfaadoor", sum := "f0f97e332b055182fa26605e5fe73c23baddfe577b70b3c9bc7f814b70267e01", func := "loop.example/treelocks/laws.FnTakeAllTwice", spec := "fnTakeAllTwice", unfollowed := true, recurses := true, named := ["loop.example/treelocks/impl.together", "loop.example/treelocks/impl.joined"], apart := false, laid := [("loop.example/treelocks/impl.together", laid_loop_example_treelocks_impl_together), ("loop.example/treelocks/impl.joined", laid_loop_example_treelocks_impl_joined)], narrowed := true }
def FnTakeAllTwiceUptoSaid : Prop := fnTakeAllTwiceUptoRow.holds Tryd.pinned (OpenSpec.upto fnTakeAllTwiceSpec)

/-- 'laws.FnTakeAll', WHERE WHAT IT READS IS OF BULK AT MOST 1048576: true; the input reads as it did. -/
def fnTakeAllUptoRow : OpenClaim := { program := "ytkolhdlmpjehfaadoor", sum := "f0f97e332b055182fa26605e5fe73c23baddfe577b70b3c9bc7f814b70267e01", func := "loop.example/treelocks/laws.FnTakeAll", spec := "fnTakeAll", unfollowed := true, recurses := true, named := ["loop.example/treelocks/impl.together", "loop.example/treelocks/impl.joined"], apart := false, laid := [("loop.example/treelocks/impl.together", laid_loop_example_treelocks_impl_together), ("loop.example/treelocks/impl.joined", laid_loop_example_treelocks_impl_joined)], narrowed := true }
def FnTakeAllUptoSaid : Prop := fnTakeAllUptoRow.holds Tryd.pinned (OpenSpec.upto fnTakeAllSpec)

/-- 'laws.FnLocksForTake', WHERE WHAT IT READS IS OF BULK AT MOST 1048576: true; the input reads as it did. -/
def fnLocksForTakeUptoRow : OpenClaim := { program := "ytkolhdlmpjehfaadoor", sum := "f0f97e332b055182fa26605e5fe73c23baddfe577b70b3c9bc7f814b70267e01", func := "loop.example/treelocks/laws.FnLocksForTake", spec := "fnLocksForTake", unfollowed := true, recurses := true, named := ["loop.example/treelocks/impl.together", "loop.example/treelocks/impl.joined"], apart := false, laid := [("loop.example/treelocks/impl.together", laid_loop_example_treelocks_impl_together), ("loop.example/treelocks/impl.joined", laid_loop_example_treelocks_impl_joined)], narrowed := true }
def FnLocksForTakeUptoSaid : Prop := fnLocksForTakeUptoRow.holds Tryd.pinned (OpenSpec.upto fnLocksForTakeSpec)

/-- 'laws.FnGrainFaultOne', WHERE WHAT IT READS IS OF BULK AT MOST 1048576: true; the input reads as it did. -/
def fnGrainFaultOneUptoRow : OpenClaim := { program := "ytkolhdlmpjehfaadoor", sum := "f0f97e332b055182fa26605e5fe73c23baddfe577b70b3c9bc7f814b70267e01", func := "loop.example/treelocks/laws.FnGrainFaultOne", spec := "fnGrainFaultOne", unfollowed := true, recurses := true, named := ["loop.example/treelocks/impl.together", "loop.example/treelocks/impl.joined"], apart := false, laid := [("loop.example/treelocks/impl.together", laid_loop_example_treelocks_impl_together), ("loop.example/treelocks/impl.joined", laid_loop_example_treelocks_impl_joined)], narrowed := true }
def FnGrainFaultOneUptoSaid : Prop := fnGrainFaultOneUptoRow.holds Tryd.pinned (OpenSpec.upto fnGrainFaultOneSpec)

/-- 'laws.FnGrainFault', WHERE WHAT IT READS IS OF BULK AT MOST 1048576: true; the input reads as it did. -/
def fnGrainFaultUptoRow : OpenClaim := { program := "ytkolhdlmpjehfaadoor", sum := "f0f97e332b055182fa26605e5fe73c23baddfe577b70b3c9bc7f814b70267e01", func := "loop.example/treelocks/laws.FnGrainFault", spec := "fnGrainFault", unfollowed := true, recurses := true, named := ["loop.example/treelocks/impl.together", "loop.example/treelocks/impl.joined"], apart := false, laid := [("loop.example/treelocks/impl.together", laid_loop_example_treelocks_impl_together), ("loop.example/treelocks/impl.joined", laid_loop_example_treelocks_impl_joined)], narrowed := true }
def FnGrainFaultUptoSaid : Prop := fnGrainFaultUptoRow.holds Tryd.pinned (OpenSpec.upto fnGrainFaultSpec)

/-- 'laws.FnMayReadFree', WHERE WHAT IT READS IS OF BULK AT MOST 1048576: true; the input reads as it did. -/
def fnMayReadFreeUptoRow : OpenClaim := { program := "ytkolhdlmpjehfaadoor", sum := "f0f97e332b055182fa26605e5fe73c23baddfe577b70b3c9bc7f814b70267e01", func := "loop.example/treelocks/laws.FnMayReadFree", spec := "fnMayReadFree", unfollowed := true, recurses := true, named := ["loop.example/treelocks/impl.together", "loop.example/treelocks/impl.joined"], apart := false, laid := [("loop.example/treelocks/impl.together", laid_loop_example_treelocks_impl_together), ("loop.example/treelocks/impl.joined", laid_loop_example_treelocks_impl_joined)], narrowed := true }
def FnMayReadFreeUptoSaid : Prop := fnMayReadFreeUptoRow.holds Tryd.pinned (OpenSpec.upto fnMayReadFreeSpec)

/-- 'laws.FnMayRead', WHERE WHAT IT READS IS OF BULK AT MOST 1048576: true; the input reads as it did. -/
def fnMayReadUptoRow : OpenClaim := { program := "ytkolhdlmpjehfaadoor", sum := "f0f97e332b055182fa26605e5fe73c23baddfe577b70b3c9bc7f814b70267e01", func := "loop.example/treelocks/laws.FnMayRead", spec := "fnMayRead", unfollowed := true, recurses := true, named := ["loop.example/treelocks/impl.together", "loop.example/treelocks/impl.joined"], apart := false, laid := [("loop.example/treelocks/impl.together", laid_loop_example_treelocks_impl_together), ("loop.example/treelocks/impl.joined", laid_loop_example_treelocks_impl_joined)], narrowed := true }
def FnMayReadUptoSaid : Prop := fnMayReadUptoRow.holds Tryd.pinned (OpenSpec.upto fnMayReadSpec)

/-- 'laws.FnMayReadApart', WHERE WHAT IT READS IS OF BULK AT MOST 1048576: true; the input reads as it did. -/
def fnMayReadApartUptoRow : OpenClaim := { program := "ytkolhdlmpjehfaadoor", sum := "f0f97e332b055182fa26605e5fe73c23baddfe577b70b3c9bc7f814b70267e01", func := "loop.example/treelocks/laws.FnMayReadApart", spec := "fnMayReadApart", unfollowed := true, recurses := true, named := ["loop.example/treelocks/impl.together", "loop.example/treelocks/impl.joined"], apart := false, laid := [("loop.example/treelocks/impl.together", laid_loop_example_treelocks_impl_together), ("loop.example/treelocks/impl.joined", laid_loop_example_treelocks_impl_joined)], narrowed := true }
def FnMayReadApartUptoSaid : Prop := fnMayReadApartUptoRow.holds Tryd.pinned (OpenSpec.upto fnMayReadApartSpec)

/-- 'laws.FnMayWriteApart', WHERE WHAT IT READS IS OF BULK AT MOST 1048576: true; the input reads as it did. -/
def fnMayWriteApartUptoRow : OpenClaim := { program := "ytkolhdlmpjehfaadoor", sum := "f0f97e332b055182fa26605e5fe73c23baddfe577b70b3c9bc7f814b70267e01", func := "loop.example/treelocks/laws.FnMayWriteApart", spec := "fnMayWriteApart", unfollowed := true, recurses := true, named := ["loop.example/treelocks/impl.together", "loop.example/treelocks/impl.joined"], apart := false, laid := [("loop.example/treelocks/impl.together", laid_loop_example_treelocks_impl_together), ("loop.example/treelocks/impl.joined", laid_loop_example_treelocks_impl_joined)], narrowed := true }
def FnMayWriteApartUptoSaid : Prop := fnMayWriteApartUptoRow.holds Tryd.pinned (OpenSpec.upto fnMayWriteApartSpec)

/-- 'laws.FnMayReadLock', WHERE WHAT IT READS IS OF BULK AT MOST 1048576: true; the input reads as it did. -/
def fnMayReadLockUptoRow : OpenClaim := { program := "ytkolhdlmpjehfaadoor", sum := "f0f97e332b055182fa26605e5fe73c23baddfe577b70b3c9bc7f814b70267e01", func := "loop.example/treelocks/laws.FnMayReadLock", spec := "fnMayReadLock", unfollowed := true, recurses := true, named := ["loop.example/treelocks/impl.together", "loop.example/treelocks/impl.joined"], apart := false, laid := [("loop.example/treelocks/impl.together", laid_loop_example_treelocks_impl_together), ("loop.example/treelocks/impl.joined", laid_loop_example_treelocks_impl_joined)], narrowed := true }
def FnMayReadLockUptoSaid : Prop := fnMayReadLockUptoRow.holds Tryd.pinned (OpenSpec.upto fnMayReadLockSpec)

/-- 'laws.FnGrainFaultFree', WHERE WHAT IT READS IS OF BULK AT MOST 1048576: true; the input reads as it did. -/
def fnGrainFaultFreeUptoRow : OpenClaim := { program := "ytkolhdlmpjehfaadoor", sum := "f0f97e332b055182fa26605e5fe73c23baddfe577b70b3c9bc7f814b70267e01", func := "loop.example/treelocks/laws.FnGrainFaultFree", spec := "fnGrainFaultFree", unfollowed := true, recurses := true, named := ["loop.example/treelocks/impl.together", "loop.example/treelocks/impl.joined"], apart := false, laid := [("loop.example/treelocks/impl.together", laid_loop_example_treelocks_impl_together), ("loop.example/treelocks/impl.joined", laid_loop_example_treelocks_impl_joined)], narrowed := true }
def FnGrainFaultFreeUptoSaid : Prop := fnGrainFaultFreeUptoRow.holds Tryd.pinned (OpenSpec.upto fnGrainFaultFreeSpec)

/-- 'laws.FnMayWrite', WHERE WHAT IT READS IS OF BULK AT MOST 1048576: true; the input reads as it did. -/
def fnMayWriteUptoRow : OpenClaim := { program := "ytkolhdlmpjehfaadoor", sum := "f0f97e332b055182fa26605e5fe73c23baddfe577b70b3c9bc7f814b70267e01", func := "loop.example/treelocks/laws.FnMayWrite", spec := "fnMayWrite", unfollowed := true, recurses := true, named := ["loop.example/treelocks/impl.together", "loop.example/treelocks/impl.joined"], apart := false, laid := [("loop.example/treelocks/impl.together", laid_loop_example_treelocks_impl_together), ("loop.example/treelocks/impl.joined", laid_loop_example_treelocks_impl_joined)], narrowed := true }
def FnMayWriteUptoSaid : Prop := fnMayWriteUptoRow.holds Tryd.pinned (OpenSpec.upto fnMayWriteSpec)

end Rows
end Go.Proofs.YtkolhdlmpjehfaaDoor
