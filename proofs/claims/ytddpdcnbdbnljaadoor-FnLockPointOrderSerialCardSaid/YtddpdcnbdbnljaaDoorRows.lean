/-
  NARROWER THAN 'FOR EVERY INPUT', by the rows' own cells (each row's printed sentence says how): FnAccessesOf: laid · FnLockPointOrderShort: laid · FnLockPointOrder: laid · FnLockPointOrderSerial: laid · FnAlongFault: laid · FnAlongFaultFirst: laid · FnAlongFaultShort: laid · FnGoesAlong: laid · FnGoesAlongOnce: laid · FnGoesAlongShort: laid · FnNextAlong: laid · FnNextAlongFirst: laid · FnNextAlongBelow: laid · FnGoesAlongSerial: laid · FnGoesAlongDeadlock: laid.
  DERIVED. THE GIVEN ROWS OF THIS SEAT. 15 by the template 'for every input the law returns true; each argument reads behind the call as it read before'; 0 by the template 'total and deterministic' (their statements: YtddpdcnbdbnljaaDoorTotals.lean).
  GIVEN WITH THE SEED: the statements are not yours to turn. If you find one false, say at which input.
  Laid BY PROGRAM, IN A SANDBOX (cutbox-rows.mjs): the forced cells as the released guide's own fill.sh prints them over the translation e46469e49f9688b1… (all of the seat's roots in one cut). By AI agents, Wed Nov 11 2026. No macro, syntax, notation, axiom, sorry.
-/
import Derived.Test.YtddpdcnbdbnljaaDoorChecked
import GoSem.Claim
import GoSem.ClaimJoined
import GoSem.ClaimMapViews
import Derived.JoinedTies
import Derived.KernelRfl
namespace Go.Proofs.YtddpdcnbdbnljaaDoor
/- THE CELL 'sum', in the pinned program and in every row, IS THE sha256 OF THE DUMP (.gsa) THAT YtddpdcnbdbnljaaDoorProg.lean LOADS. Nothing in Lean hashes anything: it is a label: what it is worth is what the hold of that sum in a sandbox is worth. -/
noncomputable def Tryd.pinned : Pinned := { name := "ytddpdcnbdbnljaadoor", sum := "e46469e49f9688b10021623ceed98f10482e0be469bb37206a7469cf5397b7ce", checked := Tryd.checked }
namespace Rows
def none {H : Type} : Left H := { results := [], args := [] }

/- WHAT THE LISTED PACKAGE-LEVEL VARIABLES READ AS WHEN THE CALL BEGINS. Each datum BY PROGRAM (the guide's laid-datum.mjs) off the statement by which the dump's own 'gosem.cut.vars' lays the variable. In a bare row this is a premise. The card (YtddpdcnbdbnljaaDoorCards.lean) ties it to the program's text. -/
def laid_loop_example_treelocks_impl_together {H : Type} : DataW H := .agg [.agg [.lit (.bool true), .lit (.bool true), .lit (.bool true), .lit (.bool true), .lit (.bool true), .lit (.bool true)], .agg [.lit (.bool true), .lit (.bool true), .lit (.bool true), .lit (.bool true), .lit (.bool true), .lit (.bool false)], .agg [.lit (.bool true), .lit (.bool true), .lit (.bool true), .lit (.bool false), .lit (.bool false), .lit (.bool false)], .agg [.lit (.bool true), .lit (.bool true), .lit (.bool false), .lit (.bool true), .lit (.bool false), .lit (.bool false)], .agg [.lit (.bool true), .lit (.bool true), .lit (.bool false), .lit (.bool false), .lit (.bool false), .lit (.bool false)], .agg [.lit (.bool true), .lit (.bool false), .lit (.bool false), .lit (.bool false), .lit (.bool false), .lit (.bool false)]]
def laid_loop_example_treelocks_impl_joined {H : Type} : DataW H := .agg [.agg [.lit (.int .i64 0), .lit (.int .i64 1), .lit (.int .i64 2), .lit (.int .i64 3), .lit (.int .i64 4), .lit (.int .i64 5)], .agg [.lit (.int .i64 1), .lit (.int .i64 1), .lit (.int .i64 2), .lit (.int .i64 3), .lit (.int .i64 4), .lit (.int .i64 5)], .agg [.lit (.int .i64 2), .lit (.int .i64 2), .lit (.int .i64 2), .lit (.int .i64 4), .lit (.int .i64 4), .lit (.int .i64 5)], .agg [.lit (.int .i64 3), .lit (.int .i64 3), .lit (.int .i64 4), .lit (.int .i64 3), .lit (.int .i64 4), .lit (.int .i64 5)], .agg [.lit (.int .i64 4), .lit (.int .i64 4), .lit (.int .i64 4), .lit (.int .i64 4), .lit (.int .i64 4), .lit (.int .i64 5)], .agg [.lit (.int .i64 5), .lit (.int .i64 5), .lit (.int .i64 5), .lit (.int .i64 5), .lit (.int .i64 5), .lit (.int .i64 5)]]

/-- 'laws.FnAccessesOf': WHATEVER THE INPUT: true; the input reads as it did. -/
def fnAccessesOfSpec : ChangeSpec := { name := "fnAccessesOf", vars := ["loop.example/treelocks/impl.together", "loop.example/treelocks/impl.joined"], fn := fun _ => fun
  | [d, g1, g2] => { results := [.lit (.bool true)], args := [d], vars := [g1, g2] }
  | _ => none }
def fnAccessesOfRow : OpenClaim := { program := "ytddpdcnbdbnljaadoor", sum := "e46469e49f9688b10021623ceed98f10482e0be469bb37206a7469cf5397b7ce", func := "loop.example/treelocks/laws.FnAccessesOf", spec := "fnAccessesOf", unfollowed := true, recurses := true, named := ["loop.example/treelocks/impl.together", "loop.example/treelocks/impl.joined"], apart := false, laid := [("loop.example/treelocks/impl.together", laid_loop_example_treelocks_impl_together), ("loop.example/treelocks/impl.joined", laid_loop_example_treelocks_impl_joined)] }
def FnAccessesOfSaid : Prop := fnAccessesOfRow.holds Tryd.pinned (OpenSpec.ofChange fnAccessesOfSpec)

/-- ITS FALSE NEIGHBOUR: 'it returns false'. Refute it at one input. -/
def fnAccessesOfWrong : ChangeSpec := { name := "fnAccessesOf", vars := ["loop.example/treelocks/impl.together", "loop.example/treelocks/impl.joined"], fn := fun _ => fun
  | [d, g1, g2] => { results := [.lit (.bool false)], args := [d], vars := [g1, g2] }
  | _ => none }
def FnAccessesOfWrongFalsely : Prop := fnAccessesOfRow.holds Tryd.pinned (OpenSpec.ofChange fnAccessesOfWrong)

/-- 'laws.FnLockPointOrderShort': WHATEVER THE INPUT: true; the input reads as it did. -/
def fnLockPointOrderShortSpec : ChangeSpec := { name := "fnLockPointOrderShort", vars := ["loop.example/treelocks/impl.together", "loop.example/treelocks/impl.joined"], fn := fun _ => fun
  | [d, g1, g2] => { results := [.lit (.bool true)], args := [d], vars := [g1, g2] }
  | _ => none }
def fnLockPointOrderShortRow : OpenClaim := { program := "ytddpdcnbdbnljaadoor", sum := "e46469e49f9688b10021623ceed98f10482e0be469bb37206a7469cf5397b7ce", func := "loop.example/treelocks/laws.FnLockPointOrderShort", spec := "fnLockPointOrderShort", unfollowed := true, recurses := true, named := ["loop.example/treelocks/impl.together", "loop.example/treelocks/impl.joined"], apart := false, laid := [("loop.example/treelocks/impl.together", laid_loop_example_treelocks_impl_together), ("loop.example/treelocks/impl.joined", laid_loop_example_treelocks_impl_joined)] }
def FnLockPointOrderShortSaid : Prop := fnLockPointOrderShortRow.holds Tryd.pinned (OpenSpec.ofChange fnLockPointOrderShortSpec)

/-- ITS FALSE NEIGHBOUR: 'it returns false'. Refute it at one input. -/
def fnLockPointOrderShortWrong : ChangeSpec := { name := "fnLockPointOrderShort", vars := ["loop.example/treelocks/impl.together", "loop.example/treelocks/impl.joined"], fn := fun _ => fun
  | [d, g1, g2] => { results := [.lit (.bool false)], args := [d], vars := [g1, g2] }
  | _ => none }
def FnLockPointOrderShortWrongFalsely : Prop := fnLockPointOrderShortRow.holds Tryd.pinned (OpenSpec.ofChange fnLockPointOrderShortWrong)

/-- 'laws.FnLockPointOrder': WHATEVER THE INPUT: true; the input reads as it did. -/
def fnLockPointOrderSpec : ChangeSpec := { name := "fnLockPointOrder", vars := ["loop.example/treelocks/impl.together", "loop.example/treelocks/impl.joined"], fn := fun _ => fun
  | [d, g1, g2] => { results := [.lit (.bool true)], args := [d], vars := [g1, g2] }
  | _ => none }
def fnLockPointOrderRow : OpenClaim := { program := "ytddpdcnbdbnljaadoor", sum := "e46469e49f9688b10021623ceed98f10482e0be469bb37206a7469cf5397b7ce", func := "loop.example/treelocks/laws.FnLockPointOrder", spec := "fnLockPointOrder", unfollowed := true, recurses := true, named := ["loop.example/treelocks/impl.together", "loop.example/treelocks/impl.joined"], apart := false, laid := [("loop.example/treelocks/impl.together", laid_loop_example_treelocks_impl_together), ("loop.example/treelocks/impl.joined", laid_loop_example_treelocks_impl_joined)] }
def FnLockPointOrderSaid : Prop := fnLockPointOrderRow.holds Tryd.pinned (OpenSpec.ofChange fnLockPointOrderSpec)

/-- ITS FALSE NEIGHBOUR: 'it returns false'. Refute it at one input. -/
def fnLockPointOrderWrong : ChangeSpec := { name := "fnLockPointOrder", vars := ["loop.example/treelocks/impl.together", "loop.example/treelocks/impl.joined"], fn := fun _ => fun
  | [d, g1, g2] => { results := [.lit (.bool false)], args := [d], vars := [g1, g2] }
  | _ => none }
def FnLockPointOrderWrongFalsely : Prop := fnLockPointOrderRow.holds Tryd.pinned (OpenSpec.ofChange fnLockPointOrderWrong)

/-- 'laws.FnLockPointOrderSerial': WHATEVER THE INPUT: true; the input reads as it did. -/
def fnLockPointOrderSerialSpec : ChangeSpec := { name := "fnLockPointOrderSerial", vars := ["loop.example/treelocks/impl.together", "loop.example/treelocks/impl.joined"], fn := fun _ => fun
  | [d, g1, g2] => { results := [.lit (.bool true)], args := [d], vars := [g1, g2] }
  | _ => none }
def fnLockPointOrderSerialRow : OpenClaim := { program := "ytddpdcnbdbnljaadoor", sum := "e46469e49f9688b10021623ceed98f10482e0be469bb37206a7469cf5397b7ce", func := "loop.example/treelocks/laws.FnLockPointOrderSerial", spec := "fnLockPointOrderSerial", unfollowed := true, recurses := true, named := ["loop.example/treelocks/impl.together", "loop.example/treelocks/impl.joined"], apart := false, laid := [("loop.example/treelocks/impl.together", laid_loop_example_treelocks_impl_together), ("loop.example/treelocks/impl.joined", laid_loop_example_treelocks_impl_joined)] }
def FnLockPointOrderSerialSaid : Prop := fnLockPointOrderSerialRow.holds Tryd.pinned (OpenSpec.ofChange fnLockPointOrderSerialSpec)

/-- ITS FALSE NEIGHBOUR: 'it returns false'. Refute it at one input. -/
def fnLockPointOrderSerialWrong : ChangeSpec := { name := "fnLockPointOrderSerial", vars := ["loop.example/treelocks/impl.together", "loop.example/treelocks/impl.joined"], fn := fun _ => fun
  | [d, g1, g2] => { results := [.lit (.bool false)], args := [d], vars := [g1, g2] }
  | _ => none }
def FnLockPointOrderSerialWrongFalsely : Prop := fnLockPointOrderSerialRow.holds Tryd.pinned (OpenSpec.ofChange fnLockPointOrderSerialWrong)

/-- 'laws.FnAlongFault': WHATEVER THE INPUT: true; the input reads as it did. -/
def fnAlongFaultSpec : ChangeSpec := { name := "fnAlongFault", vars := ["loop.example/treelocks/impl.together", "loop.example/treelocks/impl.joined"], fn := fun _ => fun
  | [d, g1, g2] => { results := [.lit (.bool true)], args := [d], vars := [g1, g2] }
  | _ => none }
def fnAlongFaultRow : OpenClaim := { program := "ytddpdcnbdbnljaadoor", sum := "e46469e49f9688b10021623ceed98f10482e0be469bb37206a7469cf5397b7ce", func := "loop.example/treelocks/laws.FnAlongFault", spec := "fnAlongFault", unfollowed := true, recurses := true, named := ["loop.example/treelocks/impl.together", "loop.example/treelocks/impl.joined"], apart := false, laid := [("loop.example/treelocks/impl.together", laid_loop_example_treelocks_impl_together), ("loop.example/treelocks/impl.joined", laid_loop_example_treelocks_impl_joined)] }
def FnAlongFaultSaid : Prop := fnAlongFaultRow.holds Tryd.pinned (OpenSpec.ofChange fnAlongFaultSpec)

/-- ITS FALSE NEIGHBOUR: 'it returns false'. Refute it at one input. -/
def fnAlongFaultWrong : ChangeSpec := { name := "fnAlongFault", vars := ["loop.example/treelocks/impl.together", "loop.example/treelocks/impl.joined"], fn := fun _ => fun
  | [d, g1, g2] => { results := [.lit (.bool false)], args := [d], vars := [g1, g2] }
  | _ => none }
def FnAlongFaultWrongFalsely : Prop := fnAlongFaultRow.holds Tryd.pinned (OpenSpec.ofChange fnAlongFaultWrong)

/-- 'laws.FnAlongFaultFirst': WHATEVER THE INPUT: true; the input reads as it did. -/
def fnAlongFaultFirstSpec : ChangeSpec := { name := "fnAlongFaultFirst", vars := ["loop.example/treelocks/impl.together", "loop.example/treelocks/impl.joined"], fn := fun _ => fun
  | [d, g1, g2] => { results := [.lit (.bool true)], args := [d], vars := [g1, g2] }
  | _ => none }
def fnAlongFaultFirstRow : OpenClaim := { program := "ytddpdcnbdbnljaadoor", sum := "e46469e49f9688b10021623ceed98f10482e0be469bb37206a7469cf5397b7ce", func := "loop.example/treelocks/laws.FnAlongFaultFirst", spec := "fnAlongFaultFirst", unfollowed := true, recurses := true, named := ["loop.example/treelocks/impl.together", "loop.example/treelocks/impl.joined"], apart := false, laid := [("loop.example/treelocks/impl.together", laid_loop_example_treelocks_impl_together), ("loop.example/treelocks/impl.joined", laid_loop_example_treelocks_impl_joined)] }
def FnAlongFaultFirstSaid : Prop := fnAlongFaultFirstRow.holds Tryd.pinned (OpenSpec.ofChange fnAlongFaultFirstSpec)

/-- ITS FALSE NEIGHBOUR: 'it returns false'. Refute it at one input. -/
def fnAlongFaultFirstWrong : ChangeSpec := { name := "fnAlongFaultFirst", vars := ["loop.example/treelocks/impl.together", "loop.example/treelocks/impl.joined"], fn := fun _ => fun
  | [d, g1, g2] => { results := [.lit (.bool false)], args := [d], vars := [g1, g2] }
  | _ => none }
def FnAlongFaultFirstWrongFalsely : Prop := fnAlongFaultFirstRow.holds Tryd.pinned (OpenSpec.ofChange fnAlongFaultFirstWrong)

/-- 'laws.FnAlongFaultShort': WHATEVER THE INPUT: true; the input reads as it did. -/
def fnAlongFaultShortSpec : ChangeSpec := { name := "fnAlongFaultShort", vars := ["loop.example/treelocks/impl.together", "loop.example/treelocks/impl.joined"], fn := fun _ => fun
  | [d, g1, g2] => { results := [.lit (.bool true)], args := [d], vars := [g1, g2] }
  | _ => none }
def fnAlongFaultShortRow : OpenClaim := { program := "ytddpdcnbdbnljaadoor", sum := "e46469e49f9688b10021623ceed98f10482e0be469bb37206a7469cf5397b7ce", func := "loop.example/treelocks/laws.FnAlongFaultShort", spec := "fnAlongFaultShort", unfollowed := true, recurses := true, named := ["loop.example/treelocks/impl.together", "loop.example/treelocks/impl.joined"], apart := false, laid := [("loop.example/treelocks/impl.together", laid_loop_example_treelocks_impl_together), ("loop.example/treelocks/impl.joined", laid_loop_example_treelocks_impl_joined)] }
def FnAlongFaultShortSaid : Prop := fnAlongFaultShortRow.holds Tryd.pinned (OpenSpec.ofChange fnAlongFaultShortSpec)

/-- ITS FALSE NEIGHBOUR: 'it returns false'. Refute it at one input. -/
def fnAlongFaultShortWrong : ChangeSpec := { name := "fnAlongFaultShort", vars := ["loop.example/treelocks/impl.together", "loop.example/treelocks/impl.joined"], fn := fun _ => fun
  | [d, g1, g2] => { results := [.lit (.bool false)], args := [d], vars := [g1, g2] }
  | _ => none }
def FnAlongFaultShortWrongFalsely : Prop := fnAlongFaultShortRow.holds Tryd.pinned (OpenSpec.ofChange fnAlongFaultShortWrong)

/-- 'laws.FnGoesAlong': WHATEVER THE INPUT: true; the input reads as it did. -/
def fnGoesAlongSpec : ChangeSpec := { name := "fnGoesAlong", vars := ["loop.example/treelocks/impl.together", "loop.example/treelocks/impl.joined"], fn := fun _ => fun
  | [d, g1, g2] => { results := [.lit (.bool true)], args := [d], vars := [g1, g2] }
  | _ => none }
def fnGoesAlongRow : OpenClaim := { program := "ytddpdcnbdbnljaadoor", sum := "e46469e49f9688b10021623ceed98f10482e0be469bb37206a7469cf5397b7ce", func := "loop.example/treelocks/laws.FnGoesAlong", spec := "fnGoesAlong", unfollowed := true, recurses := true, named := ["loop.example/treelocks/impl.together", "loop.example/treelocks/impl.joined"], apart := false, laid := [("loop.example/treelocks/impl.together", laid_loop_example_treelocks_impl_together), ("loop.example/treelocks/impl.joined", laid_loop_example_treelocks_impl_joined)] }
def FnGoesAlongSaid : Prop := fnGoesAlongRow.holds Tryd.pinned (OpenSpec.ofChange fnGoesAlongSpec)

/-- ITS FALSE NEIGHBOUR: 'it returns false'. Refute it at one input. -/
def fnGoesAlongWrong : ChangeSpec := { name := "fnGoesAlong", vars := ["loop.example/treelocks/impl.together", "loop.example/treelocks/impl.joined"], fn := fun _ => fun
  | [d, g1, g2] => { results := [.lit (.bool false)], args := [d], vars := [g1, g2] }
  | _ => none }
def FnGoesAlongWrongFalsely : Prop := fnGoesAlongRow.holds Tryd.pinned (OpenSpec.ofChange fnGoesAlongWrong)

/-- 'laws.FnGoesAlongOnce': WHATEVER THE INPUT: true; the input reads as it did. -/
def fnGoesAlongOnceSpec : ChangeSpec := { name := "fnGoesAlongOnce", vars := ["loop.example/treelocks/impl.together", "loop.example/treelocks/impl.joined"], fn := fun _ => fun
  | [d, g1, g2] => { results := [.lit (.bool true)], args := [d], vars := [g1, g2] }
  | _ => none }
def fnGoesAlongOnceRow : OpenClaim := { program := "ytddpdcnbdbnljaadoor", sum := "e46469e49f9688b10021623ceed98f10482e0be469bb37206a7469cf5397b7ce", func := "loop.example/treelocks/laws.FnGoesAlongOnce", spec := "fnGoesAlongOnce", unfollowed := true, recurses := true, named := ["loop.example/treelocks/impl.together", "loop.example/treelocks/impl.joined"], apart := false, laid := [("loop.example/treelocks/impl.together", laid_loop_example_treelocks_impl_together), ("loop.example/treelocks/impl.joined", laid_loop_example_treelocks_impl_joined)] }
def FnGoesAlongOnceSaid : Prop := fnGoesAlongOnceRow.holds Tryd.pinned (OpenSpec.ofChange fnGoesAlongOnceSpec)

/-- ITS FALSE NEIGHBOUR: 'it returns false'. Refute it at one input. -/
def fnGoesAlongOnceWrong : ChangeSpec := { name := "fnGoesAlongOnce", vars := ["loop.example/treelocks/impl.together", "loop.example/treelocks/impl.joined"], fn := fun _ => fun
  | [d, g1, g2] => { results := [.lit (.bool false)], args := [d], vars := [g1, g2] }
  | _ => none }
def FnGoesAlongOnceWrongFalsely : Prop := fnGoesAlongOnceRow.holds Tryd.pinned (OpenSpec.ofChange fnGoesAlongOnceWrong)

/-- 'laws.FnGoesAlongShort': WHATEVER THE INPUT: true; the input reads as it did. -/
def fnGoesAlongShortSpec : ChangeSpec := { name := "fnGoesAlongShort", vars := ["loop.example/treelocks/impl.together", "loop.example/treelocks/impl.joined"], fn := fun _ => fun
  | [d, g1, g2] => { results := [.lit (.bool true)], args := [d], vars := [g1, g2] }
  | _ => none }
def fnGoesAlongShortRow : OpenClaim := { program := "ytddpdcnbdbnljaadoor", sum := "e46469e49f9688b10021623ceed98f10482e0be469bb37206a7469cf5397b7ce", func := "loop.example/treelocks/laws.FnGoesAlongShort", spec := "fnGoesAlongShort", unfollowed := true, recurses := true, named := ["loop.example/treelocks/impl.together", "loop.example/treelocks/impl.joined"], apart := false, laid := [("loop.example/treelocks/impl.together", laid_loop_example_treelocks_impl_together), ("loop.example/treelocks/impl.joined", laid_loop_example_treelocks_impl_joined)] }
def FnGoesAlongShortSaid : Prop := fnGoesAlongShortRow.holds Tryd.pinned (OpenSpec.ofChange fnGoesAlongShortSpec)

/-- ITS FALSE NEIGHBOUR: 'it returns false'. Refute it at one input. -/
def fnGoesAlongShortWrong : ChangeSpec := { name := "fnGoesAlongShort", vars := ["loop.example/treelocks/impl.together", "loop.example/treelocks/impl.joined"], fn := fun _ => fun
  | [d, g1, g2] => { results := [.lit (.bool false)], args := [d], vars := [g1, g2] }
  | _ => none }
def FnGoesAlongShortWrongFalsely : Prop := fnGoesAlongShortRow.holds Tryd.pinned (OpenSpec.ofChange fnGoesAlongShortWrong)

/-- 'laws.FnNextAlong': WHATEVER THE INPUT: true; the input reads as it did. -/
def fnNextAlongSpec : ChangeSpec := { name := "fnNextAlong", vars := ["loop.example/treelocks/impl.together", "loop.example/treelocks/impl.joined"], fn := fun _ => fun
  | [d, g1, g2] => { results := [.lit (.bool true)], args := [d], vars := [g1, g2] }
  | _ => none }
def fnNextAlongRow : OpenClaim := { program := "ytddpdcnbdbnljaadoor", sum := "e46469e49f9688b10021623ceed98f10482e0be469bb37206a7469cf5397b7ce", func := "loop.example/treelocks/laws.FnNextAlong", spec := "fnNextAlong", unfollowed := true, recurses := true, named := ["loop.example/treelocks/impl.together", "loop.example/treelocks/impl.joined"], apart := false, laid := [("loop.example/treelocks/impl.together", laid_loop_example_treelocks_impl_together), ("loop.example/treelocks/impl.joined", laid_loop_example_treelocks_impl_joined)] }
def FnNextAlongSaid : Prop := fnNextAlongRow.holds Tryd.pinned (OpenSpec.ofChange fnNextAlongSpec)

/-- ITS FALSE NEIGHBOUR: 'it returns false'. Refute it at one input. -/
def fnNextAlongWrong : ChangeSpec := { name := "fnNextAlong", vars := ["loop.example/treelocks/impl.together", "loop.example/treelocks/impl.joined"], fn := fun _ => fun
  | [d, g1, g2] => { results := [.lit (.bool false)], args := [d], vars := [g1, g2] }
  | _ => none }
def FnNextAlongWrongFalsely : Prop := fnNextAlongRow.holds Tryd.pinned (OpenSpec.ofChange fnNextAlongWrong)

/-- 'laws.FnNextAlongFirst': WHATEVER THE INPUT: true; the input reads as it did. -/
def fnNextAlongFirstSpec : ChangeSpec := { name := "fnNextAlongFirst", vars := ["loop.example/treelocks/impl.together", "loop.example/treelocks/impl.joined"], fn := fun _ => fun
  | [d, g1, g2] => { results := [.lit (.bool true)], args := [d], vars := [g1, g2] }
  | _ => none }
def fnNextAlongFirstRow : OpenClaim := { program := "ytddpdcnbdbnljaadoor", sum := "e46469e49f9688b10021623ceed98f10482e0be469bb37206a7469cf5397b7ce", func := "loop.example/treelocks/laws.FnNextAlongFirst", spec := "fnNextAlongFirst", unfollowed := true, recurses := true, named := ["loop.example/treelocks/impl.together", "loop.example/treelocks/impl.joined"], apart := false, laid := [("loop.example/treelocks/impl.together", laid_loop_example_treelocks_impl_together), ("loop.example/treelocks/impl.joined", laid_loop_example_treelocks_impl_joined)] }
def FnNextAlongFirstSaid : Prop := fnNextAlongFirstRow.holds Tryd.pinned (OpenSpec.ofChange fnNextAlongFirstSpec)

/-- ITS FALSE NEIGHBOUR: 'it returns false'. Refute it at one input. -/
def fnNextAlongFirstWrong : ChangeSpec := { name := "fnNextAlongFirst", vars := ["loop.example/treelocks/impl.together", "loop.example/treelocks/impl.joined"], fn := fun _ => fun
  | [d, g1, g2] => { results := [.lit (.bool false)], args := [d], vars := [g1, g2] }
  | _ => none }
def FnNextAlongFirstWrongFalsely : Prop := fnNextAlongFirstRow.holds Tryd.pinned (OpenSpec.ofChange fnNextAlongFirstWrong)

/-- 'laws.FnNextAlongBelow': WHATEVER THE INPUT: true; the input reads as it did. -/
def fnNextAlongBelowSpec : ChangeSpec := { name := "fnNextAlongBelow", vars := ["loop.example/treelocks/impl.together", "loop.example/treelocks/impl.joined"], fn := fun _ => fun
  | [d, g1, g2] => { results := [.lit (.bool true)], args := [d], vars := [g1, g2] }
  | _ => none }
def fnNextAlongBelowRow : OpenClaim := { program := "ytddpdcnbdbnljaadoor", sum := "e46469e49f9688b10021623ceed98f10482e0be469bb37206a7469cf5397b7ce", func := "loop.example/treelocks/laws.FnNextAlongBelow", spec := "fnNextAlongBelow", unfollowed := true, recurses := true, named := ["loop.example/treelocks/impl.together", "loop.example/treelocks/impl.joined"], apart := false, laid := [("loop.example/treelocks/impl.together", laid_loop_example_treelocks_impl_together), ("loop.example/treelocks/impl.joined", laid_loop_example_treelocks_impl_joined)] }
def FnNextAlongBelowSaid : Prop := fnNextAlongBelowRow.holds Tryd.pinned (OpenSpec.ofChange fnNextAlongBelowSpec)

/-- ITS FALSE NEIGHBOUR: 'it returns false'. Refute it at one input. -/
def fnNextAlongBelowWrong : ChangeSpec := { name := "fnNextAlongBelow", vars := ["loop.example/treelocks/impl.together", "loop.example/treelocks/impl.joined"], fn := fun _ => fun
  | [d, g1, g2] => { results := [.lit (.bool false)], args := [d], vars := [g1, g2] }
  | _ => none }
def FnNextAlongBelowWrongFalsely : Prop := fnNextAlongBelowRow.holds Tryd.pinned (OpenSpec.ofChange fnNextAlongBelowWrong)

/-- 'laws.FnGoesAlongSerial': WHATEVER THE INPUT: true; the input reads as it did. -/
def fnGoesAlongSerialSpec : ChangeSpec := { name := "fnGoesAlongSerial", vars := ["loop.example/treelocks/impl.together", "loop.example/treelocks/impl.joined"], fn := fun _ => fun
  | [d, g1, g2] => { results := [.lit (.bool true)], args := [d], vars := [g1, g2] }
  | _ => none }
def fnGoesAlongSerialRow : OpenClaim := { program := "ytddpdcnbdbnljaadoor", sum := "e46469e49f9688b10021623ceed98f10482e0be469bb37206a7469cf5397b7ce", func := "loop.example/treelocks/laws.FnGoesAlongSerial", spec := "fnGoesAlongSerial", unfollowed := true, recurses := true, named := ["loop.example/treelocks/impl.together", "loop.example/treelocks/impl.joined"], apart := false, laid := [("loop.example/treelocks/impl.together", laid_loop_example_treelocks_impl_together), ("loop.example/treelocks/impl.joined", laid_loop_example_treelocks_impl_joined)] }
def FnGoesAlongSerialSaid : Prop := fnGoesAlongSerialRow.holds Tryd.pinned (OpenSpec.ofChange fnGoesAlongSerialSpec)

/-- ITS FALSE NEIGHBOUR: 'it returns false'. Refute it at one input. -/
def fnGoesAlongSerialWrong : ChangeSpec := { name := "fnGoesAlongSerial", vars := ["loop.example/treelocks/impl.together", "loop.example/treelocks/impl.joined"], fn := fun _ => fun
  | [d, g1, g2] => { results := [.lit (.bool false)], args := [d], vars := [g1, g2] }
  | _ => none }
def FnGoesAlongSerialWrongFalsely : Prop := fnGoesAlongSerialRow.holds Tryd.pinned (OpenSpec.ofChange fnGoesAlongSerialWrong)

/-- 'laws.FnGoesAlongDeadlock': WHATEVER THE INPUT: true; the input reads as it did. -/
def fnGoesAlongDeadlockSpec : ChangeSpec := { name := "fnGoesAlongDeadlock", vars := ["loop.example/treelocks/impl.together", "loop.example/treelocks/impl.joined"], fn := fun _ => fun
  | [d, g1, g2] => { results := [.lit (.bool true)], args := [d], vars := [g1, g2] }
  | _ => none }
def fnGoesAlongDeadlockRow : OpenClaim := { program := "ytddpdcnbdbnljaadoor", sum := "e46469e49f9688b10021623ceed98f10482e0be469bb37206a7469cf5397b7ce", func := "loop.example/treelocks/laws.FnGoesAlongDeadlock", spec := "fnGoesAlongDeadlock", unfollowed := true, recurses := true, named := ["loop.example/treelocks/impl.together", "loop.example/treelocks/impl.joined"], apart := false, laid := [("loop.example/treelocks/impl.together", laid_loop_example_treelocks_impl_together), ("loop.example/treelocks/impl.joined", laid_loop_example_treelocks_impl_joined)] }
def FnGoesAlongDeadlockSaid : Prop := fnGoesAlongDeadlockRow.holds Tryd.pinned (OpenSpec.ofChange fnGoesAlongDeadlockSpec)

/-- ITS FALSE NEIGHBOUR: 'it returns false'. Refute it at one input. -/
def fnGoesAlongDeadlockWrong : ChangeSpec := { name := "fnGoesAlongDeadlock", vars := ["loop.example/treelocks/impl.together", "loop.example/treelocks/impl.joined"], fn := fun _ => fun
  | [d, g1, g2] => { results := [.lit (.bool false)], args := [d], vars := [g1, g2] }
  | _ => none }
def FnGoesAlongDeadlockWrongFalsely : Prop := fnGoesAlongDeadlockRow.holds Tryd.pinned (OpenSpec.ofChange fnGoesAlongDeadlockWrong)

/- THE SECOND FORM. 'bulk': how many values and letters a reading holds, each counted each time it is reached (what is shared counts as often as it is met; a slice's spare places count too). A statement '..UptoSaid' is the law's where the arguments, and the package variables that the reading takes, are together of bulk at most 1048576: NARROWER than '..Said'. Prove '..Said' where nothing that the law and all that it calls make is longer than what came in: it says more and counts as full. Else prove '..UptoSaid'. A law counts once. -/
mutual
def uptoBulk {H : Type} : DataW H → Nat
  | .lit (.string bytes) => bytes.length + 1
  | .lit _ => 1
  | .nil => 1
  | .ptr d => uptoBulk d + 1
  | .slice elems spare => uptoBulkAll elems + uptoBulkAll spare + 1
  | .agg parts => uptoBulkAll parts + 1
  | .iface _ d => uptoBulk d + 1
  | .map entries => uptoBulkEntries entries + 1
  | .held _ => 1
def uptoBulkAll {H : Type} : List (DataW H) → Nat
  | [] => 0
  | d :: r => uptoBulk d + uptoBulkAll r
def uptoBulkEntries {H : Type} : List (Lit × DataW H) → Nat
  | [] => 0
  | x :: r => uptoBulkEntry x + uptoBulkEntries r
def uptoBulkEntry {H : Type} : Lit × DataW H → Nat
  | (.string bytes, d) => bytes.length + uptoBulk d + 1
  | (_, d) => uptoBulk d + 1
 end
def uptoSmall : (H : Type) → List (DataW H) → Bool := fun _ ds => decide (uptoBulkAll ds ≤ 1048576)
def OpenSpec.upto (s : _root_.Go.ChangeSpec) : _root_.Go.OpenSpec := { _root_.Go.OpenSpec.ofChange s with cond := some uptoSmall }

/-- 'laws.FnAccessesOf', WHERE WHAT IT READS IS OF BULK AT MOST 1048576: true; the input reads as it did. -/
def fnAccessesOfUptoRow : OpenClaim := { program := "ytddpdcnbdbnljaadoor", sum := "e46469e49f9688b10021623ceed98f10482e0be469bb37206a7469cf5397b7ce", func := "loop.example/treelocks/laws.FnAccessesOf", spec := "fnAccessesOf", unfollowed := true, recurses := true, named := ["loop.example/treelocks/impl.together", "loop.example/treelocks/impl.joined"], apart := false, laid := [("loop.example/treelocks/impl.together", laid_loop_example_treelocks_impl_together), ("loop.example/treelocks/impl.joined", laid_loop_example_treelocks_impl_joined)], narrowed := true }
def FnAccessesOfUptoSaid : Prop := fnAccessesOfUptoRow.holds Tryd.pinned (OpenSpec.upto fnAccessesOfSpec)

/-- 'laws.FnLockPointOrderShort', WHERE WHAT IT READS IS OF BULK AT MOST 1048576: true; the input reads as it did. -/
def fnLockPointOrderShortUptoRow : OpenClaim := { program := "ytddpdcnbdbnljaadoor", sum := "e46469e49f9688b10021623ceed98f10482e0be469bb37206a7469cf5397b7ce", func := "loop.example/treelocks/laws.FnLockPointOrderShort", spec := "fnLockPointOrderShort", unfollowed := true, recurses := true, named := ["loop.example/treelocks/impl.together", "loop.example/treelocks/impl.joined"], apart := false, laid := [("loop.example/treelocks/impl.together", laid_loop_example_treelocks_impl_together), ("loop.example/treelocks/impl.joined", laid_loop_example_treelocks_impl_joined)], narrowed := true }
def FnLockPointOrderShortUptoSaid : Prop := fnLockPointOrderShortUptoRow.holds Tryd.pinned (OpenSpec.upto fnLockPointOrderShortSpec)

/-- 'laws.FnLockPointOrder', WHERE WHAT IT READS IS OF BULK AT MOST 1048576: true; the input reads as it did. -/
def fnLockPointOrderUptoRow : OpenClaim := { program := "ytddpdcnbdbnljaadoor", sum := "e46469e49f9688b10021623ceed98f10482e0be469bb37206a7469cf5397b7ce", func := "loop.example/treelocks/laws.FnLockPointOrder", spec := "fnLockPointOrder", unfollowed := true, recurses := true, named := ["loop.example/treelocks/impl.together", "loop.example/treelocks/impl.joined"], apart := false, laid := [("loop.example/treelocks/impl.together", laid_loop_example_treelocks_impl_together), ("loop.example/treelocks/impl.joined", laid_loop_example_treelocks_impl_joined)], narrowed := true }
def FnLockPointOrderUptoSaid : Prop := fnLockPointOrderUptoRow.holds Tryd.pinned (OpenSpec.upto fnLockPointOrderSpec)

/-- 'laws.FnLockPointOrderSerial', WHERE WHAT IT READS IS OF BULK AT MOST 1048576: true; the input reads as it did. -/
def fnLockPointOrderSerialUptoRow : OpenClaim := { program := "ytddpdcnbdbnljaadoor", sum := "e46469e49f9688b10021623ceed98f10482e0be469bb37206a7469cf5397b7ce", func := "loop.example/treelocks/laws.FnLockPointOrderSerial", spec := "fnLockPointOrderSerial", unfollowed := true, recurses := true, named := ["loop.example/treelocks/impl.together", "loop.example/treelocks/impl.joined"], apart := false, laid := [("loop.example/treelocks/impl.together", laid_loop_example_treelocks_impl_together), ("loop.example/treelocks/impl.joined", laid_loop_example_treelocks_impl_joined)], narrowed := true }
def FnLockPointOrderSerialUptoSaid : Prop := fnLockPointOrderSerialUptoRow.holds Tryd.pinned (OpenSpec.upto fnLockPointOrderSerialSpec)

/-- 'laws.FnAlongFault', WHERE WHAT IT READS IS OF BULK AT MOST 1048576: true; the input reads as it did. -/
def fnAlongFaultUptoRow : OpenClaim := { program := "ytddpdcnbdbnljaadoor", sum := "e46469e49f9688b10021623ceed98f10482e0be469bb37206a7469cf5397b7ce", func := "loop.example/treelocks/laws.FnAlongFault", spec := "fnAlongFault", unfollowed := true, recurses := true, named := ["loop.example/treelocks/impl.together", "loop.example/treelocks/impl.joined"], apart := false, laid := [("loop.example/treelocks/impl.together", laid_loop_example_treelocks_impl_together), ("loop.example/treelocks/impl.joined", laid_loop_example_treelocks_impl_joined)], narrowed := true }
def FnAlongFaultUptoSaid : Prop := fnAlongFaultUptoRow.holds Tryd.pinned (OpenSpec.upto fnAlongFaultSpec)

/-- 'laws.FnAlongFaultFirst', WHERE WHAT IT READS IS OF BULK AT MOST 1048576: true; the input reads as it did. -/
def fnAlongFaultFirstUptoRow : OpenClaim := { program := "ytddpdcnbdbnljaadoor", sum := "e46469e49f9688b10021623ceed98f10482e0be469bb37206a7469cf5397b7ce", func := "loop.example/treelocks/laws.FnAlongFaultFirst", spec := "fnAlongFaultFirst", unfollowed := true, recurses := true, named := ["loop.example/treelocks/impl.together", "loop.example/treelocks/impl.joined"], apart := false, laid := [("loop.example/treelocks/impl.together", laid_loop_example_treelocks_impl_together), ("loop.example/treelocks/impl.joined", laid_loop_example_treelocks_impl_joined)], narrowed := true }
def FnAlongFaultFirstUptoSaid : Prop := fnAlongFaultFirstUptoRow.holds Tryd.pinned (OpenSpec.upto fnAlongFaultFirstSpec)

/-- 'laws.FnAlongFaultShort', WHERE WHAT IT READS IS OF BULK AT MOST 1048576: true; the input reads as it did. -/
def fnAlongFaultShortUptoRow : OpenClaim := { program := "ytddpdcnbdbnljaadoor", sum := "e46469e49f9688b10021623ceed98f10482e0be469bb37206a7469cf5397b7ce", func := "loop.example/treelocks/laws.FnAlongFaultShort", spec := "fnAlongFaultShort", unfollowed := true, recurses := true, named := ["loop.example/treelocks/impl.together", "loop.example/treelocks/impl.joined"], apart := false, laid := [("loop.example/treelocks/impl.together", laid_loop_example_treelocks_impl_together), ("loop.example/treelocks/impl.joined", laid_loop_example_treelocks_impl_joined)], narrowed := true }
def FnAlongFaultShortUptoSaid : Prop := fnAlongFaultShortUptoRow.holds Tryd.pinned (OpenSpec.upto fnAlongFaultShortSpec)

/-- 'laws.FnGoesAlong', WHERE WHAT IT READS IS OF BULK AT MOST 1048576: true; the input reads as it did. -/
def fnGoesAlongUptoRow : OpenClaim := { program := "ytddpdcnbdbnljaadoor", sum := "e46469e49f9688b10021623ceed98f10482e0be469bb37206a7469cf5397b7ce", func := "loop.example/treelocks/laws.FnGoesAlong", spec := "fnGoesAlong", unfollowed := true, recurses := true, named := ["loop.example/treelocks/impl.together", "loop.example/treelocks/impl.joined"], apart := false, laid := [("loop.example/treelocks/impl.together", laid_loop_example_treelocks_impl_together), ("loop.example/treelocks/impl.joined", laid_loop_example_treelocks_impl_joined)], narrowed := true }
def FnGoesAlongUptoSaid : Prop := fnGoesAlongUptoRow.holds Tryd.pinned (OpenSpec.upto fnGoesAlongSpec)

/-- 'laws.FnGoesAlongOnce', WHERE WHAT IT READS IS OF BULK AT MOST 1048576: true; the input reads as it did. -/
def fnGoesAlongOnceUptoRow : OpenClaim := { program := "ytddpdcnbdbnljaadoor", sum := "e46469e49f9688b10021623ceed98f10482e0be469bb37206a7469cf5397b7ce", func := "loop.example/treelocks/laws.FnGoesAlongOnce", spec := "fnGoesAlongOnce", unfollowed := true, recurses := true, named := ["loop.example/treelocks/impl.together", "loop.example/treelocks/impl.joined"], apart := false, laid := [("loop.example/treelocks/impl.together", laid_loop_example_treelocks_impl_together), ("loop.example/treelocks/impl.joined", laid_loop_example_treelocks_impl_joined)], narrowed := true }
def FnGoesAlongOnceUptoSaid : Prop := fnGoesAlongOnceUptoRow.holds Tryd.pinned (OpenSpec.upto fnGoesAlongOnceSpec)

/-- 'laws.FnGoesAlongShort', WHERE WHAT IT READS IS OF BULK AT MOST 1048576: true; the input reads as it did. -/
def fnGoesAlongShortUptoRow : OpenClaim := { program := "ytddpdcnbdbnljaadoor", sum := "e46469e49f9688b10021623ceed98f10482e0be469bb37206a7469cf5397b7ce", func := "loop.example/treelocks/laws.FnGoesAlongShort", spec := "fnGoesAlongShort", unfollowed := true, recurses := true, named := ["loop.example/treelocks/impl.together", "loop.example/treelocks/impl.joined"], apart := false, laid := [("loop.example/treelocks/impl.together", laid_loop_example_treelocks_impl_together), ("loop.example/treelocks/impl.joined", laid_loop_example_treelocks_impl_joined)], narrowed := true }
def FnGoesAlongShortUptoSaid : Prop := fnGoesAlongShortUptoRow.holds Tryd.pinned (OpenSpec.upto fnGoesAlongShortSpec)

/-- 'laws.FnNextAlong', WHERE WHAT IT READS IS OF BULK AT MOST 1048576: true; the input reads as it did. -/
def fnNextAlongUptoRow : OpenClaim := { program := "ytddpdcnbdbnljaadoor", sum := "e46469e49f9688b10021623ceed98f10482e0be469bb37206a7469cf5397b7ce", func := "loop.example/treelocks/laws.FnNextAlong", spec := "fnNextAlong", unfollowed := true, recurses := true, named := ["loop.example/treelocks/impl.together", "loop.example/treelocks/impl.joined"], apart := false, laid := [("loop.example/treelocks/impl.together", laid_loop_example_treelocks_impl_together), ("loop.example/treelocks/impl.joined", laid_loop_example_treelocks_impl_joined)], narrowed := true }
def FnNextAlongUptoSaid : Prop := fnNextAlongUptoRow.holds Tryd.pinned (OpenSpec.upto fnNextAlongSpec)

/-- 'laws.FnNextAlongFirst', WHERE WHAT IT READS IS OF BULK AT MOST 1048576: true; the input reads as it did. -/
def fnNextAlongFirstUptoRow : OpenClaim := { program := "ytddpdcnbdbnljaadoor", sum := "e46469e49f9688b10021623ceed98f10482e0be469bb37206a7469cf5397b7ce", func := "loop.example/treelocks/laws.FnNextAlongFirst", spec := "fnNextAlongFirst", unfollowed := true, recurses := true, named := ["loop.example/treelocks/impl.together", "loop.example/treelocks/impl.joined"], apart := false, laid := [("loop.example/treelocks/impl.together", laid_loop_example_treelocks_impl_together), ("loop.example/treelocks/impl.joined", laid_loop_example_treelocks_impl_joined)], narrowed := true }
def FnNextAlongFirstUptoSaid : Prop := fnNextAlongFirstUptoRow.holds Tryd.pinned (OpenSpec.upto fnNextAlongFirstSpec)

/-- 'laws.FnNextAlongBelow', WHERE WHAT IT READS IS OF BULK AT MOST 1048576: true; the input reads as it did. -/
def fnNextAlongBelowUptoRow : OpenClaim := { program := "ytddpdcnbdbnljaadoor", sum := "e46469e49f9688b10021623ceed98f10482e0be469bb37206a7469cf5397b7ce", func := "loop.example/treelocks/laws.FnNextAlongBelow", spec := "fnNextAlongBelow", unfollowed := true, recurses := true, named := ["loop.example/treelocks/impl.together", "loop.example/treelocks/impl.joined"], apart := false, laid := [("loop.example/treelocks/impl.together", laid_loop_example_treelocks_impl_together), ("loop.example/treelocks/impl.joined", laid_loop_example_treelocks_impl_joined)], narrowed := true }
def FnNextAlongBelowUptoSaid : Prop := fnNextAlongBelowUptoRow.holds Tryd.pinned (OpenSpec.upto fnNextAlongBelowSpec)

/-- 'laws.FnGoesAlongSerial', WHERE WHAT IT READS IS OF BULK AT MOST 1048576: true; the input reads as it did. -/
def fnGoesAlongSerialUptoRow : OpenClaim := { program := "ytddpdcnbdbnljaadoor", sum := "e46469e49f9688b10021623ceed98f10482e0be469bb37206a7469cf5397b7ce", func := "loop.example/treelocks/laws.FnGoesAlongSerial", spec := "fnGoesAlongSerial", unfollowed := true, recurses := true, named := ["loop.example/treelocks/impl.together", "loop.example/treelocks/impl.joined"], apart := false, laid := [("loop.example/treelocks/impl.together", laid_loop_example_treelocks_impl_together), ("loop.example/treelocks/impl.joined", laid_loop_example_treelocks_impl_joined)], narrowed := true }
def FnGoesAlongSerialUptoSaid : Prop := fnGoesAlongSerialUptoRow.holds Tryd.pinned (OpenSpec.upto fnGoesAlongSerialSpec)

/-- 'laws.FnGoesAlongDeadlock', WHERE WHAT IT READS IS OF BULK AT MOST 1048576: true; the input reads as it did. -/
def fnGoesAlongDeadlockUptoRow : OpenClaim := { program := "ytddpdcnbdbnljaadoor", sum := "e46469e49f9688b10021623ceed98f10482e0be469bb37206a7469cf5397b7ce", func := "loop.example/treelocks/laws.FnGoesAlongDeadlock", spec := "fnGoesAlongDeadlock", unfollowed := true, recurses := true, named := ["loop.example/treelocks/impl.together", "loop.example/treelocks/impl.joined"], apart := false, laid := [("loop.example/treelocks/impl.together", laid_loop_example_treelocks_impl_together), ("loop.example/treelocks/impl.joined", laid_loop_example_treelocks_impl_joined)], narrowed := true }
def FnGoesAlongDeadlockUptoSaid : Prop := fnGoesAlongDeadlockUptoRow.holds Tryd.pinned (OpenSpec.upto fnGoesAlongDeadlockSpec)

end Rows
end Go.Proofs.YtddpdcnbdbnljaaDoor
