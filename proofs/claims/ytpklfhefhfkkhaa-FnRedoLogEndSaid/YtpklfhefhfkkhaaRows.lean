/-
  No cell of these rows narrows 'for every input' (looked for: loops, veiled, ifaces, maps, wideKeys, modest, calm, conditions, laid).
  DERIVED. THE GIVEN ROWS OF THIS SEAT. 7 by the template 'for every input the law returns true; each argument reads behind the call as it read before'; 0 by the template 'total and deterministic' (their statements: YtpklfhefhfkkhaaTotals.lean).
  GIVEN WITH THE SEED: the statements are not yours to turn. If you find one false, say at which input.
  Laid BY PROGRAM, IN A SANDBOX (cutbox-rows.mjs): the forced cells as the released guide's own fill.sh prints them over the translation 5b27346ce1d57b21… (all of the seat's roots in one cut). By AI agents, Wed Nov 11 2026. No macro, syntax, notation, axiom, sorry.
-/
import Derived.Test.YtpklfhefhfkkhaaChecked
import GoSem.Claim
import GoSem.ClaimJoined
import GoSem.ClaimMapViews
import Derived.JoinedTies
import Derived.KernelRfl
namespace Go.Proofs.Ytpklfhefhfkkhaa
/- THE CELL 'sum', in the pinned program and in every row, IS THE sha256 OF THE DUMP (.gsa) THAT YtpklfhefhfkkhaaProg.lean LOADS. Nothing in Lean hashes anything: it is a label: what it is worth is what the hold of that sum in a sandbox is worth. -/
noncomputable def Try.pinned : Pinned := { name := "ytpklfhefhfkkhaa", sum := "5b27346ce1d57b21dfeb1d2311608ec5d4c36cac188b588e1b7d7b79d72a6bac", checked := Try.checked }
namespace Rows
def none {H : Type} : Left H := { results := [], args := [] }

/-- 'laws.FnValidLog': WHATEVER THE INPUT: true; the input reads as it did. -/
def fnValidLogSpec : ChangeSpec := { name := "fnValidLog", fn := fun _ => fun
  | [d] => { results := [.lit (.bool true)], args := [d] }
  | _ => none }
def fnValidLogRow : OpenClaim := { program := "ytpklfhefhfkkhaa", sum := "5b27346ce1d57b21dfeb1d2311608ec5d4c36cac188b588e1b7d7b79d72a6bac", func := "loop.example/treelocks/laws.FnValidLog", spec := "fnValidLog", apart := false }
def FnValidLogSaid : Prop := fnValidLogRow.holds Try.pinned (OpenSpec.ofChange fnValidLogSpec)

/-- ITS FALSE NEIGHBOUR: 'it returns false'. Refute it at one input. -/
def fnValidLogWrong : ChangeSpec := { name := "fnValidLog", fn := fun _ => fun
  | [d] => { results := [.lit (.bool false)], args := [d] }
  | _ => none }
def FnValidLogWrongFalsely : Prop := fnValidLogRow.holds Try.pinned (OpenSpec.ofChange fnValidLogWrong)

/-- 'laws.FnValidLogEnd': WHATEVER THE INPUT: true; the input reads as it did. -/
def fnValidLogEndSpec : ChangeSpec := { name := "fnValidLogEnd", fn := fun _ => fun
  | [d] => { results := [.lit (.bool true)], args := [d] }
  | _ => none }
def fnValidLogEndRow : OpenClaim := { program := "ytpklfhefhfkkhaa", sum := "5b27346ce1d57b21dfeb1d2311608ec5d4c36cac188b588e1b7d7b79d72a6bac", func := "loop.example/treelocks/laws.FnValidLogEnd", spec := "fnValidLogEnd", apart := false }
def FnValidLogEndSaid : Prop := fnValidLogEndRow.holds Try.pinned (OpenSpec.ofChange fnValidLogEndSpec)

/-- ITS FALSE NEIGHBOUR: 'it returns false'. Refute it at one input. -/
def fnValidLogEndWrong : ChangeSpec := { name := "fnValidLogEnd", fn := fun _ => fun
  | [d] => { results := [.lit (.bool false)], args := [d] }
  | _ => none }
def FnValidLogEndWrongFalsely : Prop := fnValidLogEndRow.holds Try.pinned (OpenSpec.ofChange fnValidLogEndWrong)

/-- 'laws.FnExactValidLog': WHATEVER THE INPUT: true; the input reads as it did. -/
def fnExactValidLogSpec : ChangeSpec := { name := "fnExactValidLog", fn := fun _ => fun
  | [d1, d2] => { results := [.lit (.bool true)], args := [d1, d2] }
  | _ => none }
def fnExactValidLogRow : OpenClaim := { program := "ytpklfhefhfkkhaa", sum := "5b27346ce1d57b21dfeb1d2311608ec5d4c36cac188b588e1b7d7b79d72a6bac", func := "loop.example/treelocks/laws.FnExactValidLog", spec := "fnExactValidLog", apart := false }
def FnExactValidLogSaid : Prop := fnExactValidLogRow.holds Try.pinned (OpenSpec.ofChange fnExactValidLogSpec)

/-- ITS FALSE NEIGHBOUR: 'it returns false'. Refute it at one input. -/
def fnExactValidLogWrong : ChangeSpec := { name := "fnExactValidLog", fn := fun _ => fun
  | [d1, d2] => { results := [.lit (.bool false)], args := [d1, d2] }
  | _ => none }
def FnExactValidLogWrongFalsely : Prop := fnExactValidLogRow.holds Try.pinned (OpenSpec.ofChange fnExactValidLogWrong)

/-- 'laws.FnRedoLog': WHATEVER THE INPUT: true; the input reads as it did. -/
def fnRedoLogSpec : ChangeSpec := { name := "fnRedoLog", fn := fun _ => fun
  | [d] => { results := [.lit (.bool true)], args := [d] }
  | _ => none }
def fnRedoLogRow : OpenClaim := { program := "ytpklfhefhfkkhaa", sum := "5b27346ce1d57b21dfeb1d2311608ec5d4c36cac188b588e1b7d7b79d72a6bac", func := "loop.example/treelocks/laws.FnRedoLog", spec := "fnRedoLog", apart := false }
def FnRedoLogSaid : Prop := fnRedoLogRow.holds Try.pinned (OpenSpec.ofChange fnRedoLogSpec)

/-- ITS FALSE NEIGHBOUR: 'it returns false'. Refute it at one input. -/
def fnRedoLogWrong : ChangeSpec := { name := "fnRedoLog", fn := fun _ => fun
  | [d] => { results := [.lit (.bool false)], args := [d] }
  | _ => none }
def FnRedoLogWrongFalsely : Prop := fnRedoLogRow.holds Try.pinned (OpenSpec.ofChange fnRedoLogWrong)

/-- 'laws.FnRedoLogEnd': WHATEVER THE INPUT: true; the input reads as it did. -/
def fnRedoLogEndSpec : ChangeSpec := { name := "fnRedoLogEnd", fn := fun _ => fun
  | [d] => { results := [.lit (.bool true)], args := [d] }
  | _ => none }
def fnRedoLogEndRow : OpenClaim := { program := "ytpklfhefhfkkhaa", sum := "5b27346ce1d57b21dfeb1d2311608ec5d4c36cac188b588e1b7d7b79d72a6bac", func := "loop.example/treelocks/laws.FnRedoLogEnd", spec := "fnRedoLogEnd", apart := false }
def FnRedoLogEndSaid : Prop := fnRedoLogEndRow.holds Try.pinned (OpenSpec.ofChange fnRedoLogEndSpec)

/-- ITS FALSE NEIGHBOUR: 'it returns false'. Refute it at one input. -/
def fnRedoLogEndWrong : ChangeSpec := { name := "fnRedoLogEnd", fn := fun _ => fun
  | [d] => { results := [.lit (.bool false)], args := [d] }
  | _ => none }
def FnRedoLogEndWrongFalsely : Prop := fnRedoLogEndRow.holds Try.pinned (OpenSpec.ofChange fnRedoLogEndWrong)

/-- 'laws.FnRedoLogTwice': WHATEVER THE INPUT: true; the input reads as it did. -/
def fnRedoLogTwiceSpec : ChangeSpec := { name := "fnRedoLogTwice", fn := fun _ => fun
  | [d] => { results := [.lit (.bool true)], args := [d] }
  | _ => none }
def fnRedoLogTwiceRow : OpenClaim := { program := "ytpklfhefhfkkhaa", sum := "5b27346ce1d57b21dfeb1d2311608ec5d4c36cac188b588e1b7d7b79d72a6bac", func := "loop.example/treelocks/laws.FnRedoLogTwice", spec := "fnRedoLogTwice", apart := false }
def FnRedoLogTwiceSaid : Prop := fnRedoLogTwiceRow.holds Try.pinned (OpenSpec.ofChange fnRedoLogTwiceSpec)

/-- ITS FALSE NEIGHBOUR: 'it returns false'. Refute it at one input. -/
def fnRedoLogTwiceWrong : ChangeSpec := { name := "fnRedoLogTwice", fn := fun _ => fun
  | [d] => { results := [.lit (.bool false)], args := [d] }
  | _ => none }
def FnRedoLogTwiceWrongFalsely : Prop := fnRedoLogTwiceRow.holds Try.pinned (OpenSpec.ofChange fnRedoLogTwiceWrong)

/-- 'laws.FnLosersOfEnd': WHATEVER THE INPUT: true; the input reads as it did. -/
def fnLosersOfEndSpec : ChangeSpec := { name := "fnLosersOfEnd", fn := fun _ => fun
  | [d] => { results := [.lit (.bool true)], args := [d] }
  | _ => none }
def fnLosersOfEndRow : OpenClaim := { program := "ytpklfhefhfkkhaa", sum := "5b27346ce1d57b21dfeb1d2311608ec5d4c36cac188b588e1b7d7b79d72a6bac", func := "loop.example/treelocks/laws.FnLosersOfEnd", spec := "fnLosersOfEnd", apart := false }
def FnLosersOfEndSaid : Prop := fnLosersOfEndRow.holds Try.pinned (OpenSpec.ofChange fnLosersOfEndSpec)

/-- ITS FALSE NEIGHBOUR: 'it returns false'. Refute it at one input. -/
def fnLosersOfEndWrong : ChangeSpec := { name := "fnLosersOfEnd", fn := fun _ => fun
  | [d] => { results := [.lit (.bool false)], args := [d] }
  | _ => none }
def FnLosersOfEndWrongFalsely : Prop := fnLosersOfEndRow.holds Try.pinned (OpenSpec.ofChange fnLosersOfEndWrong)

/- THE SECOND FORM. 'bulk': how many values and letters a reading holds, each counted each time it is reached (what is shared counts as often as it is met; a slice's spare places count too). A statement '..UptoSaid' is the law's where the arguments, and the package variables that the reading takes, are together of bulk at most 1048576: NARROWER than '..Said'. Prove '..Said' where nothing that the law and all that it calls make is longer than what came in: it says more and counts as full. Else prove '..UptoSaid'. A law counts once. -/
mutual
def uptoBulk {H : Type} : DataW H → Nat
  | .lit (.string bytes) => bytes.length + 1
  | .lit _ => 1
  | .nil => 1
  | .ptr d => uptoBulk d + 1
  | .slice elems spare => uptoBulkAll elems + uptoBulkAll spare + 1
  | .agg parts => uptoBulkAll parts + 1
  | .iface _ d => uptoBulk d + 1
  | .map entries => uptoBulkEntries entries + 1
  | .held _ => 1
def uptoBulkAll {H : Type} : List (DataW H) → Nat
  | [] => 0
  | d :: r => uptoBulk d + uptoBulkAll r
def uptoBulkEntries {H : Type} : List (Lit × DataW H) → Nat
  | [] => 0
  | x :: r => uptoBulkEntry x + uptoBulkEntries r
def uptoBulkEntry {H : Type} : Lit × DataW H → Nat
  | (.string bytes, d) => bytes.length + uptoBulk d + 1
  | (_, d) => uptoBulk d + 1
 end
def uptoSmall : (H : Type) → List (DataW H) → Bool := fun _ ds => decide (uptoBulkAll ds ≤ 1048576)
def OpenSpec.upto (s : _root_.Go.ChangeSpec) : _root_.Go.OpenSpec := { _root_.Go.OpenSpec.ofChange s with cond := some uptoSmall }

/-- 'laws.FnValidLog', WHERE WHAT IT READS IS OF BULK AT MOST 1048576: true; the input reads as it did. -/
def fnValidLogUptoRow : OpenClaim := { program := "ytpklfhefhfkkhaa", sum := "5b27346ce1d57b21dfeb1d2311608ec5d4c36cac188b588e1b7d7b79d72a6bac", func := "loop.example/treelocks/laws.FnValidLog", spec := "fnValidLog", apart := false, narrowed := true }
def FnValidLogUptoSaid : Prop := fnValidLogUptoRow.holds Try.pinned (OpenSpec.upto fnValidLogSpec)

/-- 'laws.FnValidLogEnd', WHERE WHAT IT READS IS OF BULK AT MOST 1048576: true; the input reads as it did. -/
def fnValidLogEndUptoRow : OpenClaim := { program := "ytpklfhefhfkkhaa", sum := "5b27346ce1d57b21dfeb1d2311608ec5d4c36cac188b588e1b7d7b79d72a6bac", func := "loop.example/treelocks/laws.FnValidLogEnd", spec := "fnValidLogEnd", apart := false, narrowed := true }
def FnValidLogEndUptoSaid : Prop := fnValidLogEndUptoRow.holds Try.pinned (OpenSpec.upto fnValidLogEndSpec)

/-- 'laws.FnExactValidLog', WHERE WHAT IT READS IS OF BULK AT MOST 1048576: true; the input reads as it did. -/
def fnExactValidLogUptoRow : OpenClaim := { program := "ytpklfhefhfkkhaa", sum := "5b27346ce1d57b21dfeb1d2311608ec5d4c36cac188b588e1b7d7b79d72a6bac", func := "loop.example/treelocks/laws.FnExactValidLog", spec := "fnExactValidLog", apart := false, narrowed := true }
def FnExactValidLogUptoSaid : Prop := fnExactValidLogUptoRow.holds Try.pinned (OpenSpec.upto fnExactValidLogSpec)

/-- 'laws.FnRedoLog', WHERE WHAT IT READS IS OF BULK AT MOST 1048576: true; the input reads as it did. -/
def fnRedoLogUptoRow : OpenClaim := { program := "ytpklfhefhfkkhaa", sum := "5b27346ce1d57b21dfeb1d2311608ec5d4c36cac188b588e1b7d7b79d72a6bac", func := "loop.example/treelocks/laws.FnRedoLog", spec := "fnRedoLog", apart := false, narrowed := true }
def FnRedoLogUptoSaid : Prop := fnRedoLogUptoRow.holds Try.pinned (OpenSpec.upto fnRedoLogSpec)

/-- 'laws.FnRedoLogEnd', WHERE WHAT IT READS IS OF BULK AT MOST 1048576: true; the input reads as it did. -/
def fnRedoLogEndUptoRow : OpenClaim := { program := "ytpklfhefhfkkhaa", sum := "5b27346ce1d57b21dfeb1d2311608ec5d4c36cac188b588e1b7d7b79d72a6bac", func := "loop.example/treelocks/laws.FnRedoLogEnd", spec := "fnRedoLogEnd", apart := false, narrowed := true }
def FnRedoLogEndUptoSaid : Prop := fnRedoLogEndUptoRow.holds Try.pinned (OpenSpec.upto fnRedoLogEndSpec)

/-- 'laws.FnRedoLogTwice', WHERE WHAT IT READS IS OF BULK AT MOST 1048576: true; the input reads as it did. -/
def fnRedoLogTwiceUptoRow : OpenClaim := { program := "ytpklfhefhfkkhaa", sum := "5b27346ce1d57b21dfeb1d2311608ec5d4c36cac188b588e1b7d7b79d72a6bac", func := "loop.example/treelocks/laws.FnRedoLogTwice", spec := "fnRedoLogTwice", apart := false, narrowed := true }
def FnRedoLogTwiceUptoSaid : Prop := fnRedoLogTwiceUptoRow.holds Try.pinned (OpenSpec.upto fnRedoLogTwiceSpec)

/-- 'laws.FnLosersOfEnd', WHERE WHAT IT READS IS OF BULK AT MOST 1048576: true; the input reads as it did. -/
def fnLosersOfEndUptoRow : OpenClaim := { program := "ytpklfhefhfkkhaa", sum := "5b27346ce1d57b21dfeb1d2311608ec5d4c36cac188b588e1b7d7b79d72a6bac", func := "loop.example/treelocks/laws.FnLosersOfEnd", spec := "fnLosersOfEnd", apart := false, narrowed := true }
def FnLosersOfEndUptoSaid : Prop := fnLosersOfEndUptoRow.holds Try.pinned (OpenSpec.upto fnLosersOfEndSpec)

end Rows
end Go.Proofs.Ytpklfhefhfkkhaa
