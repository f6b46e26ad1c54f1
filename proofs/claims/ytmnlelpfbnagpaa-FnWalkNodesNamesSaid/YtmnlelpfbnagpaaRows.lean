/-
  No cell of these rows narrows 'for every input' (looked for: loops, veiled, ifaces, maps, wideKeys, modest, calm, conditions, laid).
  DERIVED. THE GIVEN ROWS OF THIS SEAT. 9 by the template 'for every input the law returns true; each argument reads behind the call as it read before'; 0 by the template 'total and deterministic' (their statements: YtmnlelpfbnagpaaTotals.lean).
  GIVEN WITH THE SEED: the statements are not yours to turn. If you find one false, say at which input.
  Laid BY PROGRAM, IN A SANDBOX (cutbox-rows.mjs): the forced cells as the released guide's own fill.sh prints them over the translation 22672ed07a0a6912… (all of the seat's roots in one cut). By AI agents, Wed Nov 11 2026. No macro, syntax, notation, axiom, sorry.
-/
import Derived.Test.YtmnlelpfbnagpaaChecked
import GoSem.Claim
import GoSem.ClaimJoined
import GoSem.ClaimMapViews
import Derived.JoinedTies
import Derived.KernelRfl
namespace Go.Proofs.Ytmnlelpfbnagpaa
/- THE CELL 'sum', in the pinned program and in every row, IS THE sha256 OF THE DUMP (.gsa) THAT YtmnlelpfbnagpaaProg.lean LOADS. Nothing in Lean hashes anything: it is a label: what it is worth is what the hold of that sum in a sandbox is worth. -/
noncomputable def Try.pinned : Pinned := { name := "ytmnlelpfbnagpaa", sum := "22672ed07a0a6912f7233b61f33b5805f6dfd9a889502357a0c0d4c30d884294", checked := Try.checked }
namespace Rows
def none {H : Type} : Left H := { results := [], args := [] }

/-- 'laws.FnResolvePathTop': WHATEVER THE INPUT: true; the input reads as it did. -/
def fnResolvePathTopSpec : ChangeSpec := { name := "fnResolvePathTop", fn := fun _ => fun
  | [d] => { results := [.lit (.bool true)], args := [d] }
  | _ => none }
def fnResolvePathTopRow : OpenClaim := { program := "ytmnlelpfbnagpaa", sum := "22672ed07a0a6912f7233b61f33b5805f6dfd9a889502357a0c0d4c30d884294", func := "loop.example/treelocks/laws.FnResolvePathTop", spec := "fnResolvePathTop", inPlace := ["internal/bytealg.IndexByteString", "internal/bytealg.IndexString"], named := ["internal/bytealg.MaxLen"], apart := false }
def FnResolvePathTopSaid : Prop := fnResolvePathTopRow.holds Try.pinned (OpenSpec.ofChange fnResolvePathTopSpec)

/-- ITS FALSE NEIGHBOUR: 'it returns false'. Refute it at one input. -/
def fnResolvePathTopWrong : ChangeSpec := { name := "fnResolvePathTop", fn := fun _ => fun
  | [d] => { results := [.lit (.bool false)], args := [d] }
  | _ => none }
def FnResolvePathTopWrongFalsely : Prop := fnResolvePathTopRow.holds Try.pinned (OpenSpec.ofChange fnResolvePathTopWrong)

/-- 'laws.FnPathText': WHATEVER THE INPUT: true; the input reads as it did. -/
def fnPathTextSpec : ChangeSpec := { name := "fnPathText", fn := fun _ => fun
  | [d] => { results := [.lit (.bool true)], args := [d] }
  | _ => none }
def fnPathTextRow : OpenClaim := { program := "ytmnlelpfbnagpaa", sum := "22672ed07a0a6912f7233b61f33b5805f6dfd9a889502357a0c0d4c30d884294", func := "loop.example/treelocks/laws.FnPathText", spec := "fnPathText", inPlace := ["internal/abi.NoEscape", "internal/bytealg.IndexByteString", "internal/bytealg.IndexString"], named := ["internal/bytealg.MaxLen"], apart := false }
def FnPathTextSaid : Prop := fnPathTextRow.holds Try.pinned (OpenSpec.ofChange fnPathTextSpec)

/-- ITS FALSE NEIGHBOUR: 'it returns false'. Refute it at one input. -/
def fnPathTextWrong : ChangeSpec := { name := "fnPathText", fn := fun _ => fun
  | [d] => { results := [.lit (.bool false)], args := [d] }
  | _ => none }
def FnPathTextWrongFalsely : Prop := fnPathTextRow.holds Try.pinned (OpenSpec.ofChange fnPathTextWrong)

/-- 'laws.FnResolvePath': WHATEVER THE INPUT: true; the input reads as it did. -/
def fnResolvePathSpec : ChangeSpec := { name := "fnResolvePath", fn := fun _ => fun
  | [d] => { results := [.lit (.bool true)], args := [d] }
  | _ => none }
def fnResolvePathRow : OpenClaim := { program := "ytmnlelpfbnagpaa", sum := "22672ed07a0a6912f7233b61f33b5805f6dfd9a889502357a0c0d4c30d884294", func := "loop.example/treelocks/laws.FnResolvePath", spec := "fnResolvePath", inPlace := ["internal/bytealg.IndexByteString", "internal/bytealg.IndexString", "internal/abi.NoEscape"], named := ["internal/bytealg.MaxLen"], apart := false }
def FnResolvePathSaid : Prop := fnResolvePathRow.holds Try.pinned (OpenSpec.ofChange fnResolvePathSpec)

/-- ITS FALSE NEIGHBOUR: 'it returns false'. Refute it at one input. -/
def fnResolvePathWrong : ChangeSpec := { name := "fnResolvePath", fn := fun _ => fun
  | [d] => { results := [.lit (.bool false)], args := [d] }
  | _ => none }
def FnResolvePathWrongFalsely : Prop := fnResolvePathRow.holds Try.pinned (OpenSpec.ofChange fnResolvePathWrong)

/-- 'laws.FnAddNodePath': WHATEVER THE INPUT: true; the input reads as it did. -/
def fnAddNodePathSpec : ChangeSpec := { name := "fnAddNodePath", fn := fun _ => fun
  | [d] => { results := [.lit (.bool true)], args := [d] }
  | _ => none }
def fnAddNodePathRow : OpenClaim := { program := "ytmnlelpfbnagpaa", sum := "22672ed07a0a6912f7233b61f33b5805f6dfd9a889502357a0c0d4c30d884294", func := "loop.example/treelocks/laws.FnAddNodePath", spec := "fnAddNodePath", inPlace := ["internal/abi.NoEscape", "internal/bytealg.IndexByteString", "internal/bytealg.IndexString"], named := ["internal/bytealg.MaxLen"], apart := false }
def FnAddNodePathSaid : Prop := fnAddNodePathRow.holds Try.pinned (OpenSpec.ofChange fnAddNodePathSpec)

/-- ITS FALSE NEIGHBOUR: 'it returns false'. Refute it at one input. -/
def fnAddNodePathWrong : ChangeSpec := { name := "fnAddNodePath", fn := fun _ => fun
  | [d] => { results := [.lit (.bool false)], args := [d] }
  | _ => none }
def FnAddNodePathWrongFalsely : Prop := fnAddNodePathRow.holds Try.pinned (OpenSpec.ofChange fnAddNodePathWrong)

/-- 'laws.FnDropNodeResolve': WHATEVER THE INPUT: true; the input reads as it did. -/
def fnDropNodeResolveSpec : ChangeSpec := { name := "fnDropNodeResolve", fn := fun _ => fun
  | [d] => { results := [.lit (.bool true)], args := [d] }
  | _ => none }
def fnDropNodeResolveRow : OpenClaim := { program := "ytmnlelpfbnagpaa", sum := "22672ed07a0a6912f7233b61f33b5805f6dfd9a889502357a0c0d4c30d884294", func := "loop.example/treelocks/laws.FnDropNodeResolve", spec := "fnDropNodeResolve", inPlace := ["internal/bytealg.abigen_runtime_cmpstring", "internal/abi.NoEscape", "internal/bytealg.IndexByteString", "internal/bytealg.IndexString"], unfollowed := true, recurses := true, named := ["internal/bytealg.MaxLen"], apart := false }
def FnDropNodeResolveSaid : Prop := fnDropNodeResolveRow.holds Try.pinned (OpenSpec.ofChange fnDropNodeResolveSpec)

/-- ITS FALSE NEIGHBOUR: 'it returns false'. Refute it at one input. -/
def fnDropNodeResolveWrong : ChangeSpec := { name := "fnDropNodeResolve", fn := fun _ => fun
  | [d] => { results := [.lit (.bool false)], args := [d] }
  | _ => none }
def FnDropNodeResolveWrongFalsely : Prop := fnDropNodeResolveRow.holds Try.pinned (OpenSpec.ofChange fnDropNodeResolveWrong)

/-- 'laws.FnWalkNodesPart': WHATEVER THE INPUT: true; the input reads as it did. -/
def fnWalkNodesPartSpec : ChangeSpec := { name := "fnWalkNodesPart", fn := fun _ => fun
  | [d] => { results := [.lit (.bool true)], args := [d] }
  | _ => none }
def fnWalkNodesPartRow : OpenClaim := { program := "ytmnlelpfbnagpaa", sum := "22672ed07a0a6912f7233b61f33b5805f6dfd9a889502357a0c0d4c30d884294", func := "loop.example/treelocks/laws.FnWalkNodesPart", spec := "fnWalkNodesPart", inPlace := ["internal/bytealg.abigen_runtime_cmpstring"], unfollowed := true, recurses := true, apart := false }
def FnWalkNodesPartSaid : Prop := fnWalkNodesPartRow.holds Try.pinned (OpenSpec.ofChange fnWalkNodesPartSpec)

/-- ITS FALSE NEIGHBOUR: 'it returns false'. Refute it at one input. -/
def fnWalkNodesPartWrong : ChangeSpec := { name := "fnWalkNodesPart", fn := fun _ => fun
  | [d] => { results := [.lit (.bool false)], args := [d] }
  | _ => none }
def FnWalkNodesPartWrongFalsely : Prop := fnWalkNodesPartRow.holds Try.pinned (OpenSpec.ofChange fnWalkNodesPartWrong)

/-- 'laws.FnWalkNodesNames': WHATEVER THE INPUT: true; the input reads as it did. -/
def fnWalkNodesNamesSpec : ChangeSpec := { name := "fnWalkNodesNames", fn := fun _ => fun
  | [d] => { results := [.lit (.bool true)], args := [d] }
  | _ => none }
def fnWalkNodesNamesRow : OpenClaim := { program := "ytmnlelpfbnagpaa", sum := "22672ed07a0a6912f7233b61f33b5805f6dfd9a889502357a0c0d4c30d884294", func := "loop.example/treelocks/laws.FnWalkNodesNames", spec := "fnWalkNodesNames", inPlace := ["internal/bytealg.abigen_runtime_cmpstring"], unfollowed := true, recurses := true, apart := false }
def FnWalkNodesNamesSaid : Prop := fnWalkNodesNamesRow.holds Try.pinned (OpenSpec.ofChange fnWalkNodesNamesSpec)

/-- ITS FALSE NEIGHBOUR: 'it returns false'. Refute it at one input. -/
def fnWalkNodesNamesWrong : ChangeSpec := { name := "fnWalkNodesNames", fn := fun _ => fun
  | [d] => { results := [.lit (.bool false)], args := [d] }
  | _ => none }
def FnWalkNodesNamesWrongFalsely : Prop := fnWalkNodesNamesRow.holds Try.pinned (OpenSpec.ofChange fnWalkNodesNamesWrong)

/-- 'laws.FnDropNodeWalk': WHATEVER THE INPUT: true; the input reads as it did. -/
def fnDropNodeWalkSpec : ChangeSpec := { name := "fnDropNodeWalk", fn := fun _ => fun
  | [d] => { results := [.lit (.bool true)], args := [d] }
  | _ => none }
def fnDropNodeWalkRow : OpenClaim := { program := "ytmnlelpfbnagpaa", sum := "22672ed07a0a6912f7233b61f33b5805f6dfd9a889502357a0c0d4c30d884294", func := "loop.example/treelocks/laws.FnDropNodeWalk", spec := "fnDropNodeWalk", inPlace := ["internal/bytealg.abigen_runtime_cmpstring"], unfollowed := true, recurses := true, apart := false }
def FnDropNodeWalkSaid : Prop := fnDropNodeWalkRow.holds Try.pinned (OpenSpec.ofChange fnDropNodeWalkSpec)

/-- ITS FALSE NEIGHBOUR: 'it returns false'. Refute it at one input. -/
def fnDropNodeWalkWrong : ChangeSpec := { name := "fnDropNodeWalk", fn := fun _ => fun
  | [d] => { results := [.lit (.bool false)], args := [d] }
  | _ => none }
def FnDropNodeWalkWrongFalsely : Prop := fnDropNodeWalkRow.holds Try.pinned (OpenSpec.ofChange fnDropNodeWalkWrong)

/-- 'laws.FnWalkNodes': WHATEVER THE INPUT: true; the input reads as it did. -/
def fnWalkNodesSpec : ChangeSpec := { name := "fnWalkNodes", fn := fun _ => fun
  | [d] => { results := [.lit (.bool true)], args := [d] }
  | _ => none }
def fnWalkNodesRow : OpenClaim := { program := "ytmnlelpfbnagpaa", sum := "22672ed07a0a6912f7233b61f33b5805f6dfd9a889502357a0c0d4c30d884294", func := "loop.example/treelocks/laws.FnWalkNodes", spec := "fnWalkNodes", inPlace := ["internal/bytealg.abigen_runtime_cmpstring"], unfollowed := true, recurses := true, apart := false }
def FnWalkNodesSaid : Prop := fnWalkNodesRow.holds Try.pinned (OpenSpec.ofChange fnWalkNodesSpec)

/-- ITS FALSE NEIGHBOUR: 'it returns false'. Refute it at one input. -/
def fnWalkNodesWrong : ChangeSpec := { name := "fnWalkNodes", fn := fun _ => fun
  | [d] => { results := [.lit (.bool false)], args := [d] }
  | _ => none }
def FnWalkNodesWrongFalsely : Prop := fnWalkNodesRow.holds Try.pinned (OpenSpec.ofChange fnWalkNodesWrong)

/- THE SECOND FORM. 'bulk': how many values and letters a reading holds, each counted each time it is reached (what is shared counts as often as it is met; a slice's spare places count too). A statement '..UptoSaid' is the law's where the arguments, and the package variables that the reading takes, are together of bulk at most 1048576: NARROWER than '..Said'. Prove '..Said' where nothing that the law and all that it calls make is longer than what came in: it says more and counts as full. Else prove '..UptoSaid'. A law counts once. -/
mutual
def uptoBulk {H : Type} : DataW H → Nat
  | .lit (.string bytes) => bytes.length + 1
  | .lit _ => 1
  | .nil => 1
  | .ptr d => uptoBulk d + 1
  | .slice elems spare => uptoBulkAll elems + uptoBulkAll spare + 1
  | .agg parts => uptoBulkAll parts + 1
  | .iface _ d => uptoBulk d + 1
  | .map entries => uptoBulkEntries entries + 1
  | .held _ => 1
def uptoBulkAll {H : Type} : List (DataW H) → Nat
  | [] => 0
  | d :: r => uptoBulk d + uptoBulkAll r
def uptoBulkEntries {H : Type} : List (Lit × DataW H) → Nat
  | [] => 0
  | x :: r => uptoBulkEntry x + uptoBulkEntries r
def uptoBulkEntry {H : Type} : Lit × DataW H → Nat
  | (.string bytes, d) => bytes.length + uptoBulk d + 1
  | (_, d) => uptoBulk d + 1
 end
def uptoSmall : (H : Type) → List (DataW H) → Bool := fun _ ds => decide (uptoBulkAll ds ≤ 1048576)
def OpenSpec.upto (s : _root_.Go.ChangeSpec) : _root_.Go.OpenSpec := { _root_.Go.OpenSpec.ofChange s with cond := some uptoSmall }

/-- 'laws.FnResolvePathTop', WHERE WHAT IT READS IS OF BULK AT MOST 1048576: true; the input reads as it did. -/
def fnResolvePathTopUptoRow : OpenClaim := { program := "ytmnlelpfbnagpaa", sum := "22672ed07a0a6912f7233b61f33b5805f6dfd9a889502357a0c0d4c30d884294", func := "loop.example/treelocks/laws.FnResolvePathTop", spec := "fnResolvePathTop", inPlace := ["internal/bytealg.IndexByteString", "internal/bytealg.IndexString"], named := ["internal/bytealg.MaxLen"], apart := false, narrowed := true }
def FnResolvePathTopUptoSaid : Prop := fnResolvePathTopUptoRow.holds Try.pinned (OpenSpec.upto fnResolvePathTopSpec)

/-- 'laws.FnPathText', WHERE WHAT IT READS IS OF BULK AT MOST 1048576: true; the input reads as it did. -/
def fnPathTextUptoRow : OpenClaim := { program := "ytmnlelpfbnagpaa", sum := "22672ed07a0a6912f7233b61f33b5805f6dfd9a889502357a0c0d4c30d884294", func := "loop.example/treelocks/laws.FnPathText", spec := "fnPathText", inPlace := ["internal/abi.NoEscape", "internal/bytealg.IndexByteString", "internal/bytealg.IndexString"], named := ["internal/bytealg.MaxLen"], apart := false, narrowed := true }
def FnPathTextUptoSaid : Prop := fnPathTextUptoRow.holds Try.pinned (OpenSpec.upto fnPathTextSpec)

/-- 'laws.FnResolvePath', WHERE WHAT IT READS IS OF BULK AT MOST 1048576: true; the input reads as it did. -/
def fnResolvePathUptoRow : OpenClaim := { program := "ytmnlelpfbnagpaa", sum := "22672ed07a0a6912f7233b61f33b5805f6dfd9a889502357a0c0d4c30d884294", func := "loop.example/treelocks/laws.FnResolvePath", spec := "fnResolvePath", inPlace := ["internal/bytealg.IndexByteString", "internal/bytealg.IndexString", "internal/abi.NoEscape"], named := ["internal/bytealg.MaxLen"], apart := false, narrowed := true }
def FnResolvePathUptoSaid : Prop := fnResolvePathUptoRow.holds Try.pinned (OpenSpec.upto fnResolvePathSpec)

/-- 'laws.FnAddNodePath', WHERE WHAT IT READS IS OF BULK AT MOST 1048576: true; the input reads as it did. -/
def fnAddNodePathUptoRow : OpenClaim := { program := "ytmnlelpfbnagpaa", sum := "22672ed07a0a6912f7233b61f33b5805f6dfd9a889502357a0c0d4c30d884294", func := "loop.example/treelocks/laws.FnAddNodePath", spec := "fnAddNodePath", inPlace := ["internal/abi.NoEscape", "internal/bytealg.IndexByteString", "internal/bytealg.IndexString"], named := ["internal/bytealg.MaxLen"], apart := false, narrowed := true }
def FnAddNodePathUptoSaid : Prop := fnAddNodePathUptoRow.holds Try.pinned (OpenSpec.upto fnAddNodePathSpec)

/-- 'laws.FnDropNodeResolve', WHERE WHAT IT READS IS OF BULK AT MOST 1048576: true; the input reads as it did. -/
def fnDropNodeResolveUptoRow : OpenClaim := { program := "ytmnlelpfbnagpaa", sum := "22672ed07a0a6912f7233b61f33b5805f6dfd9a889502357a0c0d4c30d884294", func := "loop.example/treelocks/laws.FnDropNodeResolve", spec := "fnDropNodeResolve", inPlace := ["internal/bytealg.abigen_runtime_cmpstring", "internal/abi.NoEscape", "internal/bytealg.IndexByteString", "internal/bytealg.IndexString"], unfollowed := true, recurses := true, named := ["internal/bytealg.MaxLen"], apart := false, narrowed := true }
def FnDropNodeResolveUptoSaid : Prop := fnDropNodeResolveUptoRow.holds Try.pinned (OpenSpec.upto fnDropNodeResolveSpec)

/-- 'laws.FnWalkNodesPart', WHERE WHAT IT READS IS OF BULK AT MOST 1048576: true; the input reads as it did. -/
def fnWalkNodesPartUptoRow : OpenClaim := { program := "ytmnlelpfbnagpaa", sum := "22672ed07a0a6912f7233b61f33b5805f6dfd9a889502357a0c0d4c30d884294", func := "loop.example/treelocks/laws.FnWalkNodesPart", spec := "fnWalkNodesPart", inPlace := ["internal/bytealg.abigen_runtime_cmpstring"], unfollowed := true, recurses := true, apart := false, narrowed := true }
def FnWalkNodesPartUptoSaid : Prop := fnWalkNodesPartUptoRow.holds Try.pinned (OpenSpec.upto fnWalkNodesPartSpec)

/-- 'laws.FnWalkNodesNames', WHERE WHAT IT READS IS OF BULK AT MOST 1048576: true; the input reads as it did. -/
def fnWalkNodesNamesUptoRow : OpenClaim := { program := "ytmnlelpfbnagpaa", sum := "22672ed07a0a6912f7233b61f33b5805f6dfd9a889502357a0c0d4c30d884294", func := "loop.example/treelocks/laws.FnWalkNodesNames", spec := "fnWalkNodesNames", inPlace := ["internal/bytealg.abigen_runtime_cmpstring"], unfollowed := true, recurses := true, apart := false, narrowed := true }
def FnWalkNodesNamesUptoSaid : Prop := fnWalkNodesNamesUptoRow.holds Try.pinned (OpenSpec.upto fnWalkNodesNamesSpec)

/-- 'laws.FnDropNodeWalk', WHERE WHAT IT READS IS OF BULK AT MOST 1048576: true; the input reads as it did. -/
def fnDropNodeWalkUptoRow : OpenClaim := { program := "ytmnlelpfbnagpaa", sum := "22672ed07a0a6912f7233b61f33b5805f6dfd9a889502357a0c0d4c30d884294", func := "loop.example/treelocks/laws.FnDropNodeWalk", spec := "fnDropNodeWalk", inPlace := ["internal/bytealg.abigen_runtime_cmpstring"], unfollowed := true, recurses := true, apart := false, narrowed := true }
def FnDropNodeWalkUptoSaid : Prop := fnDropNodeWalkUptoRow.holds Try.pinned (OpenSpec.upto fnDropNodeWalkSpec)

/-- 'laws.FnWalkNodes', WHERE WHAT IT READS IS OF BULK AT MOST 1048576: true; the input reads as it did. -/
def fnWalkNodesUptoRow : OpenClaim := { program := "ytmnlelpfbnagpaa", sum := "22672ed07a0a6912f7233b61f33b5805f6dfd9a889502357a0c0d4c30d884294", func := "loop.example/treelocks/laws.FnWalkNodes", spec := "fnWalkNodes", inPlace := ["internal/bytealg.abigen_runtime_cmpstring"], unfollowed := true, recurses := true, apart := false, narrowed := true }
def FnWalkNodesUptoSaid : Prop := fnWalkNodesUptoRow.holds Try.pinned (OpenSpec.upto fnWalkNodesSpec)

end Rows
end Go.Proofs.Ytmnlelpfbnagpaa
