/-
  No cell of these rows narrows 'for every input' (looked for: loops, veiled, ifaces, maps, wideKeys, modest, calm, conditions, laid).
  DERIVED. THE GIVEN ROWS OF THIS SEAT. 6 by the template 'for every input the law returns true; each argument reads behind the call as it read before'; 0 by the template 'total and deterministic' (their statements: YtmnkcjlhkmfccaaTotals.lean).
  GIVEN WITH THE SEED: the statements are not yours to turn. If you find one false, say at which input.
  Laid BY PROGRAM, IN A SANDBOX (cutbox-rows.mjs): the forced cells as the released guide's own fill.sh prints them over the translation e953d8b652d76a5c… (all of the seat's roots in one cut). By AI agents, Wed Nov 11 2026. No macro, syntax, notation, axiom, sorry.
-/
import Derived.Test.YtmnkcjlhkmfccaaChecked
import GoSem.Claim
import GoSem.ClaimJoined
import GoSem.ClaimMapViews
import Derived.JoinedTies
import Derived.KernelRfl
namespace Go.Proofs.Ytmnkcjlhkmfccaa
/- THE CELL 'sum', in the pinned program and in every row, IS THE sha256 OF THE DUMP (.gsa) THAT YtmnkcjlhkmfccaaProg.lean LOADS. Nothing in Lean hashes anything: it is a label: what it is worth is what the hold of that sum in a sandbox is worth. -/
noncomputable def Try.pinned : Pinned := { name := "ytmnkcjlhkmfccaa", sum := "e953d8b652d76a5c86c23f1acea0a4e6f23ce86959a13d20d51aab0db3d17bb6", checked := Try.checked }
namespace Rows
def none {H : Type} : Left H := { results := [], args := [] }

/-- 'laws.FnExactConstants': WHATEVER THE INPUT: true; the input reads as it did. -/
def fnExactConstantsSpec : ChangeSpec := { name := "fnExactConstants", fn := fun _ => fun
  | [] => { results := [.lit (.bool true)], args := [] }
  | _ => none }
def fnExactConstantsRow : OpenClaim := { program := "ytmnkcjlhkmfccaa", sum := "e953d8b652d76a5c86c23f1acea0a4e6f23ce86959a13d20d51aab0db3d17bb6", func := "loop.example/pagetree/laws.FnExactConstants", spec := "fnExactConstants", apart := false }
def FnExactConstantsSaid : Prop := fnExactConstantsRow.holds Try.pinned (OpenSpec.ofChange fnExactConstantsSpec)

/-- ITS FALSE NEIGHBOUR: 'it returns false'. Refute it at one input. -/
def fnExactConstantsWrong : ChangeSpec := { name := "fnExactConstants", fn := fun _ => fun
  | [] => { results := [.lit (.bool false)], args := [] }
  | _ => none }
def FnExactConstantsWrongFalsely : Prop := fnExactConstantsRow.holds Try.pinned (OpenSpec.ofChange fnExactConstantsWrong)

/-- 'laws.FnExactCountLoaded': WHATEVER THE INPUT: true; the input reads as it did. -/
def fnExactCountLoadedSpec : ChangeSpec := { name := "fnExactCountLoaded", fn := fun _ => fun
  | [d] => { results := [.lit (.bool true)], args := [d] }
  | _ => none }
def fnExactCountLoadedRow : OpenClaim := { program := "ytmnkcjlhkmfccaa", sum := "e953d8b652d76a5c86c23f1acea0a4e6f23ce86959a13d20d51aab0db3d17bb6", func := "loop.example/pagetree/laws.FnExactCountLoaded", spec := "fnExactCountLoaded", apart := false }
def FnExactCountLoadedSaid : Prop := fnExactCountLoadedRow.holds Try.pinned (OpenSpec.ofChange fnExactCountLoadedSpec)

/-- ITS FALSE NEIGHBOUR: 'it returns false'. Refute it at one input. -/
def fnExactCountLoadedWrong : ChangeSpec := { name := "fnExactCountLoaded", fn := fun _ => fun
  | [d] => { results := [.lit (.bool false)], args := [d] }
  | _ => none }
def FnExactCountLoadedWrongFalsely : Prop := fnExactCountLoadedRow.holds Try.pinned (OpenSpec.ofChange fnExactCountLoadedWrong)

/-- 'laws.FnExactValidKeys': WHATEVER THE INPUT: true; the input reads as it did. -/
def fnExactValidKeysSpec : ChangeSpec := { name := "fnExactValidKeys", fn := fun _ => fun
  | [d] => { results := [.lit (.bool true)], args := [d] }
  | _ => none }
def fnExactValidKeysRow : OpenClaim := { program := "ytmnkcjlhkmfccaa", sum := "e953d8b652d76a5c86c23f1acea0a4e6f23ce86959a13d20d51aab0db3d17bb6", func := "loop.example/pagetree/laws.FnExactValidKeys", spec := "fnExactValidKeys", apart := false }
def FnExactValidKeysSaid : Prop := fnExactValidKeysRow.holds Try.pinned (OpenSpec.ofChange fnExactValidKeysSpec)

/-- ITS FALSE NEIGHBOUR: 'it returns false'. Refute it at one input. -/
def fnExactValidKeysWrong : ChangeSpec := { name := "fnExactValidKeys", fn := fun _ => fun
  | [d] => { results := [.lit (.bool false)], args := [d] }
  | _ => none }
def FnExactValidKeysWrongFalsely : Prop := fnExactValidKeysRow.holds Try.pinned (OpenSpec.ofChange fnExactValidKeysWrong)

/-- 'laws.FnCountLoaded': WHATEVER THE INPUT: true; the input reads as it did. -/
def fnCountLoadedSpec : ChangeSpec := { name := "fnCountLoaded", fn := fun _ => fun
  | [d] => { results := [.lit (.bool true)], args := [d] }
  | _ => none }
def fnCountLoadedRow : OpenClaim := { program := "ytmnkcjlhkmfccaa", sum := "e953d8b652d76a5c86c23f1acea0a4e6f23ce86959a13d20d51aab0db3d17bb6", func := "loop.example/pagetree/laws.FnCountLoaded", spec := "fnCountLoaded", apart := false }
def FnCountLoadedSaid : Prop := fnCountLoadedRow.holds Try.pinned (OpenSpec.ofChange fnCountLoadedSpec)

/-- ITS FALSE NEIGHBOUR: 'it returns false'. Refute it at one input. -/
def fnCountLoadedWrong : ChangeSpec := { name := "fnCountLoaded", fn := fun _ => fun
  | [d] => { results := [.lit (.bool false)], args := [d] }
  | _ => none }
def FnCountLoadedWrongFalsely : Prop := fnCountLoadedRow.holds Try.pinned (OpenSpec.ofChange fnCountLoadedWrong)

/-- 'laws.FnCountLoadedLeaves': WHATEVER THE INPUT: true; the input reads as it did. -/
def fnCountLoadedLeavesSpec : ChangeSpec := { name := "fnCountLoadedLeaves", fn := fun _ => fun
  | [d] => { results := [.lit (.bool true)], args := [d] }
  | _ => none }
def fnCountLoadedLeavesRow : OpenClaim := { program := "ytmnkcjlhkmfccaa", sum := "e953d8b652d76a5c86c23f1acea0a4e6f23ce86959a13d20d51aab0db3d17bb6", func := "loop.example/pagetree/laws.FnCountLoadedLeaves", spec := "fnCountLoadedLeaves", apart := false }
def FnCountLoadedLeavesSaid : Prop := fnCountLoadedLeavesRow.holds Try.pinned (OpenSpec.ofChange fnCountLoadedLeavesSpec)

/-- ITS FALSE NEIGHBOUR: 'it returns false'. Refute it at one input. -/
def fnCountLoadedLeavesWrong : ChangeSpec := { name := "fnCountLoadedLeaves", fn := fun _ => fun
  | [d] => { results := [.lit (.bool false)], args := [d] }
  | _ => none }
def FnCountLoadedLeavesWrongFalsely : Prop := fnCountLoadedLeavesRow.holds Try.pinned (OpenSpec.ofChange fnCountLoadedLeavesWrong)

/-- 'laws.FnExactValidOps': WHATEVER THE INPUT: true; the input reads as it did. -/
def fnExactValidOpsSpec : ChangeSpec := { name := "fnExactValidOps", fn := fun _ => fun
  | [d] => { results := [.lit (.bool true)], args := [d] }
  | _ => none }
def fnExactValidOpsRow : OpenClaim := { program := "ytmnkcjlhkmfccaa", sum := "e953d8b652d76a5c86c23f1acea0a4e6f23ce86959a13d20d51aab0db3d17bb6", func := "loop.example/pagetree/laws.FnExactValidOps", spec := "fnExactValidOps", apart := false }
def FnExactValidOpsSaid : Prop := fnExactValidOpsRow.holds Try.pinned (OpenSpec.ofChange fnExactValidOpsSpec)

/-- ITS FALSE NEIGHBOUR: 'it returns false'. Refute it at one input. -/
def fnExactValidOpsWrong : ChangeSpec := { name := "fnExactValidOps", fn := fun _ => fun
  | [d] => { results := [.lit (.bool false)], args := [d] }
  | _ => none }
def FnExactValidOpsWrongFalsely : Prop := fnExactValidOpsRow.holds Try.pinned (OpenSpec.ofChange fnExactValidOpsWrong)

/- THE SECOND FORM. 'bulk': how many values and letters a reading holds, each counted each time it is reached (what is shared counts as often as it is met; a slice's spare places count too). A statement '..UptoSaid' is the law's where the arguments, and the package variables that the reading takes, are together of bulk at most 1048576: NARROWER than '..Said'. Prove '..Said' where nothing that the law and all that it calls make is longer than what came in: it says more and counts as full. Else prove '..UptoSaid'. A law counts once. -/
mutual
def uptoBulk {H : Type} : DataW H → Nat
  | .lit (.string bytes) => bytes.length + 1
  | .lit _ => 1
  | .nil => 1
  | .ptr d => uptoBulk d + 1
  | .slice elems spare => uptoBulkAll elems + uptoBulkAll spare + 1
  | .agg parts => uptoBulkAll parts + 1
  | .iface _ d => uptoBulk d + 1
  | .map entries => uptoBulkEntries entries + 1
  | .held _ => 1
def uptoBulkAll {H : Type} : List (DataW H) → Nat
  | [] => 0
  | d :: r => uptoBulk d + uptoBulkAll r
def uptoBulkEntries {H : Type} : List (Lit × DataW H) → Nat
  | [] => 0
  | x :: r => uptoBulkEntry x + uptoBulkEntries r
def uptoBulkEntry {H : Type} : Lit × DataW H → Nat
  | (.string bytes, d) => bytes.length + uptoBulk d + 1
  | (_, d) => uptoBulk d + 1
 end
def uptoSmall : (H : Type) → List (DataW H) → Bool := fun _ ds => decide (uptoBulkAll ds ≤ 1048576)
def OpenSpec.upto (s : _root_.Go.ChangeSpec) : _root_.Go.OpenSpec := { _root_.Go.OpenSpec.ofChange s with cond := some uptoSmall }

/-- 'laws.FnExactConstants', WHERE WHAT IT READS IS OF BULK AT MOST 1048576: true; the input reads as it did. -/
def fnExactConstantsUptoRow : OpenClaim := { program := "ytmnkcjlhkmfccaa", sum := "e953d8b652d76a5c86c23f1acea0a4e6f23ce86959a13d20d51aab0db3d17bb6", func := "loop.example/pagetree/laws.FnExactConstants", spec := "fnExactConstants", apart := false, narrowed := true }
def FnExactConstantsUptoSaid : Prop := fnExactConstantsUptoRow.holds Try.pinned (OpenSpec.upto fnExactConstantsSpec)

/-- 'laws.FnExactCountLoaded', WHERE WHAT IT READS IS OF BULK AT MOST 1048576: true; the input reads as it did. -/
def fnExactCountLoadedUptoRow : OpenClaim := { program := "ytmnkcjlhkmfccaa", sum := "e953d8b652d76a5c86c23f1acea0a4e6f23ce86959a13d20d51aab0db3d17bb6", func := "loop.example/pagetree/laws.FnExactCountLoaded", spec := "fnExactCountLoaded", apart := false, narrowed := true }
def FnExactCountLoadedUptoSaid : Prop := fnExactCountLoadedUptoRow.holds Try.pinned (OpenSpec.upto fnExactCountLoadedSpec)

/-- 'laws.FnExactValidKeys', WHERE WHAT IT READS IS OF BULK AT MOST 1048576: true; the input reads as it did. -/
def fnExactValidKeysUptoRow : OpenClaim := { program := "ytmnkcjlhkmfccaa", sum := "e953d8b652d76a5c86c23f1acea0a4e6f23ce86959a13d20d51aab0db3d17bb6", func := "loop.example/pagetree/laws.FnExactValidKeys", spec := "fnExactValidKeys", apart := false, narrowed := true }
def FnExactValidKeysUptoSaid : Prop := fnExactValidKeysUptoRow.holds Try.pinned (OpenSpec.upto fnExactValidKeysSpec)

/-- 'laws.FnCountLoaded', WHERE WHAT IT READS IS OF BULK AT MOST 1048576: true; the input reads as it did. -/
def fnCountLoadedUptoRow : OpenClaim := { program := "ytmnkcjlhkmfccaa", sum := "e953d8b652d76a5c86c23f1acea0a4e6f23ce86959a13d20d51aab0db3d17bb6", func := "loop.example/pagetree/laws.FnCountLoaded", spec := "fnCountLoaded", apart := false, narrowed := true }
def FnCountLoadedUptoSaid : Prop := fnCountLoadedUptoRow.holds Try.pinned (OpenSpec.upto fnCountLoadedSpec)

/-- 'laws.FnCountLoadedLeaves', WHERE WHAT IT READS IS OF BULK AT MOST 1048576: true; the input reads as it did. -/
def fnCountLoadedLeavesUptoRow : OpenClaim := { program := "ytmnkcjlhkmfccaa", sum := "e953d8b652d76a5c86c23f1acea0a4e6f23ce86959a13d20d51aab0db3d17bb6", func := "loop.example/pagetree/laws.FnCountLoadedLeaves", spec := "fnCountLoadedLeaves", apart := false, narrowed := true }
def FnCountLoadedLeavesUptoSaid : Prop := fnCountLoadedLeavesUptoRow.holds Try.pinned (OpenSpec.upto fnCountLoadedLeavesSpec)

/-- 'laws.FnExactValidOps', WHERE WHAT IT READS IS OF BULK AT MOST 1048576: true; the input reads as it did. -/
def fnExactValidOpsUptoRow : OpenClaim := { program := "ytmnkcjlhkmfccaa", sum := "e953d8b652d76a5c86c23f1acea0a4e6f23ce86959a13d20d51aab0db3d17bb6", func := "loop.example/pagetree/laws.FnExactValidOps", spec := "fnExactValidOps", apart := false, narrowed := true }
def FnExactValidOpsUptoSaid : Prop := fnExactValidOpsUptoRow.holds Try.pinned (OpenSpec.upto fnExactValidOpsSpec)

end Rows
end Go.Proofs.Ytmnkcjlhkmfccaa
