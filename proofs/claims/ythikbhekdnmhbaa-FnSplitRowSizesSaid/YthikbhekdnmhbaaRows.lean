/-
  No cell of these rows narrows 'for every input' (looked for: loops, veiled, ifaces, maps, wideKeys, modest, calm, conditions, laid).
  DERIVED. THE GIVEN ROWS OF THIS SEAT. 24 by the template 'for every input the law returns true; each argument reads behind the call as it read before'; 0 by the template 'total and deterministic' (their statements: YthikbhekdnmhbaaTotals.lean).
  GIVEN WITH THE SEED: the statements are not yours to turn. If you find one false, say at which input.
  Laid BY PROGRAM, IN A SANDBOX (cutbox-rows.mjs): the forced cells as the released guide's own fill.sh prints them over the translation c70589cd5ad1ae84… (all of the seat's roots in one cut). By AI agents, Wed Nov 11 2026. No macro, syntax, notation, axiom, sorry.
-/
import Derived.Test.YthikbhekdnmhbaaChecked
import GoSem.Claim
import GoSem.ClaimJoined
import GoSem.ClaimMapViews
import Derived.JoinedTies
import Derived.KernelRfl
namespace Go.Proofs.Ythikbhekdnmhbaa
/- THE CELL 'sum', in the pinned program and in every row, IS THE sha256 OF THE DUMP (.gsa) THAT YthikbhekdnmhbaaProg.lean LOADS. Nothing in Lean hashes anything: it is a label: what it is worth is what the hold of that sum in a sandbox is worth. -/
noncomputable def Try.pinned : Pinned := { name := "ythikbhekdnmhbaa", sum := "c70589cd5ad1ae846ead83025138267f5189c8757adee366c56c2e1d36fb429b", checked := Try.checked }
namespace Rows
def none {H : Type} : Left H := { results := [], args := [] }

/-- 'laws.FnExactValidKeys': WHATEVER THE INPUT: true; the input reads as it did. -/
def fnExactValidKeysSpec : ChangeSpec := { name := "fnExactValidKeys", fn := fun _ => fun
  | [d] => { results := [.lit (.bool true)], args := [d] }
  | _ => none }
def fnExactValidKeysRow : OpenClaim := { program := "ythikbhekdnmhbaa", sum := "c70589cd5ad1ae846ead83025138267f5189c8757adee366c56c2e1d36fb429b", func := "loop.example/pagetree/laws.FnExactValidKeys", spec := "fnExactValidKeys", apart := false }
def FnExactValidKeysSaid : Prop := fnExactValidKeysRow.holds Try.pinned (OpenSpec.ofChange fnExactValidKeysSpec)

/-- ITS FALSE NEIGHBOUR: 'it returns false'. Refute it at one input. -/
def fnExactValidKeysWrong : ChangeSpec := { name := "fnExactValidKeys", fn := fun _ => fun
  | [d] => { results := [.lit (.bool false)], args := [d] }
  | _ => none }
def FnExactValidKeysWrongFalsely : Prop := fnExactValidKeysRow.holds Try.pinned (OpenSpec.ofChange fnExactValidKeysWrong)

/-- 'laws.FnCountLoaded': WHATEVER THE INPUT: true; the input reads as it did. -/
def fnCountLoadedSpec : ChangeSpec := { name := "fnCountLoaded", fn := fun _ => fun
  | [d] => { results := [.lit (.bool true)], args := [d] }
  | _ => none }
def fnCountLoadedRow : OpenClaim := { program := "ythikbhekdnmhbaa", sum := "c70589cd5ad1ae846ead83025138267f5189c8757adee366c56c2e1d36fb429b", func := "loop.example/pagetree/laws.FnCountLoaded", spec := "fnCountLoaded", apart := false }
def FnCountLoadedSaid : Prop := fnCountLoadedRow.holds Try.pinned (OpenSpec.ofChange fnCountLoadedSpec)

/-- ITS FALSE NEIGHBOUR: 'it returns false'. Refute it at one input. -/
def fnCountLoadedWrong : ChangeSpec := { name := "fnCountLoaded", fn := fun _ => fun
  | [d] => { results := [.lit (.bool false)], args := [d] }
  | _ => none }
def FnCountLoadedWrongFalsely : Prop := fnCountLoadedRow.holds Try.pinned (OpenSpec.ofChange fnCountLoadedWrong)

/-- 'laws.FnCountLoadedLeaves': WHATEVER THE INPUT: true; the input reads as it did. -/
def fnCountLoadedLeavesSpec : ChangeSpec := { name := "fnCountLoadedLeaves", fn := fun _ => fun
  | [d] => { results := [.lit (.bool true)], args := [d] }
  | _ => none }
def fnCountLoadedLeavesRow : OpenClaim := { program := "ythikbhekdnmhbaa", sum := "c70589cd5ad1ae846ead83025138267f5189c8757adee366c56c2e1d36fb429b", func := "loop.example/pagetree/laws.FnCountLoadedLeaves", spec := "fnCountLoadedLeaves", apart := false }
def FnCountLoadedLeavesSaid : Prop := fnCountLoadedLeavesRow.holds Try.pinned (OpenSpec.ofChange fnCountLoadedLeavesSpec)

/-- ITS FALSE NEIGHBOUR: 'it returns false'. Refute it at one input. -/
def fnCountLoadedLeavesWrong : ChangeSpec := { name := "fnCountLoadedLeaves", fn := fun _ => fun
  | [d] => { results := [.lit (.bool false)], args := [d] }
  | _ => none }
def FnCountLoadedLeavesWrongFalsely : Prop := fnCountLoadedLeavesRow.holds Try.pinned (OpenSpec.ofChange fnCountLoadedLeavesWrong)

/-- 'laws.FnExactValidOps': WHATEVER THE INPUT: true; the input reads as it did. -/
def fnExactValidOpsSpec : ChangeSpec := { name := "fnExactValidOps", fn := fun _ => fun
  | [d] => { results := [.lit (.bool true)], args := [d] }
  | _ => none }
def fnExactValidOpsRow : OpenClaim := { program := "ythikbhekdnmhbaa", sum := "c70589cd5ad1ae846ead83025138267f5189c8757adee366c56c2e1d36fb429b", func := "loop.example/pagetree/laws.FnExactValidOps", spec := "fnExactValidOps", apart := false }
def FnExactValidOpsSaid : Prop := fnExactValidOpsRow.holds Try.pinned (OpenSpec.ofChange fnExactValidOpsSpec)

/-- ITS FALSE NEIGHBOUR: 'it returns false'. Refute it at one input. -/
def fnExactValidOpsWrong : ChangeSpec := { name := "fnExactValidOps", fn := fun _ => fun
  | [d] => { results := [.lit (.bool false)], args := [d] }
  | _ => none }
def FnExactValidOpsWrongFalsely : Prop := fnExactValidOpsRow.holds Try.pinned (OpenSpec.ofChange fnExactValidOpsWrong)

/-- 'laws.FnExactKeysBelow': WHATEVER THE INPUT: true; the input reads as it did. -/
def fnExactKeysBelowSpec : ChangeSpec := { name := "fnExactKeysBelow", fn := fun _ => fun
  | [d1, d2] => { results := [.lit (.bool true)], args := [d1, d2] }
  | _ => none }
def fnExactKeysBelowRow : OpenClaim := { program := "ythikbhekdnmhbaa", sum := "c70589cd5ad1ae846ead83025138267f5189c8757adee366c56c2e1d36fb429b", func := "loop.example/pagetree/laws.FnExactKeysBelow", spec := "fnExactKeysBelow", unfollowed := true, recurses := true, apart := false }
def FnExactKeysBelowSaid : Prop := fnExactKeysBelowRow.holds Try.pinned (OpenSpec.ofChange fnExactKeysBelowSpec)

/-- ITS FALSE NEIGHBOUR: 'it returns false'. Refute it at one input. -/
def fnExactKeysBelowWrong : ChangeSpec := { name := "fnExactKeysBelow", fn := fun _ => fun
  | [d1, d2] => { results := [.lit (.bool false)], args := [d1, d2] }
  | _ => none }
def FnExactKeysBelowWrongFalsely : Prop := fnExactKeysBelowRow.holds Try.pinned (OpenSpec.ofChange fnExactKeysBelowWrong)

/-- 'laws.FnExactKeysUpTo': WHATEVER THE INPUT: true; the input reads as it did. -/
def fnExactKeysUpToSpec : ChangeSpec := { name := "fnExactKeysUpTo", fn := fun _ => fun
  | [d1, d2] => { results := [.lit (.bool true)], args := [d1, d2] }
  | _ => none }
def fnExactKeysUpToRow : OpenClaim := { program := "ythikbhekdnmhbaa", sum := "c70589cd5ad1ae846ead83025138267f5189c8757adee366c56c2e1d36fb429b", func := "loop.example/pagetree/laws.FnExactKeysUpTo", spec := "fnExactKeysUpTo", unfollowed := true, recurses := true, apart := false }
def FnExactKeysUpToSaid : Prop := fnExactKeysUpToRow.holds Try.pinned (OpenSpec.ofChange fnExactKeysUpToSpec)

/-- ITS FALSE NEIGHBOUR: 'it returns false'. Refute it at one input. -/
def fnExactKeysUpToWrong : ChangeSpec := { name := "fnExactKeysUpTo", fn := fun _ => fun
  | [d1, d2] => { results := [.lit (.bool false)], args := [d1, d2] }
  | _ => none }
def FnExactKeysUpToWrongFalsely : Prop := fnExactKeysUpToRow.holds Try.pinned (OpenSpec.ofChange fnExactKeysUpToWrong)

/-- 'laws.FnValidKeys': WHATEVER THE INPUT: true; the input reads as it did. -/
def fnValidKeysSpec : ChangeSpec := { name := "fnValidKeys", fn := fun _ => fun
  | [d] => { results := [.lit (.bool true)], args := [d] }
  | _ => none }
def fnValidKeysRow : OpenClaim := { program := "ythikbhekdnmhbaa", sum := "c70589cd5ad1ae846ead83025138267f5189c8757adee366c56c2e1d36fb429b", func := "loop.example/pagetree/laws.FnValidKeys", spec := "fnValidKeys", apart := false }
def FnValidKeysSaid : Prop := fnValidKeysRow.holds Try.pinned (OpenSpec.ofChange fnValidKeysSpec)

/-- ITS FALSE NEIGHBOUR: 'it returns false'. Refute it at one input. -/
def fnValidKeysWrong : ChangeSpec := { name := "fnValidKeys", fn := fun _ => fun
  | [d] => { results := [.lit (.bool false)], args := [d] }
  | _ => none }
def FnValidKeysWrongFalsely : Prop := fnValidKeysRow.holds Try.pinned (OpenSpec.ofChange fnValidKeysWrong)

/-- 'laws.FnValidKeysMove': WHATEVER THE INPUT: true; the input reads as it did. -/
def fnValidKeysMoveSpec : ChangeSpec := { name := "fnValidKeysMove", fn := fun _ => fun
  | [d] => { results := [.lit (.bool true)], args := [d] }
  | _ => none }
def fnValidKeysMoveRow : OpenClaim := { program := "ythikbhekdnmhbaa", sum := "c70589cd5ad1ae846ead83025138267f5189c8757adee366c56c2e1d36fb429b", func := "loop.example/pagetree/laws.FnValidKeysMove", spec := "fnValidKeysMove", apart := false }
def FnValidKeysMoveSaid : Prop := fnValidKeysMoveRow.holds Try.pinned (OpenSpec.ofChange fnValidKeysMoveSpec)

/-- ITS FALSE NEIGHBOUR: 'it returns false'. Refute it at one input. -/
def fnValidKeysMoveWrong : ChangeSpec := { name := "fnValidKeysMove", fn := fun _ => fun
  | [d] => { results := [.lit (.bool false)], args := [d] }
  | _ => none }
def FnValidKeysMoveWrongFalsely : Prop := fnValidKeysMoveRow.holds Try.pinned (OpenSpec.ofChange fnValidKeysMoveWrong)

/-- 'laws.FnExactValidRow': WHATEVER THE INPUT: true; the input reads as it did. -/
def fnExactValidRowSpec : ChangeSpec := { name := "fnExactValidRow", fn := fun _ => fun
  | [d] => { results := [.lit (.bool true)], args := [d] }
  | _ => none }
def fnExactValidRowRow : OpenClaim := { program := "ythikbhekdnmhbaa", sum := "c70589cd5ad1ae846ead83025138267f5189c8757adee366c56c2e1d36fb429b", func := "loop.example/pagetree/laws.FnExactValidRow", spec := "fnExactValidRow", apart := false }
def FnExactValidRowSaid : Prop := fnExactValidRowRow.holds Try.pinned (OpenSpec.ofChange fnExactValidRowSpec)

/-- ITS FALSE NEIGHBOUR: 'it returns false'. Refute it at one input. -/
def fnExactValidRowWrong : ChangeSpec := { name := "fnExactValidRow", fn := fun _ => fun
  | [d] => { results := [.lit (.bool false)], args := [d] }
  | _ => none }
def FnExactValidRowWrongFalsely : Prop := fnExactValidRowRow.holds Try.pinned (OpenSpec.ofChange fnExactValidRowWrong)

/-- 'laws.FnExactValidInner': WHATEVER THE INPUT: true; the input reads as it did. -/
def fnExactValidInnerSpec : ChangeSpec := { name := "fnExactValidInner", fn := fun _ => fun
  | [d] => { results := [.lit (.bool true)], args := [d] }
  | _ => none }
def fnExactValidInnerRow : OpenClaim := { program := "ythikbhekdnmhbaa", sum := "c70589cd5ad1ae846ead83025138267f5189c8757adee366c56c2e1d36fb429b", func := "loop.example/pagetree/laws.FnExactValidInner", spec := "fnExactValidInner", apart := false }
def FnExactValidInnerSaid : Prop := fnExactValidInnerRow.holds Try.pinned (OpenSpec.ofChange fnExactValidInnerSpec)

/-- ITS FALSE NEIGHBOUR: 'it returns false'. Refute it at one input. -/
def fnExactValidInnerWrong : ChangeSpec := { name := "fnExactValidInner", fn := fun _ => fun
  | [d] => { results := [.lit (.bool false)], args := [d] }
  | _ => none }
def FnExactValidInnerWrongFalsely : Prop := fnExactValidInnerRow.holds Try.pinned (OpenSpec.ofChange fnExactValidInnerWrong)

/-- 'laws.FnKeysBelow': WHATEVER THE INPUT: true; the input reads as it did. -/
def fnKeysBelowSpec : ChangeSpec := { name := "fnKeysBelow", fn := fun _ => fun
  | [d] => { results := [.lit (.bool true)], args := [d] }
  | _ => none }
def fnKeysBelowRow : OpenClaim := { program := "ythikbhekdnmhbaa", sum := "c70589cd5ad1ae846ead83025138267f5189c8757adee366c56c2e1d36fb429b", func := "loop.example/pagetree/laws.FnKeysBelow", spec := "fnKeysBelow", unfollowed := true, recurses := true, apart := false }
def FnKeysBelowSaid : Prop := fnKeysBelowRow.holds Try.pinned (OpenSpec.ofChange fnKeysBelowSpec)

/-- ITS FALSE NEIGHBOUR: 'it returns false'. Refute it at one input. -/
def fnKeysBelowWrong : ChangeSpec := { name := "fnKeysBelow", fn := fun _ => fun
  | [d] => { results := [.lit (.bool false)], args := [d] }
  | _ => none }
def FnKeysBelowWrongFalsely : Prop := fnKeysBelowRow.holds Try.pinned (OpenSpec.ofChange fnKeysBelowWrong)

/-- 'laws.FnKeysBelowAll': WHATEVER THE INPUT: true; the input reads as it did. -/
def fnKeysBelowAllSpec : ChangeSpec := { name := "fnKeysBelowAll", fn := fun _ => fun
  | [d] => { results := [.lit (.bool true)], args := [d] }
  | _ => none }
def fnKeysBelowAllRow : OpenClaim := { program := "ythikbhekdnmhbaa", sum := "c70589cd5ad1ae846ead83025138267f5189c8757adee366c56c2e1d36fb429b", func := "loop.example/pagetree/laws.FnKeysBelowAll", spec := "fnKeysBelowAll", unfollowed := true, recurses := true, apart := false }
def FnKeysBelowAllSaid : Prop := fnKeysBelowAllRow.holds Try.pinned (OpenSpec.ofChange fnKeysBelowAllSpec)

/-- ITS FALSE NEIGHBOUR: 'it returns false'. Refute it at one input. -/
def fnKeysBelowAllWrong : ChangeSpec := { name := "fnKeysBelowAll", fn := fun _ => fun
  | [d] => { results := [.lit (.bool false)], args := [d] }
  | _ => none }
def FnKeysBelowAllWrongFalsely : Prop := fnKeysBelowAllRow.holds Try.pinned (OpenSpec.ofChange fnKeysBelowAllWrong)

/-- 'laws.FnValidInner': WHATEVER THE INPUT: true; the input reads as it did. -/
def fnValidInnerSpec : ChangeSpec := { name := "fnValidInner", fn := fun _ => fun
  | [d] => { results := [.lit (.bool true)], args := [d] }
  | _ => none }
def fnValidInnerRow : OpenClaim := { program := "ythikbhekdnmhbaa", sum := "c70589cd5ad1ae846ead83025138267f5189c8757adee366c56c2e1d36fb429b", func := "loop.example/pagetree/laws.FnValidInner", spec := "fnValidInner", apart := false }
def FnValidInnerSaid : Prop := fnValidInnerRow.holds Try.pinned (OpenSpec.ofChange fnValidInnerSpec)

/-- ITS FALSE NEIGHBOUR: 'it returns false'. Refute it at one input. -/
def fnValidInnerWrong : ChangeSpec := { name := "fnValidInner", fn := fun _ => fun
  | [d] => { results := [.lit (.bool false)], args := [d] }
  | _ => none }
def FnValidInnerWrongFalsely : Prop := fnValidInnerRow.holds Try.pinned (OpenSpec.ofChange fnValidInnerWrong)

/-- 'laws.FnValidInnerTwice': WHATEVER THE INPUT: true; the input reads as it did. -/
def fnValidInnerTwiceSpec : ChangeSpec := { name := "fnValidInnerTwice", fn := fun _ => fun
  | [d] => { results := [.lit (.bool true)], args := [d] }
  | _ => none }
def fnValidInnerTwiceRow : OpenClaim := { program := "ythikbhekdnmhbaa", sum := "c70589cd5ad1ae846ead83025138267f5189c8757adee366c56c2e1d36fb429b", func := "loop.example/pagetree/laws.FnValidInnerTwice", spec := "fnValidInnerTwice", apart := false }
def FnValidInnerTwiceSaid : Prop := fnValidInnerTwiceRow.holds Try.pinned (OpenSpec.ofChange fnValidInnerTwiceSpec)

/-- ITS FALSE NEIGHBOUR: 'it returns false'. Refute it at one input. -/
def fnValidInnerTwiceWrong : ChangeSpec := { name := "fnValidInnerTwice", fn := fun _ => fun
  | [d] => { results := [.lit (.bool false)], args := [d] }
  | _ => none }
def FnValidInnerTwiceWrongFalsely : Prop := fnValidInnerTwiceRow.holds Try.pinned (OpenSpec.ofChange fnValidInnerTwiceWrong)

/-- 'laws.FnValidRowValues': WHATEVER THE INPUT: true; the input reads as it did. -/
def fnValidRowValuesSpec : ChangeSpec := { name := "fnValidRowValues", fn := fun _ => fun
  | [d] => { results := [.lit (.bool true)], args := [d] }
  | _ => none }
def fnValidRowValuesRow : OpenClaim := { program := "ythikbhekdnmhbaa", sum := "c70589cd5ad1ae846ead83025138267f5189c8757adee366c56c2e1d36fb429b", func := "loop.example/pagetree/laws.FnValidRowValues", spec := "fnValidRowValues", apart := false }
def FnValidRowValuesSaid : Prop := fnValidRowValuesRow.holds Try.pinned (OpenSpec.ofChange fnValidRowValuesSpec)

/-- ITS FALSE NEIGHBOUR: 'it returns false'. Refute it at one input. -/
def fnValidRowValuesWrong : ChangeSpec := { name := "fnValidRowValues", fn := fun _ => fun
  | [d] => { results := [.lit (.bool false)], args := [d] }
  | _ => none }
def FnValidRowValuesWrongFalsely : Prop := fnValidRowValuesRow.holds Try.pinned (OpenSpec.ofChange fnValidRowValuesWrong)

/-- 'laws.FnKeysBelowMore': WHATEVER THE INPUT: true; the input reads as it did. -/
def fnKeysBelowMoreSpec : ChangeSpec := { name := "fnKeysBelowMore", fn := fun _ => fun
  | [d] => { results := [.lit (.bool true)], args := [d] }
  | _ => none }
def fnKeysBelowMoreRow : OpenClaim := { program := "ythikbhekdnmhbaa", sum := "c70589cd5ad1ae846ead83025138267f5189c8757adee366c56c2e1d36fb429b", func := "loop.example/pagetree/laws.FnKeysBelowMore", spec := "fnKeysBelowMore", unfollowed := true, recurses := true, apart := false }
def FnKeysBelowMoreSaid : Prop := fnKeysBelowMoreRow.holds Try.pinned (OpenSpec.ofChange fnKeysBelowMoreSpec)

/-- ITS FALSE NEIGHBOUR: 'it returns false'. Refute it at one input. -/
def fnKeysBelowMoreWrong : ChangeSpec := { name := "fnKeysBelowMore", fn := fun _ => fun
  | [d] => { results := [.lit (.bool false)], args := [d] }
  | _ => none }
def FnKeysBelowMoreWrongFalsely : Prop := fnKeysBelowMoreRow.holds Try.pinned (OpenSpec.ofChange fnKeysBelowMoreWrong)

/-- 'laws.FnKeysUpTo': WHATEVER THE INPUT: true; the input reads as it did. -/
def fnKeysUpToSpec : ChangeSpec := { name := "fnKeysUpTo", fn := fun _ => fun
  | [d] => { results := [.lit (.bool true)], args := [d] }
  | _ => none }
def fnKeysUpToRow : OpenClaim := { program := "ythikbhekdnmhbaa", sum := "c70589cd5ad1ae846ead83025138267f5189c8757adee366c56c2e1d36fb429b", func := "loop.example/pagetree/laws.FnKeysUpTo", spec := "fnKeysUpTo", unfollowed := true, recurses := true, apart := false }
def FnKeysUpToSaid : Prop := fnKeysUpToRow.holds Try.pinned (OpenSpec.ofChange fnKeysUpToSpec)

/-- ITS FALSE NEIGHBOUR: 'it returns false'. Refute it at one input. -/
def fnKeysUpToWrong : ChangeSpec := { name := "fnKeysUpTo", fn := fun _ => fun
  | [d] => { results := [.lit (.bool false)], args := [d] }
  | _ => none }
def FnKeysUpToWrongFalsely : Prop := fnKeysUpToRow.holds Try.pinned (OpenSpec.ofChange fnKeysUpToWrong)

/-- 'laws.FnValidRow': WHATEVER THE INPUT: true; the input reads as it did. -/
def fnValidRowSpec : ChangeSpec := { name := "fnValidRow", fn := fun _ => fun
  | [d] => { results := [.lit (.bool true)], args := [d] }
  | _ => none }
def fnValidRowRow : OpenClaim := { program := "ythikbhekdnmhbaa", sum := "c70589cd5ad1ae846ead83025138267f5189c8757adee366c56c2e1d36fb429b", func := "loop.example/pagetree/laws.FnValidRow", spec := "fnValidRow", apart := false }
def FnValidRowSaid : Prop := fnValidRowRow.holds Try.pinned (OpenSpec.ofChange fnValidRowSpec)

/-- ITS FALSE NEIGHBOUR: 'it returns false'. Refute it at one input. -/
def fnValidRowWrong : ChangeSpec := { name := "fnValidRow", fn := fun _ => fun
  | [d] => { results := [.lit (.bool false)], args := [d] }
  | _ => none }
def FnValidRowWrongFalsely : Prop := fnValidRowRow.holds Try.pinned (OpenSpec.ofChange fnValidRowWrong)

/-- 'laws.FnExactRemoveKey': WHATEVER THE INPUT: true; the input reads as it did. -/
def fnExactRemoveKeySpec : ChangeSpec := { name := "fnExactRemoveKey", fn := fun _ => fun
  | [d1, d2] => { results := [.lit (.bool true)], args := [d1, d2] }
  | _ => none }
def fnExactRemoveKeyRow : OpenClaim := { program := "ythikbhekdnmhbaa", sum := "c70589cd5ad1ae846ead83025138267f5189c8757adee366c56c2e1d36fb429b", func := "loop.example/pagetree/laws.FnExactRemoveKey", spec := "fnExactRemoveKey", unfollowed := true, recurses := true, apart := false }
def FnExactRemoveKeySaid : Prop := fnExactRemoveKeyRow.holds Try.pinned (OpenSpec.ofChange fnExactRemoveKeySpec)

/-- ITS FALSE NEIGHBOUR: 'it returns false'. Refute it at one input. -/
def fnExactRemoveKeyWrong : ChangeSpec := { name := "fnExactRemoveKey", fn := fun _ => fun
  | [d1, d2] => { results := [.lit (.bool false)], args := [d1, d2] }
  | _ => none }
def FnExactRemoveKeyWrongFalsely : Prop := fnExactRemoveKeyRow.holds Try.pinned (OpenSpec.ofChange fnExactRemoveKeyWrong)

/-- 'laws.FnKeysBelowUpTo': WHATEVER THE INPUT: true; the input reads as it did. -/
def fnKeysBelowUpToSpec : ChangeSpec := { name := "fnKeysBelowUpTo", fn := fun _ => fun
  | [d] => { results := [.lit (.bool true)], args := [d] }
  | _ => none }
def fnKeysBelowUpToRow : OpenClaim := { program := "ythikbhekdnmhbaa", sum := "c70589cd5ad1ae846ead83025138267f5189c8757adee366c56c2e1d36fb429b", func := "loop.example/pagetree/laws.FnKeysBelowUpTo", spec := "fnKeysBelowUpTo", unfollowed := true, recurses := true, apart := false }
def FnKeysBelowUpToSaid : Prop := fnKeysBelowUpToRow.holds Try.pinned (OpenSpec.ofChange fnKeysBelowUpToSpec)

/-- ITS FALSE NEIGHBOUR: 'it returns false'. Refute it at one input. -/
def fnKeysBelowUpToWrong : ChangeSpec := { name := "fnKeysBelowUpTo", fn := fun _ => fun
  | [d] => { results := [.lit (.bool false)], args := [d] }
  | _ => none }
def FnKeysBelowUpToWrongFalsely : Prop := fnKeysBelowUpToRow.holds Try.pinned (OpenSpec.ofChange fnKeysBelowUpToWrong)

/-- 'laws.FnExactRouteKey': WHATEVER THE INPUT: true; the input reads as it did. -/
def fnExactRouteKeySpec : ChangeSpec := { name := "fnExactRouteKey", fn := fun _ => fun
  | [d1, d2] => { results := [.lit (.bool true)], args := [d1, d2] }
  | _ => none }
def fnExactRouteKeyRow : OpenClaim := { program := "ythikbhekdnmhbaa", sum := "c70589cd5ad1ae846ead83025138267f5189c8757adee366c56c2e1d36fb429b", func := "loop.example/pagetree/laws.FnExactRouteKey", spec := "fnExactRouteKey", unfollowed := true, recurses := true, apart := false }
def FnExactRouteKeySaid : Prop := fnExactRouteKeyRow.holds Try.pinned (OpenSpec.ofChange fnExactRouteKeySpec)

/-- ITS FALSE NEIGHBOUR: 'it returns false'. Refute it at one input. -/
def fnExactRouteKeyWrong : ChangeSpec := { name := "fnExactRouteKey", fn := fun _ => fun
  | [d1, d2] => { results := [.lit (.bool false)], args := [d1, d2] }
  | _ => none }
def FnExactRouteKeyWrongFalsely : Prop := fnExactRouteKeyRow.holds Try.pinned (OpenSpec.ofChange fnExactRouteKeyWrong)

/-- 'laws.FnExactSplitRow': WHATEVER THE INPUT: true; the input reads as it did. -/
def fnExactSplitRowSpec : ChangeSpec := { name := "fnExactSplitRow", fn := fun _ => fun
  | [d] => { results := [.lit (.bool true)], args := [d] }
  | _ => none }
def fnExactSplitRowRow : OpenClaim := { program := "ythikbhekdnmhbaa", sum := "c70589cd5ad1ae846ead83025138267f5189c8757adee366c56c2e1d36fb429b", func := "loop.example/pagetree/laws.FnExactSplitRow", spec := "fnExactSplitRow", apart := false }
def FnExactSplitRowSaid : Prop := fnExactSplitRowRow.holds Try.pinned (OpenSpec.ofChange fnExactSplitRowSpec)

/-- ITS FALSE NEIGHBOUR: 'it returns false'. Refute it at one input. -/
def fnExactSplitRowWrong : ChangeSpec := { name := "fnExactSplitRow", fn := fun _ => fun
  | [d] => { results := [.lit (.bool false)], args := [d] }
  | _ => none }
def FnExactSplitRowWrongFalsely : Prop := fnExactSplitRowRow.holds Try.pinned (OpenSpec.ofChange fnExactSplitRowWrong)

/-- 'laws.FnExactFitsPage': WHATEVER THE INPUT: true; the input reads as it did. -/
def fnExactFitsPageSpec : ChangeSpec := { name := "fnExactFitsPage", fn := fun _ => fun
  | [d] => { results := [.lit (.bool true)], args := [d] }
  | _ => none }
def fnExactFitsPageRow : OpenClaim := { program := "ythikbhekdnmhbaa", sum := "c70589cd5ad1ae846ead83025138267f5189c8757adee366c56c2e1d36fb429b", func := "loop.example/pagetree/laws.FnExactFitsPage", spec := "fnExactFitsPage", apart := false }
def FnExactFitsPageSaid : Prop := fnExactFitsPageRow.holds Try.pinned (OpenSpec.ofChange fnExactFitsPageSpec)

/-- ITS FALSE NEIGHBOUR: 'it returns false'. Refute it at one input. -/
def fnExactFitsPageWrong : ChangeSpec := { name := "fnExactFitsPage", fn := fun _ => fun
  | [d] => { results := [.lit (.bool false)], args := [d] }
  | _ => none }
def FnExactFitsPageWrongFalsely : Prop := fnExactFitsPageRow.holds Try.pinned (OpenSpec.ofChange fnExactFitsPageWrong)

/-- 'laws.FnSplitRowSizes': WHATEVER THE INPUT: true; the input reads as it did. -/
def fnSplitRowSizesSpec : ChangeSpec := { name := "fnSplitRowSizes", fn := fun _ => fun
  | [d] => { results := [.lit (.bool true)], args := [d] }
  | _ => none }
def fnSplitRowSizesRow : OpenClaim := { program := "ythikbhekdnmhbaa", sum := "c70589cd5ad1ae846ead83025138267f5189c8757adee366c56c2e1d36fb429b", func := "loop.example/pagetree/laws.FnSplitRowSizes", spec := "fnSplitRowSizes", apart := false }
def FnSplitRowSizesSaid : Prop := fnSplitRowSizesRow.holds Try.pinned (OpenSpec.ofChange fnSplitRowSizesSpec)

/-- ITS FALSE NEIGHBOUR: 'it returns false'. Refute it at one input. -/
def fnSplitRowSizesWrong : ChangeSpec := { name := "fnSplitRowSizes", fn := fun _ => fun
  | [d] => { results := [.lit (.bool false)], args := [d] }
  | _ => none }
def FnSplitRowSizesWrongFalsely : Prop := fnSplitRowSizesRow.holds Try.pinned (OpenSpec.ofChange fnSplitRowSizesWrong)

/- THE SECOND FORM. 'bulk': how many values and letters a reading holds, each counted each time it is reached (what is shared counts as often as it is met; a slice's spare places count too). A statement '..UptoSaid' is the law's where the arguments, and the package variables that the reading takes, are together of bulk at most 1048576: NARROWER than '..Said'. Prove '..Said' where nothing that the law and all that it calls make is longer than what came in: it says more and counts as full. Else prove '..UptoSaid'. A law counts once. -/
mutual
def uptoBulk {H : Type} : DataW H → Nat
  | .lit (.string bytes) => bytes.length + 1
  | .lit _ => 1
  | .nil => 1
  | .ptr d => uptoBulk d + 1
  | .slice elems spare => uptoBulkAll elems + uptoBulkAll spare + 1
  | .agg parts => uptoBulkAll parts + 1
  | .iface _ d => uptoBulk d + 1
  | .map entries => uptoBulkEntries entries + 1
  | .held _ => 1
def uptoBulkAll {H : Type} : List (DataW H) → Nat
  | [] => 0
  | d :: r => uptoBulk d + uptoBulkAll r
def uptoBulkEntries {H : Type} : List (Lit × DataW H) → Nat
  | [] => 0
  | x :: r => uptoBulkEntry x + uptoBulkEntries r
def uptoBulkEntry {H : Type} : Lit × DataW H → Nat
  | (.string bytes, d) => bytes.length + uptoBulk d + 1
  | (_, d) => uptoBulk d + 1
 end
def uptoSmall : (H : Type) → List (DataW H) → Bool := fun _ ds => decide (uptoBulkAll ds ≤ 1048576)
def OpenSpec.upto (s : _root_.Go.ChangeSpec) : _root_.Go.OpenSpec := { _root_.Go.OpenSpec.ofChange s with cond := some uptoSmall }

/-- 'laws.FnExactValidKeys', WHERE WHAT IT READS IS OF BULK AT MOST 1048576: true; the input reads as it did. -/
def fnExactValidKeysUptoRow : OpenClaim := { program := "ythikbhekdnmhbaa", sum := "c70589cd5ad1ae846ead83025138267f5189c8757adee366c56c2e1d36fb429b", func := "loop.example/pagetree/laws.FnExactValidKeys", spec := "fnExactValidKeys", apart := false, narrowed := true }
def FnExactValidKeysUptoSaid : Prop := fnExactValidKeysUptoRow.holds Try.pinned (OpenSpec.upto fnExactValidKeysSpec)

/-- 'laws.FnCountLoaded', WHERE WHAT IT READS IS OF BULK AT MOST 1048576: true; the input reads as it did. -/
def fnCountLoadedUptoRow : OpenClaim := { program := "ythikbhekdnmhbaa", sum := "c70589cd5ad1ae846ead83025138267f5189c8757adee366c56c2e1d36fb429b", func := "loop.example/pagetree/laws.FnCountLoaded", spec := "fnCountLoaded", apart := false, narrowed := true }
def FnCountLoadedUptoSaid : Prop := fnCountLoadedUptoRow.holds Try.pinned (OpenSpec.upto fnCountLoadedSpec)

/-- 'laws.FnCountLoadedLeaves', WHERE WHAT IT READS IS OF BULK AT MOST 1048576: true; the input reads as it did. -/
def fnCountLoadedLeavesUptoRow : OpenClaim := { program := "ythikbhekdnmhbaa", sum := "c70589cd5ad1ae846ead83025138267f5189c8757adee366c56c2e1d36fb429b", func := "loop.example/pagetree/laws.FnCountLoadedLeaves", spec := "fnCountLoadedLeaves", apart := false, narrowed := true }
def FnCountLoadedLeavesUptoSaid : Prop := fnCountLoadedLeavesUptoRow.holds Try.pinned (OpenSpec.upto fnCountLoadedLeavesSpec)

/-- 'laws.FnExactValidOps', WHERE WHAT IT READS IS OF BULK AT MOST 1048576: true; the input reads as it did. -/
def fnExactValidOpsUptoRow : OpenClaim := { program := "ythikbhekdnmhbaa", sum := "c70589cd5ad1ae846ead83025138267f5189c8757adee366c56c2e1d36fb429b", func := "loop.example/pagetree/laws.FnExactValidOps", spec := "fnExactValidOps", apart := false, narrowed := true }
def FnExactValidOpsUptoSaid : Prop := fnExactValidOpsUptoRow.holds Try.pinned (OpenSpec.upto fnExactValidOpsSpec)

/-- 'laws.FnExactKeysBelow', WHERE WHAT IT READS IS OF BULK AT MOST 1048576: true; the input reads as it did. -/
def fnExactKeysBelowUptoRow : OpenClaim := { program := "ythikbhekdnmhbaa", sum := "c70589cd5ad1ae846ead83025138267f5189c8757adee366c56c2e1d36fb429b", func := "loop.example/pagetree/laws.FnExactKeysBelow", spec := "fnExactKeysBelow", unfollowed := true, recurses := true, apart := false, narrowed := true }
def FnExactKeysBelowUptoSaid : Prop := fnExactKeysBelowUptoRow.holds Try.pinned (OpenSpec.upto fnExactKeysBelowSpec)

/-- 'laws.FnExactKeysUpTo', WHERE WHAT IT READS IS OF BULK AT MOST 1048576: true; the input reads as it did. -/
def fnExactKeysUpToUptoRow : OpenClaim := { program := "ythikbhekdnmhbaa", sum := "c70589cd5ad1ae846ead83025138267f5189c8757adee366c56c2e1d36fb429b", func := "loop.example/pagetree/laws.FnExactKeysUpTo", spec := "fnExactKeysUpTo", unfollowed := true, recurses := true, apart := false, narrowed := true }
def FnExactKeysUpToUptoSaid : Prop := fnExactKeysUpToUptoRow.holds Try.pinned (OpenSpec.upto fnExactKeysUpToSpec)

/-- 'laws.FnValidKeys', WHERE WHAT IT READS IS OF BULK AT MOST 1048576: true; the input reads as it did. -/
def fnValidKeysUptoRow : OpenClaim := { program := "ythikbhekdnmhbaa", sum := "c70589cd5ad1ae846ead83025138267f5189c8757adee366c56c2e1d36fb429b", func := "loop.example/pagetree/laws.FnValidKeys", spec := "fnValidKeys", apart := false, narrowed := true }
def FnValidKeysUptoSaid : Prop := fnValidKeysUptoRow.holds Try.pinned (OpenSpec.upto fnValidKeysSpec)

/-- 'laws.FnValidKeysMove', WHERE WHAT IT READS IS OF BULK AT MOST 1048576: true; the input reads as it did. -/
def fnValidKeysMoveUptoRow : OpenClaim := { program := "ythikbhekdnmhbaa", sum := "c70589cd5ad1ae846ead83025138267f5189c8757adee366c56c2e1d36fb429b", func := "loop.example/pagetree/laws.FnValidKeysMove", spec := "fnValidKeysMove", apart := false, narrowed := true }
def FnValidKeysMoveUptoSaid : Prop := fnValidKeysMoveUptoRow.holds Try.pinned (OpenSpec.upto fnValidKeysMoveSpec)

/-- 'laws.FnExactValidRow', WHERE WHAT IT READS IS OF BULK AT MOST 1048576: true; the input reads as it did. -/
def fnExactValidRowUptoRow : OpenClaim := { program := "ythikbhekdnmhbaa", sum := "c70589cd5ad1ae846ead83025138267f5189c8757adee366c56c2e1d36fb429b", func := "loop.example/pagetree/laws.FnExactValidRow", spec := "fnExactValidRow", apart := false, narrowed := true }
def FnExactValidRowUptoSaid : Prop := fnExactValidRowUptoRow.holds Try.pinned (OpenSpec.upto fnExactValidRowSpec)

/-- 'laws.FnExactValidInner', WHERE WHAT IT READS IS OF BULK AT MOST 1048576: true; the input reads as it did. -/
def fnExactValidInnerUptoRow : OpenClaim := { program := "ythikbhekdnmhbaa", sum := "c70589cd5ad1ae846ead83025138267f5189c8757adee366c56c2e1d36fb429b", func := "loop.example/pagetree/laws.FnExactValidInner", spec := "fnExactValidInner", apart := false, narrowed := true }
def FnExactValidInnerUptoSaid : Prop := fnExactValidInnerUptoRow.holds Try.pinned (OpenSpec.upto fnExactValidInnerSpec)

/-- 'laws.FnKeysBelow', WHERE WHAT IT READS IS OF BULK AT MOST 1048576: true; the input reads as it did. -/
def fnKeysBelowUptoRow : OpenClaim := { program := "ythikbhekdnmhbaa", sum := "c70589cd5ad1ae846ead83025138267f5189c8757adee366c56c2e1d36fb429b", func := "loop.example/pagetree/laws.FnKeysBelow", spec := "fnKeysBelow", unfollowed := true, recurses := true, apart := false, narrowed := true }
def FnKeysBelowUptoSaid : Prop := fnKeysBelowUptoRow.holds Try.pinned (OpenSpec.upto fnKeysBelowSpec)

/-- 'laws.FnKeysBelowAll', WHERE WHAT IT READS IS OF BULK AT MOST 1048576: true; the input reads as it did. -/
def fnKeysBelowAllUptoRow : OpenClaim := { program := "ythikbhekdnmhbaa", sum := "c70589cd5ad1ae846ead83025138267f5189c8757adee366c56c2e1d36fb429b", func := "loop.example/pagetree/laws.FnKeysBelowAll", spec := "fnKeysBelowAll", unfollowed := true, recurses := true, apart := false, narrowed := true }
def FnKeysBelowAllUptoSaid : Prop := fnKeysBelowAllUptoRow.holds Try.pinned (OpenSpec.upto fnKeysBelowAllSpec)

/-- 'laws.FnValidInner', WHERE WHAT IT READS IS OF BULK AT MOST 1048576: true; the input reads as it did. -/
def fnValidInnerUptoRow : OpenClaim := { program := "ythikbhekdnmhbaa", sum := "c70589cd5ad1ae846ead83025138267f5189c8757adee366c56c2e1d36fb429b", func := "loop.example/pagetree/laws.FnValidInner", spec := "fnValidInner", apart := false, narrowed := true }
def FnValidInnerUptoSaid : Prop := fnValidInnerUptoRow.holds Try.pinned (OpenSpec.upto fnValidInnerSpec)

/-- 'laws.FnValidInnerTwice', WHERE WHAT IT READS IS OF BULK AT MOST 1048576: true; the input reads as it did. -/
def fnValidInnerTwiceUptoRow : OpenClaim := { program := "ythikbhekdnmhbaa", sum := "c70589cd5ad1ae846ead83025138267f5189c8757adee366c56c2e1d36fb429b", func := "loop.example/pagetree/laws.FnValidInnerTwice", spec := "fnValidInnerTwice", apart := false, narrowed := true }
def FnValidInnerTwiceUptoSaid : Prop := fnValidInnerTwiceUptoRow.holds Try.pinned (OpenSpec.upto fnValidInnerTwiceSpec)

/-- 'laws.FnValidRowValues', WHERE WHAT IT READS IS OF BULK AT MOST 1048576: true; the input reads as it did. -/
def fnValidRowValuesUptoRow : OpenClaim := { program := "ythikbhekdnmhbaa", sum := "c70589cd5ad1ae846ead83025138267f5189c8757adee366c56c2e1d36fb429b", func := "loop.example/pagetree/laws.FnValidRowValues", spec := "fnValidRowValues", apart := false, narrowed := true }
def FnValidRowValuesUptoSaid : Prop := fnValidRowValuesUptoRow.holds Try.pinned (OpenSpec.upto fnValidRowValuesSpec)

/-- 'laws.FnKeysBelowMore', WHERE WHAT IT READS IS OF BULK AT MOST 1048576: true; the input reads as it did. -/
def fnKeysBelowMoreUptoRow : OpenClaim := { program := "ythikbhekdnmhbaa", sum := "c70589cd5ad1ae846ead83025138267f5189c8757adee366c56c2e1d36fb429b", func := "loop.example/pagetree/laws.FnKeysBelowMore", spec := "fnKeysBelowMore", unfollowed := true, recurses := true, apart := false, narrowed := true }
def FnKeysBelowMoreUptoSaid : Prop := fnKeysBelowMoreUptoRow.holds Try.pinned (OpenSpec.upto fnKeysBelowMoreSpec)

/-- 'laws.FnKeysUpTo', WHERE WHAT IT READS IS OF BULK AT MOST 1048576: true; the input reads as it did. -/
def fnKeysUpToUptoRow : OpenClaim := { program := "ythikbhekdnmhbaa", sum := "c70589cd5ad1ae846ead83025138267f5189c8757adee366c56c2e1d36fb429b", func := "loop.example/pagetree/laws.FnKeysUpTo", spec := "fnKeysUpTo", unfollowed := true, recurses := true, apart := false, narrowed := true }
def FnKeysUpToUptoSaid : Prop := fnKeysUpToUptoRow.holds Try.pinned (OpenSpec.upto fnKeysUpToSpec)

/-- 'laws.FnValidRow', WHERE WHAT IT READS IS OF BULK AT MOST 1048576: true; the input reads as it did. -/
def fnValidRowUptoRow : OpenClaim := { program := "ythikbhekdnmhbaa", sum := "c70589cd5ad1ae846ead83025138267f5189c8757adee366c56c2e1d36fb429b", func := "loop.example/pagetree/laws.FnValidRow", spec := "fnValidRow", apart := false, narrowed := true }
def FnValidRowUptoSaid : Prop := fnValidRowUptoRow.holds Try.pinned (OpenSpec.upto fnValidRowSpec)

/-- 'laws.FnExactRemoveKey', WHERE WHAT IT READS IS OF BULK AT MOST 1048576: true; the input reads as it did. -/
def fnExactRemoveKeyUptoRow : OpenClaim := { program := "ythikbhekdnmhbaa", sum := "c70589cd5ad1ae846ead83025138267f5189c8757adee366c56c2e1d36fb429b", func := "loop.example/pagetree/laws.FnExactRemoveKey", spec := "fnExactRemoveKey", unfollowed := true, recurses := true, apart := false, narrowed := true }
def FnExactRemoveKeyUptoSaid : Prop := fnExactRemoveKeyUptoRow.holds Try.pinned (OpenSpec.upto fnExactRemoveKeySpec)

/-- 'laws.FnKeysBelowUpTo', WHERE WHAT IT READS IS OF BULK AT MOST 1048576: true; the input reads as it did. -/
def fnKeysBelowUpToUptoRow : OpenClaim := { program := "ythikbhekdnmhbaa", sum := "c70589cd5ad1ae846ead83025138267f5189c8757adee366c56c2e1d36fb429b", func := "loop.example/pagetree/laws.FnKeysBelowUpTo", spec := "fnKeysBelowUpTo", unfollowed := true, recurses := true, apart := false, narrowed := true }
def FnKeysBelowUpToUptoSaid : Prop := fnKeysBelowUpToUptoRow.holds Try.pinned (OpenSpec.upto fnKeysBelowUpToSpec)

/-- 'laws.FnExactRouteKey', WHERE WHAT IT READS IS OF BULK AT MOST 1048576: true; the input reads as it did. -/
def fnExactRouteKeyUptoRow : OpenClaim := { program := "ythikbhekdnmhbaa", sum := "c70589cd5ad1ae846ead83025138267f5189c8757adee366c56c2e1d36fb429b", func := "loop.example/pagetree/laws.FnExactRouteKey", spec := "fnExactRouteKey", unfollowed := true, recurses := true, apart := false, narrowed := true }
def FnExactRouteKeyUptoSaid : Prop := fnExactRouteKeyUptoRow.holds Try.pinned (OpenSpec.upto fnExactRouteKeySpec)

/-- 'laws.FnExactSplitRow', WHERE WHAT IT READS IS OF BULK AT MOST 1048576: true; the input reads as it did. -/
def fnExactSplitRowUptoRow : OpenClaim := { program := "ythikbhekdnmhbaa", sum := "c70589cd5ad1ae846ead83025138267f5189c8757adee366c56c2e1d36fb429b", func := "loop.example/pagetree/laws.FnExactSplitRow", spec := "fnExactSplitRow", apart := false, narrowed := true }
def FnExactSplitRowUptoSaid : Prop := fnExactSplitRowUptoRow.holds Try.pinned (OpenSpec.upto fnExactSplitRowSpec)

/-- 'laws.FnExactFitsPage', WHERE WHAT IT READS IS OF BULK AT MOST 1048576: true; the input reads as it did. -/
def fnExactFitsPageUptoRow : OpenClaim := { program := "ythikbhekdnmhbaa", sum := "c70589cd5ad1ae846ead83025138267f5189c8757adee366c56c2e1d36fb429b", func := "loop.example/pagetree/laws.FnExactFitsPage", spec := "fnExactFitsPage", apart := false, narrowed := true }
def FnExactFitsPageUptoSaid : Prop := fnExactFitsPageUptoRow.holds Try.pinned (OpenSpec.upto fnExactFitsPageSpec)

/-- 'laws.FnSplitRowSizes', WHERE WHAT IT READS IS OF BULK AT MOST 1048576: true; the input reads as it did. -/
def fnSplitRowSizesUptoRow : OpenClaim := { program := "ythikbhekdnmhbaa", sum := "c70589cd5ad1ae846ead83025138267f5189c8757adee366c56c2e1d36fb429b", func := "loop.example/pagetree/laws.FnSplitRowSizes", spec := "fnSplitRowSizes", apart := false, narrowed := true }
def FnSplitRowSizesUptoSaid : Prop := fnSplitRowSizesUptoRow.holds Try.pinned (OpenSpec.upto fnSplitRowSizesSpec)

end Rows
end Go.Proofs.Ythikbhekdnmhbaa
