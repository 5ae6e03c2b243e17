/-
  No cell of these rows narrows 'for every input' (looked for: loops, veiled, ifaces, maps, wideKeys, modest, calm, conditions, laid).
  DERIVED. THE GIVEN ROWS OF THIS SEAT. 24 by the template 'for every input the law returns true; each argument reads behind the call as it read before'; 0 by the template 'total and deterministic' (their statements: YtbdiacopffnnbaaTotals.lean).
  GIVEN WITH THE SEED: the statements are not yours to turn. If you find one false, say at which input.
  Laid BY PROGRAM, IN A SANDBOX (cutbox-rows.mjs): the forced cells as the released guide's own fill.sh prints them over the translation 9ddb18021f22b668… (all of the seat's roots in one cut). By AI agents, Wed Nov 11 2026. No macro, syntax, notation, axiom, sorry.
-/
import Derived.Test.YtbdiacopffnnbaaChecked
import GoSem.Claim
import GoSem.ClaimJoined
import GoSem.ClaimMapViews
import Derived.JoinedTies
import Derived.KernelRfl
namespace Go.Proofs.Ytbdiacopffnnbaa
/- THE CELL 'sum', in the pinned program and in every row, IS THE sha256 OF THE DUMP (.gsa) THAT YtbdiacopffnnbaaProg.lean LOADS. Nothing in Lean hashes anything: it is a label: what it is worth is what the hold of that sum in a sandbox is worth. -/
noncomputable def Try.pinned : Pinned := { name := "ytbdiacopffnnbaa", sum := "9ddb18021f22b66801c45bb71ca6dabbfca910d0a86bd424010b516f419d3544", checked := Try.checked }
namespace Rows
def none {H : Type} : Left H := { results := [], args := [] }

/-- 'laws.FnExactValueIn': WHATEVER THE INPUT: true; the input reads as it did. -/
def fnExactValueInSpec : ChangeSpec := { name := "fnExactValueIn", fn := fun _ => fun
  | [d1, d2] => { results := [.lit (.bool true)], args := [d1, d2] }
  | _ => none }
def fnExactValueInRow : OpenClaim := { program := "ytbdiacopffnnbaa", sum := "9ddb18021f22b66801c45bb71ca6dabbfca910d0a86bd424010b516f419d3544", func := "loop.example/pagetree/laws.FnExactValueIn", spec := "fnExactValueIn", unfollowed := true, recurses := true, apart := false }
def FnExactValueInSaid : Prop := fnExactValueInRow.holds Try.pinned (OpenSpec.ofChange fnExactValueInSpec)

/-- ITS FALSE NEIGHBOUR: 'it returns false'. Refute it at one input. -/
def fnExactValueInWrong : ChangeSpec := { name := "fnExactValueIn", fn := fun _ => fun
  | [d1, d2] => { results := [.lit (.bool false)], args := [d1, d2] }
  | _ => none }
def FnExactValueInWrongFalsely : Prop := fnExactValueInRow.holds Try.pinned (OpenSpec.ofChange fnExactValueInWrong)

/-- 'laws.FnExactJoinRows': WHATEVER THE INPUT: true; the input reads as it did. -/
def fnExactJoinRowsSpec : ChangeSpec := { name := "fnExactJoinRows", fn := fun _ => fun
  | [d1, d2] => { results := [.lit (.bool true)], args := [d1, d2] }
  | _ => none }
def fnExactJoinRowsRow : OpenClaim := { program := "ytbdiacopffnnbaa", sum := "9ddb18021f22b66801c45bb71ca6dabbfca910d0a86bd424010b516f419d3544", func := "loop.example/pagetree/laws.FnExactJoinRows", spec := "fnExactJoinRows", apart := false }
def FnExactJoinRowsSaid : Prop := fnExactJoinRowsRow.holds Try.pinned (OpenSpec.ofChange fnExactJoinRowsSpec)

/-- ITS FALSE NEIGHBOUR: 'it returns false'. Refute it at one input. -/
def fnExactJoinRowsWrong : ChangeSpec := { name := "fnExactJoinRows", fn := fun _ => fun
  | [d1, d2] => { results := [.lit (.bool false)], args := [d1, d2] }
  | _ => none }
def FnExactJoinRowsWrongFalsely : Prop := fnExactJoinRowsRow.holds Try.pinned (OpenSpec.ofChange fnExactJoinRowsWrong)

/-- 'laws.FnExactSplitInner': WHATEVER THE INPUT: true; the input reads as it did. -/
def fnExactSplitInnerSpec : ChangeSpec := { name := "fnExactSplitInner", fn := fun _ => fun
  | [d] => { results := [.lit (.bool true)], args := [d] }
  | _ => none }
def fnExactSplitInnerRow : OpenClaim := { program := "ytbdiacopffnnbaa", sum := "9ddb18021f22b66801c45bb71ca6dabbfca910d0a86bd424010b516f419d3544", func := "loop.example/pagetree/laws.FnExactSplitInner", spec := "fnExactSplitInner", apart := false }
def FnExactSplitInnerSaid : Prop := fnExactSplitInnerRow.holds Try.pinned (OpenSpec.ofChange fnExactSplitInnerSpec)

/-- ITS FALSE NEIGHBOUR: 'it returns false'. Refute it at one input. -/
def fnExactSplitInnerWrong : ChangeSpec := { name := "fnExactSplitInner", fn := fun _ => fun
  | [d] => { results := [.lit (.bool false)], args := [d] }
  | _ => none }
def FnExactSplitInnerWrongFalsely : Prop := fnExactSplitInnerRow.holds Try.pinned (OpenSpec.ofChange fnExactSplitInnerWrong)

/-- 'laws.FnExactCutKid': WHATEVER THE INPUT: true; the input reads as it did. -/
def fnExactCutKidSpec : ChangeSpec := { name := "fnExactCutKid", fn := fun _ => fun
  | [d1, d2] => { results := [.lit (.bool true)], args := [d1, d2] }
  | _ => none }
def fnExactCutKidRow : OpenClaim := { program := "ytbdiacopffnnbaa", sum := "9ddb18021f22b66801c45bb71ca6dabbfca910d0a86bd424010b516f419d3544", func := "loop.example/pagetree/laws.FnExactCutKid", spec := "fnExactCutKid", apart := false }
def FnExactCutKidSaid : Prop := fnExactCutKidRow.holds Try.pinned (OpenSpec.ofChange fnExactCutKidSpec)

/-- ITS FALSE NEIGHBOUR: 'it returns false'. Refute it at one input. -/
def fnExactCutKidWrong : ChangeSpec := { name := "fnExactCutKid", fn := fun _ => fun
  | [d1, d2] => { results := [.lit (.bool false)], args := [d1, d2] }
  | _ => none }
def FnExactCutKidWrongFalsely : Prop := fnExactCutKidRow.holds Try.pinned (OpenSpec.ofChange fnExactCutKidWrong)

/-- 'laws.FnExactJoinInner': WHATEVER THE INPUT: true; the input reads as it did. -/
def fnExactJoinInnerSpec : ChangeSpec := { name := "fnExactJoinInner", fn := fun _ => fun
  | [d1, d2, d3] => { results := [.lit (.bool true)], args := [d1, d2, d3] }
  | _ => none }
def fnExactJoinInnerRow : OpenClaim := { program := "ytbdiacopffnnbaa", sum := "9ddb18021f22b66801c45bb71ca6dabbfca910d0a86bd424010b516f419d3544", func := "loop.example/pagetree/laws.FnExactJoinInner", spec := "fnExactJoinInner", apart := false }
def FnExactJoinInnerSaid : Prop := fnExactJoinInnerRow.holds Try.pinned (OpenSpec.ofChange fnExactJoinInnerSpec)

/-- ITS FALSE NEIGHBOUR: 'it returns false'. Refute it at one input. -/
def fnExactJoinInnerWrong : ChangeSpec := { name := "fnExactJoinInner", fn := fun _ => fun
  | [d1, d2, d3] => { results := [.lit (.bool false)], args := [d1, d2, d3] }
  | _ => none }
def FnExactJoinInnerWrongFalsely : Prop := fnExactJoinInnerRow.holds Try.pinned (OpenSpec.ofChange fnExactJoinInnerWrong)

/-- 'laws.FnExactDropPair': WHATEVER THE INPUT: true; the input reads as it did. -/
def fnExactDropPairSpec : ChangeSpec := { name := "fnExactDropPair", fn := fun _ => fun
  | [d1, d2] => { results := [.lit (.bool true)], args := [d1, d2] }
  | _ => none }
def fnExactDropPairRow : OpenClaim := { program := "ytbdiacopffnnbaa", sum := "9ddb18021f22b66801c45bb71ca6dabbfca910d0a86bd424010b516f419d3544", func := "loop.example/pagetree/laws.FnExactDropPair", spec := "fnExactDropPair", unfollowed := true, recurses := true, apart := false }
def FnExactDropPairSaid : Prop := fnExactDropPairRow.holds Try.pinned (OpenSpec.ofChange fnExactDropPairSpec)

/-- ITS FALSE NEIGHBOUR: 'it returns false'. Refute it at one input. -/
def fnExactDropPairWrong : ChangeSpec := { name := "fnExactDropPair", fn := fun _ => fun
  | [d1, d2] => { results := [.lit (.bool false)], args := [d1, d2] }
  | _ => none }
def FnExactDropPairWrongFalsely : Prop := fnExactDropPairRow.holds Try.pinned (OpenSpec.ofChange fnExactDropPairWrong)

/-- 'laws.FnExactInsertKey': WHATEVER THE INPUT: true; the input reads as it did. -/
def fnExactInsertKeySpec : ChangeSpec := { name := "fnExactInsertKey", fn := fun _ => fun
  | [d1, d2] => { results := [.lit (.bool true)], args := [d1, d2] }
  | _ => none }
def fnExactInsertKeyRow : OpenClaim := { program := "ytbdiacopffnnbaa", sum := "9ddb18021f22b66801c45bb71ca6dabbfca910d0a86bd424010b516f419d3544", func := "loop.example/pagetree/laws.FnExactInsertKey", spec := "fnExactInsertKey", inPlace := ["slices.overlaps[int]"], unfollowed := true, recurses := true, apart := false }
def FnExactInsertKeySaid : Prop := fnExactInsertKeyRow.holds Try.pinned (OpenSpec.ofChange fnExactInsertKeySpec)

/-- ITS FALSE NEIGHBOUR: 'it returns false'. Refute it at one input. -/
def fnExactInsertKeyWrong : ChangeSpec := { name := "fnExactInsertKey", fn := fun _ => fun
  | [d1, d2] => { results := [.lit (.bool false)], args := [d1, d2] }
  | _ => none }
def FnExactInsertKeyWrongFalsely : Prop := fnExactInsertKeyRow.holds Try.pinned (OpenSpec.ofChange fnExactInsertKeyWrong)

/-- 'laws.FnExactPackPage': WHATEVER THE INPUT: true; the input reads as it did. -/
def fnExactPackPageSpec : ChangeSpec := { name := "fnExactPackPage", fn := fun _ => fun
  | [d] => { results := [.lit (.bool true)], args := [d] }
  | _ => none }
def fnExactPackPageRow : OpenClaim := { program := "ytbdiacopffnnbaa", sum := "9ddb18021f22b66801c45bb71ca6dabbfca910d0a86bd424010b516f419d3544", func := "loop.example/pagetree/laws.FnExactPackPage", spec := "fnExactPackPage", apart := false }
def FnExactPackPageSaid : Prop := fnExactPackPageRow.holds Try.pinned (OpenSpec.ofChange fnExactPackPageSpec)

/-- ITS FALSE NEIGHBOUR: 'it returns false'. Refute it at one input. -/
def fnExactPackPageWrong : ChangeSpec := { name := "fnExactPackPage", fn := fun _ => fun
  | [d] => { results := [.lit (.bool false)], args := [d] }
  | _ => none }
def FnExactPackPageWrongFalsely : Prop := fnExactPackPageRow.holds Try.pinned (OpenSpec.ofChange fnExactPackPageWrong)

/-- 'laws.FnExactValidTree': WHATEVER THE INPUT: true; the input reads as it did. -/
def fnExactValidTreeSpec : ChangeSpec := { name := "fnExactValidTree", fn := fun _ => fun
  | [d] => { results := [.lit (.bool true)], args := [d] }
  | _ => none }
def fnExactValidTreeRow : OpenClaim := { program := "ytbdiacopffnnbaa", sum := "9ddb18021f22b66801c45bb71ca6dabbfca910d0a86bd424010b516f419d3544", func := "loop.example/pagetree/laws.FnExactValidTree", spec := "fnExactValidTree", recurses := true, apart := false }
def FnExactValidTreeSaid : Prop := fnExactValidTreeRow.holds Try.pinned (OpenSpec.ofChange fnExactValidTreeSpec)

/-- ITS FALSE NEIGHBOUR: 'it returns false'. Refute it at one input. -/
def fnExactValidTreeWrong : ChangeSpec := { name := "fnExactValidTree", fn := fun _ => fun
  | [d] => { results := [.lit (.bool false)], args := [d] }
  | _ => none }
def FnExactValidTreeWrongFalsely : Prop := fnExactValidTreeRow.holds Try.pinned (OpenSpec.ofChange fnExactValidTreeWrong)

/-- 'laws.FnExactAddKid': WHATEVER THE INPUT: true; the input reads as it did. -/
def fnExactAddKidSpec : ChangeSpec := { name := "fnExactAddKid", fn := fun _ => fun
  | [d1, d2, d3, d4] => { results := [.lit (.bool true)], args := [d1, d2, d3, d4] }
  | _ => none }
def fnExactAddKidRow : OpenClaim := { program := "ytbdiacopffnnbaa", sum := "9ddb18021f22b66801c45bb71ca6dabbfca910d0a86bd424010b516f419d3544", func := "loop.example/pagetree/laws.FnExactAddKid", spec := "fnExactAddKid", inPlace := ["slices.overlaps[int]"], apart := false }
def FnExactAddKidSaid : Prop := fnExactAddKidRow.holds Try.pinned (OpenSpec.ofChange fnExactAddKidSpec)

/-- ITS FALSE NEIGHBOUR: 'it returns false'. Refute it at one input. -/
def fnExactAddKidWrong : ChangeSpec := { name := "fnExactAddKid", fn := fun _ => fun
  | [d1, d2, d3, d4] => { results := [.lit (.bool false)], args := [d1, d2, d3, d4] }
  | _ => none }
def FnExactAddKidWrongFalsely : Prop := fnExactAddKidRow.holds Try.pinned (OpenSpec.ofChange fnExactAddKidWrong)

/-- 'laws.FnExactUnpackPage': WHATEVER THE INPUT: true; the input reads as it did. -/
def fnExactUnpackPageSpec : ChangeSpec := { name := "fnExactUnpackPage", fn := fun _ => fun
  | [d] => { results := [.lit (.bool true)], args := [d] }
  | _ => none }
def fnExactUnpackPageRow : OpenClaim := { program := "ytbdiacopffnnbaa", sum := "9ddb18021f22b66801c45bb71ca6dabbfca910d0a86bd424010b516f419d3544", func := "loop.example/pagetree/laws.FnExactUnpackPage", spec := "fnExactUnpackPage", apart := false }
def FnExactUnpackPageSaid : Prop := fnExactUnpackPageRow.holds Try.pinned (OpenSpec.ofChange fnExactUnpackPageSpec)

/-- ITS FALSE NEIGHBOUR: 'it returns false'. Refute it at one input. -/
def fnExactUnpackPageWrong : ChangeSpec := { name := "fnExactUnpackPage", fn := fun _ => fun
  | [d] => { results := [.lit (.bool false)], args := [d] }
  | _ => none }
def FnExactUnpackPageWrongFalsely : Prop := fnExactUnpackPageRow.holds Try.pinned (OpenSpec.ofChange fnExactUnpackPageWrong)

/-- 'laws.FnExactHeightOf': WHATEVER THE INPUT: true; the input reads as it did. -/
def fnExactHeightOfSpec : ChangeSpec := { name := "fnExactHeightOf", fn := fun _ => fun
  | [d] => { results := [.lit (.bool true)], args := [d] }
  | _ => none }
def fnExactHeightOfRow : OpenClaim := { program := "ytbdiacopffnnbaa", sum := "9ddb18021f22b66801c45bb71ca6dabbfca910d0a86bd424010b516f419d3544", func := "loop.example/pagetree/laws.FnExactHeightOf", spec := "fnExactHeightOf", recurses := true, apart := false }
def FnExactHeightOfSaid : Prop := fnExactHeightOfRow.holds Try.pinned (OpenSpec.ofChange fnExactHeightOfSpec)

/-- ITS FALSE NEIGHBOUR: 'it returns false'. Refute it at one input. -/
def fnExactHeightOfWrong : ChangeSpec := { name := "fnExactHeightOf", fn := fun _ => fun
  | [d] => { results := [.lit (.bool false)], args := [d] }
  | _ => none }
def FnExactHeightOfWrongFalsely : Prop := fnExactHeightOfRow.holds Try.pinned (OpenSpec.ofChange fnExactHeightOfWrong)

/-- 'laws.FnExactIsSafe': WHATEVER THE INPUT: true; the input reads as it did. -/
def fnExactIsSafeSpec : ChangeSpec := { name := "fnExactIsSafe", fn := fun _ => fun
  | [d1, d2, d3] => { results := [.lit (.bool true)], args := [d1, d2, d3] }
  | _ => none }
def fnExactIsSafeRow : OpenClaim := { program := "ytbdiacopffnnbaa", sum := "9ddb18021f22b66801c45bb71ca6dabbfca910d0a86bd424010b516f419d3544", func := "loop.example/pagetree/laws.FnExactIsSafe", spec := "fnExactIsSafe", recurses := true, apart := false }
def FnExactIsSafeSaid : Prop := fnExactIsSafeRow.holds Try.pinned (OpenSpec.ofChange fnExactIsSafeSpec)

/-- ITS FALSE NEIGHBOUR: 'it returns false'. Refute it at one input. -/
def fnExactIsSafeWrong : ChangeSpec := { name := "fnExactIsSafe", fn := fun _ => fun
  | [d1, d2, d3] => { results := [.lit (.bool false)], args := [d1, d2, d3] }
  | _ => none }
def FnExactIsSafeWrongFalsely : Prop := fnExactIsSafeRow.holds Try.pinned (OpenSpec.ofChange fnExactIsSafeWrong)

/-- 'laws.FnExactPutPair': WHATEVER THE INPUT: true; the input reads as it did. -/
def fnExactPutPairSpec : ChangeSpec := { name := "fnExactPutPair", fn := fun _ => fun
  | [d1, d2] => { results := [.lit (.bool true)], args := [d1, d2] }
  | _ => none }
def fnExactPutPairRow : OpenClaim := { program := "ytbdiacopffnnbaa", sum := "9ddb18021f22b66801c45bb71ca6dabbfca910d0a86bd424010b516f419d3544", func := "loop.example/pagetree/laws.FnExactPutPair", spec := "fnExactPutPair", inPlace := ["slices.overlaps[loop.example/pagetree/impl.Pair]"], unfollowed := true, recurses := true, apart := false }
def FnExactPutPairSaid : Prop := fnExactPutPairRow.holds Try.pinned (OpenSpec.ofChange fnExactPutPairSpec)

/-- ITS FALSE NEIGHBOUR: 'it returns false'. Refute it at one input. -/
def fnExactPutPairWrong : ChangeSpec := { name := "fnExactPutPair", fn := fun _ => fun
  | [d1, d2] => { results := [.lit (.bool false)], args := [d1, d2] }
  | _ => none }
def FnExactPutPairWrongFalsely : Prop := fnExactPutPairRow.holds Try.pinned (OpenSpec.ofChange fnExactPutPairWrong)

/-- 'laws.FnExactLoadTree': WHATEVER THE INPUT: true; the input reads as it did. -/
def fnExactLoadTreeSpec : ChangeSpec := { name := "fnExactLoadTree", fn := fun _ => fun
  | [d] => { results := [.lit (.bool true)], args := [d] }
  | _ => none }
def fnExactLoadTreeRow : OpenClaim := { program := "ytbdiacopffnnbaa", sum := "9ddb18021f22b66801c45bb71ca6dabbfca910d0a86bd424010b516f419d3544", func := "loop.example/pagetree/laws.FnExactLoadTree", spec := "fnExactLoadTree", apart := false }
def FnExactLoadTreeSaid : Prop := fnExactLoadTreeRow.holds Try.pinned (OpenSpec.ofChange fnExactLoadTreeSpec)

/-- ITS FALSE NEIGHBOUR: 'it returns false'. Refute it at one input. -/
def fnExactLoadTreeWrong : ChangeSpec := { name := "fnExactLoadTree", fn := fun _ => fun
  | [d] => { results := [.lit (.bool false)], args := [d] }
  | _ => none }
def FnExactLoadTreeWrongFalsely : Prop := fnExactLoadTreeRow.holds Try.pinned (OpenSpec.ofChange fnExactLoadTreeWrong)

/-- 'laws.FnExactLeavesOf': WHATEVER THE INPUT: true; the input reads as it did. -/
def fnExactLeavesOfSpec : ChangeSpec := { name := "fnExactLeavesOf", fn := fun _ => fun
  | [d] => { results := [.lit (.bool true)], args := [d] }
  | _ => none }
def fnExactLeavesOfRow : OpenClaim := { program := "ytbdiacopffnnbaa", sum := "9ddb18021f22b66801c45bb71ca6dabbfca910d0a86bd424010b516f419d3544", func := "loop.example/pagetree/laws.FnExactLeavesOf", spec := "fnExactLeavesOf", recurses := true, apart := false }
def FnExactLeavesOfSaid : Prop := fnExactLeavesOfRow.holds Try.pinned (OpenSpec.ofChange fnExactLeavesOfSpec)

/-- ITS FALSE NEIGHBOUR: 'it returns false'. Refute it at one input. -/
def fnExactLeavesOfWrong : ChangeSpec := { name := "fnExactLeavesOf", fn := fun _ => fun
  | [d] => { results := [.lit (.bool false)], args := [d] }
  | _ => none }
def FnExactLeavesOfWrongFalsely : Prop := fnExactLeavesOfRow.holds Try.pinned (OpenSpec.ofChange fnExactLeavesOfWrong)

/-- 'laws.FnExactFillOf': WHATEVER THE INPUT: true; the input reads as it did. -/
def fnExactFillOfSpec : ChangeSpec := { name := "fnExactFillOf", fn := fun _ => fun
  | [d] => { results := [.lit (.bool true)], args := [d] }
  | _ => none }
def fnExactFillOfRow : OpenClaim := { program := "ytbdiacopffnnbaa", sum := "9ddb18021f22b66801c45bb71ca6dabbfca910d0a86bd424010b516f419d3544", func := "loop.example/pagetree/laws.FnExactFillOf", spec := "fnExactFillOf", recurses := true, apart := false }
def FnExactFillOfSaid : Prop := fnExactFillOfRow.holds Try.pinned (OpenSpec.ofChange fnExactFillOfSpec)

/-- ITS FALSE NEIGHBOUR: 'it returns false'. Refute it at one input. -/
def fnExactFillOfWrong : ChangeSpec := { name := "fnExactFillOf", fn := fun _ => fun
  | [d] => { results := [.lit (.bool false)], args := [d] }
  | _ => none }
def FnExactFillOfWrongFalsely : Prop := fnExactFillOfRow.holds Try.pinned (OpenSpec.ofChange fnExactFillOfWrong)

/-- 'laws.FnExactSameTree': WHATEVER THE INPUT: true; the input reads as it did. -/
def fnExactSameTreeSpec : ChangeSpec := { name := "fnExactSameTree", fn := fun _ => fun
  | [d1, d2] => { results := [.lit (.bool true)], args := [d1, d2] }
  | _ => none }
def fnExactSameTreeRow : OpenClaim := { program := "ytbdiacopffnnbaa", sum := "9ddb18021f22b66801c45bb71ca6dabbfca910d0a86bd424010b516f419d3544", func := "loop.example/pagetree/laws.FnExactSameTree", spec := "fnExactSameTree", recurses := true, apart := false }
def FnExactSameTreeSaid : Prop := fnExactSameTreeRow.holds Try.pinned (OpenSpec.ofChange fnExactSameTreeSpec)

/-- ITS FALSE NEIGHBOUR: 'it returns false'. Refute it at one input. -/
def fnExactSameTreeWrong : ChangeSpec := { name := "fnExactSameTree", fn := fun _ => fun
  | [d1, d2] => { results := [.lit (.bool false)], args := [d1, d2] }
  | _ => none }
def FnExactSameTreeWrongFalsely : Prop := fnExactSameTreeRow.holds Try.pinned (OpenSpec.ofChange fnExactSameTreeWrong)

/-- 'laws.FnExactNextKey': WHATEVER THE INPUT: true; the input reads as it did. -/
def fnExactNextKeySpec : ChangeSpec := { name := "fnExactNextKey", fn := fun _ => fun
  | [d1, d2] => { results := [.lit (.bool true)], args := [d1, d2] }
  | _ => none }
def fnExactNextKeyRow : OpenClaim := { program := "ytbdiacopffnnbaa", sum := "9ddb18021f22b66801c45bb71ca6dabbfca910d0a86bd424010b516f419d3544", func := "loop.example/pagetree/laws.FnExactNextKey", spec := "fnExactNextKey", recurses := true, apart := false }
def FnExactNextKeySaid : Prop := fnExactNextKeyRow.holds Try.pinned (OpenSpec.ofChange fnExactNextKeySpec)

/-- ITS FALSE NEIGHBOUR: 'it returns false'. Refute it at one input. -/
def fnExactNextKeyWrong : ChangeSpec := { name := "fnExactNextKey", fn := fun _ => fun
  | [d1, d2] => { results := [.lit (.bool false)], args := [d1, d2] }
  | _ => none }
def FnExactNextKeyWrongFalsely : Prop := fnExactNextKeyRow.holds Try.pinned (OpenSpec.ofChange fnExactNextKeyWrong)

/-- 'laws.FnExactPathTo': WHATEVER THE INPUT: true; the input reads as it did. -/
def fnExactPathToSpec : ChangeSpec := { name := "fnExactPathTo", fn := fun _ => fun
  | [d1, d2] => { results := [.lit (.bool true)], args := [d1, d2] }
  | _ => none }
def fnExactPathToRow : OpenClaim := { program := "ytbdiacopffnnbaa", sum := "9ddb18021f22b66801c45bb71ca6dabbfca910d0a86bd424010b516f419d3544", func := "loop.example/pagetree/laws.FnExactPathTo", spec := "fnExactPathTo", unfollowed := true, recurses := true, apart := false }
def FnExactPathToSaid : Prop := fnExactPathToRow.holds Try.pinned (OpenSpec.ofChange fnExactPathToSpec)

/-- ITS FALSE NEIGHBOUR: 'it returns false'. Refute it at one input. -/
def fnExactPathToWrong : ChangeSpec := { name := "fnExactPathTo", fn := fun _ => fun
  | [d1, d2] => { results := [.lit (.bool false)], args := [d1, d2] }
  | _ => none }
def FnExactPathToWrongFalsely : Prop := fnExactPathToRow.holds Try.pinned (OpenSpec.ofChange fnExactPathToWrong)

/-- 'laws.FnExactRankOf': WHATEVER THE INPUT: true; the input reads as it did. -/
def fnExactRankOfSpec : ChangeSpec := { name := "fnExactRankOf", fn := fun _ => fun
  | [d1, d2] => { results := [.lit (.bool true)], args := [d1, d2] }
  | _ => none }
def fnExactRankOfRow : OpenClaim := { program := "ytbdiacopffnnbaa", sum := "9ddb18021f22b66801c45bb71ca6dabbfca910d0a86bd424010b516f419d3544", func := "loop.example/pagetree/laws.FnExactRankOf", spec := "fnExactRankOf", unfollowed := true, recurses := true, apart := false }
def FnExactRankOfSaid : Prop := fnExactRankOfRow.holds Try.pinned (OpenSpec.ofChange fnExactRankOfSpec)

/-- ITS FALSE NEIGHBOUR: 'it returns false'. Refute it at one input. -/
def fnExactRankOfWrong : ChangeSpec := { name := "fnExactRankOf", fn := fun _ => fun
  | [d1, d2] => { results := [.lit (.bool false)], args := [d1, d2] }
  | _ => none }
def FnExactRankOfWrongFalsely : Prop := fnExactRankOfRow.holds Try.pinned (OpenSpec.ofChange fnExactRankOfWrong)

/-- 'laws.FnExactPairsOf': WHATEVER THE INPUT: true; the input reads as it did. -/
def fnExactPairsOfSpec : ChangeSpec := { name := "fnExactPairsOf", fn := fun _ => fun
  | [d] => { results := [.lit (.bool true)], args := [d] }
  | _ => none }
def fnExactPairsOfRow : OpenClaim := { program := "ytbdiacopffnnbaa", sum := "9ddb18021f22b66801c45bb71ca6dabbfca910d0a86bd424010b516f419d3544", func := "loop.example/pagetree/laws.FnExactPairsOf", spec := "fnExactPairsOf", recurses := true, apart := false }
def FnExactPairsOfSaid : Prop := fnExactPairsOfRow.holds Try.pinned (OpenSpec.ofChange fnExactPairsOfSpec)

/-- ITS FALSE NEIGHBOUR: 'it returns false'. Refute it at one input. -/
def fnExactPairsOfWrong : ChangeSpec := { name := "fnExactPairsOf", fn := fun _ => fun
  | [d] => { results := [.lit (.bool false)], args := [d] }
  | _ => none }
def FnExactPairsOfWrongFalsely : Prop := fnExactPairsOfRow.holds Try.pinned (OpenSpec.ofChange fnExactPairsOfWrong)

/-- 'laws.FnExactRenumberTree': WHATEVER THE INPUT: true; the input reads as it did. -/
def fnExactRenumberTreeSpec : ChangeSpec := { name := "fnExactRenumberTree", fn := fun _ => fun
  | [d] => { results := [.lit (.bool true)], args := [d] }
  | _ => none }
def fnExactRenumberTreeRow : OpenClaim := { program := "ytbdiacopffnnbaa", sum := "9ddb18021f22b66801c45bb71ca6dabbfca910d0a86bd424010b516f419d3544", func := "loop.example/pagetree/laws.FnExactRenumberTree", spec := "fnExactRenumberTree", recurses := true, apart := false }
def FnExactRenumberTreeSaid : Prop := fnExactRenumberTreeRow.holds Try.pinned (OpenSpec.ofChange fnExactRenumberTreeSpec)

/-- ITS FALSE NEIGHBOUR: 'it returns false'. Refute it at one input. -/
def fnExactRenumberTreeWrong : ChangeSpec := { name := "fnExactRenumberTree", fn := fun _ => fun
  | [d] => { results := [.lit (.bool false)], args := [d] }
  | _ => none }
def FnExactRenumberTreeWrongFalsely : Prop := fnExactRenumberTreeRow.holds Try.pinned (OpenSpec.ofChange fnExactRenumberTreeWrong)

/-- 'laws.FnExactScanKeys': WHATEVER THE INPUT: true; the input reads as it did. -/
def fnExactScanKeysSpec : ChangeSpec := { name := "fnExactScanKeys", fn := fun _ => fun
  | [d1, d2, d3, d4] => { results := [.lit (.bool true)], args := [d1, d2, d3, d4] }
  | _ => none }
def fnExactScanKeysRow : OpenClaim := { program := "ytbdiacopffnnbaa", sum := "9ddb18021f22b66801c45bb71ca6dabbfca910d0a86bd424010b516f419d3544", func := "loop.example/pagetree/laws.FnExactScanKeys", spec := "fnExactScanKeys", recurses := true, apart := false }
def FnExactScanKeysSaid : Prop := fnExactScanKeysRow.holds Try.pinned (OpenSpec.ofChange fnExactScanKeysSpec)

/-- ITS FALSE NEIGHBOUR: 'it returns false'. Refute it at one input. -/
def fnExactScanKeysWrong : ChangeSpec := { name := "fnExactScanKeys", fn := fun _ => fun
  | [d1, d2, d3, d4] => { results := [.lit (.bool false)], args := [d1, d2, d3, d4] }
  | _ => none }
def FnExactScanKeysWrongFalsely : Prop := fnExactScanKeysRow.holds Try.pinned (OpenSpec.ofChange fnExactScanKeysWrong)

/- THE SECOND FORM. 'bulk': how many values and letters a reading holds, each counted each time it is reached (what is shared counts as often as it is met; a slice's spare places count too). A statement '..UptoSaid' is the law's where the arguments, and the package variables that the reading takes, are together of bulk at most 1048576: NARROWER than '..Said'. Prove '..Said' where nothing that the law and all that it calls make is longer than what came in: it says more and counts as full. Else prove '..UptoSaid'. A law counts once. -/
mutual
def uptoBulk {H : Type} : DataW H → Nat
  | .lit (.string bytes) => bytes.length + 1
  | .lit _ => 1
  | .nil => 1
  | .ptr d => uptoBulk d + 1
  | .slice elems spare => uptoBulkAll elems + uptoBulkAll spare + 1
  | .agg parts => uptoBulkAll parts + 1
  | .iface _ d => uptoBulk d + 1
  | .map entries => uptoBulkEntries entries + 1
  | .held _ => 1
def uptoBulkAll {H : Type} : List (DataW H) → Nat
  | [] => 0
  | d :: r => uptoBulk d + uptoBulkAll r
def uptoBulkEntries {H : Type} : List (Lit × DataW H) → Nat
  | [] => 0
  | x :: r => uptoBulkEntry x + uptoBulkEntries r
def uptoBulkEntry {H : Type} : Lit × DataW H → Nat
  | (.string bytes, d) => bytes.length + uptoBulk d + 1
  | (_, d) => uptoBulk d + 1
 end
def uptoSmall : (H : Type) → List (DataW H) → Bool := fun _ ds => decide (uptoBulkAll ds ≤ 1048576)
def OpenSpec.upto (s : _root_.Go.ChangeSpec) : _root_.Go.OpenSpec := { _root_.Go.OpenSpec.ofChange s with cond := some uptoSmall }

/-- 'laws.FnExactValueIn', WHERE WHAT IT READS IS OF BULK AT MOST 1048576: true; the input reads as it did. -/
def fnExactValueInUptoRow : OpenClaim := { program := "ytbdiacopffnnbaa", sum := "9ddb18021f22b66801c45bb71ca6dabbfca910d0a86bd424010b516f419d3544", func := "loop.example/pagetree/laws.FnExactValueIn", spec := "fnExactValueIn", unfollowed := true, recurses := true, apart := false, narrowed := true }
def FnExactValueInUptoSaid : Prop := fnExactValueInUptoRow.holds Try.pinned (OpenSpec.upto fnExactValueInSpec)

/-- 'laws.FnExactJoinRows', WHERE WHAT IT READS IS OF BULK AT MOST 1048576: true; the input reads as it did. -/
def fnExactJoinRowsUptoRow : OpenClaim := { program := "ytbdiacopffnnbaa", sum := "9ddb18021f22b66801c45bb71ca6dabbfca910d0a86bd424010b516f419d3544", func := "loop.example/pagetree/laws.FnExactJoinRows", spec := "fnExactJoinRows", apart := false, narrowed := true }
def FnExactJoinRowsUptoSaid : Prop := fnExactJoinRowsUptoRow.holds Try.pinned (OpenSpec.upto fnExactJoinRowsSpec)

/-- 'laws.FnExactSplitInner', WHERE WHAT IT READS IS OF BULK AT MOST 1048576: true; the input reads as it did. -/
def fnExactSplitInnerUptoRow : OpenClaim := { program := "ytbdiacopffnnbaa", sum := "9ddb18021f22b66801c45bb71ca6dabbfca910d0a86bd424010b516f419d3544", func := "loop.example/pagetree/laws.FnExactSplitInner", spec := "fnExactSplitInner", apart := false, narrowed := true }
def FnExactSplitInnerUptoSaid : Prop := fnExactSplitInnerUptoRow.holds Try.pinned (OpenSpec.upto fnExactSplitInnerSpec)

/-- 'laws.FnExactCutKid', WHERE WHAT IT READS IS OF BULK AT MOST 1048576: true; the input reads as it did. -/
def fnExactCutKidUptoRow : OpenClaim := { program := "ytbdiacopffnnbaa", sum := "9ddb18021f22b66801c45bb71ca6dabbfca910d0a86bd424010b516f419d3544", func := "loop.example/pagetree/laws.FnExactCutKid", spec := "fnExactCutKid", apart := false, narrowed := true }
def FnExactCutKidUptoSaid : Prop := fnExactCutKidUptoRow.holds Try.pinned (OpenSpec.upto fnExactCutKidSpec)

/-- 'laws.FnExactJoinInner', WHERE WHAT IT READS IS OF BULK AT MOST 1048576: true; the input reads as it did. -/
def fnExactJoinInnerUptoRow : OpenClaim := { program := "ytbdiacopffnnbaa", sum := "9ddb18021f22b66801c45bb71ca6dabbfca910d0a86bd424010b516f419d3544", func := "loop.example/pagetree/laws.FnExactJoinInner", spec := "fnExactJoinInner", apart := false, narrowed := true }
def FnExactJoinInnerUptoSaid : Prop := fnExactJoinInnerUptoRow.holds Try.pinned (OpenSpec.upto fnExactJoinInnerSpec)

/-- 'laws.FnExactDropPair', WHERE WHAT IT READS IS OF BULK AT MOST 1048576: true; the input reads as it did. -/
def fnExactDropPairUptoRow : OpenClaim := { program := "ytbdiacopffnnbaa", sum := "9ddb18021f22b66801c45bb71ca6dabbfca910d0a86bd424010b516f419d3544", func := "loop.example/pagetree/laws.FnExactDropPair", spec := "fnExactDropPair", unfollowed := true, recurses := true, apart := false, narrowed := true }
def FnExactDropPairUptoSaid : Prop := fnExactDropPairUptoRow.holds Try.pinned (OpenSpec.upto fnExactDropPairSpec)

/-- 'laws.FnExactInsertKey', WHERE WHAT IT READS IS OF BULK AT MOST 1048576: true; the input reads as it did. -/
def fnExactInsertKeyUptoRow : OpenClaim := { program := "ytbdiacopffnnbaa", sum := "9ddb18021f22b66801c45bb71ca6dabbfca910d0a86bd424010b516f419d3544", func := "loop.example/pagetree/laws.FnExactInsertKey", spec := "fnExactInsertKey", inPlace := ["slices.overlaps[int]"], unfollowed := true, recurses := true, apart := false, narrowed := true }
def FnExactInsertKeyUptoSaid : Prop := fnExactInsertKeyUptoRow.holds Try.pinned (OpenSpec.upto fnExactInsertKeySpec)

/-- 'laws.FnExactPackPage', WHERE WHAT IT READS IS OF BULK AT MOST 1048576: true; the input reads as it did. -/
def fnExactPackPageUptoRow : OpenClaim := { program := "ytbdiacopffnnbaa", sum := "9ddb18021f22b66801c45bb71ca6dabbfca910d0a86bd424010b516f419d3544", func := "loop.example/pagetree/laws.FnExactPackPage", spec := "fnExactPackPage", apart := false, narrowed := true }
def FnExactPackPageUptoSaid : Prop := fnExactPackPageUptoRow.holds Try.pinned (OpenSpec.upto fnExactPackPageSpec)

/-- 'laws.FnExactValidTree', WHERE WHAT IT READS IS OF BULK AT MOST 1048576: true; the input reads as it did. -/
def fnExactValidTreeUptoRow : OpenClaim := { program := "ytbdiacopffnnbaa", sum := "9ddb18021f22b66801c45bb71ca6dabbfca910d0a86bd424010b516f419d3544", func := "loop.example/pagetree/laws.FnExactValidTree", spec := "fnExactValidTree", recurses := true, apart := false, narrowed := true }
def FnExactValidTreeUptoSaid : Prop := fnExactValidTreeUptoRow.holds Try.pinned (OpenSpec.upto fnExactValidTreeSpec)

/-- 'laws.FnExactAddKid', WHERE WHAT IT READS IS OF BULK AT MOST 1048576: true; the input reads as it did. -/
def fnExactAddKidUptoRow : OpenClaim := { program := "ytbdiacopffnnbaa", sum := "9ddb18021f22b66801c45bb71ca6dabbfca910d0a86bd424010b516f419d3544", func := "loop.example/pagetree/laws.FnExactAddKid", spec := "fnExactAddKid", inPlace := ["slices.overlaps[int]"], apart := false, narrowed := true }
def FnExactAddKidUptoSaid : Prop := fnExactAddKidUptoRow.holds Try.pinned (OpenSpec.upto fnExactAddKidSpec)

/-- 'laws.FnExactUnpackPage', WHERE WHAT IT READS IS OF BULK AT MOST 1048576: true; the input reads as it did. -/
def fnExactUnpackPageUptoRow : OpenClaim := { program := "ytbdiacopffnnbaa", sum := "9ddb18021f22b66801c45bb71ca6dabbfca910d0a86bd424010b516f419d3544", func := "loop.example/pagetree/laws.FnExactUnpackPage", spec := "fnExactUnpackPage", apart := false, narrowed := true }
def FnExactUnpackPageUptoSaid : Prop := fnExactUnpackPageUptoRow.holds Try.pinned (OpenSpec.upto fnExactUnpackPageSpec)

/-- 'laws.FnExactHeightOf', WHERE WHAT IT READS IS OF BULK AT MOST 1048576: true; the input reads as it did. -/
def fnExactHeightOfUptoRow : OpenClaim := { program := "ytbdiacopffnnbaa", sum := "9ddb18021f22b66801c45bb71ca6dabbfca910d0a86bd424010b516f419d3544", func := "loop.example/pagetree/laws.FnExactHeightOf", spec := "fnExactHeightOf", recurses := true, apart := false, narrowed := true }
def FnExactHeightOfUptoSaid : Prop := fnExactHeightOfUptoRow.holds Try.pinned (OpenSpec.upto fnExactHeightOfSpec)

/-- 'laws.FnExactIsSafe', WHERE WHAT IT READS IS OF BULK AT MOST 1048576: true; the input reads as it did. -/
def fnExactIsSafeUptoRow : OpenClaim := { program := "ytbdiacopffnnbaa", sum := "9ddb18021f22b66801c45bb71ca6dabbfca910d0a86bd424010b516f419d3544", func := "loop.example/pagetree/laws.FnExactIsSafe", spec := "fnExactIsSafe", recurses := true, apart := false, narrowed := true }
def FnExactIsSafeUptoSaid : Prop := fnExactIsSafeUptoRow.holds Try.pinned (OpenSpec.upto fnExactIsSafeSpec)

/-- 'laws.FnExactPutPair', WHERE WHAT IT READS IS OF BULK AT MOST 1048576: true; the input reads as it did. -/
def fnExactPutPairUptoRow : OpenClaim := { program := "ytbdiacopffnnbaa", sum := "9ddb18021f22b66801c45bb71ca6dabbfca910d0a86bd424010b516f419d3544", func := "loop.example/pagetree/laws.FnExactPutPair", spec := "fnExactPutPair", inPlace := ["slices.overlaps[loop.example/pagetree/impl.Pair]"], unfollowed := true, recurses := true, apart := false, narrowed := true }
def FnExactPutPairUptoSaid : Prop := fnExactPutPairUptoRow.holds Try.pinned (OpenSpec.upto fnExactPutPairSpec)

/-- 'laws.FnExactLoadTree', WHERE WHAT IT READS IS OF BULK AT MOST 1048576: true; the input reads as it did. -/
def fnExactLoadTreeUptoRow : OpenClaim := { program := "ytbdiacopffnnbaa", sum := "9ddb18021f22b66801c45bb71ca6dabbfca910d0a86bd424010b516f419d3544", func := "loop.example/pagetree/laws.FnExactLoadTree", spec := "fnExactLoadTree", apart := false, narrowed := true }
def FnExactLoadTreeUptoSaid : Prop := fnExactLoadTreeUptoRow.holds Try.pinned (OpenSpec.upto fnExactLoadTreeSpec)

/-- 'laws.FnExactLeavesOf', WHERE WHAT IT READS IS OF BULK AT MOST 1048576: true; the input reads as it did. -/
def fnExactLeavesOfUptoRow : OpenClaim := { program := "ytbdiacopffnnbaa", sum := "9ddb18021f22b66801c45bb71ca6dabbfca910d0a86bd424010b516f419d3544", func := "loop.example/pagetree/laws.FnExactLeavesOf", spec := "fnExactLeavesOf", recurses := true, apart := false, narrowed := true }
def FnExactLeavesOfUptoSaid : Prop := fnExactLeavesOfUptoRow.holds Try.pinned (OpenSpec.upto fnExactLeavesOfSpec)

/-- 'laws.FnExactFillOf', WHERE WHAT IT READS IS OF BULK AT MOST 1048576: true; the input reads as it did. -/
def fnExactFillOfUptoRow : OpenClaim := { program := "ytbdiacopffnnbaa", sum := "9ddb18021f22b66801c45bb71ca6dabbfca910d0a86bd424010b516f419d3544", func := "loop.example/pagetree/laws.FnExactFillOf", spec := "fnExactFillOf", recurses := true, apart := false, narrowed := true }
def FnExactFillOfUptoSaid : Prop := fnExactFillOfUptoRow.holds Try.pinned (OpenSpec.upto fnExactFillOfSpec)

/-- 'laws.FnExactSameTree', WHERE WHAT IT READS IS OF BULK AT MOST 1048576: true; the input reads as it did. -/
def fnExactSameTreeUptoRow : OpenClaim := { program := "ytbdiacopffnnbaa", sum := "9ddb18021f22b66801c45bb71ca6dabbfca910d0a86bd424010b516f419d3544", func := "loop.example/pagetree/laws.FnExactSameTree", spec := "fnExactSameTree", recurses := true, apart := false, narrowed := true }
def FnExactSameTreeUptoSaid : Prop := fnExactSameTreeUptoRow.holds Try.pinned (OpenSpec.upto fnExactSameTreeSpec)

/-- 'laws.FnExactNextKey', WHERE WHAT IT READS IS OF BULK AT MOST 1048576: true; the input reads as it did. -/
def fnExactNextKeyUptoRow : OpenClaim := { program := "ytbdiacopffnnbaa", sum := "9ddb18021f22b66801c45bb71ca6dabbfca910d0a86bd424010b516f419d3544", func := "loop.example/pagetree/laws.FnExactNextKey", spec := "fnExactNextKey", recurses := true, apart := false, narrowed := true }
def FnExactNextKeyUptoSaid : Prop := fnExactNextKeyUptoRow.holds Try.pinned (OpenSpec.upto fnExactNextKeySpec)

/-- 'laws.FnExactPathTo', WHERE WHAT IT READS IS OF BULK AT MOST 1048576: true; the input reads as it did. -/
def fnExactPathToUptoRow : OpenClaim := { program := "ytbdiacopffnnbaa", sum := "9ddb18021f22b66801c45bb71ca6dabbfca910d0a86bd424010b516f419d3544", func := "loop.example/pagetree/laws.FnExactPathTo", spec := "fnExactPathTo", unfollowed := true, recurses := true, apart := false, narrowed := true }
def FnExactPathToUptoSaid : Prop := fnExactPathToUptoRow.holds Try.pinned (OpenSpec.upto fnExactPathToSpec)

/-- 'laws.FnExactRankOf', WHERE WHAT IT READS IS OF BULK AT MOST 1048576: true; the input reads as it did. -/
def fnExactRankOfUptoRow : OpenClaim := { program := "ytbdiacopffnnbaa", sum := "9ddb18021f22b66801c45bb71ca6dabbfca910d0a86bd424010b516f419d3544", func := "loop.example/pagetree/laws.FnExactRankOf", spec := "fnExactRankOf", unfollowed := true, recurses := true, apart := false, narrowed := true }
def FnExactRankOfUptoSaid : Prop := fnExactRankOfUptoRow.holds Try.pinned (OpenSpec.upto fnExactRankOfSpec)

/-- 'laws.FnExactPairsOf', WHERE WHAT IT READS IS OF BULK AT MOST 1048576: true; the input reads as it did. -/
def fnExactPairsOfUptoRow : OpenClaim := { program := "ytbdiacopffnnbaa", sum := "9ddb18021f22b66801c45bb71ca6dabbfca910d0a86bd424010b516f419d3544", func := "loop.example/pagetree/laws.FnExactPairsOf", spec := "fnExactPairsOf", recurses := true, apart := false, narrowed := true }
def FnExactPairsOfUptoSaid : Prop := fnExactPairsOfUptoRow.holds Try.pinned (OpenSpec.upto fnExactPairsOfSpec)

/-- 'laws.FnExactRenumberTree', WHERE WHAT IT READS IS OF BULK AT MOST 1048576: true; the input reads as it did. -/
def fnExactRenumberTreeUptoRow : OpenClaim := { program := "ytbdiacopffnnbaa", sum := "9ddb18021f22b66801c45bb71ca6dabbfca910d0a86bd424010b516f419d3544", func := "loop.example/pagetree/laws.FnExactRenumberTree", spec := "fnExactRenumberTree", recurses := true, apart := false, narrowed := true }
def FnExactRenumberTreeUptoSaid : Prop := fnExactRenumberTreeUptoRow.holds Try.pinned (OpenSpec.upto fnExactRenumberTreeSpec)

/-- 'laws.FnExactScanKeys', WHERE WHAT IT READS IS OF BULK AT MOST 1048576: true; the input reads as it did. -/
def fnExactScanKeysUptoRow : OpenClaim := { program := "ytbdiacopffnnbaa", sum := "9ddb18021f22b66801c45bb71ca6dabbfca910d0a86bd424010b516f419d3544", func := "loop.example/pagetree/laws.FnExactScanKeys", spec := "fnExactScanKeys", recurses := true, apart := false, narrowed := true }
def FnExactScanKeysUptoSaid : Prop := fnExactScanKeysUptoRow.holds Try.pinned (OpenSpec.upto fnExactScanKeysSpec)

end Rows
end Go.Proofs.Ytbdiacopffnnbaa
