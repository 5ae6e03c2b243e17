/-
  No cell of these rows narrows 'for every input' (looked for: loops, veiled, ifaces, maps, wideKeys, modest, calm, conditions, laid).
  DERIVED. THE GIVEN ROWS OF THIS SEAT. 12 by the template 'for every input the law returns true; each argument reads behind the call as it read before'; 0 by the template 'total and deterministic' (their statements: YtbpfagbihffmbaaTotals.lean).
  GIVEN WITH THE SEED: the statements are not yours to turn. If you find one false, say at which input.
  Laid BY PROGRAM, IN A SANDBOX (cutbox-rows.mjs): the forced cells as the released guide's own fill.sh prints them over the translation 71bc09babcdc99e7… (all of the seat's roots in one cut). By AI agents, Wed Nov 11 2026. No macro, syntax, notation, axiom, sorry.
-/
import Derived.Test.YtbpfagbihffmbaaChecked
import GoSem.Claim
import GoSem.ClaimJoined
import GoSem.ClaimMapViews
import Derived.JoinedTies
import Derived.KernelRfl
namespace Go.Proofs.Ytbpfagbihffmbaa
/- THE CELL 'sum', in the pinned program and in every row, IS THE sha256 OF THE DUMP (.gsa) THAT YtbpfagbihffmbaaProg.lean LOADS. Nothing in Lean hashes anything: it is a label: what it is worth is what the hold of that sum in a sandbox is worth. -/
noncomputable def Try.pinned : Pinned := { name := "ytbpfagbihffmbaa", sum := "71bc09babcdc99e7852b023269e69c05add19ec76bd7bfdf076d846be7bbd13a", checked := Try.checked }
namespace Rows
def none {H : Type} : Left H := { results := [], args := [] }

/-- 'laws.FnExactDropKey': WHATEVER THE INPUT: true; the input reads as it did. -/
def fnExactDropKeySpec : ChangeSpec := { name := "fnExactDropKey", fn := fun _ => fun
  | [d1, d2] => { results := [.lit (.bool true)], args := [d1, d2] }
  | _ => none }
def fnExactDropKeyRow : OpenClaim := { program := "ytbpfagbihffmbaa", sum := "71bc09babcdc99e7852b023269e69c05add19ec76bd7bfdf076d846be7bbd13a", func := "loop.example/pagetree/laws.FnExactDropKey", spec := "fnExactDropKey", unfollowed := true, recurses := true, apart := false }
def FnExactDropKeySaid : Prop := fnExactDropKeyRow.holds Try.pinned (OpenSpec.ofChange fnExactDropKeySpec)

/-- ITS FALSE NEIGHBOUR: 'it returns false'. Refute it at one input. -/
def fnExactDropKeyWrong : ChangeSpec := { name := "fnExactDropKey", fn := fun _ => fun
  | [d1, d2] => { results := [.lit (.bool false)], args := [d1, d2] }
  | _ => none }
def FnExactDropKeyWrongFalsely : Prop := fnExactDropKeyRow.holds Try.pinned (OpenSpec.ofChange fnExactDropKeyWrong)

/-- 'laws.FnExactDropAll': WHATEVER THE INPUT: true; the input reads as it did. -/
def fnExactDropAllSpec : ChangeSpec := { name := "fnExactDropAll", fn := fun _ => fun
  | [d1, d2] => { results := [.lit (.bool true)], args := [d1, d2] }
  | _ => none }
def fnExactDropAllRow : OpenClaim := { program := "ytbpfagbihffmbaa", sum := "71bc09babcdc99e7852b023269e69c05add19ec76bd7bfdf076d846be7bbd13a", func := "loop.example/pagetree/laws.FnExactDropAll", spec := "fnExactDropAll", unfollowed := true, recurses := true, apart := false }
def FnExactDropAllSaid : Prop := fnExactDropAllRow.holds Try.pinned (OpenSpec.ofChange fnExactDropAllSpec)

/-- ITS FALSE NEIGHBOUR: 'it returns false'. Refute it at one input. -/
def fnExactDropAllWrong : ChangeSpec := { name := "fnExactDropAll", fn := fun _ => fun
  | [d1, d2] => { results := [.lit (.bool false)], args := [d1, d2] }
  | _ => none }
def FnExactDropAllWrongFalsely : Prop := fnExactDropAllRow.holds Try.pinned (OpenSpec.ofChange fnExactDropAllWrong)

/-- 'laws.FnExactPutAll': WHATEVER THE INPUT: true; the input reads as it did. -/
def fnExactPutAllSpec : ChangeSpec := { name := "fnExactPutAll", fn := fun _ => fun
  | [d1, d2] => { results := [.lit (.bool true)], args := [d1, d2] }
  | _ => none }
def fnExactPutAllRow : OpenClaim := { program := "ytbpfagbihffmbaa", sum := "71bc09babcdc99e7852b023269e69c05add19ec76bd7bfdf076d846be7bbd13a", func := "loop.example/pagetree/laws.FnExactPutAll", spec := "fnExactPutAll", inPlace := ["slices.overlaps[loop.example/pagetree/impl.Pair]", "slices.overlaps[int]"], unfollowed := true, recurses := true, apart := false }
def FnExactPutAllSaid : Prop := fnExactPutAllRow.holds Try.pinned (OpenSpec.ofChange fnExactPutAllSpec)

/-- ITS FALSE NEIGHBOUR: 'it returns false'. Refute it at one input. -/
def fnExactPutAllWrong : ChangeSpec := { name := "fnExactPutAll", fn := fun _ => fun
  | [d1, d2] => { results := [.lit (.bool false)], args := [d1, d2] }
  | _ => none }
def FnExactPutAllWrongFalsely : Prop := fnExactPutAllRow.holds Try.pinned (OpenSpec.ofChange fnExactPutAllWrong)

/-- 'laws.FnExactJoinsFor': WHATEVER THE INPUT: true; the input reads as it did. -/
def fnExactJoinsForSpec : ChangeSpec := { name := "fnExactJoinsFor", fn := fun _ => fun
  | [d1, d2] => { results := [.lit (.bool true)], args := [d1, d2] }
  | _ => none }
def fnExactJoinsForRow : OpenClaim := { program := "ytbpfagbihffmbaa", sum := "71bc09babcdc99e7852b023269e69c05add19ec76bd7bfdf076d846be7bbd13a", func := "loop.example/pagetree/laws.FnExactJoinsFor", spec := "fnExactJoinsFor", unfollowed := true, recurses := true, apart := false }
def FnExactJoinsForSaid : Prop := fnExactJoinsForRow.holds Try.pinned (OpenSpec.ofChange fnExactJoinsForSpec)

/-- ITS FALSE NEIGHBOUR: 'it returns false'. Refute it at one input. -/
def fnExactJoinsForWrong : ChangeSpec := { name := "fnExactJoinsFor", fn := fun _ => fun
  | [d1, d2] => { results := [.lit (.bool false)], args := [d1, d2] }
  | _ => none }
def FnExactJoinsForWrongFalsely : Prop := fnExactJoinsForRow.holds Try.pinned (OpenSpec.ofChange fnExactJoinsForWrong)

/-- 'laws.FnExactPutKey': WHATEVER THE INPUT: true; the input reads as it did. -/
def fnExactPutKeySpec : ChangeSpec := { name := "fnExactPutKey", fn := fun _ => fun
  | [d1, d2] => { results := [.lit (.bool true)], args := [d1, d2] }
  | _ => none }
def fnExactPutKeyRow : OpenClaim := { program := "ytbpfagbihffmbaa", sum := "71bc09babcdc99e7852b023269e69c05add19ec76bd7bfdf076d846be7bbd13a", func := "loop.example/pagetree/laws.FnExactPutKey", spec := "fnExactPutKey", inPlace := ["slices.overlaps[loop.example/pagetree/impl.Pair]", "slices.overlaps[int]"], unfollowed := true, recurses := true, apart := false }
def FnExactPutKeySaid : Prop := fnExactPutKeyRow.holds Try.pinned (OpenSpec.ofChange fnExactPutKeySpec)

/-- ITS FALSE NEIGHBOUR: 'it returns false'. Refute it at one input. -/
def fnExactPutKeyWrong : ChangeSpec := { name := "fnExactPutKey", fn := fun _ => fun
  | [d1, d2] => { results := [.lit (.bool false)], args := [d1, d2] }
  | _ => none }
def FnExactPutKeyWrongFalsely : Prop := fnExactPutKeyRow.holds Try.pinned (OpenSpec.ofChange fnExactPutKeyWrong)

/-- 'laws.FnExactChangedPages': WHATEVER THE INPUT: true; the input reads as it did. -/
def fnExactChangedPagesSpec : ChangeSpec := { name := "fnExactChangedPages", fn := fun _ => fun
  | [d1, d2] => { results := [.lit (.bool true)], args := [d1, d2] }
  | _ => none }
def fnExactChangedPagesRow : OpenClaim := { program := "ytbpfagbihffmbaa", sum := "71bc09babcdc99e7852b023269e69c05add19ec76bd7bfdf076d846be7bbd13a", func := "loop.example/pagetree/laws.FnExactChangedPages", spec := "fnExactChangedPages", inPlace := ["slices.overlaps[loop.example/pagetree/impl.Pair]", "slices.overlaps[int]"], unfollowed := true, recurses := true, apart := false }
def FnExactChangedPagesSaid : Prop := fnExactChangedPagesRow.holds Try.pinned (OpenSpec.ofChange fnExactChangedPagesSpec)

/-- ITS FALSE NEIGHBOUR: 'it returns false'. Refute it at one input. -/
def fnExactChangedPagesWrong : ChangeSpec := { name := "fnExactChangedPages", fn := fun _ => fun
  | [d1, d2] => { results := [.lit (.bool false)], args := [d1, d2] }
  | _ => none }
def FnExactChangedPagesWrongFalsely : Prop := fnExactChangedPagesRow.holds Try.pinned (OpenSpec.ofChange fnExactChangedPagesWrong)

/-- 'laws.FnExactSplitsFor': WHATEVER THE INPUT: true; the input reads as it did. -/
def fnExactSplitsForSpec : ChangeSpec := { name := "fnExactSplitsFor", fn := fun _ => fun
  | [d1, d2] => { results := [.lit (.bool true)], args := [d1, d2] }
  | _ => none }
def fnExactSplitsForRow : OpenClaim := { program := "ytbpfagbihffmbaa", sum := "71bc09babcdc99e7852b023269e69c05add19ec76bd7bfdf076d846be7bbd13a", func := "loop.example/pagetree/laws.FnExactSplitsFor", spec := "fnExactSplitsFor", unfollowed := true, recurses := true, apart := false }
def FnExactSplitsForSaid : Prop := fnExactSplitsForRow.holds Try.pinned (OpenSpec.ofChange fnExactSplitsForSpec)

/-- ITS FALSE NEIGHBOUR: 'it returns false'. Refute it at one input. -/
def fnExactSplitsForWrong : ChangeSpec := { name := "fnExactSplitsFor", fn := fun _ => fun
  | [d1, d2] => { results := [.lit (.bool false)], args := [d1, d2] }
  | _ => none }
def FnExactSplitsForWrongFalsely : Prop := fnExactSplitsForRow.holds Try.pinned (OpenSpec.ofChange fnExactSplitsForWrong)

/-- 'laws.FnExactLatchPath': WHATEVER THE INPUT: true; the input reads as it did. -/
def fnExactLatchPathSpec : ChangeSpec := { name := "fnExactLatchPath", fn := fun _ => fun
  | [d1, d2, d3] => { results := [.lit (.bool true)], args := [d1, d2, d3] }
  | _ => none }
def fnExactLatchPathRow : OpenClaim := { program := "ytbpfagbihffmbaa", sum := "71bc09babcdc99e7852b023269e69c05add19ec76bd7bfdf076d846be7bbd13a", func := "loop.example/pagetree/laws.FnExactLatchPath", spec := "fnExactLatchPath", unfollowed := true, recurses := true, apart := false }
def FnExactLatchPathSaid : Prop := fnExactLatchPathRow.holds Try.pinned (OpenSpec.ofChange fnExactLatchPathSpec)

/-- ITS FALSE NEIGHBOUR: 'it returns false'. Refute it at one input. -/
def fnExactLatchPathWrong : ChangeSpec := { name := "fnExactLatchPath", fn := fun _ => fun
  | [d1, d2, d3] => { results := [.lit (.bool false)], args := [d1, d2, d3] }
  | _ => none }
def FnExactLatchPathWrongFalsely : Prop := fnExactLatchPathRow.holds Try.pinned (OpenSpec.ofChange fnExactLatchPathWrong)

/-- 'laws.FnExactHeldLast': WHATEVER THE INPUT: true; the input reads as it did. -/
def fnExactHeldLastSpec : ChangeSpec := { name := "fnExactHeldLast", fn := fun _ => fun
  | [d1, d2, d3] => { results := [.lit (.bool true)], args := [d1, d2, d3] }
  | _ => none }
def fnExactHeldLastRow : OpenClaim := { program := "ytbpfagbihffmbaa", sum := "71bc09babcdc99e7852b023269e69c05add19ec76bd7bfdf076d846be7bbd13a", func := "loop.example/pagetree/laws.FnExactHeldLast", spec := "fnExactHeldLast", unfollowed := true, recurses := true, apart := false }
def FnExactHeldLastSaid : Prop := fnExactHeldLastRow.holds Try.pinned (OpenSpec.ofChange fnExactHeldLastSpec)

/-- ITS FALSE NEIGHBOUR: 'it returns false'. Refute it at one input. -/
def fnExactHeldLastWrong : ChangeSpec := { name := "fnExactHeldLast", fn := fun _ => fun
  | [d1, d2, d3] => { results := [.lit (.bool false)], args := [d1, d2, d3] }
  | _ => none }
def FnExactHeldLastWrongFalsely : Prop := fnExactHeldLastRow.holds Try.pinned (OpenSpec.ofChange fnExactHeldLastWrong)

/-- 'laws.FnExactUnpackTree': WHATEVER THE INPUT: true; the input reads as it did. -/
def fnExactUnpackTreeSpec : ChangeSpec := { name := "fnExactUnpackTree", fn := fun _ => fun
  | [d] => { results := [.lit (.bool true)], args := [d] }
  | _ => none }
def fnExactUnpackTreeRow : OpenClaim := { program := "ytbpfagbihffmbaa", sum := "71bc09babcdc99e7852b023269e69c05add19ec76bd7bfdf076d846be7bbd13a", func := "loop.example/pagetree/laws.FnExactUnpackTree", spec := "fnExactUnpackTree", recurses := true, apart := false }
def FnExactUnpackTreeSaid : Prop := fnExactUnpackTreeRow.holds Try.pinned (OpenSpec.ofChange fnExactUnpackTreeSpec)

/-- ITS FALSE NEIGHBOUR: 'it returns false'. Refute it at one input. -/
def fnExactUnpackTreeWrong : ChangeSpec := { name := "fnExactUnpackTree", fn := fun _ => fun
  | [d] => { results := [.lit (.bool false)], args := [d] }
  | _ => none }
def FnExactUnpackTreeWrongFalsely : Prop := fnExactUnpackTreeRow.holds Try.pinned (OpenSpec.ofChange fnExactUnpackTreeWrong)

/-- 'laws.FnExactPackTree': WHATEVER THE INPUT: true; the input reads as it did. -/
def fnExactPackTreeSpec : ChangeSpec := { name := "fnExactPackTree", fn := fun _ => fun
  | [d] => { results := [.lit (.bool true)], args := [d] }
  | _ => none }
def fnExactPackTreeRow : OpenClaim := { program := "ytbpfagbihffmbaa", sum := "71bc09babcdc99e7852b023269e69c05add19ec76bd7bfdf076d846be7bbd13a", func := "loop.example/pagetree/laws.FnExactPackTree", spec := "fnExactPackTree", recurses := true, apart := false }
def FnExactPackTreeSaid : Prop := fnExactPackTreeRow.holds Try.pinned (OpenSpec.ofChange fnExactPackTreeSpec)

/-- ITS FALSE NEIGHBOUR: 'it returns false'. Refute it at one input. -/
def fnExactPackTreeWrong : ChangeSpec := { name := "fnExactPackTree", fn := fun _ => fun
  | [d] => { results := [.lit (.bool false)], args := [d] }
  | _ => none }
def FnExactPackTreeWrongFalsely : Prop := fnExactPackTreeRow.holds Try.pinned (OpenSpec.ofChange fnExactPackTreeWrong)

/-- 'laws.FnExactGetKey': WHATEVER THE INPUT: true; the input reads as it did. -/
def fnExactGetKeySpec : ChangeSpec := { name := "fnExactGetKey", fn := fun _ => fun
  | [d1, d2] => { results := [.lit (.bool true)], args := [d1, d2] }
  | _ => none }
def fnExactGetKeyRow : OpenClaim := { program := "ytbpfagbihffmbaa", sum := "71bc09babcdc99e7852b023269e69c05add19ec76bd7bfdf076d846be7bbd13a", func := "loop.example/pagetree/laws.FnExactGetKey", spec := "fnExactGetKey", unfollowed := true, recurses := true, apart := false }
def FnExactGetKeySaid : Prop := fnExactGetKeyRow.holds Try.pinned (OpenSpec.ofChange fnExactGetKeySpec)

/-- ITS FALSE NEIGHBOUR: 'it returns false'. Refute it at one input. -/
def fnExactGetKeyWrong : ChangeSpec := { name := "fnExactGetKey", fn := fun _ => fun
  | [d1, d2] => { results := [.lit (.bool false)], args := [d1, d2] }
  | _ => none }
def FnExactGetKeyWrongFalsely : Prop := fnExactGetKeyRow.holds Try.pinned (OpenSpec.ofChange fnExactGetKeyWrong)

/- THE SECOND FORM. 'bulk': how many values and letters a reading holds, each counted each time it is reached (what is shared counts as often as it is met; a slice's spare places count too). A statement '..UptoSaid' is the law's where the arguments, and the package variables that the reading takes, are together of bulk at most 1048576: NARROWER than '..Said'. Prove '..Said' where nothing that the law and all that it calls make is longer than what came in: it says more and counts as full. Else prove '..UptoSaid'. A law counts once. -/
mutual
def uptoBulk {H : Type} : DataW H → Nat
  | .lit (.string bytes) => bytes.length + 1
  | .lit _ => 1
  | .nil => 1
  | .ptr d => uptoBulk d + 1
  | .slice elems spare => uptoBulkAll elems + uptoBulkAll spare + 1
  | .agg parts => uptoBulkAll parts + 1
  | .iface _ d => uptoBulk d + 1
  | .map entries => uptoBulkEntries entries + 1
  | .held _ => 1
def uptoBulkAll {H : Type} : List (DataW H) → Nat
  | [] => 0
  | d :: r => uptoBulk d + uptoBulkAll r
def uptoBulkEntries {H : Type} : List (Lit × DataW H) → Nat
  | [] => 0
  | x :: r => uptoBulkEntry x + uptoBulkEntries r
def uptoBulkEntry {H : Type} : Lit × DataW H → Nat
  | (.string bytes, d) => bytes.length + uptoBulk d + 1
  | (_, d) => uptoBulk d + 1
 end
def uptoSmall : (H : Type) → List (DataW H) → Bool := fun _ ds => decide (uptoBulkAll ds ≤ 1048576)
def OpenSpec.upto (s : _root_.Go.ChangeSpec) : _root_.Go.OpenSpec := { _root_.Go.OpenSpec.ofChange s with cond := some uptoSmall }

/-- 'laws.FnExactDropKey', WHERE WHAT IT READS IS OF BULK AT MOST 1048576: true; the input reads as it did. -/
def fnExactDropKeyUptoRow : OpenClaim := { program := "ytbpfagbihffmbaa", sum := "71bc09babcdc99e7852b023269e69c05add19ec76bd7bfdf076d846be7bbd13a", func := "loop.example/pagetree/laws.FnExactDropKey", spec := "fnExactDropKey", unfollowed := true, recurses := true, apart := false, narrowed := true }
def FnExactDropKeyUptoSaid : Prop := fnExactDropKeyUptoRow.holds Try.pinned (OpenSpec.upto fnExactDropKeySpec)

/-- 'laws.FnExactDropAll', WHERE WHAT IT READS IS OF BULK AT MOST 1048576: true; the input reads as it did. -/
def fnExactDropAllUptoRow : OpenClaim := { program := "ytbpfagbihffmbaa", sum := "71bc09babcdc99e7852b023269e69c05add19ec76bd7bfdf076d846be7bbd13a", func := "loop.example/pagetree/laws.FnExactDropAll", spec := "fnExactDropAll", unfollowed := true, recurses := true, apart := false, narrowed := true }
def FnExactDropAllUptoSaid : Prop := fnExactDropAllUptoRow.holds Try.pinned (OpenSpec.upto fnExactDropAllSpec)

/-- 'laws.FnExactPutAll', WHERE WHAT IT READS IS OF BULK AT MOST 1048576: true; the input reads as it did. -/
def fnExactPutAllUptoRow : OpenClaim := { program := "ytbpfagbihffmbaa", sum := "71bc09babcdc99e7852b023269e69c05add19ec76bd7bfdf076d846be7bbd13a", func := "loop.example/pagetree/laws.FnExactPutAll", spec := "fnExactPutAll", inPlace := ["slices.overlaps[loop.example/pagetree/impl.Pair]", "slices.overlaps[int]"], unfollowed := true, recurses := true, apart := false, narrowed := true }
def FnExactPutAllUptoSaid : Prop := fnExactPutAllUptoRow.holds Try.pinned (OpenSpec.upto fnExactPutAllSpec)

/-- 'laws.FnExactJoinsFor', WHERE WHAT IT READS IS OF BULK AT MOST 1048576: true; the input reads as it did. -/
def fnExactJoinsForUptoRow : OpenClaim := { program := "ytbpfagbihffmbaa", sum := "71bc09babcdc99e7852b023269e69c05add19ec76bd7bfdf076d846be7bbd13a", func := "loop.example/pagetree/laws.FnExactJoinsFor", spec := "fnExactJoinsFor", unfollowed := true, recurses := true, apart := false, narrowed := true }
def FnExactJoinsForUptoSaid : Prop := fnExactJoinsForUptoRow.holds Try.pinned (OpenSpec.upto fnExactJoinsForSpec)

/-- 'laws.FnExactPutKey', WHERE WHAT IT READS IS OF BULK AT MOST 1048576: true; the input reads as it did. -/
def fnExactPutKeyUptoRow : OpenClaim := { program := "ytbpfagbihffmbaa", sum := "71bc09babcdc99e7852b023269e69c05add19ec76bd7bfdf076d846be7bbd13a", func := "loop.example/pagetree/laws.FnExactPutKey", spec := "fnExactPutKey", inPlace := ["slices.overlaps[loop.example/pagetree/impl.Pair]", "slices.overlaps[int]"], unfollowed := true, recurses := true, apart := false, narrowed := true }
def FnExactPutKeyUptoSaid : Prop := fnExactPutKeyUptoRow.holds Try.pinned (OpenSpec.upto fnExactPutKeySpec)

/-- 'laws.FnExactChangedPages', WHERE WHAT IT READS IS OF BULK AT MOST 1048576: true; the input reads as it did. -/
def fnExactChangedPagesUptoRow : OpenClaim := { program := "ytbpfagbihffmbaa", sum := "71bc09babcdc99e7852b023269e69c05add19ec76bd7bfdf076d846be7bbd13a", func := "loop.example/pagetree/laws.FnExactChangedPages", spec := "fnExactChangedPages", inPlace := ["slices.overlaps[loop.example/pagetree/impl.Pair]", "slices.overlaps[int]"], unfollowed := true, recurses := true, apart := false, narrowed := true }
def FnExactChangedPagesUptoSaid : Prop := fnExactChangedPagesUptoRow.holds Try.pinned (OpenSpec.upto fnExactChangedPagesSpec)

/-- 'laws.FnExactSplitsFor', WHERE WHAT IT READS IS OF BULK AT MOST 1048576: true; the input reads as it did. -/
def fnExactSplitsForUptoRow : OpenClaim := { program := "ytbpfagbihffmbaa", sum := "71bc09babcdc99e7852b023269e69c05add19ec76bd7bfdf076d846be7bbd13a", func := "loop.example/pagetree/laws.FnExactSplitsFor", spec := "fnExactSplitsFor", unfollowed := true, recurses := true, apart := false, narrowed := true }
def FnExactSplitsForUptoSaid : Prop := fnExactSplitsForUptoRow.holds Try.pinned (OpenSpec.upto fnExactSplitsForSpec)

/-- 'laws.FnExactLatchPath', WHERE WHAT IT READS IS OF BULK AT MOST 1048576: true; the input reads as it did. -/
def fnExactLatchPathUptoRow : OpenClaim := { program := "ytbpfagbihffmbaa", sum := "71bc09babcdc99e7852b023269e69c05add19ec76bd7bfdf076d846be7bbd13a", func := "loop.example/pagetree/laws.FnExactLatchPath", spec := "fnExactLatchPath", unfollowed := true, recurses := true, apart := false, narrowed := true }
def FnExactLatchPathUptoSaid : Prop := fnExactLatchPathUptoRow.holds Try.pinned (OpenSpec.upto fnExactLatchPathSpec)

/-- 'laws.FnExactHeldLast', WHERE WHAT IT READS IS OF BULK AT MOST 1048576: true; the input reads as it did. -/
def fnExactHeldLastUptoRow : OpenClaim := { program := "ytbpfagbihffmbaa", sum := "71bc09babcdc99e7852b023269e69c05add19ec76bd7bfdf076d846be7bbd13a", func := "loop.example/pagetree/laws.FnExactHeldLast", spec := "fnExactHeldLast", unfollowed := true, recurses := true, apart := false, narrowed := true }
def FnExactHeldLastUptoSaid : Prop := fnExactHeldLastUptoRow.holds Try.pinned (OpenSpec.upto fnExactHeldLastSpec)

/-- 'laws.FnExactUnpackTree', WHERE WHAT IT READS IS OF BULK AT MOST 1048576: true; the input reads as it did. -/
def fnExactUnpackTreeUptoRow : OpenClaim := { program := "ytbpfagbihffmbaa", sum := "71bc09babcdc99e7852b023269e69c05add19ec76bd7bfdf076d846be7bbd13a", func := "loop.example/pagetree/laws.FnExactUnpackTree", spec := "fnExactUnpackTree", recurses := true, apart := false, narrowed := true }
def FnExactUnpackTreeUptoSaid : Prop := fnExactUnpackTreeUptoRow.holds Try.pinned (OpenSpec.upto fnExactUnpackTreeSpec)

/-- 'laws.FnExactPackTree', WHERE WHAT IT READS IS OF BULK AT MOST 1048576: true; the input reads as it did. -/
def fnExactPackTreeUptoRow : OpenClaim := { program := "ytbpfagbihffmbaa", sum := "71bc09babcdc99e7852b023269e69c05add19ec76bd7bfdf076d846be7bbd13a", func := "loop.example/pagetree/laws.FnExactPackTree", spec := "fnExactPackTree", recurses := true, apart := false, narrowed := true }
def FnExactPackTreeUptoSaid : Prop := fnExactPackTreeUptoRow.holds Try.pinned (OpenSpec.upto fnExactPackTreeSpec)

/-- 'laws.FnExactGetKey', WHERE WHAT IT READS IS OF BULK AT MOST 1048576: true; the input reads as it did. -/
def fnExactGetKeyUptoRow : OpenClaim := { program := "ytbpfagbihffmbaa", sum := "71bc09babcdc99e7852b023269e69c05add19ec76bd7bfdf076d846be7bbd13a", func := "loop.example/pagetree/laws.FnExactGetKey", spec := "fnExactGetKey", unfollowed := true, recurses := true, apart := false, narrowed := true }
def FnExactGetKeyUptoSaid : Prop := fnExactGetKeyUptoRow.holds Try.pinned (OpenSpec.upto fnExactGetKeySpec)

end Rows
end Go.Proofs.Ytbpfagbihffmbaa
