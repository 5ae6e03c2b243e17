/- Contracts, 42: is a page safe. -/
import Derived.Test.YtbpfagbihffmbaaF41
namespace Go.TM
open Go.Proofs
set_option linter.unusedVariables false
set_option linter.unusedSimpArgs false
set_option maxRecDepth 100000
set_option maxHeartbeats 4000000

def sfV (t : Tr) (x op : Int) : Bool :=
  if op = 1 then decide (((pgAt t x).keys.length : Int) < 4)
  else if op = 2 then if x = t.root then decide (((pgAt t x).kids.length : Int) = 0) || decide (1 < ((pgAt t x).keys.length : Int)) else decide (2 < ((pgAt t x).keys.length : Int))
  else true
def mSafe : Model := M3 .ro .ro .ro true (cTr false) cI cI fun t x op => gd (smT t.pages = true ∧ 0 ≤ x ∧ x < t.pages.length) (.b (sfV t x op), [])
noncomputable def safeV (t : Tr) (x op : Int) : Bool := vTr t && (inR x 0 ((t.pages.length : Int) - 1) && (inR op 0 2 && sfV t x op))
noncomputable def mIsSafe : Model := M3 .ro .ro .ro true (cTr false) cI cI fun t x op => gd (smT t.pages = true) (.b (safeV t x op), [])




def mLawTree3 : Model := M3 .ro .ro .ro true (cTr false) cI cI fun t _ _ => gd (t.pages.length ≤ 9223372036854775807 ∧ t.pages.all bigP = true) (.b true, [])

theorem fn_FnExactIsSafe (t : Tr) (h : TrW t) (x : Int) (hx : intWf .i64 x) (op : Int) (hop : intWf .i64 op) : mLawTree3.fn [eTr false t, eI x, eI op] = some (.b true, []) := by
  obtain ⟨h1, h2⟩ := bigP_of h
  simp (config := {maxSteps := 1000000}) (disch := omega) only [go_sem, ↓reduceIte, Nat.reduceEqDiff, Nat.reduceAdd, Nat.reduceMul, Nat.reduceSub, Nat.reduceLeDiff, Nat.reduceLT, Int.reduceToNat, Int.reduceLE, Int.reduceLT, Int.reduceNeg, mLawTree3, h2]
end Go.TM
