/- Contracts, 12: routing in an inside. -/
import Derived.Test.YtbdiacopffnnbaaF40
namespace Go.TM
open Go.Proofs
set_option linter.unusedVariables false
set_option linter.unusedSimpArgs false
set_option maxRecDepth 100000

noncomputable def rtV (x : Inn) (k : Int) : Int := if vInn x then x.kids.getD (cntU x.keys k) 0 else -1
noncomputable def mRoute : Model := M2 .ro .ro true (cInn false) cI fun x k => gd (x.keys.length ≤ 1099511627776 ∧ x.kids.length ≤ 1099511627776) (eI (rtV x k), [])



def mLawInn2 : Model := M2 .ro .ro true (cInn false) cI fun x k => gd (x.keys.length ≤ 9223372036854775807 ∧ x.kids.length ≤ 9223372036854775807) (.b true, [])

theorem fn_FnExactRouteKey (x : Inn) (h : ((∀ y ∈ x.keys, intWf .i64 y) ∧ x.keys.length ≤ maxLen) ∧ (∀ y ∈ x.kids, intWf .i64 y) ∧ x.kids.length ≤ maxLen) (k : Int) (hk : intWf .i64 k) : mLawInn2.fn [eInn false x, eI k] = some (.b true, []) := by
  have h2 : x.keys.length ≤ 9223372036854775807 := h.1.2
  have h3 : x.kids.length ≤ 9223372036854775807 := h.2.2
  simp (config := {maxSteps := 1000000}) (disch := omega) only [go_sem, ↓reduceIte, Nat.reduceEqDiff, Nat.reduceAdd, Nat.reduceMul, Nat.reduceSub, Nat.reduceLeDiff, Nat.reduceLT, Int.reduceToNat, Int.reduceLE, Int.reduceLT, Int.reduceNeg, mLawInn2]
end Go.TM
