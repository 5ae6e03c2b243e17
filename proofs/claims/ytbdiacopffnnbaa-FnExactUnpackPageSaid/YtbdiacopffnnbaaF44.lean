/- Contracts, 44: LeavesOf. -/
import Derived.Test.YtbdiacopffnnbaaF43
namespace Go.TM
open Go.Proofs
set_option linter.unusedVariables false
set_option linter.unusedSimpArgs false
set_option maxRecDepth 100000
set_option maxHeartbeats 4000000

noncomputable def lvsV (t : Tr) : List Int := if vTr t = true then lvF t (htT t) t.root else []
theorem lvsV_f {t : Tr} (h : vTr t = false) : lvsV t = [] := if_neg (by rw [h]; simp)
theorem lvsV_t {t : Tr} (h : vTr t = true) : lvsV t = lvF t (htT t) t.root := if_pos h
theorem lvsV_len (t : Tr) : (lvsV t).length ≤ 16 := by
  cases h : vTr t
  · rw [lvsV_f h]; simp
  · rw [lvsV_t h]; exact lvF_len (vTr_iff.1 h).pd
noncomputable def mLeavesOf : Model := M1 .ro true (cTr false) fun t => gd (smT t.pages = true) (eIs true (lvsV t), [])



theorem fn_FnExactLeavesOf (t : Tr) (h : TrW t) : mLawTree.fn [eTr false t] = some (.b true, []) := by
  obtain ⟨h1, h2⟩ := bigP_of h
  simp (config := {maxSteps := 1000000}) (disch := omega) only [go_sem, ↓reduceIte, Nat.reduceEqDiff, Nat.reduceAdd, Nat.reduceMul, Nat.reduceSub, Nat.reduceLeDiff, Nat.reduceLT, Int.reduceToNat, Int.reduceLE, Int.reduceLT, Int.reduceNeg, mLawTree, h2]
end Go.TM
