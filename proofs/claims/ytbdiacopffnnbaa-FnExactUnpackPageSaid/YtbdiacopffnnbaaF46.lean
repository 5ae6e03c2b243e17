/- Contracts, 46: the law of the pairs; how full the leaves are. -/
import Derived.Test.YtbdiacopffnnbaaF45
namespace Go.TM
open Go.Proofs
set_option linter.unusedVariables false
set_option linter.unusedSimpArgs false
set_option maxRecDepth 100000
set_option maxHeartbeats 4000000


theorem fn_FnExactPairsOf (t : Tr) (h : TrW t) : mLawTree.fn [eTr false t] = some (.b true, []) := by
  obtain ⟨h1, h2⟩ := bigP_of h
  simp (config := {maxSteps := 1000000}) (disch := omega) only [go_sem, ↓reduceIte, Nat.reduceEqDiff, Nat.reduceAdd, Nat.reduceMul, Nat.reduceSub, Nat.reduceLeDiff, Nat.reduceLT, Int.reduceToNat, Int.reduceLE, Int.reduceLT, Int.reduceNeg, mLawTree, h2]

noncomputable def fillV (t : Tr) : Int := if vTr t = true then (100 * ((prV t).length : Int)).tdiv (4 * ((lvsV t).length : Int)) else -1
theorem fillV_f {t : Tr} (h : vTr t = false) : fillV t = -1 := if_neg (by rw [h]; simp)
theorem fillV_t {t : Tr} (h : vTr t = true) : fillV t = (100 * ((prV t).length : Int)).tdiv (4 * ((lvsV t).length : Int)) := if_pos h
noncomputable def mFillOf : Model := M1 .ro true (cTr false) fun t => gd (smT t.pages = true) (eI (fillV t), [])
theorem lvsV_pos {t : Tr} (h : vTr t = true) : 1 ≤ (lvsV t).length := by
  rw [lvsV_t h]; exact lvF_pos (vTr_iff.1 h).pd
theorem tdiv_bd {a b : Int} (h0 : 0 ≤ a) (h1 : a ≤ 10000) (hb : 1 ≤ b) : 0 ≤ a.tdiv b ∧ a.tdiv b ≤ 10000 := by
  rw [Int.tdiv_eq_ediv_of_nonneg h0]
  refine ⟨Int.ediv_nonneg h0 (by omega), ?_⟩
  have := Int.ediv_le_self b h0
  omega



theorem fn_FnExactFillOf (t : Tr) (h : TrW t) : mLawTree.fn [eTr false t] = some (.b true, []) := by
  obtain ⟨h1, h2⟩ := bigP_of h
  simp (config := {maxSteps := 1000000}) (disch := omega) only [go_sem, ↓reduceIte, Nat.reduceEqDiff, Nat.reduceAdd, Nat.reduceMul, Nat.reduceSub, Nat.reduceLeDiff, Nat.reduceLT, Int.reduceToNat, Int.reduceLE, Int.reduceLT, Int.reduceNeg, mLawTree, h2]
end Go.TM
