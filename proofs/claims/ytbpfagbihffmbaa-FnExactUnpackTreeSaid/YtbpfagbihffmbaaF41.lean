/- Contracts, 41: the height of a tree. -/
import Derived.Test.YtbpfagbihffmbaaF39
namespace Go.TM
open Go.Proofs
set_option linter.unusedVariables false
set_option linter.unusedSimpArgs false
set_option maxRecDepth 100000
set_option maxHeartbeats 4000000

theorem vTr_pf {t : Tr} (h : vTr t = true) : pfE t (htT t) t.root ∧ htT t ≤ 2 := by
  unfold vTr at h
  simp only [Bool.and_eq_true, decide_eq_true_eq] at h
  obtain ⟨h1, h2, h3, h4, h5⟩ := h
  have := inR_iff.1 h2
  exact ⟨⟨by omega, 0, 99, h4⟩, h3⟩
theorem pfE.kid0 {t : Tr} {h : Nat} {x : Int} (p : pfE t (h + 1) x) : (pgAt t x).kids.length ≠ 0 := by
  obtain ⟨hr, low, hi, hp⟩ := p
  have := (innOk_iff.1 (pf_succ.1 hp).2.1).2.2.1
  omega
noncomputable def hgV (t : Tr) : Int := if vTr t = true then (htT t : Int) + 1 else -1
noncomputable def mHeightOf : Model := M1 .ro true (cTr false) fun t => gd (smT t.pages = true) (eI (hgV t), [])



theorem fn_FnExactHeightOf (t : Tr) (h : TrW t) : mLawTree.fn [eTr false t] = some (.b true, []) := by
  obtain ⟨h1, h2⟩ := bigP_of h
  simp (config := {maxSteps := 1000000}) (disch := omega) only [go_sem, ↓reduceIte, Nat.reduceEqDiff, Nat.reduceAdd, Nat.reduceMul, Nat.reduceSub, Nat.reduceLeDiff, Nat.reduceLT, Int.reduceToNat, Int.reduceLE, Int.reduceLT, Int.reduceNeg, mLawTree, h2]
end Go.TM
