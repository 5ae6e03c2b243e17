/- Contracts, 48: the next key, the rank of a key, keys in a range. -/
import Derived.Test.YtbdiacopffnnbaaF47
namespace Go.TM
open Go.Proofs
set_option linter.unusedVariables false
set_option linter.unusedSimpArgs false
set_option maxRecDepth 100000
set_option maxHeartbeats 4000000

/-! ### The next key -/

noncomputable def nextV (t : Tr) (key : Int) : Int := if cntU (keysP (prV t)) key < (prV t).length then ((prV t).getD (cntU (keysP (prV t)) key) default).1 else -1
noncomputable def mNextKey : Model := M2 .ro .ro true (cTr false) cI fun t key => gd (smT t.pages = true) (eI (nextV t key), [])
theorem next_f {t : Tr} (h : vTr t = false) (key : Int) : nextV t key = -1 := by unfold nextV; rw [prV_f h]; rfl



theorem fn_FnExactNextKey (t : Tr) (h : TrW t) (x : Int) (hx : intWf .i64 x) : mLawTree2.fn [eTr false t, eI x] = some (.b true, []) := by
  obtain ⟨h1, h2⟩ := bigP_of h
  simp (config := {maxSteps := 1000000}) (disch := omega) only [go_sem, ↓reduceIte, Nat.reduceEqDiff, Nat.reduceAdd, Nat.reduceMul, Nat.reduceSub, Nat.reduceLeDiff, Nat.reduceLT, Int.reduceToNat, Int.reduceLE, Int.reduceLT, Int.reduceNeg, mLawTree2, h2]

/-! ### The rank of a key -/

noncomputable def rankV (t : Tr) (key : Int) : Int := if vTr t = true then (cntB (keysP (prV t)) key : Int) else -1
theorem rankV_f {t : Tr} (h : vTr t = false) (key : Int) : rankV t key = -1 := if_neg (by rw [h]; simp)
theorem rankV_t {t : Tr} (h : vTr t = true) (key : Int) : rankV t key = (cntB (keysP (prV t)) key : Int) := if_pos h
noncomputable def mRankOf : Model := M2 .ro .ro true (cTr false) cI fun t key => gd (smT t.pages = true) (eI (rankV t key), [])
theorem prV_vk {t : Tr} (h : vTr t = true) : vk (keysP (prV t)) = true := by rw [prV_t h]; exact (vTr_iff.1 h).sorted



theorem fn_FnExactRankOf (t : Tr) (h : TrW t) (x : Int) (hx : intWf .i64 x) : mLawTree2.fn [eTr false t, eI x] = some (.b true, []) := by
  obtain ⟨h1, h2⟩ := bigP_of h
  simp (config := {maxSteps := 1000000}) (disch := omega) only [go_sem, ↓reduceIte, Nat.reduceEqDiff, Nat.reduceAdd, Nat.reduceMul, Nat.reduceSub, Nat.reduceLeDiff, Nat.reduceLT, Int.reduceToNat, Int.reduceLE, Int.reduceLT, Int.reduceNeg, mLawTree2, h2]
end Go.TM
