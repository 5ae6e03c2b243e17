/- Contracts, 47: the path to a key. -/
import Derived.Test.YtbdiacopffnnbaaF46
namespace Go.TM
open Go.Proofs
set_option linter.unusedVariables false
set_option linter.unusedSimpArgs false
set_option maxRecDepth 100000
set_option maxHeartbeats 4000000

theorem path_nx {t : Tr} {key : Int} : ∀ (i h : Nat) (x : Int), i < h → (pathF t key h x).getD (i + 1) 0 = (pgAt t ((pathF t key h x).getD i 0)).kids.getD (cntU (pgAt t ((pathF t key h x).getD i 0)).keys key) 0
  | 0, h + 1, x, _ => by
    simp only [pathF, List.getD_cons_succ, List.getD_cons_zero]
    cases h <;> rfl
  | i + 1, h + 1, x, hi => by
    simp only [pathF, List.getD_cons_succ]
    exact path_nx i h _ (by omega)
theorem take_app1 {w : List Int} {k : Nat} (hk : k < w.length) : w.take (k + 1) = w.take k ++ [w.getD k 0] := by
  rw [List.take_succ_eq_append_getElem hk]
  simp [hk]

theorem ints1_eq {n : Nat} {xs : List Int} (h : n = xs.length) : some (A.s true 1 n (xs.map eI), ([] : List (List A))) = some (eIs true xs, []) := by subst h; rfl
def lN : A → Nat
  | .ref _ _ _ _ _ l => l
  | _ => 0
noncomputable def mPath : Model := M2 .ro .ro true (cTr false) cI fun t key => gd (smT t.pages = true ∧ vTr t = true) (eIs true (pathF t key (htT t) t.root), [])
noncomputable def ptV (t : Tr) (key : Int) : List Int := if vTr t = true then pathF t key (htT t) t.root else []
theorem ptV_f {t : Tr} {key : Int} (h : vTr t = false) : ptV t key = [] := if_neg (by rw [h]; simp)
theorem ptV_t {t : Tr} {key : Int} (h : vTr t = true) : ptV t key = pathF t key (htT t) t.root := if_pos h
theorem ptV_len (t : Tr) (key : Int) : (ptV t key).length ≤ 3 := by
  cases h : vTr t
  · rw [ptV_f h]; simp
  · rw [ptV_t h, pathF_len]
    have := (vTr_iff.1 h).ht
    omega
noncomputable def mPathTo : Model := M2 .ro .ro true (cTr false) cI fun t key => gd (smT t.pages = true) (eIs true (ptV t key), [])




def mLawTree2 : Model := M2 .ro .ro true (cTr false) cI fun t _ => gd (t.pages.length ≤ 9223372036854775807 ∧ t.pages.all bigP = true) (.b true, [])

theorem fn_FnExactPathTo (t : Tr) (h : TrW t) (x : Int) (hx : intWf .i64 x) : mLawTree2.fn [eTr false t, eI x] = some (.b true, []) := by
  obtain ⟨h1, h2⟩ := bigP_of h
  simp (config := {maxSteps := 1000000}) (disch := omega) only [go_sem, ↓reduceIte, Nat.reduceEqDiff, Nat.reduceAdd, Nat.reduceMul, Nat.reduceSub, Nat.reduceLeDiff, Nat.reduceLT, Int.reduceToNat, Int.reduceLE, Int.reduceLT, Int.reduceNeg, mLawTree2, h2]
end Go.TM
