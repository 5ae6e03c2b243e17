/- Contracts, 45: the pairs of a tree. -/
import Derived.Test.YtbdiacopffnnbaaF44
import Derived.Test.YtbdiacopffnnbaaTmD
namespace Go.TM
open Go.Proofs
set_option linter.unusedVariables false
set_option linter.unusedSimpArgs false
set_option maxRecDepth 100000
set_option maxHeartbeats 4000000

def mRowOf : Model := M1 .ro true (cPage false) fun p => gd (p.keys.length ≤ p.vals.length ∧ p.vals.length ≤ 16777216) (eRow true (prP p), [])
theorem prP_get {p : Pg} {i : Nat} (h : i < p.keys.length) : (prP p).getD i default = (p.keys.getD i 0, p.vals.getD i 0) := by simp [prP, h]
theorem prP_take {p : Pg} {k : Nat} (h : k < p.keys.length) : (prP p).take (k + 1) = (prP p).take k ++ [(p.keys.getD k 0, p.vals.getD k 0)] := by
  rw [List.take_succ_eq_append_getElem (by rw [prP_len]; exact h)]
  simp [prP]
theorem rep_pr (n : Nat) : (List.replicate n [A.i .i64 0, A.i .i64 0]).flatten = (List.replicate n ((0, 0) : Pr)).flatMap ePr := by
  induction n with
  | zero => rfl
  | succ n ih => rw [List.replicate_succ, List.replicate_succ, List.flatten_cons, List.flatMap_cons, ih]; rfl

theorem scal_row (xs : List Pr) : (xs.flatMap ePr).map scal = xs.flatMap ePr := by
  induction xs with
  | nil => rfl
  | cons x xs ih => simp only [List.flatMap_cons, List.map_append, ih]; rfl
theorem scal_I (xs : List Int) : (xs.map eI).map scal = xs.map eI := by rw [List.map_map]; rfl
attribute [go_sem] scal_row scal_I



noncomputable def mPairs : Model := M1 .ro true (cTr false) fun t => gd (smT t.pages = true ∧ vTr t = true) (eRow true (prF t (htT t) t.root), [])
def prK (t : Tr) (xs : List Int) : List Pr := xs.flatMap fun y => prP (pgAt t y)
theorem prK_succ {t : Tr} {w : List Int} {k : Nat} (hk : k < w.length) : prK t (w.take (k + 1)) = prK t (w.take k) ++ prP (pgAt t (w.getD k 0)) := by
  rw [prK, List.take_succ_eq_append_getElem hk, List.flatMap_append]
  simp [prK, hk]
theorem prK_len {t : Tr} {xs : List Int} (h : ∀ y ∈ xs, (pgAt t y).keys.length ≤ 4) : (prK t xs).length ≤ xs.length * 4 := by
  unfold prK
  exact flat_le fun y hy => by rw [prP_len]; exact h y hy
theorem PLeaf.vlen {t : Tr} {x : Int} (h : PLeaf t x) : (pgAt t x).vals.length = (pgAt t x).keys.length := h.vals


noncomputable def prV (t : Tr) : List Pr := if vTr t = true then prF t (htT t) t.root else []
theorem prV_f {t : Tr} (h : vTr t = false) : prV t = [] := if_neg (by rw [h]; simp)
theorem prV_t {t : Tr} (h : vTr t = true) : prV t = prF t (htT t) t.root := if_pos h
theorem prV_len (t : Tr) : (prV t).length ≤ 64 := by
  cases h : vTr t
  · rw [prV_f h]; simp
  · rw [prV_t h]; exact prF_len (vTr_iff.1 h).pd
noncomputable def mPairsOf : Model := M1 .ro true (cTr false) fun t => gd (smT t.pages = true) (eRow true (prV t), [])

end Go.TM
