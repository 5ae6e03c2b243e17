/- Contracts, 3: rows of operations. -/
import Derived.Test.YtbpfagbihffmbaaF2
import Derived.Test.YtbpfagbihffmbaaTmD
namespace Go.TM
open Go.Proofs
set_option linter.unusedVariables false
set_option linter.unusedSimpArgs false
set_option maxRecDepth 100000

theorem all_f {α : Type} {f : α → Bool} {xs : List α} {d : α} {k : Nat} (hk : k < xs.length) (h : f (xs.getD k d) = false) : xs.all f = false := by
  rw [Bool.eq_false_iff]
  intro hh
  rw [List.all_eq_true] at hh
  have := hh (xs.getD k d) (by simp [hk])
  rw [h] at this; cases this
theorem all_t {α : Type} {f : α → Bool} {xs : List α} (d : α) (h : ∀ i, i < xs.length → f (xs.getD i d) = true) : xs.all f = true := by
  rw [List.all_eq_true]
  intro x hx
  obtain ⟨i, hi, rfl⟩ := List.getElem_of_mem hx
  have := h i hi
  simpa [hi] using this
theorem all_step {α : Type} {d : α} {f : α → Bool} {xs : List α} {k : Nat} (h : ∀ i, i < k → f (xs.getD i d) = true) (hk : f (xs.getD k d) = true) : ∀ i, i < k + 1 → f (xs.getD i d) = true := by
  intro i hi
  by_cases he : i = k
  · rw [he]; exact hk
  · exact h i (by omega)

def opOk (p : Op3) : Bool := inR p.1 0 1 && inR p.2.1 0 99 && inR p.2.2 (-1000) 1000 && !(decide (p.1 = 0) && !decide (p.2.2 = 0))
def vOps (xs : List Op3) : Bool := decide (xs.length ≤ 4) && xs.all opOk
def mValidOps : Model := M1 .ro true (cOps false) fun xs => gd (xs.length ≤ 1099511627776) (.b (vOps xs), [])
def mToOp : Model := M1 .ro true cOp fun x => some (.agg (eOp x), [])
def mEqOp : Model := M2 .ro .ro true cOp cOp fun x y => some (.b (decide (x = y)), [])
def mSzOpS : Model := M2 .ro .ro true (cOps false) cI fun xs n => gd (xs.length ≤ 9223372036854775807 ∧ 0 ≤ n ∧ n ≤ 1048576) (eI (if n < xs.length then -1 else n - xs.length), [])
def mToOpS : Model := M1 .ro true (cOps false) fun xs => gd (xs.length ≤ 1099511627776) (eOps true xs, [])
def mEqOpS : Model := M2 .ro .ro true (cOps false) (cOps false) fun xs ys => gd (xs.length ≤ 1099511627776 ∧ ys.length ≤ 1099511627776) (.b (decide (xs = ys)), [])

theorem clean_ops (xs : List Op3) : cleanL (xs.flatMap eOp) = true := by
  induction xs with
  | nil => rfl
  | cons x xs ih => rw [List.flatMap_cons]; simp [eOp, cleanL, cleanA, ih]

theorem rep_eOp (n : Nat) : (List.replicate n [eI 0, eI 0, eI 0]).flatten = (List.replicate n ((0, 0, 0) : Op3)).flatMap eOp := by
  induction n with
  | zero => rfl
  | succ n ih => simp only [List.replicate_succ, List.flatten_cons, List.flatMap_cons, ih]; rfl








def mLawOps : Model := M1 .ro true (cOps false) fun xs => gd (xs.length ≤ 9223372036854775807) (.b true, [])
theorem fn_FnExactValidOps (x : List Op3) (h : (∀ y ∈ x, intWf .i64 y.1 ∧ intWf .i64 y.2.1 ∧ intWf .i64 y.2.2) ∧ x.length ≤ maxLen) : mLawOps.fn [eOps false x] = some (.b true, []) := by
  have h2 : x.length ≤ 9223372036854775807 := h.2
  simp (config := {maxSteps := 1000000}) (disch := omega) only [go_sem, ↓reduceIte, Nat.reduceEqDiff, Nat.reduceAdd, Nat.reduceMul, Nat.reduceSub, Nat.reduceLeDiff, Nat.reduceLT, Int.reduceToNat, Int.reduceLE, Int.reduceLT, Int.reduceNeg, mLawOps]
end Go.TM
