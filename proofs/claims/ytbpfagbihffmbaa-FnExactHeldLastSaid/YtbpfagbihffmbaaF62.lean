/- Contracts, 62: UnpackPage. -/
import Derived.Test.YtbpfagbihffmbaaF55
namespace Go.TM
open Go.Proofs
set_option linter.unusedVariables false
set_option linter.unusedSimpArgs false
set_option maxRecDepth 100000
set_option maxHeartbeats 4000000


theorem pageT3_eq {a b c : Nat} {n : Int} {v : Bool} {x y z : List Int} (ha : a = x.length) (hb : b = y.length) (hc : c = z.length) : some (A.tup [.agg [.s true 1 a (x.map eI), .s true 1 b (y.map eI), .s true 1 c (z.map eI)], .i .i64 n, .b v], ([] : List (List A))) = some (.tup [ePage true ⟨x, y, z⟩, eI n, .b v], []) := by subst ha; subst hb; subst hc; rfl
theorem inR9 {x : Int} : inR x 0 9 = true ↔ ¬ x < 0 ∧ ¬ 9 < x := by rw [inR_iff]; omega
theorem take_take_sz {xs : List Int} {k : Nat} (h : k ≤ xs.length) : (xs.take k).length = k := by rw [List.length_take]; omega


theorem unV_sm (xs : List Int) : (unV xs).p.keys.length ≤ 4 ∧ (unV xs).p.kids.length ≤ 5 ∧ (unV xs).p.vals.length ≤ 4 := by
  unfold unV
  split
  · rename_i h
    have := smallPg h.2.1
    exact ⟨this.keys, this.kids, this.vals⟩
  · exact ⟨by decide, by decide, by decide⟩
def mLawUn : Model := M1 .ro true (cIs false) fun xs => gd (xs.length ≤ 9223372036854775807 ∧ rngB xs = true) (.b true, [])

theorem fn_FnExactUnpackPage (x : List Int) (h : (∀ y ∈ x, intWf .i64 y) ∧ x.length ≤ maxLen) : mLawUn.fn [eIs false x] = some (.b true, []) := by
  have h2 : x.length ≤ 9223372036854775807 := h.2
  have h3 : rngB x = true := rngB_iff.2 fun y hy => by
    have h4 : (decide (IntKind.i64.min ≤ y) && decide (y ≤ IntKind.i64.max)) = true := h.1 y hy
    rw [Bool.and_eq_true, decide_eq_true_eq, decide_eq_true_eq] at h4
    exact h4
  simp (config := {maxSteps := 1000000}) (disch := omega) only [go_sem, ↓reduceIte, Nat.reduceEqDiff, Nat.reduceAdd, Nat.reduceMul, Nat.reduceSub, Nat.reduceLeDiff, Nat.reduceLT, Int.reduceToNat, Int.reduceLE, Int.reduceLT, Int.reduceNeg, mLawUn, h3]
end Go.TM
