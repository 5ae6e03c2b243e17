/- Contracts, 19: a key is left out. -/
import Derived.Test.YtbpfagbihffmbaaF18
namespace Go.TM
open Go.Proofs
set_option linter.unusedVariables false
set_option linter.unusedSimpArgs false
set_option maxRecDepth 100000

open Classical in
noncomputable def remV (xs : List Int) (k : Int) : List Int × Bool := if vk xs = true ∧ k ∈ xs then (xs.take (cntB xs k) ++ xs.drop (cntB xs k + 1), true) else ([], false)
theorem remV_f {xs : List Int} {k : Int} (h : ¬ (vk xs = true ∧ k ∈ xs)) : remV xs k = ([], false) := if_neg h
theorem remV_t {xs : List Int} {k : Int} (h : vk xs = true) (hk : k ∈ xs) : remV xs k = (xs.take (cntB xs k) ++ xs.drop (cntB xs k + 1), true) := if_pos ⟨h, hk⟩
theorem remV_len (xs : List Int) (k : Int) : (remV xs k).1.length ≤ xs.length := by
  unfold remV
  split
  · simp; omega
  · simp
/-- A key that is there is at its place. -/
theorem mem_at {xs : List Int} {k : Int} (h : VK xs) : k ∈ xs ↔ cntB xs k < xs.length ∧ xs.getD (cntB xs k) 0 = k := by
  obtain ⟨a1, a2, a3⟩ := cntB_ok (k := k) h
  constructor
  · intro hm
    obtain ⟨j, hj, he⟩ := List.getElem_of_mem hm
    have he' : xs.getD j 0 = k := by simpa [hj] using he
    have hjc : cntB xs k ≤ j := by
      rcases Nat.lt_or_ge j (cntB xs k) with hlt | hge
      · have := a2 j hlt; omega
      · exact hge
    refine ⟨by omega, ?_⟩
    have h1 := a3 _ (Nat.le_refl _) (by omega)
    have h2 := vk_mono' h hjc hj
    omega
  · rintro ⟨h1, h2⟩
    rw [← h2]
    exact getD_mem h1

theorem take_mapI (xs : List Int) : (xs.map eI).take xs.length = xs.map eI := List.take_of_length_le (by simp)
theorem ints_eq {n : Nat} {b : Bool} {ys : List Int} (h : n = ys.length) : some (A.tup [A.s true 1 n (ys.map eI), A.b b], ([] : List (List A))) = some (A.tup [eIs true ys, A.b b], []) := by subst h; rfl

noncomputable def mRemove : Model := M2 .ro .ro true (cIs false) cI fun xs k => gd (xs.length ≤ 1099511627776) (.tup [eIs true (remV xs k).1, .b (remV xs k).2], [])



theorem fn_FnExactRemoveKey (x : List Int) (h : (∀ y ∈ x, intWf .i64 y) ∧ x.length ≤ maxLen) (k : Int) (hk : intWf .i64 k) : mLaw2.fn [eIs false x, eI k] = some (.b true, []) := by
  simp (config := {maxSteps := 1000000}) (disch := omega) only [go_sem, ↓reduceIte, Nat.reduceEqDiff, Nat.reduceAdd, Nat.reduceMul, Nat.reduceSub, Nat.reduceLeDiff, Nat.reduceLT, Int.reduceToNat, Int.reduceLE, Int.reduceLT, Int.reduceNeg, mLaw2]
end Go.TM
