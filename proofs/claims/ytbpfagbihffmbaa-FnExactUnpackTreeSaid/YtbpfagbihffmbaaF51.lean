/- Contracts, 51: copies of trees; the order of the pages. -/
import Derived.Test.YtbpfagbihffmbaaF47
namespace Go.TM
open Go.Proofs
set_option linter.unusedVariables false
set_option linter.unusedSimpArgs false
set_option maxRecDepth 100000
set_option maxHeartbeats 4000000

def mCopyPage : Model := M1 .ro true (cPage false) fun p => gd (p.keys.length ≤ 1099511627776 ∧ p.kids.length ≤ 1099511627776 ∧ p.vals.length ≤ 1099511627776) (ePage true p, [])
def mCopyTree : Model := M1 .ro true (cTr false) fun t => gd (smT t.pages = true) (eTr true t, [])
theorem clean_page (p : Pg) : cleanA (ePage true p) = true := by simp only [cleanA, cleanL, clean_ints, Bool.and_self]


theorem pgs_succ {o : Bool} {ps : List Pg} {k : Nat} (hk : k < ps.length) : (ps.take k).flatMap (ePg o) ++ ePg o (ps.getD k default) = (ps.take (k + 1)).flatMap (ePg o) := by
  rw [List.take_succ_eq_append_getElem hk, List.flatMap_append]
  simp [hk]
theorem take_all3 {o : Bool} {ps : List Pg} {n : Nat} (h : ps.length = n) : (ps.flatMap (ePg o)).take (n * 3) = ps.flatMap (ePg o) := List.take_of_length_le (by rw [flatPg_len]; omega)



/-! ### The order of the pages -/

theorem PD.kids_mem {t : Tr} {h : Nat} {x : Int} (p : PD t h x) : ∀ y ∈ wk t h x, ∀ k ∈ (pgAt t y).kids, k ∈ wk t h x := by
  induction h generalizing x with
  | zero =>
    intro y hy k hk
    simp only [wk, List.mem_singleton] at hy
    subst hy
    rw [p.leaf.kids] at hk
    cases hk
  | succ h ih =>
    intro y hy k hk
    simp only [wk, List.mem_cons, List.mem_flatMap] at hy ⊢
    rcases hy with rfl | ⟨z, hz, hy⟩
    · exact .inr ⟨k, hk, wk_self t h k⟩
    · exact .inr ⟨z, hz, ih (p.inn.pd z hz) y hy k hk⟩
noncomputable def mOrder (D : Nat) : Model := M3 .ro .ro .mv true (cTr false) cI (cIs true) fun t x xs => gd (smT t.pages = true ∧ PD t (htF t 3 x) x ∧ htF t 3 x ≤ 2 ∧ htF t 3 x < D ∧ xs.length + (wk t (htF t 3 x) x).length ≤ 1000) (eIs true (xs ++ wk t (htF t 3 x) x), [])
theorem mOrder_none : ∀ args r outs, (mOrder 0).fn args = some (r, outs) → False := by
  intro args r outs h
  match args, h with
  | [x, y, z], h =>
    simp only [mOrder, M3_fn, Option.bind_eq_some_iff] at h
    obtain ⟨_, _, _, _, _, _, h⟩ := h
    have := (gd_some h).1
    omega


/-! ### The place of a number -/

def placeV (xs : List Int) (n : Int) : Int := if n ∈ xs then (xs.idxOf n : Int) else -1
def mPlaceOf : Model := M2 .ro .ro true (cIs false) cI fun xs n => gd (xs.length ≤ 1099511627776) (eI (placeV xs n), [])
theorem place_at {xs : List Int} {n : Int} {k : Nat} (hk : k < xs.length) (h : xs.getD k 0 = n) (hb : ∀ i, i < k → xs.getD i 0 ≠ n) : placeV xs n = k := by
  have hm : n ∈ xs := h ▸ getD_mem hk
  unfold placeV
  rw [if_pos hm]
  have hi := List.idxOf_lt_length_iff.2 hm
  have hg : xs.getD (xs.idxOf n) 0 = n := by simp [hi]
  rcases Nat.lt_trichotomy (xs.idxOf n) k with h1 | h1 | h1
  · exact (hb _ h1 hg).elim
  · rw [h1]
  · exfalso
    have := List.not_of_lt_findIdx (p := fun x => x == n) (xs := xs) (i := k) h1
    rw [show xs[k] = xs.getD k 0 from by simp [hk], h] at this
    simp at this
theorem place_no {xs : List Int} {n : Int} (hb : ∀ i, i < xs.length → xs.getD i 0 ≠ n) : placeV xs n = -1 := by
  unfold placeV
  rw [if_neg]
  intro hm
  obtain ⟨i, hi, e⟩ := mem_getD hm
  exact hb i hi e

end Go.TM
