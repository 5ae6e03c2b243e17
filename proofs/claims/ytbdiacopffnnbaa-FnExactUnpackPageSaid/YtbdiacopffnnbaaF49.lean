/- Contracts, 49: keys in a range. -/
import Derived.Test.YtbdiacopffnnbaaF48
namespace Go.TM
open Go.Proofs
set_option linter.unusedVariables false
set_option linter.unusedSimpArgs false
set_option maxRecDepth 100000
set_option maxHeartbeats 4000000

def inScan (a b : Int) (x : Pr) : Bool := decide (a ≤ x.1) && decide (x.1 < b)
noncomputable def scanV (t : Tr) (a b m : Int) : List Pr := ((prV t).filter (inScan a b)).take m.toNat
noncomputable def mScanKeys : Model := M4 .ro .ro .ro .ro true (cTr false) cI cI cI fun t a b m => gd (smT t.pages = true) (eRow true (scanV t a b m), [])
theorem filtP_succ {p : Pr → Bool} {w : List Pr} {k : Nat} (hk : k < w.length) : (w.take (k + 1)).filter p = (w.take k).filter p ++ (if p (w.getD k default) = true then [w.getD k default] else []) := by
  rw [List.take_succ_eq_append_getElem hk, List.filter_append]
  have e : w[k] = w.getD k default := by simp [hk]
  rw [e]
  congr 1
  simp only [List.filter_cons, List.filter_nil]
/-- Enough have been found. -/
theorem scan_full {p : Pr → Bool} {w : List Pr} {k : Nat} {m : Int} (h1 : m ≤ ((w.take k).filter p).length) (h2 : ((w.take k).filter p).length ≤ m.toNat) : (w.take k).filter p = (w.filter p).take m.toNat := by
  have e : w.filter p = (w.take k).filter p ++ (w.drop k).filter p := by rw [← List.filter_append, List.take_append_drop]
  rw [e, List.take_append, List.take_of_length_le (l := (w.take k).filter p) h2, show m.toNat - ((w.take k).filter p).length = 0 from by omega]
  simp
/-- No more are there. -/
theorem scan_end {p : Pr → Bool} {w : List Pr} {k : Nat} {m : Int} (h1 : ∀ x ∈ w.drop k, p x = false) (h2 : ((w.take k).filter p).length ≤ m.toNat) : (w.take k).filter p = (w.filter p).take m.toNat := by
  have e : w.filter p = (w.take k).filter p ++ (w.drop k).filter p := by rw [← List.filter_append, List.take_append_drop]
  have e2 : (w.drop k).filter p = [] := List.filter_eq_nil_iff.2 fun x hx => by rw [h1 x hx]; simp
  rw [e, e2, List.append_nil, List.take_of_length_le (l := (w.take k).filter p) h2]
theorem scan_past {w : List Pr} (hv : vk (keysP w) = true) {k : Nat} {a b : Int} (hk : k < w.length) (hb : b ≤ (w.getD k default).1) : ∀ x ∈ w.drop k, inScan a b x = false := by
  intro x hx
  obtain ⟨j, hj, rfl⟩ := List.getElem_of_mem hx
  rw [List.length_drop] at hj
  rw [List.getElem_drop]
  have h1 : (keysP w).getD k 0 ≤ (keysP w).getD (k + j) 0 := by
    have hp := pw_of_vk hv
    rcases Nat.eq_zero_or_pos j with rfl | h0
    · exact Int.le_refl _
    · have h2 := List.pairwise_iff_getElem.1 hp k (k + j) (by rw [keysP_len]; omega) (by rw [keysP_len]; omega) (by omega)
      have e1 : (keysP w).getD k 0 = (keysP w)[k]'(by rw [keysP_len]; omega) := by simp [keysP, hk]
      have e2 : (keysP w).getD (k + j) 0 = (keysP w)[k + j]'(by rw [keysP_len]; omega) := by simp [keysP, show k + j < w.length from by omega]
      rw [e1, e2]
      omega
  rw [keysP_get hk, keysP_get (by omega)] at h1
  have e3 : w.getD (k + j) default = w[k + j] := by simp [show k + j < w.length from by omega]
  rw [e3] at h1
  unfold inScan
  rw [decide_eq_false (p := (w[k + j]).1 < b) (by omega), Bool.and_false]



def mLawTree4 : Model := M4 .ro .ro .ro .ro true (cTr false) cI cI cI fun t _ _ _ => gd (t.pages.length ≤ 9223372036854775807 ∧ t.pages.all bigP = true) (.b true, [])
theorem scanV_len (t : Tr) (a b m : Int) : (scanV t a b m).length ≤ 64 := by
  have h1 := prV_len t
  have h2 := List.length_filter_le (inScan a b) (prV t)
  unfold scanV
  rw [List.length_take]
  omega

theorem fn_FnExactScanKeys (t : Tr) (h : TrW t) (x : Int) (hx : intWf .i64 x) (y : Int) (hy : intWf .i64 y) (z : Int) (hz : intWf .i64 z) : mLawTree4.fn [eTr false t, eI x, eI y, eI z] = some (.b true, []) := by
  obtain ⟨h1, h2⟩ := bigP_of h
  simp (config := {maxSteps := 1000000}) (disch := omega) only [go_sem, ↓reduceIte, Nat.reduceEqDiff, Nat.reduceAdd, Nat.reduceMul, Nat.reduceSub, Nat.reduceLeDiff, Nat.reduceLT, Int.reduceToNat, Int.reduceLE, Int.reduceLT, Int.reduceNeg, mLawTree4, h2]
end Go.TM
