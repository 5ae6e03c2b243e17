/- Contracts, 18: slices.Delete at numbers. -/
import Derived.Test.YtbpfagbihffmbaaF17
import Derived.Lib.SliceRun
import Derived.Deep.RegionLaw
import Derived.Laws.IdiomCopy
import Derived.Deep.MidRow
namespace Go.Proofs
open Go.Shelf Go.RowKit Go.TM
set_option linter.unusedVariables false
set_option linter.unusedSimpArgs false

theorem int_info : ∃ i, Try.prog.info? 3 = some i ∧ i.size = 1 ∧ i.zero = some (.int .i64 0) := by
  have h : (match Try.prog.info? 3 with
    | some i => decide (i.size = 1) && (match i.zero with
      | some (.int .i64 n) => decide (n = 0)
      | _ => false)
    | none => false) = true := by kernel_rfl
  split at h
  · rename_i i hi
    simp only [Bool.and_eq_true, decide_eq_true_eq] at h
    obtain ⟨h1, h2⟩ := h
    split at h2
    · rename_i n hz
      simp only [decide_eq_true_eq] at h2
      subst h2
      exact ⟨i, hi, h1, hz⟩
    · cases h2
  · cases h

end Go.Proofs
namespace Go.TM
open Go.Proofs Go.RowKit Go.Shelf
set_option linter.unusedVariables false
set_option linter.unusedSimpArgs false
set_option maxRecDepth 100000

/-- Some cells in a row are written: the heap. -/
theorem setCells_heap (b : Nat) : ∀ (vs : List Value) (o : Nat) (w : World) (cur : Array Value) (e : Nat) (f : Nat × Nat), w.heap[b]? = some (.cells cur e f) → o + vs.length ≤ cur.size →
    (w.setCells b o vs).os = w.os ∧ (w.setCells b o vs).tape = w.tape ∧ (w.setCells b o vs).output = w.output ∧ (w.setCells b o vs).heap.size = w.heap.size ∧ (∀ x, x ≠ b → (w.setCells b o vs).heap[x]? = w.heap[x]?) ∧
    ∃ cur', (w.setCells b o vs).heap[b]? = some (.cells cur' e f) ∧ cur'.size = cur.size ∧ ∀ t, cur'[t]? = if o ≤ t ∧ t < o + vs.length then vs[t - o]? else cur[t]?
  | [], o, w, cur, e, f, h, _ => by
    refine ⟨rfl, rfl, rfl, rfl, fun _ _ => rfl, cur, h, rfl, fun t => ?_⟩
    rw [if_neg (by simp only [List.length_nil]; omega)]
  | v :: vs, o, w, cur, e, f, h, hl => by
    have hlt : b < w.heap.size := (Array.getElem?_eq_some_iff.1 h).1
    have h1 : (w.setCell ⟨b, o, none⟩ v).heap[b]? = some (.cells (cur.setIfInBounds o v) e f) := by
      simp [World.setCell, Array.getElem?_modify, h]
    have h2 : ∀ x, x ≠ b → (w.setCell ⟨b, o, none⟩ v).heap[x]? = w.heap[x]? := fun x hx => by
      simp only [World.setCell, Array.getElem?_modify]
      rw [if_neg (fun hh => hx hh.symm)]
    have h3 : (w.setCell ⟨b, o, none⟩ v).heap.size = w.heap.size := by simp [World.setCell]
    simp only [List.length_cons] at hl
    obtain ⟨g1, g2, g3, g4, g5, cur', g6, g7, g8⟩ := setCells_heap b vs (o + 1) (w.setCell ⟨b, o, none⟩ v) _ e f h1 (by simp; omega)
    refine ⟨g1, g2, g3, g4.trans h3, fun x hx => (g5 x hx).trans (h2 x hx), cur', g6, by rw [g7]; simp, fun t => ?_⟩
    show cur'[t]? = _
    rw [g8, List.length_cons]
    by_cases ht : o + 1 ≤ t ∧ t < o + 1 + vs.length
    · rw [if_pos ht, if_pos (by omega), show t - o = t - (o + 1) + 1 from by omega]
      rfl
    · rw [if_neg ht]
      by_cases hto : t = o
      · subst hto
        rw [if_pos (by omega), Nat.sub_self]
        simp [show t < cur.size by omega]
      · rw [if_neg (by omega)]
        rw [Array.getElem?_setIfInBounds_ne (fun hh => hto hh.symm)]

def mDeleteI : Model := M3 .mv .ro .ro true (cIs true) cI cI fun xs i j => gd (0 ≤ i ∧ i < j ∧ j ≤ xs.length) (eIs true (xs.take i.toNat ++ xs.drop j.toNat), [])

end Go.TM
