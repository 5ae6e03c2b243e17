/- Contracts, 24: slices.Grow of nil, slices.Concat. -/
import Derived.Test.YtbpfagbihffmbaaF23
import Derived.Lib.AppendZeros
import Derived.Lib.SliceRun
import Derived.Deep.RegionLaw
import Derived.Laws.IdiomCopy
import Derived.Deep.MidRow
namespace Go.Proofs
open Go.Shelf Go.RowKit Go.TM
set_option linter.unusedVariables false
set_option linter.unusedSimpArgs false

theorem zeroCells_size (z : Array Value) (m : Nat) : (Builtin.zeroCells z m).size = m * z.size := by
  simp [Builtin.zeroCells, size_madeCells]

end Go.Proofs
namespace Go.TM
open Go.Proofs
set_option linter.unusedVariables false
set_option linter.unusedSimpArgs false
set_option maxRecDepth 100000


abbrev eRows (o : Bool) (xs : List (List Pr)) : A := .s o 1 xs.length (xs.map (eRow o))
theorem cRows_e (o : Bool) (xs : List (List Pr)) : (cS o (cRow o)).e xs = .s o 1 xs.length (xs.map (eRow o)) := rfl
theorem cRows_d (o : Bool) (xs : List (List Pr)) : (cS o (cRow o)).d (.s o 1 xs.length (xs.map (eRow o))) = some xs := (cS o (cRow o)).de xs
theorem cRows_2 (o : Bool) (a b : List Pr) : (cS o (cRow o)).d (.s o 1 2 [eRow o a, eRow o b]) = some [a, b] := (cS o (cRow o)).de [a, b]
theorem cIss_2 (o : Bool) (a b : List Int) : (cS o (cS o cI)).d (.s o 1 2 [eIs o a, eIs o b]) = some [a, b] := (cS o (cS o cI)).de [a, b]
theorem cIss_3 (o : Bool) (a b c : List Int) : (cS o (cS o cI)).d (.s o 1 3 [eIs o a, eIs o b, eIs o c]) = some [a, b, c] := (cS o (cS o cI)).de [a, b, c]
theorem get_Rs {o : Bool} {xs : List (List Pr)} {k : Nat} (h : k < xs.length) : (xs.map (eRow o))[k]? = some (eRow o (xs.getD k [])) := by
  rw [List.getElem?_map, List.getElem?_eq_getElem h]; simp [h]
theorem imm_rows (o : Bool) (xs : List (List Pr)) : (xs.map (eRow o)).map imm1 = xs.map (eRow false) := by
  induction xs with
  | nil => rfl
  | cons x xs ih => simp only [List.map_cons, ih]; rfl
theorem normL_k (c : A) (cs : List A) : normL (c :: cs) = norm c :: normL cs := rfl
theorem norm_s (o : Bool) (sz len : Nat) (cs : List A) : norm (.s o sz len cs) = .s false sz len (normL cs) := rfl
theorem norm_i (k : IntKind) (n : Int) : norm (.i k n) = .i k n := rfl
attribute [go_sem] normL_k norm_s norm_i cRows_e cRows_d cRows_2 cIss_2 cIss_3 get_Rs imm_rows

theorem app_II {xs ys : List Int} {k : Nat} (h : xs.length = k) : (xs.map eI).take k ++ ys.map eI = (xs ++ ys).map eI := by
  rw [List.take_of_length_le (by rw [List.length_map]; omega), List.map_append]

theorem flat_step {α : Type} {xs : List (List α)} {k : Nat} (h : k < xs.length) : (xs.take (k + 1)).flatten = (xs.take k).flatten ++ xs.getD k [] := by
  rw [List.take_succ_eq_append_getElem h, List.flatten_append]
  simp [h]
theorem flat_bound {α : Type} {n : Nat} : ∀ {xs : List (List α)} {k : Nat}, (xs.all fun x => decide (x.length ≤ n)) = true → ((xs.take k).flatten).length ≤ xs.length * n
  | [], _, _ => by simp
  | x :: xs, 0, _ => by simp
  | x :: xs, k + 1, h => by
    simp only [List.all_cons, Bool.and_eq_true, decide_eq_true_eq] at h
    have := flat_bound (k := k) h.2
    simp only [List.take_succ_cons, List.flatten_cons, List.length_append, List.length_cons, Nat.add_mul]
    omega
theorem all_getD {α : Type} {n : Nat} {xs : List (List α)} (h : (xs.all fun x => decide (x.length ≤ n)) = true) (k : Nat) : (xs.getD k []).length ≤ n := by
  by_cases hk : k < xs.length
  · have := List.all_eq_true.1 h (xs.getD k []) (by simp [hk])
    exact of_decide_eq_true this
  · simp [show xs.length ≤ k by omega]

def mConcatP : Model := M1 .ro true (cS false (cRow false)) fun xss => gd (xss.length ≤ 16 ∧ (xss.all fun x => decide (x.length ≤ 68719476736)) = true) (eRow true xss.flatten, [])
def mConcatI : Model := M1 .ro true (cS false (cS false cI)) fun xss => gd (xss.length ≤ 16 ∧ (xss.all fun x => decide (x.length ≤ 68719476736)) = true) (eIs true xss.flatten, [])


end Go.TM
