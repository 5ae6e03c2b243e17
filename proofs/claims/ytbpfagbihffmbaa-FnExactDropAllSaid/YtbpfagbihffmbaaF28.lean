/- Contracts, 29 28. -/
import Derived.Test.YtbpfagbihffmbaaF27
/- Contracts, 29: a key, a pair, a kid is put. -/
namespace Go.TM
open Go.Proofs
set_option linter.unusedVariables false
set_option linter.unusedSimpArgs false
set_option maxRecDepth 100000

theorem inR_t {n a b : Int} (h : a ≤ n ∧ n ≤ b) : inR n a b = true := by simp [inR]; omega
theorem inR_f {n a b : Int} (h : ¬ (a ≤ n ∧ n ≤ b)) : inR n a b = false := by
  rw [Bool.eq_false_iff]
  intro h'
  simp [inR] at h'
  omega
theorem take_mapI' {xs : List Int} {k : Nat} (h : xs.length = k) : (xs.map eI).take k = xs.map eI := List.take_of_length_le (by simp; omega)



end Go.TM
/- Contracts, 28: pages as numbers. -/
namespace Go.TM
open Go.Proofs
set_option linter.unusedVariables false
set_option linter.unusedSimpArgs false
set_option maxRecDepth 100000

/-! ### The check -/

theorem app_I' {xs : List Int} {k : Nat} {v : Int} (h : xs.length = k) : (xs.map eI).take k ++ [A.i .i64 v] = (xs ++ [v]).map eI := by
  rw [List.take_of_length_le (by simp; omega)]
  simp



def mkPg (a b c : Nat) (k : Int) : Pg := ⟨marks a k, marks b (k + a), marks c (k + a + b)⟩
end Go.TM
