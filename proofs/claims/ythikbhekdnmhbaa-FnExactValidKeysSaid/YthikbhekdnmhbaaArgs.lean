/- The arguments of this seat's laws, read. -/
import Derived.Test.YthikbhekdnmhbaaTab
import Derived.Test.YthikbhekdnmhbaaTm37
namespace Go.TM
open Go.Proofs
set_option linter.unusedVariables false
set_option linter.unusedSimpArgs false
set_option maxRecDepth 100000

section
variable {H : Type} {enc : TypeId × Value → H} {w : World} {held : Bool} {base : Nat} {v : Value} {d : DataW H} {ps : List MemPlace}

theorem r_int : Reads enc Try.prog w held 3 (fun n => [eI n]) (intWf .i64) := reads_int Try.underlying3
theorem r_ints : Reads enc Try.prog w held 22 (fun xs : List Int => [eIs false xs]) (fun xs => (∀ y ∈ xs, intWf .i64 y) ∧ xs.length ≤ maxLen) :=
  reads_map (reads_slice (k := 1) r_int Try.underlying22 (by kernel_rfl) (by omega) fun _ => rfl) (fun xs => xs) _ _ (fun xs => by rw [flat1]) (fun _ h => h)
theorem arg_int (hok : Value.okWide Try.prog w .any base 3 v) (h : DataW.Trod enc Try.prog w 0 (fun _ => true) held 3 v d ps) : ∃ x, intWf .i64 x ∧ ArgOk w (eI x) v :=
  arg_one r_int (fun _ _ h => by cases h) (cells_int Try.underlying3 hok) h
theorem arg_ints (hok : Value.okWide Try.prog w .any base 22 v) (h : DataW.Trod enc Try.prog w 0 (fun _ => true) held 22 v d ps) : ∃ xs : List Int, ((∀ y ∈ xs, intWf .i64 y) ∧ xs.length ≤ maxLen) ∧ ArgOk w (eIs false xs) v :=
  arg_one r_ints (fun _ _ h => by cases h) (cells_slice Try.underlying22 hok) h
theorem ce_int : Try.prog.cellsOf 3 = 1 := by kernel_rfl
theorem plain_int : PlainT Try.prog 3 := .int Try.underlying3
theorem plain_ints : PlainT Try.prog 22 := .slice Try.underlying22 plain_int (by rw [ce_int]; omega)
end
end Go.TM
