/- The arguments of this seat's laws, read. -/
import Derived.Test.YthikbhekdnmhbaaTab
import Derived.Test.YthikbhekdnmhbaaTmD
namespace Go.TM
open Go.Proofs
set_option linter.unusedVariables false
set_option linter.unusedSimpArgs false
set_option maxRecDepth 100000

section
variable {H : Type} {enc : TypeId × Value → H} {w : World} {held : Bool} {base : Nat} {v : Value} {d : DataW H} {ps : List MemPlace}

theorem r_int : Reads enc Try.prog w held 3 (fun n => [eI n]) (intWf .i64) := reads_int Try.underlying3
theorem r_ints : Reads enc Try.prog w held 22 (fun xs : List Int => [eIs false xs]) (fun xs => (∀ y ∈ xs, intWf .i64 y) ∧ xs.length ≤ maxLen) :=
  reads_map (reads_slice (k := 1) r_int Try.underlying22 (by kernel_rfl) (by omega) fun _ => rfl) (fun xs => xs) _ _ (fun xs => by rw [flat1]) (fun _ h => h)
theorem arg_int (hok : Value.okWide Try.prog w .any base 3 v) (h : DataW.Trod enc Try.prog w 0 (fun _ => true) held 3 v d ps) : ∃ x, intWf .i64 x ∧ ArgOk w (eI x) v :=
  arg_one r_int (fun _ _ h => by cases h) (cells_int Try.underlying3 hok) h
theorem arg_ints (hok : Value.okWide Try.prog w .any base 22 v) (h : DataW.Trod enc Try.prog w 0 (fun _ => true) held 22 v d ps) : ∃ xs : List Int, ((∀ y ∈ xs, intWf .i64 y) ∧ xs.length ≤ maxLen) ∧ ArgOk w (eIs false xs) v :=
  arg_one r_ints (fun _ _ h => by cases h) (cells_slice Try.underlying22 hok) h
theorem ce_int : Try.prog.cellsOf 3 = 1 := by kernel_rfl
theorem plain_int : PlainT Try.prog 3 := .int Try.underlying3
theorem plain_ints : PlainT Try.prog 22 := .slice Try.underlying22 plain_int (by rw [ce_int]; omega)
theorem r_op : Reads enc Try.prog w held 86 eOp (fun x => intWf .i64 x.1 ∧ intWf .i64 x.2.1 ∧ intWf .i64 x.2.2) :=
  reads_st3 r_int r_int r_int Try.underlying86 (by kernel_rfl) (by kernel_rfl) ce_int ce_int ce_int
theorem r_ops : Reads enc Try.prog w held 30 (fun xs : List Op3 => [eOps false xs]) (fun xs => (∀ y ∈ xs, intWf .i64 y.1 ∧ intWf .i64 y.2.1 ∧ intWf .i64 y.2.2) ∧ xs.length ≤ maxLen) :=
  reads_slice (k := 3) r_op Try.underlying30 (by kernel_rfl) (by omega) fun _ => rfl
theorem arg_ops (hok : Value.okWide Try.prog w .any base 30 v) (h : DataW.Trod enc Try.prog w 0 (fun _ => true) held 30 v d ps) : ∃ xs : List Op3, ((∀ y ∈ xs, intWf .i64 y.1 ∧ intWf .i64 y.2.1 ∧ intWf .i64 y.2.2) ∧ xs.length ≤ maxLen) ∧ ArgOk w (eOps false xs) v :=
  arg_one r_ops (fun _ _ h => by cases h) (cells_slice Try.underlying30 hok) h
theorem ce_op : Try.prog.cellsOf 86 = 3 := by kernel_rfl
theorem plain_struct {t : Nat} {fs : Array Go.Field} (hu : Try.prog.underlying t = some (.struct fs)) (h : ∀ f ∈ fs.toList, PlainT Try.prog f.type) : PlainT Try.prog t :=
  .struct hu fun i f hf => h f (by rw [← Array.getElem?_toList] at hf; exact List.mem_of_getElem? hf)
theorem plain_op : PlainT Try.prog 86 := plain_struct Try.underlying86 fun f hf => by
  simp only [List.mem_cons, List.not_mem_nil, or_false] at hf
  rcases hf with rfl | rfl | rfl <;> exact plain_int
theorem plain_ops : PlainT Try.prog 30 := .slice Try.underlying30 plain_op (by rw [ce_op]; omega)
theorem r_pair : Reads enc Try.prog w held 91 ePr (fun x => intWf .i64 x.1 ∧ intWf .i64 x.2) :=
  reads_st2 r_int r_int Try.underlying91 (by kernel_rfl) (by kernel_rfl) ce_int ce_int
theorem r_row : Reads enc Try.prog w held 40 (fun xs : List Pr => [eRow false xs]) (fun xs => (∀ y ∈ xs, intWf .i64 y.1 ∧ intWf .i64 y.2) ∧ xs.length ≤ maxLen) :=
  reads_slice (k := 2) r_pair Try.underlying40 (by kernel_rfl) (by omega) fun _ => rfl
theorem arg_row (hok : Value.okWide Try.prog w .any base 40 v) (h : DataW.Trod enc Try.prog w 0 (fun _ => true) held 40 v d ps) : ∃ xs : List Pr, ((∀ y ∈ xs, intWf .i64 y.1 ∧ intWf .i64 y.2) ∧ xs.length ≤ maxLen) ∧ ArgOk w (eRow false xs) v :=
  arg_one r_row (fun _ _ h => by cases h) (cells_slice Try.underlying40 hok) h
theorem ce_pair : Try.prog.cellsOf 91 = 2 := by kernel_rfl
theorem plain_pair : PlainT Try.prog 91 := plain_struct Try.underlying91 fun f hf => by
  simp only [List.mem_cons, List.not_mem_nil, or_false] at hf
  rcases hf with rfl | rfl <;> exact plain_int
theorem plain_row : PlainT Try.prog 40 := .slice Try.underlying40 plain_pair (by rw [ce_pair]; omega)
theorem ce_ints : Try.prog.cellsOf 22 = 1 := by kernel_rfl
theorem r_inner : Reads enc Try.prog w held 48 (fun x : Inn => [eIs false x.keys, eIs false x.kids]) (fun x => ((∀ y ∈ x.keys, intWf .i64 y) ∧ x.keys.length ≤ maxLen) ∧ (∀ y ∈ x.kids, intWf .i64 y) ∧ x.kids.length ≤ maxLen) :=
  reads_map (reads_st2 r_ints r_ints Try.underlying48 (by kernel_rfl) (by kernel_rfl) ce_ints ce_ints) (fun x => (⟨x.1, x.2⟩ : Inn)) _ _ (fun _ => rfl) (fun _ h => h)
theorem arg_inner (hok : Value.okWide Try.prog w .any base 48 v) (h : DataW.Trod enc Try.prog w 0 (fun _ => true) held 48 v d ps) : ∃ x : Inn, (((∀ y ∈ x.keys, intWf .i64 y) ∧ x.keys.length ≤ maxLen) ∧ (∀ y ∈ x.kids, intWf .i64 y) ∧ x.kids.length ≤ maxLen) ∧ ArgOk w (eInn false x) v := by
  obtain ⟨us, rfl⟩ := cells_struct Try.underlying48 hok
  exact arg_agg r_inner h
theorem plain_inner : PlainT Try.prog 48 := plain_struct Try.underlying48 fun f hf => by
  simp only [List.mem_cons, List.not_mem_nil, or_false] at hf
  rcases hf with rfl | rfl <;> exact plain_ints
theorem r_page : Reads enc Try.prog w held 71 (fun x : Pg => [eIs false x.keys, eIs false x.kids, eIs false x.vals]) (fun x => ((∀ y ∈ x.keys, intWf .i64 y) ∧ x.keys.length ≤ maxLen) ∧ ((∀ y ∈ x.kids, intWf .i64 y) ∧ x.kids.length ≤ maxLen) ∧ (∀ y ∈ x.vals, intWf .i64 y) ∧ x.vals.length ≤ maxLen) :=
  reads_map (reads_st3 r_ints r_ints r_ints Try.underlying71 (by kernel_rfl) (by kernel_rfl) ce_ints ce_ints ce_ints) (fun x => (⟨x.1, x.2.1, x.2.2⟩ : Pg)) _ _ (fun _ => rfl) (fun _ h => h)
theorem arg_page (hok : Value.okWide Try.prog w .any base 71 v) (h : DataW.Trod enc Try.prog w 0 (fun _ => true) held 71 v d ps) : ∃ x : Pg, (((∀ y ∈ x.keys, intWf .i64 y) ∧ x.keys.length ≤ maxLen) ∧ ((∀ y ∈ x.kids, intWf .i64 y) ∧ x.kids.length ≤ maxLen) ∧ (∀ y ∈ x.vals, intWf .i64 y) ∧ x.vals.length ≤ maxLen) ∧ ArgOk w (ePage false x) v := by
  obtain ⟨us, rfl⟩ := cells_struct Try.underlying71 hok
  exact arg_agg r_page h
theorem plain_page : PlainT Try.prog 71 := plain_struct Try.underlying71 fun f hf => by
  simp only [List.mem_cons, List.not_mem_nil, or_false] at hf
  rcases hf with rfl | rfl | rfl <;> exact plain_ints
theorem r_byte : Reads enc Try.prog w held 5 (fun n => [e8 n]) (intWf .u8) := reads_int Try.underlying5
theorem r_bytes : Reads enc Try.prog w held 26 (fun xs : List Int => [eBs false xs]) (fun xs => (∀ y ∈ xs, intWf .u8 y) ∧ xs.length ≤ maxLen) :=
  reads_map (reads_slice (k := 1) r_byte Try.underlying26 (by kernel_rfl) (by omega) fun _ => rfl) (fun xs => xs) _ _ (fun xs => by rw [flat1]) (fun _ h => h)
theorem arg_bytes (hok : Value.okWide Try.prog w .any base 26 v) (h : DataW.Trod enc Try.prog w 0 (fun _ => true) held 26 v d ps) : ∃ xs : List Int, ((∀ y ∈ xs, intWf .u8 y) ∧ xs.length ≤ maxLen) ∧ ArgOk w (eBs false xs) v :=
  arg_one r_bytes (fun _ _ h => by cases h) (cells_slice Try.underlying26 hok) h
theorem ce_byte : Try.prog.cellsOf 5 = 1 := by kernel_rfl
theorem plain_byte : PlainT Try.prog 5 := .int Try.underlying5
theorem plain_bytes : PlainT Try.prog 26 := .slice Try.underlying26 plain_byte (by rw [ce_byte]; omega)
end
end Go.TM
