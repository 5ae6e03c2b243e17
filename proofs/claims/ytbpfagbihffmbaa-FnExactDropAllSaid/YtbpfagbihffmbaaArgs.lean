/- The arguments of this seat's laws, read. -/
import Derived.Test.YtbpfagbihffmbaaTab
import Derived.Test.YtbpfagbihffmbaaTmD
namespace Go.TM
open Go.Proofs
set_option linter.unusedVariables false
set_option linter.unusedSimpArgs false
set_option maxRecDepth 100000

section
variable {H : Type} {enc : TypeId × Value → H} {w : World} {held : Bool} {base : Nat} {v : Value} {d : DataW H} {ps : List MemPlace}

theorem r_int : Reads enc Try.prog w held 3 (fun n => [eI n]) (intWf .i64) := reads_int Try.underlying3
theorem r_ints : Reads enc Try.prog w held 35 (fun xs : List Int => [eIs false xs]) (fun xs => (∀ y ∈ xs, intWf .i64 y) ∧ xs.length ≤ maxLen) :=
  reads_map (reads_slice (k := 1) r_int Try.underlying35 (by kernel_rfl) (by omega) fun _ => rfl) (fun xs => xs) _ _ (fun xs => by rw [flat1]) (fun _ h => h)
theorem arg_int (hok : Value.okWide Try.prog w .any base 3 v) (h : DataW.Trod enc Try.prog w 0 (fun _ => true) held 3 v d ps) : ∃ x, intWf .i64 x ∧ ArgOk w (eI x) v :=
  arg_one r_int (fun _ _ h => by cases h) (cells_int Try.underlying3 hok) h
theorem arg_ints (hok : Value.okWide Try.prog w .any base 35 v) (h : DataW.Trod enc Try.prog w 0 (fun _ => true) held 35 v d ps) : ∃ xs : List Int, ((∀ y ∈ xs, intWf .i64 y) ∧ xs.length ≤ maxLen) ∧ ArgOk w (eIs false xs) v :=
  arg_one r_ints (fun _ _ h => by cases h) (cells_slice Try.underlying35 hok) h
theorem ce_int : Try.prog.cellsOf 3 = 1 := by kernel_rfl
theorem plain_int : PlainT Try.prog 3 := .int Try.underlying3
theorem plain_ints : PlainT Try.prog 35 := .slice Try.underlying35 plain_int (by rw [ce_int]; omega)
theorem plain_struct {t : Nat} {fs : Array Go.Field} (hu : Try.prog.underlying t = some (.struct fs)) (h : ∀ f ∈ fs.toList, PlainT Try.prog f.type) : PlainT Try.prog t :=
  .struct hu fun i f hf => h f (by rw [← Array.getElem?_toList] at hf; exact List.mem_of_getElem? hf)
theorem r_pair : Reads enc Try.prog w held 50 ePr (fun x => intWf .i64 x.1 ∧ intWf .i64 x.2) :=
  reads_st2 r_int r_int Try.underlying50 (by kernel_rfl) (by kernel_rfl) ce_int ce_int
theorem r_row : Reads enc Try.prog w held 41 (fun xs : List Pr => [eRow false xs]) (fun xs => (∀ y ∈ xs, intWf .i64 y.1 ∧ intWf .i64 y.2) ∧ xs.length ≤ maxLen) :=
  reads_slice (k := 2) r_pair Try.underlying41 (by kernel_rfl) (by omega) fun _ => rfl
theorem arg_row (hok : Value.okWide Try.prog w .any base 41 v) (h : DataW.Trod enc Try.prog w 0 (fun _ => true) held 41 v d ps) : ∃ xs : List Pr, ((∀ y ∈ xs, intWf .i64 y.1 ∧ intWf .i64 y.2) ∧ xs.length ≤ maxLen) ∧ ArgOk w (eRow false xs) v :=
  arg_one r_row (fun _ _ h => by cases h) (cells_slice Try.underlying41 hok) h
theorem ce_pair : Try.prog.cellsOf 50 = 2 := by kernel_rfl
theorem plain_pair : PlainT Try.prog 50 := plain_struct Try.underlying50 fun f hf => by
  simp only [List.mem_cons, List.not_mem_nil, or_false] at hf
  rcases hf with rfl | rfl <;> exact plain_int
theorem plain_row : PlainT Try.prog 41 := .slice Try.underlying41 plain_pair (by rw [ce_pair]; omega)
theorem ce_ints : Try.prog.cellsOf 35 = 1 := by kernel_rfl
theorem r_page : Reads enc Try.prog w held 111 (fun x : Pg => [eIs false x.keys, eIs false x.kids, eIs false x.vals]) (fun x => ((∀ y ∈ x.keys, intWf .i64 y) ∧ x.keys.length ≤ maxLen) ∧ ((∀ y ∈ x.kids, intWf .i64 y) ∧ x.kids.length ≤ maxLen) ∧ (∀ y ∈ x.vals, intWf .i64 y) ∧ x.vals.length ≤ maxLen) :=
  reads_map (reads_st3 r_ints r_ints r_ints Try.underlying111 (by kernel_rfl) (by kernel_rfl) ce_ints ce_ints ce_ints) (fun x => (⟨x.1, x.2.1, x.2.2⟩ : Pg)) _ _ (fun _ => rfl) (fun _ h => h)
theorem arg_page (hok : Value.okWide Try.prog w .any base 111 v) (h : DataW.Trod enc Try.prog w 0 (fun _ => true) held 111 v d ps) : ∃ x : Pg, (((∀ y ∈ x.keys, intWf .i64 y) ∧ x.keys.length ≤ maxLen) ∧ ((∀ y ∈ x.kids, intWf .i64 y) ∧ x.kids.length ≤ maxLen) ∧ (∀ y ∈ x.vals, intWf .i64 y) ∧ x.vals.length ≤ maxLen) ∧ ArgOk w (ePage false x) v := by
  obtain ⟨us, rfl⟩ := cells_struct Try.underlying111 hok
  exact arg_agg r_page h
theorem plain_page : PlainT Try.prog 111 := plain_struct Try.underlying111 fun f hf => by
  simp only [List.mem_cons, List.not_mem_nil, or_false] at hf
  rcases hf with rfl | rfl | rfl <;> exact plain_ints
theorem r_pair' : Reads enc Try.prog w held 50 (fun x : Pr => [eI x.1, eI x.2]) (fun x => intWf .i64 x.1 ∧ intWf .i64 x.2) := reads_map r_pair (fun x => x) _ _ (fun _ => rfl) (fun _ h => h)
theorem arg_pair (hok : Value.okWide Try.prog w .any base 50 v) (h : DataW.Trod enc Try.prog w 0 (fun _ => true) held 50 v d ps) : ∃ x : Pr, (intWf .i64 x.1 ∧ intWf .i64 x.2) ∧ ArgOk w (ePair x) v := by
  obtain ⟨us, rfl⟩ := cells_struct Try.underlying50 hok
  exact arg_agg r_pair' h
theorem ce_page : Try.prog.cellsOf 111 = 3 := by kernel_rfl
theorem ce_pages : Try.prog.cellsOf 22 = 1 := by kernel_rfl
theorem r_pages : Reads enc Try.prog w held 22 (fun ps : List Pg => [ePgs false ps]) (fun ps => (∀ p ∈ ps, PgW p) ∧ ps.length ≤ maxLen) :=
  reads_slice (k := 3) r_page Try.underlying22 (by kernel_rfl) (by omega) fun _ => rfl
theorem plain_pages : PlainT Try.prog 22 := .slice Try.underlying22 plain_page (by rw [ce_page]; omega)
theorem r_tree : Reads enc Try.prog w held 24 (fun t : Tr => [eI t.root, ePgs false t.pages]) TrW :=
  reads_map (reads_st2 r_int r_pages Try.underlying24 (by kernel_rfl) (by kernel_rfl) ce_int ce_pages) (fun x => (⟨x.1, x.2⟩ : Tr)) _ _ (fun _ => rfl) (fun _ h => h)
theorem arg_tree (hok : Value.okWide Try.prog w .any base 24 v) (h : DataW.Trod enc Try.prog w 0 (fun _ => true) held 24 v d ps) : ∃ t : Tr, TrW t ∧ ArgOk w (eTr false t) v := by
  obtain ⟨us, rfl⟩ := cells_struct Try.underlying24 hok
  exact arg_agg r_tree h
theorem plain_tree : PlainT Try.prog 24 := plain_struct Try.underlying24 fun f hf => by
  simp only [List.mem_cons, List.not_mem_nil, or_false] at hf
  rcases hf with rfl | rfl
  · exact plain_int
  · exact plain_pages
end
end Go.TM
