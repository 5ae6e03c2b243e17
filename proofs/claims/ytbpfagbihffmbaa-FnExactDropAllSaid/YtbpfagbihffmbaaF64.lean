/- Contracts, 54 59 63 64. -/
import Derived.Test.YtbpfagbihffmbaaF53
/- Contracts, 54: trees are loaded: the program's side. -/
namespace Go.TM
open Go.Proofs
set_option linter.unusedVariables false
set_option linter.unusedSimpArgs false
set_option maxRecDepth 100000
set_option maxHeartbeats 4000000

def allNe (ps : List (List Pr)) : Prop := ∀ p ∈ ps, p ≠ []
noncomputable instance (ps : List (List Pr)) : Decidable (allNe ps) := Classical.propDecidable _
theorem get_r0 {P : List Pr} (h : 0 < P.length) : (P.flatMap ePr)[0]? = some (eI (P.getD 0 default).1) := get_row0 (k := 0) h
end Go.TM
/- Contracts, 59: a page with an inside. -/
namespace Go.TM
open Go.Proofs Go.RowKit
set_option linter.unusedVariables false
set_option linter.unusedSimpArgs false
set_option maxRecDepth 100000
set_option maxHeartbeats 4000000

theorem two_slc {us : Array Value} (hu : us.size = 2) (hs : ∀ k ∈ [0, 1], ∃ ao l cp, us.getD k undef = Value.slice ao l cp) : ∃ a0 l0 c0 a1 l1 c1, us = #[.slice a0 l0 c0, .slice a1 l1 c1] := by
  obtain ⟨l, rfl⟩ : ∃ l : List Value, us = l.toArray := ⟨us.toList, by simp⟩
  match l, hu with
  | [u0, u1], _ =>
    obtain ⟨a0, l0, c0, e0⟩ := hs 0 (by simp)
    obtain ⟨a1, l1, c1, e1⟩ := hs 1 (by simp)
    have e0' : u0 = .slice a0 l0 c0 := e0
    have e1' : u1 = .slice a1 l1 c1 := e1
    exact ⟨a0, l0, c0, a1, l1, c1, by rw [e0', e1']⟩

theorem heap_new (w : World) (o : Obj) : (w.alloc o).heap[w.heap.size]? = some o := by
  show (w.heap.push o)[w.heap.size]? = some o
  exact Array.getElem?_push_size

theorem c_innerOfS : AliasOk Try.prog 123 [2] [.arg 0 0, .arg 0 1, .empty 1] := by
  refine alias_of_kept_empty (ks := [0, 1]) (Nat.le_refl _) fun w us hu hs => ?_
  obtain ⟨a0, l0, c0, a1, l1, c1, rfl⟩ := two_slc hu hs
  go_enter Try.func123, Try.ntmps123
  go_wp2
  (try simp only [Exit.inBlock, Exit.then])
  refine bodyPost_ret (v := .agg #[.slice a0 l0 c0, .slice a1 l1 c1, .slice (some ⟨w.heap.size + 1 + 1, 0, none⟩) 0 0]) (by simp [results, Try.results123, go_sem]) rfl ?_
  refine ⟨w.heap.size + 1 + 1, 3, by omega, ?_, rfl, ((Kept.alloc _ _ _).trans (Kept.alloc _ _ _)).trans (Kept.alloc _ _ _)⟩
  have hn := heap_new ((w.alloc (.cells #[.slice a0 l0 c0, .slice a1 l1 c1] 93)).alloc (.cells #[.slice a0 l0 c0, .slice a1 l1 c1, .slice (some ⟨w.heap.size + 1 + 1, 0, none⟩) 0 0] 85)) (.cells #[] 3)
  rwa [World.size_alloc, World.size_alloc] at hn
theorem fo_innerOfS : FnOk Try.prog 123 := fnOk_of Try.func123 (by kernel_rfl)

end Go.TM
/- Contracts, 63: insides and pages that share their memory. -/
namespace Go.TM
open Go.Proofs Go.RowKit
set_option linter.unusedVariables false
set_option linter.unusedSimpArgs false
set_option maxRecDepth 100000
set_option maxHeartbeats 4000000

theorem three_slc {us : Array Value} (hu : us.size = 3) (hs : ∀ k ∈ [0, 1], ∃ ao l cp, us.getD k undef = Value.slice ao l cp) : ∃ a0 l0 c0 a1 l1 c1 u2, us = #[.slice a0 l0 c0, .slice a1 l1 c1, u2] := by
  obtain ⟨l, rfl⟩ : ∃ l : List Value, us = l.toArray := ⟨us.toList, by simp⟩
  match l, hu with
  | [u0, u1, u2], _ =>
    obtain ⟨a0, l0, c0, e0⟩ := hs 0 (by simp)
    obtain ⟨a1, l1, c1, e1⟩ := hs 1 (by simp)
    have e0' : u0 = .slice a0 l0 c0 := e0
    have e1' : u1 = .slice a1 l1 c1 := e1
    exact ⟨a0, l0, c0, a1, l1, c1, u2, by rw [e0', e1']⟩

theorem c_insideIA : AliasOk Try.prog 80 [3] [.arg 0 0, .arg 0 1] := by
  refine alias_of_kept (ks := [0, 1]) (by omega) fun w us hu hs => ?_
  obtain ⟨a0, l0, c0, a1, l1, c1, u2, rfl⟩ := three_slc hu hs
  go_enter Try.func80, Try.ntmps80
  go_wp2
  (try simp only [Exit.inBlock, Exit.then])
  refine bodyPost_ret (v := .agg #[.slice a0 l0 c0, .slice a1 l1 c1]) (by simp [results, Try.results80, go_sem]) rfl ?_
  exact ⟨rfl, (Kept.alloc _ _ _).trans (Kept.alloc _ _ _)⟩
theorem fo_insideIA : FnOk Try.prog 80 := fnOk_of Try.func80 (by kernel_rfl)


theorem c_insideSA : AliasOk Try.prog 122 [3] [.arg 0 0, .arg 0 1] := by
  refine alias_of_kept (ks := [0, 1]) (by omega) fun w us hu hs => ?_
  obtain ⟨a0, l0, c0, a1, l1, c1, u2, rfl⟩ := three_slc hu hs
  go_enter Try.func122, Try.ntmps122
  go_wp2
  (try simp only [Exit.inBlock, Exit.then])
  refine bodyPost_ret (v := .agg #[.slice a0 l0 c0, .slice a1 l1 c1]) (by simp [results, Try.results122, go_sem]) rfl ?_
  exact ⟨rfl, (Kept.alloc _ _ _).trans (Kept.alloc _ _ _)⟩
theorem fo_insideSA : FnOk Try.prog 122 := fnOk_of Try.func122 (by kernel_rfl)


theorem c_innerPage : AliasOk Try.prog 77 [2] [.arg 0 0, .arg 0 1, .nil 1] := by
  refine alias_of_kept_nil (ks := [0, 1]) (Nat.le_refl _) fun w us hu hs => ?_
  obtain ⟨a0, l0, c0, a1, l1, c1, rfl⟩ := two_slc hu hs
  go_enter Try.func77, Try.ntmps77
  go_wp2
  (try simp only [Exit.inBlock, Exit.then])
  refine bodyPost_ret (v := .agg #[.slice a0 l0 c0, .slice a1 l1 c1, .slice none 0 0]) (by simp [results, Try.results77, go_sem]) rfl ?_
  exact ⟨rfl, (Kept.alloc _ _ _).trans (Kept.alloc _ _ _)⟩
theorem fo_innerPage : FnOk Try.prog 77 := fnOk_of Try.func77 (by kernel_rfl)


end Go.TM
/- Contracts, 64: the value of a key. -/
namespace Go.TM
open Go.Proofs
set_option linter.unusedVariables false
set_option linter.unusedSimpArgs false
set_option maxRecDepth 100000
set_option maxHeartbeats 4000000

theorem TV.pg {t : Tr} (h : TV t) {i : Nat} (hi : i < t.pages.length) : ∃ h', PD t h' i := by
  obtain ⟨y, hy, e⟩ := (all_iff_len h.nd h.pd.wrng).1 h.all i hi
  obtain ⟨h', hp⟩ := wk_pd' h.pd y hy
  have hr := h.pd.wrng y hy
  rw [show (i : Int) = y from by omega]
  exact ⟨h', hp⟩
end Go.TM
