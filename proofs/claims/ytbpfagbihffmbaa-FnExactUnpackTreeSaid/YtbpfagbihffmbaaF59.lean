/- Contracts, 59: a page with an inside. -/
import Derived.Test.YtbpfagbihffmbaaF58
namespace Go.TM
open Go.Proofs Go.RowKit
set_option linter.unusedVariables false
set_option linter.unusedSimpArgs false
set_option maxRecDepth 100000
set_option maxHeartbeats 4000000

theorem two_slc {us : Array Value} (hu : us.size = 2) (hs : ∀ k ∈ [0, 1], ∃ ao l cp, us.getD k undef = Value.slice ao l cp) : ∃ a0 l0 c0 a1 l1 c1, us = #[.slice a0 l0 c0, .slice a1 l1 c1] := by
  obtain ⟨l, rfl⟩ : ∃ l : List Value, us = l.toArray := ⟨us.toList, by simp⟩
  match l, hu with
  | [u0, u1], _ =>
    obtain ⟨a0, l0, c0, e0⟩ := hs 0 (by simp)
    obtain ⟨a1, l1, c1, e1⟩ := hs 1 (by simp)
    have e0' : u0 = .slice a0 l0 c0 := e0
    have e1' : u1 = .slice a1 l1 c1 := e1
    exact ⟨a0, l0, c0, a1, l1, c1, by rw [e0', e1']⟩

theorem heap_new (w : World) (o : Obj) : (w.alloc o).heap[w.heap.size]? = some o := by
  show (w.heap.push o)[w.heap.size]? = some o
  exact Array.getElem?_push_size

end Go.TM
