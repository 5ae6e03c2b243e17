/- Contracts, 43: the leaves of a tree. -/
import Derived.Test.YtbpfagbihffmbaaF39
namespace Go.TM
open Go.Proofs
set_option linter.unusedVariables false
set_option linter.unusedSimpArgs false
set_option maxRecDepth 100000
set_option maxHeartbeats 4000000

theorem TV.pe {t : Tr} (h : TV t) : pfE t (htT t) t.root := ⟨h.root, 0, 99, h.pf⟩
noncomputable def mLeaves : Model := M1 .ro true (cTr false) fun t => gd (smT t.pages = true ∧ vTr t = true) (eIs true (lvF t (htT t) t.root), [])
theorem filt_succ {p : Int → Bool} {w : List Int} {k : Nat} (hk : k < w.length) : (w.take (k + 1)).filter p = (w.take k).filter p ++ (if p (w.getD k 0) = true then [w.getD k 0] else []) := by
  rw [List.take_succ_eq_append_getElem hk, List.filter_append]
  have e : w[k] = w.getD k 0 := by simp [hk]
  rw [e]
  congr 1
  simp only [List.filter_cons, List.filter_nil]


theorem PD.ht {t : Tr} {h : Nat} {x : Int} (p : PD t h x) (h2 : h ≤ 2) : htF t 3 x = h := by
  obtain ⟨low, hi, _, hp⟩ := p.pf
  exact htF_pf hp p.rng (by omega)
noncomputable instance (t : Tr) (h : Nat) (x : Int) : Decidable (PD t h x) := Classical.propDecidable _
noncomputable def mLvBelow (D : Nat) : Model := M3 .ro .ro .mv true (cTr false) cI (cIs true) fun t x xs => gd (smT t.pages = true ∧ PD t (htF t 3 x) x ∧ htF t 3 x ≤ 2 ∧ htF t 3 x < D ∧ xs.length + (lvF t (htF t 3 x) x).length ≤ 1000) (eIs true (xs ++ lvF t (htF t 3 x) x), [])
theorem mLvBelow_none : ∀ args r outs, (mLvBelow 0).fn args = some (r, outs) → False := by
  intro args r outs h
  match args, h with
  | [x, y, z], h =>
    simp only [mLvBelow, M3_fn, Option.bind_eq_some_iff] at h
    obtain ⟨_, _, _, _, _, _, h⟩ := h
    have := (gd_some h).1
    omega

end Go.TM
