/- Contracts, 56: the program's renumbering. -/
import Derived.Test.YtbpfagbihffmbaaF52
namespace Go.TM
open Go.Proofs
set_option linter.unusedVariables false
set_option linter.unusedSimpArgs false
set_option maxRecDepth 100000
set_option maxHeartbeats 4000000

/-! ### Pages of which some have been taken away -/

def ePo : Option Pg → List A
  | some p => ePg true p
  | none => [.und, .und, .und]
theorem ePo_len (o : Option Pg) : (ePo o).length = 3 := by cases o <;> rfl
theorem drop_po : ∀ (xs : List (Option Pg)) (k : Nat), (xs.flatMap ePo).drop (k * 3) = (xs.drop k).flatMap ePo
  | [], k => by simp
  | x :: xs, 0 => by simp
  | x :: xs, k + 1 => by
    have := drop_po xs k
    rw [show (k + 1) * 3 = 3 + k * 3 from by omega, List.flatMap_cons, ← List.drop_drop]
    rw [show 3 = (ePo x).length from (ePo_len x).symm, List.drop_left]
    rw [ePo_len]
    simpa using this
theorem po_len (xs : List (Option Pg)) : (xs.flatMap ePo).length = xs.length * 3 := by
  induction xs with
  | nil => rfl
  | cons x xs ih => rw [List.flatMap_cons, List.length_append, ePo_len, ih, List.length_cons]; omega
theorem po_get {xs : List (Option Pg)} {k j : Nat} {p : Pg} (h : k < xs.length) (hp : xs.getD k none = some p) (hj : j < 3) : (xs.flatMap ePo)[k * 3 + j]? = (ePg true p)[j]? := by
  rw [← List.getElem?_drop, drop_po, List.drop_eq_getElem_cons h, List.flatMap_cons, List.getElem?_append_left (by rw [ePo_len]; exact hj)]
  rw [show xs[k] = some p from by rw [← hp]; simp [h]]
  rfl
theorem po_rng {xs : List (Option Pg)} {k : Nat} {p : Pg} (h : k < xs.length) (hp : xs.getD k none = some p) : rng (xs.flatMap ePo) (k * 3) 3 = [eIs true p.keys, eIs true p.kids, eIs true p.vals] := by
  unfold rng
  rw [drop_po, List.drop_eq_getElem_cons h, List.flatMap_cons, show xs[k] = some p from by rw [← hp]; simp [h]]
  rfl
theorem po_set {xs : List (Option Pg)} {k : Nat} (h : k < xs.length) : (((xs.flatMap ePo).set (k * 3) .und).set (k * 3 + 1) .und).set (k * 3 + 2) .und = (xs.set k none).flatMap ePo := by
  rw [← set_flat ePo 3 ePo_len xs k none h]
  have hl := po_len xs
  show _ = List.take (k * 3) (xs.flatMap ePo) ++ [A.und, A.und, A.und] ++ List.drop (k * 3 + 3) (xs.flatMap ePo)
  rw [show [A.und, A.und, A.und] = [A.und, A.und, A.und] from rfl]
  have e := setR_eq [A.und, A.und, A.und] (k * 3) (xs.flatMap ePo) (by rw [hl]; simp; omega)
  rw [List.length_cons, List.length_cons, List.length_singleton] at e
  rw [← e]
  rfl
theorem po_all (ps : List Pg) : ps.flatMap (ePg true) = (ps.map some).flatMap ePo := by
  induction ps with
  | nil => rfl
  | cons p ps ih => rw [List.flatMap_cons, ih]; rfl

/-- The numbers of the pages that have been numbered. -/
def Numd (ns w : List Int) (k : Nat) : Prop := ns.length = 16 ∧ ∀ i, i < k → ns.getD (w.getD i 0).toNat 0 = i
theorem Numd.step {ns w : List Int} {k : Nat} {y : Nat} (h : Numd ns w k) (hk : k < w.length) (hy : w.getD k 0 = y) (hw : ∀ z ∈ w, 0 ≤ z ∧ z < 16) (hn : w.Nodup) : Numd (ns.set y k) w (k + 1) := by
  refine ⟨by rw [List.length_set]; exact h.1, fun i hi => ?_⟩
  have hwk := hw _ (getD_mem hk)
  rw [hy] at hwk
  by_cases e : i = k
  · subst e
    rw [hy]
    have hl := h.1
    simp [show y < ns.length from by omega]
  · have hik : i < k := by omega
    have h1 := h.2 i hik
    have hne : (w.getD i 0).toNat ≠ y := by
      intro hh
      have hwi := hw _ (getD_mem (show i < w.length by omega))
      have : w.getD i 0 = w.getD k 0 := by rw [hy]; omega
      have h2 := (List.nodup_iff_pairwise_ne.1 hn)
      rw [List.pairwise_iff_getElem] at h2
      have h3 := h2 i k (by omega) hk hik
      apply h3
      have e1 : w.getD i 0 = w[i] := by simp [show i < w.length from by omega]
      have e2 : w.getD k 0 = w[k] := by simp [hk]
      rw [← e1, ← e2, this]
    rw [List.getD_eq_getElem?_getD, List.getElem?_set_ne (Ne.symm hne), ← List.getD_eq_getElem?_getD]
    exact h1
theorem Numd.at {ns w : List Int} (h : Numd ns w w.length) {z : Int} (hz : z ∈ w) (hn : w.Nodup) : ns.getD z.toNat 0 = placeV w z := by
  obtain ⟨i, hi, e⟩ := mem_getD hz
  rw [← e, h.2 i hi]
  refine (place_at hi rfl fun j hj hh => ?_).symm
  have h2 := (List.nodup_iff_pairwise_ne.1 hn)
  rw [List.pairwise_iff_getElem] at h2
  apply h2 j i (by omega) hi hj
  have e1 : w.getD j 0 = w[j] := by simp [show j < w.length from by omega]
  have e2 : w.getD i 0 = w[i] := by simp [hi]
  rw [← e1, ← e2, hh]

theorem tr2_eq {n : Nat} {r : Int} {b : Bool} {ps : List Pg} (h : n = ps.length) : some (A.tup [.agg [eI r, .s true 3 n (ps.flatMap (ePg true))], .b b], ([] : List (List A))) = some (.tup [eTr true ⟨r, ps⟩, .b b], []) := by subst h; rfl

end Go.TM
