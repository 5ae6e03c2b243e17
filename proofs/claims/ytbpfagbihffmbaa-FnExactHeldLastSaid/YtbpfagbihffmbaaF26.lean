/- Contracts, 26: slices.Delete at pairs; a pair is left out; a kid is left out. -/
import Derived.Test.YtbpfagbihffmbaaF25
import Derived.Lib.SliceRun
import Derived.Deep.RegionLaw
import Derived.Laws.IdiomCopy
import Derived.Deep.MidRow
namespace Go.Proofs
open Go.Shelf Go.RowKit Go.TM
set_option linter.unusedVariables false
set_option linter.unusedSimpArgs false

theorem run_clear_cells {P : Program} (w : World) (t e ty : TypeId) (z : Value) (ht : P.underlying t = some (.slice e)) (hv : ∀ w, (zeroValue e).run P w = .ok z w) (vs : List Value) (b o n c : Nat) (hn : 0 < n)
    (hz : (Builtin.zeroCells z.cells n).toList = vs) (h1 : ∀ v ∈ vs, v.oneCell' = true) (hc : ∀ j, j < vs.length → (w.cell? ⟨b, o + j, none⟩).isSome = true) (hf : ∀ j, j < vs.length → w.frozen? ⟨b, o + j, none⟩ = false) :
    (Builtin.clear_ #[t] ty #[.slice (some ⟨b, o, none⟩) n c]).run P w = .ok (.tuple #[]) (w.setCells b o vs) := by
  have hst := run_storeCells_cells (P := P) b o vs 0 w (by simpa using hc) (by simpa using hf) h1
  simp only [Nat.add_zero] at hst
  obtain ⟨m, rfl⟩ : ∃ m, n = m + 1 := ⟨n - 1, by omega⟩
  simp [Builtin.clear_, run_underlying ht, hv, hz, hst]

end Go.Proofs
namespace Go.TM
open Go.Proofs Go.RowKit Go.Shelf
set_option linter.unusedVariables false
set_option linter.unusedSimpArgs false
set_option maxRecDepth 100000

/-- Pairs as numbers. -/
def fl2 (zs : List Pr) : List Int := zs.flatMap fun p => [p.1, p.2]
theorem fl2_c (p : Pr) (zs : List Pr) : fl2 (p :: zs) = p.1 :: p.2 :: fl2 zs := rfl
theorem fl2_len : ∀ zs : List Pr, (fl2 zs).length = zs.length * 2
  | [] => rfl
  | p :: zs => by rw [fl2_c, List.length_cons, List.length_cons, List.length_cons, fl2_len zs]; omega
theorem fl2_e : ∀ zs : List Pr, zs.flatMap ePr = (fl2 zs).map eI
  | [] => rfl
  | p :: zs => by rw [fl2_c, List.flatMap_cons, fl2_e zs]; rfl
theorem fl2_app (a b : List Pr) : fl2 (a ++ b) = fl2 a ++ fl2 b := List.flatMap_append
theorem fl2_drop : ∀ (zs : List Pr) (k : Nat), fl2 (zs.drop k) = (fl2 zs).drop (k * 2)
  | zs, 0 => by simp
  | [], k + 1 => by simp [fl2]
  | p :: zs, k + 1 => by
    rw [fl2_c, show (k + 1) * 2 = k * 2 + 1 + 1 from by omega, List.drop_succ_cons, List.drop_succ_cons, List.drop_succ_cons, fl2_drop zs k]
theorem fl2_take : ∀ (zs : List Pr) (k : Nat), fl2 (zs.take k) = (fl2 zs).take (k * 2)
  | zs, 0 => by simp [fl2]
  | [], k + 1 => by simp [fl2]
  | p :: zs, k + 1 => by
    rw [fl2_c, show (k + 1) * 2 = k * 2 + 1 + 1 from by omega, List.take_succ_cons, List.take_succ_cons, List.take_succ_cons, fl2_c, fl2_take zs k]

def mDeleteP : Model := M3 .mv .ro .ro true (cRow true) cI cI fun xs i j => gd (0 ≤ i ∧ i < j ∧ j ≤ xs.length) (eRow true (xs.take i.toNat ++ xs.drop j.toNat), [])


/-! ### A pair is left out -/

noncomputable def dropV (xs : List Pr) (k : Int) : List Pr × Bool := if vRow xs = true ∧ k ∈ keysP xs then (xs.take (cntB (keysP xs) k) ++ xs.drop (cntB (keysP xs) k + 1), true) else ([], false)
theorem dropV_f {xs : List Pr} {k : Int} (h : ¬ (vRow xs = true ∧ k ∈ keysP xs)) : dropV xs k = ([], false) := if_neg h
theorem dropV_t {xs : List Pr} {k : Int} (h : vRow xs = true) (hk : k ∈ keysP xs) : dropV xs k = (xs.take (cntB (keysP xs) k) ++ xs.drop (cntB (keysP xs) k + 1), true) := if_pos ⟨h, hk⟩
theorem dropV_len (xs : List Pr) (k : Int) : (dropV xs k).1.length ≤ xs.length := by
  unfold dropV
  split
  · simp; omega
  · simp
noncomputable def mDropPair : Model := M2 .ro .ro true (cRow false) cI fun xs k => gd (xs.length ≤ 549755813888) (.tup [eRow true (dropV xs k).1, .b (dropV xs k).2], [])
noncomputable def dfrV (xs : List Pr) (k : Int) : List Pr × Bool := if thV xs k = true then (xs.take (cntB (keysP xs) k) ++ xs.drop (cntB (keysP xs) k + 1), true) else (xs, false)
noncomputable def mDropFrom : Model := M2 .ro .ro true (cRow false) cI fun xs k => gd (vk (keysP xs) = true ∧ xs.length ≤ 549755813888) (.tup [eRow true (dfrV xs k).1, .b (dfrV xs k).2], [])




theorem fn_FnExactDropPair (x : List Pr) (h : (∀ y ∈ x, intWf .i64 y.1 ∧ intWf .i64 y.2) ∧ x.length ≤ maxLen) (k : Int) (hk : intWf .i64 k) : mLawRow2.fn [eRow false x, eI k] = some (.b true, []) := by
  have h2 : x.length ≤ 9223372036854775807 := h.2
  simp (config := {maxSteps := 1000000}) (disch := omega) only [go_sem, ↓reduceIte, Nat.reduceEqDiff, Nat.reduceAdd, Nat.reduceMul, Nat.reduceSub, Nat.reduceLeDiff, Nat.reduceLT, Int.reduceToNat, Int.reduceLE, Int.reduceLT, Int.reduceNeg, mLawRow2]

/-! ### A kid is left out -/

def cutV (x : Inn) (p : Nat) : Inn := ⟨x.keys.take (p - 1) ++ x.keys.drop p, x.kids.take p ++ x.kids.drop (p + 1)⟩
def mCutAt : Model := M2 .ro .ro true (cInn false) cI fun x p => gd (1 ≤ p ∧ p ≤ x.keys.length ∧ x.kids.length = x.keys.length + 1 ∧ x.keys.length ≤ 34359738368) (eInn true (cutV x p.toNat), [])



noncomputable def cutKV (x : Inn) (p : Int) : Inn × Bool := if vInn x = true ∧ 1 ≤ p ∧ p < x.kids.length ∧ x.keys.length ≠ 1 then (cutV x p.toNat, true) else (⟨[], []⟩, false)
theorem cutKV_f {x : Inn} {p : Int} (h : ¬ (vInn x = true ∧ 1 ≤ p ∧ p < x.kids.length ∧ x.keys.length ≠ 1)) : cutKV x p = (⟨[], []⟩, false) := if_neg h
theorem cutKV_t {x : Inn} {p : Int} (h : vInn x = true ∧ 1 ≤ p ∧ p < x.kids.length ∧ x.keys.length ≠ 1) : cutKV x p = (cutV x p.toNat, true) := if_pos h
theorem cutKV_len (x : Inn) (p : Int) : (cutKV x p).1.keys.length ≤ 2 * x.keys.length ∧ (cutKV x p).1.kids.length ≤ 2 * x.kids.length := by
  unfold cutKV
  split
  · simp only [cutV, List.length_append, List.length_take, List.length_drop]
    omega
  · simp
noncomputable def mCutKid : Model := M2 .ro .ro true (cInn false) cI fun x p => gd (x.keys.length ≤ 34359738368 ∧ x.kids.length ≤ 34359738368) (.tup [eInn true (cutKV x p).1, .b (cutKV x p).2], [])



def mLawInnA : Model := M2 .ro .ro true (cInn false) cI fun x p => gd (x.keys.length ≤ 9223372036854775807 ∧ x.kids.length ≤ 9223372036854775807) (.b true, [])
theorem fn_FnExactCutKid (x : Inn) (h : ((∀ y ∈ x.keys, intWf .i64 y) ∧ x.keys.length ≤ maxLen) ∧ (∀ y ∈ x.kids, intWf .i64 y) ∧ x.kids.length ≤ maxLen) (k : Int) (hk : intWf .i64 k) : mLawInnA.fn [eInn false x, eI k] = some (.b true, []) := by
  have h2 : x.keys.length ≤ 9223372036854775807 := h.1.2
  have h3 : x.kids.length ≤ 9223372036854775807 := h.2.2
  simp (config := {maxSteps := 1000000}) (disch := omega) only [go_sem, ↓reduceIte, Nat.reduceEqDiff, Nat.reduceAdd, Nat.reduceMul, Nat.reduceSub, Nat.reduceLeDiff, Nat.reduceLT, Int.reduceToNat, Int.reduceLE, Int.reduceLT, Int.reduceNeg, mLawInnA]
end Go.TM
