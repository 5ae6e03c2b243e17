/- Contracts, 45: the pairs of a tree. -/
import Derived.Test.YtbpfagbihffmbaaF43
import Derived.Test.YtbpfagbihffmbaaTmD
namespace Go.TM
open Go.Proofs
set_option linter.unusedVariables false
set_option linter.unusedSimpArgs false
set_option maxRecDepth 100000
set_option maxHeartbeats 4000000

def mRowOf : Model := M1 .ro true (cPage false) fun p => gd (p.keys.length ≤ p.vals.length ∧ p.vals.length ≤ 16777216) (eRow true (prP p), [])
theorem prP_get {p : Pg} {i : Nat} (h : i < p.keys.length) : (prP p).getD i default = (p.keys.getD i 0, p.vals.getD i 0) := by simp [prP, h]
theorem prP_take {p : Pg} {k : Nat} (h : k < p.keys.length) : (prP p).take (k + 1) = (prP p).take k ++ [(p.keys.getD k 0, p.vals.getD k 0)] := by
  rw [List.take_succ_eq_append_getElem (by rw [prP_len]; exact h)]
  simp [prP]
theorem rep_pr (n : Nat) : (List.replicate n [A.i .i64 0, A.i .i64 0]).flatten = (List.replicate n ((0, 0) : Pr)).flatMap ePr := by
  induction n with
  | zero => rfl
  | succ n ih => rw [List.replicate_succ, List.replicate_succ, List.flatten_cons, List.flatMap_cons, ih]; rfl

theorem scal_row (xs : List Pr) : (xs.flatMap ePr).map scal = xs.flatMap ePr := by
  induction xs with
  | nil => rfl
  | cons x xs ih => simp only [List.flatMap_cons, List.map_append, ih]; rfl
theorem scal_I (xs : List Int) : (xs.map eI).map scal = xs.map eI := by rw [List.map_map]; rfl
attribute [go_sem] scal_row scal_I

theorem does_rowOf {G : Nat → Option FM}  : Does T G (fun id => match id with  | _ => []) Try.f96 mRowOf := by
  refine does1 (rs := [.tmp 2]) rfl rfl fun p ro h => ?_
  obtain ⟨⟨hs, hs2⟩, rfl⟩ := gd_some h
  refine ⟨fun _ => ⟨by simp [cleanA, clean_row], rfl⟩, ?_⟩
  clear h
  have hpl := prP_len p
  simp (config := {maxSteps := 1000000}) (disch := omega) only [go_sem, ↓reduceIte, Nat.reduceEqDiff, Nat.reduceAdd, Nat.reduceMul, Nat.reduceSub, Nat.reduceLeDiff, Nat.reduceLT, Int.reduceToNat, Int.reduceLE, Int.reduceLT, Int.reduceNeg, drP_n, drP_c, logAt_n, logAt_c, disP_n, disP_c, notIn_n, notIn_c]
  refine W_loop_i (fun s => s.sl 1 = .ptr (3, 0) [] 0 0 ∧ s.hp (3, 0) = some ⟨3, 1, [eIs false p.keys, eIs false p.kids, eIs false p.vals], fun _ => 0⟩ ∧ ∃ k m : Nat, k ≤ p.keys.length ∧ s.sl 4 = eI k ∧ 3 < m ∧ m < s.n ∧ s.sl 3 = .ref (m, 0) [] 0 0 2 k ∧ s.hp (m, 0) = some ⟨2, k, ((prP p).take k).flatMap ePr, fun _ => 0⟩) (fun s => p.keys.length - iN (s.sl 4)) ?_ ?_
  · exact ⟨rfl, rfl, 0, 5, Nat.zero_le _, rfl, by omega, by dsimp only [St.n]; omega, rfl, rfl⟩
  · rintro sl hp q ⟨h1, hh1, k, m, hk, h4, hm3, hm, h3, hh3⟩
    dsimp only at h1 hh1 h4 h3 hh3 hm
    simp (config := {maxSteps := 1000000}) (disch := omega) only [go_sem, ↓reduceIte, Nat.reduceEqDiff, Nat.reduceAdd, Nat.reduceMul, Nat.reduceSub, Nat.reduceLeDiff, Nat.reduceLT, Int.reduceToNat, Int.reduceLE, Int.reduceLT, Int.reduceNeg, drP_n, drP_c, logAt_n, logAt_c, disP_n, disP_c, notIn_n, notIn_c, h1, hh1, h4, h3, hh3]
    (first | refine runKS_split (fun g1 => ?_) (fun g1 => ?_) | refine cond_split (fun g1 => ?_) (fun g1 => ?_) | refine runK_split (fun g1 => ?_) (fun g1 => ?_))
    · have g1' := of_decide_eq_true g1
      have hlt : ((prP p).take k).length = k := by rw [List.length_take]; omega
      have es := prP_take (p := p) (k := k) (by omega)
      simp (config := {maxSteps := 1000000}) (disch := omega) only [go_sem, ↓reduceIte, Nat.reduceEqDiff, Nat.reduceAdd, Nat.reduceMul, Nat.reduceSub, Nat.reduceLeDiff, Nat.reduceLT, Int.reduceToNat, Int.reduceLE, Int.reduceLT, Int.reduceNeg, drP_n, drP_c, logAt_n, logAt_c, disP_n, disP_c, notIn_n, notIn_c, h1, hh1, h4, h3, hh3, g1, app_P]
      refine ⟨⟨k + 1, _, by omega, rfl, ?_, ?_, rfl, ?_⟩, by omega⟩
      · omega
      · omega
      · rw [upd_same, es]
    · have g1' := of_decide_eq_false g1
      obtain rfl : k = p.keys.length := by omega
      simp (config := {maxSteps := 1000000}) (disch := omega) only [go_sem, ↓reduceIte, Nat.reduceEqDiff, Nat.reduceAdd, Nat.reduceMul, Nat.reduceSub, Nat.reduceLeDiff, Nat.reduceLT, Int.reduceToNat, Int.reduceLE, Int.reduceLT, Int.reduceNeg, drP_n, drP_c, logAt_n, logAt_c, disP_n, disP_c, notIn_n, notIn_c, h1, hh1, h4, h3, hh3, g1]
      rw [← hpl, List.take_length]
theorem fo_rowOf : FnOk Try.prog 96 := fnOk_of Try.func96 (by kernel_rfl)
theorem c_rowOf : Contract Try.prog 96 mRowOf :=
  contract_of_does (DT := fun id => match id with  | _ => []) Try.checked.mixed tabOk gok_nil Try.func96 rfl (by kernel_rfl) (does_rowOf )


theorem does_pairsOfLeaf {G : Nat → Option FM}  : Does T G (fun id => match id with  | _ => []) Try.f75 mRowOf := by
  refine does1 (rs := [.tmp 2]) rfl rfl fun p ro h => ?_
  obtain ⟨⟨hs, hs2⟩, rfl⟩ := gd_some h
  refine ⟨fun _ => ⟨by simp [cleanA, clean_row], rfl⟩, ?_⟩
  clear h
  have hpl := prP_len p
  simp (config := {maxSteps := 1000000}) (disch := omega) only [go_sem, ↓reduceIte, Nat.reduceEqDiff, Nat.reduceAdd, Nat.reduceMul, Nat.reduceSub, Nat.reduceLeDiff, Nat.reduceLT, Int.reduceToNat, Int.reduceLE, Int.reduceLT, Int.reduceNeg, drP_n, drP_c, logAt_n, logAt_c, disP_n, disP_c, notIn_n, notIn_c, rep_pr]
  refine W_loop_i (fun s => s.sl 1 = .ptr (3, 0) [] 0 0 ∧ s.hp (3, 0) = some ⟨3, 1, [eIs false p.keys, eIs false p.kids, eIs false p.vals], fun _ => 0⟩ ∧ s.sl 11 = eIs false p.keys ∧ s.sl 12 = eI p.keys.length ∧ ∃ m, 3 < m ∧ m < s.n ∧ s.sl 3 = .ref (m, 0) [] 0 0 2 p.keys.length ∧ ∃ k : Nat, k ≤ p.keys.length ∧ s.sl 13 = eI k ∧ ∃ (ys : List Pr) (v : Nat → Nat), ys.length = p.keys.length ∧ (∀ i, i < k → ys.getD i default = (p.keys.getD i 0, p.vals.getD i 0)) ∧ s.hp (m, 0) = some ⟨2, p.keys.length, ys.flatMap ePr, v⟩) (fun s => p.keys.length - iN (s.sl 13)) ?_ ?_
  · refine ⟨rfl, rfl, rfl, rfl, 8, by omega, by dsimp only [St.n]; omega, rfl, 0, Nat.zero_le _, rfl, List.replicate p.keys.length (0, 0), fun _ => 0, by simp, fun i hi => by omega, ?_⟩
    simp (config := {maxSteps := 1000000}) (disch := omega) only [go_sem, ↓reduceIte, Nat.reduceEqDiff, Nat.reduceAdd, Nat.reduceMul, Nat.reduceSub, Nat.reduceLeDiff, Nat.reduceLT, Int.reduceToNat, Int.reduceLE, Int.reduceLT, Int.reduceNeg, drP_n, drP_c, logAt_n, logAt_c, disP_n, disP_c, notIn_n, notIn_c]
  · rintro sl hp q ⟨h1, hh1, hA, hB, m, hm3, hm, h3, k, hk, hC, ys, v, hy, hall, hh⟩
    dsimp only at h1 hh1 hA hB h3 hC hh hm
    simp (config := {maxSteps := 1000000}) (disch := omega) only [go_sem, ↓reduceIte, Nat.reduceEqDiff, Nat.reduceAdd, Nat.reduceMul, Nat.reduceSub, Nat.reduceLeDiff, Nat.reduceLT, Int.reduceToNat, Int.reduceLE, Int.reduceLT, Int.reduceNeg, drP_n, drP_c, logAt_n, logAt_c, disP_n, disP_c, notIn_n, notIn_c, h1, hh1, hA, hB, h3, hC]
    (first | refine runKS_split (fun g1 => ?_) (fun g1 => ?_) | refine cond_split (fun g1 => ?_) (fun g1 => ?_) | refine runK_split (fun g1 => ?_) (fun g1 => ?_))
    · have g1' := of_decide_eq_true g1
      simp (config := {maxSteps := 1000000}) (disch := omega) only [go_sem, ↓reduceIte, Nat.reduceEqDiff, Nat.reduceAdd, Nat.reduceMul, Nat.reduceSub, Nat.reduceLeDiff, Nat.reduceLT, Int.reduceToNat, Int.reduceLE, Int.reduceLT, Int.reduceNeg, drP_n, drP_c, logAt_n, logAt_c, disP_n, disP_c, notIn_n, notIn_c, h1, hh1, hA, hB, h3, hC, g1, hh]
      exact ⟨⟨m, by omega, by omega, rfl, k + 1, by omega, rfl, ys.set k (p.keys.getD k 0, p.vals.getD k 0), _, by simp [hy], set_step (fun i => (p.keys.getD i 0, p.vals.getD i 0)) (by omega) hall, upd_same ..⟩, by omega⟩
    · have g1' := of_decide_eq_false g1
      obtain rfl : k = p.keys.length := by omega
      simp (config := {maxSteps := 1000000}) (disch := omega) only [go_sem, ↓reduceIte, Nat.reduceEqDiff, Nat.reduceAdd, Nat.reduceMul, Nat.reduceSub, Nat.reduceLeDiff, Nat.reduceLT, Int.reduceToNat, Int.reduceLE, Int.reduceLT, Int.reduceNeg, drP_n, drP_c, logAt_n, logAt_c, disP_n, disP_c, notIn_n, notIn_c, h1, hh1, hA, hB, h3, hC, g1, hh]
      rw [show ys = prP p from list_ext (d := default) (by rw [hy, hpl]) fun i hi => by
        rw [hall i (by omega), prP_get (by omega)]]
      exact row_eq hpl.symm
theorem fo_pairsOfLeaf : FnOk Try.prog 75 := fnOk_of Try.func75 (by kernel_rfl)
theorem c_pairsOfLeaf : Contract Try.prog 75 mRowOf :=
  contract_of_does (DT := fun id => match id with  | _ => []) Try.checked.mixed tabOk gok_nil Try.func75 rfl (by kernel_rfl) (does_pairsOfLeaf )


noncomputable def mPairs : Model := M1 .ro true (cTr false) fun t => gd (smT t.pages = true ∧ vTr t = true) (eRow true (prF t (htT t) t.root), [])
def prK (t : Tr) (xs : List Int) : List Pr := xs.flatMap fun y => prP (pgAt t y)
theorem prK_succ {t : Tr} {w : List Int} {k : Nat} (hk : k < w.length) : prK t (w.take (k + 1)) = prK t (w.take k) ++ prP (pgAt t (w.getD k 0)) := by
  rw [prK, List.take_succ_eq_append_getElem hk, List.flatMap_append]
  simp [prK, hk]
theorem prK_len {t : Tr} {xs : List Int} (h : ∀ y ∈ xs, (pgAt t y).keys.length ≤ 4) : (prK t xs).length ≤ xs.length * 4 := by
  unfold prK
  exact flat_le fun y hy => by rw [prP_len]; exact h y hy
theorem PLeaf.vlen {t : Tr} {x : Int} (h : PLeaf t x) : (pgAt t x).vals.length = (pgAt t x).keys.length := h.vals


noncomputable def prV (t : Tr) : List Pr := if vTr t = true then prF t (htT t) t.root else []
theorem prV_f {t : Tr} (h : vTr t = false) : prV t = [] := if_neg (by rw [h]; simp)
theorem prV_t {t : Tr} (h : vTr t = true) : prV t = prF t (htT t) t.root := if_pos h
theorem prV_len (t : Tr) : (prV t).length ≤ 64 := by
  cases h : vTr t
  · rw [prV_f h]; simp
  · rw [prV_t h]; exact prF_len (vTr_iff.1 h).pd
noncomputable def mPairsOf : Model := M1 .ro true (cTr false) fun t => gd (smT t.pages = true) (eRow true (prV t), [])

end Go.TM
