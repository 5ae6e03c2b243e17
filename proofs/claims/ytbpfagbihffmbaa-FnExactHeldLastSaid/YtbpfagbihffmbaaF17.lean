/- Contracts, 17: marks; copies. -/
import Derived.Test.YtbpfagbihffmbaaF12
namespace Go.TM
open Go.Proofs
set_option linter.unusedVariables false
set_option linter.unusedSimpArgs false
set_option maxRecDepth 100000

theorem marks_len (n : Nat) (k : Int) : (marks n k).length = n := by simp [marks]
theorem marks_get {n : Nat} {k : Int} {i : Nat} (h : i < n) : (marks n k).getD i 0 = k + i := by simp [marks, h]
def marksP (n : Nat) (k : Int) : List Pr := (List.range n).map fun (i : Nat) => (k + 2 * (i : Int), k + 2 * (i : Int) + 1)
theorem marksP_len (n : Nat) (k : Int) : (marksP n k).length = n := by simp [marksP]
theorem marksP_get {n : Nat} {k : Int} {i : Nat} (h : i < n) : (marksP n k).getD i default = (k + 2 * (i : Int), k + 2 * (i : Int) + 1) := by simp [marksP, h]

theorem set_p0 (v : Int) : ∀ {xs : List Pr} {k : Nat}, k < xs.length → (xs.flatMap ePr).set (k * 2) (.i .i64 v) = (xs.set k (v, (xs.getD k default).2)).flatMap ePr
  | [], _, h => by simp at h
  | x :: xs, 0, _ => by simp [ePr]
  | x :: xs, k + 1, h => by
    have ih := set_p0 v (xs := xs) (k := k) (by simpa using h)
    rw [show (k + 1) * 2 = k * 2 + 1 + 1 from by omega, List.flatMap_cons]
    simp only [ePr, List.cons_append, List.nil_append, List.set_cons_succ, List.flatMap_cons, List.getD_cons_succ]
    rw [ih]
theorem set_p1 (v : Int) : ∀ {xs : List Pr} {k : Nat}, k < xs.length → (xs.flatMap ePr).set (k * 2 + 1) (.i .i64 v) = (xs.set k ((xs.getD k default).1, v)).flatMap ePr
  | [], _, h => by simp at h
  | x :: xs, 0, _ => by simp [ePr]
  | x :: xs, k + 1, h => by
    have ih := set_p1 v (xs := xs) (k := k) (by simpa using h)
    rw [show (k + 1) * 2 + 1 = k * 2 + 1 + 1 + 1 from by omega, List.flatMap_cons]
    simp only [ePr, List.cons_append, List.nil_append, List.set_cons_succ, List.flatMap_cons, List.getD_cons_succ]
    rw [ih]

def mMarkPairS : Model := M2 (.ln 1) .ro true (cRow true) cI fun xs k => gd (xs.length ≤ 1099511627776 ∧ 0 ≤ k ∧ k ≤ 1099511627776) (eI (k + 2 * xs.length), [(marksP xs.length k).flatMap ePr])
def mHeldPairS : Model := M2 .ro .ro true (cRow false) cI fun xs k => gd (xs.length ≤ 1099511627776 ∧ 0 ≤ k ∧ k ≤ 1099511627776) (eI (if xs = marksP xs.length k then k + 2 * xs.length else -1), [])

theorem does_markIntS {G : Nat → Option FM}  : Does T G (fun id => match id with  | _ => []) Try.f26 mMarkIntS := by
  refine does2 (rs := [.tmp 4]) rfl rfl fun xs k0 ro h => ?_
  obtain ⟨⟨hs, hk0, hk1⟩, rfl⟩ := gd_some h
  refine ⟨fun _ => ⟨rfl, by simp [clean_ints]⟩, ?_⟩
  simp (config := {maxSteps := 1000000}) (disch := omega) only [go_sem, ↓reduceIte, Nat.reduceEqDiff, Nat.reduceAdd, Nat.reduceMul, Nat.reduceSub, Nat.reduceLeDiff, Nat.reduceLT, Int.reduceToNat, Int.reduceLE, Int.reduceLT, Int.reduceNeg]
  refine W_loop_i (fun s => s.sl 0 = .ref (2, 0) [] 0 0 1 xs.length ∧ ∃ k : Nat, k ≤ xs.length ∧ s.sl 5 = eI k ∧ s.sl 1 = eI (k0 + k) ∧ ∃ ys : List Int, ys.length = xs.length ∧ (∀ i, i < k → ys.getD i 0 = k0 + i) ∧ s.hp (2, 0) = some ⟨1, xs.length, ys.map eI, fun _ => 0⟩) (fun s => xs.length - iN (s.sl 5)) ?_ ?_
  · refine ⟨rfl, 0, Nat.zero_le _, rfl, (by show A.i .i64 k0 = eI (k0 + ((0 : Nat) : Int)); rw [Int.natCast_zero, Int.add_zero]), xs, rfl, fun i hi => by omega, ?_⟩
    simp (config := {maxSteps := 1000000}) (disch := omega) only [go_sem, ↓reduceIte, Nat.reduceEqDiff, Nat.reduceAdd, Nat.reduceMul, Nat.reduceSub, Nat.reduceLeDiff, Nat.reduceLT, Int.reduceToNat, Int.reduceLE, Int.reduceLT, Int.reduceNeg]
  · rintro sl hp n ⟨h0, k, hk, h5, h1, ys, hy, hall, hh⟩
    dsimp only at h0 h5 h1 hh
    simp (config := {maxSteps := 1000000}) (disch := omega) only [go_sem, ↓reduceIte, Nat.reduceEqDiff, Nat.reduceAdd, Nat.reduceMul, Nat.reduceSub, Nat.reduceLeDiff, Nat.reduceLT, Int.reduceToNat, Int.reduceLE, Int.reduceLT, Int.reduceNeg, h0, h1, h5]
    (first | refine runKS_split (fun g1 => ?_) (fun g1 => ?_) | refine cond_split (fun g1 => ?_) (fun g1 => ?_) | refine runK_split (fun g1 => ?_) (fun g1 => ?_))
    · have g1' := of_decide_eq_true g1
      simp (config := {maxSteps := 1000000}) (disch := omega) only [go_sem, ↓reduceIte, Nat.reduceEqDiff, Nat.reduceAdd, Nat.reduceMul, Nat.reduceSub, Nat.reduceLeDiff, Nat.reduceLT, Int.reduceToNat, Int.reduceLE, Int.reduceLT, Int.reduceNeg, h0, h1, h5, g1, hh]
      refine ⟨⟨k + 1, by omega, rfl, by rw [Int.natCast_add, Int.natCast_one, Int.add_assoc], ys.set k (k0 + k), by simp [hy], set_step (fun i => k0 + (i : Int)) (by omega) hall, rfl⟩, by omega⟩
    · have g1' := of_decide_eq_false g1
      obtain rfl : k = xs.length := by omega
      simp (config := {maxSteps := 1000000}) (disch := omega) only [go_sem, ↓reduceIte, Nat.reduceEqDiff, Nat.reduceAdd, Nat.reduceMul, Nat.reduceSub, Nat.reduceLeDiff, Nat.reduceLT, Int.reduceToNat, Int.reduceLE, Int.reduceLT, Int.reduceNeg, h0, h1, h5, g1, hh]
      rw [show ys = marks xs.length k0 from list_ext (d := 0) (by rw [marks_len, hy]) fun i hi => by rw [marks_len] at hi; rw [hall i hi, marks_get hi]]
theorem fo_markIntS : FnOk Try.prog 26 := fnOk_of Try.func26 (by kernel_rfl)
theorem c_markIntS : Contract Try.prog 26 mMarkIntS :=
  contract_of_does (DT := fun id => match id with  | _ => []) Try.checked.mixed tabOk gok_nil Try.func26 rfl (by kernel_rfl) (does_markIntS )


theorem does_heldIntS {G : Nat → Option FM}  : Does T G (fun id => match id with  | _ => []) Try.f40 mHeldIntS := by
  refine does2 (rs := [.tmp 4]) rfl rfl fun xs k0 ro h => ?_
  obtain ⟨⟨hs, hk0, hk1⟩, rfl⟩ := gd_some h
  refine ⟨fun _ => ⟨rfl, rfl⟩, ?_⟩
  simp (config := {maxSteps := 1000000}) (disch := omega) only [go_sem, ↓reduceIte, Nat.reduceEqDiff, Nat.reduceAdd, Nat.reduceMul, Nat.reduceSub, Nat.reduceLeDiff, Nat.reduceLT, Int.reduceToNat, Int.reduceLE, Int.reduceLT, Int.reduceNeg]
  refine W_loop_i (fun s => s.sl 0 = eIs false xs ∧ ∃ k : Nat, k ≤ xs.length ∧ s.sl 5 = eI k ∧ s.sl 1 = eI (k0 + k) ∧ ∀ i, i < k → xs.getD i 0 = k0 + i) (fun s => xs.length - iN (s.sl 5)) ?_ ?_
  · exact ⟨rfl, 0, Nat.zero_le _, rfl, (by show A.i .i64 k0 = eI (k0 + ((0 : Nat) : Int)); rw [Int.natCast_zero, Int.add_zero]), fun i hi => by omega⟩
  · rintro sl hp n ⟨h0, k, hk, h5, h1, hall⟩
    dsimp only at h0 h5 h1
    simp (config := {maxSteps := 1000000}) (disch := omega) only [go_sem, ↓reduceIte, Nat.reduceEqDiff, Nat.reduceAdd, Nat.reduceMul, Nat.reduceSub, Nat.reduceLeDiff, Nat.reduceLT, Int.reduceToNat, Int.reduceLE, Int.reduceLT, Int.reduceNeg, h0, h1, h5]
    (first | refine runKS_split (fun g1 => ?_) (fun g1 => ?_) | refine cond_split (fun g1 => ?_) (fun g1 => ?_) | refine runK_split (fun g1 => ?_) (fun g1 => ?_))
    · have g1' := of_decide_eq_true g1
      simp (config := {maxSteps := 1000000}) (disch := omega) only [go_sem, ↓reduceIte, Nat.reduceEqDiff, Nat.reduceAdd, Nat.reduceMul, Nat.reduceSub, Nat.reduceLeDiff, Nat.reduceLT, Int.reduceToNat, Int.reduceLE, Int.reduceLT, Int.reduceNeg, h0, h1, h5, g1]
      (first | refine runKS_split (fun g2 => ?_) (fun g2 => ?_) | refine cond_split (fun g2 => ?_) (fun g2 => ?_) | refine runK_split (fun g2 => ?_) (fun g2 => ?_))
      · simp (config := {maxSteps := 1000000}) (disch := omega) only [go_sem, ↓reduceIte, Nat.reduceEqDiff, Nat.reduceAdd, Nat.reduceMul, Nat.reduceSub, Nat.reduceLeDiff, Nat.reduceLT, Int.reduceToNat, Int.reduceLE, Int.reduceLT, Int.reduceNeg, h0, h1, h5, g1, g2]
        rw [if_neg]
        intro he
        have g2 : ¬ xs.getD k 0 = k0 + k := by simpa using g2
        apply g2
        have : xs.getD k 0 = (marks xs.length k0).getD k 0 := congrArg (fun l => l.getD k 0) he
        rw [this, marks_get (by omega)]
      · have g2 : xs.getD k 0 = k0 + k := by simpa using g2
        have e : decide (xs.getD k 0 = k0 + k) = true := decide_eq_true g2
        simp (config := {maxSteps := 1000000}) (disch := omega) only [go_sem, ↓reduceIte, Nat.reduceEqDiff, Nat.reduceAdd, Nat.reduceMul, Nat.reduceSub, Nat.reduceLeDiff, Nat.reduceLT, Int.reduceToNat, Int.reduceLE, Int.reduceLT, Int.reduceNeg, h0, h1, h5, g1, e]
        refine ⟨⟨k + 1, by omega, rfl, by rw [Int.natCast_add, Int.natCast_one, Int.add_assoc], fun i hi => ?_⟩, by omega⟩
        by_cases he : i = k
        · rw [he]; exact g2
        · exact hall i (by omega)
    · have g1' := of_decide_eq_false g1
      obtain rfl : k = xs.length := by omega
      simp (config := {maxSteps := 1000000}) (disch := omega) only [go_sem, ↓reduceIte, Nat.reduceEqDiff, Nat.reduceAdd, Nat.reduceMul, Nat.reduceSub, Nat.reduceLeDiff, Nat.reduceLT, Int.reduceToNat, Int.reduceLE, Int.reduceLT, Int.reduceNeg, h0, h1, h5, g1]
      rw [if_pos]
      exact list_ext (d := 0) (by rw [marks_len]) fun i hi => by rw [marks_len] at hi; rw [marks_get hi, hall i hi]
theorem fo_heldIntS : FnOk Try.prog 40 := fnOk_of Try.func40 (by kernel_rfl)
theorem c_heldIntS : Contract Try.prog 40 mHeldIntS :=
  contract_of_does (DT := fun id => match id with  | _ => []) Try.checked.mixed tabOk gok_nil Try.func40 rfl (by kernel_rfl) (does_heldIntS )


theorem does_markPairS {G : Nat → Option FM}  : Does T G (fun id => match id with  | _ => []) Try.f32 mMarkPairS := by
  refine does2 (rs := [.tmp 4]) rfl rfl fun xs k0 ro h => ?_
  obtain ⟨⟨hs, hk0, hk1⟩, rfl⟩ := gd_some h
  refine ⟨fun _ => ⟨rfl, by simp [clean_row]⟩, ?_⟩
  simp (config := {maxSteps := 1000000}) (disch := omega) only [go_sem, ↓reduceIte, Nat.reduceEqDiff, Nat.reduceAdd, Nat.reduceMul, Nat.reduceSub, Nat.reduceLeDiff, Nat.reduceLT, Int.reduceToNat, Int.reduceLE, Int.reduceLT, Int.reduceNeg]
  refine W_loop_i (fun s => s.sl 0 = .ref (2, 0) [] 0 0 2 xs.length ∧ ∃ k : Nat, k ≤ xs.length ∧ s.sl 5 = eI k ∧ s.sl 1 = eI (k0 + 2 * k) ∧ ∃ ys : List Pr, ys.length = xs.length ∧ (∀ i, i < k → ys.getD i default = (k0 + 2 * (i : Int), k0 + 2 * (i : Int) + 1)) ∧ s.hp (2, 0) = some ⟨2, xs.length, ys.flatMap ePr, fun _ => 0⟩) (fun s => xs.length - iN (s.sl 5)) ?_ ?_
  · refine ⟨rfl, 0, Nat.zero_le _, rfl, (by show A.i .i64 k0 = eI (k0 + 2 * ((0 : Nat) : Int)); rw [Int.natCast_zero, Int.mul_zero, Int.add_zero]), xs, rfl, fun i hi => by omega, ?_⟩
    simp (config := {maxSteps := 1000000}) (disch := omega) only [go_sem, ↓reduceIte, Nat.reduceEqDiff, Nat.reduceAdd, Nat.reduceMul, Nat.reduceSub, Nat.reduceLeDiff, Nat.reduceLT, Int.reduceToNat, Int.reduceLE, Int.reduceLT, Int.reduceNeg]
  · rintro sl hp n ⟨h0, k, hk, h5, h1, ys, hy, hall, hh⟩
    dsimp only at h0 h5 h1 hh
    simp (config := {maxSteps := 1000000}) (disch := omega) only [go_sem, ↓reduceIte, Nat.reduceEqDiff, Nat.reduceAdd, Nat.reduceMul, Nat.reduceSub, Nat.reduceLeDiff, Nat.reduceLT, Int.reduceToNat, Int.reduceLE, Int.reduceLT, Int.reduceNeg, h0, h1, h5]
    (first | refine runKS_split (fun g1 => ?_) (fun g1 => ?_) | refine cond_split (fun g1 => ?_) (fun g1 => ?_) | refine runK_split (fun g1 => ?_) (fun g1 => ?_))
    · have g1' := of_decide_eq_true g1
      simp (config := {maxSteps := 1000000}) (disch := omega) only [go_sem, ↓reduceIte, Nat.reduceEqDiff, Nat.reduceAdd, Nat.reduceMul, Nat.reduceSub, Nat.reduceLeDiff, Nat.reduceLT, Int.reduceToNat, Int.reduceLE, Int.reduceLT, Int.reduceNeg, h0, h1, h5, g1, hh, set_p0]
      rw [set_p1 _ (by rw [List.length_set]; omega)]
      refine ⟨⟨k + 1, by omega, rfl, by rw [show k0 + 2 * (k : Int) + 1 + 1 = k0 + 2 * ((k + 1 : Nat) : Int) from by omega], ys.set k (k0 + 2 * k, k0 + 2 * k + 1), by simp [hy], set_step (fun i => (k0 + 2 * (i : Int), k0 + 2 * (i : Int) + 1)) (by omega) hall, ?_⟩, by omega⟩
      have e : (ys.set k (k0 + 2 * (k : Int), (ys.getD k default).2)).getD k default = (k0 + 2 * (k : Int), (ys.getD k default).2) := by simp [show k < ys.length by omega]
      rw [e, List.set_set]
    · have g1' := of_decide_eq_false g1
      obtain rfl : k = xs.length := by omega
      simp (config := {maxSteps := 1000000}) (disch := omega) only [go_sem, ↓reduceIte, Nat.reduceEqDiff, Nat.reduceAdd, Nat.reduceMul, Nat.reduceSub, Nat.reduceLeDiff, Nat.reduceLT, Int.reduceToNat, Int.reduceLE, Int.reduceLT, Int.reduceNeg, h0, h1, h5, g1, hh]
      rw [show ys = marksP xs.length k0 from list_ext (d := default) (by rw [marksP_len, hy]) fun i hi => by rw [marksP_len] at hi; rw [hall i hi, marksP_get hi]]
theorem fo_markPairS : FnOk Try.prog 32 := fnOk_of Try.func32 (by kernel_rfl)
theorem c_markPairS : Contract Try.prog 32 mMarkPairS :=
  contract_of_does (DT := fun id => match id with  | _ => []) Try.checked.mixed tabOk gok_nil Try.func32 rfl (by kernel_rfl) (does_markPairS )



/-! ### Copies of the library's -/

theorem does_cloneP {G : Nat → Option FM}  : Does T G (fun id => match id with  | _ => []) Try.f130 mCopyRow := by
  refine does1 (rs := [.tmp 2]) rfl rfl fun xs ro h => ?_
  obtain ⟨hs, rfl⟩ := gd_some h
  refine ⟨fun _ => ⟨by simp only [cleanA, clean_row], rfl⟩, ?_⟩
  by_cases h0 : xs.length = 0
  · obtain rfl : xs = [] := List.length_eq_zero_iff.1 h0
    simp (config := {maxSteps := 1000000}) (disch := omega) only [go_sem, ↓reduceIte, Nat.reduceEqDiff, Nat.reduceAdd, Nat.reduceMul, Nat.reduceSub, Nat.reduceLeDiff, Nat.reduceLT, Int.reduceToNat, Int.reduceLE, Int.reduceLT, Int.reduceNeg, List.flatMap_nil]
    exact ⟨rfl, rfl⟩
  · simp (config := {maxSteps := 1000000}) (disch := omega) only [go_sem, ↓reduceIte, Nat.reduceEqDiff, Nat.reduceAdd, Nat.reduceMul, Nat.reduceSub, Nat.reduceLeDiff, Nat.reduceLT, Int.reduceToNat, Int.reduceLE, Int.reduceLT, Int.reduceNeg]
theorem fo_cloneP : FnOk Try.prog 130 := fnOk_of Try.func130 (by kernel_rfl)
theorem c_cloneP : Contract Try.prog 130 mCopyRow :=
  contract_of_does (DT := fun id => match id with  | _ => []) Try.checked.mixed tabOk gok_nil Try.func130 rfl (by kernel_rfl) (does_cloneP )


theorem does_cloneI {G : Nat → Option FM}  : Does T G (fun id => match id with  | _ => []) Try.f90 mCopyInts := by
  refine does1 (rs := [.tmp 2]) rfl rfl fun xs ro h => ?_
  obtain ⟨hs, rfl⟩ := gd_some h
  refine ⟨fun _ => ⟨by simp only [cleanA, clean_ints], rfl⟩, ?_⟩
  by_cases h0 : xs.length = 0
  · obtain rfl : xs = [] := List.length_eq_zero_iff.1 h0
    simp (config := {maxSteps := 1000000}) (disch := omega) only [go_sem, ↓reduceIte, Nat.reduceEqDiff, Nat.reduceAdd, Nat.reduceMul, Nat.reduceSub, Nat.reduceLeDiff, Nat.reduceLT, Int.reduceToNat, Int.reduceLE, Int.reduceLT, Int.reduceNeg]
    exact ⟨rfl, rfl⟩
  · simp (config := {maxSteps := 1000000}) (disch := omega) only [go_sem, ↓reduceIte, Nat.reduceEqDiff, Nat.reduceAdd, Nat.reduceMul, Nat.reduceSub, Nat.reduceLeDiff, Nat.reduceLT, Int.reduceToNat, Int.reduceLE, Int.reduceLT, Int.reduceNeg]
theorem fo_cloneI : FnOk Try.prog 90 := fnOk_of Try.func90 (by kernel_rfl)
theorem c_cloneI : Contract Try.prog 90 mCopyInts :=
  contract_of_does (DT := fun id => match id with  | _ => []) Try.checked.mixed tabOk gok_nil Try.func90 rfl (by kernel_rfl) (does_cloneI )


/-! ### Rows in halves -/

noncomputable def splitA (xs : List Pr) : List Pr × List Pr := if vRow xs then (xs.take ((xs.length + 1) / 2), xs.drop ((xs.length + 1) / 2)) else ([], [])
theorem splitA_f {xs : List Pr} (h : vRow xs = false) : splitA xs = ([], []) := by unfold splitA; rw [h]; rfl
theorem splitA_t {xs : List Pr} (h : vRow xs = true) : splitA xs = (xs.take ((xs.length + 1) / 2), xs.drop ((xs.length + 1) / 2)) := by unfold splitA; rw [h]; rfl
noncomputable def mSplitRow : Model := M1 .ro true (cRow false) fun xs => gd (xs.length ≤ 1099511627776) (.tup [eRow true (splitA xs).1, eRow true (splitA xs).2], [])
theorem tdiv2 (n : Nat) : ((n : Int) + 1).tdiv 2 = ((n + 1) / 2 : Nat) := rfl

theorem does_SplitRowS {G : Nat → Option FM} (h_validRow : G 69 = some (.model mValidRow)) (h_copyRow : G 152 = some (.model mCopyRow)) : Does T G (fun id => match id with  | _ => []) Try.f120 mSplitRow := by
  refine does1 (rs := [.tmp 2, .tmp 3]) rfl rfl fun xs ro h => ?_
  obtain ⟨hs, rfl⟩ := gd_some h
  refine ⟨fun _ => ⟨by simp [cleanA, cleanL, clean_row], rfl⟩, ?_⟩
  cases hv : vRow xs
  · rw [splitA_f hv]
    simp (config := {maxSteps := 1000000}) (disch := omega) only [go_sem, ↓reduceIte, Nat.reduceEqDiff, Nat.reduceAdd, Nat.reduceMul, Nat.reduceSub, Nat.reduceLeDiff, Nat.reduceLT, Int.reduceToNat, Int.reduceLE, Int.reduceLT, Int.reduceNeg, h_validRow, mValidRow, h_copyRow, mCopyRow, hv]
    rfl
  · rw [splitA_t hv]
    have hl : (xs.take ((xs.length + 1) / 2)).length = (xs.length + 1) / 2 := by rw [List.length_take]; omega
    have hl2 : (xs.drop ((xs.length + 1) / 2)).length = xs.length - (xs.length + 1) / 2 := by rw [List.length_drop]
    simp (config := {maxSteps := 1000000}) (disch := omega) only [go_sem, ↓reduceIte, Nat.reduceEqDiff, Nat.reduceAdd, Nat.reduceMul, Nat.reduceSub, Nat.reduceLeDiff, Nat.reduceLT, Int.reduceToNat, Int.reduceLE, Int.reduceLT, Int.reduceNeg, h_validRow, mValidRow, h_copyRow, mCopyRow, hv, tdiv2, Nat.sub_zero, sub_zero, sub_restP, hl]
    simp only [eRow, hl]
theorem fo_SplitRowS : FnOk Try.prog 120 := fnOk_of Try.func120 (by kernel_rfl)
theorem c_SplitRowS : Contract Try.prog 120 mSplitRow :=
  contract_of_does (DT := fun id => match id with  | _ => []) Try.checked.mixed tabOk (gok_model fo_validRow c_validRow (gok_model fo_copyRow c_copyRow gok_nil)) Try.func120 rfl (by kernel_rfl) (does_SplitRowS rfl rfl)


theorem does_SplitRowI {G : Nat → Option FM} (h_ValidRowI : G 148 = some (.model mValidRow)) (h_cloneP : G 130 = some (.model mCopyRow)) : Does T G (fun id => match id with  | _ => []) Try.f132 mSplitRow := by
  refine does1 (rs := [.tmp 2, .tmp 3]) rfl rfl fun xs ro h => ?_
  obtain ⟨hs, rfl⟩ := gd_some h
  refine ⟨fun _ => ⟨by simp [cleanA, cleanL, clean_row], rfl⟩, ?_⟩
  cases hv : vRow xs
  · rw [splitA_f hv]
    simp (config := {maxSteps := 1000000}) (disch := omega) only [go_sem, ↓reduceIte, Nat.reduceEqDiff, Nat.reduceAdd, Nat.reduceMul, Nat.reduceSub, Nat.reduceLeDiff, Nat.reduceLT, Int.reduceToNat, Int.reduceLE, Int.reduceLT, Int.reduceNeg, h_ValidRowI, mValidRow, h_cloneP, mCopyRow, hv]
    rfl
  · rw [splitA_t hv]
    have hl : (xs.take ((xs.length + 1) / 2)).length = (xs.length + 1) / 2 := by rw [List.length_take]; omega
    have hl2 : (xs.drop ((xs.length + 1) / 2)).length = xs.length - (xs.length + 1) / 2 := by rw [List.length_drop]
    simp (config := {maxSteps := 1000000}) (disch := omega) only [go_sem, ↓reduceIte, Nat.reduceEqDiff, Nat.reduceAdd, Nat.reduceMul, Nat.reduceSub, Nat.reduceLeDiff, Nat.reduceLT, Int.reduceToNat, Int.reduceLE, Int.reduceLT, Int.reduceNeg, h_ValidRowI, mValidRow, h_cloneP, mCopyRow, hv, tdiv2, Nat.sub_zero, sub_zero, sub_restP, hl]
    simp only [eRow, hl]
theorem fo_SplitRowI : FnOk Try.prog 132 := fnOk_of Try.func132 (by kernel_rfl)
theorem c_SplitRowI : Contract Try.prog 132 mSplitRow :=
  contract_of_does (DT := fun id => match id with  | _ => []) Try.checked.mixed tabOk (gok_model fo_ValidRowI c_ValidRowI (gok_model fo_cloneP c_cloneP gok_nil)) Try.func132 rfl (by kernel_rfl) (does_SplitRowI rfl rfl)


theorem sub_marksP (n : Nat) (k : Int) : sub (marksP n k) 0 n = marksP n k := by
  have := sub_all (marksP n k)
  rwa [marksP_len] at this
theorem sub_marks (n : Nat) (k : Int) : sub (marks n k) 0 n = marks n k := by
  have := sub_all (marks n k)
  rwa [marks_len] at this

theorem splitA_len (xs : List Pr) : (splitA xs).1.length ≤ xs.length ∧ (splitA xs).2.length ≤ xs.length := by
  unfold splitA
  split <;> simp <;> omega

theorem fn_FnExactSplitRow (x : List Pr) (h : (∀ y ∈ x, intWf .i64 y.1 ∧ intWf .i64 y.2) ∧ x.length ≤ maxLen) : mLawRow.fn [eRow false x] = some (.b true, []) := by
  have h2 : x.length ≤ 9223372036854775807 := h.2
  simp (config := {maxSteps := 1000000}) (disch := omega) only [go_sem, ↓reduceIte, Nat.reduceEqDiff, Nat.reduceAdd, Nat.reduceMul, Nat.reduceSub, Nat.reduceLeDiff, Nat.reduceLT, Int.reduceToNat, Int.reduceLE, Int.reduceLT, Int.reduceNeg, mLawRow]
end Go.TM
