/- Contracts, 12 17. -/
import Derived.Test.YtbpfagbihffmbaaF40
/- Contracts, 12: routing in an inside. -/
namespace Go.TM
open Go.Proofs
set_option linter.unusedVariables false
set_option linter.unusedSimpArgs false
set_option maxRecDepth 100000

noncomputable def rtV (x : Inn) (k : Int) : Int := if vInn x then x.kids.getD (cntU x.keys k) 0 else -1
noncomputable def mRoute : Model := M2 .ro .ro true (cInn false) cI fun x k => gd (x.keys.length ≤ 1099511627776 ∧ x.kids.length ≤ 1099511627776) (eI (rtV x k), [])


theorem does_RouteKeyI {G : Nat → Option FM} (h_ValidInnerI : G 134 = some (.model mValidInner)) (h_KeysUpToI : G 159 = some (.model mKeysUpTo)) : Does T G (fun id => match id with | 3 => [(5, 0), (5, 1)] | _ => []) Try.f126 mRoute := by
  refine does2 (rs := [.tmp 4]) rfl rfl fun x k ro h => ?_
  obtain ⟨⟨hs1, hs2⟩, rfl⟩ := gd_some h
  refine ⟨fun _ => ⟨rfl, rfl⟩, ?_⟩
  cases hv : vInn x
  · rw [show rtV x k = -1 from by unfold rtV; rw [hv]; rfl]
    simp (config := {maxSteps := 1000000}) (disch := omega) only [go_sem, ↓reduceIte, Nat.reduceEqDiff, Nat.reduceAdd, Nat.reduceMul, Nat.reduceSub, Nat.reduceLeDiff, Nat.reduceLT, Int.reduceToNat, Int.reduceLE, Int.reduceLT, Int.reduceNeg, h_ValidInnerI, mValidInner, h_KeysUpToI, mKeysUpTo, hv]
  · rw [show rtV x k = x.kids.getD (cntU x.keys k) 0 from by unfold rtV; rw [hv]; rfl]
    have hk := (vInn_iff.1 hv)
    have hc : cntU x.keys k ≤ x.keys.length := (List.takeWhile_prefix _).length_le
    simp (config := {maxSteps := 1000000}) (disch := omega) only [go_sem, ↓reduceIte, Nat.reduceEqDiff, Nat.reduceAdd, Nat.reduceMul, Nat.reduceSub, Nat.reduceLeDiff, Nat.reduceLT, Int.reduceToNat, Int.reduceLE, Int.reduceLT, Int.reduceNeg, h_ValidInnerI, mValidInner, h_KeysUpToI, mKeysUpTo, hv, vKeysUpTo, hk.2.1]
    rfl
theorem fo_RouteKeyI : FnOk Try.prog 126 := fnOk_of Try.func126 (by kernel_rfl)
theorem c_RouteKeyI : Contract Try.prog 126 mRoute :=
  contract_of_does (DT := fun id => match id with | 3 => [(5, 0), (5, 1)] | _ => []) Try.checked.mixed tabOk (gok_model fo_ValidInnerI c_ValidInnerI (gok_model fo_KeysUpToI c_KeysUpToI gok_nil)) Try.func126 rfl (by kernel_rfl) (does_RouteKeyI rfl rfl)


end Go.TM
/- Contracts, 17: marks; copies. -/
namespace Go.TM
open Go.Proofs
set_option linter.unusedVariables false
set_option linter.unusedSimpArgs false
set_option maxRecDepth 100000

theorem marks_len (n : Nat) (k : Int) : (marks n k).length = n := by simp [marks]
theorem marks_get {n : Nat} {k : Int} {i : Nat} (h : i < n) : (marks n k).getD i 0 = k + i := by simp [marks, h]
theorem does_markIntS {G : Nat → Option FM}  : Does T G (fun id => match id with  | _ => []) Try.f26 mMarkIntS := by
  refine does2 (rs := [.tmp 4]) rfl rfl fun xs k0 ro h => ?_
  obtain ⟨⟨hs, hk0, hk1⟩, rfl⟩ := gd_some h
  refine ⟨fun _ => ⟨rfl, by simp [clean_ints]⟩, ?_⟩
  simp (config := {maxSteps := 1000000}) (disch := omega) only [go_sem, ↓reduceIte, Nat.reduceEqDiff, Nat.reduceAdd, Nat.reduceMul, Nat.reduceSub, Nat.reduceLeDiff, Nat.reduceLT, Int.reduceToNat, Int.reduceLE, Int.reduceLT, Int.reduceNeg]
  refine W_loop_i (fun s => s.sl 0 = .ref (2, 0) [] 0 0 1 xs.length ∧ ∃ k : Nat, k ≤ xs.length ∧ s.sl 5 = eI k ∧ s.sl 1 = eI (k0 + k) ∧ ∃ ys : List Int, ys.length = xs.length ∧ (∀ i, i < k → ys.getD i 0 = k0 + i) ∧ s.hp (2, 0) = some ⟨1, xs.length, ys.map eI, fun _ => 0⟩) (fun s => xs.length - iN (s.sl 5)) ?_ ?_
  · refine ⟨rfl, 0, Nat.zero_le _, rfl, (by show A.i .i64 k0 = eI (k0 + ((0 : Nat) : Int)); rw [Int.natCast_zero, Int.add_zero]), xs, rfl, fun i hi => by omega, ?_⟩
    simp (config := {maxSteps := 1000000}) (disch := omega) only [go_sem, ↓reduceIte, Nat.reduceEqDiff, Nat.reduceAdd, Nat.reduceMul, Nat.reduceSub, Nat.reduceLeDiff, Nat.reduceLT, Int.reduceToNat, Int.reduceLE, Int.reduceLT, Int.reduceNeg]
  · rintro sl hp n ⟨h0, k, hk, h5, h1, ys, hy, hall, hh⟩
    dsimp only at h0 h5 h1 hh
    simp (config := {maxSteps := 1000000}) (disch := omega) only [go_sem, ↓reduceIte, Nat.reduceEqDiff, Nat.reduceAdd, Nat.reduceMul, Nat.reduceSub, Nat.reduceLeDiff, Nat.reduceLT, Int.reduceToNat, Int.reduceLE, Int.reduceLT, Int.reduceNeg, h0, h1, h5]
    (first | refine runKS_split (fun g1 => ?_) (fun g1 => ?_) | refine cond_split (fun g1 => ?_) (fun g1 => ?_) | refine runK_split (fun g1 => ?_) (fun g1 => ?_))
    · have g1' := of_decide_eq_true g1
      simp (config := {maxSteps := 1000000}) (disch := omega) only [go_sem, ↓reduceIte, Nat.reduceEqDiff, Nat.reduceAdd, Nat.reduceMul, Nat.reduceSub, Nat.reduceLeDiff, Nat.reduceLT, Int.reduceToNat, Int.reduceLE, Int.reduceLT, Int.reduceNeg, h0, h1, h5, g1, hh]
      refine ⟨⟨k + 1, by omega, rfl, by rw [Int.natCast_add, Int.natCast_one, Int.add_assoc], ys.set k (k0 + k), by simp [hy], set_step (fun i => k0 + (i : Int)) (by omega) hall, rfl⟩, by omega⟩
    · have g1' := of_decide_eq_false g1
      obtain rfl : k = xs.length := by omega
      simp (config := {maxSteps := 1000000}) (disch := omega) only [go_sem, ↓reduceIte, Nat.reduceEqDiff, Nat.reduceAdd, Nat.reduceMul, Nat.reduceSub, Nat.reduceLeDiff, Nat.reduceLT, Int.reduceToNat, Int.reduceLE, Int.reduceLT, Int.reduceNeg, h0, h1, h5, g1, hh]
      rw [show ys = marks xs.length k0 from list_ext (d := 0) (by rw [marks_len, hy]) fun i hi => by rw [marks_len] at hi; rw [hall i hi, marks_get hi]]
theorem fo_markIntS : FnOk Try.prog 26 := fnOk_of Try.func26 (by kernel_rfl)
theorem c_markIntS : Contract Try.prog 26 mMarkIntS :=
  contract_of_does (DT := fun id => match id with  | _ => []) Try.checked.mixed tabOk gok_nil Try.func26 rfl (by kernel_rfl) (does_markIntS )


theorem does_heldIntS {G : Nat → Option FM}  : Does T G (fun id => match id with  | _ => []) Try.f40 mHeldIntS := by
  refine does2 (rs := [.tmp 4]) rfl rfl fun xs k0 ro h => ?_
  obtain ⟨⟨hs, hk0, hk1⟩, rfl⟩ := gd_some h
  refine ⟨fun _ => ⟨rfl, rfl⟩, ?_⟩
  simp (config := {maxSteps := 1000000}) (disch := omega) only [go_sem, ↓reduceIte, Nat.reduceEqDiff, Nat.reduceAdd, Nat.reduceMul, Nat.reduceSub, Nat.reduceLeDiff, Nat.reduceLT, Int.reduceToNat, Int.reduceLE, Int.reduceLT, Int.reduceNeg]
  refine W_loop_i (fun s => s.sl 0 = eIs false xs ∧ ∃ k : Nat, k ≤ xs.length ∧ s.sl 5 = eI k ∧ s.sl 1 = eI (k0 + k) ∧ ∀ i, i < k → xs.getD i 0 = k0 + i) (fun s => xs.length - iN (s.sl 5)) ?_ ?_
  · exact ⟨rfl, 0, Nat.zero_le _, rfl, (by show A.i .i64 k0 = eI (k0 + ((0 : Nat) : Int)); rw [Int.natCast_zero, Int.add_zero]), fun i hi => by omega⟩
  · rintro sl hp n ⟨h0, k, hk, h5, h1, hall⟩
    dsimp only at h0 h5 h1
    simp (config := {maxSteps := 1000000}) (disch := omega) only [go_sem, ↓reduceIte, Nat.reduceEqDiff, Nat.reduceAdd, Nat.reduceMul, Nat.reduceSub, Nat.reduceLeDiff, Nat.reduceLT, Int.reduceToNat, Int.reduceLE, Int.reduceLT, Int.reduceNeg, h0, h1, h5]
    (first | refine runKS_split (fun g1 => ?_) (fun g1 => ?_) | refine cond_split (fun g1 => ?_) (fun g1 => ?_) | refine runK_split (fun g1 => ?_) (fun g1 => ?_))
    · have g1' := of_decide_eq_true g1
      simp (config := {maxSteps := 1000000}) (disch := omega) only [go_sem, ↓reduceIte, Nat.reduceEqDiff, Nat.reduceAdd, Nat.reduceMul, Nat.reduceSub, Nat.reduceLeDiff, Nat.reduceLT, Int.reduceToNat, Int.reduceLE, Int.reduceLT, Int.reduceNeg, h0, h1, h5, g1]
      (first | refine runKS_split (fun g2 => ?_) (fun g2 => ?_) | refine cond_split (fun g2 => ?_) (fun g2 => ?_) | refine runK_split (fun g2 => ?_) (fun g2 => ?_))
      · simp (config := {maxSteps := 1000000}) (disch := omega) only [go_sem, ↓reduceIte, Nat.reduceEqDiff, Nat.reduceAdd, Nat.reduceMul, Nat.reduceSub, Nat.reduceLeDiff, Nat.reduceLT, Int.reduceToNat, Int.reduceLE, Int.reduceLT, Int.reduceNeg, h0, h1, h5, g1, g2]
        rw [if_neg]
        intro he
        have g2 : ¬ xs.getD k 0 = k0 + k := by simpa using g2
        apply g2
        have : xs.getD k 0 = (marks xs.length k0).getD k 0 := congrArg (fun l => l.getD k 0) he
        rw [this, marks_get (by omega)]
      · have g2 : xs.getD k 0 = k0 + k := by simpa using g2
        have e : decide (xs.getD k 0 = k0 + k) = true := decide_eq_true g2
        simp (config := {maxSteps := 1000000}) (disch := omega) only [go_sem, ↓reduceIte, Nat.reduceEqDiff, Nat.reduceAdd, Nat.reduceMul, Nat.reduceSub, Nat.reduceLeDiff, Nat.reduceLT, Int.reduceToNat, Int.reduceLE, Int.reduceLT, Int.reduceNeg, h0, h1, h5, g1, e]
        refine ⟨⟨k + 1, by omega, rfl, by rw [Int.natCast_add, Int.natCast_one, Int.add_assoc], fun i hi => ?_⟩, by omega⟩
        by_cases he : i = k
        · rw [he]; exact g2
        · exact hall i (by omega)
    · have g1' := of_decide_eq_false g1
      obtain rfl : k = xs.length := by omega
      simp (config := {maxSteps := 1000000}) (disch := omega) only [go_sem, ↓reduceIte, Nat.reduceEqDiff, Nat.reduceAdd, Nat.reduceMul, Nat.reduceSub, Nat.reduceLeDiff, Nat.reduceLT, Int.reduceToNat, Int.reduceLE, Int.reduceLT, Int.reduceNeg, h0, h1, h5, g1]
      rw [if_pos]
      exact list_ext (d := 0) (by rw [marks_len]) fun i hi => by rw [marks_len] at hi; rw [marks_get hi, hall i hi]
theorem fo_heldIntS : FnOk Try.prog 40 := fnOk_of Try.func40 (by kernel_rfl)
theorem c_heldIntS : Contract Try.prog 40 mHeldIntS :=
  contract_of_does (DT := fun id => match id with  | _ => []) Try.checked.mixed tabOk gok_nil Try.func40 rfl (by kernel_rfl) (does_heldIntS )




/-! ### Copies of the library's -/

theorem does_cloneP {G : Nat → Option FM}  : Does T G (fun id => match id with  | _ => []) Try.f130 mCopyRow := by
  refine does1 (rs := [.tmp 2]) rfl rfl fun xs ro h => ?_
  obtain ⟨hs, rfl⟩ := gd_some h
  refine ⟨fun _ => ⟨by simp only [cleanA, clean_row], rfl⟩, ?_⟩
  by_cases h0 : xs.length = 0
  · obtain rfl : xs = [] := List.length_eq_zero_iff.1 h0
    simp (config := {maxSteps := 1000000}) (disch := omega) only [go_sem, ↓reduceIte, Nat.reduceEqDiff, Nat.reduceAdd, Nat.reduceMul, Nat.reduceSub, Nat.reduceLeDiff, Nat.reduceLT, Int.reduceToNat, Int.reduceLE, Int.reduceLT, Int.reduceNeg, List.flatMap_nil]
    exact ⟨rfl, rfl⟩
  · simp (config := {maxSteps := 1000000}) (disch := omega) only [go_sem, ↓reduceIte, Nat.reduceEqDiff, Nat.reduceAdd, Nat.reduceMul, Nat.reduceSub, Nat.reduceLeDiff, Nat.reduceLT, Int.reduceToNat, Int.reduceLE, Int.reduceLT, Int.reduceNeg]
theorem fo_cloneP : FnOk Try.prog 130 := fnOk_of Try.func130 (by kernel_rfl)
theorem c_cloneP : Contract Try.prog 130 mCopyRow :=
  contract_of_does (DT := fun id => match id with  | _ => []) Try.checked.mixed tabOk gok_nil Try.func130 rfl (by kernel_rfl) (does_cloneP )


theorem does_cloneI {G : Nat → Option FM}  : Does T G (fun id => match id with  | _ => []) Try.f90 mCopyInts := by
  refine does1 (rs := [.tmp 2]) rfl rfl fun xs ro h => ?_
  obtain ⟨hs, rfl⟩ := gd_some h
  refine ⟨fun _ => ⟨by simp only [cleanA, clean_ints], rfl⟩, ?_⟩
  by_cases h0 : xs.length = 0
  · obtain rfl : xs = [] := List.length_eq_zero_iff.1 h0
    simp (config := {maxSteps := 1000000}) (disch := omega) only [go_sem, ↓reduceIte, Nat.reduceEqDiff, Nat.reduceAdd, Nat.reduceMul, Nat.reduceSub, Nat.reduceLeDiff, Nat.reduceLT, Int.reduceToNat, Int.reduceLE, Int.reduceLT, Int.reduceNeg]
    exact ⟨rfl, rfl⟩
  · simp (config := {maxSteps := 1000000}) (disch := omega) only [go_sem, ↓reduceIte, Nat.reduceEqDiff, Nat.reduceAdd, Nat.reduceMul, Nat.reduceSub, Nat.reduceLeDiff, Nat.reduceLT, Int.reduceToNat, Int.reduceLE, Int.reduceLT, Int.reduceNeg]
theorem fo_cloneI : FnOk Try.prog 90 := fnOk_of Try.func90 (by kernel_rfl)
theorem c_cloneI : Contract Try.prog 90 mCopyInts :=
  contract_of_does (DT := fun id => match id with  | _ => []) Try.checked.mixed tabOk gok_nil Try.func90 rfl (by kernel_rfl) (does_cloneI )


/-! ### Rows in halves -/

noncomputable def splitA (xs : List Pr) : List Pr × List Pr := if vRow xs then (xs.take ((xs.length + 1) / 2), xs.drop ((xs.length + 1) / 2)) else ([], [])
theorem splitA_f {xs : List Pr} (h : vRow xs = false) : splitA xs = ([], []) := by unfold splitA; rw [h]; rfl
theorem splitA_t {xs : List Pr} (h : vRow xs = true) : splitA xs = (xs.take ((xs.length + 1) / 2), xs.drop ((xs.length + 1) / 2)) := by unfold splitA; rw [h]; rfl
noncomputable def mSplitRow : Model := M1 .ro true (cRow false) fun xs => gd (xs.length ≤ 1099511627776) (.tup [eRow true (splitA xs).1, eRow true (splitA xs).2], [])
theorem tdiv2 (n : Nat) : ((n : Int) + 1).tdiv 2 = ((n + 1) / 2 : Nat) := rfl


theorem does_SplitRowI {G : Nat → Option FM} (h_ValidRowI : G 148 = some (.model mValidRow)) (h_cloneP : G 130 = some (.model mCopyRow)) : Does T G (fun id => match id with  | _ => []) Try.f132 mSplitRow := by
  refine does1 (rs := [.tmp 2, .tmp 3]) rfl rfl fun xs ro h => ?_
  obtain ⟨hs, rfl⟩ := gd_some h
  refine ⟨fun _ => ⟨by simp [cleanA, cleanL, clean_row], rfl⟩, ?_⟩
  cases hv : vRow xs
  · rw [splitA_f hv]
    simp (config := {maxSteps := 1000000}) (disch := omega) only [go_sem, ↓reduceIte, Nat.reduceEqDiff, Nat.reduceAdd, Nat.reduceMul, Nat.reduceSub, Nat.reduceLeDiff, Nat.reduceLT, Int.reduceToNat, Int.reduceLE, Int.reduceLT, Int.reduceNeg, h_ValidRowI, mValidRow, h_cloneP, mCopyRow, hv]
    rfl
  · rw [splitA_t hv]
    have hl : (xs.take ((xs.length + 1) / 2)).length = (xs.length + 1) / 2 := by rw [List.length_take]; omega
    have hl2 : (xs.drop ((xs.length + 1) / 2)).length = xs.length - (xs.length + 1) / 2 := by rw [List.length_drop]
    simp (config := {maxSteps := 1000000}) (disch := omega) only [go_sem, ↓reduceIte, Nat.reduceEqDiff, Nat.reduceAdd, Nat.reduceMul, Nat.reduceSub, Nat.reduceLeDiff, Nat.reduceLT, Int.reduceToNat, Int.reduceLE, Int.reduceLT, Int.reduceNeg, h_ValidRowI, mValidRow, h_cloneP, mCopyRow, hv, tdiv2, Nat.sub_zero, sub_zero, sub_restP, hl]
    simp only [eRow, hl]
theorem fo_SplitRowI : FnOk Try.prog 132 := fnOk_of Try.func132 (by kernel_rfl)
theorem c_SplitRowI : Contract Try.prog 132 mSplitRow :=
  contract_of_does (DT := fun id => match id with  | _ => []) Try.checked.mixed tabOk (gok_model fo_ValidRowI c_ValidRowI (gok_model fo_cloneP c_cloneP gok_nil)) Try.func132 rfl (by kernel_rfl) (does_SplitRowI rfl rfl)


theorem sub_marks (n : Nat) (k : Int) : sub (marks n k) 0 n = marks n k := by
  have := sub_all (marks n k)
  rwa [marks_len] at this

end Go.TM
