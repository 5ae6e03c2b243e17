/- Contracts, 25: rows put together; insides in parts and together. -/
import Derived.Test.YtbdiacopffnnbaaF24
namespace Go.TM
open Go.Proofs
set_option linter.unusedVariables false
set_option linter.unusedSimpArgs false
set_option maxRecDepth 100000

noncomputable def joinV (xs ys : List Pr) : List Pr × Bool := if vRow xs = true ∧ vRow ys = true ∧ vRow (xs ++ ys) = true then (xs ++ ys, true) else ([], false)
theorem joinV_f {xs ys : List Pr} (h : ¬ (vRow xs = true ∧ vRow ys = true ∧ vRow (xs ++ ys) = true)) : joinV xs ys = ([], false) := if_neg h
theorem joinV_t {xs ys : List Pr} (h1 : vRow xs = true) (h2 : vRow ys = true) (h3 : vRow (xs ++ ys) = true) : joinV xs ys = (xs ++ ys, true) := if_pos ⟨h1, h2, h3⟩
theorem joinV_len (xs ys : List Pr) : (joinV xs ys).1.length ≤ xs.length + ys.length := by
  unfold joinV
  split <;> simp
noncomputable def mJoinRows : Model := M2 .ro .ro true (cRow false) (cRow false) fun xs ys => gd (xs.length ≤ 34359738368 ∧ ys.length ≤ 34359738368) (.tup [eRow true (joinV xs ys).1, .b (joinV xs ys).2], [])
theorem row_eq2 {n : Nat} {b : Bool} {ys : List Pr} (h : n = ys.length) : some (A.tup [A.s true 2 n (ys.flatMap ePr), A.b b], ([] : List (List A))) = some (A.tup [eRow true ys, A.b b], []) := by subst h; rfl

theorem does_JoinRowsS {G : Nat → Option FM} (h_copyRow : G 107 = some (.model mCopyRow)) (h_validRow : G 100 = some (.model mValidRow)) : Does T G (fun id => match id with  | _ => []) Try.f32 mJoinRows := by
  refine does2 (rs := [.tmp 4, .tmp 5]) rfl rfl fun xs ys ro h => ?_
  obtain ⟨⟨hs, hs'⟩, rfl⟩ := gd_some h
  refine ⟨fun _ => ⟨by simp [cleanA, cleanL, clean_row], rfl⟩, ?_⟩
  have hl : (xs ++ ys).length = xs.length + ys.length := List.length_append
  cases h1 : vRow xs
  · rw [joinV_f (by rw [h1]; simp)]
    simp (config := {maxSteps := 1000000}) (disch := omega) only [go_sem, ↓reduceIte, Nat.reduceEqDiff, Nat.reduceAdd, Nat.reduceMul, Nat.reduceSub, Nat.reduceLeDiff, Nat.reduceLT, Int.reduceToNat, Int.reduceLE, Int.reduceLT, Int.reduceNeg, h_copyRow, mCopyRow, h_validRow, mValidRow, h1, app_PP, ← hl]
    rfl
  · cases h2 : vRow ys
    · rw [joinV_f (by rw [h2]; simp)]
      simp (config := {maxSteps := 1000000}) (disch := omega) only [go_sem, ↓reduceIte, Nat.reduceEqDiff, Nat.reduceAdd, Nat.reduceMul, Nat.reduceSub, Nat.reduceLeDiff, Nat.reduceLT, Int.reduceToNat, Int.reduceLE, Int.reduceLT, Int.reduceNeg, h_copyRow, mCopyRow, h_validRow, mValidRow, h1, h2, app_PP, ← hl]
      rfl
    · cases h3 : vRow (xs ++ ys)
      · rw [joinV_f (by rw [h3]; simp)]
        simp (config := {maxSteps := 1000000}) (disch := omega) only [go_sem, ↓reduceIte, Nat.reduceEqDiff, Nat.reduceAdd, Nat.reduceMul, Nat.reduceSub, Nat.reduceLeDiff, Nat.reduceLT, Int.reduceToNat, Int.reduceLE, Int.reduceLT, Int.reduceNeg, h_copyRow, mCopyRow, h_validRow, mValidRow, h1, h2, h3, app_PP, ← hl]
        rfl
      · rw [joinV_t h1 h2 h3]
        simp (config := {maxSteps := 1000000}) (disch := omega) only [go_sem, ↓reduceIte, Nat.reduceEqDiff, Nat.reduceAdd, Nat.reduceMul, Nat.reduceSub, Nat.reduceLeDiff, Nat.reduceLT, Int.reduceToNat, Int.reduceLE, Int.reduceLT, Int.reduceNeg, h_copyRow, mCopyRow, h_validRow, mValidRow, h1, h2, h3, app_PP, ← hl]
theorem fo_JoinRowsS : FnOk Try.prog 32 := fnOk_of Try.func32 (by kernel_rfl)
theorem c_JoinRowsS : Contract Try.prog 32 mJoinRows :=
  contract_of_does (DT := fun id => match id with  | _ => []) Try.checked.mixed tabOk (gok_model fo_copyRow c_copyRow (gok_model fo_validRow c_validRow gok_nil)) Try.func32 rfl (by kernel_rfl) (does_JoinRowsS rfl rfl)


theorem does_JoinRowsI {G : Nat → Option FM} (h_ValidRowI : G 104 = some (.model mValidRow)) (h_concatP : G 108 = some (.model mConcatP)) : Does T G (fun id => match id with  | _ => []) Try.f33 mJoinRows := by
  refine does2 (rs := [.tmp 4, .tmp 5]) rfl rfl fun xs ys ro h => ?_
  obtain ⟨⟨hs, hs'⟩, rfl⟩ := gd_some h
  refine ⟨fun _ => ⟨by simp [cleanA, cleanL, clean_row], rfl⟩, ?_⟩
  have hl : (xs ++ ys).length = xs.length + ys.length := List.length_append
  have hf : [xs, ys].flatten = xs ++ ys := by simp
  have d1 : decide (xs.length ≤ 68719476736) = true := decide_eq_true (by omega)
  have d2 : decide (ys.length ≤ 68719476736) = true := decide_eq_true (by omega)
  cases h1 : vRow xs
  · rw [joinV_f (by rw [h1]; simp)]
    simp (config := {maxSteps := 1000000}) (disch := omega) only [go_sem, ↓reduceIte, Nat.reduceEqDiff, Nat.reduceAdd, Nat.reduceMul, Nat.reduceSub, Nat.reduceLeDiff, Nat.reduceLT, Int.reduceToNat, Int.reduceLE, Int.reduceLT, Int.reduceNeg, h_ValidRowI, mValidRow, h_concatP, mConcatP, h1]
    rfl
  · cases h2 : vRow ys
    · rw [joinV_f (by rw [h2]; simp)]
      simp (config := {maxSteps := 1000000}) (disch := omega) only [go_sem, ↓reduceIte, Nat.reduceEqDiff, Nat.reduceAdd, Nat.reduceMul, Nat.reduceSub, Nat.reduceLeDiff, Nat.reduceLT, Int.reduceToNat, Int.reduceLE, Int.reduceLT, Int.reduceNeg, h_ValidRowI, mValidRow, h_concatP, mConcatP, h1, h2]
      rfl
    · cases h3 : vRow (xs ++ ys)
      · rw [joinV_f (by rw [h3]; simp)]
        simp (config := {maxSteps := 1000000}) (disch := omega) only [go_sem, ↓reduceIte, Nat.reduceEqDiff, Nat.reduceAdd, Nat.reduceMul, Nat.reduceSub, Nat.reduceLeDiff, Nat.reduceLT, Int.reduceToNat, Int.reduceLE, Int.reduceLT, Int.reduceNeg, h_ValidRowI, mValidRow, h_concatP, mConcatP, h1, h2, h3, hf, d1, d2, Bool.and_true, Bool.true_and]
        rfl
      · rw [joinV_t h1 h2 h3]
        simp (config := {maxSteps := 1000000}) (disch := omega) only [go_sem, ↓reduceIte, Nat.reduceEqDiff, Nat.reduceAdd, Nat.reduceMul, Nat.reduceSub, Nat.reduceLeDiff, Nat.reduceLT, Int.reduceToNat, Int.reduceLE, Int.reduceLT, Int.reduceNeg, h_ValidRowI, mValidRow, h_concatP, mConcatP, h1, h2, h3, hf, d1, d2, Bool.and_true, Bool.true_and]
theorem fo_JoinRowsI : FnOk Try.prog 33 := fnOk_of Try.func33 (by kernel_rfl)
theorem c_JoinRowsI : Contract Try.prog 33 mJoinRows :=
  contract_of_does (DT := fun id => match id with  | _ => []) Try.checked.mixed tabOk (gok_model fo_ValidRowI c_ValidRowI (gok_model fo_concatP c_concatP gok_nil)) Try.func33 rfl (by kernel_rfl) (does_JoinRowsI rfl rfl)


def mLawRows : Model := M2 .ro .ro true (cRow false) (cRow false) fun xs ys => gd (xs.length ≤ 9223372036854775807 ∧ ys.length ≤ 9223372036854775807) (.b true, [])
theorem does_FnExactJoinRows {G : Nat → Option FM} (h_szPairS : G 27 = some (.model mSzPairS)) (h_toPairS : G 29 = some (.model mToPairS)) (h_JoinRowsS : G 32 = some (.model mJoinRows)) (h_JoinRowsI : G 33 = some (.model mJoinRows)) (h_eqPairS : G 31 = some (.model mEqPairS)) (h_markPairS : G 34 = some (.model mMarkPairS)) (h_heldPairS : G 35 = some (.model mHeldPairS)) : Does T G (fun id => match id with  | _ => []) Try.f4 mLawRows := by
  refine does2 (rs := [.tmp 4]) rfl rfl fun xs ys ro h => ?_
  obtain ⟨⟨hs, hs'⟩, rfl⟩ := gd_some h
  refine ⟨fun _ => ⟨rfl, rfl⟩, ?_⟩
  have la := joinV_len xs ys
  generalize ha : (joinV xs ys).1 = a at la
  generalize hb : (joinV xs ys).2 = b
  simp (config := {maxSteps := 1000000}) (disch := omega) only [go_sem, ↓reduceIte, Nat.reduceEqDiff, Nat.reduceAdd, Nat.reduceMul, Nat.reduceSub, Nat.reduceLeDiff, Nat.reduceLT, Int.reduceToNat, Int.reduceLE, Int.reduceLT, Int.reduceNeg, h_szPairS, mSzPairS, h_toPairS, mToPairS, h_JoinRowsS, mJoinRows, h_JoinRowsI, mJoinRows, h_eqPairS, mEqPairS, h_markPairS, mMarkPairS, h_heldPairS, mHeldPairS]
  by_cases h1 : 1048576 < (xs.length : Int)
  · simp (config := {maxSteps := 1000000}) (disch := omega) only [go_sem, ↓reduceIte, Nat.reduceEqDiff, Nat.reduceAdd, Nat.reduceMul, Nat.reduceSub, Nat.reduceLeDiff, Nat.reduceLT, Int.reduceToNat, Int.reduceLE, Int.reduceLT, Int.reduceNeg, h_szPairS, mSzPairS, h_toPairS, mToPairS, h_JoinRowsS, mJoinRows, h_JoinRowsI, mJoinRows, h_eqPairS, mEqPairS, h_markPairS, mMarkPairS, h_heldPairS, mHeldPairS, h1]
  · have e : ¬ (1048576 - (xs.length : Int)) < 0 := by omega
    by_cases h2 : 1048576 - (xs.length : Int) < (ys.length : Int)
    · simp (config := {maxSteps := 1000000}) (disch := omega) only [go_sem, ↓reduceIte, Nat.reduceEqDiff, Nat.reduceAdd, Nat.reduceMul, Nat.reduceSub, Nat.reduceLeDiff, Nat.reduceLT, Int.reduceToNat, Int.reduceLE, Int.reduceLT, Int.reduceNeg, h_szPairS, mSzPairS, h_toPairS, mToPairS, h_JoinRowsS, mJoinRows, h_JoinRowsI, mJoinRows, h_eqPairS, mEqPairS, h_markPairS, mMarkPairS, h_heldPairS, mHeldPairS, h1, e, h2]
    · have e' : ¬ (1048576 - (xs.length : Int) - (ys.length : Int)) < 0 := by omega
      have m0 := marksP_len xs.length 1
      have m1 := marksP_len ys.length (1 + 2 * xs.length)
      have m2 := marksP_len a.length 1
      have e1 : decide (1 + 2 * (xs.length : Int) + 2 * (ys.length : Int) < 0) = false := decide_eq_false (by omega)
      have e2 : decide (1 + 2 * (a.length : Int) < 0) = false := decide_eq_false (by omega)
      simp (config := {maxSteps := 1000000}) (disch := omega) only [go_sem, ↓reduceIte, Nat.reduceEqDiff, Nat.reduceAdd, Nat.reduceMul, Nat.reduceSub, Nat.reduceLeDiff, Nat.reduceLT, Int.reduceToNat, Int.reduceLE, Int.reduceLT, Int.reduceNeg, h_szPairS, mSzPairS, h_toPairS, mToPairS, h_JoinRowsS, mJoinRows, h_JoinRowsI, mJoinRows, h_eqPairS, mEqPairS, h_markPairS, mMarkPairS, h_heldPairS, mHeldPairS, h1, e, h2, e', ha, hb, e1, e2, marksP_len, flatPr_len, sub_marksP]
theorem fo_FnExactJoinRows : FnOk Try.prog 4 := fnOk_of Try.func4 (by kernel_rfl)
theorem c_FnExactJoinRows : Contract Try.prog 4 mLawRows :=
  contract_of_does (DT := fun id => match id with  | _ => []) Try.checked.mixed tabOk (gok_model fo_szPairS c_szPairS (gok_model fo_toPairS c_toPairS (gok_model fo_JoinRowsS c_JoinRowsS (gok_model fo_JoinRowsI c_JoinRowsI (gok_model fo_eqPairS c_eqPairS (gok_model fo_markPairS c_markPairS (gok_model fo_heldPairS c_heldPairS gok_nil))))))) Try.func4 rfl (by kernel_rfl) (does_FnExactJoinRows rfl rfl rfl rfl rfl rfl rfl)

theorem fn_FnExactJoinRows (x : List Pr) (h : (∀ y ∈ x, intWf .i64 y.1 ∧ intWf .i64 y.2) ∧ x.length ≤ maxLen) (y : List Pr) (h' : (∀ z ∈ y, intWf .i64 z.1 ∧ intWf .i64 z.2) ∧ y.length ≤ maxLen) : mLawRows.fn [eRow false x, eRow false y] = some (.b true, []) := by
  have h2 : x.length ≤ 9223372036854775807 := h.2
  have h3 : y.length ≤ 9223372036854775807 := h'.2
  simp (config := {maxSteps := 1000000}) (disch := omega) only [go_sem, ↓reduceIte, Nat.reduceEqDiff, Nat.reduceAdd, Nat.reduceMul, Nat.reduceSub, Nat.reduceLeDiff, Nat.reduceLT, Int.reduceToNat, Int.reduceLE, Int.reduceLT, Int.reduceNeg, mLawRows]

/-! ### Insides -/

structure Hv where
  a : Inn
  key : Int
  b : Inn
def halfV (x : Inn) : Hv := ⟨⟨x.keys.take (x.keys.length / 2), x.kids.take (x.keys.length / 2 + 1)⟩, x.keys.getD (x.keys.length / 2) 0, ⟨x.keys.drop (x.keys.length / 2 + 1), x.kids.drop (x.keys.length / 2 + 1)⟩⟩
def mHalf : Model := M1 .ro true (cInn false) fun x => gd (1 ≤ x.keys.length ∧ x.kids.length = x.keys.length + 1 ∧ x.keys.length ≤ 34359738368) (.tup [eInn true (halfV x).a, eI (halfV x).key, eInn true (halfV x).b], [])
theorem tdiv2' (n : Nat) : ((n : Int)).tdiv 2 = (n / 2 : Nat) := rfl
theorem sub_rest' (xs : List Int) (k n : Nat) (h : n = xs.length - k) : sub xs k n = xs.drop k := by
  subst h
  exact sub_rest xs k

theorem does_splitInner {G : Nat → Option FM} (h_copyInts : G 117 = some (.model mCopyInts)) : Does T G (fun id => match id with | 2 => [(4, 5), (4, 6), (12, 0), (12, 1), (4, 12), (12, 4), (12, 5), (12, 6), (10, 12), (12, 10)] | 3 => [(5, 6), (5, 7), (13, 0), (13, 1), (5, 13), (13, 5), (13, 6), (13, 7), (11, 13), (13, 11)] | 4 => [(7, 1), (7, 2), (7, 4), (7, 5), (7, 6)] | _ => []) Try.f111 mHalf := by
  refine does1 (rs := [.cell 2 38, .tmp 3, .cell 4 38]) rfl rfl fun x ro h => ?_
  obtain ⟨⟨h1, h2, h3⟩, rfl⟩ := gd_some h
  refine ⟨fun _ => ⟨by simp [cleanA, cleanL, clean_ints], rfl⟩, ?_⟩
  have l1 : (x.keys.take (x.keys.length / 2)).length = x.keys.length / 2 := by rw [List.length_take]; omega
  have l2 : (x.kids.take (x.keys.length / 2 + 1)).length = x.keys.length / 2 + 1 := by rw [List.length_take]; omega
  have l3 : (x.keys.drop (x.keys.length / 2 + 1)).length = x.keys.length - (x.keys.length / 2 + 1) := by rw [List.length_drop]
  have l4 : (x.kids.drop (x.keys.length / 2 + 1)).length = x.kids.length - (x.keys.length / 2 + 1) := by rw [List.length_drop]
  simp (config := {maxSteps := 1000000}) (disch := omega) only [go_sem, ↓reduceIte, Nat.reduceEqDiff, Nat.reduceAdd, Nat.reduceMul, Nat.reduceSub, Nat.reduceLeDiff, Nat.reduceLT, Int.reduceToNat, Int.reduceLE, Int.reduceLT, Int.reduceNeg, h_copyInts, mCopyInts, drP_n, drP_c, logAt_n, logAt_c, disP_n, disP_c, notIn_n, notIn_c, tdiv2', toNat_k1, Nat.sub_zero, sub_zero, sub_rest, l1, l2]
  simp only [halfV, eInn, eIs, l1, l2, l3, l4]
theorem fo_splitInner : FnOk Try.prog 111 := fnOk_of Try.func111 (by kernel_rfl)
theorem c_splitInner : Contract Try.prog 111 mHalf :=
  contract_of_does (DT := fun id => match id with | 2 => [(4, 5), (4, 6), (12, 0), (12, 1), (4, 12), (12, 4), (12, 5), (12, 6), (10, 12), (12, 10)] | 3 => [(5, 6), (5, 7), (13, 0), (13, 1), (5, 13), (13, 5), (13, 6), (13, 7), (11, 13), (13, 11)] | 4 => [(7, 1), (7, 2), (7, 4), (7, 5), (7, 6)] | _ => []) Try.checked.mixed tabOk (gok_model fo_copyInts c_copyInts gok_nil) Try.func111 rfl (by kernel_rfl) (does_splitInner rfl)


theorem does_halvesOf {G : Nat → Option FM} (h_cloneI : G 125 = some (.model mCopyInts)) : Does T G (fun id => match id with | 2 => [(4, 5), (4, 6), (12, 0), (12, 1), (4, 12), (12, 4), (12, 5), (12, 6), (10, 12), (12, 10)] | 3 => [(5, 6), (5, 7), (13, 0), (13, 1), (5, 13), (13, 5), (13, 6), (13, 7), (11, 13), (13, 11)] | 4 => [(7, 1), (7, 2), (7, 4), (7, 5), (7, 6)] | _ => []) Try.f113 mHalf := by
  refine does1 (rs := [.cell 2 38, .tmp 3, .cell 4 38]) rfl rfl fun x ro h => ?_
  obtain ⟨⟨h1, h2, h3⟩, rfl⟩ := gd_some h
  refine ⟨fun _ => ⟨by simp [cleanA, cleanL, clean_ints], rfl⟩, ?_⟩
  have l1 : (x.keys.take (x.keys.length / 2)).length = x.keys.length / 2 := by rw [List.length_take]; omega
  have l2 : (x.kids.take (x.keys.length / 2 + 1)).length = x.keys.length / 2 + 1 := by rw [List.length_take]; omega
  have l3 : (x.keys.drop (x.keys.length / 2 + 1)).length = x.keys.length - (x.keys.length / 2 + 1) := by rw [List.length_drop]
  have l4 : (x.kids.drop (x.keys.length / 2 + 1)).length = x.kids.length - (x.keys.length / 2 + 1) := by rw [List.length_drop]
  simp (config := {maxSteps := 1000000}) (disch := omega) only [go_sem, ↓reduceIte, Nat.reduceEqDiff, Nat.reduceAdd, Nat.reduceMul, Nat.reduceSub, Nat.reduceLeDiff, Nat.reduceLT, Int.reduceToNat, Int.reduceLE, Int.reduceLT, Int.reduceNeg, h_cloneI, mCopyInts, drP_n, drP_c, logAt_n, logAt_c, disP_n, disP_c, notIn_n, notIn_c, tdiv2', toNat_k1, Nat.sub_zero, sub_zero, sub_rest, l1, l2]
  simp only [halfV, eInn, eIs, l1, l2, l3, l4]
theorem fo_halvesOf : FnOk Try.prog 113 := fnOk_of Try.func113 (by kernel_rfl)
theorem c_halvesOf : Contract Try.prog 113 mHalf :=
  contract_of_does (DT := fun id => match id with | 2 => [(4, 5), (4, 6), (12, 0), (12, 1), (4, 12), (12, 4), (12, 5), (12, 6), (10, 12), (12, 10)] | 3 => [(5, 6), (5, 7), (13, 0), (13, 1), (5, 13), (13, 5), (13, 6), (13, 7), (11, 13), (13, 11)] | 4 => [(7, 1), (7, 2), (7, 4), (7, 5), (7, 6)] | _ => []) Try.checked.mixed tabOk (gok_model fo_cloneI c_cloneI gok_nil) Try.func113 rfl (by kernel_rfl) (does_halvesOf rfl)


structure Sv where
  a : Inn
  key : Int
  b : Inn
  ok : Bool
noncomputable def splV (x : Inn) : Sv := if vInn x = true ∧ 3 ≤ x.keys.length then ⟨(halfV x).a, (halfV x).key, (halfV x).b, true⟩ else ⟨⟨[], []⟩, 0, ⟨[], []⟩, false⟩
theorem splV_f {x : Inn} (h : ¬ (vInn x = true ∧ 3 ≤ x.keys.length)) : splV x = ⟨⟨[], []⟩, 0, ⟨[], []⟩, false⟩ := if_neg h
theorem splV_t {x : Inn} (h : vInn x = true) (h' : 3 ≤ x.keys.length) : splV x = ⟨(halfV x).a, (halfV x).key, (halfV x).b, true⟩ := if_pos ⟨h, h'⟩
theorem splV_len (x : Inn) : ((splV x).a.keys.length ≤ x.keys.length ∧ (splV x).a.kids.length ≤ x.kids.length) ∧ (splV x).b.keys.length ≤ x.keys.length ∧ (splV x).b.kids.length ≤ x.kids.length := by
  unfold splV
  split
  · simp only [halfV, List.length_take, List.length_drop]
    omega
  · simp
noncomputable def mSplitInner : Model := M1 .ro true (cInn false) fun x => gd (x.keys.length ≤ 34359738368 ∧ x.kids.length ≤ 34359738368) (.tup [eInn true (splV x).a, eI (splV x).key, eInn true (splV x).b, .b (splV x).ok], [])

theorem does_SplitInnerS {G : Nat → Option FM} (h_validInner : G 110 = some (.model mValidInner)) (h_splitInner : G 111 = some (.model mHalf)) : Does T G (fun id => match id with | 4 => [(3, 2)] | _ => []) Try.f37 mSplitInner := by
  refine does1 (rs := [.cell 2 38, .tmp 3, .cell 4 38, .tmp 5]) rfl rfl fun x ro h => ?_
  obtain ⟨⟨h1, h2⟩, rfl⟩ := gd_some h
  refine ⟨fun _ => ⟨by simp [cleanA, cleanL, clean_ints], rfl⟩, ?_⟩
  cases hv : vInn x
  · rw [splV_f (by rw [hv]; simp)]
    simp (config := {maxSteps := 1000000}) (disch := omega) only [go_sem, ↓reduceIte, Nat.reduceEqDiff, Nat.reduceAdd, Nat.reduceMul, Nat.reduceSub, Nat.reduceLeDiff, Nat.reduceLT, Int.reduceToNat, Int.reduceLE, Int.reduceLT, Int.reduceNeg, h_validInner, mValidInner, h_splitInner, mHalf, drP_n, drP_c, logAt_n, logAt_c, disP_n, disP_c, notIn_n, notIn_c, hv]
    try rfl
  · have hk := vInn_iff.1 hv
    by_cases h3 : 3 ≤ x.keys.length
    · have e3 : decide ((x.keys.length : Int) < 3) = false := decide_eq_false (by omega)
      rw [splV_t hv h3]
      simp (config := {maxSteps := 1000000}) (disch := omega) only [go_sem, ↓reduceIte, Nat.reduceEqDiff, Nat.reduceAdd, Nat.reduceMul, Nat.reduceSub, Nat.reduceLeDiff, Nat.reduceLT, Int.reduceToNat, Int.reduceLE, Int.reduceLT, Int.reduceNeg, h_validInner, mValidInner, h_splitInner, mHalf, drP_n, drP_c, logAt_n, logAt_c, disP_n, disP_c, notIn_n, notIn_c, hv, e3]
      try rfl
    · have e3 : decide ((x.keys.length : Int) < 3) = true := decide_eq_true (by omega)
      rw [splV_f (fun h => h3 h.2)]
      simp (config := {maxSteps := 1000000}) (disch := omega) only [go_sem, ↓reduceIte, Nat.reduceEqDiff, Nat.reduceAdd, Nat.reduceMul, Nat.reduceSub, Nat.reduceLeDiff, Nat.reduceLT, Int.reduceToNat, Int.reduceLE, Int.reduceLT, Int.reduceNeg, h_validInner, mValidInner, h_splitInner, mHalf, drP_n, drP_c, logAt_n, logAt_c, disP_n, disP_c, notIn_n, notIn_c, hv, e3]
      try rfl
theorem fo_SplitInnerS : FnOk Try.prog 37 := fnOk_of Try.func37 (by kernel_rfl)
theorem c_SplitInnerS : Contract Try.prog 37 mSplitInner :=
  contract_of_does (DT := fun id => match id with | 4 => [(3, 2)] | _ => []) Try.checked.mixed tabOk (gok_model fo_validInner c_validInner (gok_model fo_splitInner c_splitInner gok_nil)) Try.func37 rfl (by kernel_rfl) (does_SplitInnerS rfl rfl)


theorem does_SplitInnerI {G : Nat → Option FM} (h_ValidInnerI : G 112 = some (.model mValidInner)) (h_halvesOf : G 113 = some (.model mHalf)) : Does T G (fun id => match id with | 4 => [(3, 2)] | _ => []) Try.f39 mSplitInner := by
  refine does1 (rs := [.cell 2 38, .tmp 3, .cell 4 38, .tmp 5]) rfl rfl fun x ro h => ?_
  obtain ⟨⟨h1, h2⟩, rfl⟩ := gd_some h
  refine ⟨fun _ => ⟨by simp [cleanA, cleanL, clean_ints], rfl⟩, ?_⟩
  cases hv : vInn x
  · rw [splV_f (by rw [hv]; simp)]
    simp (config := {maxSteps := 1000000}) (disch := omega) only [go_sem, ↓reduceIte, Nat.reduceEqDiff, Nat.reduceAdd, Nat.reduceMul, Nat.reduceSub, Nat.reduceLeDiff, Nat.reduceLT, Int.reduceToNat, Int.reduceLE, Int.reduceLT, Int.reduceNeg, h_ValidInnerI, mValidInner, h_halvesOf, mHalf, drP_n, drP_c, logAt_n, logAt_c, disP_n, disP_c, notIn_n, notIn_c, hv]
    try rfl
  · have hk := vInn_iff.1 hv
    by_cases h3 : 3 ≤ x.keys.length
    · have e3 : decide ((x.keys.length : Int) < 3) = false := decide_eq_false (by omega)
      rw [splV_t hv h3]
      simp (config := {maxSteps := 1000000}) (disch := omega) only [go_sem, ↓reduceIte, Nat.reduceEqDiff, Nat.reduceAdd, Nat.reduceMul, Nat.reduceSub, Nat.reduceLeDiff, Nat.reduceLT, Int.reduceToNat, Int.reduceLE, Int.reduceLT, Int.reduceNeg, h_ValidInnerI, mValidInner, h_halvesOf, mHalf, drP_n, drP_c, logAt_n, logAt_c, disP_n, disP_c, notIn_n, notIn_c, hv, e3]
      try rfl
    · have e3 : decide ((x.keys.length : Int) < 3) = true := decide_eq_true (by omega)
      rw [splV_f (fun h => h3 h.2)]
      simp (config := {maxSteps := 1000000}) (disch := omega) only [go_sem, ↓reduceIte, Nat.reduceEqDiff, Nat.reduceAdd, Nat.reduceMul, Nat.reduceSub, Nat.reduceLeDiff, Nat.reduceLT, Int.reduceToNat, Int.reduceLE, Int.reduceLT, Int.reduceNeg, h_ValidInnerI, mValidInner, h_halvesOf, mHalf, drP_n, drP_c, logAt_n, logAt_c, disP_n, disP_c, notIn_n, notIn_c, hv, e3]
      try rfl
theorem fo_SplitInnerI : FnOk Try.prog 39 := fnOk_of Try.func39 (by kernel_rfl)
theorem c_SplitInnerI : Contract Try.prog 39 mSplitInner :=
  contract_of_does (DT := fun id => match id with | 4 => [(3, 2)] | _ => []) Try.checked.mixed tabOk (gok_model fo_ValidInnerI c_ValidInnerI (gok_model fo_halvesOf c_halvesOf gok_nil)) Try.func39 rfl (by kernel_rfl) (does_SplitInnerI rfl rfl)


/-! ### Marks in insides -/

def mkI (a b : Nat) (k : Int) : Inn := ⟨marks a k, marks b (k + a)⟩
def mHeldInner : Model := M2 .ro .ro true (cInn false) cI fun x k => gd ((x.keys.length ≤ 1099511627776 ∧ x.kids.length ≤ 1099511627776) ∧ 0 ≤ k ∧ k ≤ 549755813888 ∧ x.keys.length ≤ 549755813888) (eI (if x = mkI x.keys.length x.kids.length k then k + x.keys.length + x.kids.length else -1), [])

set_option maxHeartbeats 2000000 in
theorem c_markInner : EachOk Try.prog 41 2 [0, 1] mMarkIntS := by
  intro B w0 L0 U hp w L vs us m e hh hr hm he
  letI := B
  obtain ⟨xs, k, rfl, hx, he⟩ := eachC_args he
  obtain ⟨ua, rfl, hxu, hkw⟩ := each_vals hr
  obtain ⟨r0, v1, id1, rt1, e1, hr0, hl1, he1, rfl⟩ := eachA_inv he
  clear he
  obtain ⟨r1, v2, id2, rt2, e2, hr1, hl2, he2, rfl⟩ := eachA_inv he1
  cases he2
  obtain ⟨u0, u1, rfl⟩ : ∃ u0 u1, ua = #[u0, u1] := by
    have hl := repL_len hxu
    obtain ⟨l, rfl⟩ : ∃ l : List Value, ua = l.toArray := ⟨ua.toList, by simp⟩
    have hl' : l.length = 2 := by simpa [hx] using hl.symm
    match l, hl' with
    | [u, v1], _ => exact ⟨u, v1, rfl⟩
  obtain ⟨q, f0, q0⟩ := repL_at hxu hr0
  cases f0
  obtain ⟨q, f1, q1⟩ := repL_at hxu hr1
  cases f1
  obtain ⟨W0, hW0⟩ : ∃ W0, W0 = w.alloc (.cells #[u0, u1] 38) := ⟨_, rfl⟩
  have k0 : Kept w W0 := by rw [hW0]; exact Kept.alloc _ _ _
  have hsz0 : W0.heap.size = w.heap.size + 1 := by rw [hW0, World.size_alloc]
  obtain ⟨h1, h2⟩ := HRel.keptProt hh k0 (b := w.heap.size) (Nat.le_refl _) (by omega)
  have ca0 : W0.cell? ⟨w.heap.size, 0, none⟩ = some u0 := by rw [hW0]; exact cell_box _ _ _ _ _ rfl
  have ca1 : W0.cell? ⟨w.heap.size, 1, none⟩ = some u1 := by rw [hW0]; exact cell_box _ _ _ _ _ rfl
  have c1 := lend_step fo_markIntS c_markIntS h1 hm (Rep.mono h2 _ _ q0) hkw hl1
  have c2 : ∀ L2 w2, HRel w0 L0 U (upd hp id1 (some rt1)) w2 L2 → Keeps U W0 (upd L w.heap.size .prot) hp U w2 L2 (upd hp id1 (some rt1)) → (Lit.int .i64 v1).wf = true →
      Calls Try.prog 53 #[u1, .int .i64 v1] w2 fun e w' => e = .returned (.int .i64 v2) ∧ (Lit.int .i64 v2).wf = true ∧ ∃ L', HRel w0 L0 U (upd (upd hp id1 (some rt1)) id2 (some rt2)) w' L' ∧ Keeps U w L hp U w' L' (upd (upd hp id1 (some rt1)) id2 (some rt2)) := by
    intro L2 w2 g1 g2 gw
    refine (lend_step fo_markIntS c_markIntS g1 hm (Rep.mono (h2.trans g2) _ _ q1) gw hl2).mono fun e w' hp' => ?_
    obtain ⟨rfl, gw2, L3, f1, f2⟩ := hp'
    exact ⟨rfl, gw2, L3, f1, (h2.trans g2).trans f2⟩
  unfold CallOk
  clear hr hxu hr0 hr1 hl1 hl2 q0 q1 he1
  go_enter Try.func41, Try.ntmps41
  go_wp2_with (first
    | (go_at_call 53; rw [← hW0]; refine c1.mono ?_; rintro e w2 ⟨rfl, gw, L2, g1, g2⟩; have ca2 : w2.cell? ⟨w.heap.size, 1, none⟩ = some u1 := (World.cell?_of_block (a := ⟨w.heap.size, 1, none⟩) (g2.prot _ (upd_same ..)).2).trans ca1; have c3 := c2 L2 w2 g1 g2 gw)
    | (go_at_call 53; refine c3.mono ?_; rintro e w3 ⟨rfl, gw2, L3, f1, f2⟩))
  go_ret
  exact each_end f1 f2 gw2 rfl
theorem fo_markInner : FnOk Try.prog 41 := fnOk_of Try.func41 (by kernel_rfl)


theorem does_heldInner {G : Nat → Option FM} (h_heldIntS : G 54 = some (.model mHeldIntS)) : Does T G (fun id => match id with  | _ => []) Try.f42 mHeldInner := by
  refine does2 (rs := [.tmp 4]) rfl rfl fun x k ro h => ?_
  obtain ⟨⟨hs, hk0, hk1, hk2⟩, rfl⟩ := gd_some h
  refine ⟨fun _ => ⟨rfl, rfl⟩, ?_⟩
  obtain ⟨a, b⟩ := x
  dsimp only at hs hk2
  by_cases h1 : a = marks a.length k
  · by_cases h2 : b = marks b.length (k + a.length)
    · have e : (⟨a, b⟩ : Inn) = mkI a.length b.length k := by simp only [mkI, ← h1, ← h2]
      have e1 : decide (k + (a.length : Int) < 0) = false := decide_eq_false (by omega)
      have e2 : decide (k + (a.length : Int) + (b.length : Int) < 0) = false := decide_eq_false (by omega)
      simp (config := {maxSteps := 1000000}) (disch := omega) only [go_sem, ↓reduceIte, Nat.reduceEqDiff, Nat.reduceAdd, Nat.reduceMul, Nat.reduceSub, Nat.reduceLeDiff, Nat.reduceLT, Int.reduceToNat, Int.reduceLE, Int.reduceLT, Int.reduceNeg, h_heldIntS, mHeldIntS, drP_n, drP_c, logAt_n, logAt_c, disP_n, disP_c, notIn_n, notIn_c, if_pos h1, if_pos h2, e1, e2, if_pos e]
    · have e : ¬ (⟨a, b⟩ : Inn) = mkI a.length b.length k := fun he => h2 (congrArg Inn.kids he)
      have e1 : decide (k + (a.length : Int) < 0) = false := decide_eq_false (by omega)
      simp (config := {maxSteps := 1000000}) (disch := omega) only [go_sem, ↓reduceIte, Nat.reduceEqDiff, Nat.reduceAdd, Nat.reduceMul, Nat.reduceSub, Nat.reduceLeDiff, Nat.reduceLT, Int.reduceToNat, Int.reduceLE, Int.reduceLT, Int.reduceNeg, h_heldIntS, mHeldIntS, drP_n, drP_c, logAt_n, logAt_c, disP_n, disP_c, notIn_n, notIn_c, if_pos h1, if_neg h2, e1, if_neg e]
  · have e : ¬ (⟨a, b⟩ : Inn) = mkI a.length b.length k := fun he => h1 (congrArg Inn.keys he)
    simp (config := {maxSteps := 1000000}) (disch := omega) only [go_sem, ↓reduceIte, Nat.reduceEqDiff, Nat.reduceAdd, Nat.reduceMul, Nat.reduceSub, Nat.reduceLeDiff, Nat.reduceLT, Int.reduceToNat, Int.reduceLE, Int.reduceLT, Int.reduceNeg, h_heldIntS, mHeldIntS, drP_n, drP_c, logAt_n, logAt_c, disP_n, disP_c, notIn_n, notIn_c, if_neg h1, if_neg e]
theorem fo_heldInner : FnOk Try.prog 42 := fnOk_of Try.func42 (by kernel_rfl)
theorem c_heldInner : Contract Try.prog 42 mHeldInner :=
  contract_of_does (DT := fun id => match id with  | _ => []) Try.checked.mixed tabOk (gok_model fo_heldIntS c_heldIntS gok_nil) Try.func42 rfl (by kernel_rfl) (does_heldInner rfl)

theorem mkI_keys (a b : Nat) (k : Int) : (mkI a b k).keys = marks a k := rfl
theorem mkI_kids (a b : Nat) (k : Int) : (mkI a b k).kids = marks b (k + a) := rfl
theorem mkI_eq (a b : Nat) (k : Int) : (⟨marks a k, marks b (k + a)⟩ : Inn) = mkI a b k := rfl

theorem does_FnExactSplitInner {G : Nat → Option FM} (h_szInner : G 36 = some (.model mSzInner)) (h_toInner : G 38 = some (.model mToInner)) (h_SplitInnerS : G 37 = some (.model mSplitInner)) (h_SplitInnerI : G 39 = some (.model mSplitInner)) (h_eqInner : G 40 = some (.model mEqInner)) (h_markInner : G 41 = some (.each 2 [0, 1] mMarkIntS)) (h_heldInner : G 42 = some (.model mHeldInner)) : Does T G (fun id => match id with | 10 => [(2, 0)] | _ => []) Try.f5 mLawInn := by
  refine does1 (rs := [.tmp 2]) rfl rfl fun x ro h => ?_
  obtain ⟨hs, rfl⟩ := gd_some h
  refine ⟨fun _ => ⟨rfl, rfl⟩, ?_⟩
  obtain ⟨⟨la, lb⟩, lc, ld⟩ := splV_len x
  generalize ha : (splV x).a = a at la lb
  generalize hk : (splV x).key = key
  generalize hb : (splV x).b = b at lc ld
  generalize ho : (splV x).ok = ok
  simp (config := {maxSteps := 1000000}) (disch := omega) only [go_sem, ↓reduceIte, Nat.reduceEqDiff, Nat.reduceAdd, Nat.reduceMul, Nat.reduceSub, Nat.reduceLeDiff, Nat.reduceLT, Int.reduceToNat, Int.reduceLE, Int.reduceLT, Int.reduceNeg, h_szInner, mSzInner, h_toInner, mToInner, h_SplitInnerS, mSplitInner, h_SplitInnerI, mSplitInner, h_eqInner, mEqInner, h_markInner, mMarkIntS, h_heldInner, mHeldInner, drP_n, drP_c, logAt_n, logAt_c, disP_n, disP_c, notIn_n, notIn_c]
  by_cases h1 : 1048576 < (x.keys.length : Int)
  · simp (config := {maxSteps := 1000000}) (disch := omega) only [go_sem, ↓reduceIte, Nat.reduceEqDiff, Nat.reduceAdd, Nat.reduceMul, Nat.reduceSub, Nat.reduceLeDiff, Nat.reduceLT, Int.reduceToNat, Int.reduceLE, Int.reduceLT, Int.reduceNeg, h_szInner, mSzInner, h_toInner, mToInner, h_SplitInnerS, mSplitInner, h_SplitInnerI, mSplitInner, h_eqInner, mEqInner, h_markInner, mMarkIntS, h_heldInner, mHeldInner, drP_n, drP_c, logAt_n, logAt_c, disP_n, disP_c, notIn_n, notIn_c, h1, szI]
  · by_cases h2 : 1048576 - (x.keys.length : Int) < (x.kids.length : Int)
    · simp (config := {maxSteps := 1000000}) (disch := omega) only [go_sem, ↓reduceIte, Nat.reduceEqDiff, Nat.reduceAdd, Nat.reduceMul, Nat.reduceSub, Nat.reduceLeDiff, Nat.reduceLT, Int.reduceToNat, Int.reduceLE, Int.reduceLT, Int.reduceNeg, h_szInner, mSzInner, h_toInner, mToInner, h_SplitInnerS, mSplitInner, h_SplitInnerI, mSplitInner, h_eqInner, mEqInner, h_markInner, mMarkIntS, h_heldInner, mHeldInner, drP_n, drP_c, logAt_n, logAt_c, disP_n, disP_c, notIn_n, notIn_c, h1, h2, szI]
    · have e : ¬ (1048576 - (x.keys.length : Int) - (x.kids.length : Int)) < 0 := by omega
      have e1 : decide (1 + (x.keys.length : Int) + (x.kids.length : Int) < 0) = false := decide_eq_false (by omega)
      have e2 : decide (1 + (a.keys.length : Int) + (a.kids.length : Int) < 0) = false := decide_eq_false (by omega)
      have e3 : decide (1 + (a.keys.length : Int) + (a.kids.length : Int) + (b.keys.length : Int) + (b.kids.length : Int) < 0) = false := decide_eq_false (by omega)
      have m0 := marks_len a.keys.length 1
      have m1 := marks_len a.kids.length (1 + a.keys.length)
      have m2 := marks_len b.keys.length (1 + a.keys.length + a.kids.length)
      have m3 := marks_len b.kids.length (1 + a.keys.length + a.kids.length + b.keys.length)
      simp (config := {maxSteps := 1000000}) (disch := omega) only [go_sem, ↓reduceIte, Nat.reduceEqDiff, Nat.reduceAdd, Nat.reduceMul, Nat.reduceSub, Nat.reduceLeDiff, Nat.reduceLT, Int.reduceToNat, Int.reduceLE, Int.reduceLT, Int.reduceNeg, h_szInner, mSzInner, h_toInner, mToInner, h_SplitInnerS, mSplitInner, h_SplitInnerI, mSplitInner, h_eqInner, mEqInner, h_markInner, mMarkIntS, h_heldInner, mHeldInner, drP_n, drP_c, logAt_n, logAt_c, disP_n, disP_c, notIn_n, notIn_c, h1, h2, szI, e, ha, hk, hb, ho, e1, e2, e3, marks_len, List.length_map, sub_marks, mkI]
theorem fo_FnExactSplitInner : FnOk Try.prog 5 := fnOk_of Try.func5 (by kernel_rfl)
theorem c_FnExactSplitInner : Contract Try.prog 5 mLawInn :=
  contract_of_does (DT := fun id => match id with | 10 => [(2, 0)] | _ => []) Try.checked.mixed tabOk (gok_model fo_szInner c_szInner (gok_model fo_toInner c_toInner (gok_model fo_SplitInnerS c_SplitInnerS (gok_model fo_SplitInnerI c_SplitInnerI (gok_model fo_eqInner c_eqInner (gok_each fo_markInner c_markInner (gok_model fo_heldInner c_heldInner gok_nil))))))) Try.func5 rfl (by kernel_rfl) (does_FnExactSplitInner rfl rfl rfl rfl rfl rfl rfl)

theorem fn_FnExactSplitInner (x : Inn) (h : ((∀ y ∈ x.keys, intWf .i64 y) ∧ x.keys.length ≤ maxLen) ∧ (∀ y ∈ x.kids, intWf .i64 y) ∧ x.kids.length ≤ maxLen) : mLawInn.fn [eInn false x] = some (.b true, []) := by
  have h2 : x.keys.length ≤ 9223372036854775807 := h.1.2
  have h3 : x.kids.length ≤ 9223372036854775807 := h.2.2
  simp (config := {maxSteps := 1000000}) (disch := omega) only [go_sem, ↓reduceIte, Nat.reduceEqDiff, Nat.reduceAdd, Nat.reduceMul, Nat.reduceSub, Nat.reduceLeDiff, Nat.reduceLT, Int.reduceToNat, Int.reduceLE, Int.reduceLT, Int.reduceNeg, mLawInn]

/-! ### Two insides as one -/

def bothV (a : Inn) (k : Int) (b : Inn) : Inn := ⟨a.keys ++ k :: b.keys, a.kids ++ b.kids⟩
def mBoth : Model := M3 .ro .ro .ro true (cInn false) cI (cInn false) fun a k b => gd ((a.keys.length ≤ 34359738368 ∧ a.kids.length ≤ 34359738368) ∧ b.keys.length ≤ 34359738368 ∧ b.kids.length ≤ 34359738368) (eInn true (bothV a k b), [])
theorem both_keys (a : Inn) (k : Int) (b : Inn) : [a.keys, [k], b.keys].flatten = (bothV a k b).keys := by simp [bothV]
theorem both_kids (a : Inn) (k : Int) (b : Inn) : [a.kids, b.kids].flatten = (bothV a k b).kids := by simp [bothV]
theorem eI_one (k : Int) : [A.i .i64 k] = [k].map eI := rfl
theorem cIss_3' (o : Bool) (a : List Int) (k : Int) (b : List Int) : (cS o (cS o cI)).d (.s o 1 3 [eIs o a, .s o 1 1 [.i .i64 k], eIs o b]) = some [a, [k], b] := (cS o (cS o cI)).de [a, [k], b]

theorem does_bothOf {G : Nat → Option FM} (h_concatI : G 129 = some (.model mConcatI)) : Does T G (fun id => match id with | 1 => [(3, 0), (3, 1), (3, 4), (3, 5), (3, 8), (6, 8), (7, 8), (3, 9), (6, 9), (7, 9), (3, 10), (6, 10), (7, 10), (3, 11), (6, 11), (7, 11), (12, 0), (12, 1), (3, 12), (12, 3), (12, 4), (12, 5), (6, 12), (12, 6), (7, 12), (12, 7)] | _ => []) Try.f118 mBoth := by
  refine does3 (rs := [.cell 6 38]) rfl rfl fun a k b ro h => ?_
  obtain ⟨⟨⟨h1, h2⟩, h3, h4⟩, rfl⟩ := gd_some h
  refine ⟨fun _ => ⟨by simp [cleanA, cleanL, clean_ints], rfl⟩, ?_⟩
  have d1 : decide (a.keys.length ≤ 68719476736) = true := decide_eq_true (by omega)
  have d2 : decide (a.kids.length ≤ 68719476736) = true := decide_eq_true (by omega)
  have d3 : decide (b.keys.length ≤ 68719476736) = true := decide_eq_true (by omega)
  have d4 : decide (b.kids.length ≤ 68719476736) = true := decide_eq_true (by omega)
  simp (config := {maxSteps := 1000000}) (disch := omega) only [go_sem, ↓reduceIte, Nat.reduceEqDiff, Nat.reduceAdd, Nat.reduceMul, Nat.reduceSub, Nat.reduceLeDiff, Nat.reduceLT, Int.reduceToNat, Int.reduceLE, Int.reduceLT, Int.reduceNeg, h_concatI, mConcatI, drP_n, drP_c, logAt_n, logAt_c, disP_n, disP_c, notIn_n, notIn_c, cIss_3', both_keys, both_kids, d1, d2, d3, d4, Bool.and_true, Bool.true_and]
  rfl
theorem fo_bothOf : FnOk Try.prog 118 := fnOk_of Try.func118 (by kernel_rfl)
theorem c_bothOf : Contract Try.prog 118 mBoth :=
  contract_of_does (DT := fun id => match id with | 1 => [(3, 0), (3, 1), (3, 4), (3, 5), (3, 8), (6, 8), (7, 8), (3, 9), (6, 9), (7, 9), (3, 10), (6, 10), (7, 10), (3, 11), (6, 11), (7, 11), (12, 0), (12, 1), (3, 12), (12, 3), (12, 4), (12, 5), (6, 12), (12, 6), (7, 12), (12, 7)] | _ => []) Try.checked.mixed tabOk (gok_model fo_concatI c_concatI gok_nil) Try.func118 rfl (by kernel_rfl) (does_bothOf rfl)


noncomputable def joinIV (a : Inn) (k : Int) (b : Inn) : Inn × Bool := if vInn a = true ∧ vInn b = true ∧ vInn (bothV a k b) = true then (bothV a k b, true) else (⟨[], []⟩, false)
theorem joinIV_f {a b : Inn} {k : Int} (h : ¬ (vInn a = true ∧ vInn b = true ∧ vInn (bothV a k b) = true)) : joinIV a k b = (⟨[], []⟩, false) := if_neg h
theorem joinIV_t {a b : Inn} {k : Int} (h1 : vInn a = true) (h2 : vInn b = true) (h3 : vInn (bothV a k b) = true) : joinIV a k b = (bothV a k b, true) := if_pos ⟨h1, h2, h3⟩
theorem joinIV_len (a : Inn) (k : Int) (b : Inn) : (joinIV a k b).1.keys.length ≤ a.keys.length + b.keys.length + 1 ∧ (joinIV a k b).1.kids.length ≤ a.kids.length + b.kids.length := by
  unfold joinIV
  split
  · simp only [bothV, List.length_append, List.length_cons]; omega
  · simp
noncomputable def mJoinInner : Model := M3 .ro .ro .ro true (cInn false) cI (cInn false) fun a k b => gd ((a.keys.length ≤ 34359738368 ∧ a.kids.length ≤ 34359738368) ∧ b.keys.length ≤ 34359738368 ∧ b.kids.length ≤ 34359738368) (.tup [eInn true (joinIV a k b).1, .b (joinIV a k b).2], [])
theorem app_K {xs ys : List Int} {k : Int} {n : Nat} (h : xs.length + 1 = n) : ((xs ++ [k]).map eI).take n ++ ys.map eI = (xs ++ k :: ys).map eI := by
  rw [List.take_of_length_le (by rw [List.length_map, List.length_append, List.length_singleton]; omega), ← List.map_append]
  simp

theorem app_K' {xs ys : List Int} {k : Int} : (xs.map eI ++ [A.i .i64 k]).take (xs.length + 1) ++ ys.map eI = (xs ++ k :: ys).map eI := by
  rw [List.take_of_length_le (by simp)]
  simp
theorem app_m {xs ys : List Int} : xs.map eI ++ ys.map eI = (xs ++ ys).map eI := List.map_append.symm

theorem does_JoinInnerS {G : Nat → Option FM} (h_copyInts : G 117 = some (.model mCopyInts)) (h_validInner : G 110 = some (.model mValidInner)) : Does T G (fun id => match id with | 1 => [(4, 0), (4, 1), (2, 4), (4, 2), (2, 6), (4, 6), (5, 6), (2, 7), (4, 7), (5, 7)] | 2 => [(3, 4), (3, 5), (8, 1), (8, 2), (3, 8), (8, 3), (8, 4), (8, 5), (6, 8), (8, 6)] | _ => []) Try.f45 mJoinInner := by
  refine does3 (rs := [.cell 6 38, .tmp 7]) rfl rfl fun a k b ro h => ?_
  obtain ⟨⟨⟨h1, h2⟩, h3, h4⟩, rfl⟩ := gd_some h
  refine ⟨fun _ => ⟨by simp [cleanA, cleanL, clean_ints], rfl⟩, ?_⟩
  have l0 : (a.keys ++ [k]).length = a.keys.length + 1 := by simp
  have l1 : (a.keys ++ k :: b.keys).length = a.keys.length + 1 + b.keys.length := by simp; omega
  have l2 : (a.kids ++ b.kids).length = a.kids.length + b.kids.length := by simp
  have hj : (⟨a.keys ++ k :: b.keys, a.kids ++ b.kids⟩ : Inn) = bothV a k b := rfl
  have l1' : (bothV a k b).keys.length = a.keys.length + 1 + b.keys.length := l1
  have l2' : (bothV a k b).kids.length = a.kids.length + b.kids.length := l2
  cases v1 : vInn a
  · rw [joinIV_f (by rw [v1]; simp)]
    simp (config := {maxSteps := 1000000}) (disch := omega) only [go_sem, ↓reduceIte, Nat.reduceEqDiff, Nat.reduceAdd, Nat.reduceMul, Nat.reduceSub, Nat.reduceLeDiff, Nat.reduceLT, Int.reduceToNat, Int.reduceLE, Int.reduceLT, Int.reduceNeg, h_copyInts, mCopyInts, h_validInner, mValidInner, drP_n, drP_c, logAt_n, logAt_c, disP_n, disP_c, notIn_n, notIn_c, take_mapI, app_I, app_II, app_K', app_m, v1, ← l1, ← l2, hj]
    try rfl
  · cases v2 : vInn b
    · rw [joinIV_f (by rw [v2]; simp)]
      simp (config := {maxSteps := 1000000}) (disch := omega) only [go_sem, ↓reduceIte, Nat.reduceEqDiff, Nat.reduceAdd, Nat.reduceMul, Nat.reduceSub, Nat.reduceLeDiff, Nat.reduceLT, Int.reduceToNat, Int.reduceLE, Int.reduceLT, Int.reduceNeg, h_copyInts, mCopyInts, h_validInner, mValidInner, drP_n, drP_c, logAt_n, logAt_c, disP_n, disP_c, notIn_n, notIn_c, take_mapI, app_I, app_II, app_K', app_m, v1, v2, ← l1, ← l2, hj]
      try rfl
    · cases v3 : vInn (bothV a k b)
      · rw [joinIV_f (by rw [v3]; simp)]
        simp (config := {maxSteps := 1000000}) (disch := omega) only [go_sem, ↓reduceIte, Nat.reduceEqDiff, Nat.reduceAdd, Nat.reduceMul, Nat.reduceSub, Nat.reduceLeDiff, Nat.reduceLT, Int.reduceToNat, Int.reduceLE, Int.reduceLT, Int.reduceNeg, h_copyInts, mCopyInts, h_validInner, mValidInner, drP_n, drP_c, logAt_n, logAt_c, disP_n, disP_c, notIn_n, notIn_c, take_mapI, app_I, app_II, app_K', app_m, v1, v2, v3, ← l1, ← l2, hj]
        try rfl
      · rw [joinIV_t v1 v2 v3]
        simp (config := {maxSteps := 1000000}) (disch := omega) only [go_sem, ↓reduceIte, Nat.reduceEqDiff, Nat.reduceAdd, Nat.reduceMul, Nat.reduceSub, Nat.reduceLeDiff, Nat.reduceLT, Int.reduceToNat, Int.reduceLE, Int.reduceLT, Int.reduceNeg, h_copyInts, mCopyInts, h_validInner, mValidInner, drP_n, drP_c, logAt_n, logAt_c, disP_n, disP_c, notIn_n, notIn_c, take_mapI, app_I, app_II, app_K', app_m, v1, v2, v3, ← l1, ← l2, hj]
        try rfl
theorem fo_JoinInnerS : FnOk Try.prog 45 := fnOk_of Try.func45 (by kernel_rfl)
theorem c_JoinInnerS : Contract Try.prog 45 mJoinInner :=
  contract_of_does (DT := fun id => match id with | 1 => [(4, 0), (4, 1), (2, 4), (4, 2), (2, 6), (4, 6), (5, 6), (2, 7), (4, 7), (5, 7)] | 2 => [(3, 4), (3, 5), (8, 1), (8, 2), (3, 8), (8, 3), (8, 4), (8, 5), (6, 8), (8, 6)] | _ => []) Try.checked.mixed tabOk (gok_model fo_copyInts c_copyInts (gok_model fo_validInner c_validInner gok_nil)) Try.func45 rfl (by kernel_rfl) (does_JoinInnerS rfl rfl)


theorem does_JoinInnerI {G : Nat → Option FM} (h_ValidInnerI : G 112 = some (.model mValidInner)) (h_bothOf : G 118 = some (.model mBoth)) : Does T G (fun id => match id with  | _ => []) Try.f46 mJoinInner := by
  refine does3 (rs := [.cell 6 38, .tmp 7]) rfl rfl fun a k b ro h => ?_
  obtain ⟨⟨⟨h1, h2⟩, h3, h4⟩, rfl⟩ := gd_some h
  refine ⟨fun _ => ⟨by simp [cleanA, cleanL, clean_ints], rfl⟩, ?_⟩
  have l1 : (bothV a k b).keys.length = a.keys.length + (b.keys.length + 1) := by simp [bothV]
  have l2 : (bothV a k b).kids.length = a.kids.length + b.kids.length := by simp [bothV]
  cases v1 : vInn a
  · rw [joinIV_f (by rw [v1]; simp)]
    simp (config := {maxSteps := 1000000}) (disch := omega) only [go_sem, ↓reduceIte, Nat.reduceEqDiff, Nat.reduceAdd, Nat.reduceMul, Nat.reduceSub, Nat.reduceLeDiff, Nat.reduceLT, Int.reduceToNat, Int.reduceLE, Int.reduceLT, Int.reduceNeg, h_ValidInnerI, mValidInner, h_bothOf, mBoth, drP_n, drP_c, logAt_n, logAt_c, disP_n, disP_c, notIn_n, notIn_c, v1]
    try rfl
  · cases v2 : vInn b
    · rw [joinIV_f (by rw [v2]; simp)]
      simp (config := {maxSteps := 1000000}) (disch := omega) only [go_sem, ↓reduceIte, Nat.reduceEqDiff, Nat.reduceAdd, Nat.reduceMul, Nat.reduceSub, Nat.reduceLeDiff, Nat.reduceLT, Int.reduceToNat, Int.reduceLE, Int.reduceLT, Int.reduceNeg, h_ValidInnerI, mValidInner, h_bothOf, mBoth, drP_n, drP_c, logAt_n, logAt_c, disP_n, disP_c, notIn_n, notIn_c, v1, v2]
      try rfl
    · cases v3 : vInn (bothV a k b)
      · rw [joinIV_f (by rw [v3]; simp)]
        simp (config := {maxSteps := 1000000}) (disch := omega) only [go_sem, ↓reduceIte, Nat.reduceEqDiff, Nat.reduceAdd, Nat.reduceMul, Nat.reduceSub, Nat.reduceLeDiff, Nat.reduceLT, Int.reduceToNat, Int.reduceLE, Int.reduceLT, Int.reduceNeg, h_ValidInnerI, mValidInner, h_bothOf, mBoth, drP_n, drP_c, logAt_n, logAt_c, disP_n, disP_c, notIn_n, notIn_c, v1, v2, v3]
        try rfl
      · rw [joinIV_t v1 v2 v3]
        simp (config := {maxSteps := 1000000}) (disch := omega) only [go_sem, ↓reduceIte, Nat.reduceEqDiff, Nat.reduceAdd, Nat.reduceMul, Nat.reduceSub, Nat.reduceLeDiff, Nat.reduceLT, Int.reduceToNat, Int.reduceLE, Int.reduceLT, Int.reduceNeg, h_ValidInnerI, mValidInner, h_bothOf, mBoth, drP_n, drP_c, logAt_n, logAt_c, disP_n, disP_c, notIn_n, notIn_c, v1, v2, v3]
        try rfl
theorem fo_JoinInnerI : FnOk Try.prog 46 := fnOk_of Try.func46 (by kernel_rfl)
theorem c_JoinInnerI : Contract Try.prog 46 mJoinInner :=
  contract_of_does (DT := fun id => match id with  | _ => []) Try.checked.mixed tabOk (gok_model fo_ValidInnerI c_ValidInnerI (gok_model fo_bothOf c_bothOf gok_nil)) Try.func46 rfl (by kernel_rfl) (does_JoinInnerI rfl rfl)


def mLawInn3 : Model := M3 .ro .ro .ro true (cInn false) cI (cInn false) fun a k b => gd ((a.keys.length ≤ 9223372036854775807 ∧ a.kids.length ≤ 9223372036854775807) ∧ b.keys.length ≤ 9223372036854775807 ∧ b.kids.length ≤ 9223372036854775807) (.b true, [])
theorem does_FnExactJoinInner {G : Nat → Option FM} (h_szInner : G 36 = some (.model mSzInner)) (h_toInner : G 38 = some (.model mToInner)) (h_JoinInnerS : G 45 = some (.model mJoinInner)) (h_JoinInnerI : G 46 = some (.model mJoinInner)) (h_eqInner : G 40 = some (.model mEqInner)) (h_markInner : G 41 = some (.each 2 [0, 1] mMarkIntS)) (h_heldInner : G 42 = some (.model mHeldInner)) : Does T G (fun id => match id with | 8 => [(1, 3), (9, 0), (1, 9), (9, 1), (9, 3), (4, 9), (9, 4), (5, 9), (9, 5)] | 14 => [(2, 0)] | 16 => [(2, 0)] | 31 => [(1, 3), (9, 0), (1, 9), (9, 1), (9, 3), (4, 9), (9, 4), (5, 9), (9, 5)] | _ => []) Try.f7 mLawInn3 := by
  refine does3 (rs := [.tmp 6]) rfl rfl fun x y z ro h => ?_
  obtain ⟨hs, rfl⟩ := gd_some h
  refine ⟨fun _ => ⟨rfl, rfl⟩, ?_⟩
  obtain ⟨la, lb⟩ := joinIV_len x y z
  generalize ha : (joinIV x y z).1 = a at la lb
  generalize hb : (joinIV x y z).2 = b
  simp (config := {maxSteps := 1000000}) (disch := omega) only [go_sem, ↓reduceIte, Nat.reduceEqDiff, Nat.reduceAdd, Nat.reduceMul, Nat.reduceSub, Nat.reduceLeDiff, Nat.reduceLT, Int.reduceToNat, Int.reduceLE, Int.reduceLT, Int.reduceNeg, h_szInner, mSzInner, h_toInner, mToInner, h_JoinInnerS, mJoinInner, h_JoinInnerI, mJoinInner, h_eqInner, mEqInner, h_markInner, mMarkIntS, h_heldInner, mHeldInner, drP_n, drP_c, logAt_n, logAt_c, disP_n, disP_c, notIn_n, notIn_c]
  by_cases h1 : 1048576 < (x.keys.length : Int)
  · simp (config := {maxSteps := 1000000}) (disch := omega) only [go_sem, ↓reduceIte, Nat.reduceEqDiff, Nat.reduceAdd, Nat.reduceMul, Nat.reduceSub, Nat.reduceLeDiff, Nat.reduceLT, Int.reduceToNat, Int.reduceLE, Int.reduceLT, Int.reduceNeg, h_szInner, mSzInner, h_toInner, mToInner, h_JoinInnerS, mJoinInner, h_JoinInnerI, mJoinInner, h_eqInner, mEqInner, h_markInner, mMarkIntS, h_heldInner, mHeldInner, drP_n, drP_c, logAt_n, logAt_c, disP_n, disP_c, notIn_n, notIn_c, h1, szI]
  · by_cases h2 : 1048576 - (x.keys.length : Int) < (x.kids.length : Int)
    · simp (config := {maxSteps := 1000000}) (disch := omega) only [go_sem, ↓reduceIte, Nat.reduceEqDiff, Nat.reduceAdd, Nat.reduceMul, Nat.reduceSub, Nat.reduceLeDiff, Nat.reduceLT, Int.reduceToNat, Int.reduceLE, Int.reduceLT, Int.reduceNeg, h_szInner, mSzInner, h_toInner, mToInner, h_JoinInnerS, mJoinInner, h_JoinInnerI, mJoinInner, h_eqInner, mEqInner, h_markInner, mMarkIntS, h_heldInner, mHeldInner, drP_n, drP_c, logAt_n, logAt_c, disP_n, disP_c, notIn_n, notIn_c, h1, h2, szI]
    · have e : ¬ (1048576 - (x.keys.length : Int) - (x.kids.length : Int)) < 0 := by omega
      by_cases h3 : 1048576 - (x.keys.length : Int) - (x.kids.length : Int) < (z.keys.length : Int)
      · simp (config := {maxSteps := 1000000}) (disch := omega) only [go_sem, ↓reduceIte, Nat.reduceEqDiff, Nat.reduceAdd, Nat.reduceMul, Nat.reduceSub, Nat.reduceLeDiff, Nat.reduceLT, Int.reduceToNat, Int.reduceLE, Int.reduceLT, Int.reduceNeg, h_szInner, mSzInner, h_toInner, mToInner, h_JoinInnerS, mJoinInner, h_JoinInnerI, mJoinInner, h_eqInner, mEqInner, h_markInner, mMarkIntS, h_heldInner, mHeldInner, drP_n, drP_c, logAt_n, logAt_c, disP_n, disP_c, notIn_n, notIn_c, h1, h2, e, h3, szI]
      · by_cases h4 : 1048576 - (x.keys.length : Int) - (x.kids.length : Int) - (z.keys.length : Int) < (z.kids.length : Int)
        · simp (config := {maxSteps := 1000000}) (disch := omega) only [go_sem, ↓reduceIte, Nat.reduceEqDiff, Nat.reduceAdd, Nat.reduceMul, Nat.reduceSub, Nat.reduceLeDiff, Nat.reduceLT, Int.reduceToNat, Int.reduceLE, Int.reduceLT, Int.reduceNeg, h_szInner, mSzInner, h_toInner, mToInner, h_JoinInnerS, mJoinInner, h_JoinInnerI, mJoinInner, h_eqInner, mEqInner, h_markInner, mMarkIntS, h_heldInner, mHeldInner, drP_n, drP_c, logAt_n, logAt_c, disP_n, disP_c, notIn_n, notIn_c, h1, h2, e, h3, h4, szI]
        · have e' : ¬ (1048576 - (x.keys.length : Int) - (x.kids.length : Int) - (z.keys.length : Int) - (z.kids.length : Int)) < 0 := by omega
          have e1 : decide (1 + (x.keys.length : Int) + (x.kids.length : Int) + (z.keys.length : Int) + (z.kids.length : Int) < 0) = false := decide_eq_false (by omega)
          have e2 : decide (1 + (a.keys.length : Int) + (a.kids.length : Int) < 0) = false := decide_eq_false (by omega)
          have m0 := marks_len a.keys.length 1
          have m1 := marks_len a.kids.length (1 + a.keys.length)
          simp (config := {maxSteps := 1000000}) (disch := omega) only [go_sem, ↓reduceIte, Nat.reduceEqDiff, Nat.reduceAdd, Nat.reduceMul, Nat.reduceSub, Nat.reduceLeDiff, Nat.reduceLT, Int.reduceToNat, Int.reduceLE, Int.reduceLT, Int.reduceNeg, h_szInner, mSzInner, h_toInner, mToInner, h_JoinInnerS, mJoinInner, h_JoinInnerI, mJoinInner, h_eqInner, mEqInner, h_markInner, mMarkIntS, h_heldInner, mHeldInner, drP_n, drP_c, logAt_n, logAt_c, disP_n, disP_c, notIn_n, notIn_c, h1, h2, szI, e, h3, h4, e', ha, hb, e1, e2, marks_len, List.length_map, sub_marks, mkI]
theorem fo_FnExactJoinInner : FnOk Try.prog 7 := fnOk_of Try.func7 (by kernel_rfl)
theorem c_FnExactJoinInner : Contract Try.prog 7 mLawInn3 :=
  contract_of_does (DT := fun id => match id with | 8 => [(1, 3), (9, 0), (1, 9), (9, 1), (9, 3), (4, 9), (9, 4), (5, 9), (9, 5)] | 14 => [(2, 0)] | 16 => [(2, 0)] | 31 => [(1, 3), (9, 0), (1, 9), (9, 1), (9, 3), (4, 9), (9, 4), (5, 9), (9, 5)] | _ => []) Try.checked.mixed tabOk (gok_model fo_szInner c_szInner (gok_model fo_toInner c_toInner (gok_model fo_JoinInnerS c_JoinInnerS (gok_model fo_JoinInnerI c_JoinInnerI (gok_model fo_eqInner c_eqInner (gok_each fo_markInner c_markInner (gok_model fo_heldInner c_heldInner gok_nil))))))) Try.func7 rfl (by kernel_rfl) (does_FnExactJoinInner rfl rfl rfl rfl rfl rfl rfl)

theorem fn_FnExactJoinInner (x : Inn) (h : ((∀ y ∈ x.keys, intWf .i64 y) ∧ x.keys.length ≤ maxLen) ∧ (∀ y ∈ x.kids, intWf .i64 y) ∧ x.kids.length ≤ maxLen) (k : Int) (hk : intWf .i64 k) (y : Inn) (h' : ((∀ z ∈ y.keys, intWf .i64 z) ∧ y.keys.length ≤ maxLen) ∧ (∀ z ∈ y.kids, intWf .i64 z) ∧ y.kids.length ≤ maxLen) : mLawInn3.fn [eInn false x, eI k, eInn false y] = some (.b true, []) := by
  have h2 : x.keys.length ≤ 9223372036854775807 := h.1.2
  have h3 : x.kids.length ≤ 9223372036854775807 := h.2.2
  have h4 : y.keys.length ≤ 9223372036854775807 := h'.1.2
  have h5 : y.kids.length ≤ 9223372036854775807 := h'.2.2
  simp (config := {maxSteps := 1000000}) (disch := omega) only [go_sem, ↓reduceIte, Nat.reduceEqDiff, Nat.reduceAdd, Nat.reduceMul, Nat.reduceSub, Nat.reduceLeDiff, Nat.reduceLT, Int.reduceToNat, Int.reduceLE, Int.reduceLT, Int.reduceNeg, mLawInn3]
end Go.TM
