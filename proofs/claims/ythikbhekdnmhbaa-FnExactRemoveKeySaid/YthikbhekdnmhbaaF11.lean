/- Contracts, 11: laws about loaded trees' pages and about valid keys. -/
import Derived.Test.YthikbhekdnmhbaaF10
namespace Go.TM
open Go.Proofs
set_option linter.unusedVariables false
set_option linter.unusedSimpArgs false
set_option maxRecDepth 100000

/-- How many leaves; how many pages. -/
def mxL (n : Int) : Int := if (n + 4 - 1) / 4 > 1 then (n + 4 - 1) / 4 else 1
def cntL (n : Int) : Int := if n < 0 then -1 else if 24 < n then -1 else if mxL n = 1 then 1 else if mxL n ≤ 5 then mxL n + 1 else mxL n + 3
theorem tdiv4 {x : Int} (h : 0 ≤ x) : x.tdiv 4 = x / 4 := Int.tdiv_eq_ediv_of_nonneg h
theorem mxL_1 (n : Int) : 1 ≤ mxL n := by unfold mxL; split <;> omega
theorem mxL_le {n : Int} (h : n ≤ 1000) : mxL n ≤ 1000 := by unfold mxL; split <;> omega

def mLeaves : Model := M1 .ro true cI fun n => gd (0 ≤ n ∧ n ≤ 1000) (eI (mxL n), [])
def mCount : Model := M1 .ro true cI fun n => some (eI (cntL n), [])

theorem does_loadedLeaves {G : Nat → Option FM}  : Does T G (fun _ => []) Try.f82 mLeaves := by
  refine does1 (rs := [.tmp 2]) rfl rfl fun n ro h => ?_
  obtain ⟨⟨h0, h1⟩, rfl⟩ := gd_some h
  refine ⟨fun _ => ⟨rfl, rfl⟩, ?_⟩
  simp (config := {maxSteps := 1000000}) (disch := omega) only [go_sem, ↓reduceIte, Nat.reduceEqDiff, Nat.reduceAdd, Nat.reduceMul, Nat.reduceSub, Nat.reduceLeDiff, Nat.reduceLT, Int.reduceToNat, Int.reduceLE, Int.reduceLT, Int.reduceNeg, tdiv4]
  rfl
theorem fo_loadedLeaves : FnOk Try.prog 82 := fnOk_of Try.func82 (by kernel_rfl)
theorem c_loadedLeaves : Contract Try.prog 82 mLeaves :=
  contract_of_does (DT := fun _ => []) Try.checked.mixed tabOk gok_nil Try.func82 rfl (by kernel_rfl) (does_loadedLeaves )


theorem does_CountLoadedI {G : Nat → Option FM} (h_loadedLeaves : G 82 = some (.model mLeaves)) : Does T G (fun _ => []) Try.f32 mCount := by
  refine does1 (rs := [.tmp 2]) rfl rfl fun n ro h => ?_
  cases h
  refine ⟨fun _ => ⟨rfl, rfl⟩, ?_⟩
  simp (config := {maxSteps := 1000000}) (disch := omega) only [go_sem, ↓reduceIte, Nat.reduceEqDiff, Nat.reduceAdd, Nat.reduceMul, Nat.reduceSub, Nat.reduceLeDiff, Nat.reduceLT, Int.reduceToNat, Int.reduceLE, Int.reduceLT, Int.reduceNeg, h_loadedLeaves, mLeaves]
  (first | refine runKS_split (fun g1 => ?_) (fun g1 => ?_) | refine cond_split (fun g1 => ?_) (fun g1 => ?_) | refine runK_split (fun g1 => ?_) (fun g1 => ?_))
  · have g1' := of_decide_eq_true g1
    simp (config := {maxSteps := 1000000}) (disch := omega) only [go_sem, ↓reduceIte, Nat.reduceEqDiff, Nat.reduceAdd, Nat.reduceMul, Nat.reduceSub, Nat.reduceLeDiff, Nat.reduceLT, Int.reduceToNat, Int.reduceLE, Int.reduceLT, Int.reduceNeg, h_loadedLeaves, mLeaves, g1]
    unfold cntL
    rw [if_pos g1']
  · have g1' := of_decide_eq_false g1
    simp (config := {maxSteps := 1000000}) (disch := omega) only [go_sem, ↓reduceIte, Nat.reduceEqDiff, Nat.reduceAdd, Nat.reduceMul, Nat.reduceSub, Nat.reduceLeDiff, Nat.reduceLT, Int.reduceToNat, Int.reduceLE, Int.reduceLT, Int.reduceNeg, h_loadedLeaves, mLeaves, g1]
    (first | refine runKS_split (fun g2 => ?_) (fun g2 => ?_) | refine cond_split (fun g2 => ?_) (fun g2 => ?_) | refine runK_split (fun g2 => ?_) (fun g2 => ?_))
    · have g2' := of_decide_eq_true g2
      simp (config := {maxSteps := 1000000}) (disch := omega) only [go_sem, ↓reduceIte, Nat.reduceEqDiff, Nat.reduceAdd, Nat.reduceMul, Nat.reduceSub, Nat.reduceLeDiff, Nat.reduceLT, Int.reduceToNat, Int.reduceLE, Int.reduceLT, Int.reduceNeg, h_loadedLeaves, mLeaves, g1, g2]
      unfold cntL
      rw [if_neg g1', if_pos g2']
    · have g2' := of_decide_eq_false g2
      have m1 := mxL_1 n
      have m2 := mxL_le (n := n) (by omega)
      simp (config := {maxSteps := 1000000}) (disch := omega) only [go_sem, ↓reduceIte, Nat.reduceEqDiff, Nat.reduceAdd, Nat.reduceMul, Nat.reduceSub, Nat.reduceLeDiff, Nat.reduceLT, Int.reduceToNat, Int.reduceLE, Int.reduceLT, Int.reduceNeg, h_loadedLeaves, mLeaves, g1, g2]
      unfold cntL
      rw [if_neg g1', if_neg g2']
      (first | refine runKS_split (fun g3 => ?_) (fun g3 => ?_) | refine cond_split (fun g3 => ?_) (fun g3 => ?_) | refine runK_split (fun g3 => ?_) (fun g3 => ?_))
      · have g3' := of_decide_eq_true g3
        simp (config := {maxSteps := 1000000}) (disch := omega) only [go_sem, ↓reduceIte, Nat.reduceEqDiff, Nat.reduceAdd, Nat.reduceMul, Nat.reduceSub, Nat.reduceLeDiff, Nat.reduceLT, Int.reduceToNat, Int.reduceLE, Int.reduceLT, Int.reduceNeg, h_loadedLeaves, mLeaves, g3]
        rw [if_pos g3']
      · have g3' := of_decide_eq_false g3
        simp (config := {maxSteps := 1000000}) (disch := omega) only [go_sem, ↓reduceIte, Nat.reduceEqDiff, Nat.reduceAdd, Nat.reduceMul, Nat.reduceSub, Nat.reduceLeDiff, Nat.reduceLT, Int.reduceToNat, Int.reduceLE, Int.reduceLT, Int.reduceNeg, h_loadedLeaves, mLeaves, g3]
        rw [if_neg g3']
        (first | refine runKS_split (fun g4 => ?_) (fun g4 => ?_) | refine cond_split (fun g4 => ?_) (fun g4 => ?_) | refine runK_split (fun g4 => ?_) (fun g4 => ?_))
        · have g4' := of_decide_eq_true g4
          simp (config := {maxSteps := 1000000}) (disch := omega) only [go_sem, ↓reduceIte, Nat.reduceEqDiff, Nat.reduceAdd, Nat.reduceMul, Nat.reduceSub, Nat.reduceLeDiff, Nat.reduceLT, Int.reduceToNat, Int.reduceLE, Int.reduceLT, Int.reduceNeg, h_loadedLeaves, mLeaves, g4]
          rw [if_pos g4']
        · have g4' := of_decide_eq_false g4
          simp (config := {maxSteps := 1000000}) (disch := omega) only [go_sem, ↓reduceIte, Nat.reduceEqDiff, Nat.reduceAdd, Nat.reduceMul, Nat.reduceSub, Nat.reduceLeDiff, Nat.reduceLT, Int.reduceToNat, Int.reduceLE, Int.reduceLT, Int.reduceNeg, h_loadedLeaves, mLeaves, g4]
          rw [if_neg g4']
theorem fo_CountLoadedI : FnOk Try.prog 32 := fnOk_of Try.func32 (by kernel_rfl)
theorem c_CountLoadedI : Contract Try.prog 32 mCount :=
  contract_of_does (DT := fun _ => []) Try.checked.mixed tabOk (gok_model fo_loadedLeaves c_loadedLeaves gok_nil) Try.func32 rfl (by kernel_rfl) (does_CountLoadedI rfl)


theorem does_CountLoadedS {G : Nat → Option FM} (h_inRange : G 83 = some (.model mInRange)) (h_toInt : G 84 = some (.model mToInt)) : Does T G (fun _ => []) Try.f33 mCount := by
  refine does1 (rs := [.tmp 2]) rfl rfl fun n ro h => ?_
  cases h
  refine ⟨fun _ => ⟨rfl, rfl⟩, ?_⟩
  simp (config := {maxSteps := 1000000}) (disch := omega) only [go_sem, ↓reduceIte, Nat.reduceEqDiff, Nat.reduceAdd, Nat.reduceMul, Nat.reduceSub, Nat.reduceLeDiff, Nat.reduceLT, Int.reduceToNat, Int.reduceLE, Int.reduceLT, Int.reduceNeg, h_inRange, mInRange, h_toInt, mToInt]
  (first | refine runKS_split (fun g1 => ?_) (fun g1 => ?_) | refine cond_split (fun g1 => ?_) (fun g1 => ?_) | refine runK_split (fun g1 => ?_) (fun g1 => ?_))
  · simp (config := {maxSteps := 1000000}) (disch := omega) only [go_sem, ↓reduceIte, Nat.reduceEqDiff, Nat.reduceAdd, Nat.reduceMul, Nat.reduceSub, Nat.reduceLeDiff, Nat.reduceLT, Int.reduceToNat, Int.reduceLE, Int.reduceLT, Int.reduceNeg, h_inRange, mInRange, h_toInt, mToInt, g1]
    unfold cntL
    simp only [inR, Bool.not_eq_true', Bool.and_eq_false_iff, decide_eq_false_iff_not] at g1
    split
    · rfl
    · rw [if_pos (by omega)]
  · simp only [inR, Bool.not_eq_false', Bool.and_eq_true, decide_eq_true_eq] at g1
    have m1 := mxL_1 n
    have m2 := mxL_le (n := n) (by omega)
    have e : (if (n + 4 - 1) / 4 > 1 then (n + 4 - 1) / 4 else 1) = mxL n := rfl
    by_cases c1 : 1 < mxL n
    · by_cases c2 : 5 < mxL n
      · have hc : cntL n = mxL n + 3 := by unfold cntL; rw [if_neg (by omega), if_neg (by omega), if_neg (by omega), if_neg (by omega)]
        rw [hc]
        simp (config := {maxSteps := 1000000}) (disch := omega) only [go_sem, ↓reduceIte, Nat.reduceEqDiff, Nat.reduceAdd, Nat.reduceMul, Nat.reduceSub, Nat.reduceLeDiff, Nat.reduceLT, Int.reduceToNat, Int.reduceLE, Int.reduceLT, Int.reduceNeg, h_inRange, mInRange, h_toInt, mToInt, tdiv4, e, c1, c2]
        rw [show mxL n + 1 + 2 * 1 = mxL n + 3 from by omega]
      · have hc : cntL n = mxL n + 1 := by unfold cntL; rw [if_neg (by omega), if_neg (by omega), if_neg (by omega), if_pos (by omega)]
        rw [hc]
        simp (config := {maxSteps := 1000000}) (disch := omega) only [go_sem, ↓reduceIte, Nat.reduceEqDiff, Nat.reduceAdd, Nat.reduceMul, Nat.reduceSub, Nat.reduceLeDiff, Nat.reduceLT, Int.reduceToNat, Int.reduceLE, Int.reduceLT, Int.reduceNeg, h_inRange, mInRange, h_toInt, mToInt, tdiv4, e, c1, c2]
        simp
    · have c2 : ¬ 5 < mxL n := by omega
      have hc : cntL n = 1 := by unfold cntL; rw [if_neg (by omega), if_neg (by omega), if_pos (by omega)]
      have c3 : mxL n = 1 := by omega
      rw [hc]
      simp (config := {maxSteps := 1000000}) (disch := omega) only [go_sem, ↓reduceIte, Nat.reduceEqDiff, Nat.reduceAdd, Nat.reduceMul, Nat.reduceSub, Nat.reduceLeDiff, Nat.reduceLT, Int.reduceToNat, Int.reduceLE, Int.reduceLT, Int.reduceNeg, h_inRange, mInRange, h_toInt, mToInt, tdiv4, e, c1, c2]
      simp [c3]
theorem fo_CountLoadedS : FnOk Try.prog 33 := fnOk_of Try.func33 (by kernel_rfl)
theorem c_CountLoadedS : Contract Try.prog 33 mCount :=
  contract_of_does (DT := fun _ => []) Try.checked.mixed tabOk (gok_model fo_inRange c_inRange (gok_model fo_toInt c_toInt gok_nil)) Try.func33 rfl (by kernel_rfl) (does_CountLoadedS rfl rfl)


noncomputable def mDrawCount : Model := M1 .ro false (cS false c8) fun bs => gd (bs.length ≤ 1099511627776 ∧ Bs (bs.take 2000)) (eI (pickV (bs.take 2000) 0 27 - 1), [])

theorem does_DrawCountLoaded {G : Nat → Option FM} (h_newReader : G 80 = some (.model mNewReader)) (h_pick : G 81 = some (.model mPick)) : Does T G (fun _ => []) Try.f31 mDrawCount := by
  refine does1 (rs := [.tmp 2]) rfl rfl fun bs ro h => ?_
  obtain ⟨⟨hl, hB⟩, rfl⟩ := gd_some h
  have a1 := pickV_nn hB (p := 0) (by omega) (by omega) (n := 27)
  have a2 := pickV_lt hB (p := 0) (n := 27) (by omega)
  refine ⟨fun hc => (by cases hc), ?_⟩
  simp (config := {maxSteps := 1000000}) (disch := omega) only [go_sem, ↓reduceIte, Nat.reduceEqDiff, Nat.reduceAdd, Nat.reduceMul, Nat.reduceSub, Nat.reduceLeDiff, Nat.reduceLT, Int.reduceToNat, Int.reduceLE, Int.reduceLT, Int.reduceNeg, h_newReader, mNewReader, h_pick, mPick, hB]
theorem fo_DrawCountLoaded : FnOk Try.prog 31 := fnOk_of Try.func31 (by kernel_rfl)
theorem c_DrawCountLoaded : Contract Try.prog 31 mDrawCount :=
  contract_of_does (DT := fun _ => []) Try.checked.mixed tabOk (gok_model fo_newReader c_newReader (gok_model fo_pick c_pick gok_nil)) Try.func31 rfl (by kernel_rfl) (does_DrawCountLoaded rfl rfl)

theorem cntL_facts {n : Int} (h0 : 0 ≤ n) (h1 : n ≤ 23) : 0 ≤ cntL n ∧ cntL n ≤ cntL (n + 1) ∧ cntL (n + 1) ≤ cntL n + 3 ∧ (cntL n = 1 ↔ n ≤ 4) ∧ cntL n < 16 := by
  have key : ∀ k : Fin 24, 0 ≤ cntL (k.val : Int) ∧ cntL (k.val : Int) ≤ cntL ((k.val : Int) + 1) ∧ cntL ((k.val : Int) + 1) ≤ cntL (k.val : Int) + 3 ∧ (cntL (k.val : Int) = 1 ↔ (k.val : Int) ≤ 4) ∧ cntL (k.val : Int) < 16 := by decide
  have := key ⟨n.toNat, by omega⟩
  simp only at this
  rwa [show ((n.toNat : Nat) : Int) = n from by omega] at this
theorem cntL_big {n : Int} (h : n < 0 ∨ 24 < n) : cntL n = -1 := by
  unfold cntL
  split
  · rfl
  · rw [if_pos (by omega)]
theorem cntL_leaves {n : Int} (h0 : 0 ≤ n) (h1 : n ≤ 24) : 0 ≤ cntL n ∧ mxL n ≤ cntL n ∧ cntL n ≤ mxL n + 3 := by
  have m := mxL_1 n
  unfold cntL
  rw [if_neg (by omega), if_neg (by omega)]
  split
  · omega
  · split <;> omega

theorem does_FnCountLoaded {G : Nat → Option FM} (h_DrawCountLoaded : G 31 = some (.model mDrawCount)) (h_CountLoadedI : G 32 = some (.model mCount)) (h_CountLoadedS : G 33 = some (.model mCount)) : Does T G (fun _ => []) Try.f4 mLawB := by
  refine does1 (rs := [.tmp 2]) rfl rfl fun bs ro h => ?_
  obtain ⟨⟨h8, hl⟩, rfl⟩ := gd_some h
  have hB := bs_take h8
  obtain ⟨n, hn⟩ : ∃ n, n = pickV (bs.take 2000) 0 27 - 1 := ⟨_, rfl⟩
  have a1 := pickV_nn hB (p := 0) (by omega) (by omega) (n := 27)
  have a2 := pickV_lt hB (p := 0) (n := 27) (by omega)
  refine ⟨fun _ => ⟨rfl, rfl⟩, ?_⟩
  simp (config := {maxSteps := 1000000}) (disch := omega) only [go_sem, ↓reduceIte, Nat.reduceEqDiff, Nat.reduceAdd, Nat.reduceMul, Nat.reduceSub, Nat.reduceLeDiff, Nat.reduceLT, Int.reduceToNat, Int.reduceLE, Int.reduceLT, Int.reduceNeg, h_DrawCountLoaded, mDrawCount, h_CountLoadedI, mCount, h_CountLoadedS, mCount]
  (first | refine runKS_split (fun g => ?_) (fun g => ?_) | refine cond_split (fun g => ?_) (fun g => ?_) | refine runK_split (fun g => ?_) (fun g => ?_))
  · simp (config := {maxSteps := 1000000}) (disch := omega) only [go_sem, ↓reduceIte, Nat.reduceEqDiff, Nat.reduceAdd, Nat.reduceMul, Nat.reduceSub, Nat.reduceLeDiff, Nat.reduceLT, Int.reduceToNat, Int.reduceLE, Int.reduceLT, Int.reduceNeg, h_DrawCountLoaded, mDrawCount, h_CountLoadedI, mCount, h_CountLoadedS, mCount]
  · have g' := of_decide_eq_false g
    by_cases hb : n < 0 ∨ 24 < n
    · simp (config := {maxSteps := 1000000}) (disch := omega) only [go_sem, ↓reduceIte, Nat.reduceEqDiff, Nat.reduceAdd, Nat.reduceMul, Nat.reduceSub, Nat.reduceLeDiff, Nat.reduceLT, Int.reduceToNat, Int.reduceLE, Int.reduceLT, Int.reduceNeg, h_DrawCountLoaded, mDrawCount, h_CountLoadedI, mCount, h_CountLoadedS, mCount, g, hB, ← hn, cntL_big hb]
    · by_cases h24 : n = 24
      · have e1 : decide (n = 24) = true := decide_eq_true h24
        have e0 : decide (cntL n < 0) = false := decide_eq_false (by rw [h24]; decide)
        simp (config := {maxSteps := 1000000}) (disch := omega) only [go_sem, ↓reduceIte, Nat.reduceEqDiff, Nat.reduceAdd, Nat.reduceMul, Nat.reduceSub, Nat.reduceLeDiff, Nat.reduceLT, Int.reduceToNat, Int.reduceLE, Int.reduceLT, Int.reduceNeg, h_DrawCountLoaded, mDrawCount, h_CountLoadedI, mCount, h_CountLoadedS, mCount, g, hB, ← hn, e0, e1]
      · obtain ⟨f0, f1, f2, f3, f4⟩ := cntL_facts (n := n) (by omega) (by omega)
        have e0 : decide (cntL n < 0) = false := decide_eq_false (by omega)
        have e1 : decide (n = 24) = false := decide_eq_false h24
        have e2 : decide (cntL n ≤ cntL (n + 1)) = true := decide_eq_true f1
        have e3 : decide (cntL (n + 1) ≤ cntL n + 3) = true := decide_eq_true f2
        have e4 : (decide (cntL n = 1) == decide (n ≤ 4)) = true := by rw [decide_eq_decide.2 f3]; exact beq_self_eq_true _
        have e5 : decide (cntL n < 16) = true := decide_eq_true f4
        simp (config := {maxSteps := 1000000}) (disch := omega) only [go_sem, ↓reduceIte, Nat.reduceEqDiff, Nat.reduceAdd, Nat.reduceMul, Nat.reduceSub, Nat.reduceLeDiff, Nat.reduceLT, Int.reduceToNat, Int.reduceLE, Int.reduceLT, Int.reduceNeg, h_DrawCountLoaded, mDrawCount, h_CountLoadedI, mCount, h_CountLoadedS, mCount, g, hB, ← hn, e0, e1, e2, e3, e4, e5]
theorem fo_FnCountLoaded : FnOk Try.prog 4 := fnOk_of Try.func4 (by kernel_rfl)
theorem c_FnCountLoaded : Contract Try.prog 4 mLawB :=
  contract_of_does (DT := fun _ => []) Try.checked.mixed tabOk (gok_model fo_DrawCountLoaded c_DrawCountLoaded (gok_model fo_CountLoadedI c_CountLoadedI (gok_model fo_CountLoadedS c_CountLoadedS gok_nil))) Try.func4 rfl (by kernel_rfl) (does_FnCountLoaded rfl rfl rfl)

theorem fn_FnCountLoaded (x : List Int) (h : (∀ y ∈ x, intWf .u8 y) ∧ x.length ≤ maxLen) : mLawB.fn [eBs false x] = some (.b true, []) := by
  have h1 : Bytes x := h.1
  have h2 : x.length ≤ 9223372036854775807 := h.2
  simp (config := {maxSteps := 1000000}) (disch := omega) only [go_sem, ↓reduceIte, Nat.reduceEqDiff, Nat.reduceAdd, Nat.reduceMul, Nat.reduceSub, Nat.reduceLeDiff, Nat.reduceLT, Int.reduceToNat, Int.reduceLE, Int.reduceLT, Int.reduceNeg, mLawB, h1]

theorem does_FnCountLoadedLeaves {G : Nat → Option FM} (h_DrawCountLoaded : G 31 = some (.model mDrawCount)) (h_CountLoadedI : G 32 = some (.model mCount)) (h_CountLoadedS : G 33 = some (.model mCount)) : Does T G (fun _ => []) Try.f5 mLawB := by
  refine does1 (rs := [.tmp 2]) rfl rfl fun bs ro h => ?_
  obtain ⟨⟨h8, hl⟩, rfl⟩ := gd_some h
  have hB := bs_take h8
  obtain ⟨n, hn⟩ : ∃ n, n = pickV (bs.take 2000) 0 27 - 1 := ⟨_, rfl⟩
  have a1 := pickV_nn hB (p := 0) (by omega) (by omega) (n := 27)
  have a2 := pickV_lt hB (p := 0) (n := 27) (by omega)
  refine ⟨fun _ => ⟨rfl, rfl⟩, ?_⟩
  simp (config := {maxSteps := 1000000}) (disch := omega) only [go_sem, ↓reduceIte, Nat.reduceEqDiff, Nat.reduceAdd, Nat.reduceMul, Nat.reduceSub, Nat.reduceLeDiff, Nat.reduceLT, Int.reduceToNat, Int.reduceLE, Int.reduceLT, Int.reduceNeg, h_DrawCountLoaded, mDrawCount, h_CountLoadedI, mCount, h_CountLoadedS, mCount]
  (first | refine runKS_split (fun g => ?_) (fun g => ?_) | refine cond_split (fun g => ?_) (fun g => ?_) | refine runK_split (fun g => ?_) (fun g => ?_))
  · simp (config := {maxSteps := 1000000}) (disch := omega) only [go_sem, ↓reduceIte, Nat.reduceEqDiff, Nat.reduceAdd, Nat.reduceMul, Nat.reduceSub, Nat.reduceLeDiff, Nat.reduceLT, Int.reduceToNat, Int.reduceLE, Int.reduceLT, Int.reduceNeg, h_DrawCountLoaded, mDrawCount, h_CountLoadedI, mCount, h_CountLoadedS, mCount]
  · have g' := of_decide_eq_false g
    by_cases hb : n < 0 ∨ 24 < n
    · simp (config := {maxSteps := 1000000}) (disch := omega) only [go_sem, ↓reduceIte, Nat.reduceEqDiff, Nat.reduceAdd, Nat.reduceMul, Nat.reduceSub, Nat.reduceLeDiff, Nat.reduceLT, Int.reduceToNat, Int.reduceLE, Int.reduceLT, Int.reduceNeg, h_DrawCountLoaded, mDrawCount, h_CountLoadedI, mCount, h_CountLoadedS, mCount, g, hB, ← hn, cntL_big hb]
    · obtain ⟨f0, f1, f2⟩ := cntL_leaves (n := n) (by omega) (by omega)
      have m1 := mxL_1 n
      have m2 := mxL_le (n := n) (by omega)
      have e : (if (n + 4 - 1) / 4 > 1 then (n + 4 - 1) / 4 else 1) = mxL n := rfl
      have e0 : decide (cntL n < 0) = false := decide_eq_false (by omega)
      have e2 : decide (mxL n ≤ cntL n) = true := decide_eq_true f1
      have e3 : decide (cntL n ≤ mxL n + 3) = true := decide_eq_true f2
      simp (config := {maxSteps := 1000000}) (disch := omega) only [go_sem, ↓reduceIte, Nat.reduceEqDiff, Nat.reduceAdd, Nat.reduceMul, Nat.reduceSub, Nat.reduceLeDiff, Nat.reduceLT, Int.reduceToNat, Int.reduceLE, Int.reduceLT, Int.reduceNeg, h_DrawCountLoaded, mDrawCount, h_CountLoadedI, mCount, h_CountLoadedS, mCount, g, hB, ← hn, e0, e2, e3, tdiv4, e]
theorem fo_FnCountLoadedLeaves : FnOk Try.prog 5 := fnOk_of Try.func5 (by kernel_rfl)
theorem c_FnCountLoadedLeaves : Contract Try.prog 5 mLawB :=
  contract_of_does (DT := fun _ => []) Try.checked.mixed tabOk (gok_model fo_DrawCountLoaded c_DrawCountLoaded (gok_model fo_CountLoadedI c_CountLoadedI (gok_model fo_CountLoadedS c_CountLoadedS gok_nil))) Try.func5 rfl (by kernel_rfl) (does_FnCountLoadedLeaves rfl rfl rfl)

theorem fn_FnCountLoadedLeaves (x : List Int) (h : (∀ y ∈ x, intWf .u8 y) ∧ x.length ≤ maxLen) : mLawB.fn [eBs false x] = some (.b true, []) := by
  have h1 : Bytes x := h.1
  have h2 : x.length ≤ 9223372036854775807 := h.2
  simp (config := {maxSteps := 1000000}) (disch := omega) only [go_sem, ↓reduceIte, Nat.reduceEqDiff, Nat.reduceAdd, Nat.reduceMul, Nat.reduceSub, Nat.reduceLeDiff, Nat.reduceLT, Int.reduceToNat, Int.reduceLE, Int.reduceLT, Int.reduceNeg, mLawB, h1]

theorem vk_small {xs : List Int} (h : vk xs = true) : ∀ i, i < xs.length → 0 ≤ xs.getD i 0 ∧ xs.getD i 0 ≤ 99 := (vk_iff.1 h).2

theorem getD_app {xs ys : List Int} (i : Nat) : (xs ++ ys).getD i 0 = if i < xs.length then xs.getD i 0 else ys.getD (i - xs.length) 0 := by
  split
  · rename_i h
    simp [List.getElem?_append_left h]
  · rename_i h
    simp [List.getElem?_append_right (Nat.le_of_not_lt h)]
theorem getD_take {xs : List Int} {k i : Nat} (h : i < k) : (xs.take k).getD i 0 = xs.getD i 0 := by simp [List.getElem?_take, h]
theorem getD_drop (xs : List Int) (k i : Nat) : (xs.drop k).getD i 0 = xs.getD (k + i) 0 := by simp [List.getElem?_drop]

theorem vk_cut {xs : List Int} (h : vk xs = true) {k : Nat} (hk : k < xs.length) : vk (xs.take k ++ xs.drop (k + 1)) = true := by
  have hv := vk_iff.1 h
  have hl : (xs.take k).length = k := by rw [List.length_take]; omega
  have hg : ∀ i, (xs.take k ++ xs.drop (k + 1)).getD i 0 = xs.getD (if i < k then i else i + 1) 0 := by
    intro i
    rw [getD_app, hl]
    split
    · rename_i hi
      rw [getD_take hi]
    · rename_i hi
      rw [getD_drop]
      congr 1
      omega
  have hlen : (xs.take k ++ xs.drop (k + 1)).length = xs.length - 1 := by rw [List.length_append, hl, List.length_drop]; omega
  rw [vk_iff]
  refine ⟨fun i hi => ?_, fun i hi => ?_⟩
  · rw [hlen] at hi
    rw [hg, hg]
    split
    · rename_i h1
      split
      · exact hv.1 i (by omega)
      · rename_i h2
        have e1 := hv.1 i (by omega)
        have e2 := hv.1 (i + 1) (by omega)
        omega
    · rename_i h1
      rw [if_neg (by omega)]
      exact hv.1 (i + 1) (by omega)
  · rw [hlen] at hi
    rw [hg]
    exact hv.2 _ (by split <;> omega)

theorem vk_nil : vk [] = true := vk_iff.2 ⟨fun i hi => by simp at hi, fun i hi => by simp at hi⟩
theorem vk_twice (a : Int) : vk [a, a] = false := vk_f fun h => by
  have := h.1 0 (by simp)
  simp at this

theorem vk_move {xs : List Int} (h : vk xs = true) (hl : xs.length ≠ 0) (h9 : xs.getD (xs.length - 1) 0 ≠ 99) : vk (xs.map (· + 1)) = true := by
  have hv := vk_iff.1 h
  have hg : ∀ i, i < xs.length → (xs.map (· + 1)).getD i 0 = xs.getD i 0 + 1 := by
    intro i hi
    simp [hi]
  rw [vk_iff]
  refine ⟨fun i hi => ?_, fun i hi => ?_⟩
  · rw [List.length_map] at hi
    rw [hg _ (by omega), hg _ hi]
    have := hv.1 i hi
    omega
  · rw [List.length_map] at hi
    rw [hg _ hi]
    have e1 := hv.2 i hi
    have e2 := vk_mono' hv (show i ≤ xs.length - 1 by omega) (by omega)
    have e3 := hv.2 (xs.length - 1) (by omega)
    omega

theorem take_step {xs : List Int} {k : Nat} (h : k < xs.length) : xs.take (k + 1) = xs.take k ++ [xs.getD k 0] := by
  rw [List.take_add_one]
  simp [h]
theorem normL_i (k : IntKind) (a : Int) (cs : List A) : normL (.i k a :: cs) = .i k a :: normL cs := rfl
attribute [go_sem] normL_i
theorem take_take_I (xs : List Int) (k : Nat) : ((xs.take k).map eI).take k = (xs.take k).map eI := by rw [← List.map_take, List.take_take, Nat.min_self]
theorem sub_rest (xs : List Int) (k : Nat) : sub xs k (xs.length - k) = xs.drop k := by
  unfold sub
  exact List.take_of_length_le (by rw [List.length_drop]; omega)
theorem toNat_k1 (k : Nat) : ((k : Int) + 1).toNat = k + 1 := by omega

theorem does_FnValidKeys {G : Nat → Option FM} (h_DrawValidKeys : G 43 = some (.model mDrawKeys)) (h_ValidKeysI : G 29 = some (.model mValidKeys)) (h_ValidKeysS : G 27 = some (.model mValidKeys)) : Does T G (fun id => match id with | 8 => [] | _ => []) Try.f9 mLawB := by
  refine does1 (rs := [.tmp 2]) rfl rfl fun bs ro h => ?_
  obtain ⟨⟨h8, hl⟩, rfl⟩ := gd_some h
  have hB := bs_take h8
  obtain ⟨b1, b2, b3, b4⟩ := draw_bd hB
  refine ⟨fun _ => ⟨rfl, rfl⟩, ?_⟩
  simp (config := {maxSteps := 1000000}) (disch := omega) only [go_sem, ↓reduceIte, Nat.reduceEqDiff, Nat.reduceAdd, Nat.reduceMul, Nat.reduceSub, Nat.reduceLeDiff, Nat.reduceLT, Int.reduceToNat, Int.reduceLE, Int.reduceLT, Int.reduceNeg, h_DrawValidKeys, mDrawKeys, h_ValidKeysI, mValidKeys, h_ValidKeysS, mValidKeys]
  (first | refine runKS_split (fun g => ?_) (fun g => ?_) | refine cond_split (fun g => ?_) (fun g => ?_) | refine runK_split (fun g => ?_) (fun g => ?_))
  · simp (config := {maxSteps := 1000000}) (disch := omega) only [go_sem, ↓reduceIte, Nat.reduceEqDiff, Nat.reduceAdd, Nat.reduceMul, Nat.reduceSub, Nat.reduceLeDiff, Nat.reduceLT, Int.reduceToNat, Int.reduceLE, Int.reduceLT, Int.reduceNeg, h_DrawValidKeys, mDrawKeys, h_ValidKeysI, mValidKeys, h_ValidKeysS, mValidKeys]
  · have g' := of_decide_eq_false g
    cases hv : vk (drawY bs)
    · simp (config := {maxSteps := 1000000}) (disch := omega) only [go_sem, ↓reduceIte, Nat.reduceEqDiff, Nat.reduceAdd, Nat.reduceMul, Nat.reduceSub, Nat.reduceLeDiff, Nat.reduceLT, Int.reduceToNat, Int.reduceLE, Int.reduceLT, Int.reduceNeg, h_DrawValidKeys, mDrawKeys, h_ValidKeysI, mValidKeys, h_ValidKeysS, mValidKeys, g, hB, hv]
      rfl
    · by_cases he : (drawY bs).length = 0
      · have e0 : decide (((drawY bs).length : Int) = 0) = true := decide_eq_true (by omega)
        simp (config := {maxSteps := 1000000}) (disch := omega) only [go_sem, ↓reduceIte, Nat.reduceEqDiff, Nat.reduceAdd, Nat.reduceMul, Nat.reduceSub, Nat.reduceLeDiff, Nat.reduceLT, Int.reduceToNat, Int.reduceLE, Int.reduceLT, Int.reduceNeg, h_DrawValidKeys, mDrawKeys, h_ValidKeysI, mValidKeys, h_ValidKeysS, mValidKeys, g, hB, hv, e0]
        rfl
      · have e0 : decide (((drawY bs).length : Int) = 0) = false := decide_eq_false (by omega)
        obtain ⟨k, hk⟩ : ∃ k, k = bs.length % (drawY bs).length := ⟨_, rfl⟩
        have hk1 : k < (drawY bs).length := by rw [hk]; exact Nat.mod_lt _ (by omega)
        have e1 : (bs.length : Int).tmod ((drawY bs).length : Int) = (k : Int) := by rw [hk]; rfl
        have hc := vk_cut hv hk1
        have hL : ((drawY bs).take k ++ (drawY bs).drop (k + 1)).length = k + ((drawY bs).length - (k + 1)) := by rw [List.length_append, List.length_take, List.length_drop]; omega
        have hT : ((drawY bs).take k ++ (drawY bs).drop (k + 1)).take (k + ((drawY bs).length - (k + 1))) = (drawY bs).take k ++ (drawY bs).drop (k + 1) := List.take_of_length_le (by omega)
        simp (config := {maxSteps := 1000000}) (disch := omega) only [go_sem, ↓reduceIte, Nat.reduceEqDiff, Nat.reduceAdd, Nat.reduceMul, Nat.reduceSub, Nat.reduceLeDiff, Nat.reduceLT, Int.reduceToNat, Int.reduceLE, Int.reduceLT, Int.reduceNeg, h_DrawValidKeys, mDrawKeys, h_ValidKeysI, mValidKeys, h_ValidKeysS, mValidKeys, g, hB, hv, e0, e1, Nat.sub_zero, toNat_k1, sub_zero, take_take_I, sub_rest, ← List.map_append, hT, hc, vk_nil, vk_twice]
theorem fo_FnValidKeys : FnOk Try.prog 9 := fnOk_of Try.func9 (by kernel_rfl)
theorem c_FnValidKeys : Contract Try.prog 9 mLawB :=
  contract_of_does (DT := fun id => match id with | 8 => [] | _ => []) Try.checked.mixed tabOk (gok_model fo_DrawValidKeys c_DrawValidKeys (gok_model fo_ValidKeysI c_ValidKeysI (gok_model fo_ValidKeysS c_ValidKeysS gok_nil))) Try.func9 rfl (by kernel_rfl) (does_FnValidKeys rfl rfl rfl)

theorem fn_FnValidKeys (x : List Int) (h : (∀ y ∈ x, intWf .u8 y) ∧ x.length ≤ maxLen) : mLawB.fn [eBs false x] = some (.b true, []) := by
  have h1 : Bytes x := h.1
  have h2 : x.length ≤ 9223372036854775807 := h.2
  simp (config := {maxSteps := 1000000}) (disch := omega) only [go_sem, ↓reduceIte, Nat.reduceEqDiff, Nat.reduceAdd, Nat.reduceMul, Nat.reduceSub, Nat.reduceLeDiff, Nat.reduceLT, Int.reduceToNat, Int.reduceLE, Int.reduceLT, Int.reduceNeg, mLawB, h1]

theorem does_FnValidKeysMove {G : Nat → Option FM} (h_DrawValidKeys : G 43 = some (.model mDrawKeys)) (h_ValidKeysI : G 29 = some (.model mValidKeys)) (h_ValidKeysS : G 27 = some (.model mValidKeys)) : Does T G (fun _ => []) Try.f10 mLawB := by
  refine does1 (rs := [.tmp 2]) rfl rfl fun bs ro h => ?_
  obtain ⟨⟨h8, hl⟩, rfl⟩ := gd_some h
  have hB := bs_take h8
  obtain ⟨b1, b2, b3, b4⟩ := draw_bd hB
  refine ⟨fun _ => ⟨rfl, rfl⟩, ?_⟩
  simp (config := {maxSteps := 1000000}) (disch := omega) only [go_sem, ↓reduceIte, Nat.reduceEqDiff, Nat.reduceAdd, Nat.reduceMul, Nat.reduceSub, Nat.reduceLeDiff, Nat.reduceLT, Int.reduceToNat, Int.reduceLE, Int.reduceLT, Int.reduceNeg, h_DrawValidKeys, mDrawKeys, h_ValidKeysI, mValidKeys, h_ValidKeysS, mValidKeys]
  (first | refine runKS_split (fun g => ?_) (fun g => ?_) | refine cond_split (fun g => ?_) (fun g => ?_) | refine runK_split (fun g => ?_) (fun g => ?_))
  · simp (config := {maxSteps := 1000000}) (disch := omega) only [go_sem, ↓reduceIte, Nat.reduceEqDiff, Nat.reduceAdd, Nat.reduceMul, Nat.reduceSub, Nat.reduceLeDiff, Nat.reduceLT, Int.reduceToNat, Int.reduceLE, Int.reduceLT, Int.reduceNeg, h_DrawValidKeys, mDrawKeys, h_ValidKeysI, mValidKeys, h_ValidKeysS, mValidKeys]
  · have g' := of_decide_eq_false g
    cases hv : vk (drawY bs)
    · simp (config := {maxSteps := 1000000}) (disch := omega) only [go_sem, ↓reduceIte, Nat.reduceEqDiff, Nat.reduceAdd, Nat.reduceMul, Nat.reduceSub, Nat.reduceLeDiff, Nat.reduceLT, Int.reduceToNat, Int.reduceLE, Int.reduceLT, Int.reduceNeg, h_DrawValidKeys, mDrawKeys, h_ValidKeysI, mValidKeys, h_ValidKeysS, mValidKeys, g, hB, hv]
      rfl
    · by_cases he : (drawY bs).length = 0
      · have e0 : decide (((drawY bs).length : Int) = 0) = true := decide_eq_true (by omega)
        simp (config := {maxSteps := 1000000}) (disch := omega) only [go_sem, ↓reduceIte, Nat.reduceEqDiff, Nat.reduceAdd, Nat.reduceMul, Nat.reduceSub, Nat.reduceLeDiff, Nat.reduceLT, Int.reduceToNat, Int.reduceLE, Int.reduceLT, Int.reduceNeg, h_DrawValidKeys, mDrawKeys, h_ValidKeysI, mValidKeys, h_ValidKeysS, mValidKeys, g, hB, hv, e0]
        rfl
      · have e0 : decide (((drawY bs).length : Int) = 0) = false := decide_eq_false (by omega)
        have e1 : (((drawY bs).length : Int) - 1).toNat = (drawY bs).length - 1 := by omega
        by_cases h9 : (drawY bs).getD ((drawY bs).length - 1) 0 = 99
        · have e2 : decide ((drawY bs).getD ((drawY bs).length - 1) 0 = 99) = true := decide_eq_true h9
          simp (config := {maxSteps := 1000000}) (disch := omega) only [go_sem, ↓reduceIte, Nat.reduceEqDiff, Nat.reduceAdd, Nat.reduceMul, Nat.reduceSub, Nat.reduceLeDiff, Nat.reduceLT, Int.reduceToNat, Int.reduceLE, Int.reduceLT, Int.reduceNeg, h_DrawValidKeys, mDrawKeys, h_ValidKeysI, mValidKeys, h_ValidKeysS, mValidKeys, g, hB, hv, e0, e1, e2]
          rfl
        · have e2 : decide ((drawY bs).getD ((drawY bs).length - 1) 0 = 99) = false := decide_eq_false h9
          have hm2 := vk_move hv he h9
          simp (config := {maxSteps := 1000000}) (disch := omega) only [go_sem, ↓reduceIte, Nat.reduceEqDiff, Nat.reduceAdd, Nat.reduceMul, Nat.reduceSub, Nat.reduceLeDiff, Nat.reduceLT, Int.reduceToNat, Int.reduceLE, Int.reduceLT, Int.reduceNeg, h_DrawValidKeys, mDrawKeys, h_ValidKeysI, mValidKeys, h_ValidKeysS, mValidKeys, g, hB, hv, e0, e1, e2]
          refine W_loop_i (fun s => s.sl 3 = eIs false (drawY bs) ∧ ∃ k : Nat, k ≤ (drawY bs).length ∧ s.sl 6 = eI k ∧ ∃ m, m < s.n ∧ s.sl 5 = .ref (m, 0) [] 0 0 1 k ∧ s.hp (m, 0) = some ⟨1, k, (((drawY bs).take k).map (· + 1)).map eI, fun _ => 0⟩) (fun s => (drawY bs).length - iN (s.sl 6)) ?_ ?_
          · refine ⟨rfl, 0, Nat.zero_le _, rfl, _, ?_, rfl, ?_⟩
            · simp (config := {maxSteps := 1000000}) (disch := omega) only [go_sem, ↓reduceIte, Nat.reduceEqDiff, Nat.reduceAdd, Nat.reduceMul, Nat.reduceSub, Nat.reduceLeDiff, Nat.reduceLT, Int.reduceToNat, Int.reduceLE, Int.reduceLT, Int.reduceNeg, h_DrawValidKeys, mDrawKeys, h_ValidKeysI, mValidKeys, h_ValidKeysS, mValidKeys]
            · simp (config := {maxSteps := 1000000}) (disch := omega) only [go_sem, ↓reduceIte, Nat.reduceEqDiff, Nat.reduceAdd, Nat.reduceMul, Nat.reduceSub, Nat.reduceLeDiff, Nat.reduceLT, Int.reduceToNat, Int.reduceLE, Int.reduceLT, Int.reduceNeg, h_DrawValidKeys, mDrawKeys, h_ValidKeysI, mValidKeys, h_ValidKeysS, mValidKeys]
          · rintro sl hp n ⟨h3, k, hk, h6, m, hm, h5, hh⟩
            dsimp only at h3 h6 h5 hh hm
            simp (config := {maxSteps := 1000000}) (disch := omega) only [go_sem, ↓reduceIte, Nat.reduceEqDiff, Nat.reduceAdd, Nat.reduceMul, Nat.reduceSub, Nat.reduceLeDiff, Nat.reduceLT, Int.reduceToNat, Int.reduceLE, Int.reduceLT, Int.reduceNeg, h_DrawValidKeys, mDrawKeys, h_ValidKeysI, mValidKeys, h_ValidKeysS, mValidKeys, h3, h5, h6]
            (first | refine runKS_split (fun g1 => ?_) (fun g1 => ?_) | refine cond_split (fun g1 => ?_) (fun g1 => ?_) | refine runK_split (fun g1 => ?_) (fun g1 => ?_))
            · have g1' := of_decide_eq_true g1
              have hb := allR_get.1 b1 k (by omega)
              simp (config := {maxSteps := 1000000}) (disch := omega) only [go_sem, ↓reduceIte, Nat.reduceEqDiff, Nat.reduceAdd, Nat.reduceMul, Nat.reduceSub, Nat.reduceLeDiff, Nat.reduceLT, Int.reduceToNat, Int.reduceLE, Int.reduceLT, Int.reduceNeg, h_DrawValidKeys, mDrawKeys, h_ValidKeysI, mValidKeys, h_ValidKeysS, mValidKeys, h3, h5, h6, g1, hh]
              refine ⟨⟨k + 1, by omega, rfl, _, ?_, rfl, (upd_same ..).trans ?_⟩, by omega⟩
              · omega
              · rw [app_I (by rw [List.length_map, List.length_take]; omega)]
                have e : (drawY bs).take (k + 1) = (drawY bs).take k ++ [(drawY bs).getD k 0] := take_step (by omega)
                rw [e]
                simp
            · have g1' := of_decide_eq_false g1
              obtain rfl : k = (drawY bs).length := by omega
              rw [List.take_length] at hh
              have hl2 : ((drawY bs).map (· + 1)).length = (drawY bs).length := List.length_map ..
              have hT : ((drawY bs).map (· + 1)).take (drawY bs).length = (drawY bs).map (· + 1) := List.take_of_length_le (by omega)
              simp (config := {maxSteps := 1000000}) (disch := omega) only [go_sem, ↓reduceIte, Nat.reduceEqDiff, Nat.reduceAdd, Nat.reduceMul, Nat.reduceSub, Nat.reduceLeDiff, Nat.reduceLT, Int.reduceToNat, Int.reduceLE, Int.reduceLT, Int.reduceNeg, h_DrawValidKeys, mDrawKeys, h_ValidKeysI, mValidKeys, h_ValidKeysS, mValidKeys, h3, h5, h6, g1, hh, sub_zero, hT, hm2]
theorem fo_FnValidKeysMove : FnOk Try.prog 10 := fnOk_of Try.func10 (by kernel_rfl)
theorem c_FnValidKeysMove : Contract Try.prog 10 mLawB :=
  contract_of_does (DT := fun _ => []) Try.checked.mixed tabOk (gok_model fo_DrawValidKeys c_DrawValidKeys (gok_model fo_ValidKeysI c_ValidKeysI (gok_model fo_ValidKeysS c_ValidKeysS gok_nil))) Try.func10 rfl (by kernel_rfl) (does_FnValidKeysMove rfl rfl rfl)

theorem fn_FnValidKeysMove (x : List Int) (h : (∀ y ∈ x, intWf .u8 y) ∧ x.length ≤ maxLen) : mLawB.fn [eBs false x] = some (.b true, []) := by
  have h1 : Bytes x := h.1
  have h2 : x.length ≤ 9223372036854775807 := h.2
  simp (config := {maxSteps := 1000000}) (disch := omega) only [go_sem, ↓reduceIte, Nat.reduceEqDiff, Nat.reduceAdd, Nat.reduceMul, Nat.reduceSub, Nat.reduceLeDiff, Nat.reduceLT, Int.reduceToNat, Int.reduceLE, Int.reduceLT, Int.reduceNeg, mLawB, h1]

end Go.TM
