/- Contracts, 48: the next key, the rank of a key, keys in a range. -/
import Derived.Test.YtbdiacopffnnbaaF47
namespace Go.TM
open Go.Proofs
set_option linter.unusedVariables false
set_option linter.unusedSimpArgs false
set_option maxRecDepth 100000
set_option maxHeartbeats 4000000

/-! ### The next key -/

noncomputable def nextV (t : Tr) (key : Int) : Int := if cntU (keysP (prV t)) key < (prV t).length then ((prV t).getD (cntU (keysP (prV t)) key) default).1 else -1
noncomputable def mNextKey : Model := M2 .ro .ro true (cTr false) cI fun t key => gd (smT t.pages = true) (eI (nextV t key), [])
theorem next_f {t : Tr} (h : vTr t = false) (key : Int) : nextV t key = -1 := by unfold nextV; rw [prV_f h]; rfl

theorem does_NextKeyS {G : Nat → Option FM} (h_validTree : G 132 = some (.model mValidTree)) (h_pairsOf : G 153 = some (.model mPairs)) (h_keysOf : G 102 = some (.model mKeysOf)) (h_upTo : G 156 = some (.model mUpTo)) : Does T G (fun id => match id with  | _ => []) Try.f88 mNextKey := by
  refine does2 (rs := [.tmp 4]) rfl rfl fun t key ro h => ?_
  obtain ⟨hs, rfl⟩ := gd_some h
  refine ⟨fun _ => ⟨rfl, rfl⟩, ?_⟩
  clear h
  cases hv : vTr t
  · rw [next_f hv]
    simp (config := {maxSteps := 1000000}) (disch := omega) only [go_sem, ↓reduceIte, Nat.reduceEqDiff, Nat.reduceAdd, Nat.reduceMul, Nat.reduceSub, Nat.reduceLeDiff, Nat.reduceLT, Int.reduceToNat, Int.reduceLE, Int.reduceLT, Int.reduceNeg, h_validTree, mValidTree, h_pairsOf, mPairs, h_keysOf, mKeysOf, h_upTo, mUpTo, drP_n, drP_c, logAt_n, logAt_c, disP_n, disP_c, notIn_n, notIn_c, hs, hv]
  · have l1 := prV_len t
    unfold nextV
    rw [prV_t hv] at *
    have cl := cntU_le (keysP (prF t (htT t) t.root)) key
    rw [keysP_len] at cl
    generalize hw : prF t (htT t) t.root = w at *
    have kl := keysP_len w
    by_cases hc : cntU (keysP w) key < w.length
    · have e1 : decide ((cntU (keysP w) key : Int) = ((keysP w).length : Int)) = false := decide_eq_false (by omega)
      have kg := keysP_get hc
      rw [if_pos hc]
      simp (config := {maxSteps := 1000000}) (disch := omega) only [go_sem, ↓reduceIte, Nat.reduceEqDiff, Nat.reduceAdd, Nat.reduceMul, Nat.reduceSub, Nat.reduceLeDiff, Nat.reduceLT, Int.reduceToNat, Int.reduceLE, Int.reduceLT, Int.reduceNeg, h_validTree, mValidTree, h_pairsOf, mPairs, h_keysOf, mKeysOf, h_upTo, mUpTo, drP_n, drP_c, logAt_n, logAt_c, disP_n, disP_c, notIn_n, notIn_c, hs, hv, hw, e1]
      rw [kg]
    · have e1 : decide ((cntU (keysP w) key : Int) = ((keysP w).length : Int)) = true := decide_eq_true (by omega)
      rw [if_neg hc]
      simp (config := {maxSteps := 1000000}) (disch := omega) only [go_sem, ↓reduceIte, Nat.reduceEqDiff, Nat.reduceAdd, Nat.reduceMul, Nat.reduceSub, Nat.reduceLeDiff, Nat.reduceLT, Int.reduceToNat, Int.reduceLE, Int.reduceLT, Int.reduceNeg, h_validTree, mValidTree, h_pairsOf, mPairs, h_keysOf, mKeysOf, h_upTo, mUpTo, drP_n, drP_c, logAt_n, logAt_c, disP_n, disP_c, notIn_n, notIn_c, hs, hv, hw, e1]
theorem fo_NextKeyS : FnOk Try.prog 88 := fnOk_of Try.func88 (by kernel_rfl)
theorem c_NextKeyS : Contract Try.prog 88 mNextKey :=
  contract_of_does (DT := fun id => match id with  | _ => []) Try.checked.mixed tabOk (gok_model fo_validTree c_validTree (gok_model fo_pairsOf c_pairsOf (gok_model fo_keysOf c_keysOf (gok_model fo_upTo c_upTo gok_nil)))) Try.func88 rfl (by kernel_rfl) (does_NextKeyS rfl rfl rfl rfl)


theorem does_NextKeyI {G : Nat → Option FM} (h_PairsOfI : G 95 = some (.model mPairsOf)) : Does T G (fun id => match id with  | _ => []) Try.f89 mNextKey := by
  refine does2 (rs := [.tmp 4]) rfl rfl fun t key ro h => ?_
  obtain ⟨hs, rfl⟩ := gd_some h
  refine ⟨fun _ => ⟨rfl, rfl⟩, ?_⟩
  clear h
  have l1 := prV_len t
  unfold nextV
  simp (config := {maxSteps := 1000000}) (disch := omega) only [go_sem, ↓reduceIte, Nat.reduceEqDiff, Nat.reduceAdd, Nat.reduceMul, Nat.reduceSub, Nat.reduceLeDiff, Nat.reduceLT, Int.reduceToNat, Int.reduceLE, Int.reduceLT, Int.reduceNeg, h_PairsOfI, mPairsOf, drP_n, drP_c, logAt_n, logAt_c, disP_n, disP_c, notIn_n, notIn_c, hs]
  generalize prV t = w at *
  have kl := keysP_len w
  refine W_loop_i (fun s => s.sl 1 = eI key ∧ ∃ k m : Nat, k ≤ w.length ∧ m < s.n ∧ s.sl 10 = eI k ∧ s.sl 8 = .ref (m, 0) [] 0 0 2 w.length ∧ s.sl 9 = eI w.length ∧ s.hp (m, 0) = some ⟨2, w.length, w.flatMap ePr, fun _ => 0⟩ ∧ ∀ i, i < k → (w.getD i default).1 ≤ key) (fun s => w.length - iN (s.sl 10)) ?_ ?_
  · exact ⟨rfl, 0, 6, Nat.zero_le _, by dsimp only [St.n]; omega, rfl, rfl, rfl, rfl, fun i hi => by omega⟩
  · rintro sl hp q ⟨h1, k, m, hk, hmn, h5, h3, h4, hm, hall⟩
    dsimp only at h1 hmn h5 h3 h4 hm
    simp (config := {maxSteps := 1000000}) (disch := omega) only [go_sem, ↓reduceIte, Nat.reduceEqDiff, Nat.reduceAdd, Nat.reduceMul, Nat.reduceSub, Nat.reduceLeDiff, Nat.reduceLT, Int.reduceToNat, Int.reduceLE, Int.reduceLT, Int.reduceNeg, h_PairsOfI, mPairsOf, drP_n, drP_c, logAt_n, logAt_c, disP_n, disP_c, notIn_n, notIn_c, h1, h5, h3, h4, hm]
    (first | refine runKS_split (fun g1 => ?_) (fun g1 => ?_) | refine cond_split (fun g1 => ?_) (fun g1 => ?_) | refine runK_split (fun g1 => ?_) (fun g1 => ?_))
    · have g1' := of_decide_eq_true g1
      by_cases hc : key < (w.getD k default).1
      · have e1 : decide (key < (w.getD k default).1) = true := decide_eq_true hc
        have ec : cntU (keysP w) key = k := by
          rw [cntU_succ]
          exact cntB_uniq (by omega) (fun i hi => by rw [keysP_get (by omega)]; have := hall i hi; omega) (fun hl => by rw [keysP_get (by omega)]; omega)
        simp (config := {maxSteps := 1000000}) (disch := omega) only [go_sem, ↓reduceIte, Nat.reduceEqDiff, Nat.reduceAdd, Nat.reduceMul, Nat.reduceSub, Nat.reduceLeDiff, Nat.reduceLT, Int.reduceToNat, Int.reduceLE, Int.reduceLT, Int.reduceNeg, h_PairsOfI, mPairsOf, drP_n, drP_c, logAt_n, logAt_c, disP_n, disP_c, notIn_n, notIn_c, h1, h5, h3, h4, hm, g1, ePr, e1]
        rw [ec, if_pos (by omega)]
      · have e1 : decide (key < (w.getD k default).1) = false := decide_eq_false hc
        simp (config := {maxSteps := 1000000}) (disch := omega) only [go_sem, ↓reduceIte, Nat.reduceEqDiff, Nat.reduceAdd, Nat.reduceMul, Nat.reduceSub, Nat.reduceLeDiff, Nat.reduceLT, Int.reduceToNat, Int.reduceLE, Int.reduceLT, Int.reduceNeg, h_PairsOfI, mPairsOf, drP_n, drP_c, logAt_n, logAt_c, disP_n, disP_c, notIn_n, notIn_c, h1, h5, h3, h4, hm, g1, ePr, e1]
        refine ⟨⟨k + 1, m, by omega, by omega, rfl, rfl, ?_, fun i hi => ?_⟩, by omega⟩
        · simp (config := {maxSteps := 1000000}) (disch := omega) only [go_sem, ↓reduceIte, Nat.reduceEqDiff, Nat.reduceAdd, Nat.reduceMul, Nat.reduceSub, Nat.reduceLeDiff, Nat.reduceLT, Int.reduceToNat, Int.reduceLE, Int.reduceLT, Int.reduceNeg, h_PairsOfI, mPairsOf, drP_n, drP_c, logAt_n, logAt_c, disP_n, disP_c, notIn_n, notIn_c, hm]
        · by_cases hik : i = k
          · rw [hik]; omega
          · exact hall i (by omega)
    · have g1' := of_decide_eq_false g1
      obtain rfl : k = w.length := by omega
      have ec : cntU (keysP w) key = w.length := by
        rw [cntU_succ]
        exact cntB_uniq (by omega) (fun i hi => by rw [keysP_get (by omega)]; have := hall i hi; omega) (fun hl => by omega)
      simp (config := {maxSteps := 1000000}) (disch := omega) only [go_sem, ↓reduceIte, Nat.reduceEqDiff, Nat.reduceAdd, Nat.reduceMul, Nat.reduceSub, Nat.reduceLeDiff, Nat.reduceLT, Int.reduceToNat, Int.reduceLE, Int.reduceLT, Int.reduceNeg, h_PairsOfI, mPairsOf, drP_n, drP_c, logAt_n, logAt_c, disP_n, disP_c, notIn_n, notIn_c, h1, h5, h3, h4, hm, g1]
      rw [ec, if_neg (by omega)]
theorem fo_NextKeyI : FnOk Try.prog 89 := fnOk_of Try.func89 (by kernel_rfl)
theorem c_NextKeyI : Contract Try.prog 89 mNextKey :=
  contract_of_does (DT := fun id => match id with  | _ => []) Try.checked.mixed tabOk (gok_model fo_PairsOfI c_PairsOfI gok_nil) Try.func89 rfl (by kernel_rfl) (does_NextKeyI rfl)


theorem does_FnExactNextKey {G : Nat → Option FM} (h_szTree : G 61 = some (.model mSzTree)) (h_toTree : G 63 = some (.model mToTree)) (h_NextKeyS : G 88 = some (.model mNextKey)) (h_NextKeyI : G 89 = some (.model mNextKey)) (h_eqTree : G 65 = some (.model mEqTree)) : Does T G (fun id => match id with | 10 => [(2, 0)] | _ => []) Try.f21 mLawTree2 := by
  refine does2 (rs := [.tmp 4]) rfl rfl fun t key ro h => ?_
  obtain ⟨⟨hs, hb⟩, rfl⟩ := gd_some h
  refine ⟨fun _ => ⟨rfl, rfl⟩, ?_⟩
  obtain ⟨z, hz⟩ : ∃ z, szPs t.pages 1048576 = z := ⟨_, rfl⟩
  by_cases h1 : z < 0
  · have e1 : decide (z < 0) = true := decide_eq_true h1
    simp (config := {maxSteps := 1000000}) (disch := omega) only [go_sem, ↓reduceIte, Nat.reduceEqDiff, Nat.reduceAdd, Nat.reduceMul, Nat.reduceSub, Nat.reduceLeDiff, Nat.reduceLT, Int.reduceToNat, Int.reduceLE, Int.reduceLT, Int.reduceNeg, h_szTree, mSzTree, h_toTree, mToTree, h_NextKeyS, mNextKey, h_NextKeyI, mNextKey, h_eqTree, mEqTree, drP_n, drP_c, logAt_n, logAt_c, disP_n, disP_c, notIn_n, notIn_c, hb, hz, e1]
  · have e1 : decide (z < 0) = false := decide_eq_false h1
    obtain ⟨h2, hsm⟩ := lawT_small hz h1
    simp (config := {maxSteps := 1000000}) (disch := omega) only [go_sem, ↓reduceIte, Nat.reduceEqDiff, Nat.reduceAdd, Nat.reduceMul, Nat.reduceSub, Nat.reduceLeDiff, Nat.reduceLT, Int.reduceToNat, Int.reduceLE, Int.reduceLT, Int.reduceNeg, h_szTree, mSzTree, h_toTree, mToTree, h_NextKeyS, mNextKey, h_NextKeyI, mNextKey, h_eqTree, mEqTree, drP_n, drP_c, logAt_n, logAt_c, disP_n, disP_c, notIn_n, notIn_c, hb, hz, e1, hsm]
theorem fo_FnExactNextKey : FnOk Try.prog 21 := fnOk_of Try.func21 (by kernel_rfl)
theorem c_FnExactNextKey : Contract Try.prog 21 mLawTree2 :=
  contract_of_does (DT := fun id => match id with | 10 => [(2, 0)] | _ => []) Try.checked.mixed tabOk (gok_model fo_szTree c_szTree (gok_model fo_toTree c_toTree (gok_model fo_NextKeyS c_NextKeyS (gok_model fo_NextKeyI c_NextKeyI (gok_model fo_eqTree c_eqTree gok_nil))))) Try.func21 rfl (by kernel_rfl) (does_FnExactNextKey rfl rfl rfl rfl rfl)

theorem fn_FnExactNextKey (t : Tr) (h : TrW t) (x : Int) (hx : intWf .i64 x) : mLawTree2.fn [eTr false t, eI x] = some (.b true, []) := by
  obtain ⟨h1, h2⟩ := bigP_of h
  simp (config := {maxSteps := 1000000}) (disch := omega) only [go_sem, ↓reduceIte, Nat.reduceEqDiff, Nat.reduceAdd, Nat.reduceMul, Nat.reduceSub, Nat.reduceLeDiff, Nat.reduceLT, Int.reduceToNat, Int.reduceLE, Int.reduceLT, Int.reduceNeg, mLawTree2, h2]

/-! ### The rank of a key -/

noncomputable def rankV (t : Tr) (key : Int) : Int := if vTr t = true then (cntB (keysP (prV t)) key : Int) else -1
theorem rankV_f {t : Tr} (h : vTr t = false) (key : Int) : rankV t key = -1 := if_neg (by rw [h]; simp)
theorem rankV_t {t : Tr} (h : vTr t = true) (key : Int) : rankV t key = (cntB (keysP (prV t)) key : Int) := if_pos h
noncomputable def mRankOf : Model := M2 .ro .ro true (cTr false) cI fun t key => gd (smT t.pages = true) (eI (rankV t key), [])
theorem prV_vk {t : Tr} (h : vTr t = true) : vk (keysP (prV t)) = true := by rw [prV_t h]; exact (vTr_iff.1 h).sorted

theorem does_RankOfS {G : Nat → Option FM} (h_validTree : G 132 = some (.model mValidTree)) (h_pairsOf : G 153 = some (.model mPairs)) (h_keysOf : G 102 = some (.model mKeysOf)) (h_below : G 103 = some (.model mBelow)) : Does T G (fun id => match id with  | _ => []) Try.f92 mRankOf := by
  refine does2 (rs := [.tmp 4]) rfl rfl fun t key ro h => ?_
  obtain ⟨hs, rfl⟩ := gd_some h
  refine ⟨fun _ => ⟨rfl, rfl⟩, ?_⟩
  clear h
  cases hv : vTr t
  · rw [rankV_f hv]
    simp (config := {maxSteps := 1000000}) (disch := omega) only [go_sem, ↓reduceIte, Nat.reduceEqDiff, Nat.reduceAdd, Nat.reduceMul, Nat.reduceSub, Nat.reduceLeDiff, Nat.reduceLT, Int.reduceToNat, Int.reduceLE, Int.reduceLT, Int.reduceNeg, h_validTree, mValidTree, h_pairsOf, mPairs, h_keysOf, mKeysOf, h_below, mBelow, drP_n, drP_c, logAt_n, logAt_c, disP_n, disP_c, notIn_n, notIn_c, hs, hv]
  · rw [rankV_t hv]
    have l1 := prV_len t
    rw [prV_t hv] at *
    have kl := keysP_len (prF t (htT t) t.root)
    simp (config := {maxSteps := 1000000}) (disch := omega) only [go_sem, ↓reduceIte, Nat.reduceEqDiff, Nat.reduceAdd, Nat.reduceMul, Nat.reduceSub, Nat.reduceLeDiff, Nat.reduceLT, Int.reduceToNat, Int.reduceLE, Int.reduceLT, Int.reduceNeg, h_validTree, mValidTree, h_pairsOf, mPairs, h_keysOf, mKeysOf, h_below, mBelow, drP_n, drP_c, logAt_n, logAt_c, disP_n, disP_c, notIn_n, notIn_c, hs, hv]
theorem fo_RankOfS : FnOk Try.prog 92 := fnOk_of Try.func92 (by kernel_rfl)
theorem c_RankOfS : Contract Try.prog 92 mRankOf :=
  contract_of_does (DT := fun id => match id with  | _ => []) Try.checked.mixed tabOk (gok_model fo_validTree c_validTree (gok_model fo_pairsOf c_pairsOf (gok_model fo_keysOf c_keysOf (gok_model fo_below c_below gok_nil)))) Try.func92 rfl (by kernel_rfl) (does_RankOfS rfl rfl rfl rfl)


theorem does_RankOfI {G : Nat → Option FM} (h_ValidTreeI : G 64 = some (.model mValidTree)) (h_PairsOfI : G 95 = some (.model mPairsOf)) (h_keysOfRow : G 160 = some (.model mKeysOf)) (h_KeysBelowI : G 123 = some (.model mKeysBelow)) : Does T G (fun id => match id with  | _ => []) Try.f93 mRankOf := by
  refine does2 (rs := [.tmp 4]) rfl rfl fun t key ro h => ?_
  obtain ⟨hs, rfl⟩ := gd_some h
  refine ⟨fun _ => ⟨rfl, rfl⟩, ?_⟩
  clear h
  cases hv : vTr t
  · rw [rankV_f hv]
    simp (config := {maxSteps := 1000000}) (disch := omega) only [go_sem, ↓reduceIte, Nat.reduceEqDiff, Nat.reduceAdd, Nat.reduceMul, Nat.reduceSub, Nat.reduceLeDiff, Nat.reduceLT, Int.reduceToNat, Int.reduceLE, Int.reduceLT, Int.reduceNeg, h_ValidTreeI, mValidTree, h_PairsOfI, mPairsOf, h_keysOfRow, mKeysOf, h_KeysBelowI, mKeysBelow, drP_n, drP_c, logAt_n, logAt_c, disP_n, disP_c, notIn_n, notIn_c, hs, hv]
  · rw [rankV_t hv]
    have l1 := prV_len t
    have kl := keysP_len (prV t)
    have vk1 := prV_vk hv
    have e1 : vKeysBelow (keysP (prV t)) key = (cntB (keysP (prV t)) key : Int) := by unfold vKeysBelow; rw [vk1]; rfl
    simp (config := {maxSteps := 1000000}) (disch := omega) only [go_sem, ↓reduceIte, Nat.reduceEqDiff, Nat.reduceAdd, Nat.reduceMul, Nat.reduceSub, Nat.reduceLeDiff, Nat.reduceLT, Int.reduceToNat, Int.reduceLE, Int.reduceLT, Int.reduceNeg, h_ValidTreeI, mValidTree, h_PairsOfI, mPairsOf, h_keysOfRow, mKeysOf, h_KeysBelowI, mKeysBelow, drP_n, drP_c, logAt_n, logAt_c, disP_n, disP_c, notIn_n, notIn_c, hs, hv, e1]
theorem fo_RankOfI : FnOk Try.prog 93 := fnOk_of Try.func93 (by kernel_rfl)
theorem c_RankOfI : Contract Try.prog 93 mRankOf :=
  contract_of_does (DT := fun id => match id with  | _ => []) Try.checked.mixed tabOk (gok_model fo_ValidTreeI c_ValidTreeI (gok_model fo_PairsOfI c_PairsOfI (gok_model fo_keysOfRow c_keysOfRow (gok_model fo_KeysBelowI c_KeysBelowI gok_nil)))) Try.func93 rfl (by kernel_rfl) (does_RankOfI rfl rfl rfl rfl)


theorem does_FnExactRankOf {G : Nat → Option FM} (h_szTree : G 61 = some (.model mSzTree)) (h_toTree : G 63 = some (.model mToTree)) (h_RankOfS : G 92 = some (.model mRankOf)) (h_RankOfI : G 93 = some (.model mRankOf)) (h_eqTree : G 65 = some (.model mEqTree)) : Does T G (fun id => match id with | 10 => [(2, 0)] | _ => []) Try.f23 mLawTree2 := by
  refine does2 (rs := [.tmp 4]) rfl rfl fun t key ro h => ?_
  obtain ⟨⟨hs, hb⟩, rfl⟩ := gd_some h
  refine ⟨fun _ => ⟨rfl, rfl⟩, ?_⟩
  obtain ⟨z, hz⟩ : ∃ z, szPs t.pages 1048576 = z := ⟨_, rfl⟩
  by_cases h1 : z < 0
  · have e1 : decide (z < 0) = true := decide_eq_true h1
    simp (config := {maxSteps := 1000000}) (disch := omega) only [go_sem, ↓reduceIte, Nat.reduceEqDiff, Nat.reduceAdd, Nat.reduceMul, Nat.reduceSub, Nat.reduceLeDiff, Nat.reduceLT, Int.reduceToNat, Int.reduceLE, Int.reduceLT, Int.reduceNeg, h_szTree, mSzTree, h_toTree, mToTree, h_RankOfS, mRankOf, h_RankOfI, mRankOf, h_eqTree, mEqTree, drP_n, drP_c, logAt_n, logAt_c, disP_n, disP_c, notIn_n, notIn_c, hb, hz, e1]
  · have e1 : decide (z < 0) = false := decide_eq_false h1
    obtain ⟨h2, hsm⟩ := lawT_small hz h1
    simp (config := {maxSteps := 1000000}) (disch := omega) only [go_sem, ↓reduceIte, Nat.reduceEqDiff, Nat.reduceAdd, Nat.reduceMul, Nat.reduceSub, Nat.reduceLeDiff, Nat.reduceLT, Int.reduceToNat, Int.reduceLE, Int.reduceLT, Int.reduceNeg, h_szTree, mSzTree, h_toTree, mToTree, h_RankOfS, mRankOf, h_RankOfI, mRankOf, h_eqTree, mEqTree, drP_n, drP_c, logAt_n, logAt_c, disP_n, disP_c, notIn_n, notIn_c, hb, hz, e1, hsm]
theorem fo_FnExactRankOf : FnOk Try.prog 23 := fnOk_of Try.func23 (by kernel_rfl)
theorem c_FnExactRankOf : Contract Try.prog 23 mLawTree2 :=
  contract_of_does (DT := fun id => match id with | 10 => [(2, 0)] | _ => []) Try.checked.mixed tabOk (gok_model fo_szTree c_szTree (gok_model fo_toTree c_toTree (gok_model fo_RankOfS c_RankOfS (gok_model fo_RankOfI c_RankOfI (gok_model fo_eqTree c_eqTree gok_nil))))) Try.func23 rfl (by kernel_rfl) (does_FnExactRankOf rfl rfl rfl rfl rfl)

theorem fn_FnExactRankOf (t : Tr) (h : TrW t) (x : Int) (hx : intWf .i64 x) : mLawTree2.fn [eTr false t, eI x] = some (.b true, []) := by
  obtain ⟨h1, h2⟩ := bigP_of h
  simp (config := {maxSteps := 1000000}) (disch := omega) only [go_sem, ↓reduceIte, Nat.reduceEqDiff, Nat.reduceAdd, Nat.reduceMul, Nat.reduceSub, Nat.reduceLeDiff, Nat.reduceLT, Int.reduceToNat, Int.reduceLE, Int.reduceLT, Int.reduceNeg, mLawTree2, h2]
end Go.TM
