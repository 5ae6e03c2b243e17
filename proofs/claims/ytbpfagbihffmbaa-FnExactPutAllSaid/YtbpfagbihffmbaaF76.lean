/- Contracts, joined. -/
import Derived.Test.YtbpfagbihffmbaaF69
namespace Go.TM
open Go.Proofs
set_option linter.unusedVariables false
set_option linter.unusedSimpArgs false
set_option maxRecDepth 100000
set_option maxHeartbeats 4000000

noncomputable def mSplitsFor : Model := M2 .ro .ro true (cTr false) cI fun t key => gd (smT t.pages = true) (eI (splitsV t key), [])
theorem splitsV_f {t : Tr} {key : Int} (h : ¬ (vTr t = true ∧ inR key 0 99 = true)) : splitsV t key = -1 := if_neg h
theorem splitsV_t {t : Tr} {key : Int} (h : vTr t = true ∧ inR key 0 99 = true) : splitsV t key = if key ∈ (pgAt t (leafT t key)).keys then 0 else (fullF t (pathF t key (htT t) t.root) (htT t) : Int) := if_pos h
theorem leaf_vRow {t : Tr} {x : Int} (h : PLeaf t x) : vRow (prP (pgAt t x)) = true := by
  have h1 := h.len
  unfold vRow
  rw [prP_keys, h.vk, Bool.and_true, Bool.and_eq_true]
  refine ⟨List.all_eq_true.2 fun p hp => ?_, decide_eq_true (by rw [prP_len]; omega)⟩
  obtain ⟨j, hj, rfl⟩ := List.mem_map.1 hp
  rw [List.mem_range] at hj
  exact List.all_eq_true.1 h.vrng _ (getD_mem (by have := h.vals; omega))
theorem getV_has {t : Tr} {key : Int} (hv : vTr t = true) : (getV t key).2 = decide (key ∈ (pgAt t (leafT t key)).keys) := by
  have pd := leafF_pd (key := key) (vTr_iff.1 hv).pd
  have hr := leaf_vRow pd.leaf
  rw [getV_t hv]
  by_cases hm : key ∈ (pgAt t (leafT t key)).keys
  · rw [valV_t hr (by rw [prP_keys]; exact hm), decide_eq_true hm]
  · rw [valV_f (by rw [prP_keys]; exact fun h => hm h.2), decide_eq_false hm]

theorem does_SplitsForS {G : Nat → Option FM} (h_validTree : G 57 = some (.model mValidTree)) (h_inRange : G 83 = some (.model mInRange)) (h_putTree : G 70 = some (.model mPutTree)) (h_toInt : G 84 = some (.model mToInt)) : Does T G (fun id => match id with | 4 => [(12, 0), (12, 1), (12, 3), (12, 4)] | _ => []) Try.f41 mSplitsFor := by
  refine does2 (rs := [.tmp 4]) rfl rfl fun t key ro h => ?_
  obtain ⟨hs, rfl⟩ := gd_some h
  refine ⟨fun _ => ⟨rfl, rfl⟩, ?_⟩
  clear h
  have hss := smT_iff.1 hs
  have h00 : inR 0 (-1000) 1000 = true := rfl
  cases hv : vTr t
  · rw [splitsV_f (by rw [hv]; simp)]
    simp (config := {maxSteps := 1000000}) (disch := omega) only [go_sem, ↓reduceIte, Nat.reduceEqDiff, Nat.reduceAdd, Nat.reduceMul, Nat.reduceSub, Nat.reduceLeDiff, Nat.reduceLT, Int.reduceToNat, Int.reduceLE, Int.reduceLT, Int.reduceNeg, h_validTree, mValidTree, h_inRange, mInRange, h_putTree, mPutTree, h_toInt, mToInt, drP_n, drP_c, logAt_n, logAt_c, disP_n, disP_c, notIn_n, notIn_c, hs, hv]
    try rfl
  · cases hk : inR key 0 99
    · rw [splitsV_f (by rw [hk]; simp)]
      simp (config := {maxSteps := 1000000}) (disch := omega) only [go_sem, ↓reduceIte, Nat.reduceEqDiff, Nat.reduceAdd, Nat.reduceMul, Nat.reduceSub, Nat.reduceLeDiff, Nat.reduceLT, Int.reduceToNat, Int.reduceLE, Int.reduceLT, Int.reduceNeg, h_validTree, mValidTree, h_inRange, mInRange, h_putTree, mPutTree, h_toInt, mToInt, drP_n, drP_c, logAt_n, logAt_c, disP_n, disP_c, notIn_n, notIn_c, hs, hv, hk]
      try rfl
    · have tv := vTr_iff.1 hv
      have hk' := inR_iff.1 hk
      rw [splitsV_t ⟨hv, hk⟩]
      have hsp := putT_splits tv hk'
      have sm := putT_sm (b := 0) tv hk' (by omega)
      have sl := sm.len
      rw [← hsp]
      generalize hT : putT t (key, 0) = T2 at *
      by_cases hr : T2.root = t.root
      · have e1 : decide (T2.root ≠ t.root) = false := decide_eq_false (fun h => h hr)
        have e2 : decide (T2.root = t.root) = true := decide_eq_true hr
        rw [if_neg (fun h => h hr)]
        simp (config := {maxSteps := 1000000}) (disch := omega) only [go_sem, ↓reduceIte, Nat.reduceEqDiff, Nat.reduceAdd, Nat.reduceMul, Nat.reduceSub, Nat.reduceLeDiff, Nat.reduceLT, Int.reduceToNat, Int.reduceLE, Int.reduceLT, Int.reduceNeg, h_validTree, mValidTree, h_inRange, mInRange, h_putTree, mPutTree, h_toInt, mToInt, drP_n, drP_c, logAt_n, logAt_c, disP_n, disP_c, notIn_n, notIn_c, hs, hv, hk, h00, hT, e1, e2]
        try rfl
      · have e1 : decide (T2.root ≠ t.root) = true := decide_eq_true hr
        have e2 : decide (T2.root = t.root) = false := decide_eq_false hr
        rw [if_pos hr]
        simp (config := {maxSteps := 1000000}) (disch := omega) only [go_sem, ↓reduceIte, Nat.reduceEqDiff, Nat.reduceAdd, Nat.reduceMul, Nat.reduceSub, Nat.reduceLeDiff, Nat.reduceLT, Int.reduceToNat, Int.reduceLE, Int.reduceLT, Int.reduceNeg, h_validTree, mValidTree, h_inRange, mInRange, h_putTree, mPutTree, h_toInt, mToInt, drP_n, drP_c, logAt_n, logAt_c, disP_n, disP_c, notIn_n, notIn_c, hs, hv, hk, h00, hT, e1, e2]
        try rfl
theorem fo_SplitsForS : FnOk Try.prog 41 := fnOk_of Try.func41 (by kernel_rfl)
theorem c_SplitsForS : Contract Try.prog 41 mSplitsFor :=
  contract_of_does (DT := fun id => match id with | 4 => [(12, 0), (12, 1), (12, 3), (12, 4)] | _ => []) Try.checked.mixed tabOk (gok_model fo_validTree c_validTree (gok_model fo_inRange c_inRange (gok_model fo_putTree c_putTree (gok_model fo_toInt c_toInt gok_nil)))) Try.func41 rfl (by kernel_rfl) (does_SplitsForS rfl rfl rfl rfl)


theorem does_SplitsForI {G : Nat → Option FM} (h_ValidTreeI : G 66 = some (.model mValidTree)) (h_isKey : G 85 = some (.model mIsKey)) (h_GetKeyI : G 55 = some (.model mGetKey)) (h_PathToI : G 72 = some (.model mPathTo)) : Does T G (fun id => match id with  | _ => []) Try.f42 mSplitsFor := by
  refine does2 (rs := [.tmp 4]) rfl rfl fun t key ro h => ?_
  obtain ⟨hs, rfl⟩ := gd_some h
  refine ⟨fun _ => ⟨rfl, rfl⟩, ?_⟩
  clear h
  cases hv : vTr t
  · rw [splitsV_f (by rw [hv]; simp)]
    simp (config := {maxSteps := 1000000}) (disch := omega) only [go_sem, ↓reduceIte, Nat.reduceEqDiff, Nat.reduceAdd, Nat.reduceMul, Nat.reduceSub, Nat.reduceLeDiff, Nat.reduceLT, Int.reduceToNat, Int.reduceLE, Int.reduceLT, Int.reduceNeg, h_ValidTreeI, mValidTree, h_isKey, mIsKey, h_GetKeyI, mGetKey, h_PathToI, mPathTo, drP_n, drP_c, logAt_n, logAt_c, disP_n, disP_c, notIn_n, notIn_c, hs, hv]
    try rfl
  · cases hk : inR key 0 99
    · rw [splitsV_f (by rw [hk]; simp)]
      simp (config := {maxSteps := 1000000}) (disch := omega) only [go_sem, ↓reduceIte, Nat.reduceEqDiff, Nat.reduceAdd, Nat.reduceMul, Nat.reduceSub, Nat.reduceLeDiff, Nat.reduceLT, Int.reduceToNat, Int.reduceLE, Int.reduceLT, Int.reduceNeg, h_ValidTreeI, mValidTree, h_isKey, mIsKey, h_GetKeyI, mGetKey, h_PathToI, mPathTo, drP_n, drP_c, logAt_n, logAt_c, disP_n, disP_c, notIn_n, notIn_c, hs, hv, hk]
      try rfl
    · have tv := vTr_iff.1 hv
      have hk' := inR_iff.1 hk
      rw [splitsV_t ⟨hv, hk⟩]
      have hg := getV_has (key := key) hv
      by_cases hm : key ∈ (pgAt t (leafT t key)).keys
      · rw [decide_eq_true hm] at hg
        rw [if_pos hm]
        simp (config := {maxSteps := 1000000}) (disch := omega) only [go_sem, ↓reduceIte, Nat.reduceEqDiff, Nat.reduceAdd, Nat.reduceMul, Nat.reduceSub, Nat.reduceLeDiff, Nat.reduceLT, Int.reduceToNat, Int.reduceLE, Int.reduceLT, Int.reduceNeg, h_ValidTreeI, mValidTree, h_isKey, mIsKey, h_GetKeyI, mGetKey, h_PathToI, mPathTo, drP_n, drP_c, logAt_n, logAt_c, disP_n, disP_c, notIn_n, notIn_c, hs, hv, hk, hg]
        try rfl
      · rw [decide_eq_false hm] at hg
        rw [if_neg hm]
        have ep := ptV_t (key := key) hv
        have pl := pathF_len t key (htT t) t.root
        have h2 := tv.ht
        have hpd := fun i hi => pathF_pd (key := key) tv.pd i hi
        generalize hw : pathF t key (htT t) t.root = w at *
        simp (config := {maxSteps := 1000000}) (disch := omega) only [go_sem, ↓reduceIte, Nat.reduceEqDiff, Nat.reduceAdd, Nat.reduceMul, Nat.reduceSub, Nat.reduceLeDiff, Nat.reduceLT, Int.reduceToNat, Int.reduceLE, Int.reduceLT, Int.reduceNeg, h_ValidTreeI, mValidTree, h_isKey, mIsKey, h_GetKeyI, mGetKey, h_PathToI, mPathTo, drP_n, drP_c, logAt_n, logAt_c, disP_n, disP_c, notIn_n, notIn_c, hs, hv, hk, hg, ep, hw, pl]
        refine W_loop_i (fun s => s.sl 2 = .ptr (3, 0) [] 0 0 ∧ s.hp (3, 0) = some ⟨2, 1, [eI t.root, ePgs false t.pages], fun _ => 0⟩ ∧ s.sl 7 = .ref (24, 0) [] 0 0 1 (htT t + 1) ∧ s.hp (24, 0) = some ⟨1, htT t + 1, w.map eI, fun _ => 0⟩ ∧ 24 < s.n ∧ ∃ c : Nat, c ≤ htT t + 1 ∧ s.sl 8 = eI c ∧ fullF t w (htT t) = c + (if c ≤ htT t then fullF t w (htT t - c) else 0)) (fun s => htT t + 1 - iN (s.sl 8)) ?_ ?_
        · exact ⟨rfl, rfl, rfl, rfl, by dsimp only [St.n]; omega, 0, Nat.zero_le _, rfl, by rw [if_pos (Nat.zero_le _), Nat.zero_add, Nat.sub_zero]⟩
        · rintro sl hp q ⟨j2, j3, j7, j22, jq, c, hc, j8, hf⟩
          dsimp only at j2 j3 j7 j22 jq j8
          by_cases hlt : c ≤ htT t
          · have g1 : decide ((c : Int) < ((htT t + 1 : Nat) : Int)) = true := decide_eq_true (by omega)
            have e1 : ((htT t + 1 : Nat) : Int) - 1 - c = ((htT t - c : Nat) : Int) := by omega
            have pd := hpd (htT t - c) (by omega)
            have hr := pd.rng
            obtain ⟨y, hy⟩ : ∃ y : Nat, w.getD (htT t - c) 0 = y := ⟨(w.getD (htT t - c) 0).toNat, by omega⟩
            rw [hy] at hr
            have hpa := pgAt_nat t y
            have hts := tr_small hs y
            rw [hpa] at hts
            rw [if_pos hlt] at hf
            by_cases h4 : (t.pages.getD y default).keys.length = 4
            · have e4 : decide (((t.pages.getD y default).keys.length : Int) = 4) = true := decide_eq_true (by omega)
              have hstep : fullF t w (htT t - c) = 1 + (if c + 1 ≤ htT t then fullF t w (htT t - (c + 1)) else 0) := by
                cases hl : htT t - c with
                | zero =>
                  rw [if_neg (by omega)]
                  rw [hl] at hy
                  simp only [fullF]
                  rw [hy, hpa, if_pos h4]
                | succ l =>
                  rw [if_pos (by omega), show htT t - (c + 1) = l by omega]
                  rw [hl] at hy
                  simp only [fullF]
                  rw [hy, hpa, if_pos h4]
                  omega
              generalize hP : t.pages.getD y default = P at *
              simp (config := {maxSteps := 1000000}) (disch := omega) only [go_sem, ↓reduceIte, Nat.reduceEqDiff, Nat.reduceAdd, Nat.reduceMul, Nat.reduceSub, Nat.reduceLeDiff, Nat.reduceLT, Int.reduceToNat, Int.reduceLE, Int.reduceLT, Int.reduceNeg, h_ValidTreeI, mValidTree, h_isKey, mIsKey, h_GetKeyI, mGetKey, h_PathToI, mPathTo, drP_n, drP_c, logAt_n, logAt_c, disP_n, disP_c, notIn_n, notIn_c, j2, j3, j7, j22, j8, g1, e1, hy, ePg, hP, e4]
              exact ⟨⟨c + 1, by omega, rfl, by rw [hf, hstep]; omega⟩, by omega⟩
            · have e4 : decide (((t.pages.getD y default).keys.length : Int) = 4) = false := decide_eq_false (by omega)
              have hstep : fullF t w (htT t - c) = 0 := by
                cases hl : htT t - c with
                | zero =>
                  rw [hl] at hy
                  simp only [fullF]
                  rw [hy, hpa, if_neg h4]
                | succ l =>
                  rw [hl] at hy
                  simp only [fullF]
                  rw [hy, hpa, if_neg h4]
              generalize hP : t.pages.getD y default = P at *
              simp (config := {maxSteps := 1000000}) (disch := omega) only [go_sem, ↓reduceIte, Nat.reduceEqDiff, Nat.reduceAdd, Nat.reduceMul, Nat.reduceSub, Nat.reduceLeDiff, Nat.reduceLT, Int.reduceToNat, Int.reduceLE, Int.reduceLT, Int.reduceNeg, h_ValidTreeI, mValidTree, h_isKey, mIsKey, h_GetKeyI, mGetKey, h_PathToI, mPathTo, drP_n, drP_c, logAt_n, logAt_c, disP_n, disP_c, notIn_n, notIn_c, j2, j3, j7, j22, j8, g1, e1, hy, ePg, hP, e4]
              rw [hf, hstep]
              try rfl
          · have g1 : decide ((c : Int) < ((htT t + 1 : Nat) : Int)) = false := decide_eq_false (by omega)
            rw [if_neg hlt] at hf
            simp (config := {maxSteps := 1000000}) (disch := omega) only [go_sem, ↓reduceIte, Nat.reduceEqDiff, Nat.reduceAdd, Nat.reduceMul, Nat.reduceSub, Nat.reduceLeDiff, Nat.reduceLT, Int.reduceToNat, Int.reduceLE, Int.reduceLT, Int.reduceNeg, h_ValidTreeI, mValidTree, h_isKey, mIsKey, h_GetKeyI, mGetKey, h_PathToI, mPathTo, drP_n, drP_c, logAt_n, logAt_c, disP_n, disP_c, notIn_n, notIn_c, j2, j3, j7, j22, j8, g1]
            rw [hf]
            try rfl
theorem fo_SplitsForI : FnOk Try.prog 42 := fnOk_of Try.func42 (by kernel_rfl)
theorem c_SplitsForI : Contract Try.prog 42 mSplitsFor :=
  contract_of_does (DT := fun id => match id with  | _ => []) Try.checked.mixed tabOk (gok_model fo_ValidTreeI c_ValidTreeI (gok_model fo_isKey c_isKey (gok_model fo_GetKeyI c_GetKeyI (gok_model fo_PathToI c_PathToI gok_nil)))) Try.func42 rfl (by kernel_rfl) (does_SplitsForI rfl rfl rfl rfl)


theorem does_FnExactSplitsFor {G : Nat → Option FM} (h_szTree : G 15 = some (.model mSzTree)) (h_toTree : G 17 = some (.model mToTree)) (h_SplitsForS : G 41 = some (.model mSplitsFor)) (h_SplitsForI : G 42 = some (.model mSplitsFor)) (h_eqTree : G 19 = some (.model mEqTree)) : Does T G (fun id => match id with | 10 => [(2, 0)] | _ => []) Try.f9 mLawTree2 := by
  refine does2 (rs := [.tmp 4]) rfl rfl fun t key ro h => ?_
  obtain ⟨⟨hs, hb⟩, rfl⟩ := gd_some h
  refine ⟨fun _ => ⟨rfl, rfl⟩, ?_⟩
  obtain ⟨z, hz⟩ : ∃ z, szPs t.pages 1048576 = z := ⟨_, rfl⟩
  by_cases h1 : z < 0
  · have e1 : decide (z < 0) = true := decide_eq_true h1
    simp (config := {maxSteps := 1000000}) (disch := omega) only [go_sem, ↓reduceIte, Nat.reduceEqDiff, Nat.reduceAdd, Nat.reduceMul, Nat.reduceSub, Nat.reduceLeDiff, Nat.reduceLT, Int.reduceToNat, Int.reduceLE, Int.reduceLT, Int.reduceNeg, h_szTree, mSzTree, h_toTree, mToTree, h_SplitsForS, mSplitsFor, h_SplitsForI, mSplitsFor, h_eqTree, mEqTree, drP_n, drP_c, logAt_n, logAt_c, disP_n, disP_c, notIn_n, notIn_c, hb, hz, e1]
  · have e1 : decide (z < 0) = false := decide_eq_false h1
    obtain ⟨h2, hsm⟩ := lawT_small hz h1
    simp (config := {maxSteps := 1000000}) (disch := omega) only [go_sem, ↓reduceIte, Nat.reduceEqDiff, Nat.reduceAdd, Nat.reduceMul, Nat.reduceSub, Nat.reduceLeDiff, Nat.reduceLT, Int.reduceToNat, Int.reduceLE, Int.reduceLT, Int.reduceNeg, h_szTree, mSzTree, h_toTree, mToTree, h_SplitsForS, mSplitsFor, h_SplitsForI, mSplitsFor, h_eqTree, mEqTree, drP_n, drP_c, logAt_n, logAt_c, disP_n, disP_c, notIn_n, notIn_c, hb, hz, e1, hsm]
theorem fo_FnExactSplitsFor : FnOk Try.prog 9 := fnOk_of Try.func9 (by kernel_rfl)
theorem c_FnExactSplitsFor : Contract Try.prog 9 mLawTree2 :=
  contract_of_does (DT := fun id => match id with | 10 => [(2, 0)] | _ => []) Try.checked.mixed tabOk (gok_model fo_szTree c_szTree (gok_model fo_toTree c_toTree (gok_model fo_SplitsForS c_SplitsForS (gok_model fo_SplitsForI c_SplitsForI (gok_model fo_eqTree c_eqTree gok_nil))))) Try.func9 rfl (by kernel_rfl) (does_FnExactSplitsFor rfl rfl rfl rfl rfl)

theorem fn_FnExactSplitsFor (t : Tr) (h : TrW t) (x : Int) (hx : intWf .i64 x) : mLawTree2.fn [eTr false t, eI x] = some (.b true, []) := by
  obtain ⟨h1, h2⟩ := bigP_of h
  simp (config := {maxSteps := 1000000}) (disch := omega) only [go_sem, ↓reduceIte, Nat.reduceEqDiff, Nat.reduceAdd, Nat.reduceMul, Nat.reduceSub, Nat.reduceLeDiff, Nat.reduceLT, Int.reduceToNat, Int.reduceLE, Int.reduceLT, Int.reduceNeg, mLawTree2, h2]

set_option linter.unusedVariables false
set_option linter.unusedSimpArgs false
set_option maxRecDepth 100000
set_option maxHeartbeats 4000000

theorem does_sameInts {G : Nat → Option FM}  : Does T G (fun id => match id with  | _ => []) Try.f136 mEqualI := by
  refine does2 (rs := [.tmp 4]) rfl rfl fun xs ys ro h => ?_
  obtain ⟨⟨hs, hs2⟩, rfl⟩ := gd_some h
  refine ⟨fun _ => ⟨rfl, rfl⟩, ?_⟩
  clear h
  simp (config := {maxSteps := 1000000}) (disch := omega) only [go_sem, ↓reduceIte, Nat.reduceEqDiff, Nat.reduceAdd, Nat.reduceMul, Nat.reduceSub, Nat.reduceLeDiff, Nat.reduceLT, Int.reduceToNat, Int.reduceLE, Int.reduceLT, Int.reduceNeg, drP_n, drP_c, logAt_n, logAt_c, disP_n, disP_c, notIn_n, notIn_c]
  refine W_loop_i (fun s => s.sl 0 = eIs false xs ∧ s.sl 1 = eIs false ys ∧ ∃ k : Nat, k ≤ xs.length ∧ k ≤ ys.length ∧ s.sl 5 = eI k ∧ ∀ i, i < k → xs.getD i 0 = ys.getD i 0) (fun s => xs.length - iN (s.sl 5)) ?_ ?_
  · exact ⟨rfl, rfl, 0, Nat.zero_le _, Nat.zero_le _, rfl, fun i hi => by omega⟩
  · rintro sl hp q ⟨h0, h1, k, hk, hk2, h5, hall⟩
    dsimp only at h0 h1 h5
    by_cases g1' : k < xs.length
    · have g1 : decide ((k : Int) < (xs.length : Int)) = true := decide_eq_true (by omega)
      by_cases g2' : k < ys.length
      · have g2 : decide ((k : Int) < (ys.length : Int)) = true := decide_eq_true (by omega)
        by_cases hc : xs.getD k 0 = ys.getD k 0
        · have e1 : decide (xs.getD k 0 ≠ ys.getD k 0) = false := decide_eq_false fun h => h hc
          have e2 : decide (xs.getD k 0 = ys.getD k 0) = true := decide_eq_true hc
          simp (config := {maxSteps := 1000000}) (disch := omega) only [go_sem, ↓reduceIte, Nat.reduceEqDiff, Nat.reduceAdd, Nat.reduceMul, Nat.reduceSub, Nat.reduceLeDiff, Nat.reduceLT, Int.reduceToNat, Int.reduceLE, Int.reduceLT, Int.reduceNeg, drP_n, drP_c, logAt_n, logAt_c, disP_n, disP_c, notIn_n, notIn_c, h0, h1, h5, g1, g2, e1, e2]
          refine ⟨⟨k + 1, by omega, by omega, rfl, fun i hi => ?_⟩, by omega⟩
          by_cases hik : i = k
          · rw [hik]; exact hc
          · exact hall i (by omega)
        · have e1 : decide (xs.getD k 0 ≠ ys.getD k 0) = true := decide_eq_true hc
          have e2 : decide (xs.getD k 0 = ys.getD k 0) = false := decide_eq_false hc
          simp (config := {maxSteps := 1000000}) (disch := omega) only [go_sem, ↓reduceIte, Nat.reduceEqDiff, Nat.reduceAdd, Nat.reduceMul, Nat.reduceSub, Nat.reduceLeDiff, Nat.reduceLT, Int.reduceToNat, Int.reduceLE, Int.reduceLT, Int.reduceNeg, drP_n, drP_c, logAt_n, logAt_c, disP_n, disP_c, notIn_n, notIn_c, h0, h1, h5, g1, g2, e1, e2]
          rw [decide_eq_false]
          rintro rfl
          exact hc rfl
      · have g2 : decide ((k : Int) < (ys.length : Int)) = false := decide_eq_false (by omega)
        have e3 : decide ((xs.length : Int) = (ys.length : Int)) = false := decide_eq_false (by omega)
        simp (config := {maxSteps := 1000000}) (disch := omega) only [go_sem, ↓reduceIte, Nat.reduceEqDiff, Nat.reduceAdd, Nat.reduceMul, Nat.reduceSub, Nat.reduceLeDiff, Nat.reduceLT, Int.reduceToNat, Int.reduceLE, Int.reduceLT, Int.reduceNeg, drP_n, drP_c, logAt_n, logAt_c, disP_n, disP_c, notIn_n, notIn_c, h0, h1, h5, g1, g2, e3]
        rw [decide_eq_false]
        rintro rfl
        exact g2' g1'
    · have g1 : decide ((k : Int) < (xs.length : Int)) = false := decide_eq_false (by omega)
      obtain rfl : k = xs.length := by omega
      by_cases hl : xs.length = ys.length
      · have e3 : decide ((xs.length : Int) = (ys.length : Int)) = true := decide_eq_true (by omega)
        simp (config := {maxSteps := 1000000}) (disch := omega) only [go_sem, ↓reduceIte, Nat.reduceEqDiff, Nat.reduceAdd, Nat.reduceMul, Nat.reduceSub, Nat.reduceLeDiff, Nat.reduceLT, Int.reduceToNat, Int.reduceLE, Int.reduceLT, Int.reduceNeg, drP_n, drP_c, logAt_n, logAt_c, disP_n, disP_c, notIn_n, notIn_c, h0, h1, h5, g1, e3]
        rw [decide_eq_true (list_ext (d := 0) hl fun i hi => hall i (by omega))]
      · have e3 : decide ((xs.length : Int) = (ys.length : Int)) = false := decide_eq_false (by omega)
        simp (config := {maxSteps := 1000000}) (disch := omega) only [go_sem, ↓reduceIte, Nat.reduceEqDiff, Nat.reduceAdd, Nat.reduceMul, Nat.reduceSub, Nat.reduceLeDiff, Nat.reduceLT, Int.reduceToNat, Int.reduceLE, Int.reduceLT, Int.reduceNeg, drP_n, drP_c, logAt_n, logAt_c, disP_n, disP_c, notIn_n, notIn_c, h0, h1, h5, g1, e3]
        rw [decide_eq_false]
        rintro rfl
        exact hl rfl
theorem fo_sameInts : FnOk Try.prog 136 := fnOk_of Try.func136 (by kernel_rfl)
theorem c_sameInts : Contract Try.prog 136 mEqualI :=
  contract_of_does (DT := fun id => match id with  | _ => []) Try.checked.mixed tabOk gok_nil Try.func136 rfl (by kernel_rfl) (does_sameInts )


def pgE (p q : Pg) : Bool := decide (p.keys = q.keys) && (decide (p.kids = q.kids) && decide (p.vals = q.vals))
def mSamePage : Model := M2 .ro .ro true (cPage false) (cPage false) fun p q => gd ((p.keys.length ≤ 1099511627776 ∧ p.kids.length ≤ 1099511627776 ∧ p.vals.length ≤ 1099511627776) ∧ q.keys.length ≤ 1099511627776 ∧ q.kids.length ≤ 1099511627776 ∧ q.vals.length ≤ 1099511627776) (.b (pgE p q), [])

theorem does_samePageS {G : Nat → Option FM} (h_sameInts : G 136 = some (.model mEqualI)) : Does T G (fun id => match id with  | _ => []) Try.f81 mSamePage := by
  refine does2 (rs := [.tmp 4]) rfl rfl fun p p2 ro h => ?_
  obtain ⟨⟨⟨a1, a2, a3⟩, b1, b2, b3⟩, rfl⟩ := gd_some h
  refine ⟨fun _ => ⟨rfl, rfl⟩, ?_⟩
  clear h
  unfold pgE
  cases h1 : decide (p.keys = p2.keys)
  · simp (config := {maxSteps := 1000000}) (disch := omega) only [go_sem, ↓reduceIte, Nat.reduceEqDiff, Nat.reduceAdd, Nat.reduceMul, Nat.reduceSub, Nat.reduceLeDiff, Nat.reduceLT, Int.reduceToNat, Int.reduceLE, Int.reduceLT, Int.reduceNeg, h_sameInts, mEqualI, drP_n, drP_c, logAt_n, logAt_c, disP_n, disP_c, notIn_n, notIn_c, h1]
    try rfl
  · cases h2 : decide (p.kids = p2.kids)
    · simp (config := {maxSteps := 1000000}) (disch := omega) only [go_sem, ↓reduceIte, Nat.reduceEqDiff, Nat.reduceAdd, Nat.reduceMul, Nat.reduceSub, Nat.reduceLeDiff, Nat.reduceLT, Int.reduceToNat, Int.reduceLE, Int.reduceLT, Int.reduceNeg, h_sameInts, mEqualI, drP_n, drP_c, logAt_n, logAt_c, disP_n, disP_c, notIn_n, notIn_c, h1, h2]
      try rfl
    · simp (config := {maxSteps := 1000000}) (disch := omega) only [go_sem, ↓reduceIte, Nat.reduceEqDiff, Nat.reduceAdd, Nat.reduceMul, Nat.reduceSub, Nat.reduceLeDiff, Nat.reduceLT, Int.reduceToNat, Int.reduceLE, Int.reduceLT, Int.reduceNeg, h_sameInts, mEqualI, drP_n, drP_c, logAt_n, logAt_c, disP_n, disP_c, notIn_n, notIn_c, h1, h2]
      try rfl
theorem fo_samePageS : FnOk Try.prog 81 := fnOk_of Try.func81 (by kernel_rfl)
theorem c_samePageS : Contract Try.prog 81 mSamePage :=
  contract_of_does (DT := fun id => match id with  | _ => []) Try.checked.mixed tabOk (gok_model fo_sameInts c_sameInts gok_nil) Try.func81 rfl (by kernel_rfl) (does_samePageS rfl)


theorem does_samePageI {G : Nat → Option FM} (h_equalI : G 137 = some (.model mEqualI)) : Does T G (fun id => match id with  | _ => []) Try.f82 mSamePage := by
  refine does2 (rs := [.tmp 4]) rfl rfl fun p p2 ro h => ?_
  obtain ⟨⟨⟨a1, a2, a3⟩, b1, b2, b3⟩, rfl⟩ := gd_some h
  refine ⟨fun _ => ⟨rfl, rfl⟩, ?_⟩
  clear h
  unfold pgE
  cases h1 : decide (p.keys = p2.keys)
  · simp (config := {maxSteps := 1000000}) (disch := omega) only [go_sem, ↓reduceIte, Nat.reduceEqDiff, Nat.reduceAdd, Nat.reduceMul, Nat.reduceSub, Nat.reduceLeDiff, Nat.reduceLT, Int.reduceToNat, Int.reduceLE, Int.reduceLT, Int.reduceNeg, h_equalI, mEqualI, drP_n, drP_c, logAt_n, logAt_c, disP_n, disP_c, notIn_n, notIn_c, h1]
    try rfl
  · cases h2 : decide (p.kids = p2.kids)
    · simp (config := {maxSteps := 1000000}) (disch := omega) only [go_sem, ↓reduceIte, Nat.reduceEqDiff, Nat.reduceAdd, Nat.reduceMul, Nat.reduceSub, Nat.reduceLeDiff, Nat.reduceLT, Int.reduceToNat, Int.reduceLE, Int.reduceLT, Int.reduceNeg, h_equalI, mEqualI, drP_n, drP_c, logAt_n, logAt_c, disP_n, disP_c, notIn_n, notIn_c, h1, h2]
      try rfl
    · simp (config := {maxSteps := 1000000}) (disch := omega) only [go_sem, ↓reduceIte, Nat.reduceEqDiff, Nat.reduceAdd, Nat.reduceMul, Nat.reduceSub, Nat.reduceLeDiff, Nat.reduceLT, Int.reduceToNat, Int.reduceLE, Int.reduceLT, Int.reduceNeg, h_equalI, mEqualI, drP_n, drP_c, logAt_n, logAt_c, disP_n, disP_c, notIn_n, notIn_c, h1, h2]
      try rfl
theorem fo_samePageI : FnOk Try.prog 82 := fnOk_of Try.func82 (by kernel_rfl)
theorem c_samePageI : Contract Try.prog 82 mSamePage :=
  contract_of_does (DT := fun id => match id with  | _ => []) Try.checked.mixed tabOk (gok_model fo_equalI c_equalI gok_nil) Try.func82 rfl (by kernel_rfl) (does_samePageI rfl)


def chg (a b : List Pg) : Nat → List Int
  | 0 => []
  | k + 1 => if pgE (a.getD k default) (b.getD k default) = true then chg a b k else chg a b k ++ [(k : Int)]
theorem chg_len (a b : List Pg) : ∀ k, (chg a b k).length ≤ k
  | 0 => Nat.le_refl _
  | k + 1 => by
    have := chg_len a b k
    simp only [chg]
    split
    · omega
    · rw [List.length_append, List.length_singleton]; omega
theorem chg_t {a b : List Pg} {k : Nat} (h : pgE (a.getD k default) (b.getD k default) = true) : chg a b (k + 1) = chg a b k := if_pos h
theorem chg_f {a b : List Pg} {k : Nat} (h : pgE (a.getD k default) (b.getD k default) = false) : chg a b (k + 1) = chg a b k ++ [(k : Int)] := if_neg (by rw [h]; simp)
noncomputable def chV (t : Tr) (x : Pr) : List Int := if (putKV t x).2 = true then chg t.pages (putKV t x).1.pages t.pages.length else []
theorem chV_t {t : Tr} {x : Pr} (h : (putKV t x).2 = true) : chV t x = chg t.pages (putKV t x).1.pages t.pages.length := if_pos h
theorem chV_f {t : Tr} {x : Pr} (h : (putKV t x).2 = false) : chV t x = [] := if_neg (by rw [h]; simp)
theorem putKV_len {t : Tr} {x : Pr} (h : (putKV t x).2 = true) : t.pages.length ≤ (putKV t x).1.pages.length ∧ t.pages.length ≤ 16 := by
  by_cases hc : vTr t = true ∧ (inR x.1 0 99 = true ∧ inR x.2 (-1000) 1000 = true) ∧ vTr (putT t x) = true
  · rw [putKV_t hc]
    refine ⟨?_, (vTr_iff.1 hc.1).len.2⟩
    have h1 := putUp_len (pathF t x.1 (htT t) t.root) (htT t) (putL t x)
    have h2 : (putL t x).pages.length = t.pages.length := List.length_set
    show t.pages.length ≤ (putUp _ _ _).pages.length
    omega
  · rw [putKV_f hc] at h
    cases h
theorem chV_len (t : Tr) (x : Pr) : (chV t x).length ≤ 16 := by
  cases h : (putKV t x).2
  · rw [chV_f h]; exact Nat.zero_le _
  · rw [chV_t h]
    have h1 := chg_len t.pages (putKV t x).1.pages t.pages.length
    have h2 := (putKV_len h).2
    omega
noncomputable def mChanged : Model := M2 .ro .ro true (cTr false) cPair fun t x => gd (smT t.pages = true) (eIs true (chV t x), [])

theorem does_ChangedPagesS {G : Nat → Option FM} (h_PutKeyS : G 35 = some (.model mPutKey)) (h_samePageS : G 81 = some (.model mSamePage)) : Does T G (fun id => match id with  | _ => []) Try.f38 mChanged := by
  refine does2 (rs := [.tmp 4]) rfl rfl fun t x ro h => ?_
  obtain ⟨hs, rfl⟩ := gd_some h
  refine ⟨fun _ => ⟨by simp only [cleanA]; exact clean_ints _, rfl⟩, ?_⟩
  clear h
  have la := putKV_sm t x
  have hln := putKV_len (t := t) (x := x)
  obtain ⟨a, b⟩ := x
  cases hb : (putKV t (a, b)).2
  · rw [chV_f hb]
    simp (config := {maxSteps := 1000000}) (disch := omega) only [go_sem, ↓reduceIte, Nat.reduceEqDiff, Nat.reduceAdd, Nat.reduceMul, Nat.reduceSub, Nat.reduceLeDiff, Nat.reduceLT, Int.reduceToNat, Int.reduceLE, Int.reduceLT, Int.reduceNeg, h_PutKeyS, mPutKey, h_samePageS, mSamePage, drP_n, drP_c, logAt_n, logAt_c, disP_n, disP_c, notIn_n, notIn_c, hs, hb]
    try rfl
  · rw [chV_t hb]
    obtain ⟨hl1, hl2⟩ := hln hb
    generalize hT : (putKV t (a, b)).1 = U at *
    have hsU := la.sm
    simp (config := {maxSteps := 1000000}) (disch := omega) only [go_sem, ↓reduceIte, Nat.reduceEqDiff, Nat.reduceAdd, Nat.reduceMul, Nat.reduceSub, Nat.reduceLeDiff, Nat.reduceLT, Int.reduceToNat, Int.reduceLE, Int.reduceLT, Int.reduceNeg, h_PutKeyS, mPutKey, h_samePageS, mSamePage, drP_n, drP_c, logAt_n, logAt_c, disP_n, disP_c, notIn_n, notIn_c, hs, hb, hT]
    refine W_loop_i (fun s => s.sl 2 = .ptr (3, 0) [] 0 0 ∧ s.hp (3, 0) = some ⟨2, 1, [eI t.root, ePgs false t.pages], fun _ => 0⟩ ∧ s.sl 6 = .ptr (14, 0) [] 0 0 ∧ (∃ v, s.hp (14, 0) = some ⟨2, 1, [eI U.root, .s true 3 U.pages.length (U.pages.flatMap (ePg true))], v⟩) ∧ 14 < s.n ∧ ∃ k m : Nat, k ≤ t.pages.length ∧ s.sl 8 = eI k ∧ m ≠ 3 ∧ m ≠ 14 ∧ m < s.n ∧ s.sl 5 = .ref (m, 0) [] 0 0 1 (chg t.pages U.pages k).length ∧ s.hp (m, 0) = some ⟨1, (chg t.pages U.pages k).length, (chg t.pages U.pages k).map eI, fun _ => 0⟩) (fun s => t.pages.length - iN (s.sl 8)) ?_ ?_
    · exact ⟨rfl, rfl, rfl, ⟨_, rfl⟩, by dsimp only [St.n]; omega, 0, 6, Nat.zero_le _, rfl, by omega, by omega, by dsimp only [St.n]; omega, rfl, rfl⟩
    · rintro sl hp q ⟨j2, j3, j6, ⟨v, j20⟩, jq, k, m, hk, j8, hm3, hm20, hmq, j5, jm⟩
      dsimp only at j2 j3 j6 j20 jq j8 hmq j5 jm
      have cl := chg_len t.pages U.pages k
      by_cases g1' : k < t.pages.length
      · have g1 : decide ((k : Int) < (t.pages.length : Int)) = true := decide_eq_true (by omega)
        have s1 := tr_small hs k
        have s2 := tr_small hsU k
        have ct := chg_t (a := t.pages) (b := U.pages) (k := k)
        have cf := chg_f (a := t.pages) (b := U.pages) (k := k)
        rw [pgAt_nat] at s1 s2
        generalize hP : t.pages.getD k default = P at *
        generalize hP2 : U.pages.getD k default = P2 at *
        cases he : pgE P P2
        · have cf := cf he
          simp (config := {maxSteps := 1000000}) (disch := omega) only [go_sem, ↓reduceIte, Nat.reduceEqDiff, Nat.reduceAdd, Nat.reduceMul, Nat.reduceSub, Nat.reduceLeDiff, Nat.reduceLT, Int.reduceToNat, Int.reduceLE, Int.reduceLT, Int.reduceNeg, h_PutKeyS, mPutKey, h_samePageS, mSamePage, drP_n, drP_c, logAt_n, logAt_c, disP_n, disP_c, notIn_n, notIn_c, j2, j3, j6, j20, j8, j5, jm, g1, ePg, hP, hP2, he]
          refine ⟨⟨⟨_, rfl⟩, k + 1, q + 5 + 12 + 3, by omega, rfl, by omega, by omega, by omega, by rw [cf, List.length_append]; rfl, ?_⟩, by omega⟩
          rw [upd_same, cf, List.length_append, List.map_append, List.take_of_length_le (by simp)]
          rfl
        · have ct := ct he
          simp (config := {maxSteps := 1000000}) (disch := omega) only [go_sem, ↓reduceIte, Nat.reduceEqDiff, Nat.reduceAdd, Nat.reduceMul, Nat.reduceSub, Nat.reduceLeDiff, Nat.reduceLT, Int.reduceToNat, Int.reduceLE, Int.reduceLT, Int.reduceNeg, h_PutKeyS, mPutKey, h_samePageS, mSamePage, drP_n, drP_c, logAt_n, logAt_c, disP_n, disP_c, notIn_n, notIn_c, j2, j3, j6, j20, j8, j5, jm, g1, ePg, hP, hP2, he]
          exact ⟨⟨⟨_, rfl⟩, k + 1, m, by omega, rfl, hm3, hm20, by omega, by rw [ct], by rw [ct]; exact jm⟩, by omega⟩
      · have g1 : decide ((k : Int) < (t.pages.length : Int)) = false := decide_eq_false (by omega)
        obtain rfl : k = t.pages.length := by omega
        simp (config := {maxSteps := 1000000}) (disch := omega) only [go_sem, ↓reduceIte, Nat.reduceEqDiff, Nat.reduceAdd, Nat.reduceMul, Nat.reduceSub, Nat.reduceLeDiff, Nat.reduceLT, Int.reduceToNat, Int.reduceLE, Int.reduceLT, Int.reduceNeg, h_PutKeyS, mPutKey, h_samePageS, mSamePage, drP_n, drP_c, logAt_n, logAt_c, disP_n, disP_c, notIn_n, notIn_c, j2, j3, j6, j20, j8, j5, jm, g1]
        try rfl
theorem fo_ChangedPagesS : FnOk Try.prog 38 := fnOk_of Try.func38 (by kernel_rfl)
theorem c_ChangedPagesS : Contract Try.prog 38 mChanged :=
  contract_of_does (DT := fun id => match id with  | _ => []) Try.checked.mixed tabOk (gok_model fo_PutKeyS c_PutKeyS (gok_model fo_samePageS c_samePageS gok_nil)) Try.func38 rfl (by kernel_rfl) (does_ChangedPagesS rfl rfl)


theorem does_ChangedPagesI {G : Nat → Option FM} (h_PutKeyI : G 37 = some (.model mPutKey)) (h_samePageI : G 82 = some (.model mSamePage)) : Does T G (fun id => match id with  | _ => []) Try.f39 mChanged := by
  refine does2 (rs := [.tmp 4]) rfl rfl fun t x ro h => ?_
  obtain ⟨hs, rfl⟩ := gd_some h
  refine ⟨fun _ => ⟨by simp only [cleanA]; exact clean_ints _, rfl⟩, ?_⟩
  clear h
  have la := putKV_sm t x
  have hln := putKV_len (t := t) (x := x)
  obtain ⟨a, b⟩ := x
  cases hb : (putKV t (a, b)).2
  · rw [chV_f hb]
    simp (config := {maxSteps := 1000000}) (disch := omega) only [go_sem, ↓reduceIte, Nat.reduceEqDiff, Nat.reduceAdd, Nat.reduceMul, Nat.reduceSub, Nat.reduceLeDiff, Nat.reduceLT, Int.reduceToNat, Int.reduceLE, Int.reduceLT, Int.reduceNeg, h_PutKeyI, mPutKey, h_samePageI, mSamePage, drP_n, drP_c, logAt_n, logAt_c, disP_n, disP_c, notIn_n, notIn_c, hs, hb]
    try rfl
  · rw [chV_t hb]
    obtain ⟨hl1, hl2⟩ := hln hb
    generalize hT : (putKV t (a, b)).1 = U at *
    have hsU := la.sm
    simp (config := {maxSteps := 1000000}) (disch := omega) only [go_sem, ↓reduceIte, Nat.reduceEqDiff, Nat.reduceAdd, Nat.reduceMul, Nat.reduceSub, Nat.reduceLeDiff, Nat.reduceLT, Int.reduceToNat, Int.reduceLE, Int.reduceLT, Int.reduceNeg, h_PutKeyI, mPutKey, h_samePageI, mSamePage, drP_n, drP_c, logAt_n, logAt_c, disP_n, disP_c, notIn_n, notIn_c, hs, hb, hT]
    refine W_loop_i (fun s => s.sl 19 = ePgs false t.pages ∧ s.sl 20 = eI t.pages.length ∧ s.sl 5 = .ptr (12, 0) [] 0 0 ∧ (∃ v, s.hp (12, 0) = some ⟨2, 1, [eI U.root, .s true 3 U.pages.length (U.pages.flatMap (ePg true))], v⟩) ∧ 12 < s.n ∧ ∃ k : Nat, k ≤ t.pages.length ∧ s.sl 21 = eI k ∧ (((chg t.pages U.pages k).length = 0 ∧ s.sl 7 = .s true 1 0 []) ∨ (0 < (chg t.pages U.pages k).length ∧ ∃ m : Nat, m ≠ 12 ∧ m < s.n ∧ s.sl 7 = .ref (m, 0) [] 0 0 1 (chg t.pages U.pages k).length ∧ s.hp (m, 0) = some ⟨1, (chg t.pages U.pages k).length, (chg t.pages U.pages k).map eI, fun _ => 0⟩))) (fun s => t.pages.length - iN (s.sl 21)) ?_ ?_
    · exact ⟨rfl, rfl, rfl, ⟨_, rfl⟩, by dsimp only [St.n]; omega, 0, Nat.zero_le _, rfl, .inl ⟨rfl, rfl⟩⟩
    · rintro sl hp q ⟨j19, j20, j5, ⟨v, j14⟩, jq, k, hk, j21, hf⟩
      dsimp only at j19 j20 j5 j14 jq j21 hf
      have cl := chg_len t.pages U.pages k
      by_cases g1' : k < t.pages.length
      · have g1 : decide ((k : Int) < (t.pages.length : Int)) = true := decide_eq_true (by omega)
        have s1 := tr_small hs k
        have s2 := tr_small hsU k
        have ct := chg_t (a := t.pages) (b := U.pages) (k := k)
        have cf := chg_f (a := t.pages) (b := U.pages) (k := k)
        rw [pgAt_nat] at s1 s2
        generalize hP : t.pages.getD k default = P at *
        generalize hP2 : U.pages.getD k default = P2 at *
        cases he : pgE P P2
        · have cf := cf he
          rcases hf with ⟨f0, j7⟩ | ⟨f0, m, hm14, hmq, j7, jm⟩
          · rw [List.length_eq_zero_iff.1 f0, List.nil_append] at cf
            simp (config := {maxSteps := 1000000}) (disch := omega) only [go_sem, ↓reduceIte, Nat.reduceEqDiff, Nat.reduceAdd, Nat.reduceMul, Nat.reduceSub, Nat.reduceLeDiff, Nat.reduceLT, Int.reduceToNat, Int.reduceLE, Int.reduceLT, Int.reduceNeg, h_PutKeyI, mPutKey, h_samePageI, mSamePage, drP_n, drP_c, logAt_n, logAt_c, disP_n, disP_c, notIn_n, notIn_c, j19, j20, j5, j14, j21, j7, g1, ePg, hP, hP2, he]
            exact ⟨⟨⟨_, rfl⟩, k + 1, by omega, rfl, .inr ⟨by rw [cf]; exact Nat.one_pos, q + 1 + 6 + 8 + 3, by omega, by omega, by rw [cf]; rfl, by rw [upd_same, cf]; rfl⟩⟩, by omega⟩
          · simp (config := {maxSteps := 1000000}) (disch := omega) only [go_sem, ↓reduceIte, Nat.reduceEqDiff, Nat.reduceAdd, Nat.reduceMul, Nat.reduceSub, Nat.reduceLeDiff, Nat.reduceLT, Int.reduceToNat, Int.reduceLE, Int.reduceLT, Int.reduceNeg, h_PutKeyI, mPutKey, h_samePageI, mSamePage, drP_n, drP_c, logAt_n, logAt_c, disP_n, disP_c, notIn_n, notIn_c, j19, j20, j5, j14, j21, j7, jm, g1, ePg, hP, hP2, he]
            exact ⟨⟨⟨_, rfl⟩, k + 1, by omega, rfl, .inr ⟨by rw [cf, List.length_append]; exact Nat.succ_pos _, q + 1 + 6 + 8 + 3, by omega, by omega, by rw [cf, List.length_append]; rfl, by rw [upd_same, cf, List.length_append, List.map_append, List.take_of_length_le (by simp)]; rfl⟩⟩, by omega⟩
        · have ct := ct he
          rcases hf with ⟨f0, j7⟩ | ⟨f0, m, hm14, hmq, j7, jm⟩
          · simp (config := {maxSteps := 1000000}) (disch := omega) only [go_sem, ↓reduceIte, Nat.reduceEqDiff, Nat.reduceAdd, Nat.reduceMul, Nat.reduceSub, Nat.reduceLeDiff, Nat.reduceLT, Int.reduceToNat, Int.reduceLE, Int.reduceLT, Int.reduceNeg, h_PutKeyI, mPutKey, h_samePageI, mSamePage, drP_n, drP_c, logAt_n, logAt_c, disP_n, disP_c, notIn_n, notIn_c, j19, j20, j5, j14, j21, j7, g1, ePg, hP, hP2, he]
            exact ⟨⟨⟨_, rfl⟩, k + 1, by omega, rfl, .inl (by rw [ct]; exact f0)⟩, by omega⟩
          · simp (config := {maxSteps := 1000000}) (disch := omega) only [go_sem, ↓reduceIte, Nat.reduceEqDiff, Nat.reduceAdd, Nat.reduceMul, Nat.reduceSub, Nat.reduceLeDiff, Nat.reduceLT, Int.reduceToNat, Int.reduceLE, Int.reduceLT, Int.reduceNeg, h_PutKeyI, mPutKey, h_samePageI, mSamePage, drP_n, drP_c, logAt_n, logAt_c, disP_n, disP_c, notIn_n, notIn_c, j19, j20, j5, j14, j21, j7, jm, g1, ePg, hP, hP2, he]
            exact ⟨⟨⟨_, rfl⟩, k + 1, by omega, rfl, .inr ⟨by rw [ct]; exact f0, m, hm14, by omega, by rw [ct], by simp (config := {maxSteps := 1000000}) (disch := omega) only [go_sem, ↓reduceIte, Nat.reduceEqDiff, Nat.reduceAdd, Nat.reduceMul, Nat.reduceSub, Nat.reduceLeDiff, Nat.reduceLT, Int.reduceToNat, Int.reduceLE, Int.reduceLT, Int.reduceNeg, h_PutKeyI, mPutKey, h_samePageI, mSamePage, drP_n, drP_c, logAt_n, logAt_c, disP_n, disP_c, notIn_n, notIn_c, jm, ct]⟩⟩, by omega⟩
      · have g1 : decide ((k : Int) < (t.pages.length : Int)) = false := decide_eq_false (by omega)
        obtain rfl : k = t.pages.length := by omega
        rcases hf with ⟨f0, j7⟩ | ⟨f0, m, hm14, hmq, j7, jm⟩
        · simp (config := {maxSteps := 1000000}) (disch := omega) only [go_sem, ↓reduceIte, Nat.reduceEqDiff, Nat.reduceAdd, Nat.reduceMul, Nat.reduceSub, Nat.reduceLeDiff, Nat.reduceLT, Int.reduceToNat, Int.reduceLE, Int.reduceLT, Int.reduceNeg, h_PutKeyI, mPutKey, h_samePageI, mSamePage, drP_n, drP_c, logAt_n, logAt_c, disP_n, disP_c, notIn_n, notIn_c, j19, j20, j5, j14, j21, j7, g1]
          rw [List.length_eq_zero_iff.1 f0]
          try rfl
        · simp (config := {maxSteps := 1000000}) (disch := omega) only [go_sem, ↓reduceIte, Nat.reduceEqDiff, Nat.reduceAdd, Nat.reduceMul, Nat.reduceSub, Nat.reduceLeDiff, Nat.reduceLT, Int.reduceToNat, Int.reduceLE, Int.reduceLT, Int.reduceNeg, h_PutKeyI, mPutKey, h_samePageI, mSamePage, drP_n, drP_c, logAt_n, logAt_c, disP_n, disP_c, notIn_n, notIn_c, j19, j20, j5, j14, j21, j7, jm, g1]
          try rfl
theorem fo_ChangedPagesI : FnOk Try.prog 39 := fnOk_of Try.func39 (by kernel_rfl)
theorem c_ChangedPagesI : Contract Try.prog 39 mChanged :=
  contract_of_does (DT := fun id => match id with  | _ => []) Try.checked.mixed tabOk (gok_model fo_PutKeyI c_PutKeyI (gok_model fo_samePageI c_samePageI gok_nil)) Try.func39 rfl (by kernel_rfl) (does_ChangedPagesI rfl rfl)


theorem does_FnExactChangedPages {G : Nat → Option FM} (h_szTree : G 15 = some (.model mSzTree)) (h_toTree : G 17 = some (.model mToTree)) (h_toPair : G 36 = some (.model mToPair)) (h_ChangedPagesS : G 38 = some (.model mChanged)) (h_ChangedPagesI : G 39 = some (.model mChanged)) (h_eqTree : G 19 = some (.model mEqTree)) (h_eqIntS : G 25 = some (.model mEqIntS)) (h_markTree : G 20 = some (.each 2 [1] mMarkPageS)) (h_markIntS : G 26 = some (.model mMarkIntS)) (h_heldIntS : G 40 = some (.model mHeldIntS)) : Does T G (fun id => match id with | 5 => [(1, 2)] | 7 => [(2, 0)] | 10 => [(2, 0)] | 24 => [(1, 2)] | _ => []) Try.f8 mLawTreeP := by
  refine does2 (rs := [.tmp 4]) rfl rfl fun t x ro h => ?_
  obtain ⟨⟨hs, hb⟩, rfl⟩ := gd_some h
  refine ⟨fun _ => ⟨rfl, rfl⟩, ?_⟩
  obtain ⟨z, hz⟩ : ∃ z, szPs t.pages 1048576 = z := ⟨_, rfl⟩
  have la := chV_len t x
  generalize ha : chV t x = a at la
  by_cases h1 : z < 0
  · have e1 : decide (z < 0) = true := decide_eq_true h1
    simp (config := {maxSteps := 1000000}) (disch := omega) only [go_sem, ↓reduceIte, Nat.reduceEqDiff, Nat.reduceAdd, Nat.reduceMul, Nat.reduceSub, Nat.reduceLeDiff, Nat.reduceLT, Int.reduceToNat, Int.reduceLE, Int.reduceLT, Int.reduceNeg, h_szTree, mSzTree, h_toTree, mToTree, h_toPair, mToPair, h_ChangedPagesS, mChanged, h_ChangedPagesI, mChanged, h_eqTree, mEqTree, h_eqIntS, mEqIntS, h_markTree, mMarkPageS, h_markIntS, mMarkIntS, h_heldIntS, mHeldIntS, drP_n, drP_c, logAt_n, logAt_c, disP_n, disP_c, notIn_n, notIn_c, ePr, hb, hz, e1]
  · have e1 : decide (z < 0) = false := decide_eq_false h1
    obtain ⟨h2, hsm⟩ := lawT_small hz h1
    have m1 := marks_len a.length 1
    have e2 : decide (1 + (tot t.pages : Int) < 0) = false := decide_eq_false (by omega)
    have e3 : decide (1 + (a.length : Int) < 0) = false := decide_eq_false (by omega)
    have hfl : ((mkPs t.pages 1).flatMap (ePg true)).length = (t.pages.flatMap (ePg true)).length := by rw [flatPg_len, flatPg_len, mkPs_len]
    simp (config := {maxSteps := 1000000}) (disch := omega) only [go_sem, ↓reduceIte, Nat.reduceEqDiff, Nat.reduceAdd, Nat.reduceMul, Nat.reduceSub, Nat.reduceLeDiff, Nat.reduceLT, Int.reduceToNat, Int.reduceLE, Int.reduceLT, Int.reduceNeg, h_szTree, mSzTree, h_toTree, mToTree, h_toPair, mToPair, h_ChangedPagesS, mChanged, h_ChangedPagesI, mChanged, h_eqTree, mEqTree, h_eqIntS, mEqIntS, h_markTree, mMarkPageS, h_markIntS, mMarkIntS, h_heldIntS, mHeldIntS, drP_n, drP_c, logAt_n, logAt_c, disP_n, disP_c, notIn_n, notIn_c, ePr, hb, hz, e1, hsm, ha, e2, e3, marks_len, List.length_map, sub_marks]
theorem fo_FnExactChangedPages : FnOk Try.prog 8 := fnOk_of Try.func8 (by kernel_rfl)
theorem c_FnExactChangedPages : Contract Try.prog 8 mLawTreeP :=
  contract_of_does (DT := fun id => match id with | 5 => [(1, 2)] | 7 => [(2, 0)] | 10 => [(2, 0)] | 24 => [(1, 2)] | _ => []) Try.checked.mixed tabOk (gok_model fo_szTree c_szTree (gok_model fo_toTree c_toTree (gok_model fo_toPair c_toPair (gok_model fo_ChangedPagesS c_ChangedPagesS (gok_model fo_ChangedPagesI c_ChangedPagesI (gok_model fo_eqTree c_eqTree (gok_model fo_eqIntS c_eqIntS (gok_each fo_markTree c_markTree (gok_model fo_markIntS c_markIntS (gok_model fo_heldIntS c_heldIntS gok_nil)))))))))) Try.func8 rfl (by kernel_rfl) (does_FnExactChangedPages rfl rfl rfl rfl rfl rfl rfl rfl rfl rfl)

theorem fn_FnExactChangedPages (t : Tr) (h : TrW t) (k : Pr) (hk : intWf .i64 k.1 ∧ intWf .i64 k.2) : mLawTreeP.fn [eTr false t, ePair k] = some (.b true, []) := by
  obtain ⟨h1, h2⟩ := bigP_of h
  simp (config := {maxSteps := 1000000}) (disch := omega) only [go_sem, ↓reduceIte, Nat.reduceEqDiff, Nat.reduceAdd, Nat.reduceMul, Nat.reduceSub, Nat.reduceLeDiff, Nat.reduceLT, Int.reduceToNat, Int.reduceLE, Int.reduceLT, Int.reduceNeg, mLawTreeP, h2]

set_option linter.unusedVariables false
set_option linter.unusedSimpArgs false
set_option maxRecDepth 100000
set_option maxHeartbeats 4000000

noncomputable def paF : List Pr → Tr → Option Tr
  | [], t => some t
  | x :: xs, t => if (putKV t x).2 = true then paF xs (putKV t x).1 else none
noncomputable def paR : Option Tr → Tr × Bool
  | some u => (u, true)
  | none => (⟨0, []⟩, false)
noncomputable def paV (t : Tr) (xs : List Pr) : Tr × Bool := if vTr t = true ∧ xs.length ≤ 24 then paR (paF xs t) else (⟨0, []⟩, false)
theorem paV_f {t : Tr} {xs : List Pr} (h : ¬ (vTr t = true ∧ xs.length ≤ 24)) : paV t xs = (⟨0, []⟩, false) := if_neg h
theorem paV_t {t : Tr} {xs : List Pr} (h : vTr t = true ∧ xs.length ≤ 24) : paV t xs = paR (paF xs t) := if_pos h
theorem paF_t {x : Pr} {xs : List Pr} {t : Tr} (h : (putKV t x).2 = true) : paF (x :: xs) t = paF xs (putKV t x).1 := if_pos h
theorem paF_f {x : Pr} {xs : List Pr} {t : Tr} (h : (putKV t x).2 = false) : paF (x :: xs) t = none := if_neg (by rw [h]; simp)
theorem drop_cons' {xs : List Pr} {k : Nat} (h : k < xs.length) : xs.drop k = xs.getD k default :: xs.drop (k + 1) := by
  rw [List.drop_eq_getElem_cons h]
  simp [h]
theorem paF_sm : ∀ (xs : List Pr) (t : Tr), SmTr t → SmTr (paR (paF xs t)).1
  | [], t, h => h
  | x :: xs, t, h => by
    cases hb : (putKV t x).2
    · rw [paF_f hb]; exact smTr_nil 0
    · rw [paF_t hb]; exact paF_sm xs _ (putKV_sm t x)
theorem paV_sm (t : Tr) (xs : List Pr) : SmTr (paV t xs).1 := by
  by_cases h : vTr t = true ∧ xs.length ≤ 24
  · rw [paV_t h]
    have tv := vTr_iff.1 h.1
    have h1 := tot_le (m := 9) (ps := t.pages) fun p hp => by
      obtain ⟨i, hi, rfl⟩ := List.getElem_of_mem hp
      obtain ⟨h', pd⟩ := tv.pg (i := i) hi
      have := pd.tot
      rw [pgAt_nat] at this
      simpa [hi] using this
    have h2 := tv.len.2
    exact paF_sm xs t ⟨by omega, by omega⟩
  · rw [paV_f h]; exact smTr_nil 0
noncomputable def mPutAll : Model := M2 .ro .ro true (cTr false) (cRow false) fun t xs => gd (smT t.pages = true ∧ xs.length ≤ 1099511627776) (.tup [eTr true (paV t xs).1, .b (paV t xs).2], [])

theorem does_PutAllI {G : Nat → Option FM} (h_ValidTreeI : G 66 = some (.model mValidTree)) (h_copyTreeI : G 67 = some (.model mCopyTree)) (h_PutKeyI : G 37 = some (.model mPutKey)) : Does T G (fun id => match id with  | _ => []) Try.f30 mPutAll := by
  refine does2 (rs := [.cell 4 28, .tmp 5]) rfl rfl fun t xs ro h => ?_
  obtain ⟨⟨hs, hx⟩, rfl⟩ := gd_some h
  refine ⟨fun _ => ⟨by simp only [cleanA, cleanL, clean_pgs, Bool.and_self], rfl⟩, ?_⟩
  clear h
  cases hv : vTr t
  · rw [paV_f (by rw [hv]; simp)]
    simp (config := {maxSteps := 1000000}) (disch := omega) only [go_sem, ↓reduceIte, Nat.reduceEqDiff, Nat.reduceAdd, Nat.reduceMul, Nat.reduceSub, Nat.reduceLeDiff, Nat.reduceLT, Int.reduceToNat, Int.reduceLE, Int.reduceLT, Int.reduceNeg, h_ValidTreeI, mValidTree, h_copyTreeI, mCopyTree, h_PutKeyI, mPutKey, drP_n, drP_c, logAt_n, logAt_c, disP_n, disP_c, notIn_n, notIn_c, hs, hv]
    try rfl
  · by_cases hl : xs.length ≤ 24
    · have e0 : decide (24 < (xs.length : Int)) = false := decide_eq_false (by omega)
      rw [paV_t ⟨hv, hl⟩]
      simp (config := {maxSteps := 1000000}) (disch := omega) only [go_sem, ↓reduceIte, Nat.reduceEqDiff, Nat.reduceAdd, Nat.reduceMul, Nat.reduceSub, Nat.reduceLeDiff, Nat.reduceLT, Int.reduceToNat, Int.reduceLE, Int.reduceLT, Int.reduceNeg, h_ValidTreeI, mValidTree, h_copyTreeI, mCopyTree, h_PutKeyI, mPutKey, drP_n, drP_c, logAt_n, logAt_c, disP_n, disP_c, notIn_n, notIn_c, hs, hv, e0]
      refine W_loop_i (fun s => s.sl 4 = .ptr (4, 0) [] 0 0 ∧ s.hp (4, 0) = some ⟨2, 1, [eI 0, .s true 3 0 []], fun _ => 0⟩ ∧ s.sl 22 = eRow false xs ∧ s.sl 23 = eI xs.length ∧ s.sl 6 = .ptr (16, 0) [] 0 0 ∧ 16 < s.n ∧ ∃ (k : Nat) (u : Tr), k ≤ xs.length ∧ s.sl 24 = eI k ∧ paF (xs.drop k) u = paF xs t ∧ smT u.pages = true ∧ ∃ v, s.hp (16, 0) = some ⟨2, 1, [eI u.root, .s true 3 u.pages.length (u.pages.flatMap (ePg true))], v⟩) (fun s => xs.length - iN (s.sl 24)) ?_ ?_
      · exact ⟨rfl, rfl, rfl, rfl, rfl, by dsimp only [St.n]; omega, 0, t, Nat.zero_le _, rfl, rfl, hs, _, rfl⟩
      · rintro sl hp q ⟨j4, jh4, j22, j23, j6, jq, k, u, hk, j24, heq, hsu, v, jh⟩
        dsimp only at j4 jh4 j22 j23 j6 jq j24 jh
        have hsb : sub u.pages 0 u.pages.length = u.pages := sub_all _
        have hss := smT_iff.1 hsu
        by_cases g1' : k < xs.length
        · have g1 : decide ((k : Int) < (xs.length : Int)) = true := decide_eq_true (by omega)
          rw [drop_cons' g1'] at heq
          obtain ⟨⟨a, b⟩, hxk⟩ : ∃ p : Pr, xs.getD k default = p := ⟨_, rfl⟩
          rw [hxk] at heq
          cases hb : (putKV u (a, b)).2
          · rw [paF_f hb] at heq
            rw [← heq]
            simp (config := {maxSteps := 1000000}) (disch := omega) only [go_sem, ↓reduceIte, Nat.reduceEqDiff, Nat.reduceAdd, Nat.reduceMul, Nat.reduceSub, Nat.reduceLeDiff, Nat.reduceLT, Int.reduceToNat, Int.reduceLE, Int.reduceLT, Int.reduceNeg, h_ValidTreeI, mValidTree, h_copyTreeI, mCopyTree, h_PutKeyI, mPutKey, drP_n, drP_c, logAt_n, logAt_c, disP_n, disP_c, notIn_n, notIn_c, j4, jh4, j22, j23, j6, j24, jh, g1, hsb, hxk, ePr, hsu, hb]
            try rfl
          · rw [paF_t hb] at heq
            have la := putKV_sm u (a, b)
            have hsU := la.sm
            generalize hU : (putKV u (a, b)).1 = U at *
            have hsb2 : sub U.pages 0 U.pages.length = U.pages := sub_all _
            have hss2 := smT_iff.1 hsU
            simp (config := {maxSteps := 1000000}) (disch := omega) only [go_sem, ↓reduceIte, Nat.reduceEqDiff, Nat.reduceAdd, Nat.reduceMul, Nat.reduceSub, Nat.reduceLeDiff, Nat.reduceLT, Int.reduceToNat, Int.reduceLE, Int.reduceLT, Int.reduceNeg, h_ValidTreeI, mValidTree, h_copyTreeI, mCopyTree, h_PutKeyI, mPutKey, drP_n, drP_c, logAt_n, logAt_c, disP_n, disP_c, notIn_n, notIn_c, j4, jh4, j22, j23, j6, j24, jh, g1, hsb, hxk, ePr, hsu, hb, hU, hsb2]
            exact ⟨⟨k + 1, U, by omega, rfl, heq, hsU, _, rfl⟩, by omega⟩
        · have g1 : decide ((k : Int) < (xs.length : Int)) = false := decide_eq_false (by omega)
          obtain rfl : k = xs.length := by omega
          rw [List.drop_length] at heq
          rw [← heq]
          simp (config := {maxSteps := 1000000}) (disch := omega) only [go_sem, ↓reduceIte, Nat.reduceEqDiff, Nat.reduceAdd, Nat.reduceMul, Nat.reduceSub, Nat.reduceLeDiff, Nat.reduceLT, Int.reduceToNat, Int.reduceLE, Int.reduceLT, Int.reduceNeg, h_ValidTreeI, mValidTree, h_copyTreeI, mCopyTree, h_PutKeyI, mPutKey, drP_n, drP_c, logAt_n, logAt_c, disP_n, disP_c, notIn_n, notIn_c, j4, jh4, j22, j23, j6, j24, jh, g1, hsb]
          try exact trL2_eq rfl
    · have e0 : decide (24 < (xs.length : Int)) = true := decide_eq_true (by omega)
      rw [paV_f (fun h => hl h.2)]
      simp (config := {maxSteps := 1000000}) (disch := omega) only [go_sem, ↓reduceIte, Nat.reduceEqDiff, Nat.reduceAdd, Nat.reduceMul, Nat.reduceSub, Nat.reduceLeDiff, Nat.reduceLT, Int.reduceToNat, Int.reduceLE, Int.reduceLT, Int.reduceNeg, h_ValidTreeI, mValidTree, h_copyTreeI, mCopyTree, h_PutKeyI, mPutKey, drP_n, drP_c, logAt_n, logAt_c, disP_n, disP_c, notIn_n, notIn_c, hs, hv, e0]
      try rfl
theorem fo_PutAllI : FnOk Try.prog 30 := fnOk_of Try.func30 (by kernel_rfl)
theorem c_PutAllI : Contract Try.prog 30 mPutAll :=
  contract_of_does (DT := fun id => match id with  | _ => []) Try.checked.mixed tabOk (gok_model fo_ValidTreeI c_ValidTreeI (gok_model fo_copyTreeI c_copyTreeI (gok_model fo_PutKeyI c_PutKeyI gok_nil))) Try.func30 rfl (by kernel_rfl) (does_PutAllI rfl rfl rfl)


theorem does_PutAllS {G : Nat → Option FM} (h_validTree : G 57 = some (.model mValidTree)) (h_copyTreeS : G 65 = some (.model mCopyTree)) (h_PutKeyS : G 35 = some (.model mPutKey)) : Does T G (fun id => match id with | 6 => [(9, 0), (9, 3), (9, 4), (5, 9), (9, 5)] | _ => []) Try.f28 mPutAll := by
  refine does2 (rs := [.cell 4 28, .tmp 5]) rfl rfl fun t xs ro h => ?_
  obtain ⟨⟨hs, hx⟩, rfl⟩ := gd_some h
  refine ⟨fun _ => ⟨by simp only [cleanA, cleanL, clean_pgs, Bool.and_self], rfl⟩, ?_⟩
  clear h
  cases hv : vTr t
  · rw [paV_f (by rw [hv]; simp)]
    simp (config := {maxSteps := 1000000}) (disch := omega) only [go_sem, ↓reduceIte, Nat.reduceEqDiff, Nat.reduceAdd, Nat.reduceMul, Nat.reduceSub, Nat.reduceLeDiff, Nat.reduceLT, Int.reduceToNat, Int.reduceLE, Int.reduceLT, Int.reduceNeg, h_validTree, mValidTree, h_copyTreeS, mCopyTree, h_PutKeyS, mPutKey, drP_n, drP_c, logAt_n, logAt_c, disP_n, disP_c, notIn_n, notIn_c, hs, hv]
    try rfl
  · by_cases hl : xs.length ≤ 24
    · have e0 : decide (24 < (xs.length : Int)) = false := decide_eq_false (by omega)
      rw [paV_t ⟨hv, hl⟩]
      simp (config := {maxSteps := 1000000}) (disch := omega) only [go_sem, ↓reduceIte, Nat.reduceEqDiff, Nat.reduceAdd, Nat.reduceMul, Nat.reduceSub, Nat.reduceLeDiff, Nat.reduceLT, Int.reduceToNat, Int.reduceLE, Int.reduceLT, Int.reduceNeg, h_validTree, mValidTree, h_copyTreeS, mCopyTree, h_PutKeyS, mPutKey, drP_n, drP_c, logAt_n, logAt_c, disP_n, disP_c, notIn_n, notIn_c, hs, hv, e0]
      refine W_loop_i (fun s => s.sl 4 = .ptr (4, 0) [] 0 0 ∧ s.hp (4, 0) = some ⟨2, 1, [eI 0, .s true 3 0 []], fun _ => 0⟩ ∧ s.sl 1 = eRow false xs ∧ s.sl 2 = .ptr (3, 0) [] 0 0 ∧ 4 < s.n ∧ ∃ (k : Nat) (u : Tr) (o : Bool), k ≤ xs.length ∧ s.sl 6 = eI k ∧ paF (xs.drop k) u = paF xs t ∧ smT u.pages = true ∧ ∃ v, s.hp (3, 0) = some ⟨2, 1, [eI u.root, .s o 3 u.pages.length (u.pages.flatMap (ePg o))], v⟩) (fun s => xs.length - iN (s.sl 6)) ?_ ?_
      · exact ⟨rfl, rfl, rfl, rfl, by dsimp only [St.n]; omega, 0, t, false, Nat.zero_le _, rfl, rfl, hs, _, rfl⟩
      · rintro sl hp q ⟨j4, jh4, j1, j2, jq, k, u, o, hk, j6, heq, hsu, v, jh⟩
        dsimp only at j4 jh4 j1 j2 jq j6 jh
        have hsb : sub u.pages 0 u.pages.length = u.pages := sub_all _
        have hss := smT_iff.1 hsu
        by_cases g1' : k < xs.length
        · have g1 : decide ((k : Int) < (xs.length : Int)) = true := decide_eq_true (by omega)
          rw [drop_cons' g1'] at heq
          obtain ⟨⟨a, b⟩, hxk⟩ : ∃ p : Pr, xs.getD k default = p := ⟨_, rfl⟩
          rw [hxk] at heq
          cases hb : (putKV u (a, b)).2
          · rw [paF_f hb] at heq
            rw [← heq]
            cases o
            · simp (config := {maxSteps := 1000000}) (disch := omega) only [go_sem, ↓reduceIte, Nat.reduceEqDiff, Nat.reduceAdd, Nat.reduceMul, Nat.reduceSub, Nat.reduceLeDiff, Nat.reduceLT, Int.reduceToNat, Int.reduceLE, Int.reduceLT, Int.reduceNeg, h_validTree, mValidTree, h_copyTreeS, mCopyTree, h_PutKeyS, mPutKey, drP_n, drP_c, logAt_n, logAt_c, disP_n, disP_c, notIn_n, notIn_c, j4, jh4, j1, j2, j6, jh, g1, hsb, hxk, ePr, hsu, hb]
              try rfl
            · simp (config := {maxSteps := 1000000}) (disch := omega) only [go_sem, ↓reduceIte, Nat.reduceEqDiff, Nat.reduceAdd, Nat.reduceMul, Nat.reduceSub, Nat.reduceLeDiff, Nat.reduceLT, Int.reduceToNat, Int.reduceLE, Int.reduceLT, Int.reduceNeg, h_validTree, mValidTree, h_copyTreeS, mCopyTree, h_PutKeyS, mPutKey, drP_n, drP_c, logAt_n, logAt_c, disP_n, disP_c, notIn_n, notIn_c, j4, jh4, j1, j2, j6, jh, g1, hsb, hxk, ePr, hsu, hb]
              try rfl
          · rw [paF_t hb] at heq
            have la := putKV_sm u (a, b)
            have hsU := la.sm
            generalize hU : (putKV u (a, b)).1 = U at *
            have hsb2 : sub U.pages 0 U.pages.length = U.pages := sub_all _
            have hss2 := smT_iff.1 hsU
            cases o
            · simp (config := {maxSteps := 1000000}) (disch := omega) only [go_sem, ↓reduceIte, Nat.reduceEqDiff, Nat.reduceAdd, Nat.reduceMul, Nat.reduceSub, Nat.reduceLeDiff, Nat.reduceLT, Int.reduceToNat, Int.reduceLE, Int.reduceLT, Int.reduceNeg, h_validTree, mValidTree, h_copyTreeS, mCopyTree, h_PutKeyS, mPutKey, drP_n, drP_c, logAt_n, logAt_c, disP_n, disP_c, notIn_n, notIn_c, j4, jh4, j1, j2, j6, jh, g1, hsb, hxk, ePr, hsu, hb, hU, hsb2]
              exact ⟨⟨k + 1, U, true, by omega, rfl, heq, hsU, _, rfl⟩, by omega⟩
            · simp (config := {maxSteps := 1000000}) (disch := omega) only [go_sem, ↓reduceIte, Nat.reduceEqDiff, Nat.reduceAdd, Nat.reduceMul, Nat.reduceSub, Nat.reduceLeDiff, Nat.reduceLT, Int.reduceToNat, Int.reduceLE, Int.reduceLT, Int.reduceNeg, h_validTree, mValidTree, h_copyTreeS, mCopyTree, h_PutKeyS, mPutKey, drP_n, drP_c, logAt_n, logAt_c, disP_n, disP_c, notIn_n, notIn_c, j4, jh4, j1, j2, j6, jh, g1, hsb, hxk, ePr, hsu, hb, hU, hsb2]
              exact ⟨⟨k + 1, U, true, by omega, rfl, heq, hsU, _, rfl⟩, by omega⟩
        · have g1 : decide ((k : Int) < (xs.length : Int)) = false := decide_eq_false (by omega)
          obtain rfl : k = xs.length := by omega
          rw [List.drop_length] at heq
          rw [← heq]
          cases o
          · simp (config := {maxSteps := 1000000}) (disch := omega) only [go_sem, ↓reduceIte, Nat.reduceEqDiff, Nat.reduceAdd, Nat.reduceMul, Nat.reduceSub, Nat.reduceLeDiff, Nat.reduceLT, Int.reduceToNat, Int.reduceLE, Int.reduceLT, Int.reduceNeg, h_validTree, mValidTree, h_copyTreeS, mCopyTree, h_PutKeyS, mPutKey, drP_n, drP_c, logAt_n, logAt_c, disP_n, disP_c, notIn_n, notIn_c, j4, jh4, j1, j2, j6, jh, g1, hsb, hsu]
            try exact trL2_eq rfl
          · simp (config := {maxSteps := 1000000}) (disch := omega) only [go_sem, ↓reduceIte, Nat.reduceEqDiff, Nat.reduceAdd, Nat.reduceMul, Nat.reduceSub, Nat.reduceLeDiff, Nat.reduceLT, Int.reduceToNat, Int.reduceLE, Int.reduceLT, Int.reduceNeg, h_validTree, mValidTree, h_copyTreeS, mCopyTree, h_PutKeyS, mPutKey, drP_n, drP_c, logAt_n, logAt_c, disP_n, disP_c, notIn_n, notIn_c, j4, jh4, j1, j2, j6, jh, g1, hsb, hsu]
            try exact trL2_eq rfl
    · have e0 : decide (24 < (xs.length : Int)) = true := decide_eq_true (by omega)
      rw [paV_f (fun h => hl h.2)]
      simp (config := {maxSteps := 1000000}) (disch := omega) only [go_sem, ↓reduceIte, Nat.reduceEqDiff, Nat.reduceAdd, Nat.reduceMul, Nat.reduceSub, Nat.reduceLeDiff, Nat.reduceLT, Int.reduceToNat, Int.reduceLE, Int.reduceLT, Int.reduceNeg, h_validTree, mValidTree, h_copyTreeS, mCopyTree, h_PutKeyS, mPutKey, drP_n, drP_c, logAt_n, logAt_c, disP_n, disP_c, notIn_n, notIn_c, hs, hv, e0]
      try rfl
theorem fo_PutAllS : FnOk Try.prog 28 := fnOk_of Try.func28 (by kernel_rfl)
theorem c_PutAllS : Contract Try.prog 28 mPutAll :=
  contract_of_does (DT := fun id => match id with | 6 => [(9, 0), (9, 3), (9, 4), (5, 9), (9, 5)] | _ => []) Try.checked.mixed tabOk (gok_model fo_validTree c_validTree (gok_model fo_copyTreeS c_copyTreeS (gok_model fo_PutKeyS c_PutKeyS gok_nil))) Try.func28 rfl (by kernel_rfl) (does_PutAllS rfl rfl rfl)


def mLawTreeR : Model := M2 .ro .ro true (cTr false) (cRow false) fun t xs => gd ((t.pages.length ≤ 9223372036854775807 ∧ t.pages.all bigP = true) ∧ xs.length ≤ 9223372036854775807) (.b true, [])

theorem does_FnExactPutAll {G : Nat → Option FM} (h_szTree : G 15 = some (.model mSzTree)) (h_toTree : G 17 = some (.model mToTree)) (h_szPairS : G 27 = some (.model mSzPairS)) (h_toPairS : G 29 = some (.model mToPairS)) (h_PutAllS : G 28 = some (.model mPutAll)) (h_PutAllI : G 30 = some (.model mPutAll)) (h_eqTree : G 19 = some (.model mEqTree)) (h_eqPairS : G 31 = some (.model mEqPairS)) (h_markTree : G 20 = some (.each 2 [1] mMarkPageS)) (h_markPairS : G 32 = some (.model mMarkPairS)) (h_heldTree : G 21 = some (.model mHeldTree)) : Does T G (fun id => match id with | 14 => [(2, 0)] | _ => []) Try.f5 mLawTreeR := by
  refine does2 (rs := [.tmp 4]) rfl rfl fun t xs ro h => ?_
  obtain ⟨⟨⟨hs, hb⟩, hxl⟩, rfl⟩ := gd_some h
  refine ⟨fun _ => ⟨rfl, rfl⟩, ?_⟩
  obtain ⟨z, hz⟩ : ∃ z, szPs t.pages 1048576 = z := ⟨_, rfl⟩
  have la := paV_sm t xs
  generalize ha : (paV t xs).1 = a at la
  generalize hb' : (paV t xs).2 = b
  by_cases h1 : z < 0
  · have e1 : decide (z < 0) = true := decide_eq_true h1
    simp (config := {maxSteps := 1000000}) (disch := omega) only [go_sem, ↓reduceIte, Nat.reduceEqDiff, Nat.reduceAdd, Nat.reduceMul, Nat.reduceSub, Nat.reduceLeDiff, Nat.reduceLT, Int.reduceToNat, Int.reduceLE, Int.reduceLT, Int.reduceNeg, h_szTree, mSzTree, h_toTree, mToTree, h_szPairS, mSzPairS, h_toPairS, mToPairS, h_PutAllS, mPutAll, h_PutAllI, mPutAll, h_eqTree, mEqTree, h_eqPairS, mEqPairS, h_markTree, mMarkPageS, h_markPairS, mMarkPairS, h_heldTree, mHeldTree, drP_n, drP_c, logAt_n, logAt_c, disP_n, disP_c, notIn_n, notIn_c, hb, hz, e1]
  · have e1 : decide (z < 0) = false := decide_eq_false h1
    obtain ⟨z0, z1, hsm⟩ := szPs_bd hz h1 (by omega)
    obtain ⟨h2, _⟩ := lawT_small hz h1
    by_cases h3 : z < (xs.length : Int)
    · simp (config := {maxSteps := 1000000}) (disch := omega) only [go_sem, ↓reduceIte, Nat.reduceEqDiff, Nat.reduceAdd, Nat.reduceMul, Nat.reduceSub, Nat.reduceLeDiff, Nat.reduceLT, Int.reduceToNat, Int.reduceLE, Int.reduceLT, Int.reduceNeg, h_szTree, mSzTree, h_toTree, mToTree, h_szPairS, mSzPairS, h_toPairS, mToPairS, h_PutAllS, mPutAll, h_PutAllI, mPutAll, h_eqTree, mEqTree, h_eqPairS, mEqPairS, h_markTree, mMarkPageS, h_markPairS, mMarkPairS, h_heldTree, mHeldTree, drP_n, drP_c, logAt_n, logAt_c, disP_n, disP_c, notIn_n, notIn_c, hb, hz, e1, h3]
    · have e : ¬ (z - (xs.length : Int)) < 0 := by omega
      have lb := la.sm
      have lc := (la.mark a.root 1).sm
      dsimp only at lc
      have l1 := la.tot
      have l2 := la.len
      have l3 := mkPs_len a.pages 1
      have m0 := marksP_len xs.length (1 + (tot t.pages : Int))
      have e2 : decide (1 + (tot t.pages : Int) < 0) = false := decide_eq_false (by omega)
      have e3 : decide (1 + (tot a.pages : Int) < 0) = false := decide_eq_false (by omega)
      have e4 : decide (1 + (tot t.pages : Int) + 2 * (xs.length : Int) < 0) = false := decide_eq_false (by omega)
      have hfl := flat_mk t.pages 1
      have hfa := flat_mk a.pages 1
      simp (config := {maxSteps := 1000000}) (disch := omega) only [go_sem, ↓reduceIte, Nat.reduceEqDiff, Nat.reduceAdd, Nat.reduceMul, Nat.reduceSub, Nat.reduceLeDiff, Nat.reduceLT, Int.reduceToNat, Int.reduceLE, Int.reduceLT, Int.reduceNeg, h_szTree, mSzTree, h_toTree, mToTree, h_szPairS, mSzPairS, h_toPairS, mToPairS, h_PutAllS, mPutAll, h_PutAllI, mPutAll, h_eqTree, mEqTree, h_eqPairS, mEqPairS, h_markTree, mMarkPageS, h_markPairS, mMarkPairS, h_heldTree, mHeldTree, drP_n, drP_c, logAt_n, logAt_c, disP_n, disP_c, notIn_n, notIn_c, hb, hz, e1, h3, e, hsm, ha, hb', e2, e3, e4, lb, lc, hfl, hfa, sub_mk, mkPs_idem, mkPs_tot, marksP_len, flatPr_len, sub_marksP]
theorem fo_FnExactPutAll : FnOk Try.prog 5 := fnOk_of Try.func5 (by kernel_rfl)
theorem c_FnExactPutAll : Contract Try.prog 5 mLawTreeR :=
  contract_of_does (DT := fun id => match id with | 14 => [(2, 0)] | _ => []) Try.checked.mixed tabOk (gok_model fo_szTree c_szTree (gok_model fo_toTree c_toTree (gok_model fo_szPairS c_szPairS (gok_model fo_toPairS c_toPairS (gok_model fo_PutAllS c_PutAllS (gok_model fo_PutAllI c_PutAllI (gok_model fo_eqTree c_eqTree (gok_model fo_eqPairS c_eqPairS (gok_each fo_markTree c_markTree (gok_model fo_markPairS c_markPairS (gok_model fo_heldTree c_heldTree gok_nil))))))))))) Try.func5 rfl (by kernel_rfl) (does_FnExactPutAll rfl rfl rfl rfl rfl rfl rfl rfl rfl rfl rfl)

theorem fn_FnExactPutAll (t : Tr) (h : TrW t) (x : List Pr) (hx : (∀ y ∈ x, intWf .i64 y.1 ∧ intWf .i64 y.2) ∧ x.length ≤ maxLen) : mLawTreeR.fn [eTr false t, eRow false x] = some (.b true, []) := by
  obtain ⟨h1, h2⟩ := bigP_of h
  have h3 : x.length ≤ 9223372036854775807 := hx.2
  simp (config := {maxSteps := 1000000}) (disch := omega) only [go_sem, ↓reduceIte, Nat.reduceEqDiff, Nat.reduceAdd, Nat.reduceMul, Nat.reduceSub, Nat.reduceLeDiff, Nat.reduceLT, Int.reduceToNat, Int.reduceLE, Int.reduceLT, Int.reduceNeg, mLawTreeR, h2]
end Go.TM
