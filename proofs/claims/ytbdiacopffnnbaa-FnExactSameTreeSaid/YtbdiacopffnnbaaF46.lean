/- Contracts, 46: the law of the pairs; how full the leaves are. -/
import Derived.Test.YtbdiacopffnnbaaF45
namespace Go.TM
open Go.Proofs
set_option linter.unusedVariables false
set_option linter.unusedSimpArgs false
set_option maxRecDepth 100000
set_option maxHeartbeats 4000000

theorem does_PairsOfI {G : Nat → Option FM} (h_LeavesOfI : G 83 = some (.model mLeavesOf)) (h_pairsOfLeaf : G 161 = some (.model mRowOf)) : Does T G (fun id => match id with  | _ => []) Try.f95 mPairsOf := by
  refine does1 (rs := [.tmp 2]) rfl rfl fun t ro h => ?_
  obtain ⟨hs, rfl⟩ := gd_some h
  refine ⟨fun _ => ⟨by simp [cleanA, clean_row], rfl⟩, ?_⟩
  clear h
  have hw0 : prV t = prK t (lvsV t) := by
    cases hv : vTr t
    · rw [prV_f hv, lvsV_f hv]; rfl
    · rw [prV_t hv, lvsV_t hv]; rfl
  have lw := lvsV_len t
  have lp : ∀ y ∈ lvsV t, PD t 0 y := by
    cases hv : vTr t
    · rw [lvsV_f hv]; intro y hy; cases hy
    · rw [lvsV_t hv]; exact lvF_leaf (vTr_iff.1 hv).pd
  rw [hw0]
  simp (config := {maxSteps := 1000000}) (disch := omega) only [go_sem, ↓reduceIte, Nat.reduceEqDiff, Nat.reduceAdd, Nat.reduceMul, Nat.reduceSub, Nat.reduceLeDiff, Nat.reduceLT, Int.reduceToNat, Int.reduceLE, Int.reduceLT, Int.reduceNeg, h_LeavesOfI, mLeavesOf, h_pairsOfLeaf, mRowOf, drP_n, drP_c, logAt_n, logAt_c, disP_n, disP_c, notIn_n, notIn_c, hs]
  generalize hw : lvsV t = w at *
  refine W_loop_i (fun s => s.sl 1 = .ptr (3, 0) [] 0 0 ∧ s.hp (3, 0) = some ⟨2, 1, [eI t.root, ePgs false t.pages], fun _ => 0⟩ ∧ ∃ k m : Nat, k ≤ w.length ∧ s.sl 9 = eI k ∧ 3 < m ∧ m < s.n ∧ s.sl 7 = .ref (m, 0) [] 0 0 1 w.length ∧ s.sl 8 = eI w.length ∧ s.hp (m, 0) = some ⟨1, w.length, w.map eI, fun _ => 0⟩ ∧
    ((k = 0 ∧ s.sl 3 = .s true 2 0 []) ∨ (0 < k ∧ ∃ l : Nat, 3 < l ∧ l < s.n ∧ l ≠ m ∧ s.sl 3 = .ref (l, 0) [] 0 0 2 (prK t (w.take k)).length ∧ s.hp (l, 0) = some ⟨2, (prK t (w.take k)).length, (prK t (w.take k)).flatMap ePr, fun _ => 0⟩))) (fun s => w.length - iN (s.sl 9)) ?_ ?_
  · refine ⟨rfl, rfl, 0, 7, Nat.zero_le _, rfl, by omega, by dsimp only [St.n]; omega, rfl, rfl, rfl, .inl ⟨rfl, rfl⟩⟩
  · rintro sl hp q ⟨h1, hh1, k, m, hk, h7, hm3, hm, h5, h6, hm4, hl⟩
    dsimp only at h1 hh1 h7 h5 h6 hm4 hm hl
    simp (config := {maxSteps := 1000000}) (disch := omega) only [go_sem, ↓reduceIte, Nat.reduceEqDiff, Nat.reduceAdd, Nat.reduceMul, Nat.reduceSub, Nat.reduceLeDiff, Nat.reduceLT, Int.reduceToNat, Int.reduceLE, Int.reduceLT, Int.reduceNeg, h_LeavesOfI, mLeavesOf, h_pairsOfLeaf, mRowOf, drP_n, drP_c, logAt_n, logAt_c, disP_n, disP_c, notIn_n, notIn_c, h1, hh1, h5, h6, h7, hm4]
    (first | refine runKS_split (fun g1 => ?_) (fun g1 => ?_) | refine cond_split (fun g1 => ?_) (fun g1 => ?_) | refine runK_split (fun g1 => ?_) (fun g1 => ?_))
    · have g1' := of_decide_eq_true g1
      have hmem := getD_mem (show k < w.length by omega)
      have hx := (lp _ hmem).rng
      have hpl := (lp _ hmem).leaf
      have es := prK_succ (t := t) (w := w) (k := k) (by omega)
      have hkl : (prK t (w.take k)).length ≤ 64 := by
        have h1 := prK_len (t := t) (xs := w.take k) fun y hy => (lp y (List.mem_of_mem_take hy)).leaf.len
        rw [List.length_take] at h1
        omega
      obtain ⟨y, hy⟩ : ∃ y : Nat, w.getD k 0 = y := ⟨(w.getD k 0).toNat, by omega⟩
      rw [hy] at hx hpl es
      have hts := tr_small hs y
      have hpa := pgAt_nat t y
      have hvl := hpl.vlen
      have hp4 := hpl.len
      rw [hpa] at hts hvl hp4 es
      generalize hP : t.pages.getD y default = P at *
      have hpl' := prP_len P
      rcases hl with ⟨k0, h3⟩ | ⟨k0, l, hl3, hln, hlm, h3, hl4⟩
      · subst k0
        rw [List.take_zero] at es
        have es' : prK t (w.take (0 + 1)) = prP P := es
        simp (config := {maxSteps := 1000000}) (disch := omega) only [go_sem, ↓reduceIte, Nat.reduceEqDiff, Nat.reduceAdd, Nat.reduceMul, Nat.reduceSub, Nat.reduceLeDiff, Nat.reduceLT, Int.reduceToNat, Int.reduceLE, Int.reduceLT, Int.reduceNeg, h_LeavesOfI, mLeavesOf, h_pairsOfLeaf, mRowOf, drP_n, drP_c, logAt_n, logAt_c, disP_n, disP_c, notIn_n, notIn_c, h1, hh1, h5, h6, h7, hm4, h3, g1, hy, hP, ePg, app_PP]
        refine ⟨⟨0 + 1, m, by omega, rfl, hm3, by omega, rfl, ?_, .inr ⟨by omega, q + 1 + 3 + 7, by omega, by omega, by omega, by rw [es'], ?_⟩⟩, by omega⟩
        · simp (config := {maxSteps := 1000000}) (disch := omega) only [go_sem, ↓reduceIte, Nat.reduceEqDiff, Nat.reduceAdd, Nat.reduceMul, Nat.reduceSub, Nat.reduceLeDiff, Nat.reduceLT, Int.reduceToNat, Int.reduceLE, Int.reduceLT, Int.reduceNeg, h_LeavesOfI, mLeavesOf, h_pairsOfLeaf, mRowOf, drP_n, drP_c, logAt_n, logAt_c, disP_n, disP_c, notIn_n, notIn_c, hm4]
        · rw [upd_same, es']
      · simp (config := {maxSteps := 1000000}) (disch := omega) only [go_sem, ↓reduceIte, Nat.reduceEqDiff, Nat.reduceAdd, Nat.reduceMul, Nat.reduceSub, Nat.reduceLeDiff, Nat.reduceLT, Int.reduceToNat, Int.reduceLE, Int.reduceLT, Int.reduceNeg, h_LeavesOfI, mLeavesOf, h_pairsOfLeaf, mRowOf, drP_n, drP_c, logAt_n, logAt_c, disP_n, disP_c, notIn_n, notIn_c, h1, hh1, h5, h6, h7, hm4, h3, hl4, g1, hy, hP, ePg, app_PP]
        refine ⟨⟨k + 1, m, by omega, rfl, hm3, by omega, rfl, ?_, .inr ⟨by omega, q + 1 + 3 + 7, by omega, by omega, by omega, by rw [es, List.length_append], ?_⟩⟩, by omega⟩
        · simp (config := {maxSteps := 1000000}) (disch := omega) only [go_sem, ↓reduceIte, Nat.reduceEqDiff, Nat.reduceAdd, Nat.reduceMul, Nat.reduceSub, Nat.reduceLeDiff, Nat.reduceLT, Int.reduceToNat, Int.reduceLE, Int.reduceLT, Int.reduceNeg, h_LeavesOfI, mLeavesOf, h_pairsOfLeaf, mRowOf, drP_n, drP_c, logAt_n, logAt_c, disP_n, disP_c, notIn_n, notIn_c, hm4]
        · rw [upd_same, es, List.length_append]
    · have g1' := of_decide_eq_false g1
      obtain rfl : k = w.length := by omega
      rw [List.take_length] at hl
      rcases hl with ⟨k0, h3⟩ | ⟨k0, l, hl3, hln, hlm, h3, hl4⟩
      · simp (config := {maxSteps := 1000000}) (disch := omega) only [go_sem, ↓reduceIte, Nat.reduceEqDiff, Nat.reduceAdd, Nat.reduceMul, Nat.reduceSub, Nat.reduceLeDiff, Nat.reduceLT, Int.reduceToNat, Int.reduceLE, Int.reduceLT, Int.reduceNeg, h_LeavesOfI, mLeavesOf, h_pairsOfLeaf, mRowOf, drP_n, drP_c, logAt_n, logAt_c, disP_n, disP_c, notIn_n, notIn_c, h1, hh1, h5, h6, h7, hm4, h3, g1]
        rw [List.length_eq_zero_iff.1 k0]
        rfl
      · simp (config := {maxSteps := 1000000}) (disch := omega) only [go_sem, ↓reduceIte, Nat.reduceEqDiff, Nat.reduceAdd, Nat.reduceMul, Nat.reduceSub, Nat.reduceLeDiff, Nat.reduceLT, Int.reduceToNat, Int.reduceLE, Int.reduceLT, Int.reduceNeg, h_LeavesOfI, mLeavesOf, h_pairsOfLeaf, mRowOf, drP_n, drP_c, logAt_n, logAt_c, disP_n, disP_c, notIn_n, notIn_c, h1, hh1, h5, h6, h7, hm4, h3, hl4, g1]
theorem fo_PairsOfI : FnOk Try.prog 95 := fnOk_of Try.func95 (by kernel_rfl)
theorem c_PairsOfI : Contract Try.prog 95 mPairsOf :=
  contract_of_does (DT := fun id => match id with  | _ => []) Try.checked.mixed tabOk (gok_model fo_LeavesOfI c_LeavesOfI (gok_model fo_pairsOfLeaf c_pairsOfLeaf gok_nil)) Try.func95 rfl (by kernel_rfl) (does_PairsOfI rfl rfl)


theorem does_FnExactPairsOf {G : Nat → Option FM} (h_szTree : G 61 = some (.model mSzTree)) (h_toTree : G 63 = some (.model mToTree)) (h_PairsOfS : G 94 = some (.model mPairsOf)) (h_PairsOfI : G 95 = some (.model mPairsOf)) (h_eqTree : G 65 = some (.model mEqTree)) (h_eqPairS : G 31 = some (.model mEqPairS)) (h_markTree : G 80 = some (.each 2 [1] mMarkPageS)) (h_markPairS : G 34 = some (.model mMarkPairS)) (h_heldPairS : G 35 = some (.model mHeldPairS)) : Does T G (fun id => match id with | 10 => [(2, 0)] | _ => []) Try.f24 mLawTree := by
  refine does1 (rs := [.tmp 2]) rfl rfl fun t ro h => ?_
  obtain ⟨⟨hs, hb⟩, rfl⟩ := gd_some h
  refine ⟨fun _ => ⟨rfl, rfl⟩, ?_⟩
  obtain ⟨z, hz⟩ : ∃ z, szPs t.pages 1048576 = z := ⟨_, rfl⟩
  have la := prV_len t
  generalize ha : prV t = a at la
  by_cases h1 : z < 0
  · have e1 : decide (z < 0) = true := decide_eq_true h1
    simp (config := {maxSteps := 1000000}) (disch := omega) only [go_sem, ↓reduceIte, Nat.reduceEqDiff, Nat.reduceAdd, Nat.reduceMul, Nat.reduceSub, Nat.reduceLeDiff, Nat.reduceLT, Int.reduceToNat, Int.reduceLE, Int.reduceLT, Int.reduceNeg, h_szTree, mSzTree, h_toTree, mToTree, h_PairsOfS, mPairsOf, h_PairsOfI, mPairsOf, h_eqTree, mEqTree, h_eqPairS, mEqPairS, h_markTree, mMarkPageS, h_markPairS, mMarkPairS, h_heldPairS, mHeldPairS, drP_n, drP_c, logAt_n, logAt_c, disP_n, disP_c, notIn_n, notIn_c, hb, hz, e1]
  · have e1 : decide (z < 0) = false := decide_eq_false h1
    obtain ⟨h2, hsm⟩ := lawT_small hz h1
    have m1 := marksP_len a.length 1
    have e2 : decide (1 + (tot t.pages : Int) < 0) = false := decide_eq_false (by omega)
    have e3 : decide (1 + 2 * (a.length : Int) < 0) = false := decide_eq_false (by omega)
    have hfl : ((mkPs t.pages 1).flatMap (ePg true)).length = (t.pages.flatMap (ePg true)).length := by rw [flatPg_len, flatPg_len, mkPs_len]
    simp (config := {maxSteps := 1000000}) (disch := omega) only [go_sem, ↓reduceIte, Nat.reduceEqDiff, Nat.reduceAdd, Nat.reduceMul, Nat.reduceSub, Nat.reduceLeDiff, Nat.reduceLT, Int.reduceToNat, Int.reduceLE, Int.reduceLT, Int.reduceNeg, h_szTree, mSzTree, h_toTree, mToTree, h_PairsOfS, mPairsOf, h_PairsOfI, mPairsOf, h_eqTree, mEqTree, h_eqPairS, mEqPairS, h_markTree, mMarkPageS, h_markPairS, mMarkPairS, h_heldPairS, mHeldPairS, drP_n, drP_c, logAt_n, logAt_c, disP_n, disP_c, notIn_n, notIn_c, hb, hz, e1, hsm, ha, e2, e3, marksP_len, flatPr_len, sub_marksP]
theorem fo_FnExactPairsOf : FnOk Try.prog 24 := fnOk_of Try.func24 (by kernel_rfl)
theorem c_FnExactPairsOf : Contract Try.prog 24 mLawTree :=
  contract_of_does (DT := fun id => match id with | 10 => [(2, 0)] | _ => []) Try.checked.mixed tabOk (gok_model fo_szTree c_szTree (gok_model fo_toTree c_toTree (gok_model fo_PairsOfS c_PairsOfS (gok_model fo_PairsOfI c_PairsOfI (gok_model fo_eqTree c_eqTree (gok_model fo_eqPairS c_eqPairS (gok_each fo_markTree c_markTree (gok_model fo_markPairS c_markPairS (gok_model fo_heldPairS c_heldPairS gok_nil))))))))) Try.func24 rfl (by kernel_rfl) (does_FnExactPairsOf rfl rfl rfl rfl rfl rfl rfl rfl rfl)

theorem fn_FnExactPairsOf (t : Tr) (h : TrW t) : mLawTree.fn [eTr false t] = some (.b true, []) := by
  obtain ⟨h1, h2⟩ := bigP_of h
  simp (config := {maxSteps := 1000000}) (disch := omega) only [go_sem, ↓reduceIte, Nat.reduceEqDiff, Nat.reduceAdd, Nat.reduceMul, Nat.reduceSub, Nat.reduceLeDiff, Nat.reduceLT, Int.reduceToNat, Int.reduceLE, Int.reduceLT, Int.reduceNeg, mLawTree, h2]

noncomputable def fillV (t : Tr) : Int := if vTr t = true then (100 * ((prV t).length : Int)).tdiv (4 * ((lvsV t).length : Int)) else -1
theorem fillV_f {t : Tr} (h : vTr t = false) : fillV t = -1 := if_neg (by rw [h]; simp)
theorem fillV_t {t : Tr} (h : vTr t = true) : fillV t = (100 * ((prV t).length : Int)).tdiv (4 * ((lvsV t).length : Int)) := if_pos h
noncomputable def mFillOf : Model := M1 .ro true (cTr false) fun t => gd (smT t.pages = true) (eI (fillV t), [])
theorem lvsV_pos {t : Tr} (h : vTr t = true) : 1 ≤ (lvsV t).length := by
  rw [lvsV_t h]; exact lvF_pos (vTr_iff.1 h).pd
theorem tdiv_bd {a b : Int} (h0 : 0 ≤ a) (h1 : a ≤ 10000) (hb : 1 ≤ b) : 0 ≤ a.tdiv b ∧ a.tdiv b ≤ 10000 := by
  rw [Int.tdiv_eq_ediv_of_nonneg h0]
  refine ⟨Int.ediv_nonneg h0 (by omega), ?_⟩
  have := Int.ediv_le_self b h0
  omega

theorem does_FillOfS {G : Nat → Option FM} (h_validTree : G 132 = some (.model mValidTree)) (h_pairsOf : G 153 = some (.model mPairs)) (h_leavesOf : G 151 = some (.model mLeaves)) : Does T G (fun id => match id with | 3 => [(1, 4)] | _ => []) Try.f84 mFillOf := by
  refine does1 (rs := [.tmp 2]) rfl rfl fun t ro h => ?_
  obtain ⟨hs, rfl⟩ := gd_some h
  refine ⟨fun _ => ⟨rfl, rfl⟩, ?_⟩
  clear h
  cases hv : vTr t
  · rw [fillV_f hv]
    simp (config := {maxSteps := 1000000}) (disch := omega) only [go_sem, ↓reduceIte, Nat.reduceEqDiff, Nat.reduceAdd, Nat.reduceMul, Nat.reduceSub, Nat.reduceLeDiff, Nat.reduceLT, Int.reduceToNat, Int.reduceLE, Int.reduceLT, Int.reduceNeg, h_validTree, mValidTree, h_pairsOf, mPairs, h_leavesOf, mLeaves, drP_n, drP_c, logAt_n, logAt_c, disP_n, disP_c, notIn_n, notIn_c, hs, hv]
  · rw [fillV_t hv]
    have l1 := prV_len t
    have l2 := lvsV_len t
    have l3 := lvsV_pos hv
    have bd := tdiv_bd (a := 100 * ((prV t).length : Int)) (b := 4 * ((lvsV t).length : Int)) (by omega) (by omega) (by omega)
    rw [prV_t hv, lvsV_t hv] at *
    have e0 : ¬ (4 * ((lvF t (htT t) t.root).length : Int) = 0) := by omega
    simp (config := {maxSteps := 1000000}) (disch := omega) only [go_sem, ↓reduceIte, Nat.reduceEqDiff, Nat.reduceAdd, Nat.reduceMul, Nat.reduceSub, Nat.reduceLeDiff, Nat.reduceLT, Int.reduceToNat, Int.reduceLE, Int.reduceLT, Int.reduceNeg, h_validTree, mValidTree, h_pairsOf, mPairs, h_leavesOf, mLeaves, drP_n, drP_c, logAt_n, logAt_c, disP_n, disP_c, notIn_n, notIn_c, hs, hv, e0]
theorem fo_FillOfS : FnOk Try.prog 84 := fnOk_of Try.func84 (by kernel_rfl)
theorem c_FillOfS : Contract Try.prog 84 mFillOf :=
  contract_of_does (DT := fun id => match id with | 3 => [(1, 4)] | _ => []) Try.checked.mixed tabOk (gok_model fo_validTree c_validTree (gok_model fo_pairsOf c_pairsOf (gok_model fo_leavesOf c_leavesOf gok_nil))) Try.func84 rfl (by kernel_rfl) (does_FillOfS rfl rfl rfl)


theorem does_FillOfI {G : Nat → Option FM} (h_ValidTreeI : G 64 = some (.model mValidTree)) (h_PairsOfI : G 95 = some (.model mPairsOf)) (h_LeavesOfI : G 83 = some (.model mLeavesOf)) : Does T G (fun id => match id with | 3 => [(1, 4)] | _ => []) Try.f85 mFillOf := by
  refine does1 (rs := [.tmp 2]) rfl rfl fun t ro h => ?_
  obtain ⟨hs, rfl⟩ := gd_some h
  refine ⟨fun _ => ⟨rfl, rfl⟩, ?_⟩
  clear h
  cases hv : vTr t
  · rw [fillV_f hv]
    simp (config := {maxSteps := 1000000}) (disch := omega) only [go_sem, ↓reduceIte, Nat.reduceEqDiff, Nat.reduceAdd, Nat.reduceMul, Nat.reduceSub, Nat.reduceLeDiff, Nat.reduceLT, Int.reduceToNat, Int.reduceLE, Int.reduceLT, Int.reduceNeg, h_ValidTreeI, mValidTree, h_PairsOfI, mPairsOf, h_LeavesOfI, mLeavesOf, drP_n, drP_c, logAt_n, logAt_c, disP_n, disP_c, notIn_n, notIn_c, hs, hv]
  · rw [fillV_t hv]
    have l1 := prV_len t
    have l2 := lvsV_len t
    have l3 := lvsV_pos hv
    have bd := tdiv_bd (a := 100 * ((prV t).length : Int)) (b := 4 * ((lvsV t).length : Int)) (by omega) (by omega) (by omega)
    have e0 : ¬ (4 * ((lvsV t).length : Int) = 0) := by omega
    simp (config := {maxSteps := 1000000}) (disch := omega) only [go_sem, ↓reduceIte, Nat.reduceEqDiff, Nat.reduceAdd, Nat.reduceMul, Nat.reduceSub, Nat.reduceLeDiff, Nat.reduceLT, Int.reduceToNat, Int.reduceLE, Int.reduceLT, Int.reduceNeg, h_ValidTreeI, mValidTree, h_PairsOfI, mPairsOf, h_LeavesOfI, mLeavesOf, drP_n, drP_c, logAt_n, logAt_c, disP_n, disP_c, notIn_n, notIn_c, hs, hv, e0]
theorem fo_FillOfI : FnOk Try.prog 85 := fnOk_of Try.func85 (by kernel_rfl)
theorem c_FillOfI : Contract Try.prog 85 mFillOf :=
  contract_of_does (DT := fun id => match id with | 3 => [(1, 4)] | _ => []) Try.checked.mixed tabOk (gok_model fo_ValidTreeI c_ValidTreeI (gok_model fo_PairsOfI c_PairsOfI (gok_model fo_LeavesOfI c_LeavesOfI gok_nil))) Try.func85 rfl (by kernel_rfl) (does_FillOfI rfl rfl rfl)


theorem does_FnExactFillOf {G : Nat → Option FM} (h_szTree : G 61 = some (.model mSzTree)) (h_toTree : G 63 = some (.model mToTree)) (h_FillOfS : G 84 = some (.model mFillOf)) (h_FillOfI : G 85 = some (.model mFillOf)) (h_eqTree : G 65 = some (.model mEqTree)) : Does T G (fun id => match id with | 10 => [(2, 0)] | _ => []) Try.f19 mLawTree := by
  refine does1 (rs := [.tmp 2]) rfl rfl fun t ro h => ?_
  obtain ⟨⟨hs, hb⟩, rfl⟩ := gd_some h
  refine ⟨fun _ => ⟨rfl, rfl⟩, ?_⟩
  obtain ⟨z, hz⟩ : ∃ z, szPs t.pages 1048576 = z := ⟨_, rfl⟩
  by_cases h1 : z < 0
  · have e1 : decide (z < 0) = true := decide_eq_true h1
    simp (config := {maxSteps := 1000000}) (disch := omega) only [go_sem, ↓reduceIte, Nat.reduceEqDiff, Nat.reduceAdd, Nat.reduceMul, Nat.reduceSub, Nat.reduceLeDiff, Nat.reduceLT, Int.reduceToNat, Int.reduceLE, Int.reduceLT, Int.reduceNeg, h_szTree, mSzTree, h_toTree, mToTree, h_FillOfS, mFillOf, h_FillOfI, mFillOf, h_eqTree, mEqTree, drP_n, drP_c, logAt_n, logAt_c, disP_n, disP_c, notIn_n, notIn_c, hb, hz, e1]
  · have e1 : decide (z < 0) = false := decide_eq_false h1
    obtain ⟨h2, hsm⟩ := lawT_small hz h1
    simp (config := {maxSteps := 1000000}) (disch := omega) only [go_sem, ↓reduceIte, Nat.reduceEqDiff, Nat.reduceAdd, Nat.reduceMul, Nat.reduceSub, Nat.reduceLeDiff, Nat.reduceLT, Int.reduceToNat, Int.reduceLE, Int.reduceLT, Int.reduceNeg, h_szTree, mSzTree, h_toTree, mToTree, h_FillOfS, mFillOf, h_FillOfI, mFillOf, h_eqTree, mEqTree, drP_n, drP_c, logAt_n, logAt_c, disP_n, disP_c, notIn_n, notIn_c, hb, hz, e1, hsm]
theorem fo_FnExactFillOf : FnOk Try.prog 19 := fnOk_of Try.func19 (by kernel_rfl)
theorem c_FnExactFillOf : Contract Try.prog 19 mLawTree :=
  contract_of_does (DT := fun id => match id with | 10 => [(2, 0)] | _ => []) Try.checked.mixed tabOk (gok_model fo_szTree c_szTree (gok_model fo_toTree c_toTree (gok_model fo_FillOfS c_FillOfS (gok_model fo_FillOfI c_FillOfI (gok_model fo_eqTree c_eqTree gok_nil))))) Try.func19 rfl (by kernel_rfl) (does_FnExactFillOf rfl rfl rfl rfl rfl)

theorem fn_FnExactFillOf (t : Tr) (h : TrW t) : mLawTree.fn [eTr false t] = some (.b true, []) := by
  obtain ⟨h1, h2⟩ := bigP_of h
  simp (config := {maxSteps := 1000000}) (disch := omega) only [go_sem, ↓reduceIte, Nat.reduceEqDiff, Nat.reduceAdd, Nat.reduceMul, Nat.reduceSub, Nat.reduceLeDiff, Nat.reduceLT, Int.reduceToNat, Int.reduceLE, Int.reduceLT, Int.reduceNeg, mLawTree, h2]
end Go.TM
