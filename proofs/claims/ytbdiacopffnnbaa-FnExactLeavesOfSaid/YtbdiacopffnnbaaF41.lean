/- Contracts, 41: the height of a tree. -/
import Derived.Test.YtbdiacopffnnbaaF39
namespace Go.TM
open Go.Proofs
set_option linter.unusedVariables false
set_option linter.unusedSimpArgs false
set_option maxRecDepth 100000
set_option maxHeartbeats 4000000

theorem vTr_pf {t : Tr} (h : vTr t = true) : pfE t (htT t) t.root ∧ htT t ≤ 2 := by
  unfold vTr at h
  simp only [Bool.and_eq_true, decide_eq_true_eq] at h
  obtain ⟨h1, h2, h3, h4, h5⟩ := h
  have := inR_iff.1 h2
  exact ⟨⟨by omega, 0, 99, h4⟩, h3⟩
theorem pfE.kid0 {t : Tr} {h : Nat} {x : Int} (p : pfE t (h + 1) x) : (pgAt t x).kids.length ≠ 0 := by
  obtain ⟨hr, low, hi, hp⟩ := p
  have := (innOk_iff.1 (pf_succ.1 hp).2.1).2.2.1
  omega
noncomputable def hgV (t : Tr) : Int := if vTr t = true then (htT t : Int) + 1 else -1
noncomputable def mHeightOf : Model := M1 .ro true (cTr false) fun t => gd (smT t.pages = true) (eI (hgV t), [])

theorem does_HeightOfS {G : Nat → Option FM} (h_validTree : G 132 = some (.model mValidTree)) (h_heightOf : G 139 = some (.model mHeight)) : Does T G (fun id => match id with  | _ => []) Try.f71 mHeightOf := by
  refine does1 (rs := [.tmp 2]) rfl rfl fun t ro h => ?_
  obtain ⟨hs, rfl⟩ := gd_some h
  refine ⟨fun _ => ⟨rfl, rfl⟩, ?_⟩
  cases hv : vTr t
  · simp (config := {maxSteps := 1000000}) (disch := omega) only [go_sem, ↓reduceIte, Nat.reduceEqDiff, Nat.reduceAdd, Nat.reduceMul, Nat.reduceSub, Nat.reduceLeDiff, Nat.reduceLT, Int.reduceToNat, Int.reduceLE, Int.reduceLT, Int.reduceNeg, h_validTree, mValidTree, h_heightOf, mHeight, drP_n, drP_c, logAt_n, logAt_c, disP_n, disP_c, notIn_n, notIn_c, hs, hv]
    rw [show hgV t = -1 from if_neg (by rw [hv]; simp)]
  · simp (config := {maxSteps := 1000000}) (disch := omega) only [go_sem, ↓reduceIte, Nat.reduceEqDiff, Nat.reduceAdd, Nat.reduceMul, Nat.reduceSub, Nat.reduceLeDiff, Nat.reduceLT, Int.reduceToNat, Int.reduceLE, Int.reduceLT, Int.reduceNeg, h_validTree, mValidTree, h_heightOf, mHeight, drP_n, drP_c, logAt_n, logAt_c, disP_n, disP_c, notIn_n, notIn_c, hs, hv]
    rw [show hgV t = (htT t : Int) + 1 from if_pos hv]
theorem fo_HeightOfS : FnOk Try.prog 71 := fnOk_of Try.func71 (by kernel_rfl)
theorem c_HeightOfS : Contract Try.prog 71 mHeightOf :=
  contract_of_does (DT := fun id => match id with  | _ => []) Try.checked.mixed tabOk (gok_model fo_validTree c_validTree (gok_model fo_heightOf c_heightOf gok_nil)) Try.func71 rfl (by kernel_rfl) (does_HeightOfS rfl rfl)


theorem does_HeightOfI {G : Nat → Option FM} (h_ValidTreeI : G 64 = some (.model mValidTree)) : Does T G (fun id => match id with  | _ => []) Try.f72 mHeightOf := by
  refine does1 (rs := [.tmp 2]) rfl rfl fun t ro h => ?_
  obtain ⟨hs, rfl⟩ := gd_some h
  refine ⟨fun _ => ⟨rfl, rfl⟩, ?_⟩
  clear h
  cases hv : vTr t
  · simp (config := {maxSteps := 1000000}) (disch := omega) only [go_sem, ↓reduceIte, Nat.reduceEqDiff, Nat.reduceAdd, Nat.reduceMul, Nat.reduceSub, Nat.reduceLeDiff, Nat.reduceLT, Int.reduceToNat, Int.reduceLE, Int.reduceLT, Int.reduceNeg, h_ValidTreeI, mValidTree, drP_n, drP_c, logAt_n, logAt_c, disP_n, disP_c, notIn_n, notIn_c, hs, hv]
    rw [show hgV t = -1 from if_neg (by rw [hv]; simp)]
  · obtain ⟨hp0, h2⟩ := vTr_pf hv
    rw [show hgV t = (htT t : Int) + 1 from if_pos hv]
    simp (config := {maxSteps := 1000000}) (disch := omega) only [go_sem, ↓reduceIte, Nat.reduceEqDiff, Nat.reduceAdd, Nat.reduceMul, Nat.reduceSub, Nat.reduceLeDiff, Nat.reduceLT, Int.reduceToNat, Int.reduceLE, Int.reduceLT, Int.reduceNeg, h_ValidTreeI, mValidTree, drP_n, drP_c, logAt_n, logAt_c, disP_n, disP_c, notIn_n, notIn_c, hs, hv]
    refine W_loop_i (fun s => s.sl 1 = .ptr (3, 0) [] 0 0 ∧ s.hp (3, 0) = some ⟨2, 1, [eI t.root, ePgs false t.pages], fun _ => 0⟩ ∧ ∃ (j : Nat) (x : Int), j ≤ htT t ∧ s.sl 3 = eI ((htT t : Int) - j + 1) ∧ s.sl 4 = eI x ∧ pfE t j x) (fun s => 4 - iN (s.sl 3)) ?_ ?_
    · refine ⟨rfl, rfl, htT t, t.root, Nat.le_refl _, ?_, rfl, hp0⟩
      show A.i .i64 _ = A.i .i64 _
      congr 1
      omega
    · rintro sl hp q ⟨h1, hh, j, x, hj, h3, h4, px⟩
      dsimp only at h1 h3 h4 hh
      have hx := px.1
      obtain ⟨y, rfl⟩ : ∃ y : Nat, x = y := ⟨x.toNat, by omega⟩
      have hts := tr_small hs y
      have hpa := pgAt_nat t y
      rw [hpa] at hts
      cases j with
      | zero =>
        have hk := px.kids0
        rw [hpa] at hk
        have e1 : decide ((0 : Int) < ((t.pages.getD y default).kids.length : Int)) = false := decide_eq_false (by omega)
        simp (config := {maxSteps := 1000000}) (disch := omega) only [go_sem, ↓reduceIte, Nat.reduceEqDiff, Nat.reduceAdd, Nat.reduceMul, Nat.reduceSub, Nat.reduceLeDiff, Nat.reduceLT, Int.reduceToNat, Int.reduceLE, Int.reduceLT, Int.reduceNeg, h_ValidTreeI, mValidTree, drP_n, drP_c, logAt_n, logAt_c, disP_n, disP_c, notIn_n, notIn_c, h1, hh, h3, h4, e1]
        try rfl
        try (show some (A.i .i64 _, _) = some (A.i .i64 _, _); congr 3; omega)
      | succ j =>
        have hk := px.kid0
        have hkd := px.kid
        rw [hpa] at hk hkd
        have e1 : decide ((0 : Int) < ((t.pages.getD y default).kids.length : Int)) = true := decide_eq_true (by omega)
        have pk := hkd.2 _ (getD_mem (k := 0) (by omega))
        simp (config := {maxSteps := 1000000}) (disch := omega) only [go_sem, ↓reduceIte, Nat.reduceEqDiff, Nat.reduceAdd, Nat.reduceMul, Nat.reduceSub, Nat.reduceLeDiff, Nat.reduceLT, Int.reduceToNat, Int.reduceLE, Int.reduceLT, Int.reduceNeg, h_ValidTreeI, mValidTree, drP_n, drP_c, logAt_n, logAt_c, disP_n, disP_c, notIn_n, notIn_c, h1, hh, h3, h4, e1]
        refine ⟨⟨j, _, by omega, ?_, rfl, pk⟩, by omega⟩
        show A.i .i64 _ = A.i .i64 _
        congr 1
        omega
theorem fo_HeightOfI : FnOk Try.prog 72 := fnOk_of Try.func72 (by kernel_rfl)
theorem c_HeightOfI : Contract Try.prog 72 mHeightOf :=
  contract_of_does (DT := fun id => match id with  | _ => []) Try.checked.mixed tabOk (gok_model fo_ValidTreeI c_ValidTreeI gok_nil) Try.func72 rfl (by kernel_rfl) (does_HeightOfI rfl)


theorem does_FnExactHeightOf {G : Nat → Option FM} (h_szTree : G 61 = some (.model mSzTree)) (h_toTree : G 63 = some (.model mToTree)) (h_HeightOfS : G 71 = some (.model mHeightOf)) (h_HeightOfI : G 72 = some (.model mHeightOf)) (h_eqTree : G 65 = some (.model mEqTree)) : Does T G (fun id => match id with | 10 => [(2, 0)] | _ => []) Try.f14 mLawTree := by
  refine does1 (rs := [.tmp 2]) rfl rfl fun t ro h => ?_
  obtain ⟨⟨hs, hb⟩, rfl⟩ := gd_some h
  refine ⟨fun _ => ⟨rfl, rfl⟩, ?_⟩
  obtain ⟨z, hz⟩ : ∃ z, szPs t.pages 1048576 = z := ⟨_, rfl⟩
  by_cases h1 : z < 0
  · have e1 : decide (z < 0) = true := decide_eq_true h1
    simp (config := {maxSteps := 1000000}) (disch := omega) only [go_sem, ↓reduceIte, Nat.reduceEqDiff, Nat.reduceAdd, Nat.reduceMul, Nat.reduceSub, Nat.reduceLeDiff, Nat.reduceLT, Int.reduceToNat, Int.reduceLE, Int.reduceLT, Int.reduceNeg, h_szTree, mSzTree, h_toTree, mToTree, h_HeightOfS, mHeightOf, h_HeightOfI, mHeightOf, h_eqTree, mEqTree, drP_n, drP_c, logAt_n, logAt_c, disP_n, disP_c, notIn_n, notIn_c, hb, hz, e1]
  · have e1 : decide (z < 0) = false := decide_eq_false h1
    obtain ⟨h2, hsm⟩ := lawT_small hz h1
    simp (config := {maxSteps := 1000000}) (disch := omega) only [go_sem, ↓reduceIte, Nat.reduceEqDiff, Nat.reduceAdd, Nat.reduceMul, Nat.reduceSub, Nat.reduceLeDiff, Nat.reduceLT, Int.reduceToNat, Int.reduceLE, Int.reduceLT, Int.reduceNeg, h_szTree, mSzTree, h_toTree, mToTree, h_HeightOfS, mHeightOf, h_HeightOfI, mHeightOf, h_eqTree, mEqTree, drP_n, drP_c, logAt_n, logAt_c, disP_n, disP_c, notIn_n, notIn_c, hb, hz, e1, hsm]
theorem fo_FnExactHeightOf : FnOk Try.prog 14 := fnOk_of Try.func14 (by kernel_rfl)
theorem c_FnExactHeightOf : Contract Try.prog 14 mLawTree :=
  contract_of_does (DT := fun id => match id with | 10 => [(2, 0)] | _ => []) Try.checked.mixed tabOk (gok_model fo_szTree c_szTree (gok_model fo_toTree c_toTree (gok_model fo_HeightOfS c_HeightOfS (gok_model fo_HeightOfI c_HeightOfI (gok_model fo_eqTree c_eqTree gok_nil))))) Try.func14 rfl (by kernel_rfl) (does_FnExactHeightOf rfl rfl rfl rfl rfl)

theorem fn_FnExactHeightOf (t : Tr) (h : TrW t) : mLawTree.fn [eTr false t] = some (.b true, []) := by
  obtain ⟨h1, h2⟩ := bigP_of h
  simp (config := {maxSteps := 1000000}) (disch := omega) only [go_sem, ↓reduceIte, Nat.reduceEqDiff, Nat.reduceAdd, Nat.reduceMul, Nat.reduceSub, Nat.reduceLeDiff, Nat.reduceLT, Int.reduceToNat, Int.reduceLE, Int.reduceLT, Int.reduceNeg, mLawTree, h2]
end Go.TM
