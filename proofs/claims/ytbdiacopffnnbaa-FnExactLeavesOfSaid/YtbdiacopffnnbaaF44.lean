/- Contracts, 44: LeavesOf. -/
import Derived.Test.YtbdiacopffnnbaaF43
namespace Go.TM
open Go.Proofs
set_option linter.unusedVariables false
set_option linter.unusedSimpArgs false
set_option maxRecDepth 100000
set_option maxHeartbeats 4000000

noncomputable def lvsV (t : Tr) : List Int := if vTr t = true then lvF t (htT t) t.root else []
theorem lvsV_f {t : Tr} (h : vTr t = false) : lvsV t = [] := if_neg (by rw [h]; simp)
theorem lvsV_t {t : Tr} (h : vTr t = true) : lvsV t = lvF t (htT t) t.root := if_pos h
theorem lvsV_len (t : Tr) : (lvsV t).length ≤ 16 := by
  cases h : vTr t
  · rw [lvsV_f h]; simp
  · rw [lvsV_t h]; exact lvF_len (vTr_iff.1 h).pd
noncomputable def mLeavesOf : Model := M1 .ro true (cTr false) fun t => gd (smT t.pages = true) (eIs true (lvsV t), [])

theorem does_LeavesOfS {G : Nat → Option FM} (h_validTree : G 132 = some (.model mValidTree)) (h_leavesOf : G 151 = some (.model mLeaves)) : Does T G (fun id => match id with  | _ => []) Try.f82 mLeavesOf := by
  refine does1 (rs := [.tmp 2]) rfl rfl fun t ro h => ?_
  obtain ⟨hs, rfl⟩ := gd_some h
  refine ⟨fun _ => ⟨by simp only [cleanA]; exact clean_ints _, rfl⟩, ?_⟩
  clear h
  cases hv : vTr t
  · rw [lvsV_f hv]
    simp (config := {maxSteps := 1000000}) (disch := omega) only [go_sem, ↓reduceIte, Nat.reduceEqDiff, Nat.reduceAdd, Nat.reduceMul, Nat.reduceSub, Nat.reduceLeDiff, Nat.reduceLT, Int.reduceToNat, Int.reduceLE, Int.reduceLT, Int.reduceNeg, h_validTree, mValidTree, h_leavesOf, mLeaves, drP_n, drP_c, logAt_n, logAt_c, disP_n, disP_c, notIn_n, notIn_c, hs, hv]
    try rfl
  · rw [lvsV_t hv]
    simp (config := {maxSteps := 1000000}) (disch := omega) only [go_sem, ↓reduceIte, Nat.reduceEqDiff, Nat.reduceAdd, Nat.reduceMul, Nat.reduceSub, Nat.reduceLeDiff, Nat.reduceLT, Int.reduceToNat, Int.reduceLE, Int.reduceLT, Int.reduceNeg, h_validTree, mValidTree, h_leavesOf, mLeaves, drP_n, drP_c, logAt_n, logAt_c, disP_n, disP_c, notIn_n, notIn_c, hs, hv]
    try rfl
theorem fo_LeavesOfS : FnOk Try.prog 82 := fnOk_of Try.func82 (by kernel_rfl)
theorem c_LeavesOfS : Contract Try.prog 82 mLeavesOf :=
  contract_of_does (DT := fun id => match id with  | _ => []) Try.checked.mixed tabOk (gok_model fo_validTree c_validTree (gok_model fo_leavesOf c_leavesOf gok_nil)) Try.func82 rfl (by kernel_rfl) (does_LeavesOfS rfl rfl)


theorem does_LeavesOfI {G : Nat → Option FM} (h_ValidTreeI : G 64 = some (.model mValidTree)) (h_leavesBelow : G 152 = some (.model (mLvBelow 3))) : Does T G (fun id => match id with  | _ => []) Try.f83 mLeavesOf := by
  refine does1 (rs := [.tmp 2]) rfl rfl fun t ro h => ?_
  obtain ⟨hs, rfl⟩ := gd_some h
  refine ⟨fun _ => ⟨by simp only [cleanA]; exact clean_ints _, rfl⟩, ?_⟩
  clear h
  cases hv : vTr t
  · rw [lvsV_f hv]
    simp (config := {maxSteps := 1000000}) (disch := omega) only [go_sem, ↓reduceIte, Nat.reduceEqDiff, Nat.reduceAdd, Nat.reduceMul, Nat.reduceSub, Nat.reduceLeDiff, Nat.reduceLT, Int.reduceToNat, Int.reduceLE, Int.reduceLT, Int.reduceNeg, h_ValidTreeI, mValidTree, h_leavesBelow, mLvBelow, drP_n, drP_c, logAt_n, logAt_c, disP_n, disP_c, notIn_n, notIn_c, hs, hv]
    try rfl
  · rw [lvsV_t hv]
    have tv := vTr_iff.1 hv
    have pd := tv.pd
    have h3a : htF t 3 t.root ≤ 2 := tv.ht
    have h3b : htF t 3 t.root < 3 := by omega
    have ll := lvF_len pd
    have l0 : ([] : List Int).length + (lvF t (htT t) t.root).length ≤ 1000 := by simp; omega
    have ll3 : (lvF t (htF t 3 t.root) t.root).length ≤ 1000 := Nat.le_trans ll (by decide)
    have d0 : (cIs true).d (.s true 1 0 []) = some [] := rfl
    simp (config := {maxSteps := 1000000}) (disch := omega) only [go_sem, ↓reduceIte, Nat.reduceEqDiff, Nat.reduceAdd, Nat.reduceMul, Nat.reduceSub, Nat.reduceLeDiff, Nat.reduceLT, Int.reduceToNat, Int.reduceLE, Int.reduceLT, Int.reduceNeg, h_ValidTreeI, mValidTree, h_leavesBelow, mLvBelow, drP_n, drP_c, logAt_n, logAt_c, disP_n, disP_c, notIn_n, notIn_c, hs, hv, pd, h3a, h3b, d0, l0, List.nil_append]
    try rfl
theorem fo_LeavesOfI : FnOk Try.prog 83 := fnOk_of Try.func83 (by kernel_rfl)
theorem c_LeavesOfI : Contract Try.prog 83 mLeavesOf :=
  contract_of_does (DT := fun id => match id with  | _ => []) Try.checked.mixed tabOk (gok_model fo_ValidTreeI c_ValidTreeI (gok_model fo_leavesBelow (c_leavesBelow 3) gok_nil)) Try.func83 rfl (by kernel_rfl) (does_LeavesOfI rfl rfl)


theorem does_FnExactLeavesOf {G : Nat → Option FM} (h_szTree : G 61 = some (.model mSzTree)) (h_toTree : G 63 = some (.model mToTree)) (h_LeavesOfS : G 82 = some (.model mLeavesOf)) (h_LeavesOfI : G 83 = some (.model mLeavesOf)) (h_eqTree : G 65 = some (.model mEqTree)) (h_eqIntS : G 52 = some (.model mEqIntS)) (h_markTree : G 80 = some (.each 2 [1] mMarkPageS)) (h_markIntS : G 53 = some (.model mMarkIntS)) (h_heldIntS : G 54 = some (.model mHeldIntS)) : Does T G (fun id => match id with | 10 => [(2, 0)] | _ => []) Try.f18 mLawTree := by
  refine does1 (rs := [.tmp 2]) rfl rfl fun t ro h => ?_
  obtain ⟨⟨hs, hb⟩, rfl⟩ := gd_some h
  refine ⟨fun _ => ⟨rfl, rfl⟩, ?_⟩
  obtain ⟨z, hz⟩ : ∃ z, szPs t.pages 1048576 = z := ⟨_, rfl⟩
  have la := lvsV_len t
  generalize ha : lvsV t = a at la
  by_cases h1 : z < 0
  · have e1 : decide (z < 0) = true := decide_eq_true h1
    simp (config := {maxSteps := 1000000}) (disch := omega) only [go_sem, ↓reduceIte, Nat.reduceEqDiff, Nat.reduceAdd, Nat.reduceMul, Nat.reduceSub, Nat.reduceLeDiff, Nat.reduceLT, Int.reduceToNat, Int.reduceLE, Int.reduceLT, Int.reduceNeg, h_szTree, mSzTree, h_toTree, mToTree, h_LeavesOfS, mLeavesOf, h_LeavesOfI, mLeavesOf, h_eqTree, mEqTree, h_eqIntS, mEqIntS, h_markTree, mMarkPageS, h_markIntS, mMarkIntS, h_heldIntS, mHeldIntS, drP_n, drP_c, logAt_n, logAt_c, disP_n, disP_c, notIn_n, notIn_c, hb, hz, e1]
  · have e1 : decide (z < 0) = false := decide_eq_false h1
    obtain ⟨h2, hsm⟩ := lawT_small hz h1
    have m1 := marks_len a.length 1
    have e2 : decide (1 + (tot t.pages : Int) < 0) = false := decide_eq_false (by omega)
    have e3 : decide (1 + (a.length : Int) < 0) = false := decide_eq_false (by omega)
    have hfl : ((mkPs t.pages 1).flatMap (ePg true)).length = (t.pages.flatMap (ePg true)).length := by rw [flatPg_len, flatPg_len, mkPs_len]
    simp (config := {maxSteps := 1000000}) (disch := omega) only [go_sem, ↓reduceIte, Nat.reduceEqDiff, Nat.reduceAdd, Nat.reduceMul, Nat.reduceSub, Nat.reduceLeDiff, Nat.reduceLT, Int.reduceToNat, Int.reduceLE, Int.reduceLT, Int.reduceNeg, h_szTree, mSzTree, h_toTree, mToTree, h_LeavesOfS, mLeavesOf, h_LeavesOfI, mLeavesOf, h_eqTree, mEqTree, h_eqIntS, mEqIntS, h_markTree, mMarkPageS, h_markIntS, mMarkIntS, h_heldIntS, mHeldIntS, drP_n, drP_c, logAt_n, logAt_c, disP_n, disP_c, notIn_n, notIn_c, hb, hz, e1, hsm, ha, e2, e3, marks_len, List.length_map, sub_marks]
theorem fo_FnExactLeavesOf : FnOk Try.prog 18 := fnOk_of Try.func18 (by kernel_rfl)
theorem c_FnExactLeavesOf : Contract Try.prog 18 mLawTree :=
  contract_of_does (DT := fun id => match id with | 10 => [(2, 0)] | _ => []) Try.checked.mixed tabOk (gok_model fo_szTree c_szTree (gok_model fo_toTree c_toTree (gok_model fo_LeavesOfS c_LeavesOfS (gok_model fo_LeavesOfI c_LeavesOfI (gok_model fo_eqTree c_eqTree (gok_model fo_eqIntS c_eqIntS (gok_each fo_markTree c_markTree (gok_model fo_markIntS c_markIntS (gok_model fo_heldIntS c_heldIntS gok_nil))))))))) Try.func18 rfl (by kernel_rfl) (does_FnExactLeavesOf rfl rfl rfl rfl rfl rfl rfl rfl rfl)

theorem fn_FnExactLeavesOf (t : Tr) (h : TrW t) : mLawTree.fn [eTr false t] = some (.b true, []) := by
  obtain ⟨h1, h2⟩ := bigP_of h
  simp (config := {maxSteps := 1000000}) (disch := omega) only [go_sem, ↓reduceIte, Nat.reduceEqDiff, Nat.reduceAdd, Nat.reduceMul, Nat.reduceSub, Nat.reduceLeDiff, Nat.reduceLT, Int.reduceToNat, Int.reduceLE, Int.reduceLT, Int.reduceNeg, mLawTree, h2]
end Go.TM
