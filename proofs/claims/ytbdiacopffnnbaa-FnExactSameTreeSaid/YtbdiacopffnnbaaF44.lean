/- Contracts, 44: LeavesOf. -/
import Derived.Test.YtbdiacopffnnbaaF43
namespace Go.TM
open Go.Proofs
set_option linter.unusedVariables false
set_option linter.unusedSimpArgs false
set_option maxRecDepth 100000
set_option maxHeartbeats 4000000

noncomputable def lvsV (t : Tr) : List Int := if vTr t = true then lvF t (htT t) t.root else []
theorem lvsV_f {t : Tr} (h : vTr t = false) : lvsV t = [] := if_neg (by rw [h]; simp)
theorem lvsV_t {t : Tr} (h : vTr t = true) : lvsV t = lvF t (htT t) t.root := if_pos h
theorem lvsV_len (t : Tr) : (lvsV t).length ≤ 16 := by
  cases h : vTr t
  · rw [lvsV_f h]; simp
  · rw [lvsV_t h]; exact lvF_len (vTr_iff.1 h).pd
noncomputable def mLeavesOf : Model := M1 .ro true (cTr false) fun t => gd (smT t.pages = true) (eIs true (lvsV t), [])


theorem does_LeavesOfI {G : Nat → Option FM} (h_ValidTreeI : G 64 = some (.model mValidTree)) (h_leavesBelow : G 152 = some (.model (mLvBelow 3))) : Does T G (fun id => match id with  | _ => []) Try.f83 mLeavesOf := by
  refine does1 (rs := [.tmp 2]) rfl rfl fun t ro h => ?_
  obtain ⟨hs, rfl⟩ := gd_some h
  refine ⟨fun _ => ⟨by simp only [cleanA]; exact clean_ints _, rfl⟩, ?_⟩
  clear h
  cases hv : vTr t
  · rw [lvsV_f hv]
    simp (config := {maxSteps := 1000000}) (disch := omega) only [go_sem, ↓reduceIte, Nat.reduceEqDiff, Nat.reduceAdd, Nat.reduceMul, Nat.reduceSub, Nat.reduceLeDiff, Nat.reduceLT, Int.reduceToNat, Int.reduceLE, Int.reduceLT, Int.reduceNeg, h_ValidTreeI, mValidTree, h_leavesBelow, mLvBelow, drP_n, drP_c, logAt_n, logAt_c, disP_n, disP_c, notIn_n, notIn_c, hs, hv]
    try rfl
  · rw [lvsV_t hv]
    have tv := vTr_iff.1 hv
    have pd := tv.pd
    have h3a : htF t 3 t.root ≤ 2 := tv.ht
    have h3b : htF t 3 t.root < 3 := by omega
    have ll := lvF_len pd
    have l0 : ([] : List Int).length + (lvF t (htT t) t.root).length ≤ 1000 := by simp; omega
    have ll3 : (lvF t (htF t 3 t.root) t.root).length ≤ 1000 := Nat.le_trans ll (by decide)
    have d0 : (cIs true).d (.s true 1 0 []) = some [] := rfl
    simp (config := {maxSteps := 1000000}) (disch := omega) only [go_sem, ↓reduceIte, Nat.reduceEqDiff, Nat.reduceAdd, Nat.reduceMul, Nat.reduceSub, Nat.reduceLeDiff, Nat.reduceLT, Int.reduceToNat, Int.reduceLE, Int.reduceLT, Int.reduceNeg, h_ValidTreeI, mValidTree, h_leavesBelow, mLvBelow, drP_n, drP_c, logAt_n, logAt_c, disP_n, disP_c, notIn_n, notIn_c, hs, hv, pd, h3a, h3b, d0, l0, List.nil_append]
    try rfl
theorem fo_LeavesOfI : FnOk Try.prog 83 := fnOk_of Try.func83 (by kernel_rfl)
theorem c_LeavesOfI : Contract Try.prog 83 mLeavesOf :=
  contract_of_does (DT := fun id => match id with  | _ => []) Try.checked.mixed tabOk (gok_model fo_ValidTreeI c_ValidTreeI (gok_model fo_leavesBelow (c_leavesBelow 3) gok_nil)) Try.func83 rfl (by kernel_rfl) (does_LeavesOfI rfl rfl)


theorem fn_FnExactLeavesOf (t : Tr) (h : TrW t) : mLawTree.fn [eTr false t] = some (.b true, []) := by
  obtain ⟨h1, h2⟩ := bigP_of h
  simp (config := {maxSteps := 1000000}) (disch := omega) only [go_sem, ↓reduceIte, Nat.reduceEqDiff, Nat.reduceAdd, Nat.reduceMul, Nat.reduceSub, Nat.reduceLeDiff, Nat.reduceLT, Int.reduceToNat, Int.reduceLE, Int.reduceLT, Int.reduceNeg, mLawTree, h2]
end Go.TM
