/- Contracts, 69: PutKey: the reference's side, the law. -/
import Derived.Test.YtbpfagbihffmbaaF68
namespace Go.TM
open Go.Proofs
set_option linter.unusedVariables false
set_option linter.unusedSimpArgs false
set_option maxRecDepth 100000
set_option maxHeartbeats 4000000

theorem putUp_sm {t : Tr} (hv : TV t) {key : Int} (hk : 0 ≤ key ∧ key ≤ 99) : ∀ (i : Nat) (u : Tr), PutJ t key i u → SmTr (putUp (pathF t key (htT t) t.root) i u)
  | 0, u, h => by
    by_cases h4 : (pgAt u ((pathF t key (htT t) t.root).getD 0 0)).keys.length ≤ 4
    · rw [putUp_le h4]
      exact h.smT hv
    · rw [putUp_0 h4]
      have h1 := h.inv.len
      have h2 := hv.len.2
      have h3 := hv.ht
      have hp := adU_sm hv h
      have hal : (adU (pathF t key (htT t) t.root) 0 u).pages.length = u.pages.length + 1 := by simp [addPg, setPg]
      have hq : ∀ p ∈ (adU (pathF t key (htT t) t.root) 0 u).pages ++ [(⟨[(sqU (pathF t key (htT t) t.root) 0 u).key], [(pathF t key (htT t) t.root).getD 0 0, u.pages.length], []⟩ : Pg)], totP p ≤ 16 := by
        intro p hp'
        rcases List.mem_append.1 hp' with hp' | hp'
        · exact (hp p hp').tot
        · rw [List.mem_singleton] at hp'
          rw [hp']
          show 1 + 2 + 0 ≤ 16
          omega
      have ht := tot_le hq
      rw [List.length_append, hal, List.length_singleton] at ht
      refine ⟨?_, ?_⟩
      · show (_ ++ _ : List Pg).length ≤ 1000
        rw [List.length_append, hal, List.length_singleton]; omega
      · show Go.TM.tot (_ ++ _) ≤ 10000
        omega
  | i + 1, u, h => by
    by_cases h4 : (pgAt u ((pathF t key (htT t) t.root).getD (i + 1) 0)).keys.length ≤ 4
    · rw [putUp_le h4]
      exact h.smT hv
    · rw [putUp_s h4]
      exact putUp_sm hv hk i _ (h.up hv hk h4)
theorem putT_sm {t : Tr} (hv : TV t) {a b : Int} (ha : 0 ≤ a ∧ a ≤ 99) (hb : -1000 ≤ b ∧ b ≤ 1000) : SmTr (putT t (a, b)) := putUp_sm hv ha _ _ (putJ_start hv ha hb)
theorem putKV_sm (t : Tr) (x : Pr) : SmTr (putKV t x).1 := by
  obtain ⟨a, b⟩ := x
  by_cases h : vTr t = true ∧ (inR a 0 99 = true ∧ inR b (-1000) 1000 = true) ∧ vTr (putT t (a, b)) = true
  · rw [putKV_t h]
    exact putT_sm (vTr_iff.1 h.1) (inR_iff.1 h.2.1.1) (inR_iff.1 h.2.1.2)
  · rw [putKV_f h]
    exact smTr_nil 0

theorem does_PutKeyS {G : Nat → Option FM} (h_validTree : G 57 = some (.model mValidTree)) (h_validRow : G 69 = some (.model mValidRow)) (h_putTree : G 70 = some (.model mPutTree)) : Does T G (fun id => match id with  | _ => []) Try.f35 mPutKey := by
  refine does2 (rs := [.cell 4 28, .tmp 5]) rfl rfl fun t x ro h => ?_
  obtain ⟨hs, rfl⟩ := gd_some h
  refine ⟨fun _ => ⟨by simp only [cleanA, cleanL, clean_pgs, Bool.and_self], rfl⟩, ?_⟩
  clear h
  obtain ⟨a, b⟩ := x
  have vo := vRow_one (a, b)
  dsimp only at vo
  cases hv : vTr t
  · rw [putKV_f (by rw [hv]; simp)]
    simp (config := {maxSteps := 1000000}) (disch := omega) only [go_sem, ↓reduceIte, Nat.reduceEqDiff, Nat.reduceAdd, Nat.reduceMul, Nat.reduceSub, Nat.reduceLeDiff, Nat.reduceLT, Int.reduceToNat, Int.reduceLE, Int.reduceLT, Int.reduceNeg, h_validTree, mValidTree, h_validRow, mValidRow, h_putTree, mPutTree, drP_n, drP_c, logAt_n, logAt_c, disP_n, disP_c, notIn_n, notIn_c, hs, hv]
    try rfl
  · by_cases hab : inR a 0 99 = true ∧ inR b (-1000) 1000 = true
    · obtain ⟨ha, hb⟩ := hab
      have eab : (inR a 0 99 && inR b (-1000) 1000) = true := by rw [ha, hb]; rfl
      rw [eab] at vo
      have sm := (putT_sm (vTr_iff.1 hv) (inR_iff.1 ha) (inR_iff.1 hb)).sm
      cases hvp : vTr (putT t (a, b))
      · rw [putKV_f (by rw [hvp]; simp)]
        simp (config := {maxSteps := 1000000}) (disch := omega) only [go_sem, ↓reduceIte, Nat.reduceEqDiff, Nat.reduceAdd, Nat.reduceMul, Nat.reduceSub, Nat.reduceLeDiff, Nat.reduceLT, Int.reduceToNat, Int.reduceLE, Int.reduceLT, Int.reduceNeg, h_validTree, mValidTree, h_validRow, mValidRow, h_putTree, mPutTree, drP_n, drP_c, logAt_n, logAt_c, disP_n, disP_c, notIn_n, notIn_c, hs, hv, vo, ha, hb, cRow_one, sm, hvp]
        try rfl
      · rw [putKV_t ⟨hv, ⟨ha, hb⟩, hvp⟩]
        simp (config := {maxSteps := 1000000}) (disch := omega) only [go_sem, ↓reduceIte, Nat.reduceEqDiff, Nat.reduceAdd, Nat.reduceMul, Nat.reduceSub, Nat.reduceLeDiff, Nat.reduceLT, Int.reduceToNat, Int.reduceLE, Int.reduceLT, Int.reduceNeg, h_validTree, mValidTree, h_validRow, mValidRow, h_putTree, mPutTree, drP_n, drP_c, logAt_n, logAt_c, disP_n, disP_c, notIn_n, notIn_c, hs, hv, vo, ha, hb, cRow_one, sm, hvp]
        try rfl
    · have eab : (inR a 0 99 && inR b (-1000) 1000) = false := by
        rw [Bool.eq_false_iff]; intro hh; rw [Bool.and_eq_true] at hh; exact hab hh
      rw [eab] at vo
      rw [putKV_f (fun h => hab h.2.1)]
      simp (config := {maxSteps := 1000000}) (disch := omega) only [go_sem, ↓reduceIte, Nat.reduceEqDiff, Nat.reduceAdd, Nat.reduceMul, Nat.reduceSub, Nat.reduceLeDiff, Nat.reduceLT, Int.reduceToNat, Int.reduceLE, Int.reduceLT, Int.reduceNeg, h_validTree, mValidTree, h_validRow, mValidRow, h_putTree, mPutTree, drP_n, drP_c, logAt_n, logAt_c, disP_n, disP_c, notIn_n, notIn_c, hs, hv, vo, cRow_one]
      try rfl
theorem fo_PutKeyS : FnOk Try.prog 35 := fnOk_of Try.func35 (by kernel_rfl)
theorem c_PutKeyS : Contract Try.prog 35 mPutKey :=
  contract_of_does (DT := fun id => match id with  | _ => []) Try.checked.mixed tabOk (gok_model fo_validTree c_validTree (gok_model fo_validRow c_validRow (gok_model fo_putTree c_putTree gok_nil))) Try.func35 rfl (by kernel_rfl) (does_PutKeyS rfl rfl rfl)


def mLawTreeP : Model := M2 .ro .ro true (cTr false) cPair fun t x => gd (t.pages.length ≤ 9223372036854775807 ∧ t.pages.all bigP = true) (.b true, [])

theorem does_FnExactPutKey {G : Nat → Option FM} (h_szTree : G 15 = some (.model mSzTree)) (h_toTree : G 17 = some (.model mToTree)) (h_toPair : G 36 = some (.model mToPair)) (h_PutKeyS : G 35 = some (.model mPutKey)) (h_PutKeyI : G 37 = some (.model mPutKey)) (h_eqTree : G 19 = some (.model mEqTree)) (h_markTree : G 20 = some (.each 2 [1] mMarkPageS)) (h_heldTree : G 21 = some (.model mHeldTree)) : Does T G (fun id => match id with | 5 => [(1, 2), (8, 0), (1, 8), (8, 1), (8, 2), (3, 8), (8, 3), (4, 8), (8, 4)] | 7 => [(2, 0), (7, 0), (7, 1), (2, 7), (7, 2), (3, 7), (7, 3)] | 10 => [(2, 0)] | 24 => [(1, 2), (8, 0), (1, 8), (8, 1), (8, 2), (3, 8), (8, 3), (4, 8), (8, 4)] | _ => []) Try.f7 mLawTreeP := by
  refine does2 (rs := [.tmp 4]) rfl rfl fun t x ro h => ?_
  obtain ⟨⟨hs, hb⟩, rfl⟩ := gd_some h
  refine ⟨fun _ => ⟨rfl, rfl⟩, ?_⟩
  obtain ⟨z, hz⟩ : ∃ z, szPs t.pages 1048576 = z := ⟨_, rfl⟩
  have la := putKV_sm t x
  generalize ha : (putKV t x).1 = a at la
  generalize hb' : (putKV t x).2 = b
  by_cases h1 : z < 0
  · have e1 : decide (z < 0) = true := decide_eq_true h1
    simp (config := {maxSteps := 1000000}) (disch := omega) only [go_sem, ↓reduceIte, Nat.reduceEqDiff, Nat.reduceAdd, Nat.reduceMul, Nat.reduceSub, Nat.reduceLeDiff, Nat.reduceLT, Int.reduceToNat, Int.reduceLE, Int.reduceLT, Int.reduceNeg, h_szTree, mSzTree, h_toTree, mToTree, h_toPair, mToPair, h_PutKeyS, mPutKey, h_PutKeyI, mPutKey, h_eqTree, mEqTree, h_markTree, mMarkPageS, h_heldTree, mHeldTree, drP_n, drP_c, logAt_n, logAt_c, disP_n, disP_c, notIn_n, notIn_c, ePr, hb, hz, e1]
  · have e1 : decide (z < 0) = false := decide_eq_false h1
    obtain ⟨h2, hsm⟩ := lawT_small hz h1
    have lb := la.sm
    have lc := (la.mark a.root 1).sm
    dsimp only at lc
    have l1 := la.tot
    have l2 := la.len
    have l3 := mkPs_len a.pages 1
    have e2 : decide (1 + (tot t.pages : Int) < 0) = false := decide_eq_false (by omega)
    have e3 : decide (1 + (tot a.pages : Int) < 0) = false := decide_eq_false (by omega)
    have hfl := flat_mk t.pages 1
    have hfa := flat_mk a.pages 1
    simp (config := {maxSteps := 1000000}) (disch := omega) only [go_sem, ↓reduceIte, Nat.reduceEqDiff, Nat.reduceAdd, Nat.reduceMul, Nat.reduceSub, Nat.reduceLeDiff, Nat.reduceLT, Int.reduceToNat, Int.reduceLE, Int.reduceLT, Int.reduceNeg, h_szTree, mSzTree, h_toTree, mToTree, h_toPair, mToPair, h_PutKeyS, mPutKey, h_PutKeyI, mPutKey, h_eqTree, mEqTree, h_markTree, mMarkPageS, h_heldTree, mHeldTree, drP_n, drP_c, logAt_n, logAt_c, disP_n, disP_c, notIn_n, notIn_c, ePr, hb, hz, e1, hsm, ha, hb', e2, e3, lb, lc, hfl, hfa, sub_mk, mkPs_idem, mkPs_tot]
theorem fo_FnExactPutKey : FnOk Try.prog 7 := fnOk_of Try.func7 (by kernel_rfl)
theorem c_FnExactPutKey : Contract Try.prog 7 mLawTreeP :=
  contract_of_does (DT := fun id => match id with | 5 => [(1, 2), (8, 0), (1, 8), (8, 1), (8, 2), (3, 8), (8, 3), (4, 8), (8, 4)] | 7 => [(2, 0), (7, 0), (7, 1), (2, 7), (7, 2), (3, 7), (7, 3)] | 10 => [(2, 0)] | 24 => [(1, 2), (8, 0), (1, 8), (8, 1), (8, 2), (3, 8), (8, 3), (4, 8), (8, 4)] | _ => []) Try.checked.mixed tabOk (gok_model fo_szTree c_szTree (gok_model fo_toTree c_toTree (gok_model fo_toPair c_toPair (gok_model fo_PutKeyS c_PutKeyS (gok_model fo_PutKeyI c_PutKeyI (gok_model fo_eqTree c_eqTree (gok_each fo_markTree c_markTree (gok_model fo_heldTree c_heldTree gok_nil)))))))) Try.func7 rfl (by kernel_rfl) (does_FnExactPutKey rfl rfl rfl rfl rfl rfl rfl rfl)

theorem fn_FnExactPutKey (t : Tr) (h : TrW t) (k : Pr) (hk : intWf .i64 k.1 ∧ intWf .i64 k.2) : mLawTreeP.fn [eTr false t, ePair k] = some (.b true, []) := by
  obtain ⟨h1, h2⟩ := bigP_of h
  simp (config := {maxSteps := 1000000}) (disch := omega) only [go_sem, ↓reduceIte, Nat.reduceEqDiff, Nat.reduceAdd, Nat.reduceMul, Nat.reduceSub, Nat.reduceLeDiff, Nat.reduceLT, Int.reduceToNat, Int.reduceLE, Int.reduceLT, Int.reduceNeg, mLawTreeP, h2]
end Go.TM
