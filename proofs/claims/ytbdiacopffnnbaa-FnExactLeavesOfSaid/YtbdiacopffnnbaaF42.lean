/- Contracts, 42: is a page safe. -/
import Derived.Test.YtbdiacopffnnbaaF41
namespace Go.TM
open Go.Proofs
set_option linter.unusedVariables false
set_option linter.unusedSimpArgs false
set_option maxRecDepth 100000
set_option maxHeartbeats 4000000

def sfV (t : Tr) (x op : Int) : Bool :=
  if op = 1 then decide (((pgAt t x).keys.length : Int) < 4)
  else if op = 2 then if x = t.root then decide (((pgAt t x).kids.length : Int) = 0) || decide (1 < ((pgAt t x).keys.length : Int)) else decide (2 < ((pgAt t x).keys.length : Int))
  else true
def mSafe : Model := M3 .ro .ro .ro true (cTr false) cI cI fun t x op => gd (smT t.pages = true ∧ 0 ≤ x ∧ x < t.pages.length) (.b (sfV t x op), [])
noncomputable def safeV (t : Tr) (x op : Int) : Bool := vTr t && (inR x 0 ((t.pages.length : Int) - 1) && (inR op 0 2 && sfV t x op))
noncomputable def mIsSafe : Model := M3 .ro .ro .ro true (cTr false) cI cI fun t x op => gd (smT t.pages = true) (.b (safeV t x op), [])

theorem does_safe {G : Nat → Option FM}  : Does T G (fun id => match id with  | _ => []) Try.f141 mSafe := by
  refine does3 (rs := [.tmp 6]) rfl rfl fun t x op ro h => ?_
  obtain ⟨⟨hs, hx0, hx1⟩, rfl⟩ := gd_some h
  refine ⟨fun _ => ⟨rfl, rfl⟩, ?_⟩
  clear h
  obtain ⟨y, rfl⟩ : ∃ y : Nat, x = y := ⟨x.toNat, by omega⟩
  have hts := tr_small hs y
  have hpa := pgAt_nat t y
  unfold sfV
  rw [hpa] at hts ⊢
  generalize hP : t.pages.getD y default = P at *
  by_cases o1 : op = 1
  · have e1 : decide (op = 1) = true := decide_eq_true o1
    rw [if_pos o1]
    simp (config := {maxSteps := 1000000}) (disch := omega) only [go_sem, ↓reduceIte, Nat.reduceEqDiff, Nat.reduceAdd, Nat.reduceMul, Nat.reduceSub, Nat.reduceLeDiff, Nat.reduceLT, Int.reduceToNat, Int.reduceLE, Int.reduceLT, Int.reduceNeg, drP_n, drP_c, logAt_n, logAt_c, disP_n, disP_c, notIn_n, notIn_c, ePg, hP, e1]
    try rfl
  · have e1 : decide (op = 1) = false := decide_eq_false o1
    rw [if_neg o1]
    by_cases o2 : op = 2
    · have e2 : decide (op = 2) = true := decide_eq_true o2
      rw [if_pos o2]
      by_cases hr : (y : Int) = t.root
      · have e3 : decide ((y : Int) = t.root) = true := decide_eq_true hr
        rw [if_pos hr]
        cases e4 : decide ((P.kids.length : Int) = 0)
        · simp (config := {maxSteps := 1000000}) (disch := omega) only [go_sem, ↓reduceIte, Nat.reduceEqDiff, Nat.reduceAdd, Nat.reduceMul, Nat.reduceSub, Nat.reduceLeDiff, Nat.reduceLT, Int.reduceToNat, Int.reduceLE, Int.reduceLT, Int.reduceNeg, drP_n, drP_c, logAt_n, logAt_c, disP_n, disP_c, notIn_n, notIn_c, ePg, hP, e1, e2, e3, e4]
          try rfl
        · simp (config := {maxSteps := 1000000}) (disch := omega) only [go_sem, ↓reduceIte, Nat.reduceEqDiff, Nat.reduceAdd, Nat.reduceMul, Nat.reduceSub, Nat.reduceLeDiff, Nat.reduceLT, Int.reduceToNat, Int.reduceLE, Int.reduceLT, Int.reduceNeg, drP_n, drP_c, logAt_n, logAt_c, disP_n, disP_c, notIn_n, notIn_c, ePg, hP, e1, e2, e3, e4]
          try rfl
      · have e3 : decide ((y : Int) = t.root) = false := decide_eq_false hr
        rw [if_neg hr]
        simp (config := {maxSteps := 1000000}) (disch := omega) only [go_sem, ↓reduceIte, Nat.reduceEqDiff, Nat.reduceAdd, Nat.reduceMul, Nat.reduceSub, Nat.reduceLeDiff, Nat.reduceLT, Int.reduceToNat, Int.reduceLE, Int.reduceLT, Int.reduceNeg, drP_n, drP_c, logAt_n, logAt_c, disP_n, disP_c, notIn_n, notIn_c, ePg, hP, e1, e2, e3]
        try rfl
    · have e2 : decide (op = 2) = false := decide_eq_false o2
      rw [if_neg o2]
      simp (config := {maxSteps := 1000000}) (disch := omega) only [go_sem, ↓reduceIte, Nat.reduceEqDiff, Nat.reduceAdd, Nat.reduceMul, Nat.reduceSub, Nat.reduceLeDiff, Nat.reduceLT, Int.reduceToNat, Int.reduceLE, Int.reduceLT, Int.reduceNeg, drP_n, drP_c, logAt_n, logAt_c, disP_n, disP_c, notIn_n, notIn_c, ePg, hP, e1, e2]
      try rfl
theorem fo_safe : FnOk Try.prog 141 := fnOk_of Try.func141 (by kernel_rfl)
theorem c_safe : Contract Try.prog 141 mSafe :=
  contract_of_does (DT := fun id => match id with  | _ => []) Try.checked.mixed tabOk gok_nil Try.func141 rfl (by kernel_rfl) (does_safe )


theorem does_IsSafeS {G : Nat → Option FM} (h_validTree : G 132 = some (.model mValidTree)) (h_inRange : G 114 = some (.model mInRange)) (h_validKind : G 140 = some (.model mValidKind)) (h_safe : G 141 = some (.model mSafe)) : Does T G (fun id => match id with  | _ => []) Try.f73 mIsSafe := by
  refine does3 (rs := [.tmp 6]) rfl rfl fun t x op ro h => ?_
  obtain ⟨hs, rfl⟩ := gd_some h
  refine ⟨fun _ => ⟨rfl, rfl⟩, ?_⟩
  clear h
  have hss := smT_iff.1 hs
  unfold safeV
  cases h1 : vTr t
  · simp (config := {maxSteps := 1000000}) (disch := omega) only [go_sem, ↓reduceIte, Nat.reduceEqDiff, Nat.reduceAdd, Nat.reduceMul, Nat.reduceSub, Nat.reduceLeDiff, Nat.reduceLT, Int.reduceToNat, Int.reduceLE, Int.reduceLT, Int.reduceNeg, h_validTree, mValidTree, h_inRange, mInRange, h_validKind, mValidKind, h_safe, mSafe, drP_n, drP_c, logAt_n, logAt_c, disP_n, disP_c, notIn_n, notIn_c, hs, h1]
    try rfl
  · cases h2 : inR x 0 ((t.pages.length : Int) - 1)
    · simp (config := {maxSteps := 1000000}) (disch := omega) only [go_sem, ↓reduceIte, Nat.reduceEqDiff, Nat.reduceAdd, Nat.reduceMul, Nat.reduceSub, Nat.reduceLeDiff, Nat.reduceLT, Int.reduceToNat, Int.reduceLE, Int.reduceLT, Int.reduceNeg, h_validTree, mValidTree, h_inRange, mInRange, h_validKind, mValidKind, h_safe, mSafe, drP_n, drP_c, logAt_n, logAt_c, disP_n, disP_c, notIn_n, notIn_c, hs, h1, h2]
      try rfl
    · have h2' := inR_iff.1 h2
      cases h3 : inR op 0 2
      · simp (config := {maxSteps := 1000000}) (disch := omega) only [go_sem, ↓reduceIte, Nat.reduceEqDiff, Nat.reduceAdd, Nat.reduceMul, Nat.reduceSub, Nat.reduceLeDiff, Nat.reduceLT, Int.reduceToNat, Int.reduceLE, Int.reduceLT, Int.reduceNeg, h_validTree, mValidTree, h_inRange, mInRange, h_validKind, mValidKind, h_safe, mSafe, drP_n, drP_c, logAt_n, logAt_c, disP_n, disP_c, notIn_n, notIn_c, hs, h1, h2, h3]
        try rfl
      · simp (config := {maxSteps := 1000000}) (disch := omega) only [go_sem, ↓reduceIte, Nat.reduceEqDiff, Nat.reduceAdd, Nat.reduceMul, Nat.reduceSub, Nat.reduceLeDiff, Nat.reduceLT, Int.reduceToNat, Int.reduceLE, Int.reduceLT, Int.reduceNeg, h_validTree, mValidTree, h_inRange, mInRange, h_validKind, mValidKind, h_safe, mSafe, drP_n, drP_c, logAt_n, logAt_c, disP_n, disP_c, notIn_n, notIn_c, hs, h1, h2, h3]
        try rfl
theorem fo_IsSafeS : FnOk Try.prog 73 := fnOk_of Try.func73 (by kernel_rfl)
theorem c_IsSafeS : Contract Try.prog 73 mIsSafe :=
  contract_of_does (DT := fun id => match id with  | _ => []) Try.checked.mixed tabOk (gok_model fo_validTree c_validTree (gok_model fo_inRange c_inRange (gok_model fo_validKind c_validKind (gok_model fo_safe c_safe gok_nil)))) Try.func73 rfl (by kernel_rfl) (does_IsSafeS rfl rfl rfl rfl)


theorem does_IsSafeI {G : Nat → Option FM} (h_ValidTreeI : G 64 = some (.model mValidTree)) : Does T G (fun id => match id with  | _ => []) Try.f74 mIsSafe := by
  refine does3 (rs := [.tmp 6]) rfl rfl fun t x op ro h => ?_
  obtain ⟨hs, rfl⟩ := gd_some h
  refine ⟨fun _ => ⟨rfl, rfl⟩, ?_⟩
  clear h
  have hss := smT_iff.1 hs
  unfold safeV
  cases h1 : vTr t
  · simp (config := {maxSteps := 1000000}) (disch := omega) only [go_sem, ↓reduceIte, Nat.reduceEqDiff, Nat.reduceAdd, Nat.reduceMul, Nat.reduceSub, Nat.reduceLeDiff, Nat.reduceLT, Int.reduceToNat, Int.reduceLE, Int.reduceLT, Int.reduceNeg, h_ValidTreeI, mValidTree, drP_n, drP_c, logAt_n, logAt_c, disP_n, disP_c, notIn_n, notIn_c, hs, h1]
    try rfl
  · by_cases x0 : x < 0
    · have e1 : decide (x < 0) = true := decide_eq_true x0
      rw [inR_f (by omega)]
      simp (config := {maxSteps := 1000000}) (disch := omega) only [go_sem, ↓reduceIte, Nat.reduceEqDiff, Nat.reduceAdd, Nat.reduceMul, Nat.reduceSub, Nat.reduceLeDiff, Nat.reduceLT, Int.reduceToNat, Int.reduceLE, Int.reduceLT, Int.reduceNeg, h_ValidTreeI, mValidTree, drP_n, drP_c, logAt_n, logAt_c, disP_n, disP_c, notIn_n, notIn_c, hs, h1, e1]
      try rfl
    · have e1 : decide (x < 0) = false := decide_eq_false x0
      obtain ⟨y, rfl⟩ : ∃ y : Nat, x = y := ⟨x.toNat, by omega⟩
      by_cases x1 : (y : Int) < t.pages.length
      · have e2 : decide ((t.pages.length : Int) ≤ (y : Int)) = false := decide_eq_false (by omega)
        rw [inR_t (by omega)]
        have hts := tr_small hs y
        have hpa := pgAt_nat t y
        unfold sfV
        rw [hpa] at hts ⊢
        generalize hP : t.pages.getD y default = P at *
        by_cases o0 : op = 0
        · have e3 : decide (op = 0) = true := decide_eq_true o0
          rw [inR_t (by omega), if_neg (by omega), if_neg (by omega)]
          simp (config := {maxSteps := 1000000}) (disch := omega) only [go_sem, ↓reduceIte, Nat.reduceEqDiff, Nat.reduceAdd, Nat.reduceMul, Nat.reduceSub, Nat.reduceLeDiff, Nat.reduceLT, Int.reduceToNat, Int.reduceLE, Int.reduceLT, Int.reduceNeg, h_ValidTreeI, mValidTree, drP_n, drP_c, logAt_n, logAt_c, disP_n, disP_c, notIn_n, notIn_c, ePg, hP, hs, h1, e1, e2, e3]
          try rfl
        · have e3 : decide (op = 0) = false := decide_eq_false o0
          by_cases o1 : op = 1
          · have e4 : decide (op = 1) = true := decide_eq_true o1
            rw [inR_t (by omega), if_pos o1]
            simp (config := {maxSteps := 1000000}) (disch := omega) only [go_sem, ↓reduceIte, Nat.reduceEqDiff, Nat.reduceAdd, Nat.reduceMul, Nat.reduceSub, Nat.reduceLeDiff, Nat.reduceLT, Int.reduceToNat, Int.reduceLE, Int.reduceLT, Int.reduceNeg, h_ValidTreeI, mValidTree, drP_n, drP_c, logAt_n, logAt_c, disP_n, disP_c, notIn_n, notIn_c, ePg, hP, hs, h1, e1, e2, e3, e4]
            try rfl
          · have e4 : decide (op = 1) = false := decide_eq_false o1
            rw [if_neg o1]
            by_cases o2 : op = 2
            · have e5 : decide (op = 2) = true := decide_eq_true o2
              rw [inR_t (by omega), if_pos o2]
              by_cases hr : (y : Int) = t.root
              · have e6 : decide ((y : Int) = t.root) = true := decide_eq_true hr
                rw [if_pos hr]
                cases e7 : decide ((P.kids.length : Int) = 0)
                · simp (config := {maxSteps := 1000000}) (disch := omega) only [go_sem, ↓reduceIte, Nat.reduceEqDiff, Nat.reduceAdd, Nat.reduceMul, Nat.reduceSub, Nat.reduceLeDiff, Nat.reduceLT, Int.reduceToNat, Int.reduceLE, Int.reduceLT, Int.reduceNeg, h_ValidTreeI, mValidTree, drP_n, drP_c, logAt_n, logAt_c, disP_n, disP_c, notIn_n, notIn_c, ePg, hP, hs, h1, e1, e2, e3, e4, e5, e6, e7]
                  try rfl
                · simp (config := {maxSteps := 1000000}) (disch := omega) only [go_sem, ↓reduceIte, Nat.reduceEqDiff, Nat.reduceAdd, Nat.reduceMul, Nat.reduceSub, Nat.reduceLeDiff, Nat.reduceLT, Int.reduceToNat, Int.reduceLE, Int.reduceLT, Int.reduceNeg, h_ValidTreeI, mValidTree, drP_n, drP_c, logAt_n, logAt_c, disP_n, disP_c, notIn_n, notIn_c, ePg, hP, hs, h1, e1, e2, e3, e4, e5, e6, e7]
                  try rfl
              · have e6 : decide ((y : Int) = t.root) = false := decide_eq_false hr
                rw [if_neg hr]
                simp (config := {maxSteps := 1000000}) (disch := omega) only [go_sem, ↓reduceIte, Nat.reduceEqDiff, Nat.reduceAdd, Nat.reduceMul, Nat.reduceSub, Nat.reduceLeDiff, Nat.reduceLT, Int.reduceToNat, Int.reduceLE, Int.reduceLT, Int.reduceNeg, h_ValidTreeI, mValidTree, drP_n, drP_c, logAt_n, logAt_c, disP_n, disP_c, notIn_n, notIn_c, ePg, hP, hs, h1, e1, e2, e3, e4, e5, e6]
                try rfl
            · have e5 : decide (op = 2) = false := decide_eq_false o2
              rw [inR_f (by omega)]
              simp (config := {maxSteps := 1000000}) (disch := omega) only [go_sem, ↓reduceIte, Nat.reduceEqDiff, Nat.reduceAdd, Nat.reduceMul, Nat.reduceSub, Nat.reduceLeDiff, Nat.reduceLT, Int.reduceToNat, Int.reduceLE, Int.reduceLT, Int.reduceNeg, h_ValidTreeI, mValidTree, drP_n, drP_c, logAt_n, logAt_c, disP_n, disP_c, notIn_n, notIn_c, ePg, hP, hs, h1, e1, e2, e3, e4, e5]
              try rfl
      · have e2 : decide ((t.pages.length : Int) ≤ (y : Int)) = true := decide_eq_true (by omega)
        rw [inR_f (by omega)]
        simp (config := {maxSteps := 1000000}) (disch := omega) only [go_sem, ↓reduceIte, Nat.reduceEqDiff, Nat.reduceAdd, Nat.reduceMul, Nat.reduceSub, Nat.reduceLeDiff, Nat.reduceLT, Int.reduceToNat, Int.reduceLE, Int.reduceLT, Int.reduceNeg, h_ValidTreeI, mValidTree, drP_n, drP_c, logAt_n, logAt_c, disP_n, disP_c, notIn_n, notIn_c, hs, h1, e1, e2]
        try rfl
theorem fo_IsSafeI : FnOk Try.prog 74 := fnOk_of Try.func74 (by kernel_rfl)
theorem c_IsSafeI : Contract Try.prog 74 mIsSafe :=
  contract_of_does (DT := fun id => match id with  | _ => []) Try.checked.mixed tabOk (gok_model fo_ValidTreeI c_ValidTreeI gok_nil) Try.func74 rfl (by kernel_rfl) (does_IsSafeI rfl)


def mLawTree3 : Model := M3 .ro .ro .ro true (cTr false) cI cI fun t _ _ => gd (t.pages.length ≤ 9223372036854775807 ∧ t.pages.all bigP = true) (.b true, [])

theorem does_FnExactIsSafe {G : Nat → Option FM} (h_szTree : G 61 = some (.model mSzTree)) (h_toTree : G 63 = some (.model mToTree)) (h_IsSafeS : G 73 = some (.model mIsSafe)) (h_IsSafeI : G 74 = some (.model mIsSafe)) (h_eqTree : G 65 = some (.model mEqTree)) : Does T G (fun id => match id with | 10 => [(2, 0)] | _ => []) Try.f15 mLawTree3 := by
  refine does3 (rs := [.tmp 6]) rfl rfl fun t x op ro h => ?_
  obtain ⟨⟨hs, hb⟩, rfl⟩ := gd_some h
  refine ⟨fun _ => ⟨rfl, rfl⟩, ?_⟩
  obtain ⟨z, hz⟩ : ∃ z, szPs t.pages 1048576 = z := ⟨_, rfl⟩
  by_cases h1 : z < 0
  · have e1 : decide (z < 0) = true := decide_eq_true h1
    simp (config := {maxSteps := 1000000}) (disch := omega) only [go_sem, ↓reduceIte, Nat.reduceEqDiff, Nat.reduceAdd, Nat.reduceMul, Nat.reduceSub, Nat.reduceLeDiff, Nat.reduceLT, Int.reduceToNat, Int.reduceLE, Int.reduceLT, Int.reduceNeg, h_szTree, mSzTree, h_toTree, mToTree, h_IsSafeS, mIsSafe, h_IsSafeI, mIsSafe, h_eqTree, mEqTree, drP_n, drP_c, logAt_n, logAt_c, disP_n, disP_c, notIn_n, notIn_c, hb, hz, e1]
  · have e1 : decide (z < 0) = false := decide_eq_false h1
    obtain ⟨h2, hsm⟩ := lawT_small hz h1
    simp (config := {maxSteps := 1000000}) (disch := omega) only [go_sem, ↓reduceIte, Nat.reduceEqDiff, Nat.reduceAdd, Nat.reduceMul, Nat.reduceSub, Nat.reduceLeDiff, Nat.reduceLT, Int.reduceToNat, Int.reduceLE, Int.reduceLT, Int.reduceNeg, h_szTree, mSzTree, h_toTree, mToTree, h_IsSafeS, mIsSafe, h_IsSafeI, mIsSafe, h_eqTree, mEqTree, drP_n, drP_c, logAt_n, logAt_c, disP_n, disP_c, notIn_n, notIn_c, hb, hz, e1, hsm]
theorem fo_FnExactIsSafe : FnOk Try.prog 15 := fnOk_of Try.func15 (by kernel_rfl)
theorem c_FnExactIsSafe : Contract Try.prog 15 mLawTree3 :=
  contract_of_does (DT := fun id => match id with | 10 => [(2, 0)] | _ => []) Try.checked.mixed tabOk (gok_model fo_szTree c_szTree (gok_model fo_toTree c_toTree (gok_model fo_IsSafeS c_IsSafeS (gok_model fo_IsSafeI c_IsSafeI (gok_model fo_eqTree c_eqTree gok_nil))))) Try.func15 rfl (by kernel_rfl) (does_FnExactIsSafe rfl rfl rfl rfl rfl)

theorem fn_FnExactIsSafe (t : Tr) (h : TrW t) (x : Int) (hx : intWf .i64 x) (op : Int) (hop : intWf .i64 op) : mLawTree3.fn [eTr false t, eI x, eI op] = some (.b true, []) := by
  obtain ⟨h1, h2⟩ := bigP_of h
  simp (config := {maxSteps := 1000000}) (disch := omega) only [go_sem, ↓reduceIte, Nat.reduceEqDiff, Nat.reduceAdd, Nat.reduceMul, Nat.reduceSub, Nat.reduceLeDiff, Nat.reduceLT, Int.reduceToNat, Int.reduceLE, Int.reduceLT, Int.reduceNeg, mLawTree3, h2]
end Go.TM
