/- Contracts, 62: UnpackPage. -/
import Derived.Test.YtbpfagbihffmbaaF55
namespace Go.TM
open Go.Proofs
set_option linter.unusedVariables false
set_option linter.unusedSimpArgs false
set_option maxRecDepth 100000
set_option maxHeartbeats 4000000


theorem pageT3_eq {a b c : Nat} {n : Int} {v : Bool} {x y z : List Int} (ha : a = x.length) (hb : b = y.length) (hc : c = z.length) : some (A.tup [.agg [.s true 1 a (x.map eI), .s true 1 b (y.map eI), .s true 1 c (z.map eI)], .i .i64 n, .b v], ([] : List (List A))) = some (.tup [ePage true ⟨x, y, z⟩, eI n, .b v], []) := by subst ha; subst hb; subst hc; rfl
theorem inR9 {x : Int} : inR x 0 9 = true ↔ ¬ x < 0 ∧ ¬ 9 < x := by rw [inR_iff]; omega
theorem take_take_sz {xs : List Int} {k : Nat} (h : k ≤ xs.length) : (xs.take k).length = k := by rw [List.length_take]; omega

theorem does_UnpackPageI {G : Nat → Option FM} (h_cloneI : G 90 = some (.model mCopyInts)) (h_FitsPageI : G 143 = some (.model mFits)) (h_PackPageI : G 94 = some (.model mPackPage)) (h_equalI : G 137 = some (.model mEqualI)) : Does T G (fun id => match id with  | _ => []) Try.f92 mUnpackPage := by
  refine does1 (rs := [.cell 2 85, .tmp 3, .tmp 4]) rfl rfl fun xs ro h => ?_
  obtain ⟨⟨hs, hrg⟩, rfl⟩ := gd_some h
  refine ⟨fun _ => ⟨by simp only [cleanA, cleanL, clean_ints, Bool.and_self], rfl⟩, ?_⟩
  clear h
  by_cases h0 : xs.length = 0
  · have e0 : decide ((xs.length : Int) = 0) = true := decide_eq_true (by omega)
    rw [unV_f (fun h => h.1.1 h0)]
    simp (config := {maxSteps := 1000000}) (disch := omega) only [go_sem, ↓reduceIte, Nat.reduceEqDiff, Nat.reduceAdd, Nat.reduceMul, Nat.reduceSub, Nat.reduceLeDiff, Nat.reduceLT, Int.reduceToNat, Int.reduceLE, Int.reduceLT, Int.reduceNeg, h_cloneI, mCopyInts, h_FitsPageI, mFits, h_PackPageI, mPackPage, h_equalI, mEqualI, drP_n, drP_c, logAt_n, logAt_c, disP_n, disP_c, notIn_n, notIn_c, e0]
    try rfl
  · have e0 : decide ((xs.length : Int) = 0) = false := decide_eq_false (by omega)
    by_cases h01 : xs.getD 0 0 < 0
    · have e01 : decide (xs.getD 0 0 < 0) = true := decide_eq_true h01
      rw [unV_f (fun h => (inR9.1 h.1.2.1).1 h01)]
      simp (config := {maxSteps := 1000000}) (disch := omega) only [go_sem, ↓reduceIte, Nat.reduceEqDiff, Nat.reduceAdd, Nat.reduceMul, Nat.reduceSub, Nat.reduceLeDiff, Nat.reduceLT, Int.reduceToNat, Int.reduceLE, Int.reduceLT, Int.reduceNeg, h_cloneI, mCopyInts, h_FitsPageI, mFits, h_PackPageI, mPackPage, h_equalI, mEqualI, drP_n, drP_c, logAt_n, logAt_c, disP_n, disP_c, notIn_n, notIn_c, e0, e01]
      try rfl
    · have e01 : decide (xs.getD 0 0 < 0) = false := decide_eq_false h01
      by_cases h02 : 9 < xs.getD 0 0
      · have e02 : decide (9 < xs.getD 0 0) = true := decide_eq_true h02
        rw [unV_f (fun h => (inR9.1 h.1.2.1).2 h02)]
        simp (config := {maxSteps := 1000000}) (disch := omega) only [go_sem, ↓reduceIte, Nat.reduceEqDiff, Nat.reduceAdd, Nat.reduceMul, Nat.reduceSub, Nat.reduceLeDiff, Nat.reduceLT, Int.reduceToNat, Int.reduceLE, Int.reduceLT, Int.reduceNeg, h_cloneI, mCopyInts, h_FitsPageI, mFits, h_PackPageI, mPackPage, h_equalI, mEqualI, drP_n, drP_c, logAt_n, logAt_c, disP_n, disP_c, notIn_n, notIn_c, e0, e01, e02]
        try rfl
      · have e02 : decide (9 < xs.getD 0 0) = false := decide_eq_false h02
        have h1 : inR (xs.getD 0 0) 0 9 = true := inR9.2 ⟨h01, h02⟩
        obtain ⟨m, hm, hx0, hm9, ed, em, hsz, esz⟩ := good_facts h0 h1
        by_cases h2 : szN xs ≤ xs.length
        · have e2 : decide ((xs.length : Int) < ((szN xs : Nat) : Int)) = false := decide_eq_false (by omega)
          have hg : goodN xs := ⟨h0, h1, h2⟩
          obtain ⟨hpW1, hpW2⟩ := pgW_ok hrg
          obtain ⟨q, hmq⟩ : ∃ q, m / 2 = q := ⟨_, rfl⟩
          obtain ⟨r, hmr⟩ : ∃ r, m % 2 = r := ⟨_, rfl⟩
          rw [hmq] at ed hsz esz
          rw [hmr] at em hsz esz
          have hr1 : r < 2 := by omega
          have hq4 : q ≤ 4 := by omega
          have et : (1 + (q : Int)).toNat = q + 1 := by omega
          have et1 : q + 1 - 1 = q := by omega
          have l1 : (sub xs 1 q).length = q := sub_len' (by omega)
          have tks : (xs.take (szN xs)).length = szN xs := take_take_sz h2
          rcases (show r = 1 ∨ r = 0 by omega) with rfl | rfl
          · have hp : pgW xs = ⟨sub xs 1 q, sub xs (q + 1) (q + 1), []⟩ := by unfold pgW; rw [hm, hmq, hmr]; rfl
            have er : decide (((1 : Nat) : Int) = 1) = true := by decide
            have hsz2 : ((szN xs : Nat) : Int) - 1 = ((q + 1 + (q + 1) : Nat) : Int) := by omega
            have hsz3 : szN xs - 1 = q + 1 + (q + 1) := by omega
            have hsz4 : q + 1 + (q + 1) - (q + 1) = q + 1 := by omega
            have l3 : (sub xs (q + 1) q).length = q := sub_len' (by omega)
            have l2 : (sub xs (q + 1) (q + 1)).length = q + 1 := sub_len' (by omega)
            have u2 : sub (sub xs (q + 1) (q + 1)) 0 (q + 1) = sub xs (q + 1) (q + 1) := by have := sub_all (sub xs (q + 1) (q + 1)); rwa [l2] at this
            have u1 : sub (sub xs 1 q) 0 q = sub xs 1 q := by have := sub_all (sub xs 1 q); rwa [l1] at this
            rw [hp] at hpW1 hpW2
            cases hvp : vPage (pgN xs)
            · rw [hvp] at hpW1
              rw [unV_f (fun h => by have := h.2.1; rw [hvp] at this; cases this)]
              simp (config := {maxSteps := 1000000}) (disch := omega) only [go_sem, ↓reduceIte, Nat.reduceEqDiff, Nat.reduceAdd, Nat.reduceMul, Nat.reduceSub, Nat.reduceLeDiff, Nat.reduceLT, Int.reduceToNat, Int.reduceLE, Int.reduceLT, Int.reduceNeg, h_cloneI, mCopyInts, h_FitsPageI, mFits, h_PackPageI, mPackPage, h_equalI, mEqualI, drP_n, drP_c, logAt_n, logAt_c, disP_n, disP_c, notIn_n, notIn_c, e0, e01, e02, h1, ed, em, esz, e2, er, et, et1, l1, l3, hsz2, hsz4, u1, u2, cPage_n2, hpW1]
              try rfl
            · rw [hvp] at hpW1
              have hpN := hpW2 hvp
              have ppg := pack_pg hg
              have pv : packV (pgW xs) = packN (pgN xs) := by rw [hp, hpN, packV_t hvp]
              rw [hp] at pv
              have plen := packV_len (pgN xs)
              rw [packV_t hvp] at plen
              have sml := smallPg hvp
              have sl1 := sml.keys
              have sl2 := sml.kids
              have sl3 := sml.vals
              by_cases hc : packN (pgN xs) = xs.take (szN xs)
              · have ec : decide (packN (pgN xs) = xs.take (szN xs)) = true := decide_eq_true hc
                rw [unV_t ⟨hg, hvp, ppg.1 hc⟩, ← hpN]
                rw [← hpN] at pv ec plen sl1 sl2 sl3
                simp (config := {maxSteps := 1000000}) (disch := omega) only [go_sem, ↓reduceIte, Nat.reduceEqDiff, Nat.reduceAdd, Nat.reduceMul, Nat.reduceSub, Nat.reduceLeDiff, Nat.reduceLT, Int.reduceToNat, Int.reduceLE, Int.reduceLT, Int.reduceNeg, h_cloneI, mCopyInts, h_FitsPageI, mFits, h_PackPageI, mPackPage, h_equalI, mEqualI, drP_n, drP_c, logAt_n, logAt_c, disP_n, disP_c, notIn_n, notIn_c, e0, e01, e02, h1, ed, em, esz, e2, er, et, et1, l1, l3, hsz2, hsz4, u1, u2, cPage_n2, hpW1, pv, sub_zero, Nat.sub_zero, List.take_length, tks, ec]
                exact pageT3_eq (z := []) l1.symm rfl rfl
              · have ec : decide (packN (pgN xs) = xs.take (szN xs)) = false := decide_eq_false hc
                rw [unV_f (fun h => hc (ppg.2 h.2.2))]
                rw [← hpN] at pv ec plen sl1 sl2 sl3
                simp (config := {maxSteps := 1000000}) (disch := omega) only [go_sem, ↓reduceIte, Nat.reduceEqDiff, Nat.reduceAdd, Nat.reduceMul, Nat.reduceSub, Nat.reduceLeDiff, Nat.reduceLT, Int.reduceToNat, Int.reduceLE, Int.reduceLT, Int.reduceNeg, h_cloneI, mCopyInts, h_FitsPageI, mFits, h_PackPageI, mPackPage, h_equalI, mEqualI, drP_n, drP_c, logAt_n, logAt_c, disP_n, disP_c, notIn_n, notIn_c, e0, e01, e02, h1, ed, em, esz, e2, er, et, et1, l1, l3, hsz2, hsz4, u1, u2, cPage_n2, hpW1, pv, sub_zero, Nat.sub_zero, List.take_length, tks, ec]
                try rfl
          · have hp : pgW xs = ⟨sub xs 1 q, [], (sub xs (q + 1) q).map w1000⟩ := by unfold pgW; rw [hm, hmq, hmr]; rfl
            have er : decide (((0 : Nat) : Int) = 1) = false := by decide
            have hsz2 : ((szN xs : Nat) : Int) - 1 = ((q + 1 + (q) : Nat) : Int) := by omega
            have hsz3 : szN xs - 1 = q + 1 + (q) := by omega
            have hsz4 : q + 1 + (q) - (q + 1) = q := by omega
            have l3 : (sub xs (q + 1) q).length = q := sub_len' (by omega)
            have l2 : ((sub xs (q + 1) q).map w1000).length = q := by rw [List.length_map]; exact sub_len' (by omega)
            have u2 : sub ((sub xs (q + 1) q).map w1000) 0 q = (sub xs (q + 1) q).map w1000 := by have := sub_all ((sub xs (q + 1) q).map w1000); rwa [l2] at this
            have u1 : sub (sub xs 1 q) 0 q = sub xs 1 q := by have := sub_all (sub xs 1 q); rwa [l1] at this
            rw [hp] at hpW1 hpW2
            simp (config := {maxSteps := 1000000}) (disch := omega) only [go_sem, ↓reduceIte, Nat.reduceEqDiff, Nat.reduceAdd, Nat.reduceMul, Nat.reduceSub, Nat.reduceLeDiff, Nat.reduceLT, Int.reduceToNat, Int.reduceLE, Int.reduceLT, Int.reduceNeg, h_cloneI, mCopyInts, h_FitsPageI, mFits, h_PackPageI, mPackPage, h_equalI, mEqualI, drP_n, drP_c, logAt_n, logAt_c, disP_n, disP_c, notIn_n, notIn_c, e0, e01, e02, h1, ed, em, esz, e2, er, et, et1, l1, l3, hsz2, hsz4]
            refine W_loop_i (fun s => s.sl 0 = eIs false xs ∧ s.sl 2 = .ptr (3, 0) [] 0 0 ∧ s.hp (3, 0) = some ⟨3, 1, [.s true 1 0 [], .s true 1 0 [], .s true 1 0 []], fun _ => 0⟩ ∧ s.sl 6 = eI (szN xs : Nat) ∧ s.sl 8 = .ptr (52, 0) [] 0 0 ∧ s.sl 64 = .s false 1 q ((sub xs (q + 1) q).map eI) ∧ s.sl 65 = eI q ∧ 52 < s.n ∧ ∃ k : Nat, k ≤ q ∧ s.sl 66 = eI k ∧ ∃ v, s.hp (52, 0) = some ⟨3, 1, [.s true 1 q ((sub xs 1 q).map eI), .s true 1 0 [], .s true 1 k (((sub xs (q + 1) k).map w1000).map eI)], v⟩) (fun s => q - iN (s.sl 66)) ?_ ?_
            · refine ⟨rfl, rfl, rfl, rfl, rfl, rfl, rfl, by dsimp only [St.n]; omega, 0, Nat.zero_le _, rfl, _, rfl⟩
            · rintro sl hp' n ⟨s0, s2, sh3, s6, s8, s64, s65, hn, k, hk, s66, v, sh⟩
              dsimp only at s0 s2 sh3 s6 s8 s64 s65 hn s66 sh
              by_cases hlt : k < q
              · have g1 : decide ((k : Int) < (q : Int)) = true := decide_eq_true (by omega)
                have ls : (sub xs (q + 1) k).length = k := sub_len' (by omega)
                have sg : (sub xs (q + 1) q).getD k 0 = xs.getD (q + 1 + k) 0 := sub_get hlt
                have sc : (sub xs (q + 1) k).map w1000 ++ [IntKind.i64.wrap (xs.getD (q + 1 + k) 0 - 1000)] = (sub xs (q + 1) (k + 1)).map w1000 := by
                  rw [← sub_succ (xs := xs) (a := q + 1) (n := k) (by omega), List.map_append]; rfl
                have lm : ((sub xs (q + 1) k).map w1000).length = k := by rw [List.length_map]; exact ls
                simp (config := {maxSteps := 1000000}) (disch := omega) only [go_sem, ↓reduceIte, Nat.reduceEqDiff, Nat.reduceAdd, Nat.reduceMul, Nat.reduceSub, Nat.reduceLeDiff, Nat.reduceLT, Int.reduceToNat, Int.reduceLE, Int.reduceLT, Int.reduceNeg, h_cloneI, mCopyInts, h_FitsPageI, mFits, h_PackPageI, mPackPage, h_equalI, mEqualI, drP_n, drP_c, logAt_n, logAt_c, disP_n, disP_c, notIn_n, notIn_c, s0, s2, sh3, s6, s8, s64, s65, s66, sh, g1, sg, app_I', lm, sc]
                exact ⟨⟨k + 1, by omega, rfl, _, rfl⟩, by omega⟩
              · have hkq : k = q := by omega
                rw [hkq] at s66 sh
                have g1 : decide ((q : Int) < (q : Int)) = false := decide_eq_false (by omega)
                cases hvp : vPage (pgN xs)
                · rw [hvp] at hpW1
                  rw [unV_f (fun h => by have := h.2.1; rw [hvp] at this; cases this)]
                  simp (config := {maxSteps := 1000000}) (disch := omega) only [go_sem, ↓reduceIte, Nat.reduceEqDiff, Nat.reduceAdd, Nat.reduceMul, Nat.reduceSub, Nat.reduceLeDiff, Nat.reduceLT, Int.reduceToNat, Int.reduceLE, Int.reduceLT, Int.reduceNeg, h_cloneI, mCopyInts, h_FitsPageI, mFits, h_PackPageI, mPackPage, h_equalI, mEqualI, drP_n, drP_c, logAt_n, logAt_c, disP_n, disP_c, notIn_n, notIn_c, s0, s2, sh3, s6, s8, s65, s64, s66, sh, hsz4, g1, u1, u2, cPage_n1, hpW1]
                  try rfl
                · rw [hvp] at hpW1
                  have hpN := hpW2 hvp
                  have ppg := pack_pg hg
                  have pv : packV (pgW xs) = packN (pgN xs) := by rw [hp, hpN, packV_t hvp]
                  rw [hp] at pv
                  have plen := packV_len (pgN xs)
                  rw [packV_t hvp] at plen
                  have sml := smallPg hvp
                  have sl1 := sml.keys
                  have sl2 := sml.kids
                  have sl3 := sml.vals
                  by_cases hc : packN (pgN xs) = xs.take (szN xs)
                  · have ec : decide (packN (pgN xs) = xs.take (szN xs)) = true := decide_eq_true hc
                    rw [unV_t ⟨hg, hvp, ppg.1 hc⟩, ← hpN]
                    rw [← hpN] at pv ec plen sl1 sl2 sl3
                    simp (config := {maxSteps := 1000000}) (disch := omega) only [go_sem, ↓reduceIte, Nat.reduceEqDiff, Nat.reduceAdd, Nat.reduceMul, Nat.reduceSub, Nat.reduceLeDiff, Nat.reduceLT, Int.reduceToNat, Int.reduceLE, Int.reduceLT, Int.reduceNeg, h_cloneI, mCopyInts, h_FitsPageI, mFits, h_PackPageI, mPackPage, h_equalI, mEqualI, drP_n, drP_c, logAt_n, logAt_c, disP_n, disP_c, notIn_n, notIn_c, s0, s2, sh3, s6, s8, s65, s64, s66, sh, hsz4, g1, u1, u2, cPage_n1, hpW1, pv, sub_zero, Nat.sub_zero, List.take_length, tks, ec]
                    exact pageT3_eq (y := []) l1.symm rfl l2.symm
                  · have ec : decide (packN (pgN xs) = xs.take (szN xs)) = false := decide_eq_false hc
                    rw [unV_f (fun h => hc (ppg.2 h.2.2))]
                    rw [← hpN] at pv ec plen sl1 sl2 sl3
                    simp (config := {maxSteps := 1000000}) (disch := omega) only [go_sem, ↓reduceIte, Nat.reduceEqDiff, Nat.reduceAdd, Nat.reduceMul, Nat.reduceSub, Nat.reduceLeDiff, Nat.reduceLT, Int.reduceToNat, Int.reduceLE, Int.reduceLT, Int.reduceNeg, h_cloneI, mCopyInts, h_FitsPageI, mFits, h_PackPageI, mPackPage, h_equalI, mEqualI, drP_n, drP_c, logAt_n, logAt_c, disP_n, disP_c, notIn_n, notIn_c, s0, s2, sh3, s6, s8, s65, s64, s66, sh, hsz4, g1, u1, u2, cPage_n1, hpW1, pv, sub_zero, Nat.sub_zero, List.take_length, tks, ec]
                    try rfl
        · have e2 : decide ((xs.length : Int) < ((szN xs : Nat) : Int)) = true := decide_eq_true (by omega)
          rw [unV_f (fun h => h2 h.1.2.2)]
          simp (config := {maxSteps := 1000000}) (disch := omega) only [go_sem, ↓reduceIte, Nat.reduceEqDiff, Nat.reduceAdd, Nat.reduceMul, Nat.reduceSub, Nat.reduceLeDiff, Nat.reduceLT, Int.reduceToNat, Int.reduceLE, Int.reduceLT, Int.reduceNeg, h_cloneI, mCopyInts, h_FitsPageI, mFits, h_PackPageI, mPackPage, h_equalI, mEqualI, drP_n, drP_c, logAt_n, logAt_c, disP_n, disP_c, notIn_n, notIn_c, e0, e01, e02, ed, em, esz, e2]
          try rfl
theorem fo_UnpackPageI : FnOk Try.prog 92 := fnOk_of Try.func92 (by kernel_rfl)
theorem c_UnpackPageI : Contract Try.prog 92 mUnpackPage :=
  contract_of_does (DT := fun id => match id with  | _ => []) Try.checked.mixed tabOk (gok_model fo_cloneI c_cloneI (gok_model fo_FitsPageI c_FitsPageI (gok_model fo_PackPageI c_PackPageI (gok_model fo_equalI c_equalI gok_nil)))) Try.func92 rfl (by kernel_rfl) (does_UnpackPageI rfl rfl rfl rfl)


theorem unV_sm (xs : List Int) : (unV xs).p.keys.length ≤ 4 ∧ (unV xs).p.kids.length ≤ 5 ∧ (unV xs).p.vals.length ≤ 4 := by
  unfold unV
  split
  · rename_i h
    have := smallPg h.2.1
    exact ⟨this.keys, this.kids, this.vals⟩
  · exact ⟨by decide, by decide, by decide⟩
def mLawUn : Model := M1 .ro true (cIs false) fun xs => gd (xs.length ≤ 9223372036854775807 ∧ rngB xs = true) (.b true, [])

theorem fn_FnExactUnpackPage (x : List Int) (h : (∀ y ∈ x, intWf .i64 y) ∧ x.length ≤ maxLen) : mLawUn.fn [eIs false x] = some (.b true, []) := by
  have h2 : x.length ≤ 9223372036854775807 := h.2
  have h3 : rngB x = true := rngB_iff.2 fun y hy => by
    have h4 : (decide (IntKind.i64.min ≤ y) && decide (y ≤ IntKind.i64.max)) = true := h.1 y hy
    rw [Bool.and_eq_true, decide_eq_true_eq, decide_eq_true_eq] at h4
    exact h4
  simp (config := {maxSteps := 1000000}) (disch := omega) only [go_sem, ↓reduceIte, Nat.reduceEqDiff, Nat.reduceAdd, Nat.reduceMul, Nat.reduceSub, Nat.reduceLeDiff, Nat.reduceLT, Int.reduceToNat, Int.reduceLE, Int.reduceLT, Int.reduceNeg, mLawUn, h3]
end Go.TM
