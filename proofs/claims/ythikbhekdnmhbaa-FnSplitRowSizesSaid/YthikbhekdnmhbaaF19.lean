/- Contracts, 19: a key is left out. -/
import Derived.Test.YthikbhekdnmhbaaF18
namespace Go.TM
open Go.Proofs
set_option linter.unusedVariables false
set_option linter.unusedSimpArgs false
set_option maxRecDepth 100000

open Classical in
noncomputable def remV (xs : List Int) (k : Int) : List Int × Bool := if vk xs = true ∧ k ∈ xs then (xs.take (cntB xs k) ++ xs.drop (cntB xs k + 1), true) else ([], false)
theorem remV_f {xs : List Int} {k : Int} (h : ¬ (vk xs = true ∧ k ∈ xs)) : remV xs k = ([], false) := if_neg h
theorem remV_t {xs : List Int} {k : Int} (h : vk xs = true) (hk : k ∈ xs) : remV xs k = (xs.take (cntB xs k) ++ xs.drop (cntB xs k + 1), true) := if_pos ⟨h, hk⟩
theorem remV_len (xs : List Int) (k : Int) : (remV xs k).1.length ≤ xs.length := by
  unfold remV
  split
  · simp; omega
  · simp
/-- A key that is there is at its place. -/
theorem mem_at {xs : List Int} {k : Int} (h : VK xs) : k ∈ xs ↔ cntB xs k < xs.length ∧ xs.getD (cntB xs k) 0 = k := by
  obtain ⟨a1, a2, a3⟩ := cntB_ok (k := k) h
  constructor
  · intro hm
    obtain ⟨j, hj, he⟩ := List.getElem_of_mem hm
    have he' : xs.getD j 0 = k := by simpa [hj] using he
    have hjc : cntB xs k ≤ j := by
      rcases Nat.lt_or_ge j (cntB xs k) with hlt | hge
      · have := a2 j hlt; omega
      · exact hge
    refine ⟨by omega, ?_⟩
    have h1 := a3 _ (Nat.le_refl _) (by omega)
    have h2 := vk_mono' h hjc hj
    omega
  · rintro ⟨h1, h2⟩
    rw [← h2]
    exact getD_mem h1

theorem take_mapI (xs : List Int) : (xs.map eI).take xs.length = xs.map eI := List.take_of_length_le (by simp)
theorem ints_eq {n : Nat} {b : Bool} {ys : List Int} (h : n = ys.length) : some (A.tup [A.s true 1 n (ys.map eI), A.b b], ([] : List (List A))) = some (A.tup [eIs true ys, A.b b], []) := by subst h; rfl

noncomputable def mRemove : Model := M2 .ro .ro true (cIs false) cI fun xs k => gd (xs.length ≤ 1099511627776) (.tup [eIs true (remV xs k).1, .b (remV xs k).2], [])

theorem does_RemoveKeyS {G : Nat → Option FM} (h_validKeys : G 78 = some (.model mValidKeys)) (h_isIn : G 104 = some (.model mIsIn)) (h_below : G 89 = some (.model mBelow)) (h_copyInts : G 105 = some (.model mCopyInts)) : Does T G (fun _ => []) Try.f61 mRemove := by
  refine does2 (rs := [.tmp 4, .tmp 5]) rfl rfl fun xs k ro h => ?_
  obtain ⟨hs, rfl⟩ := gd_some h
  refine ⟨fun _ => ⟨by simp [cleanA, cleanL, clean_ints], rfl⟩, ?_⟩
  cases hv : vk xs
  · rw [remV_f (by rw [hv]; simp)]
    simp (config := {maxSteps := 1000000}) (disch := omega) only [go_sem, ↓reduceIte, Nat.reduceEqDiff, Nat.reduceAdd, Nat.reduceMul, Nat.reduceSub, Nat.reduceLeDiff, Nat.reduceLT, Int.reduceToNat, Int.reduceLE, Int.reduceLT, Int.reduceNeg, h_validKeys, mValidKeys, h_isIn, mIsIn, h_below, mBelow, h_copyInts, mCopyInts, hv]
    rfl
  · by_cases hm : k ∈ xs
    · rw [remV_t hv hm]
      obtain ⟨hc, hg⟩ := (mem_at (vk_iff.1 hv)).1 hm
      have e1 : decide (k ∈ xs) = true := decide_eq_true hm
      have hl : (xs.take (cntB xs k)).length = cntB xs k := by rw [List.length_take]; omega
      simp (config := {maxSteps := 1000000}) (disch := omega) only [go_sem, ↓reduceIte, Nat.reduceEqDiff, Nat.reduceAdd, Nat.reduceMul, Nat.reduceSub, Nat.reduceLeDiff, Nat.reduceLT, Int.reduceToNat, Int.reduceLE, Int.reduceLT, Int.reduceNeg, h_validKeys, mValidKeys, h_isIn, mIsIn, h_below, mBelow, h_copyInts, mCopyInts, hv, e1, Nat.sub_zero, sub_zero, toNat_k1, take_mapI, sub_rest, ← List.map_append]
      exact ints_eq (by rw [List.length_append, List.length_drop])
    · rw [remV_f (fun h => hm h.2)]
      have e1 : decide (k ∈ xs) = false := decide_eq_false hm
      simp (config := {maxSteps := 1000000}) (disch := omega) only [go_sem, ↓reduceIte, Nat.reduceEqDiff, Nat.reduceAdd, Nat.reduceMul, Nat.reduceSub, Nat.reduceLeDiff, Nat.reduceLT, Int.reduceToNat, Int.reduceLE, Int.reduceLT, Int.reduceNeg, h_validKeys, mValidKeys, h_isIn, mIsIn, h_below, mBelow, h_copyInts, mCopyInts, hv, e1]
      rfl
theorem fo_RemoveKeyS : FnOk Try.prog 61 := fnOk_of Try.func61 (by kernel_rfl)
theorem c_RemoveKeyS : Contract Try.prog 61 mRemove :=
  contract_of_does (DT := fun _ => []) Try.checked.mixed tabOk (gok_model fo_validKeys c_validKeys (gok_model fo_isIn c_isIn (gok_model fo_below c_below (gok_model fo_copyInts c_copyInts gok_nil)))) Try.func61 rfl (by kernel_rfl) (does_RemoveKeyS rfl rfl rfl rfl)


theorem does_RemoveKeyI {G : Nat → Option FM} (h_ValidKeysI : G 29 = some (.model mValidKeys)) (h_KeysBelowI : G 40 = some (.model mKeysBelow)) (h_cloneI : G 107 = some (.model mCopyInts)) (h_deleteI : G 106 = some (.model mDeleteI)) : Does T G (fun _ => []) Try.f62 mRemove := by
  refine does2 (rs := [.tmp 4, .tmp 5]) rfl rfl fun xs k ro h => ?_
  obtain ⟨hs, rfl⟩ := gd_some h
  refine ⟨fun _ => ⟨by simp [cleanA, cleanL, clean_ints], rfl⟩, ?_⟩
  cases hv : vk xs
  · rw [remV_f (by rw [hv]; simp)]
    simp (config := {maxSteps := 1000000}) (disch := omega) only [go_sem, ↓reduceIte, Nat.reduceEqDiff, Nat.reduceAdd, Nat.reduceMul, Nat.reduceSub, Nat.reduceLeDiff, Nat.reduceLT, Int.reduceToNat, Int.reduceLE, Int.reduceLT, Int.reduceNeg, h_ValidKeysI, mValidKeys, h_KeysBelowI, mKeysBelow, h_cloneI, mCopyInts, h_deleteI, mDeleteI, hv]
    rfl
  · have hma := mem_at (k := k) (vk_iff.1 hv)
    obtain ⟨a1, a2, a3⟩ := cntB_ok (k := k) (vk_iff.1 hv)
    simp (config := {maxSteps := 1000000}) (disch := omega) only [go_sem, ↓reduceIte, Nat.reduceEqDiff, Nat.reduceAdd, Nat.reduceMul, Nat.reduceSub, Nat.reduceLeDiff, Nat.reduceLT, Int.reduceToNat, Int.reduceLE, Int.reduceLT, Int.reduceNeg, h_ValidKeysI, mValidKeys, h_KeysBelowI, mKeysBelow, h_cloneI, mCopyInts, h_deleteI, mDeleteI, hv, vKeysBelow]
    by_cases hc : cntB xs k < xs.length
    · have e0 : decide ((cntB xs k : Int) = (xs.length : Int)) = false := decide_eq_false (by omega)
      by_cases hg : xs.getD (cntB xs k) 0 = k
      · rw [remV_t hv (hma.2 ⟨hc, hg⟩)]
        have e1 : decide (xs.getD (cntB xs k) 0 = k) = true := decide_eq_true hg
        simp (config := {maxSteps := 1000000}) (disch := omega) only [go_sem, ↓reduceIte, Nat.reduceEqDiff, Nat.reduceAdd, Nat.reduceMul, Nat.reduceSub, Nat.reduceLeDiff, Nat.reduceLT, Int.reduceToNat, Int.reduceLE, Int.reduceLT, Int.reduceNeg, h_ValidKeysI, mValidKeys, h_KeysBelowI, mKeysBelow, h_cloneI, mCopyInts, h_deleteI, mDeleteI, hv, vKeysBelow, e0, e1, toNat_k1]
      · rw [remV_f (fun h => hg (hma.1 h.2).2)]
        have e1 : decide (xs.getD (cntB xs k) 0 = k) = false := decide_eq_false hg
        simp (config := {maxSteps := 1000000}) (disch := omega) only [go_sem, ↓reduceIte, Nat.reduceEqDiff, Nat.reduceAdd, Nat.reduceMul, Nat.reduceSub, Nat.reduceLeDiff, Nat.reduceLT, Int.reduceToNat, Int.reduceLE, Int.reduceLT, Int.reduceNeg, h_ValidKeysI, mValidKeys, h_KeysBelowI, mKeysBelow, h_cloneI, mCopyInts, h_deleteI, mDeleteI, hv, vKeysBelow, e0, e1]
        rfl
    · rw [remV_f (fun h => hc (hma.1 h.2).1)]
      have e0 : decide ((cntB xs k : Int) = (xs.length : Int)) = true := decide_eq_true (by omega)
      simp (config := {maxSteps := 1000000}) (disch := omega) only [go_sem, ↓reduceIte, Nat.reduceEqDiff, Nat.reduceAdd, Nat.reduceMul, Nat.reduceSub, Nat.reduceLeDiff, Nat.reduceLT, Int.reduceToNat, Int.reduceLE, Int.reduceLT, Int.reduceNeg, h_ValidKeysI, mValidKeys, h_KeysBelowI, mKeysBelow, h_cloneI, mCopyInts, h_deleteI, mDeleteI, hv, vKeysBelow, e0]
      rfl
theorem fo_RemoveKeyI : FnOk Try.prog 62 := fnOk_of Try.func62 (by kernel_rfl)
theorem c_RemoveKeyI : Contract Try.prog 62 mRemove :=
  contract_of_does (DT := fun _ => []) Try.checked.mixed tabOk (gok_model fo_ValidKeysI c_ValidKeysI (gok_model fo_KeysBelowI c_KeysBelowI (gok_model fo_cloneI c_cloneI (gok_model fo_deleteI c_deleteI gok_nil)))) Try.func62 rfl (by kernel_rfl) (does_RemoveKeyI rfl rfl rfl rfl)


theorem does_FnExactRemoveKey {G : Nat → Option FM} (h_toIntS : G 28 = some (.model mToIntS)) (h_RemoveKeyS : G 61 = some (.model mRemove)) (h_RemoveKeyI : G 62 = some (.model mRemove)) (h_eqIntS : G 30 = some (.model mEqIntS)) (h_markIntS : G 63 = some (.model mMarkIntS)) (h_heldIntS : G 64 = some (.model mHeldIntS)) : Does T G (fun _ => []) Try.f21 mLaw2 := by
  refine does2 (rs := [.tmp 4]) rfl rfl fun xs k ro h => ?_
  cases h
  refine ⟨fun _ => ⟨rfl, rfl⟩, ?_⟩
  have la := remV_len xs k
  generalize ha : (remV xs k).1 = a at la
  generalize hb : (remV xs k).2 = b
  simp (config := {maxSteps := 1000000}) (disch := omega) only [go_sem, ↓reduceIte, Nat.reduceEqDiff, Nat.reduceAdd, Nat.reduceMul, Nat.reduceSub, Nat.reduceLeDiff, Nat.reduceLT, Int.reduceToNat, Int.reduceLE, Int.reduceLT, Int.reduceNeg, h_toIntS, mToIntS, h_RemoveKeyS, mRemove, h_RemoveKeyI, mRemove, h_eqIntS, mEqIntS, h_markIntS, mMarkIntS, h_heldIntS, mHeldIntS]
  (first | refine runKS_split (fun g => ?_) (fun g => ?_) | refine cond_split (fun g => ?_) (fun g => ?_) | refine runK_split (fun g => ?_) (fun g => ?_))
  · simp (config := {maxSteps := 1000000}) (disch := omega) only [go_sem, ↓reduceIte, Nat.reduceEqDiff, Nat.reduceAdd, Nat.reduceMul, Nat.reduceSub, Nat.reduceLeDiff, Nat.reduceLT, Int.reduceToNat, Int.reduceLE, Int.reduceLT, Int.reduceNeg, h_toIntS, mToIntS, h_RemoveKeyS, mRemove, h_RemoveKeyI, mRemove, h_eqIntS, mEqIntS, h_markIntS, mMarkIntS, h_heldIntS, mHeldIntS]
  · have g' := of_decide_eq_false g
    have m0 := marks_len xs.length 1
    have m1 := marks_len a.length 1
    have e1 : decide (1 + (xs.length : Int) < 0) = false := decide_eq_false (by omega)
    have e2 : decide (1 + (a.length : Int) < 0) = false := decide_eq_false (by omega)
    simp (config := {maxSteps := 1000000}) (disch := omega) only [go_sem, ↓reduceIte, Nat.reduceEqDiff, Nat.reduceAdd, Nat.reduceMul, Nat.reduceSub, Nat.reduceLeDiff, Nat.reduceLT, Int.reduceToNat, Int.reduceLE, Int.reduceLT, Int.reduceNeg, h_toIntS, mToIntS, h_RemoveKeyS, mRemove, h_RemoveKeyI, mRemove, h_eqIntS, mEqIntS, h_markIntS, mMarkIntS, h_heldIntS, mHeldIntS, g, ha, hb, e1, e2, marks_len, List.length_map, sub_marks]
theorem fo_FnExactRemoveKey : FnOk Try.prog 21 := fnOk_of Try.func21 (by kernel_rfl)
theorem c_FnExactRemoveKey : Contract Try.prog 21 mLaw2 :=
  contract_of_does (DT := fun _ => []) Try.checked.mixed tabOk (gok_model fo_toIntS c_toIntS (gok_model fo_RemoveKeyS c_RemoveKeyS (gok_model fo_RemoveKeyI c_RemoveKeyI (gok_model fo_eqIntS c_eqIntS (gok_model fo_markIntS c_markIntS (gok_model fo_heldIntS c_heldIntS gok_nil)))))) Try.func21 rfl (by kernel_rfl) (does_FnExactRemoveKey rfl rfl rfl rfl rfl rfl)

theorem fn_FnExactRemoveKey (x : List Int) (h : (∀ y ∈ x, intWf .i64 y) ∧ x.length ≤ maxLen) (k : Int) (hk : intWf .i64 k) : mLaw2.fn [eIs false x, eI k] = some (.b true, []) := by
  simp (config := {maxSteps := 1000000}) (disch := omega) only [go_sem, ↓reduceIte, Nat.reduceEqDiff, Nat.reduceAdd, Nat.reduceMul, Nat.reduceSub, Nat.reduceLeDiff, Nat.reduceLT, Int.reduceToNat, Int.reduceLE, Int.reduceLT, Int.reduceNeg, mLaw2]
end Go.TM
