/- Contracts, 29: a key, a pair, a kid is put. -/
import Derived.Test.YtbdiacopffnnbaaF27
namespace Go.TM
open Go.Proofs
set_option linter.unusedVariables false
set_option linter.unusedSimpArgs false
set_option maxRecDepth 100000

def mInsertI : Model := M3 .mv .ro .mv true (cIs true) cI (cIs true) fun xs i vs => gd (vs.length = 1 ∧ 0 ≤ i ∧ i ≤ xs.length ∧ xs.length ≤ 4294967296) (eIs true (insN xs i.toNat vs), [])
def mInsertP : Model := M3 .mv .ro .mv true (cRow true) cI (cRow true) fun xs i vs => gd (vs.length = 1 ∧ 0 ≤ i ∧ i ≤ xs.length ∧ xs.length ≤ 4294967296) (eRow true (xs.take i.toNat ++ vs ++ xs.drop i.toNat), [])
theorem c_insertI : Contract Try.prog 124 mInsertI := contract_ins (sz := 1) (Nat.le_refl _) rfl (fun args r outs hM => by
  obtain ⟨x, y, z, rfl⟩ : ∃ x y z, args = [x, y, z] := by
    match args, hM with
    | [x, y, z], _ => exact ⟨x, y, z, rfl⟩
    | [], h => simp [mInsertI, M3] at h
    | [_], h => simp [mInsertI, M3] at h
    | [_, _], h => simp [mInsertI, M3] at h
    | _ :: _ :: _ :: _ :: _, h => simp [mInsertI, M3] at h
  simp only [mInsertI] at hM
  rw [M3_fn] at hM
  simp only [Option.bind_eq_some_iff] at hM
  obtain ⟨xs, hx, i, hy, vs, hz, hM⟩ := hM
  obtain rfl := (cIs true).ed _ _ hx
  obtain rfl := cI.ed _ _ hy
  obtain rfl := (cIs true).ed _ _ hz
  obtain ⟨⟨h1, h2, h3, h4⟩, hM⟩ := gd_some hM
  cases hM
  obtain ⟨n, rfl⟩ : ∃ n : Nat, i = n := ⟨i.toNat, by omega⟩
  have hl := insN_len (zs := xs) (vs := vs) (k := n) (by omega)
  refine ⟨xs.length, n, xs, vs, ?_, by omega, h1, by omega, h4, ?_, rfl⟩
  · rw [cIs_e, cIs_e, h1]; rfl
  · rw [Nat.mul_one]
    show A.s true 1 (insN xs ((n : Int).toNat) vs).length _ = _
    rw [Int.toNat_natCast, hl, h1]) ins_rawI
theorem fo_insertI : FnOk Try.prog 124 := fnOk_of Try.func124 (by kernel_rfl)

theorem c_insertP : Contract Try.prog 182 mInsertP := contract_ins (sz := 2) (by decide) rfl (fun args r outs hM => by
  obtain ⟨x, y, z, rfl⟩ : ∃ x y z, args = [x, y, z] := by
    match args, hM with
    | [x, y, z], _ => exact ⟨x, y, z, rfl⟩
    | [], h => simp [mInsertP, M3] at h
    | [_], h => simp [mInsertP, M3] at h
    | [_, _], h => simp [mInsertP, M3] at h
    | _ :: _ :: _ :: _ :: _, h => simp [mInsertP, M3] at h
  simp only [mInsertP] at hM
  rw [M3_fn] at hM
  simp only [Option.bind_eq_some_iff] at hM
  obtain ⟨xs, hx, i, hy, vs, hz, hM⟩ := hM
  obtain rfl := (cRow true).ed _ _ hx
  obtain rfl := cI.ed _ _ hy
  obtain rfl := (cRow true).ed _ _ hz
  obtain ⟨⟨h1, h2, h3, h4⟩, hM⟩ := gd_some hM
  cases hM
  obtain ⟨n, rfl⟩ : ∃ n : Nat, i = n := ⟨i.toNat, by omega⟩
  have e : fl2 (xs.take n ++ vs ++ xs.drop n) = insN (fl2 xs) (n * 2) (fl2 vs) := by rw [fl2_app, fl2_app, fl2_take, fl2_drop]; rfl
  have hl : (xs.take n ++ vs ++ xs.drop n).length = xs.length + 1 := by simp only [List.length_append, List.length_take, List.length_drop]; omega
  refine ⟨xs.length, n, fl2 xs, fl2 vs, ?_, fl2_len xs, by rw [fl2_len, h1], by omega, h4, ?_, rfl⟩
  · rw [cRow_e, cRow_e, h1, fl2_e, fl2_e]; rfl
  · show A.s true 2 (xs.take ((n : Int).toNat) ++ vs ++ xs.drop ((n : Int).toNat)).length _ = _
    rw [Int.toNat_natCast, hl, fl2_e, e]) ins_rawP
theorem fo_insertP : FnOk Try.prog 182 := fnOk_of Try.func182 (by kernel_rfl)


/-! ### A key is put -/

noncomputable def insKV (xs : List Int) (k : Int) : List Int × Bool := if vk xs = true ∧ (0 ≤ k ∧ k ≤ 99) ∧ k ∉ xs then (xs.take (cntB xs k) ++ k :: xs.drop (cntB xs k), true) else ([], false)
theorem insKV_f {xs : List Int} {k : Int} (h : ¬ (vk xs = true ∧ (0 ≤ k ∧ k ≤ 99) ∧ k ∉ xs)) : insKV xs k = ([], false) := if_neg h
theorem insKV_t {xs : List Int} {k : Int} (h : vk xs = true) (h1 : 0 ≤ k ∧ k ≤ 99) (h2 : k ∉ xs) : insKV xs k = (xs.take (cntB xs k) ++ k :: xs.drop (cntB xs k), true) := if_pos ⟨h, h1, h2⟩
theorem insKV_len (xs : List Int) (k : Int) : (insKV xs k).1.length ≤ xs.length + 1 := by
  unfold insKV
  split
  · simp; omega
  · simp
noncomputable def mInsertKey : Model := M2 .ro .ro true (cIs false) cI fun xs k => gd (xs.length ≤ 4294967296) (.tup [eIs true (insKV xs k).1, .b (insKV xs k).2], [])
theorem inR_t {n a b : Int} (h : a ≤ n ∧ n ≤ b) : inR n a b = true := by simp [inR]; omega
theorem inR_f {n a b : Int} (h : ¬ (a ≤ n ∧ n ≤ b)) : inR n a b = false := by
  rw [Bool.eq_false_iff]
  intro h'
  simp [inR] at h'
  omega
theorem insN_one (xs : List Int) (c : Nat) (k : Int) : insN xs c [k] = xs.take c ++ k :: xs.drop c := by simp [insN]
theorem app_K2 {xs ys : List Int} {k : Int} {n : Nat} (h : xs.length + 1 = n) : (xs.map eI ++ [A.i .i64 k]).take n ++ ys.map eI = (xs ++ k :: ys).map eI := by
  rw [List.take_of_length_le (by simp; omega)]
  simp

theorem take_mapI' {xs : List Int} {k : Nat} (h : xs.length = k) : (xs.map eI).take k = xs.map eI := List.take_of_length_le (by simp; omega)

theorem does_InsertKeyS {G : Nat → Option FM} (h_validKeys : G 120 = some (.model mValidKeys)) (h_inRange : G 114 = some (.model mInRange)) (h_isIn : G 101 = some (.model mIsIn)) (h_below : G 103 = some (.model mBelow)) (h_copyInts : G 117 = some (.model mCopyInts)) : Does T G (fun id => match id with  | _ => []) Try.f49 mInsertKey := by
  refine does2 (rs := [.tmp 4, .tmp 5]) rfl rfl fun xs k ro h => ?_
  obtain ⟨hs, rfl⟩ := gd_some h
  refine ⟨fun _ => ⟨by simp [cleanA, cleanL, clean_ints], rfl⟩, ?_⟩
  have hc : cntB xs k ≤ xs.length := (List.takeWhile_prefix _).length_le
  cases hv : vk xs
  · rw [insKV_f (by rw [hv]; simp)]
    simp (config := {maxSteps := 1000000}) (disch := omega) only [go_sem, ↓reduceIte, Nat.reduceEqDiff, Nat.reduceAdd, Nat.reduceMul, Nat.reduceSub, Nat.reduceLeDiff, Nat.reduceLT, Int.reduceToNat, Int.reduceLE, Int.reduceLT, Int.reduceNeg, h_validKeys, mValidKeys, h_inRange, mInRange, h_isIn, mIsIn, h_below, mBelow, h_copyInts, mCopyInts, drP_n, drP_c, logAt_n, logAt_c, disP_n, disP_c, notIn_n, notIn_c, hv]
    rfl
  · by_cases h1 : 0 ≤ k ∧ k ≤ 99
    · have e1 := inR_t h1
      by_cases hm : k ∈ xs
      · have e2 : decide (k ∈ xs) = true := decide_eq_true hm
        rw [insKV_f (fun h => h.2.2 hm)]
        simp (config := {maxSteps := 1000000}) (disch := omega) only [go_sem, ↓reduceIte, Nat.reduceEqDiff, Nat.reduceAdd, Nat.reduceMul, Nat.reduceSub, Nat.reduceLeDiff, Nat.reduceLT, Int.reduceToNat, Int.reduceLE, Int.reduceLT, Int.reduceNeg, h_validKeys, mValidKeys, h_inRange, mInRange, h_isIn, mIsIn, h_below, mBelow, h_copyInts, mCopyInts, drP_n, drP_c, logAt_n, logAt_c, disP_n, disP_c, notIn_n, notIn_c, hv, e1, e2]
        rfl
      · have e2 : decide (k ∈ xs) = false := decide_eq_false hm
        rw [insKV_t hv h1 hm]
        have hl : (xs.take (cntB xs k)).length = cntB xs k := by rw [List.length_take]; omega
        simp (config := {maxSteps := 1000000}) (disch := omega) only [go_sem, ↓reduceIte, Nat.reduceEqDiff, Nat.reduceAdd, Nat.reduceMul, Nat.reduceSub, Nat.reduceLeDiff, Nat.reduceLT, Int.reduceToNat, Int.reduceLE, Int.reduceLT, Int.reduceNeg, h_validKeys, mValidKeys, h_inRange, mInRange, h_isIn, mIsIn, h_below, mBelow, h_copyInts, mCopyInts, drP_n, drP_c, logAt_n, logAt_c, disP_n, disP_c, notIn_n, notIn_c, hv, e1, e2, Nat.sub_zero, sub_zero, List.take_length, take_mapI', sub_rest, app_K2, hl]
        exact ints_eq (by simp only [List.length_append, List.length_cons, List.length_drop, hl]; omega)
    · have e1 := inR_f h1
      rw [insKV_f (fun h => h1 h.2.1)]
      simp (config := {maxSteps := 1000000}) (disch := omega) only [go_sem, ↓reduceIte, Nat.reduceEqDiff, Nat.reduceAdd, Nat.reduceMul, Nat.reduceSub, Nat.reduceLeDiff, Nat.reduceLT, Int.reduceToNat, Int.reduceLE, Int.reduceLT, Int.reduceNeg, h_validKeys, mValidKeys, h_inRange, mInRange, h_isIn, mIsIn, h_below, mBelow, h_copyInts, mCopyInts, drP_n, drP_c, logAt_n, logAt_c, disP_n, disP_c, notIn_n, notIn_c, hv, e1]
      rfl
theorem fo_InsertKeyS : FnOk Try.prog 49 := fnOk_of Try.func49 (by kernel_rfl)
theorem c_InsertKeyS : Contract Try.prog 49 mInsertKey :=
  contract_of_does (DT := fun id => match id with  | _ => []) Try.checked.mixed tabOk (gok_model fo_validKeys c_validKeys (gok_model fo_inRange c_inRange (gok_model fo_isIn c_isIn (gok_model fo_below c_below (gok_model fo_copyInts c_copyInts gok_nil))))) Try.func49 rfl (by kernel_rfl) (does_InsertKeyS rfl rfl rfl rfl rfl)


theorem does_InsertKeyI {G : Nat → Option FM} (h_ValidKeysI : G 121 = some (.model mValidKeys)) (h_isKey : G 122 = some (.model mIsKey)) (h_KeysBelowI : G 123 = some (.model mKeysBelow)) (h_cloneI : G 125 = some (.model mCopyInts)) (h_insertI : G 124 = some (.model mInsertI)) : Does T G (fun id => match id with  | _ => []) Try.f51 mInsertKey := by
  refine does2 (rs := [.tmp 4, .tmp 5]) rfl rfl fun xs k ro h => ?_
  obtain ⟨hs, rfl⟩ := gd_some h
  refine ⟨fun _ => ⟨by simp [cleanA, cleanL, clean_ints], rfl⟩, ?_⟩
  have hc : cntB xs k ≤ xs.length := (List.takeWhile_prefix _).length_le
  cases hv : vk xs
  · rw [insKV_f (by rw [hv]; simp)]
    simp (config := {maxSteps := 1000000}) (disch := omega) only [go_sem, ↓reduceIte, Nat.reduceEqDiff, Nat.reduceAdd, Nat.reduceMul, Nat.reduceSub, Nat.reduceLeDiff, Nat.reduceLT, Int.reduceToNat, Int.reduceLE, Int.reduceLT, Int.reduceNeg, h_ValidKeysI, mValidKeys, h_isKey, mIsKey, h_KeysBelowI, mKeysBelow, h_cloneI, mCopyInts, h_insertI, mInsertI, drP_n, drP_c, logAt_n, logAt_c, disP_n, disP_c, notIn_n, notIn_c, hv]
    rfl
  · have hma := mem_at (k := k) (vk_iff.1 hv)
    by_cases h1 : 0 ≤ k ∧ k ≤ 99
    · have e1 := inR_t h1
      by_cases hl : cntB xs k < xs.length
      · have d1 : decide ((cntB xs k : Int) < (xs.length : Int)) = true := decide_eq_true (by omega)
        by_cases hg : xs.getD (cntB xs k) 0 = k
        · have d2 : decide (xs.getD (cntB xs k) 0 = k) = true := decide_eq_true hg
          rw [insKV_f (fun h => h.2.2 (hma.2 ⟨hl, hg⟩))]
          simp (config := {maxSteps := 1000000}) (disch := omega) only [go_sem, ↓reduceIte, Nat.reduceEqDiff, Nat.reduceAdd, Nat.reduceMul, Nat.reduceSub, Nat.reduceLeDiff, Nat.reduceLT, Int.reduceToNat, Int.reduceLE, Int.reduceLT, Int.reduceNeg, h_ValidKeysI, mValidKeys, h_isKey, mIsKey, h_KeysBelowI, mKeysBelow, h_cloneI, mCopyInts, h_insertI, mInsertI, drP_n, drP_c, logAt_n, logAt_c, disP_n, disP_c, notIn_n, notIn_c, hv, e1, vKeysBelow, d1, d2]
          rfl
        · have d2 : decide (xs.getD (cntB xs k) 0 = k) = false := decide_eq_false hg
          rw [insKV_t hv h1 (fun h => hg (hma.1 h).2)]
          simp (config := {maxSteps := 1000000}) (disch := omega) only [go_sem, ↓reduceIte, Nat.reduceEqDiff, Nat.reduceAdd, Nat.reduceMul, Nat.reduceSub, Nat.reduceLeDiff, Nat.reduceLT, Int.reduceToNat, Int.reduceLE, Int.reduceLT, Int.reduceNeg, h_ValidKeysI, mValidKeys, h_isKey, mIsKey, h_KeysBelowI, mKeysBelow, h_cloneI, mCopyInts, h_insertI, mInsertI, drP_n, drP_c, logAt_n, logAt_c, disP_n, disP_c, notIn_n, notIn_c, hv, e1, vKeysBelow, d1, d2, insN_one]
      · have d1 : decide ((cntB xs k : Int) < (xs.length : Int)) = false := decide_eq_false (by omega)
        rw [insKV_t hv h1 (fun h => hl (hma.1 h).1)]
        simp (config := {maxSteps := 1000000}) (disch := omega) only [go_sem, ↓reduceIte, Nat.reduceEqDiff, Nat.reduceAdd, Nat.reduceMul, Nat.reduceSub, Nat.reduceLeDiff, Nat.reduceLT, Int.reduceToNat, Int.reduceLE, Int.reduceLT, Int.reduceNeg, h_ValidKeysI, mValidKeys, h_isKey, mIsKey, h_KeysBelowI, mKeysBelow, h_cloneI, mCopyInts, h_insertI, mInsertI, drP_n, drP_c, logAt_n, logAt_c, disP_n, disP_c, notIn_n, notIn_c, hv, e1, vKeysBelow, d1, insN_one]
    · have e1 := inR_f h1
      rw [insKV_f (fun h => h1 h.2.1)]
      simp (config := {maxSteps := 1000000}) (disch := omega) only [go_sem, ↓reduceIte, Nat.reduceEqDiff, Nat.reduceAdd, Nat.reduceMul, Nat.reduceSub, Nat.reduceLeDiff, Nat.reduceLT, Int.reduceToNat, Int.reduceLE, Int.reduceLT, Int.reduceNeg, h_ValidKeysI, mValidKeys, h_isKey, mIsKey, h_KeysBelowI, mKeysBelow, h_cloneI, mCopyInts, h_insertI, mInsertI, drP_n, drP_c, logAt_n, logAt_c, disP_n, disP_c, notIn_n, notIn_c, hv, e1]
      rfl
theorem fo_InsertKeyI : FnOk Try.prog 51 := fnOk_of Try.func51 (by kernel_rfl)
theorem c_InsertKeyI : Contract Try.prog 51 mInsertKey :=
  contract_of_does (DT := fun id => match id with  | _ => []) Try.checked.mixed tabOk (gok_model fo_ValidKeysI c_ValidKeysI (gok_model fo_isKey c_isKey (gok_model fo_KeysBelowI c_KeysBelowI (gok_model fo_cloneI c_cloneI (gok_model fo_insertI c_insertI gok_nil))))) Try.func51 rfl (by kernel_rfl) (does_InsertKeyI rfl rfl rfl rfl rfl)


theorem does_FnExactInsertKey {G : Nat → Option FM} (h_toIntS : G 50 = some (.model mToIntS)) (h_InsertKeyS : G 49 = some (.model mInsertKey)) (h_InsertKeyI : G 51 = some (.model mInsertKey)) (h_eqIntS : G 52 = some (.model mEqIntS)) (h_markIntS : G 53 = some (.model mMarkIntS)) (h_heldIntS : G 54 = some (.model mHeldIntS)) : Does T G (fun id => match id with  | _ => []) Try.f9 mLaw2 := by
  refine does2 (rs := [.tmp 4]) rfl rfl fun xs k ro h => ?_
  cases h
  refine ⟨fun _ => ⟨rfl, rfl⟩, ?_⟩
  have la := insKV_len xs k
  generalize ha : (insKV xs k).1 = a at la
  generalize hb : (insKV xs k).2 = b
  simp (config := {maxSteps := 1000000}) (disch := omega) only [go_sem, ↓reduceIte, Nat.reduceEqDiff, Nat.reduceAdd, Nat.reduceMul, Nat.reduceSub, Nat.reduceLeDiff, Nat.reduceLT, Int.reduceToNat, Int.reduceLE, Int.reduceLT, Int.reduceNeg, h_toIntS, mToIntS, h_InsertKeyS, mInsertKey, h_InsertKeyI, mInsertKey, h_eqIntS, mEqIntS, h_markIntS, mMarkIntS, h_heldIntS, mHeldIntS]
  (first | refine runKS_split (fun g => ?_) (fun g => ?_) | refine cond_split (fun g => ?_) (fun g => ?_) | refine runK_split (fun g => ?_) (fun g => ?_))
  · simp (config := {maxSteps := 1000000}) (disch := omega) only [go_sem, ↓reduceIte, Nat.reduceEqDiff, Nat.reduceAdd, Nat.reduceMul, Nat.reduceSub, Nat.reduceLeDiff, Nat.reduceLT, Int.reduceToNat, Int.reduceLE, Int.reduceLT, Int.reduceNeg, h_toIntS, mToIntS, h_InsertKeyS, mInsertKey, h_InsertKeyI, mInsertKey, h_eqIntS, mEqIntS, h_markIntS, mMarkIntS, h_heldIntS, mHeldIntS]
  · have g' := of_decide_eq_false g
    have m0 := marks_len xs.length 1
    have m1 := marks_len a.length 1
    have e1 : decide (1 + (xs.length : Int) < 0) = false := decide_eq_false (by omega)
    have e2 : decide (1 + (a.length : Int) < 0) = false := decide_eq_false (by omega)
    simp (config := {maxSteps := 1000000}) (disch := omega) only [go_sem, ↓reduceIte, Nat.reduceEqDiff, Nat.reduceAdd, Nat.reduceMul, Nat.reduceSub, Nat.reduceLeDiff, Nat.reduceLT, Int.reduceToNat, Int.reduceLE, Int.reduceLT, Int.reduceNeg, h_toIntS, mToIntS, h_InsertKeyS, mInsertKey, h_InsertKeyI, mInsertKey, h_eqIntS, mEqIntS, h_markIntS, mMarkIntS, h_heldIntS, mHeldIntS, drP_n, drP_c, logAt_n, logAt_c, disP_n, disP_c, notIn_n, notIn_c, g, ha, hb, e1, e2, marks_len, List.length_map, sub_marks]
theorem fo_FnExactInsertKey : FnOk Try.prog 9 := fnOk_of Try.func9 (by kernel_rfl)
theorem c_FnExactInsertKey : Contract Try.prog 9 mLaw2 :=
  contract_of_does (DT := fun id => match id with  | _ => []) Try.checked.mixed tabOk (gok_model fo_toIntS c_toIntS (gok_model fo_InsertKeyS c_InsertKeyS (gok_model fo_InsertKeyI c_InsertKeyI (gok_model fo_eqIntS c_eqIntS (gok_model fo_markIntS c_markIntS (gok_model fo_heldIntS c_heldIntS gok_nil)))))) Try.func9 rfl (by kernel_rfl) (does_FnExactInsertKey rfl rfl rfl rfl rfl rfl)

theorem fn_FnExactInsertKey (x : List Int) (h : (∀ y ∈ x, intWf .i64 y) ∧ x.length ≤ maxLen) (k : Int) (hk : intWf .i64 k) : mLaw2.fn [eIs false x, eI k] = some (.b true, []) := by
  simp (config := {maxSteps := 1000000}) (disch := omega) only [go_sem, ↓reduceIte, Nat.reduceEqDiff, Nat.reduceAdd, Nat.reduceMul, Nat.reduceSub, Nat.reduceLeDiff, Nat.reduceLT, Int.reduceToNat, Int.reduceLE, Int.reduceLT, Int.reduceNeg, mLaw2]

/-! ### A pair is put -/

noncomputable def mPutIn : Model := M2 .ro .ro true (cRow false) cPair fun xs x => gd (vk (keysP xs) = true ∧ xs.length ≤ 4294967296) (eRow true (putV xs x), [])
noncomputable def putPV (xs : List Pr) (x : Pr) : List Pr × Bool := if vRow xs = true ∧ (inR x.1 0 99 = true ∧ inR x.2 (-1000) 1000 = true) ∧ (putV xs x).length ≤ 24 then (putV xs x, true) else ([], false)
theorem putPV_f {xs : List Pr} {x : Pr} (h : ¬ (vRow xs = true ∧ (inR x.1 0 99 = true ∧ inR x.2 (-1000) 1000 = true) ∧ (putV xs x).length ≤ 24)) : putPV xs x = ([], false) := if_neg h
theorem putPV_t {xs : List Pr} {x : Pr} (h : vRow xs = true ∧ (inR x.1 0 99 = true ∧ inR x.2 (-1000) 1000 = true) ∧ (putV xs x).length ≤ 24) : putPV xs x = (putV xs x, true) := if_pos h
theorem putPV_len (xs : List Pr) (x : Pr) : (putPV xs x).1.length ≤ xs.length + 1 := by
  have := putV_len xs x
  unfold putPV
  split
  · exact this
  · simp
noncomputable def mPutPair : Model := M2 .ro .ro true (cRow false) cPair fun xs x => gd (xs.length ≤ 4294967296) (.tup [eRow true (putPV xs x).1, .b (putPV xs x).2], [])
theorem vRow_one (x : Pr) : vRow [x] = (inR x.1 0 99 && inR x.2 (-1000) 1000) := by
  rw [Bool.eq_iff_iff]
  simp only [vRow, keysP, List.all_cons, List.all_nil, Bool.and_true, Bool.and_eq_true, List.length_singleton, List.map_cons, List.map_nil, decide_eq_true_eq, vk_iff]
  constructor
  · rintro ⟨h1, _, h2⟩
    have := h2.2 0 (by simp)
    exact ⟨inR_t (by simpa using this), h1⟩
  · rintro ⟨h1, h2⟩
    refine ⟨h2, by omega, fun i hi => ?_, fun i hi => ?_⟩
    · simp at hi
    · simp at hi
      subst hi
      have := inR_iff.1 h1
      simpa using this

theorem cRow_one (o : Bool) (a b : Int) : (cRow o).d (.s o 2 1 [.i .i64 a, .i .i64 b]) = some [(a, b)] := (cRow o).de [(a, b)]

theorem does_isPair {G : Nat → Option FM} (h_isKey : G 122 = some (.model mIsKey)) (h_isValue : G 165 = some (.model mIsValue)) : Does T G (fun id => match id with  | _ => []) Try.f143 (M1 .ro true cPair fun x => gd True (.b (inR x.1 0 99 && inR x.2 (-1000) 1000), [])) := by
  refine does1 (rs := [.tmp 2]) rfl rfl fun x ro h => ?_
  obtain ⟨_, rfl⟩ := gd_some h
  refine ⟨fun _ => ⟨rfl, rfl⟩, ?_⟩
  cases h1 : inR x.1 0 99
  · simp (config := {maxSteps := 1000000}) (disch := omega) only [go_sem, ↓reduceIte, Nat.reduceEqDiff, Nat.reduceAdd, Nat.reduceMul, Nat.reduceSub, Nat.reduceLeDiff, Nat.reduceLT, Int.reduceToNat, Int.reduceLE, Int.reduceLT, Int.reduceNeg, h_isKey, mIsKey, h_isValue, mIsValue, drP_n, drP_c, logAt_n, logAt_c, disP_n, disP_c, notIn_n, notIn_c, h1]
    try simp
  · cases h2 : inR x.2 (-1000) 1000
    · simp (config := {maxSteps := 1000000}) (disch := omega) only [go_sem, ↓reduceIte, Nat.reduceEqDiff, Nat.reduceAdd, Nat.reduceMul, Nat.reduceSub, Nat.reduceLeDiff, Nat.reduceLT, Int.reduceToNat, Int.reduceLE, Int.reduceLT, Int.reduceNeg, h_isKey, mIsKey, h_isValue, mIsValue, drP_n, drP_c, logAt_n, logAt_c, disP_n, disP_c, notIn_n, notIn_c, h1, h2]
      try simp
    · simp (config := {maxSteps := 1000000}) (disch := omega) only [go_sem, ↓reduceIte, Nat.reduceEqDiff, Nat.reduceAdd, Nat.reduceMul, Nat.reduceSub, Nat.reduceLeDiff, Nat.reduceLT, Int.reduceToNat, Int.reduceLE, Int.reduceLT, Int.reduceNeg, h_isKey, mIsKey, h_isValue, mIsValue, drP_n, drP_c, logAt_n, logAt_c, disP_n, disP_c, notIn_n, notIn_c, h1, h2]
      try simp
theorem fo_isPair : FnOk Try.prog 143 := fnOk_of Try.func143 (by kernel_rfl)
theorem c_isPair : Contract Try.prog 143 (M1 .ro true cPair fun x => gd True (.b (inR x.1 0 99 && inR x.2 (-1000) 1000), [])) :=
  contract_of_does (DT := fun id => match id with  | _ => []) Try.checked.mixed tabOk (gok_model fo_isKey c_isKey (gok_model fo_isValue c_isValue gok_nil)) Try.func143 rfl (by kernel_rfl) (does_isPair rfl rfl)


theorem does_putInRow {G : Nat → Option FM} (h_placeInRow : G 105 = some (.model mPlace)) (h_cloneP : G 169 = some (.model mCopyRow)) (h_insertP : G 182 = some (.model mInsertP)) : Does T G (fun id => match id with  | _ => []) Try.f144 mPutIn := by
  refine does2 (rs := [.tmp 4]) rfl rfl fun xs x ro h => ?_
  obtain ⟨⟨hv, hs⟩, rfl⟩ := gd_some h
  refine ⟨fun _ => ⟨by simp [cleanA, cleanL, clean_row], rfl⟩, ?_⟩
  obtain ⟨a, b⟩ := x
  obtain ⟨p1, p2, p3, p4⟩ := place_ok (k := a) hv
  have hth := p3
  cases ht : thV xs a
  · have hn : ¬ (cntB (keysP xs) a < xs.length ∧ (xs.getD (cntB (keysP xs) a) default).1 = a) := by
      rintro ⟨h1, h2⟩
      have : thV xs a = true := by
        unfold thV
        rw [p1]
        simp only [Bool.and_eq_true, decide_eq_true_eq, Int.toNat_natCast]
        exact ⟨by omega, by omega, h2⟩
      rw [this] at ht; cases ht
    rw [putV_f hn]
    simp (config := {maxSteps := 1000000}) (disch := omega) only [go_sem, ↓reduceIte, Nat.reduceEqDiff, Nat.reduceAdd, Nat.reduceMul, Nat.reduceSub, Nat.reduceLeDiff, Nat.reduceLT, Int.reduceToNat, Int.reduceLE, Int.reduceLT, Int.reduceNeg, h_placeInRow, mPlace, h_cloneP, mCopyRow, h_insertP, mInsertP, drP_n, drP_c, logAt_n, logAt_c, disP_n, disP_c, notIn_n, notIn_c, p1, ht, cRow_one]
    try simp
  · have hlt := p4 (p3.1 ht)
    have h2 : (xs.getD (cntB (keysP xs) a) default).1 = a := by
      unfold thV at ht
      rw [p1] at ht
      simp only [Bool.and_eq_true, decide_eq_true_eq, Int.toNat_natCast] at ht
      exact ht.2.2
    have hset : xs.set (cntB (keysP xs) a) (a, b) = xs.take (cntB (keysP xs) a) ++ (a, b) :: xs.drop (cntB (keysP xs) a + 1) := by rw [List.set_eq_take_append_cons_drop, if_pos hlt]
    rw [putV_t hlt h2, ← hset]
    simp (config := {maxSteps := 1000000}) (disch := omega) only [go_sem, ↓reduceIte, Nat.reduceEqDiff, Nat.reduceAdd, Nat.reduceMul, Nat.reduceSub, Nat.reduceLeDiff, Nat.reduceLT, Int.reduceToNat, Int.reduceLE, Int.reduceLT, Int.reduceNeg, h_placeInRow, mPlace, h_cloneP, mCopyRow, h_insertP, mInsertP, drP_n, drP_c, logAt_n, logAt_c, disP_n, disP_c, notIn_n, notIn_c, p1, ht]
    try simp
theorem fo_putInRow : FnOk Try.prog 144 := fnOk_of Try.func144 (by kernel_rfl)
theorem c_putInRow : Contract Try.prog 144 mPutIn :=
  contract_of_does (DT := fun id => match id with  | _ => []) Try.checked.mixed tabOk (gok_model fo_placeInRow c_placeInRow (gok_model fo_cloneP c_cloneP (gok_model fo_insertP c_insertP gok_nil))) Try.func144 rfl (by kernel_rfl) (does_putInRow rfl rfl rfl)


theorem does_PutPairS {G : Nat → Option FM} (h_validRow : G 100 = some (.model mValidRow)) (h_put : G 142 = some (.model mPut)) : Does T G (fun id => match id with  | _ => []) Try.f75 mPutPair := by
  refine does2 (rs := [.tmp 4, .tmp 5]) rfl rfl fun xs x ro h => ?_
  obtain ⟨hs, rfl⟩ := gd_some h
  refine ⟨fun _ => ⟨by simp [cleanA, cleanL, clean_row], rfl⟩, ?_⟩
  have hvo := vRow_one x
  have hpl := putV_len xs x
  cases hv : vRow xs
  · rw [putPV_f (by rw [hv]; simp)]
    simp (config := {maxSteps := 1000000}) (disch := omega) only [go_sem, ↓reduceIte, Nat.reduceEqDiff, Nat.reduceAdd, Nat.reduceMul, Nat.reduceSub, Nat.reduceLeDiff, Nat.reduceLT, Int.reduceToNat, Int.reduceLE, Int.reduceLT, Int.reduceNeg, h_validRow, mValidRow, h_put, mPut, drP_n, drP_c, logAt_n, logAt_c, disP_n, disP_c, notIn_n, notIn_c, hv]
    rfl
  · cases h1 : inR x.1 0 99
    · rw [h1, Bool.false_and] at hvo
      rw [putPV_f (by rw [h1]; simp)]
      simp (config := {maxSteps := 1000000}) (disch := omega) only [go_sem, ↓reduceIte, Nat.reduceEqDiff, Nat.reduceAdd, Nat.reduceMul, Nat.reduceSub, Nat.reduceLeDiff, Nat.reduceLT, Int.reduceToNat, Int.reduceLE, Int.reduceLT, Int.reduceNeg, h_validRow, mValidRow, h_put, mPut, drP_n, drP_c, logAt_n, logAt_c, disP_n, disP_c, notIn_n, notIn_c, hv, cRow_one, hvo]
      rfl
    · cases h2 : inR x.2 (-1000) 1000
      · rw [h2, Bool.and_false] at hvo
        rw [putPV_f (by rw [h2]; simp)]
        simp (config := {maxSteps := 1000000}) (disch := omega) only [go_sem, ↓reduceIte, Nat.reduceEqDiff, Nat.reduceAdd, Nat.reduceMul, Nat.reduceSub, Nat.reduceLeDiff, Nat.reduceLT, Int.reduceToNat, Int.reduceLE, Int.reduceLT, Int.reduceNeg, h_validRow, mValidRow, h_put, mPut, drP_n, drP_c, logAt_n, logAt_c, disP_n, disP_c, notIn_n, notIn_c, hv, cRow_one, hvo]
        rfl
      · rw [h1, h2, Bool.and_true] at hvo
        by_cases h3 : (putV xs x).length ≤ 24
        · have e3 : decide (24 < ((putV xs x).length : Int)) = false := decide_eq_false (by omega)
          rw [putPV_t ⟨hv, ⟨h1, h2⟩, h3⟩]
          simp (config := {maxSteps := 1000000}) (disch := omega) only [go_sem, ↓reduceIte, Nat.reduceEqDiff, Nat.reduceAdd, Nat.reduceMul, Nat.reduceSub, Nat.reduceLeDiff, Nat.reduceLT, Int.reduceToNat, Int.reduceLE, Int.reduceLT, Int.reduceNeg, h_validRow, mValidRow, h_put, mPut, drP_n, drP_c, logAt_n, logAt_c, disP_n, disP_c, notIn_n, notIn_c, hv, cRow_one, hvo, e3]
        · have e3 : decide (24 < ((putV xs x).length : Int)) = true := decide_eq_true (by omega)
          rw [putPV_f (fun h => h3 h.2.2)]
          simp (config := {maxSteps := 1000000}) (disch := omega) only [go_sem, ↓reduceIte, Nat.reduceEqDiff, Nat.reduceAdd, Nat.reduceMul, Nat.reduceSub, Nat.reduceLeDiff, Nat.reduceLT, Int.reduceToNat, Int.reduceLE, Int.reduceLT, Int.reduceNeg, h_validRow, mValidRow, h_put, mPut, drP_n, drP_c, logAt_n, logAt_c, disP_n, disP_c, notIn_n, notIn_c, hv, cRow_one, hvo, e3]
          rfl
theorem fo_PutPairS : FnOk Try.prog 75 := fnOk_of Try.func75 (by kernel_rfl)
theorem c_PutPairS : Contract Try.prog 75 mPutPair :=
  contract_of_does (DT := fun id => match id with  | _ => []) Try.checked.mixed tabOk (gok_model fo_validRow c_validRow (gok_model fo_put c_put gok_nil)) Try.func75 rfl (by kernel_rfl) (does_PutPairS rfl rfl)


theorem does_PutPairI {G : Nat → Option FM} (h_ValidRowI : G 104 = some (.model mValidRow)) (h_isPair : G 143 = some (.model (M1 .ro true cPair fun x => gd True (.b (inR x.1 0 99 && inR x.2 (-1000) 1000), [])))) (h_putInRow : G 144 = some (.model mPutIn)) : Does T G (fun id => match id with  | _ => []) Try.f77 mPutPair := by
  refine does2 (rs := [.tmp 4, .tmp 5]) rfl rfl fun xs x ro h => ?_
  obtain ⟨hs, rfl⟩ := gd_some h
  refine ⟨fun _ => ⟨by simp [cleanA, cleanL, clean_row], rfl⟩, ?_⟩
  have hpl := putV_len xs x
  cases hv : vRow xs
  · rw [putPV_f (by rw [hv]; simp)]
    simp (config := {maxSteps := 1000000}) (disch := omega) only [go_sem, ↓reduceIte, Nat.reduceEqDiff, Nat.reduceAdd, Nat.reduceMul, Nat.reduceSub, Nat.reduceLeDiff, Nat.reduceLT, Int.reduceToNat, Int.reduceLE, Int.reduceLT, Int.reduceNeg, h_ValidRowI, mValidRow, h_isPair, M1, h_putInRow, mPutIn, drP_n, drP_c, logAt_n, logAt_c, disP_n, disP_c, notIn_n, notIn_c, hv]
    rfl
  · have hvk := (vRow_vk hv).1
    cases h1 : inR x.1 0 99
    · rw [putPV_f (by rw [h1]; simp)]
      simp (config := {maxSteps := 1000000}) (disch := omega) only [go_sem, ↓reduceIte, Nat.reduceEqDiff, Nat.reduceAdd, Nat.reduceMul, Nat.reduceSub, Nat.reduceLeDiff, Nat.reduceLT, Int.reduceToNat, Int.reduceLE, Int.reduceLT, Int.reduceNeg, h_ValidRowI, mValidRow, h_isPair, M1, h_putInRow, mPutIn, drP_n, drP_c, logAt_n, logAt_c, disP_n, disP_c, notIn_n, notIn_c, hv, h1, Bool.false_and]
      rfl
    · cases h2 : inR x.2 (-1000) 1000
      · rw [putPV_f (by rw [h2]; simp)]
        simp (config := {maxSteps := 1000000}) (disch := omega) only [go_sem, ↓reduceIte, Nat.reduceEqDiff, Nat.reduceAdd, Nat.reduceMul, Nat.reduceSub, Nat.reduceLeDiff, Nat.reduceLT, Int.reduceToNat, Int.reduceLE, Int.reduceLT, Int.reduceNeg, h_ValidRowI, mValidRow, h_isPair, M1, h_putInRow, mPutIn, drP_n, drP_c, logAt_n, logAt_c, disP_n, disP_c, notIn_n, notIn_c, hv, h1, h2, Bool.and_false]
        rfl
      · by_cases h3 : (putV xs x).length ≤ 24
        · have e3 : decide (24 < ((putV xs x).length : Int)) = false := decide_eq_false (by omega)
          rw [putPV_t ⟨hv, ⟨h1, h2⟩, h3⟩]
          simp (config := {maxSteps := 1000000}) (disch := omega) only [go_sem, ↓reduceIte, Nat.reduceEqDiff, Nat.reduceAdd, Nat.reduceMul, Nat.reduceSub, Nat.reduceLeDiff, Nat.reduceLT, Int.reduceToNat, Int.reduceLE, Int.reduceLT, Int.reduceNeg, h_ValidRowI, mValidRow, h_isPair, M1, h_putInRow, mPutIn, drP_n, drP_c, logAt_n, logAt_c, disP_n, disP_c, notIn_n, notIn_c, hv, h1, h2, hvk, e3, Bool.and_self]
        · have e3 : decide (24 < ((putV xs x).length : Int)) = true := decide_eq_true (by omega)
          rw [putPV_f (fun h => h3 h.2.2)]
          simp (config := {maxSteps := 1000000}) (disch := omega) only [go_sem, ↓reduceIte, Nat.reduceEqDiff, Nat.reduceAdd, Nat.reduceMul, Nat.reduceSub, Nat.reduceLeDiff, Nat.reduceLT, Int.reduceToNat, Int.reduceLE, Int.reduceLT, Int.reduceNeg, h_ValidRowI, mValidRow, h_isPair, M1, h_putInRow, mPutIn, drP_n, drP_c, logAt_n, logAt_c, disP_n, disP_c, notIn_n, notIn_c, hv, h1, h2, hvk, e3, Bool.and_self]
          rfl
theorem fo_PutPairI : FnOk Try.prog 77 := fnOk_of Try.func77 (by kernel_rfl)
theorem c_PutPairI : Contract Try.prog 77 mPutPair :=
  contract_of_does (DT := fun id => match id with  | _ => []) Try.checked.mixed tabOk (gok_model fo_ValidRowI c_ValidRowI (gok_model fo_isPair c_isPair (gok_model fo_putInRow c_putInRow gok_nil))) Try.func77 rfl (by kernel_rfl) (does_PutPairI rfl rfl rfl)

def mLawRowP : Model := M2 .ro .ro true (cRow false) cPair fun xs x => gd (xs.length ≤ 9223372036854775807) (.b true, [])
theorem does_FnExactPutPair {G : Nat → Option FM} (h_szPairS : G 27 = some (.model mSzPairS)) (h_toPairS : G 29 = some (.model mToPairS)) (h_toPair : G 76 = some (.model mToPair)) (h_PutPairS : G 75 = some (.model mPutPair)) (h_PutPairI : G 77 = some (.model mPutPair)) (h_eqPairS : G 31 = some (.model mEqPairS)) (h_markPairS : G 34 = some (.model mMarkPairS)) (h_heldPairS : G 35 = some (.model mHeldPairS)) : Does T G (fun id => match id with | 5 => [(1, 2)] | 24 => [(1, 2)] | _ => []) Try.f16 mLawRowP := by
  refine does2 (rs := [.tmp 4]) rfl rfl fun xs x ro h => ?_
  obtain ⟨hs, rfl⟩ := gd_some h
  refine ⟨fun _ => ⟨rfl, rfl⟩, ?_⟩
  have la := putPV_len xs x
  generalize ha : (putPV xs x).1 = a at la
  generalize hb : (putPV xs x).2 = b
  simp (config := {maxSteps := 1000000}) (disch := omega) only [go_sem, ↓reduceIte, Nat.reduceEqDiff, Nat.reduceAdd, Nat.reduceMul, Nat.reduceSub, Nat.reduceLeDiff, Nat.reduceLT, Int.reduceToNat, Int.reduceLE, Int.reduceLT, Int.reduceNeg, h_szPairS, mSzPairS, h_toPairS, mToPairS, h_toPair, mToPair, h_PutPairS, mPutPair, h_PutPairI, mPutPair, h_eqPairS, mEqPairS, h_markPairS, mMarkPairS, h_heldPairS, mHeldPairS, drP_n, drP_c, logAt_n, logAt_c, disP_n, disP_c, notIn_n, notIn_c, ePr]
  by_cases h1 : 1048576 < (xs.length : Int)
  · simp (config := {maxSteps := 1000000}) (disch := omega) only [go_sem, ↓reduceIte, Nat.reduceEqDiff, Nat.reduceAdd, Nat.reduceMul, Nat.reduceSub, Nat.reduceLeDiff, Nat.reduceLT, Int.reduceToNat, Int.reduceLE, Int.reduceLT, Int.reduceNeg, h_szPairS, mSzPairS, h_toPairS, mToPairS, h_toPair, mToPair, h_PutPairS, mPutPair, h_PutPairI, mPutPair, h_eqPairS, mEqPairS, h_markPairS, mMarkPairS, h_heldPairS, mHeldPairS, drP_n, drP_c, logAt_n, logAt_c, disP_n, disP_c, notIn_n, notIn_c, h1, ePr]
  · have e : ¬ (1048576 - (xs.length : Int)) < 0 := by omega
    have m0 := marksP_len xs.length 1
    have m1 := marksP_len a.length 1
    have e1 : decide (1 + 2 * (xs.length : Int) < 0) = false := decide_eq_false (by omega)
    have e2 : decide (1 + 2 * (a.length : Int) < 0) = false := decide_eq_false (by omega)
    simp (config := {maxSteps := 1000000}) (disch := omega) only [go_sem, ↓reduceIte, Nat.reduceEqDiff, Nat.reduceAdd, Nat.reduceMul, Nat.reduceSub, Nat.reduceLeDiff, Nat.reduceLT, Int.reduceToNat, Int.reduceLE, Int.reduceLT, Int.reduceNeg, h_szPairS, mSzPairS, h_toPairS, mToPairS, h_toPair, mToPair, h_PutPairS, mPutPair, h_PutPairI, mPutPair, h_eqPairS, mEqPairS, h_markPairS, mMarkPairS, h_heldPairS, mHeldPairS, drP_n, drP_c, logAt_n, logAt_c, disP_n, disP_c, notIn_n, notIn_c, ePr, h1, e, ha, hb, e1, e2, marksP_len, flatPr_len, sub_marksP]
theorem fo_FnExactPutPair : FnOk Try.prog 16 := fnOk_of Try.func16 (by kernel_rfl)
theorem c_FnExactPutPair : Contract Try.prog 16 mLawRowP :=
  contract_of_does (DT := fun id => match id with | 5 => [(1, 2)] | 24 => [(1, 2)] | _ => []) Try.checked.mixed tabOk (gok_model fo_szPairS c_szPairS (gok_model fo_toPairS c_toPairS (gok_model fo_toPair c_toPair (gok_model fo_PutPairS c_PutPairS (gok_model fo_PutPairI c_PutPairI (gok_model fo_eqPairS c_eqPairS (gok_model fo_markPairS c_markPairS (gok_model fo_heldPairS c_heldPairS gok_nil)))))))) Try.func16 rfl (by kernel_rfl) (does_FnExactPutPair rfl rfl rfl rfl rfl rfl rfl rfl)

theorem fn_FnExactPutPair (x : List Pr) (h : (∀ y ∈ x, intWf .i64 y.1 ∧ intWf .i64 y.2) ∧ x.length ≤ maxLen) (k : Pr) (hk : intWf .i64 k.1 ∧ intWf .i64 k.2) : mLawRowP.fn [eRow false x, ePair k] = some (.b true, []) := by
  have h2 : x.length ≤ 9223372036854775807 := h.2
  simp (config := {maxSteps := 1000000}) (disch := omega) only [go_sem, ↓reduceIte, Nat.reduceEqDiff, Nat.reduceAdd, Nat.reduceMul, Nat.reduceSub, Nat.reduceLeDiff, Nat.reduceLT, Int.reduceToNat, Int.reduceLE, Int.reduceLT, Int.reduceNeg, mLawRowP]

/-! ### A kid is put -/

def addV (x : Inn) (p : Nat) (k kid : Int) : Inn := ⟨x.keys.take p ++ k :: x.keys.drop p, x.kids.take (p + 1) ++ kid :: x.kids.drop (p + 1)⟩
theorem addV_len {x : Inn} {p : Nat} {k kid : Int} (h : p ≤ x.keys.length) (h' : p + 1 ≤ x.kids.length) : (addV x p k kid).keys.length = x.keys.length + 1 ∧ (addV x p k kid).kids.length = x.kids.length + 1 := by
  simp only [addV, List.length_append, List.length_cons, List.length_take, List.length_drop]
  omega
def mAddAt : Model := M4 .ro .ro .ro .ro true (cInn false) cI cI cI fun x p k kid => gd ((0 ≤ p ∧ p ≤ x.keys.length) ∧ x.kids.length = x.keys.length + 1 ∧ x.keys.length ≤ 34359738368) (eInn true (addV x p.toNat k kid), [])

theorem does_addKid {G : Nat → Option FM} (h_copyInts : G 117 = some (.model mCopyInts)) : Does T G (fun id => match id with | 3 => [(5, 7), (5, 8)] | _ => []) Try.f136 mAddAt := by
  refine does4 (rs := [.cell 8 38]) rfl rfl fun x p k kid ro h => ?_
  obtain ⟨⟨⟨h0, h1⟩, h2, h3⟩, rfl⟩ := gd_some h
  refine ⟨fun _ => ⟨by simp [cleanA, cleanL, clean_ints], rfl⟩, ?_⟩
  obtain ⟨n, rfl⟩ : ∃ n : Nat, p = n := ⟨p.toNat, by omega⟩
  obtain ⟨g1, g2⟩ := addV_len (x := x) (p := n) (k := k) (kid := kid) (by omega) (by omega)
  have l1 : (x.keys.take n).length = n := by rw [List.length_take]; omega
  have l2 : (x.kids.take (n + 1)).length = n + 1 := by rw [List.length_take]; omega
  simp (config := {maxSteps := 1000000}) (disch := omega) only [go_sem, ↓reduceIte, Nat.reduceEqDiff, Nat.reduceAdd, Nat.reduceMul, Nat.reduceSub, Nat.reduceLeDiff, Nat.reduceLT, Int.reduceToNat, Int.reduceLE, Int.reduceLT, Int.reduceNeg, h_copyInts, mCopyInts, drP_n, drP_c, logAt_n, logAt_c, disP_n, disP_c, notIn_n, notIn_c, Int.toNat_natCast, toNat_k1, Nat.sub_zero, sub_zero, take_mapI', sub_rest, app_K2, l1, l2]
  have e1 : n + 1 + (x.keys.length - n) = (addV x n k kid).keys.length := by omega
  have e2 : n + 1 + 1 + (x.kids.length - (n + 1)) = (addV x n k kid).kids.length := by omega
  rw [e1, e2]
  rfl
theorem fo_addKid : FnOk Try.prog 136 := fnOk_of Try.func136 (by kernel_rfl)
theorem c_addKid : Contract Try.prog 136 mAddAt :=
  contract_of_does (DT := fun id => match id with | 3 => [(5, 7), (5, 8)] | _ => []) Try.checked.mixed tabOk (gok_model fo_copyInts c_copyInts gok_nil) Try.func136 rfl (by kernel_rfl) (does_addKid rfl)


noncomputable def addKV (x : Inn) (p k kid : Int) : Inn × Bool := if vInn x = true ∧ (0 ≤ p ∧ p < x.kids.length) ∧ vInn (addV x p.toNat k kid) = true then (addV x p.toNat k kid, true) else (⟨[], []⟩, false)
theorem addKV_f {x : Inn} {p k kid : Int} (h : ¬ (vInn x = true ∧ (0 ≤ p ∧ p < x.kids.length) ∧ vInn (addV x p.toNat k kid) = true)) : addKV x p k kid = (⟨[], []⟩, false) := if_neg h
theorem addKV_t {x : Inn} {p k kid : Int} (h : vInn x = true ∧ (0 ≤ p ∧ p < x.kids.length) ∧ vInn (addV x p.toNat k kid) = true) : addKV x p k kid = (addV x p.toNat k kid, true) := if_pos h
theorem addKV_len (x : Inn) (p k kid : Int) : (addKV x p k kid).1.keys.length ≤ x.keys.length + 1 ∧ (addKV x p k kid).1.kids.length ≤ x.kids.length + 1 := by
  unfold addKV
  split
  · rename_i h
    have := (vInn_iff.1 h.1).2.2.2.2.1
    have := addV_len (x := x) (p := p.toNat) (k := k) (kid := kid) (by omega) (by omega)
    dsimp only
    omega
  · simp
noncomputable def mAddKid : Model := M4 .ro .ro .ro .ro true (cInn false) cI cI cI fun x p k kid => gd (x.keys.length ≤ 4294967296 ∧ x.kids.length ≤ 4294967296) (.tup [eInn true (addKV x p k kid).1, .b (addKV x p k kid).2], [])

theorem does_AddKidS {G : Nat → Option FM} (h_validInner : G 110 = some (.model mValidInner)) (h_inRange : G 114 = some (.model mInRange)) (h_addKid : G 136 = some (.model mAddAt)) : Does T G (fun id => match id with  | _ => []) Try.f66 mAddKid := by
  refine does4 (rs := [.cell 8 38, .tmp 9]) rfl rfl fun x p k kid ro h => ?_
  obtain ⟨⟨h0, h1⟩, rfl⟩ := gd_some h
  refine ⟨fun _ => ⟨by simp [cleanA, cleanL, clean_ints], rfl⟩, ?_⟩
  cases hv : vInn x
  · rw [addKV_f (by rw [hv]; simp)]
    simp (config := {maxSteps := 1000000}) (disch := omega) only [go_sem, ↓reduceIte, Nat.reduceEqDiff, Nat.reduceAdd, Nat.reduceMul, Nat.reduceSub, Nat.reduceLeDiff, Nat.reduceLT, Int.reduceToNat, Int.reduceLE, Int.reduceLT, Int.reduceNeg, h_validInner, mValidInner, h_inRange, mInRange, h_addKid, mAddAt, drP_n, drP_c, logAt_n, logAt_c, disP_n, disP_c, notIn_n, notIn_c, hv]
    rfl
  · have hk := vInn_iff.1 hv
    by_cases h2 : 0 ≤ p ∧ p ≤ (x.kids.length : Int) - 1
    · have e2 : inR p 0 ((x.kids.length : Int) - 1) = true := inR_t h2
      obtain ⟨g1, g2⟩ := addV_len (x := x) (p := p.toNat) (k := k) (kid := kid) (by omega) (by omega)
      cases h3 : vInn (addV x p.toNat k kid)
      · rw [addKV_f (by rw [h3]; simp)]
        simp (config := {maxSteps := 1000000}) (disch := omega) only [go_sem, ↓reduceIte, Nat.reduceEqDiff, Nat.reduceAdd, Nat.reduceMul, Nat.reduceSub, Nat.reduceLeDiff, Nat.reduceLT, Int.reduceToNat, Int.reduceLE, Int.reduceLT, Int.reduceNeg, h_validInner, mValidInner, h_inRange, mInRange, h_addKid, mAddAt, drP_n, drP_c, logAt_n, logAt_c, disP_n, disP_c, notIn_n, notIn_c, hv, e2, h3]
        rfl
      · rw [addKV_t ⟨hv, by omega, h3⟩]
        simp (config := {maxSteps := 1000000}) (disch := omega) only [go_sem, ↓reduceIte, Nat.reduceEqDiff, Nat.reduceAdd, Nat.reduceMul, Nat.reduceSub, Nat.reduceLeDiff, Nat.reduceLT, Int.reduceToNat, Int.reduceLE, Int.reduceLT, Int.reduceNeg, h_validInner, mValidInner, h_inRange, mInRange, h_addKid, mAddAt, drP_n, drP_c, logAt_n, logAt_c, disP_n, disP_c, notIn_n, notIn_c, hv, e2, h3]
        try rfl
    · have e2 : inR p 0 ((x.kids.length : Int) - 1) = false := inR_f h2
      rw [addKV_f (fun h => h2 (by omega))]
      simp (config := {maxSteps := 1000000}) (disch := omega) only [go_sem, ↓reduceIte, Nat.reduceEqDiff, Nat.reduceAdd, Nat.reduceMul, Nat.reduceSub, Nat.reduceLeDiff, Nat.reduceLT, Int.reduceToNat, Int.reduceLE, Int.reduceLT, Int.reduceNeg, h_validInner, mValidInner, h_inRange, mInRange, h_addKid, mAddAt, drP_n, drP_c, logAt_n, logAt_c, disP_n, disP_c, notIn_n, notIn_c, hv, e2]
      rfl
theorem fo_AddKidS : FnOk Try.prog 66 := fnOk_of Try.func66 (by kernel_rfl)
theorem c_AddKidS : Contract Try.prog 66 mAddKid :=
  contract_of_does (DT := fun id => match id with  | _ => []) Try.checked.mixed tabOk (gok_model fo_validInner c_validInner (gok_model fo_inRange c_inRange (gok_model fo_addKid c_addKid gok_nil))) Try.func66 rfl (by kernel_rfl) (does_AddKidS rfl rfl rfl)


theorem does_AddKidI {G : Nat → Option FM} (h_ValidInnerI : G 112 = some (.model mValidInner)) (h_cloneI : G 125 = some (.model mCopyInts)) (h_insertI : G 124 = some (.model mInsertI)) : Does T G (fun id => match id with | 3 => [(5, 0), (5, 1), (2, 5), (5, 2), (2, 7), (5, 7), (6, 7), (2, 8), (5, 8), (6, 8), (13, 0), (13, 1), (2, 13), (13, 2), (5, 13), (13, 5), (6, 13), (13, 6), (13, 7), (13, 8), (9, 13), (13, 9), (16, 0), (16, 1), (2, 16), (16, 2), (5, 16), (16, 5), (6, 16), (16, 6), (16, 7), (16, 8), (9, 16), (16, 9), (13, 16), (16, 13), (14, 16), (16, 14)] | _ => []) Try.f67 mAddKid := by
  refine does4 (rs := [.cell 8 38, .tmp 9]) rfl rfl fun x p k kid ro h => ?_
  obtain ⟨⟨h0, h1⟩, rfl⟩ := gd_some h
  refine ⟨fun _ => ⟨by simp [cleanA, cleanL, clean_ints], rfl⟩, ?_⟩
  cases hv : vInn x
  · rw [addKV_f (by rw [hv]; simp)]
    simp (config := {maxSteps := 1000000}) (disch := omega) only [go_sem, ↓reduceIte, Nat.reduceEqDiff, Nat.reduceAdd, Nat.reduceMul, Nat.reduceSub, Nat.reduceLeDiff, Nat.reduceLT, Int.reduceToNat, Int.reduceLE, Int.reduceLT, Int.reduceNeg, h_ValidInnerI, mValidInner, h_cloneI, mCopyInts, h_insertI, mInsertI, drP_n, drP_c, logAt_n, logAt_c, disP_n, disP_c, notIn_n, notIn_c, hv]
    rfl
  · have hk := vInn_iff.1 hv
    by_cases h2 : p < 0
    · have e2 : decide (p < 0) = true := decide_eq_true h2
      rw [addKV_f (fun h => by omega)]
      simp (config := {maxSteps := 1000000}) (disch := omega) only [go_sem, ↓reduceIte, Nat.reduceEqDiff, Nat.reduceAdd, Nat.reduceMul, Nat.reduceSub, Nat.reduceLeDiff, Nat.reduceLT, Int.reduceToNat, Int.reduceLE, Int.reduceLT, Int.reduceNeg, h_ValidInnerI, mValidInner, h_cloneI, mCopyInts, h_insertI, mInsertI, drP_n, drP_c, logAt_n, logAt_c, disP_n, disP_c, notIn_n, notIn_c, hv, e2]
      rfl
    · have e2 : decide (p < 0) = false := decide_eq_false h2
      by_cases h4 : (x.kids.length : Int) ≤ p
      · have e4 : decide ((x.kids.length : Int) ≤ p) = true := decide_eq_true h4
        rw [addKV_f (fun h => by omega)]
        simp (config := {maxSteps := 1000000}) (disch := omega) only [go_sem, ↓reduceIte, Nat.reduceEqDiff, Nat.reduceAdd, Nat.reduceMul, Nat.reduceSub, Nat.reduceLeDiff, Nat.reduceLT, Int.reduceToNat, Int.reduceLE, Int.reduceLT, Int.reduceNeg, h_ValidInnerI, mValidInner, h_cloneI, mCopyInts, h_insertI, mInsertI, drP_n, drP_c, logAt_n, logAt_c, disP_n, disP_c, notIn_n, notIn_c, hv, e2, e4]
        rfl
      · have e4 : decide ((x.kids.length : Int) ≤ p) = false := decide_eq_false h4
        obtain ⟨n, rfl⟩ : ∃ n : Nat, p = n := ⟨p.toNat, by omega⟩
        obtain ⟨g1, g2⟩ := addV_len (x := x) (p := n) (k := k) (kid := kid) (by omega) (by omega)
        have i1 : (x.keys.take n ++ k :: x.keys.drop n) = (addV x n k kid).keys := rfl
        have i2 : (x.kids.take (n + 1) ++ kid :: x.kids.drop (n + 1)) = (addV x n k kid).kids := rfl
        cases h3 : vInn (addV x n k kid)
        · rw [addKV_f (by rw [Int.toNat_natCast, h3]; simp)]
          simp (config := {maxSteps := 1000000}) (disch := omega) only [go_sem, ↓reduceIte, Nat.reduceEqDiff, Nat.reduceAdd, Nat.reduceMul, Nat.reduceSub, Nat.reduceLeDiff, Nat.reduceLT, Int.reduceToNat, Int.reduceLE, Int.reduceLT, Int.reduceNeg, h_ValidInnerI, mValidInner, h_cloneI, mCopyInts, h_insertI, mInsertI, drP_n, drP_c, logAt_n, logAt_c, disP_n, disP_c, notIn_n, notIn_c, hv, e2, e4, Int.toNat_natCast, toNat_k1, insN_one, i1, i2, h3]
          try rfl
        · rw [addKV_t ⟨hv, by omega, by rw [Int.toNat_natCast]; exact h3⟩]
          simp (config := {maxSteps := 1000000}) (disch := omega) only [go_sem, ↓reduceIte, Nat.reduceEqDiff, Nat.reduceAdd, Nat.reduceMul, Nat.reduceSub, Nat.reduceLeDiff, Nat.reduceLT, Int.reduceToNat, Int.reduceLE, Int.reduceLT, Int.reduceNeg, h_ValidInnerI, mValidInner, h_cloneI, mCopyInts, h_insertI, mInsertI, drP_n, drP_c, logAt_n, logAt_c, disP_n, disP_c, notIn_n, notIn_c, hv, e2, e4, Int.toNat_natCast, toNat_k1, insN_one, i1, i2, h3]
          try rfl
theorem fo_AddKidI : FnOk Try.prog 67 := fnOk_of Try.func67 (by kernel_rfl)
theorem c_AddKidI : Contract Try.prog 67 mAddKid :=
  contract_of_does (DT := fun id => match id with | 3 => [(5, 0), (5, 1), (2, 5), (5, 2), (2, 7), (5, 7), (6, 7), (2, 8), (5, 8), (6, 8), (13, 0), (13, 1), (2, 13), (13, 2), (5, 13), (13, 5), (6, 13), (13, 6), (13, 7), (13, 8), (9, 13), (13, 9), (16, 0), (16, 1), (2, 16), (16, 2), (5, 16), (16, 5), (6, 16), (16, 6), (16, 7), (16, 8), (9, 16), (16, 9), (13, 16), (16, 13), (14, 16), (16, 14)] | _ => []) Try.checked.mixed tabOk (gok_model fo_ValidInnerI c_ValidInnerI (gok_model fo_cloneI c_cloneI (gok_model fo_insertI c_insertI gok_nil))) Try.func67 rfl (by kernel_rfl) (does_AddKidI rfl rfl rfl)


def mLawInn4 : Model := M4 .ro .ro .ro .ro true (cInn false) cI cI cI fun x p k kid => gd (x.keys.length ≤ 9223372036854775807 ∧ x.kids.length ≤ 9223372036854775807) (.b true, [])
theorem does_FnExactAddKid {G : Nat → Option FM} (h_szInner : G 36 = some (.model mSzInner)) (h_toInner : G 38 = some (.model mToInner)) (h_AddKidS : G 66 = some (.model mAddKid)) (h_AddKidI : G 67 = some (.model mAddKid)) (h_eqInner : G 40 = some (.model mEqInner)) (h_markInner : G 41 = some (.each 2 [0, 1] mMarkIntS)) (h_heldInner : G 42 = some (.model mHeldInner)) : Does T G (fun id => match id with | 10 => [(2, 0)] | _ => []) Try.f12 mLawInn4 := by
  refine does4 (rs := [.tmp 8]) rfl rfl fun x p k kid ro h => ?_
  obtain ⟨hs, rfl⟩ := gd_some h
  refine ⟨fun _ => ⟨rfl, rfl⟩, ?_⟩
  obtain ⟨la, lb⟩ := addKV_len x p k kid
  generalize ha : (addKV x p k kid).1 = a at la lb
  generalize hb : (addKV x p k kid).2 = b
  simp (config := {maxSteps := 1000000}) (disch := omega) only [go_sem, ↓reduceIte, Nat.reduceEqDiff, Nat.reduceAdd, Nat.reduceMul, Nat.reduceSub, Nat.reduceLeDiff, Nat.reduceLT, Int.reduceToNat, Int.reduceLE, Int.reduceLT, Int.reduceNeg, h_szInner, mSzInner, h_toInner, mToInner, h_AddKidS, mAddKid, h_AddKidI, mAddKid, h_eqInner, mEqInner, h_markInner, mMarkIntS, h_heldInner, mHeldInner, drP_n, drP_c, logAt_n, logAt_c, disP_n, disP_c, notIn_n, notIn_c]
  by_cases h1 : 1048576 < (x.keys.length : Int)
  · simp (config := {maxSteps := 1000000}) (disch := omega) only [go_sem, ↓reduceIte, Nat.reduceEqDiff, Nat.reduceAdd, Nat.reduceMul, Nat.reduceSub, Nat.reduceLeDiff, Nat.reduceLT, Int.reduceToNat, Int.reduceLE, Int.reduceLT, Int.reduceNeg, h_szInner, mSzInner, h_toInner, mToInner, h_AddKidS, mAddKid, h_AddKidI, mAddKid, h_eqInner, mEqInner, h_markInner, mMarkIntS, h_heldInner, mHeldInner, drP_n, drP_c, logAt_n, logAt_c, disP_n, disP_c, notIn_n, notIn_c, h1, szI]
  · by_cases h2 : 1048576 - (x.keys.length : Int) < (x.kids.length : Int)
    · simp (config := {maxSteps := 1000000}) (disch := omega) only [go_sem, ↓reduceIte, Nat.reduceEqDiff, Nat.reduceAdd, Nat.reduceMul, Nat.reduceSub, Nat.reduceLeDiff, Nat.reduceLT, Int.reduceToNat, Int.reduceLE, Int.reduceLT, Int.reduceNeg, h_szInner, mSzInner, h_toInner, mToInner, h_AddKidS, mAddKid, h_AddKidI, mAddKid, h_eqInner, mEqInner, h_markInner, mMarkIntS, h_heldInner, mHeldInner, drP_n, drP_c, logAt_n, logAt_c, disP_n, disP_c, notIn_n, notIn_c, h1, h2, szI]
    · have e : ¬ (1048576 - (x.keys.length : Int) - (x.kids.length : Int)) < 0 := by omega
      have e1 : decide (1 + (x.keys.length : Int) + (x.kids.length : Int) < 0) = false := decide_eq_false (by omega)
      have e2 : decide (1 + (a.keys.length : Int) + (a.kids.length : Int) < 0) = false := decide_eq_false (by omega)
      have m0 := marks_len a.keys.length 1
      have m1 := marks_len a.kids.length (1 + a.keys.length)
      simp (config := {maxSteps := 1000000}) (disch := omega) only [go_sem, ↓reduceIte, Nat.reduceEqDiff, Nat.reduceAdd, Nat.reduceMul, Nat.reduceSub, Nat.reduceLeDiff, Nat.reduceLT, Int.reduceToNat, Int.reduceLE, Int.reduceLT, Int.reduceNeg, h_szInner, mSzInner, h_toInner, mToInner, h_AddKidS, mAddKid, h_AddKidI, mAddKid, h_eqInner, mEqInner, h_markInner, mMarkIntS, h_heldInner, mHeldInner, drP_n, drP_c, logAt_n, logAt_c, disP_n, disP_c, notIn_n, notIn_c, h1, h2, szI, e, ha, hb, e1, e2, marks_len, List.length_map, sub_marks, mkI]
theorem fo_FnExactAddKid : FnOk Try.prog 12 := fnOk_of Try.func12 (by kernel_rfl)
theorem c_FnExactAddKid : Contract Try.prog 12 mLawInn4 :=
  contract_of_does (DT := fun id => match id with | 10 => [(2, 0)] | _ => []) Try.checked.mixed tabOk (gok_model fo_szInner c_szInner (gok_model fo_toInner c_toInner (gok_model fo_AddKidS c_AddKidS (gok_model fo_AddKidI c_AddKidI (gok_model fo_eqInner c_eqInner (gok_each fo_markInner c_markInner (gok_model fo_heldInner c_heldInner gok_nil))))))) Try.func12 rfl (by kernel_rfl) (does_FnExactAddKid rfl rfl rfl rfl rfl rfl rfl)

theorem fn_FnExactAddKid (x : Inn) (h : ((∀ y ∈ x.keys, intWf .i64 y) ∧ x.keys.length ≤ maxLen) ∧ (∀ y ∈ x.kids, intWf .i64 y) ∧ x.kids.length ≤ maxLen) (p : Int) (hp : intWf .i64 p) (k : Int) (hk : intWf .i64 k) (kid : Int) (hkid : intWf .i64 kid) : mLawInn4.fn [eInn false x, eI p, eI k, eI kid] = some (.b true, []) := by
  have h2 : x.keys.length ≤ 9223372036854775807 := h.1.2
  have h3 : x.kids.length ≤ 9223372036854775807 := h.2.2
  simp (config := {maxSteps := 1000000}) (disch := omega) only [go_sem, ↓reduceIte, Nat.reduceEqDiff, Nat.reduceAdd, Nat.reduceMul, Nat.reduceSub, Nat.reduceLeDiff, Nat.reduceLT, Int.reduceToNat, Int.reduceLE, Int.reduceLT, Int.reduceNeg, mLawInn4]
end Go.TM
