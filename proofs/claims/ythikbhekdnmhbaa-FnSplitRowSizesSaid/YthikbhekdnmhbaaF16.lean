/- Contracts, 16: laws about rows. -/
import Derived.Test.YthikbhekdnmhbaaF15
namespace Go.TM
open Go.Proofs
set_option linter.unusedVariables false
set_option linter.unusedSimpArgs false
set_option maxRecDepth 100000

theorem does_keysOfL {G : Nat → Option FM}  : Does T G (fun _ => []) Try.f60 mKeysOf := by
  refine does1 (rs := [.tmp 2]) rfl rfl fun xs ro h => ?_
  obtain ⟨hs, rfl⟩ := gd_some h
  refine ⟨fun _ => ⟨by simp [cleanA, clean_ints], rfl⟩, ?_⟩
  simp (config := {maxSteps := 1000000}) (disch := omega) only [go_sem, ↓reduceIte, Nat.reduceEqDiff, Nat.reduceAdd, Nat.reduceMul, Nat.reduceSub, Nat.reduceLeDiff, Nat.reduceLT, Int.reduceToNat, Int.reduceLE, Int.reduceLT, Int.reduceNeg]
  refine W_loop_i (fun s => s.sl 0 = eRow false xs ∧ ∃ k : Nat, k ≤ xs.length ∧ s.sl 4 = eI k ∧ ∃ m, m < s.n ∧ s.sl 3 = .ref (m, 0) [] 0 0 1 k ∧ s.hp (m, 0) = some ⟨1, k, (keysP (xs.take k)).map eI, fun _ => 0⟩) (fun s => xs.length - iN (s.sl 4)) ?_ ?_
  · refine ⟨rfl, 0, Nat.zero_le _, rfl, 4, ?_, rfl, ?_⟩
    · simp (config := {maxSteps := 1000000}) (disch := omega) only [go_sem, ↓reduceIte, Nat.reduceEqDiff, Nat.reduceAdd, Nat.reduceMul, Nat.reduceSub, Nat.reduceLeDiff, Nat.reduceLT, Int.reduceToNat, Int.reduceLE, Int.reduceLT, Int.reduceNeg]
    · simp (config := {maxSteps := 1000000}) (disch := omega) only [go_sem, ↓reduceIte, Nat.reduceEqDiff, Nat.reduceAdd, Nat.reduceMul, Nat.reduceSub, Nat.reduceLeDiff, Nat.reduceLT, Int.reduceToNat, Int.reduceLE, Int.reduceLT, Int.reduceNeg]
      rfl
  · rintro sl hp n ⟨h0, k, hk, h4, m, hm, h3, hh⟩
    dsimp only at h0 h4 h3 hh hm
    simp (config := {maxSteps := 1000000}) (disch := omega) only [go_sem, ↓reduceIte, Nat.reduceEqDiff, Nat.reduceAdd, Nat.reduceMul, Nat.reduceSub, Nat.reduceLeDiff, Nat.reduceLT, Int.reduceToNat, Int.reduceLE, Int.reduceLT, Int.reduceNeg, h0, h3, h4]
    (first | refine runKS_split (fun h => ?_) (fun h => ?_) | refine cond_split (fun h => ?_) (fun h => ?_) | refine runK_split (fun h => ?_) (fun h => ?_))
    · have hlt := of_decide_eq_true h
      simp (config := {maxSteps := 1000000}) (disch := omega) only [go_sem, ↓reduceIte, Nat.reduceEqDiff, Nat.reduceAdd, Nat.reduceMul, Nat.reduceSub, Nat.reduceLeDiff, Nat.reduceLT, Int.reduceToNat, Int.reduceLE, Int.reduceLT, Int.reduceNeg, h0, h3, h4, h, hh]
      refine ⟨⟨k + 1, by omega, rfl, _, ?_, rfl, (upd_same ..).trans ?_⟩, by omega⟩
      · omega
      · rw [keysP_step (by omega), app_I (by simp [keysP]; omega)]
    · have hge := of_decide_eq_false h
      simp (config := {maxSteps := 1000000}) (disch := omega) only [go_sem, ↓reduceIte, Nat.reduceEqDiff, Nat.reduceAdd, Nat.reduceMul, Nat.reduceSub, Nat.reduceLeDiff, Nat.reduceLT, Int.reduceToNat, Int.reduceLE, Int.reduceLT, Int.reduceNeg, h0, h3, h4, h, hh]
      obtain rfl : k = xs.length := by omega
      simp [keysP_len]
theorem fo_keysOfL : FnOk Try.prog 60 := fnOk_of Try.func60 (by kernel_rfl)
theorem c_keysOfL : Contract Try.prog 60 mKeysOf :=
  contract_of_does (DT := fun _ => []) Try.checked.mixed tabOk gok_nil Try.func60 rfl (by kernel_rfl) (does_keysOfL )


def mJoin : Model := M2 .ro .ro true (cRow false) (cRow false) fun xs ys => gd (xs.length ≤ 549755813888 ∧ ys.length ≤ 549755813888) (eRow true (xs ++ ys), [])
theorem does_joinL {G : Nat → Option FM}  : Does T G (fun _ => []) Try.f59 mJoin := by
  refine does2 (rs := [.tmp 4]) rfl rfl fun xs ys ro h => ?_
  obtain ⟨⟨hs1, hs2⟩, rfl⟩ := gd_some h
  refine ⟨fun _ => ⟨by simp only [cleanA, clean_row], rfl⟩, ?_⟩
  simp (config := {maxSteps := 1000000}) (disch := omega) only [go_sem, ↓reduceIte, Nat.reduceEqDiff, Nat.reduceAdd, Nat.reduceMul, Nat.reduceSub, Nat.reduceLeDiff, Nat.reduceLT, Int.reduceToNat, Int.reduceLE, Int.reduceLT, Int.reduceNeg, app_PP]
  exact row_eq (by simp)
theorem fo_joinL : FnOk Try.prog 59 := fnOk_of Try.func59 (by kernel_rfl)
theorem c_joinL : Contract Try.prog 59 mJoin :=
  contract_of_does (DT := fun _ => []) Try.checked.mixed tabOk gok_nil Try.func59 rfl (by kernel_rfl) (does_joinL )


theorem vRow_iff {xs : List Pr} : vRow xs = true ↔ (∀ p ∈ xs, -1000 ≤ p.2 ∧ p.2 ≤ 1000) ∧ xs.length ≤ 24 ∧ vk (keysP xs) = true := by
  simp only [vRow, Bool.and_eq_true, List.all_eq_true, inR, decide_eq_true_eq]

theorem vRow_cut {xs : List Pr} (h : vRow xs = true) {k : Nat} (hk : k < xs.length) : vRow (xs.take k ++ xs.drop (k + 1)) = true := by
  rw [vRow_iff] at h ⊢
  obtain ⟨h1, h2, h3⟩ := h
  refine ⟨fun p hp => ?_, by rw [List.length_append, List.length_take, List.length_drop]; omega, ?_⟩
  · rcases List.mem_append.1 hp with hp | hp
    · exact h1 p (List.mem_of_mem_take hp)
    · exact h1 p (List.mem_of_mem_drop hp)
  · have e : keysP (xs.take k ++ xs.drop (k + 1)) = (keysP xs).take k ++ (keysP xs).drop (k + 1) := by
      simp [keysP, List.map_append, List.map_take, List.map_drop]
    rw [e]
    exact vk_cut h3 (by simp [keysP]; exact hk)

theorem vRow_zero {xs : List Pr} (h : vRow xs = true) : vRow (xs.map fun p => (p.1, 0)) = true := by
  rw [vRow_iff] at h ⊢
  obtain ⟨h1, h2, h3⟩ := h
  refine ⟨fun p hp => ?_, by simpa using h2, ?_⟩
  · obtain ⟨q, _, rfl⟩ := List.mem_map.1 hp
    simp
  · have e : keysP (xs.map fun p => (p.1, (0 : Int))) = keysP xs := by simp [keysP]
    rw [e]
    exact h3

theorem does_FnValidRow {G : Nat → Option FM} (h_DrawValidRow : G 56 = some (.model mDrawRow)) (h_ValidRowI : G 47 = some (.model mValidRow)) (h_ValidRowS : G 45 = some (.model mValidRow)) (h_joinL : G 59 = some (.model mJoin)) (h_keysOfL : G 60 = some (.model mKeysOf)) (h_ValidKeysI : G 29 = some (.model mValidKeys)) : Does T G (fun id => match id with | 8 => [] | _ => []) Try.f20 mLawB := by
  refine does1 (rs := [.tmp 2]) rfl rfl fun bs ro h => ?_
  obtain ⟨⟨h8, hl⟩, rfl⟩ := gd_some h
  have hB := bs_take h8
  have b2 := drawR_len bs
  have hkl : (keysP (drawR bs)).length = (drawR bs).length := by simp [keysP]
  refine ⟨fun _ => ⟨rfl, rfl⟩, ?_⟩
  simp (config := {maxSteps := 1000000}) (disch := omega) only [go_sem, ↓reduceIte, Nat.reduceEqDiff, Nat.reduceAdd, Nat.reduceMul, Nat.reduceSub, Nat.reduceLeDiff, Nat.reduceLT, Int.reduceToNat, Int.reduceLE, Int.reduceLT, Int.reduceNeg, h_DrawValidRow, mDrawRow, h_ValidRowI, mValidRow, h_ValidRowS, mValidRow, h_joinL, mJoin, h_keysOfL, mKeysOf, h_ValidKeysI, mValidKeys]
  (first | refine runKS_split (fun g => ?_) (fun g => ?_) | refine cond_split (fun g => ?_) (fun g => ?_) | refine runK_split (fun g => ?_) (fun g => ?_))
  · simp (config := {maxSteps := 1000000}) (disch := omega) only [go_sem, ↓reduceIte, Nat.reduceEqDiff, Nat.reduceAdd, Nat.reduceMul, Nat.reduceSub, Nat.reduceLeDiff, Nat.reduceLT, Int.reduceToNat, Int.reduceLE, Int.reduceLT, Int.reduceNeg, h_DrawValidRow, mDrawRow, h_ValidRowI, mValidRow, h_ValidRowS, mValidRow, h_joinL, mJoin, h_keysOfL, mKeysOf, h_ValidKeysI, mValidKeys]
  · have g' := of_decide_eq_false g
    cases hv : vRow (drawR bs)
    · simp (config := {maxSteps := 1000000}) (disch := omega) only [go_sem, ↓reduceIte, Nat.reduceEqDiff, Nat.reduceAdd, Nat.reduceMul, Nat.reduceSub, Nat.reduceLeDiff, Nat.reduceLT, Int.reduceToNat, Int.reduceLE, Int.reduceLT, Int.reduceNeg, h_DrawValidRow, mDrawRow, h_ValidRowI, mValidRow, h_ValidRowS, mValidRow, h_joinL, mJoin, h_keysOfL, mKeysOf, h_ValidKeysI, mValidKeys, g, hB, hv]
      rfl
    · by_cases he : (drawR bs).length = 0
      · have e0 : decide (((drawR bs).length : Int) = 0) = true := decide_eq_true (by omega)
        simp (config := {maxSteps := 1000000}) (disch := omega) only [go_sem, ↓reduceIte, Nat.reduceEqDiff, Nat.reduceAdd, Nat.reduceMul, Nat.reduceSub, Nat.reduceLeDiff, Nat.reduceLT, Int.reduceToNat, Int.reduceLE, Int.reduceLT, Int.reduceNeg, h_DrawValidRow, mDrawRow, h_ValidRowI, mValidRow, h_ValidRowS, mValidRow, h_joinL, mJoin, h_keysOfL, mKeysOf, h_ValidKeysI, mValidKeys, g, hB, hv, e0]
        rfl
      · have e0 : decide (((drawR bs).length : Int) = 0) = false := decide_eq_false (by omega)
        obtain ⟨k, hk⟩ : ∃ k, k = bs.length % (drawR bs).length := ⟨_, rfl⟩
        have hk1 : k < (drawR bs).length := by rw [hk]; exact Nat.mod_lt _ (by omega)
        have e1 : (bs.length : Int).tmod ((drawR bs).length : Int) = (k : Int) := by rw [hk]; rfl
        have hc := vRow_cut hv hk1
        have hvk := (vRow_iff.1 hv).2.2
        have hL : ((drawR bs).take k ++ (drawR bs).drop (k + 1)).length = k + ((drawR bs).length - (k + 1)) := by rw [List.length_append, List.length_take, List.length_drop]; omega
        have hl1 : ((drawR bs).take k).length = k := by rw [List.length_take]; omega
        have hl2 : ((drawR bs).drop (k + 1)).length = (drawR bs).length - (k + 1) := by rw [List.length_drop]
        simp (config := {maxSteps := 1000000}) (disch := omega) only [go_sem, ↓reduceIte, Nat.reduceEqDiff, Nat.reduceAdd, Nat.reduceMul, Nat.reduceSub, Nat.reduceLeDiff, Nat.reduceLT, Int.reduceToNat, Int.reduceLE, Int.reduceLT, Int.reduceNeg, h_DrawValidRow, mDrawRow, h_ValidRowI, mValidRow, h_ValidRowS, mValidRow, h_joinL, mJoin, h_keysOfL, mKeysOf, h_ValidKeysI, mValidKeys, g, hB, hv, e0, e1, Nat.sub_zero, toNat_k1, sub_zero, sub_restP, hc, hvk, List.take_length]
theorem fo_FnValidRow : FnOk Try.prog 20 := fnOk_of Try.func20 (by kernel_rfl)
theorem c_FnValidRow : Contract Try.prog 20 mLawB :=
  contract_of_does (DT := fun id => match id with | 8 => [] | _ => []) Try.checked.mixed tabOk (gok_model fo_DrawValidRow c_DrawValidRow (gok_model fo_ValidRowI c_ValidRowI (gok_model fo_ValidRowS c_ValidRowS (gok_model fo_joinL c_joinL (gok_model fo_keysOfL c_keysOfL (gok_model fo_ValidKeysI c_ValidKeysI gok_nil)))))) Try.func20 rfl (by kernel_rfl) (does_FnValidRow rfl rfl rfl rfl rfl rfl)

theorem fn_FnValidRow (x : List Int) (h : (∀ y ∈ x, intWf .u8 y) ∧ x.length ≤ maxLen) : mLawB.fn [eBs false x] = some (.b true, []) := by
  have h1 : Bytes x := h.1
  have h2 : x.length ≤ 9223372036854775807 := h.2
  simp (config := {maxSteps := 1000000}) (disch := omega) only [go_sem, ↓reduceIte, Nat.reduceEqDiff, Nat.reduceAdd, Nat.reduceMul, Nat.reduceSub, Nat.reduceLeDiff, Nat.reduceLT, Int.reduceToNat, Int.reduceLE, Int.reduceLT, Int.reduceNeg, mLawB, h1]

theorem does_FnValidRowValues {G : Nat → Option FM} (h_DrawValidRow : G 56 = some (.model mDrawRow)) (h_ValidRowI : G 47 = some (.model mValidRow)) (h_ValidRowS : G 45 = some (.model mValidRow)) : Does T G (fun _ => []) Try.f17 mLawB := by
  refine does1 (rs := [.tmp 2]) rfl rfl fun bs ro h => ?_
  obtain ⟨⟨h8, hl⟩, rfl⟩ := gd_some h
  have hB := bs_take h8
  have b2 := drawR_len bs
  have hkl : (keysP (drawR bs)).length = (drawR bs).length := by simp [keysP]
  refine ⟨fun _ => ⟨rfl, rfl⟩, ?_⟩
  simp (config := {maxSteps := 1000000}) (disch := omega) only [go_sem, ↓reduceIte, Nat.reduceEqDiff, Nat.reduceAdd, Nat.reduceMul, Nat.reduceSub, Nat.reduceLeDiff, Nat.reduceLT, Int.reduceToNat, Int.reduceLE, Int.reduceLT, Int.reduceNeg, h_DrawValidRow, mDrawRow, h_ValidRowI, mValidRow, h_ValidRowS, mValidRow]
  (first | refine runKS_split (fun g => ?_) (fun g => ?_) | refine cond_split (fun g => ?_) (fun g => ?_) | refine runK_split (fun g => ?_) (fun g => ?_))
  · simp (config := {maxSteps := 1000000}) (disch := omega) only [go_sem, ↓reduceIte, Nat.reduceEqDiff, Nat.reduceAdd, Nat.reduceMul, Nat.reduceSub, Nat.reduceLeDiff, Nat.reduceLT, Int.reduceToNat, Int.reduceLE, Int.reduceLT, Int.reduceNeg, h_DrawValidRow, mDrawRow, h_ValidRowI, mValidRow, h_ValidRowS, mValidRow]
  · have g' := of_decide_eq_false g
    cases hv : vRow (drawR bs)
    · simp (config := {maxSteps := 1000000}) (disch := omega) only [go_sem, ↓reduceIte, Nat.reduceEqDiff, Nat.reduceAdd, Nat.reduceMul, Nat.reduceSub, Nat.reduceLeDiff, Nat.reduceLT, Int.reduceToNat, Int.reduceLE, Int.reduceLT, Int.reduceNeg, h_DrawValidRow, mDrawRow, h_ValidRowI, mValidRow, h_ValidRowS, mValidRow, g, hB, hv]
      rfl
    · have hz := vRow_zero hv
      have hq := vRow_iff.1 hv
      have e3 : decide (((drawR bs).length : Int) ≤ 24) = true := decide_eq_true (by omega)
      simp (config := {maxSteps := 1000000}) (disch := omega) only [go_sem, ↓reduceIte, Nat.reduceEqDiff, Nat.reduceAdd, Nat.reduceMul, Nat.reduceSub, Nat.reduceLeDiff, Nat.reduceLT, Int.reduceToNat, Int.reduceLE, Int.reduceLT, Int.reduceNeg, h_DrawValidRow, mDrawRow, h_ValidRowI, mValidRow, h_ValidRowS, mValidRow, g, hB, hv]
      refine W_loop_i (fun s => s.sl 3 = eRow false (drawR bs) ∧ ∃ k : Nat, k ≤ (drawR bs).length ∧ s.sl 6 = eI k ∧ ∃ m, m < s.n ∧ s.sl 5 = .ref (m, 0) [] 0 0 2 k ∧ s.hp (m, 0) = some ⟨2, k, (((drawR bs).take k).map fun p => (p.1, (0 : Int))).flatMap ePr, fun _ => 0⟩) (fun s => (drawR bs).length - iN (s.sl 6)) ?_ ?_
      · refine ⟨rfl, 0, Nat.zero_le _, rfl, _, ?_, rfl, ?_⟩
        · simp (config := {maxSteps := 1000000}) (disch := omega) only [go_sem, ↓reduceIte, Nat.reduceEqDiff, Nat.reduceAdd, Nat.reduceMul, Nat.reduceSub, Nat.reduceLeDiff, Nat.reduceLT, Int.reduceToNat, Int.reduceLE, Int.reduceLT, Int.reduceNeg, h_DrawValidRow, mDrawRow, h_ValidRowI, mValidRow, h_ValidRowS, mValidRow]
        · simp (config := {maxSteps := 1000000}) (disch := omega) only [go_sem, ↓reduceIte, Nat.reduceEqDiff, Nat.reduceAdd, Nat.reduceMul, Nat.reduceSub, Nat.reduceLeDiff, Nat.reduceLT, Int.reduceToNat, Int.reduceLE, Int.reduceLT, Int.reduceNeg, h_DrawValidRow, mDrawRow, h_ValidRowI, mValidRow, h_ValidRowS, mValidRow]
          rfl
      · rintro sl hp n ⟨h3, k, hk, h6, m, hm, h5, hh⟩
        dsimp only at h3 h6 h5 hh hm
        simp (config := {maxSteps := 1000000}) (disch := omega) only [go_sem, ↓reduceIte, Nat.reduceEqDiff, Nat.reduceAdd, Nat.reduceMul, Nat.reduceSub, Nat.reduceLeDiff, Nat.reduceLT, Int.reduceToNat, Int.reduceLE, Int.reduceLT, Int.reduceNeg, h_DrawValidRow, mDrawRow, h_ValidRowI, mValidRow, h_ValidRowS, mValidRow, h3, h5, h6]
        (first | refine runKS_split (fun g1 => ?_) (fun g1 => ?_) | refine cond_split (fun g1 => ?_) (fun g1 => ?_) | refine runK_split (fun g1 => ?_) (fun g1 => ?_))
        · have g1' := of_decide_eq_true g1
          have hlm : (((drawR bs).take k).map fun p => (p.1, (0 : Int))).length = k := by rw [List.length_map, List.length_take]; omega
          simp (config := {maxSteps := 1000000}) (disch := omega) only [go_sem, ↓reduceIte, Nat.reduceEqDiff, Nat.reduceAdd, Nat.reduceMul, Nat.reduceSub, Nat.reduceLeDiff, Nat.reduceLT, Int.reduceToNat, Int.reduceLE, Int.reduceLT, Int.reduceNeg, h_DrawValidRow, mDrawRow, h_ValidRowI, mValidRow, h_ValidRowS, mValidRow, h3, h5, h6, g1, hh, app_P]
          refine ⟨⟨k + 1, by omega, rfl, _, ?_, rfl, (upd_same ..).trans ?_⟩, by omega⟩
          · omega
          · have e : (drawR bs).take (k + 1) = (drawR bs).take k ++ [(drawR bs).getD k default] := by
              rw [List.take_add_one]
              simp [show k < (drawR bs).length by omega]
            rw [e]
            simp
        · have g1' := of_decide_eq_false g1
          obtain rfl : k = (drawR bs).length := by omega
          rw [List.take_length] at hh
          have hl2 : ((drawR bs).map fun p => (p.1, (0 : Int))).length = (drawR bs).length := List.length_map ..
          have hT : ((drawR bs).map fun p => (p.1, (0 : Int))).take (drawR bs).length = (drawR bs).map fun p => (p.1, (0 : Int)) := List.take_of_length_le (by omega)
          simp (config := {maxSteps := 1000000}) (disch := omega) only [go_sem, ↓reduceIte, Nat.reduceEqDiff, Nat.reduceAdd, Nat.reduceMul, Nat.reduceSub, Nat.reduceLeDiff, Nat.reduceLT, Int.reduceToNat, Int.reduceLE, Int.reduceLT, Int.reduceNeg, h_DrawValidRow, mDrawRow, h_ValidRowI, mValidRow, h_ValidRowS, mValidRow, h3, h5, h6, g1, hh, sub_zero, hT, hz, e3]
theorem fo_FnValidRowValues : FnOk Try.prog 17 := fnOk_of Try.func17 (by kernel_rfl)
theorem c_FnValidRowValues : Contract Try.prog 17 mLawB :=
  contract_of_does (DT := fun _ => []) Try.checked.mixed tabOk (gok_model fo_DrawValidRow c_DrawValidRow (gok_model fo_ValidRowI c_ValidRowI (gok_model fo_ValidRowS c_ValidRowS gok_nil))) Try.func17 rfl (by kernel_rfl) (does_FnValidRowValues rfl rfl rfl)

theorem fn_FnValidRowValues (x : List Int) (h : (∀ y ∈ x, intWf .u8 y) ∧ x.length ≤ maxLen) : mLawB.fn [eBs false x] = some (.b true, []) := by
  have h1 : Bytes x := h.1
  have h2 : x.length ≤ 9223372036854775807 := h.2
  simp (config := {maxSteps := 1000000}) (disch := omega) only [go_sem, ↓reduceIte, Nat.reduceEqDiff, Nat.reduceAdd, Nat.reduceMul, Nat.reduceSub, Nat.reduceLeDiff, Nat.reduceLT, Int.reduceToNat, Int.reduceLE, Int.reduceLT, Int.reduceNeg, mLawB, h1]

end Go.TM
