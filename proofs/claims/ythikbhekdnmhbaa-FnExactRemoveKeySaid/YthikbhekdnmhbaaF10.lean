/- Contracts, 10: laws about the keys below a number. -/
import Derived.Test.YthikbhekdnmhbaaF9
namespace Go.TM
open Go.Proofs
set_option linter.unusedVariables false
set_option linter.unusedSimpArgs false
set_option maxRecDepth 100000

/-- A list of bytes. -/
def Bytes (bs : List Int) : Prop := ∀ y ∈ bs, intWf .u8 y
noncomputable instance (bs : List Int) : Decidable (Bytes bs) := Classical.propDecidable _
theorem bs_take {bs : List Int} (h : Bytes bs) : Bs (bs.take 2000) := by
  refine ⟨by rw [List.length_take]; omega, fun i => ?_⟩
  by_cases hi : i < (bs.take 2000).length
  · have hm : (bs.take 2000).getD i 0 ∈ bs := List.mem_of_mem_take (getD_mem hi)
    have := h _ hm
    simp only [intWf, Lit.wf, Bool.and_eq_true, decide_eq_true_eq] at this
    exact ⟨this.1, this.2⟩
  · rw [List.getD_eq_getElem?_getD, List.getElem?_eq_none (by omega)]
    simp

noncomputable def mLawB : Model := M1 .ro true (cS false c8) fun bs => gd (Bytes bs ∧ bs.length ≤ 9223372036854775807) (.b true, [])

theorem cntB_ok {xs : List Int} {k : Int} (h : VK xs) : cntB xs k ≤ xs.length ∧ (∀ i, i < cntB xs k → xs.getD i 0 < k) ∧ ∀ i, cntB xs k ≤ i → i < xs.length → k ≤ xs.getD i 0 := by
  have hle : cntB xs k ≤ xs.length := (List.takeWhile_prefix _).length_le
  refine ⟨hle, fun i hi => ?_, fun i hi hl => ?_⟩
  · have : ∀ (ys : List Int) (i : Nat), i < (ys.takeWhile fun x => decide (x < k)).length → ys.getD i 0 < k := by
      intro ys
      induction ys with
      | nil => intro i hi; simp at hi
      | cons y ys ih =>
        intro i hi
        rw [List.takeWhile_cons] at hi
        split at hi
        · rename_i hy
          cases i with
          | zero => simpa using hy
          | succ i => simpa using ih i (by simpa using hi)
        · simp at hi
    exact this xs i hi
  · have hc : ∀ (ys : List Int) (hl : (ys.takeWhile fun x => decide (x < k)).length < ys.length), k ≤ ys.getD (ys.takeWhile fun x => decide (x < k)).length 0 := by
      intro ys
      induction ys with
      | nil => intro hl; simp at hl
      | cons y ys ih =>
        intro hl
        rw [List.takeWhile_cons] at hl ⊢
        split at hl
        · rename_i hy
          rw [if_pos hy]
          simpa using ih (by simpa using hl)
        · rename_i hy
          rw [if_neg hy]
          simp at hy
          simpa using hy
    have h1 := hc xs (by simp only [cntB] at hi; omega)
    have h2 := vk_mono' h hi hl
    exact Int.le_trans h1 h2

theorem cntB_uniq {xs : List Int} {k : Int} {c : Nat} (hc : c ≤ xs.length) (h1 : ∀ i, i < c → xs.getD i 0 < k) (h2 : c < xs.length → k ≤ xs.getD c 0) : cntB xs k = c :=
  takeWhile_len hc (fun i hi => by simpa using h1 i hi) (fun hl => by simpa using h2 hl)

theorem cntU_succ (xs : List Int) (k : Int) : cntU xs k = cntB xs (k + 1) := by
  unfold cntU cntB
  congr 1
  congr 1
  funext x
  rw [decide_eq_decide]
  omega

theorem cntB_next {xs : List Int} {k : Int} (h : VK xs) : cntB xs (k + 1) = cntB xs k + if k ∈ xs then 1 else 0 := by
  obtain ⟨a1, a2, a3⟩ := cntB_ok (k := k) h
  by_cases hm : k ∈ xs
  · rw [if_pos hm]
    obtain ⟨j, hj, he⟩ := List.getElem_of_mem hm
    have he' : xs.getD j 0 = k := by simpa [hj] using he
    have hjc : cntB xs k ≤ j := by
      rcases Nat.lt_or_ge j (cntB xs k) with hlt | hge
      · have := a2 j hlt; omega
      · exact hge
    have hc0 : xs.getD (cntB xs k) 0 = k := by
      have h1 := a3 _ (Nat.le_refl _) (by omega)
      have h2 := vk_mono' h hjc hj
      omega
    refine cntB_uniq (by omega) (fun i hi => ?_) (fun hl => ?_)
    · have := vk_mono' h (show i ≤ cntB xs k by omega) (by omega)
      omega
    · have := h.1 (cntB xs k) hl
      omega
  · rw [if_neg hm]
    refine cntB_uniq (by omega) (fun i hi => by have := a2 i hi; omega) (fun hl => ?_)
    rw [Nat.add_zero] at hl ⊢
    have h1 := a3 _ (Nat.le_refl _) hl
    have h2 : xs.getD (cntB xs k) 0 ≠ k := fun e => hm (by rw [← e]; exact getD_mem hl)
    omega

theorem cntB_zero {xs : List Int} (h : VK xs) : cntB xs 0 = 0 := cntB_uniq (Nat.zero_le _) (fun i hi => by omega) (fun hl => (h.2 0 hl).1)
theorem cntB_all {xs : List Int} (h : VK xs) : cntB xs 100 = xs.length := cntB_uniq (Nat.le_refl _) (fun i hi => by have := (h.2 i hi).2; omega) (fun hl => by omega)

theorem does_isInL {G : Nat → Option FM}  : Does T G (fun _ => []) Try.f57 mIsIn := by
  refine does2 (rs := [.tmp 4]) rfl rfl fun xs a ro h => ?_
  obtain ⟨hs, rfl⟩ := gd_some h
  refine ⟨fun _ => ⟨rfl, rfl⟩, ?_⟩
  simp (config := {maxSteps := 1000000}) (disch := omega) only [go_sem, ↓reduceIte, Nat.reduceEqDiff, Nat.reduceAdd, Nat.reduceMul, Nat.reduceSub, Nat.reduceLeDiff, Nat.reduceLT, Int.reduceToNat, Int.reduceLE, Int.reduceLT, Int.reduceNeg]
  refine W_loop_i (fun s => s.sl 0 = eIs false xs ∧ s.sl 1 = eI a ∧ ∃ k : Nat, k ≤ xs.length ∧ s.sl 5 = eI k ∧ ∀ i, i < k → xs.getD i 0 ≠ a) (fun s => xs.length - iN (s.sl 5)) ?_ ?_
  · exact ⟨rfl, rfl, 0, Nat.zero_le _, rfl, fun i hi => by omega⟩
  · rintro sl hp n ⟨h0, h1, k, hk, h5, hall⟩
    dsimp only at h0 h1 h5
    simp (config := {maxSteps := 1000000}) (disch := omega) only [go_sem, ↓reduceIte, Nat.reduceEqDiff, Nat.reduceAdd, Nat.reduceMul, Nat.reduceSub, Nat.reduceLeDiff, Nat.reduceLT, Int.reduceToNat, Int.reduceLE, Int.reduceLT, Int.reduceNeg, h0, h1, h5]
    (first | refine runKS_split (fun h => ?_) (fun h => ?_) | refine cond_split (fun h => ?_) (fun h => ?_) | refine runK_split (fun h => ?_) (fun h => ?_))
    · have hlt := of_decide_eq_true h
      simp (config := {maxSteps := 1000000}) (disch := omega) only [go_sem, ↓reduceIte, Nat.reduceEqDiff, Nat.reduceAdd, Nat.reduceMul, Nat.reduceSub, Nat.reduceLeDiff, Nat.reduceLT, Int.reduceToNat, Int.reduceLE, Int.reduceLT, Int.reduceNeg, h0, h1, h5, h]
      (first | refine runKS_split (fun h' => ?_) (fun h' => ?_) | refine cond_split (fun h' => ?_) (fun h' => ?_) | refine runK_split (fun h' => ?_) (fun h' => ?_))
      · have h' := of_decide_eq_true h'
        simp (config := {maxSteps := 1000000}) (disch := omega) only [go_sem, ↓reduceIte, Nat.reduceEqDiff, Nat.reduceAdd, Nat.reduceMul, Nat.reduceSub, Nat.reduceLeDiff, Nat.reduceLT, Int.reduceToNat, Int.reduceLE, Int.reduceLT, Int.reduceNeg]
        have : a ∈ xs := by rw [← h']; exact getD_mem (by omega)
        simp [this]
      · have h' := of_decide_eq_false h'
        simp (config := {maxSteps := 1000000}) (disch := omega) only [go_sem, ↓reduceIte, Nat.reduceEqDiff, Nat.reduceAdd, Nat.reduceMul, Nat.reduceSub, Nat.reduceLeDiff, Nat.reduceLT, Int.reduceToNat, Int.reduceLE, Int.reduceLT, Int.reduceNeg, h0, h1, h5]
        refine ⟨⟨k + 1, by omega, rfl, fun i hi => ?_⟩, by omega⟩
        by_cases he : i = k
        · rw [he]; exact h'
        · exact hall i (by omega)
    · have hge := of_decide_eq_false h
      simp (config := {maxSteps := 1000000}) (disch := omega) only [go_sem, ↓reduceIte, Nat.reduceEqDiff, Nat.reduceAdd, Nat.reduceMul, Nat.reduceSub, Nat.reduceLeDiff, Nat.reduceLT, Int.reduceToNat, Int.reduceLE, Int.reduceLT, Int.reduceNeg]
      have : a ∉ xs := by
        intro hm
        obtain ⟨i, hi, he⟩ := List.getElem_of_mem hm
        exact hall i (by omega) (by simpa [hi] using he)
      simp [this]
theorem fo_isInL : FnOk Try.prog 57 := fnOk_of Try.func57 (by kernel_rfl)
theorem c_isInL : Contract Try.prog 57 mIsIn :=
  contract_of_does (DT := fun _ => []) Try.checked.mixed tabOk gok_nil Try.func57 rfl (by kernel_rfl) (does_isInL )


theorem vKB_f {xs : List Int} {k : Int} (h : vk xs = false) : vKeysBelow xs k = -1 := by unfold vKeysBelow; rw [h]; rfl
theorem vKU_f {xs : List Int} {k : Int} (h : vk xs = false) : vKeysUpTo xs k = -1 := by unfold vKeysUpTo; rw [h]; rfl
theorem neq_dec {p q : Prop} [Decidable p] [Decidable q] (h : p ↔ q) : (decide p != decide q) = false := by rw [decide_eq_decide.2 h]; exact bne_bool _

theorem does_FnKeysBelow {G : Nat → Option FM} (h_DrawKeysBelow : G 54 = some (.model mDrawKey)) (h_KeysBelowI : G 40 = some (.model mKeysBelow)) (h_KeysBelowS : G 39 = some (.model mKeysBelow)) : Does T G (fun _ => []) Try.f13 mLawB := by
  refine does1 (rs := [.tmp 2]) rfl rfl fun bs ro h => ?_
  obtain ⟨⟨h8, hl⟩, rfl⟩ := gd_some h
  have hB := bs_take h8
  obtain ⟨b1, b2, b3, b4⟩ := draw_bd hB
  refine ⟨fun _ => ⟨rfl, rfl⟩, ?_⟩
  simp (config := {maxSteps := 1000000}) (disch := omega) only [go_sem, ↓reduceIte, Nat.reduceEqDiff, Nat.reduceAdd, Nat.reduceMul, Nat.reduceSub, Nat.reduceLeDiff, Nat.reduceLT, Int.reduceToNat, Int.reduceLE, Int.reduceLT, Int.reduceNeg, h_DrawKeysBelow, mDrawKey, h_KeysBelowI, mKeysBelow, h_KeysBelowS, mKeysBelow]
  (first | refine runKS_split (fun g => ?_) (fun g => ?_) | refine cond_split (fun g => ?_) (fun g => ?_) | refine runK_split (fun g => ?_) (fun g => ?_))
  · simp (config := {maxSteps := 1000000}) (disch := omega) only [go_sem, ↓reduceIte, Nat.reduceEqDiff, Nat.reduceAdd, Nat.reduceMul, Nat.reduceSub, Nat.reduceLeDiff, Nat.reduceLT, Int.reduceToNat, Int.reduceLE, Int.reduceLT, Int.reduceNeg, h_DrawKeysBelow, mDrawKey, h_KeysBelowI, mKeysBelow, h_KeysBelowS, mKeysBelow]
  · have g' := of_decide_eq_false g
    cases hv : vk (drawY bs)
    · simp (config := {maxSteps := 1000000}) (disch := omega) only [go_sem, ↓reduceIte, Nat.reduceEqDiff, Nat.reduceAdd, Nat.reduceMul, Nat.reduceSub, Nat.reduceLeDiff, Nat.reduceLT, Int.reduceToNat, Int.reduceLE, Int.reduceLT, Int.reduceNeg, h_DrawKeysBelow, mDrawKey, h_KeysBelowI, mKeysBelow, h_KeysBelowS, mKeysBelow, g, hB, vKB_f hv]
    · obtain ⟨a1, a2, a3⟩ := cntB_ok (k := drawK bs) (vk_iff.1 hv)
      have e0 : decide ((cntB (drawY bs) (drawK bs) : Int) < 0) = false := decide_eq_false (by omega)
      have e1 : decide (((drawY bs).length : Int) < (cntB (drawY bs) (drawK bs) : Int)) = false := decide_eq_false (by omega)
      simp (config := {maxSteps := 1000000}) (disch := omega) only [go_sem, ↓reduceIte, Nat.reduceEqDiff, Nat.reduceAdd, Nat.reduceMul, Nat.reduceSub, Nat.reduceLeDiff, Nat.reduceLT, Int.reduceToNat, Int.reduceLE, Int.reduceLT, Int.reduceNeg, h_DrawKeysBelow, mDrawKey, h_KeysBelowI, mKeysBelow, h_KeysBelowS, mKeysBelow, g, hB, vKeysBelow, hv, e0, e1]
      refine W_loop_i (fun s => s.sl 3 = eIs false (drawY bs) ∧ s.sl 4 = eI (drawK bs) ∧ s.sl 5 = eI (cntB (drawY bs) (drawK bs)) ∧ ∃ k : Nat, k ≤ (drawY bs).length ∧ s.sl 6 = eI k) (fun s => (drawY bs).length - iN (s.sl 6)) ?_ ?_
      · exact ⟨rfl, rfl, rfl, 0, Nat.zero_le _, rfl⟩
      · rintro sl hp n ⟨h3, h4, h5, k, hk, h6⟩
        dsimp only at h3 h4 h5 h6
        simp (config := {maxSteps := 1000000}) (disch := omega) only [go_sem, ↓reduceIte, Nat.reduceEqDiff, Nat.reduceAdd, Nat.reduceMul, Nat.reduceSub, Nat.reduceLeDiff, Nat.reduceLT, Int.reduceToNat, Int.reduceLE, Int.reduceLT, Int.reduceNeg, h_DrawKeysBelow, mDrawKey, h_KeysBelowI, mKeysBelow, h_KeysBelowS, mKeysBelow, h3, h4, h5, h6]
        (first | refine runKS_split (fun g1 => ?_) (fun g1 => ?_) | refine cond_split (fun g1 => ?_) (fun g1 => ?_) | refine runK_split (fun g1 => ?_) (fun g1 => ?_))
        · have g1' := of_decide_eq_true g1
          have e2 : (decide ((drawY bs).getD k 0 < drawK bs) != decide ((k : Int) < (cntB (drawY bs) (drawK bs) : Int))) = false := neq_dec (by
            rcases Nat.lt_or_ge k (cntB (drawY bs) (drawK bs)) with hlt | hge
            · have := a2 k hlt
              omega
            · have := a3 k hge (by omega)
              omega)
          simp (config := {maxSteps := 1000000}) (disch := omega) only [go_sem, ↓reduceIte, Nat.reduceEqDiff, Nat.reduceAdd, Nat.reduceMul, Nat.reduceSub, Nat.reduceLeDiff, Nat.reduceLT, Int.reduceToNat, Int.reduceLE, Int.reduceLT, Int.reduceNeg, h_DrawKeysBelow, mDrawKey, h_KeysBelowI, mKeysBelow, h_KeysBelowS, mKeysBelow, h3, h4, h5, h6, g1, e2]
          exact ⟨⟨k + 1, by omega, rfl⟩, by omega⟩
        · simp (config := {maxSteps := 1000000}) (disch := omega) only [go_sem, ↓reduceIte, Nat.reduceEqDiff, Nat.reduceAdd, Nat.reduceMul, Nat.reduceSub, Nat.reduceLeDiff, Nat.reduceLT, Int.reduceToNat, Int.reduceLE, Int.reduceLT, Int.reduceNeg, h_DrawKeysBelow, mDrawKey, h_KeysBelowI, mKeysBelow, h_KeysBelowS, mKeysBelow, h3, h4, h5, h6, g1]
theorem fo_FnKeysBelow : FnOk Try.prog 13 := fnOk_of Try.func13 (by kernel_rfl)
theorem c_FnKeysBelow : Contract Try.prog 13 mLawB :=
  contract_of_does (DT := fun _ => []) Try.checked.mixed tabOk (gok_model fo_DrawKeysBelow c_DrawKeysBelow (gok_model fo_KeysBelowI c_KeysBelowI (gok_model fo_KeysBelowS c_KeysBelowS gok_nil))) Try.func13 rfl (by kernel_rfl) (does_FnKeysBelow rfl rfl rfl)

theorem fn_FnKeysBelow (x : List Int) (h : (∀ y ∈ x, intWf .u8 y) ∧ x.length ≤ maxLen) : mLawB.fn [eBs false x] = some (.b true, []) := by
  have h1 : Bytes x := h.1
  have h2 : x.length ≤ 9223372036854775807 := h.2
  simp (config := {maxSteps := 1000000}) (disch := omega) only [go_sem, ↓reduceIte, Nat.reduceEqDiff, Nat.reduceAdd, Nat.reduceMul, Nat.reduceSub, Nat.reduceLeDiff, Nat.reduceLT, Int.reduceToNat, Int.reduceLE, Int.reduceLT, Int.reduceNeg, mLawB, h1]

theorem does_FnKeysBelowAll {G : Nat → Option FM} (h_DrawKeysBelow : G 54 = some (.model mDrawKey)) (h_KeysBelowI : G 40 = some (.model mKeysBelow)) (h_KeysBelowS : G 39 = some (.model mKeysBelow)) : Does T G (fun _ => []) Try.f14 mLawB := by
  refine does1 (rs := [.tmp 2]) rfl rfl fun bs ro h => ?_
  obtain ⟨⟨h8, hl⟩, rfl⟩ := gd_some h
  have hB := bs_take h8
  obtain ⟨b1, b2, b3, b4⟩ := draw_bd hB
  refine ⟨fun _ => ⟨rfl, rfl⟩, ?_⟩
  simp (config := {maxSteps := 1000000}) (disch := omega) only [go_sem, ↓reduceIte, Nat.reduceEqDiff, Nat.reduceAdd, Nat.reduceMul, Nat.reduceSub, Nat.reduceLeDiff, Nat.reduceLT, Int.reduceToNat, Int.reduceLE, Int.reduceLT, Int.reduceNeg, h_DrawKeysBelow, mDrawKey, h_KeysBelowI, mKeysBelow, h_KeysBelowS, mKeysBelow]
  (first | refine runKS_split (fun g => ?_) (fun g => ?_) | refine cond_split (fun g => ?_) (fun g => ?_) | refine runK_split (fun g => ?_) (fun g => ?_))
  · simp (config := {maxSteps := 1000000}) (disch := omega) only [go_sem, ↓reduceIte, Nat.reduceEqDiff, Nat.reduceAdd, Nat.reduceMul, Nat.reduceSub, Nat.reduceLeDiff, Nat.reduceLT, Int.reduceToNat, Int.reduceLE, Int.reduceLT, Int.reduceNeg, h_DrawKeysBelow, mDrawKey, h_KeysBelowI, mKeysBelow, h_KeysBelowS, mKeysBelow]
  · have g' := of_decide_eq_false g
    cases hv : vk (drawY bs)
    · simp (config := {maxSteps := 1000000}) (disch := omega) only [go_sem, ↓reduceIte, Nat.reduceEqDiff, Nat.reduceAdd, Nat.reduceMul, Nat.reduceSub, Nat.reduceLeDiff, Nat.reduceLT, Int.reduceToNat, Int.reduceLE, Int.reduceLT, Int.reduceNeg, h_DrawKeysBelow, mDrawKey, h_KeysBelowI, mKeysBelow, h_KeysBelowS, mKeysBelow, g, hB, vKB_f hv]
    · have e0 : decide ((cntB (drawY bs) (drawK bs) : Int) < 0) = false := decide_eq_false (by omega)
      have e1 : decide ((cntB (drawY bs) 0 : Int) = 0) = true := decide_eq_true (by rw [cntB_zero (vk_iff.1 hv)]; rfl)
      simp (config := {maxSteps := 1000000}) (disch := omega) only [go_sem, ↓reduceIte, Nat.reduceEqDiff, Nat.reduceAdd, Nat.reduceMul, Nat.reduceSub, Nat.reduceLeDiff, Nat.reduceLT, Int.reduceToNat, Int.reduceLE, Int.reduceLT, Int.reduceNeg, h_DrawKeysBelow, mDrawKey, h_KeysBelowI, mKeysBelow, h_KeysBelowS, mKeysBelow, g, hB, vKeysBelow, hv, e0, e1, cntB_all (vk_iff.1 hv)]
theorem fo_FnKeysBelowAll : FnOk Try.prog 14 := fnOk_of Try.func14 (by kernel_rfl)
theorem c_FnKeysBelowAll : Contract Try.prog 14 mLawB :=
  contract_of_does (DT := fun _ => []) Try.checked.mixed tabOk (gok_model fo_DrawKeysBelow c_DrawKeysBelow (gok_model fo_KeysBelowI c_KeysBelowI (gok_model fo_KeysBelowS c_KeysBelowS gok_nil))) Try.func14 rfl (by kernel_rfl) (does_FnKeysBelowAll rfl rfl rfl)

theorem fn_FnKeysBelowAll (x : List Int) (h : (∀ y ∈ x, intWf .u8 y) ∧ x.length ≤ maxLen) : mLawB.fn [eBs false x] = some (.b true, []) := by
  have h1 : Bytes x := h.1
  have h2 : x.length ≤ 9223372036854775807 := h.2
  simp (config := {maxSteps := 1000000}) (disch := omega) only [go_sem, ↓reduceIte, Nat.reduceEqDiff, Nat.reduceAdd, Nat.reduceMul, Nat.reduceSub, Nat.reduceLeDiff, Nat.reduceLT, Int.reduceToNat, Int.reduceLE, Int.reduceLT, Int.reduceNeg, mLawB, h1]

theorem does_FnKeysBelowMore {G : Nat → Option FM} (h_DrawKeysBelow : G 54 = some (.model mDrawKey)) (h_KeysBelowI : G 40 = some (.model mKeysBelow)) (h_KeysBelowS : G 39 = some (.model mKeysBelow)) (h_isInL : G 57 = some (.model mIsIn)) : Does T G (fun _ => []) Try.f18 mLawB := by
  refine does1 (rs := [.tmp 2]) rfl rfl fun bs ro h => ?_
  obtain ⟨⟨h8, hl⟩, rfl⟩ := gd_some h
  have hB := bs_take h8
  obtain ⟨b1, b2, b3, b4⟩ := draw_bd hB
  refine ⟨fun _ => ⟨rfl, rfl⟩, ?_⟩
  simp (config := {maxSteps := 1000000}) (disch := omega) only [go_sem, ↓reduceIte, Nat.reduceEqDiff, Nat.reduceAdd, Nat.reduceMul, Nat.reduceSub, Nat.reduceLeDiff, Nat.reduceLT, Int.reduceToNat, Int.reduceLE, Int.reduceLT, Int.reduceNeg, h_DrawKeysBelow, mDrawKey, h_KeysBelowI, mKeysBelow, h_KeysBelowS, mKeysBelow, h_isInL, mIsIn]
  (first | refine runKS_split (fun g => ?_) (fun g => ?_) | refine cond_split (fun g => ?_) (fun g => ?_) | refine runK_split (fun g => ?_) (fun g => ?_))
  · simp (config := {maxSteps := 1000000}) (disch := omega) only [go_sem, ↓reduceIte, Nat.reduceEqDiff, Nat.reduceAdd, Nat.reduceMul, Nat.reduceSub, Nat.reduceLeDiff, Nat.reduceLT, Int.reduceToNat, Int.reduceLE, Int.reduceLT, Int.reduceNeg, h_DrawKeysBelow, mDrawKey, h_KeysBelowI, mKeysBelow, h_KeysBelowS, mKeysBelow, h_isInL, mIsIn]
  · have g' := of_decide_eq_false g
    cases hv : vk (drawY bs)
    · simp (config := {maxSteps := 1000000}) (disch := omega) only [go_sem, ↓reduceIte, Nat.reduceEqDiff, Nat.reduceAdd, Nat.reduceMul, Nat.reduceSub, Nat.reduceLeDiff, Nat.reduceLT, Int.reduceToNat, Int.reduceLE, Int.reduceLT, Int.reduceNeg, h_DrawKeysBelow, mDrawKey, h_KeysBelowI, mKeysBelow, h_KeysBelowS, mKeysBelow, h_isInL, mIsIn, g, hB, vKB_f hv]
    · have e0 : decide ((cntB (drawY bs) (drawK bs) : Int) < 0) = false := decide_eq_false (by omega)
      have hle := (cntB_ok (k := drawK bs) (vk_iff.1 hv)).1
      have hn := cntB_next (k := drawK bs) (vk_iff.1 hv)
      by_cases hm : drawK bs ∈ drawY bs
      · rw [if_pos hm] at hn
        have e1 : decide (((cntB (drawY bs) (drawK bs) + 1 : Nat) : Int) = (cntB (drawY bs) (drawK bs) : Int)) = false := decide_eq_false (by omega)
        have e2 : decide (((cntB (drawY bs) (drawK bs) + 1 : Nat) : Int) = (cntB (drawY bs) (drawK bs) : Int) + 1) = true := decide_eq_true (by omega)
        simp (config := {maxSteps := 1000000}) (disch := omega) only [go_sem, ↓reduceIte, Nat.reduceEqDiff, Nat.reduceAdd, Nat.reduceMul, Nat.reduceSub, Nat.reduceLeDiff, Nat.reduceLT, Int.reduceToNat, Int.reduceLE, Int.reduceLT, Int.reduceNeg, h_DrawKeysBelow, mDrawKey, h_KeysBelowI, mKeysBelow, h_KeysBelowS, mKeysBelow, h_isInL, mIsIn, g, hB, vKeysBelow, hv, e0, hn, hm, e1, e2]
        rfl
      · rw [if_neg hm] at hn
        have e2 : decide ((cntB (drawY bs) (drawK bs) : Int) = (cntB (drawY bs) (drawK bs) : Int) + 1) = false := decide_eq_false (by omega)
        simp (config := {maxSteps := 1000000}) (disch := omega) only [go_sem, ↓reduceIte, Nat.reduceEqDiff, Nat.reduceAdd, Nat.reduceMul, Nat.reduceSub, Nat.reduceLeDiff, Nat.reduceLT, Int.reduceToNat, Int.reduceLE, Int.reduceLT, Int.reduceNeg, h_DrawKeysBelow, mDrawKey, h_KeysBelowI, mKeysBelow, h_KeysBelowS, mKeysBelow, h_isInL, mIsIn, g, hB, vKeysBelow, hv, e0, hn, hm, e2]
        rfl
theorem fo_FnKeysBelowMore : FnOk Try.prog 18 := fnOk_of Try.func18 (by kernel_rfl)
theorem c_FnKeysBelowMore : Contract Try.prog 18 mLawB :=
  contract_of_does (DT := fun _ => []) Try.checked.mixed tabOk (gok_model fo_DrawKeysBelow c_DrawKeysBelow (gok_model fo_KeysBelowI c_KeysBelowI (gok_model fo_KeysBelowS c_KeysBelowS (gok_model fo_isInL c_isInL gok_nil)))) Try.func18 rfl (by kernel_rfl) (does_FnKeysBelowMore rfl rfl rfl rfl)

theorem fn_FnKeysBelowMore (x : List Int) (h : (∀ y ∈ x, intWf .u8 y) ∧ x.length ≤ maxLen) : mLawB.fn [eBs false x] = some (.b true, []) := by
  have h1 : Bytes x := h.1
  have h2 : x.length ≤ 9223372036854775807 := h.2
  simp (config := {maxSteps := 1000000}) (disch := omega) only [go_sem, ↓reduceIte, Nat.reduceEqDiff, Nat.reduceAdd, Nat.reduceMul, Nat.reduceSub, Nat.reduceLeDiff, Nat.reduceLT, Int.reduceToNat, Int.reduceLE, Int.reduceLT, Int.reduceNeg, mLawB, h1]

theorem does_FnKeysUpTo {G : Nat → Option FM} (h_DrawKeysUpTo : G 58 = some (.model mDrawKey)) (h_KeysUpToI : G 42 = some (.model mKeysUpTo)) (h_KeysUpToS : G 41 = some (.model mKeysUpTo)) (h_KeysBelowI : G 40 = some (.model mKeysBelow)) : Does T G (fun _ => []) Try.f19 mLawB := by
  refine does1 (rs := [.tmp 2]) rfl rfl fun bs ro h => ?_
  obtain ⟨⟨h8, hl⟩, rfl⟩ := gd_some h
  have hB := bs_take h8
  obtain ⟨b1, b2, b3, b4⟩ := draw_bd hB
  refine ⟨fun _ => ⟨rfl, rfl⟩, ?_⟩
  simp (config := {maxSteps := 1000000}) (disch := omega) only [go_sem, ↓reduceIte, Nat.reduceEqDiff, Nat.reduceAdd, Nat.reduceMul, Nat.reduceSub, Nat.reduceLeDiff, Nat.reduceLT, Int.reduceToNat, Int.reduceLE, Int.reduceLT, Int.reduceNeg, h_DrawKeysUpTo, mDrawKey, h_KeysUpToI, mKeysUpTo, h_KeysUpToS, mKeysUpTo, h_KeysBelowI, mKeysBelow]
  (first | refine runKS_split (fun g => ?_) (fun g => ?_) | refine cond_split (fun g => ?_) (fun g => ?_) | refine runK_split (fun g => ?_) (fun g => ?_))
  · simp (config := {maxSteps := 1000000}) (disch := omega) only [go_sem, ↓reduceIte, Nat.reduceEqDiff, Nat.reduceAdd, Nat.reduceMul, Nat.reduceSub, Nat.reduceLeDiff, Nat.reduceLT, Int.reduceToNat, Int.reduceLE, Int.reduceLT, Int.reduceNeg, h_DrawKeysUpTo, mDrawKey, h_KeysUpToI, mKeysUpTo, h_KeysUpToS, mKeysUpTo, h_KeysBelowI, mKeysBelow]
  · have g' := of_decide_eq_false g
    cases hv : vk (drawY bs)
    · simp (config := {maxSteps := 1000000}) (disch := omega) only [go_sem, ↓reduceIte, Nat.reduceEqDiff, Nat.reduceAdd, Nat.reduceMul, Nat.reduceSub, Nat.reduceLeDiff, Nat.reduceLT, Int.reduceToNat, Int.reduceLE, Int.reduceLT, Int.reduceNeg, h_DrawKeysUpTo, mDrawKey, h_KeysUpToI, mKeysUpTo, h_KeysUpToS, mKeysUpTo, h_KeysBelowI, mKeysBelow, g, hB, vKU_f hv]
    · have hle := (cntB_ok (k := drawK bs + 1) (vk_iff.1 hv)).1
      have e0 : decide ((cntB (drawY bs) (drawK bs + 1) : Int) < 0) = false := decide_eq_false (by omega)
      have e1 : decide ((cntB (drawY bs) (drawK bs + 1) : Int) ≤ ((drawY bs).length : Int)) = true := decide_eq_true (by omega)
      simp (config := {maxSteps := 1000000}) (disch := omega) only [go_sem, ↓reduceIte, Nat.reduceEqDiff, Nat.reduceAdd, Nat.reduceMul, Nat.reduceSub, Nat.reduceLeDiff, Nat.reduceLT, Int.reduceToNat, Int.reduceLE, Int.reduceLT, Int.reduceNeg, h_DrawKeysUpTo, mDrawKey, h_KeysUpToI, mKeysUpTo, h_KeysUpToS, mKeysUpTo, h_KeysBelowI, mKeysBelow, g, hB, vKeysUpTo, vKeysBelow, hv, e0, e1, cntU_succ]
theorem fo_FnKeysUpTo : FnOk Try.prog 19 := fnOk_of Try.func19 (by kernel_rfl)
theorem c_FnKeysUpTo : Contract Try.prog 19 mLawB :=
  contract_of_does (DT := fun _ => []) Try.checked.mixed tabOk (gok_model fo_DrawKeysUpTo c_DrawKeysUpTo (gok_model fo_KeysUpToI c_KeysUpToI (gok_model fo_KeysUpToS c_KeysUpToS (gok_model fo_KeysBelowI c_KeysBelowI gok_nil)))) Try.func19 rfl (by kernel_rfl) (does_FnKeysUpTo rfl rfl rfl rfl)

theorem fn_FnKeysUpTo (x : List Int) (h : (∀ y ∈ x, intWf .u8 y) ∧ x.length ≤ maxLen) : mLawB.fn [eBs false x] = some (.b true, []) := by
  have h1 : Bytes x := h.1
  have h2 : x.length ≤ 9223372036854775807 := h.2
  simp (config := {maxSteps := 1000000}) (disch := omega) only [go_sem, ↓reduceIte, Nat.reduceEqDiff, Nat.reduceAdd, Nat.reduceMul, Nat.reduceSub, Nat.reduceLeDiff, Nat.reduceLT, Int.reduceToNat, Int.reduceLE, Int.reduceLT, Int.reduceNeg, mLawB, h1]

theorem does_FnKeysBelowUpTo {G : Nat → Option FM} (h_DrawKeysUpTo : G 58 = some (.model mDrawKey)) (h_KeysUpToI : G 42 = some (.model mKeysUpTo)) (h_KeysUpToS : G 41 = some (.model mKeysUpTo)) (h_KeysBelowI : G 40 = some (.model mKeysBelow)) (h_isInL : G 57 = some (.model mIsIn)) : Does T G (fun _ => []) Try.f22 mLawB := by
  refine does1 (rs := [.tmp 2]) rfl rfl fun bs ro h => ?_
  obtain ⟨⟨h8, hl⟩, rfl⟩ := gd_some h
  have hB := bs_take h8
  obtain ⟨b1, b2, b3, b4⟩ := draw_bd hB
  refine ⟨fun _ => ⟨rfl, rfl⟩, ?_⟩
  simp (config := {maxSteps := 1000000}) (disch := omega) only [go_sem, ↓reduceIte, Nat.reduceEqDiff, Nat.reduceAdd, Nat.reduceMul, Nat.reduceSub, Nat.reduceLeDiff, Nat.reduceLT, Int.reduceToNat, Int.reduceLE, Int.reduceLT, Int.reduceNeg, h_DrawKeysUpTo, mDrawKey, h_KeysUpToI, mKeysUpTo, h_KeysUpToS, mKeysUpTo, h_KeysBelowI, mKeysBelow, h_isInL, mIsIn]
  (first | refine runKS_split (fun g => ?_) (fun g => ?_) | refine cond_split (fun g => ?_) (fun g => ?_) | refine runK_split (fun g => ?_) (fun g => ?_))
  · simp (config := {maxSteps := 1000000}) (disch := omega) only [go_sem, ↓reduceIte, Nat.reduceEqDiff, Nat.reduceAdd, Nat.reduceMul, Nat.reduceSub, Nat.reduceLeDiff, Nat.reduceLT, Int.reduceToNat, Int.reduceLE, Int.reduceLT, Int.reduceNeg, h_DrawKeysUpTo, mDrawKey, h_KeysUpToI, mKeysUpTo, h_KeysUpToS, mKeysUpTo, h_KeysBelowI, mKeysBelow, h_isInL, mIsIn]
  · have g' := of_decide_eq_false g
    cases hv : vk (drawY bs)
    · simp (config := {maxSteps := 1000000}) (disch := omega) only [go_sem, ↓reduceIte, Nat.reduceEqDiff, Nat.reduceAdd, Nat.reduceMul, Nat.reduceSub, Nat.reduceLeDiff, Nat.reduceLT, Int.reduceToNat, Int.reduceLE, Int.reduceLT, Int.reduceNeg, h_DrawKeysUpTo, mDrawKey, h_KeysUpToI, mKeysUpTo, h_KeysUpToS, mKeysUpTo, h_KeysBelowI, mKeysBelow, h_isInL, mIsIn, g, hB, vKU_f hv]
    · have hle := (cntB_ok (k := drawK bs + 1) (vk_iff.1 hv)).1
      have hle' := (cntB_ok (k := drawK bs) (vk_iff.1 hv)).1
      have hn := cntB_next (k := drawK bs) (vk_iff.1 hv)
      by_cases hm : drawK bs ∈ drawY bs
      · rw [if_pos hm] at hn
        have e0 : decide (((cntB (drawY bs) (drawK bs) + 1 : Nat) : Int) < 0) = false := decide_eq_false (by omega)
        have e2 : decide (((cntB (drawY bs) (drawK bs) + 1 : Nat) : Int) = (cntB (drawY bs) (drawK bs) : Int) + 1) = true := decide_eq_true (by omega)
        simp (config := {maxSteps := 1000000}) (disch := omega) only [go_sem, ↓reduceIte, Nat.reduceEqDiff, Nat.reduceAdd, Nat.reduceMul, Nat.reduceSub, Nat.reduceLeDiff, Nat.reduceLT, Int.reduceToNat, Int.reduceLE, Int.reduceLT, Int.reduceNeg, h_DrawKeysUpTo, mDrawKey, h_KeysUpToI, mKeysUpTo, h_KeysUpToS, mKeysUpTo, h_KeysBelowI, mKeysBelow, h_isInL, mIsIn, g, hB, vKeysUpTo, vKeysBelow, hv, e0, cntU_succ, hn, hm, e2]
      · rw [if_neg hm] at hn
        have e0 : decide ((cntB (drawY bs) (drawK bs) : Int) < 0) = false := decide_eq_false (by omega)
        simp (config := {maxSteps := 1000000}) (disch := omega) only [go_sem, ↓reduceIte, Nat.reduceEqDiff, Nat.reduceAdd, Nat.reduceMul, Nat.reduceSub, Nat.reduceLeDiff, Nat.reduceLT, Int.reduceToNat, Int.reduceLE, Int.reduceLT, Int.reduceNeg, h_DrawKeysUpTo, mDrawKey, h_KeysUpToI, mKeysUpTo, h_KeysUpToS, mKeysUpTo, h_KeysBelowI, mKeysBelow, h_isInL, mIsIn, g, hB, vKeysUpTo, vKeysBelow, hv, e0, cntU_succ, hn, hm]
theorem fo_FnKeysBelowUpTo : FnOk Try.prog 22 := fnOk_of Try.func22 (by kernel_rfl)
theorem c_FnKeysBelowUpTo : Contract Try.prog 22 mLawB :=
  contract_of_does (DT := fun _ => []) Try.checked.mixed tabOk (gok_model fo_DrawKeysUpTo c_DrawKeysUpTo (gok_model fo_KeysUpToI c_KeysUpToI (gok_model fo_KeysUpToS c_KeysUpToS (gok_model fo_KeysBelowI c_KeysBelowI (gok_model fo_isInL c_isInL gok_nil))))) Try.func22 rfl (by kernel_rfl) (does_FnKeysBelowUpTo rfl rfl rfl rfl rfl)

theorem fn_FnKeysBelowUpTo (x : List Int) (h : (∀ y ∈ x, intWf .u8 y) ∧ x.length ≤ maxLen) : mLawB.fn [eBs false x] = some (.b true, []) := by
  have h1 : Bytes x := h.1
  have h2 : x.length ≤ 9223372036854775807 := h.2
  simp (config := {maxSteps := 1000000}) (disch := omega) only [go_sem, ↓reduceIte, Nat.reduceEqDiff, Nat.reduceAdd, Nat.reduceMul, Nat.reduceSub, Nat.reduceLeDiff, Nat.reduceLT, Int.reduceToNat, Int.reduceLE, Int.reduceLT, Int.reduceNeg, mLawB, h1]

end Go.TM
