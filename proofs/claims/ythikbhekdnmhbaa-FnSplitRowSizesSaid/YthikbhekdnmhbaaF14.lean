/- Contracts, 14: laws about insides. -/
import Derived.Test.YthikbhekdnmhbaaF13
namespace Go.TM
open Go.Proofs
set_option linter.unusedVariables false
set_option linter.unusedSimpArgs false
set_option maxRecDepth 100000

theorem allR_rev {xs : List Int} {a b : Int} (h : allR xs a b = true) : allR xs.reverse a b = true := by
  simp only [allR, List.all_eq_true] at h ⊢
  exact fun x hx => h x (List.mem_reverse.1 hx)
theorem vInn_rev {x : Inn} (h : vInn x = true) : vInn ⟨x.keys, x.kids.reverse⟩ = true := by
  rw [vInn_iff] at h ⊢
  obtain ⟨h1, h2, h3, h4, h5, h6⟩ := h
  refine ⟨?_, h2, h3, h4, by simp [h5], allR_rev h6⟩
  show x.kids.reverse.Nodup
  rw [List.Nodup, List.pairwise_reverse]
  exact h1.imp fun h => Ne.symm h
theorem vInn_twice {x : Inn} (h : vInn x = true) : vInn ⟨x.keys, x.kids.set 1 (x.kids.getD 0 0)⟩ = false := by
  rw [vInn_iff] at h
  obtain ⟨h1, h2, h3, h4, h5, h6⟩ := h
  refine vInn_f fun hh => ?_
  have hn := hh.1
  dsimp only at hn
  rcases hk : x.kids with _ | ⟨a, _ | ⟨b, r⟩⟩
  · rw [hk] at h5; simp at h5
  · rw [hk] at h5; simp only [List.length_cons, List.length_nil] at h5; omega
  · rw [hk] at hn
    simp at hn

theorem drop_step {xs : List Int} {j : Nat} (h0 : 0 < j) (h : j ≤ xs.length) : (xs.drop (j - 1)).reverse = (xs.drop j).reverse ++ [xs.getD (j - 1) 0] := by
  have e : xs.drop (j - 1) = xs.getD (j - 1) 0 :: xs.drop j := by
    rw [List.drop_eq_getElem_cons (show j - 1 < xs.length by omega), show j - 1 + 1 = j from by omega]
    simp [show j - 1 < xs.length by omega]
  rw [e, List.reverse_cons]

def iM : A → Nat
  | .i _ n => (n + 1).toNat
  | _ => 0

theorem does_FnValidInner {G : Nat → Option FM} (h_DrawValidInner : G 55 = some (.model mDrawInner)) (h_ValidInnerI : G 52 = some (.model mValidInner)) (h_ValidInnerS : G 50 = some (.model mValidInner)) : Does T G (fun _ => []) Try.f15 mLawB := by
  refine does1 (rs := [.tmp 2]) rfl rfl fun bs ro h => ?_
  obtain ⟨⟨h8, hl⟩, rfl⟩ := gd_some h
  have hB := bs_take h8
  obtain ⟨b1, b2⟩ : (drawI bs).keys.length ≤ 6 ∧ (drawI bs).kids.length ≤ 7 := aiX_len _ _
  refine ⟨fun _ => ⟨rfl, rfl⟩, ?_⟩
  simp (config := {maxSteps := 1000000}) (disch := omega) only [go_sem, ↓reduceIte, Nat.reduceEqDiff, Nat.reduceAdd, Nat.reduceMul, Nat.reduceSub, Nat.reduceLeDiff, Nat.reduceLT, Int.reduceToNat, Int.reduceLE, Int.reduceLT, Int.reduceNeg, h_DrawValidInner, mDrawInner, h_ValidInnerI, mValidInner, h_ValidInnerS, mValidInner]
  (first | refine runKS_split (fun g => ?_) (fun g => ?_) | refine cond_split (fun g => ?_) (fun g => ?_) | refine runK_split (fun g => ?_) (fun g => ?_))
  · simp (config := {maxSteps := 1000000}) (disch := omega) only [go_sem, ↓reduceIte, Nat.reduceEqDiff, Nat.reduceAdd, Nat.reduceMul, Nat.reduceSub, Nat.reduceLeDiff, Nat.reduceLT, Int.reduceToNat, Int.reduceLE, Int.reduceLT, Int.reduceNeg, h_DrawValidInner, mDrawInner, h_ValidInnerI, mValidInner, h_ValidInnerS, mValidInner]
  · have g' := of_decide_eq_false g
    cases hv : vInn (drawI bs)
    · simp (config := {maxSteps := 1000000}) (disch := omega) only [go_sem, ↓reduceIte, Nat.reduceEqDiff, Nat.reduceAdd, Nat.reduceMul, Nat.reduceSub, Nat.reduceLeDiff, Nat.reduceLT, Int.reduceToNat, Int.reduceLE, Int.reduceLT, Int.reduceNeg, h_DrawValidInner, mDrawInner, h_ValidInnerI, mValidInner, h_ValidInnerS, mValidInner, g, hB, hv]
      rfl
    · have hr := vInn_rev hv
      have hq := vInn_iff.1 hv
      simp (config := {maxSteps := 1000000}) (disch := omega) only [go_sem, ↓reduceIte, Nat.reduceEqDiff, Nat.reduceAdd, Nat.reduceMul, Nat.reduceSub, Nat.reduceLeDiff, Nat.reduceLT, Int.reduceToNat, Int.reduceLE, Int.reduceLT, Int.reduceNeg, h_DrawValidInner, mDrawInner, h_ValidInnerI, mValidInner, h_ValidInnerS, mValidInner, g, hB, hv]
      refine W_loop_i (fun s => s.sl 3 = .ptr (9, 0) [] 0 0 ∧ (∃ v, s.hp (9, 0) = some ⟨2, 1, [eIs false (drawI bs).keys, eIs false (drawI bs).kids], v⟩) ∧ ∃ j : Nat, j ≤ (drawI bs).kids.length ∧ s.sl 6 = .i .i64 ((j : Int) - 1) ∧ ∃ m, 9 < m ∧ m < s.n ∧ s.sl 5 = .ref (m, 0) [] 0 0 1 ((drawI bs).kids.length - j) ∧ s.hp (m, 0) = some ⟨1, (drawI bs).kids.length - j, (((drawI bs).kids.drop j).reverse).map eI, fun _ => 0⟩) (fun s => iM (s.sl 6)) ?_ ?_
      · refine ⟨rfl, ?_, (drawI bs).kids.length, Nat.le_refl _, rfl, 22, by omega, ?_, ?_, ?_⟩
        · simp (config := {maxSteps := 1000000}) (disch := omega) only [go_sem, ↓reduceIte, Nat.reduceEqDiff, Nat.reduceAdd, Nat.reduceMul, Nat.reduceSub, Nat.reduceLeDiff, Nat.reduceLT, Int.reduceToNat, Int.reduceLE, Int.reduceLT, Int.reduceNeg, h_DrawValidInner, mDrawInner, h_ValidInnerI, mValidInner, h_ValidInnerS, mValidInner]
          exact ⟨_, rfl⟩
        · simp (config := {maxSteps := 1000000}) (disch := omega) only [go_sem, ↓reduceIte, Nat.reduceEqDiff, Nat.reduceAdd, Nat.reduceMul, Nat.reduceSub, Nat.reduceLeDiff, Nat.reduceLT, Int.reduceToNat, Int.reduceLE, Int.reduceLT, Int.reduceNeg, h_DrawValidInner, mDrawInner, h_ValidInnerI, mValidInner, h_ValidInnerS, mValidInner]
        · simp (config := {maxSteps := 1000000}) (disch := omega) only [go_sem, ↓reduceIte, Nat.reduceEqDiff, Nat.reduceAdd, Nat.reduceMul, Nat.reduceSub, Nat.reduceLeDiff, Nat.reduceLT, Int.reduceToNat, Int.reduceLE, Int.reduceLT, Int.reduceNeg, h_DrawValidInner, mDrawInner, h_ValidInnerI, mValidInner, h_ValidInnerS, mValidInner]
          simp
        · simp (config := {maxSteps := 1000000}) (disch := omega) only [go_sem, ↓reduceIte, Nat.reduceEqDiff, Nat.reduceAdd, Nat.reduceMul, Nat.reduceSub, Nat.reduceLeDiff, Nat.reduceLT, Int.reduceToNat, Int.reduceLE, Int.reduceLT, Int.reduceNeg, h_DrawValidInner, mDrawInner, h_ValidInnerI, mValidInner, h_ValidInnerS, mValidInner]
          simp
      · rintro sl hp n ⟨h3, ⟨v, hh⟩, j, hj, h6, m, hm, hn, h5, hb⟩
        dsimp only at h3 h6 h5 hh hn hb
        simp (config := {maxSteps := 1000000}) (disch := omega) only [go_sem, ↓reduceIte, Nat.reduceEqDiff, Nat.reduceAdd, Nat.reduceMul, Nat.reduceSub, Nat.reduceLeDiff, Nat.reduceLT, Int.reduceToNat, Int.reduceLE, Int.reduceLT, Int.reduceNeg, h_DrawValidInner, mDrawInner, h_ValidInnerI, mValidInner, h_ValidInnerS, mValidInner, h3, h5, h6]
        (first | refine runKS_split (fun g1 => ?_) (fun g1 => ?_) | refine cond_split (fun g1 => ?_) (fun g1 => ?_) | refine runK_split (fun g1 => ?_) (fun g1 => ?_))
        · have g1' := of_decide_eq_true g1
          have e1 : ((j : Int) - 1).toNat = j - 1 := by omega
          simp (config := {maxSteps := 1000000}) (disch := omega) only [go_sem, ↓reduceIte, Nat.reduceEqDiff, Nat.reduceAdd, Nat.reduceMul, Nat.reduceSub, Nat.reduceLeDiff, Nat.reduceLT, Int.reduceToNat, Int.reduceLE, Int.reduceLT, Int.reduceNeg, h_DrawValidInner, mDrawInner, h_ValidInnerI, mValidInner, h_ValidInnerS, mValidInner, h3, h5, h6, g1, hh, hb, e1]
          refine ⟨⟨⟨_, rfl⟩, j - 1, by omega, by rw [show ((j - 1 : Nat) : Int) = (j : Int) - 1 from by omega], _, ?_, ?_, ?_, (upd_same ..).trans ?_⟩, ?_⟩
          · omega
          · omega
          · rw [show (drawI bs).kids.length - (j - 1) = (drawI bs).kids.length - j + 1 from by omega]
          · rw [app_I (by rw [List.length_reverse, List.length_drop]), drop_step (by omega) hj, show (drawI bs).kids.length - (j - 1) = (drawI bs).kids.length - j + 1 from by omega]
          · simp only [iM]
            omega
        · have g1' := of_decide_eq_false g1
          obtain rfl : j = 0 := by omega
          have hl2 : (drawI bs).kids.reverse.length = (drawI bs).kids.length := List.length_reverse ..
          have hT : (drawI bs).kids.reverse.take (drawI bs).kids.length = (drawI bs).kids.reverse := List.take_of_length_le (by omega)
          have e2 : decide (((drawI bs).kids.length : Int) = ((drawI bs).keys.length : Int) + 1) = true := decide_eq_true (by omega)
          simp (config := {maxSteps := 1000000}) (disch := omega) only [go_sem, ↓reduceIte, Nat.reduceEqDiff, Nat.reduceAdd, Nat.reduceMul, Nat.reduceSub, Nat.reduceLeDiff, Nat.reduceLT, Int.reduceToNat, Int.reduceLE, Int.reduceLT, Int.reduceNeg, h_DrawValidInner, mDrawInner, h_ValidInnerI, mValidInner, h_ValidInnerS, mValidInner, h3, h5, h6, g1, hh, hb, Nat.sub_zero, e2, sub_zero, hT, hr]
theorem fo_FnValidInner : FnOk Try.prog 15 := fnOk_of Try.func15 (by kernel_rfl)
theorem c_FnValidInner : Contract Try.prog 15 mLawB :=
  contract_of_does (DT := fun _ => []) Try.checked.mixed tabOk (gok_model fo_DrawValidInner c_DrawValidInner (gok_model fo_ValidInnerI c_ValidInnerI (gok_model fo_ValidInnerS c_ValidInnerS gok_nil))) Try.func15 rfl (by kernel_rfl) (does_FnValidInner rfl rfl rfl)

theorem fn_FnValidInner (x : List Int) (h : (∀ y ∈ x, intWf .u8 y) ∧ x.length ≤ maxLen) : mLawB.fn [eBs false x] = some (.b true, []) := by
  have h1 : Bytes x := h.1
  have h2 : x.length ≤ 9223372036854775807 := h.2
  simp (config := {maxSteps := 1000000}) (disch := omega) only [go_sem, ↓reduceIte, Nat.reduceEqDiff, Nat.reduceAdd, Nat.reduceMul, Nat.reduceSub, Nat.reduceLeDiff, Nat.reduceLT, Int.reduceToNat, Int.reduceLE, Int.reduceLT, Int.reduceNeg, mLawB, h1]

theorem does_FnValidInnerTwice {G : Nat → Option FM} (h_DrawValidInner : G 55 = some (.model mDrawInner)) (h_ValidInnerI : G 52 = some (.model mValidInner)) (h_ValidInnerS : G 50 = some (.model mValidInner)) : Does T G (fun _ => []) Try.f16 mLawB := by
  refine does1 (rs := [.tmp 2]) rfl rfl fun bs ro h => ?_
  obtain ⟨⟨h8, hl⟩, rfl⟩ := gd_some h
  have hB := bs_take h8
  obtain ⟨b1, b2⟩ : (drawI bs).keys.length ≤ 6 ∧ (drawI bs).kids.length ≤ 7 := aiX_len _ _
  refine ⟨fun _ => ⟨rfl, rfl⟩, ?_⟩
  simp (config := {maxSteps := 1000000}) (disch := omega) only [go_sem, ↓reduceIte, Nat.reduceEqDiff, Nat.reduceAdd, Nat.reduceMul, Nat.reduceSub, Nat.reduceLeDiff, Nat.reduceLT, Int.reduceToNat, Int.reduceLE, Int.reduceLT, Int.reduceNeg, h_DrawValidInner, mDrawInner, h_ValidInnerI, mValidInner, h_ValidInnerS, mValidInner]
  (first | refine runKS_split (fun g => ?_) (fun g => ?_) | refine cond_split (fun g => ?_) (fun g => ?_) | refine runK_split (fun g => ?_) (fun g => ?_))
  · simp (config := {maxSteps := 1000000}) (disch := omega) only [go_sem, ↓reduceIte, Nat.reduceEqDiff, Nat.reduceAdd, Nat.reduceMul, Nat.reduceSub, Nat.reduceLeDiff, Nat.reduceLT, Int.reduceToNat, Int.reduceLE, Int.reduceLT, Int.reduceNeg, h_DrawValidInner, mDrawInner, h_ValidInnerI, mValidInner, h_ValidInnerS, mValidInner]
  · have g' := of_decide_eq_false g
    cases hv : vInn (drawI bs)
    · simp (config := {maxSteps := 1000000}) (disch := omega) only [go_sem, ↓reduceIte, Nat.reduceEqDiff, Nat.reduceAdd, Nat.reduceMul, Nat.reduceSub, Nat.reduceLeDiff, Nat.reduceLT, Int.reduceToNat, Int.reduceLE, Int.reduceLT, Int.reduceNeg, h_DrawValidInner, mDrawInner, h_ValidInnerI, mValidInner, h_ValidInnerS, mValidInner, g, hB, hv]
      rfl
    · have ht := vInn_twice hv
      have hq := vInn_iff.1 hv
      have e2 : decide (((drawI bs).keys.length : Int) ≤ 5) = true := decide_eq_true (by omega)
      have hl2 : ((drawI bs).kids.set 1 ((drawI bs).kids.getD 0 0)).length = (drawI bs).kids.length := List.length_set ..
      have hT : ((drawI bs).kids.set 1 ((drawI bs).kids.getD 0 0)).take (drawI bs).kids.length = (drawI bs).kids.set 1 ((drawI bs).kids.getD 0 0) := List.take_of_length_le (by omega)
      simp (config := {maxSteps := 1000000}) (disch := omega) only [go_sem, ↓reduceIte, Nat.reduceEqDiff, Nat.reduceAdd, Nat.reduceMul, Nat.reduceSub, Nat.reduceLeDiff, Nat.reduceLT, Int.reduceToNat, Int.reduceLE, Int.reduceLT, Int.reduceNeg, h_DrawValidInner, mDrawInner, h_ValidInnerI, mValidInner, h_ValidInnerS, mValidInner, g, hB, hv, e2, ht, sub_zero, hT]
theorem fo_FnValidInnerTwice : FnOk Try.prog 16 := fnOk_of Try.func16 (by kernel_rfl)
theorem c_FnValidInnerTwice : Contract Try.prog 16 mLawB :=
  contract_of_does (DT := fun _ => []) Try.checked.mixed tabOk (gok_model fo_DrawValidInner c_DrawValidInner (gok_model fo_ValidInnerI c_ValidInnerI (gok_model fo_ValidInnerS c_ValidInnerS gok_nil))) Try.func16 rfl (by kernel_rfl) (does_FnValidInnerTwice rfl rfl rfl)

theorem fn_FnValidInnerTwice (x : List Int) (h : (∀ y ∈ x, intWf .u8 y) ∧ x.length ≤ maxLen) : mLawB.fn [eBs false x] = some (.b true, []) := by
  have h1 : Bytes x := h.1
  have h2 : x.length ≤ 9223372036854775807 := h.2
  simp (config := {maxSteps := 1000000}) (disch := omega) only [go_sem, ↓reduceIte, Nat.reduceEqDiff, Nat.reduceAdd, Nat.reduceMul, Nat.reduceSub, Nat.reduceLeDiff, Nat.reduceLT, Int.reduceToNat, Int.reduceLE, Int.reduceLT, Int.reduceNeg, mLawB, h1]
end Go.TM
