/- Contracts, 2: valid keys. -/
import Derived.Test.YtbpfagbihffmbaaF1
import Derived.Test.YtbpfagbihffmbaaTmD
namespace Go.TM
open Go.Proofs
set_option linter.unusedVariables false
set_option linter.unusedSimpArgs false
set_option maxRecDepth 100000

theorem vk_of {xs : List Int} (h : ∀ i, i < xs.length → inR (xs.getD i 0) 0 99 = true) (h' : ∀ i, 0 < i → i < xs.length → xs.getD (i - 1) 0 < xs.getD i 0) : vk xs = true := by
  rw [vk_iff]
  refine ⟨fun i hi => by simpa using h' (i + 1) (by omega) hi, fun i hi => ?_⟩
  have := h i hi
  simp only [inR, Bool.and_eq_true, decide_eq_true_eq] at this
  exact this

theorem does_ValidKeysI {G : Nat → Option FM} (h_isKey : G 85 = some (.model mIsKey)) : Does T G (fun id => match id with  | _ => []) Try.f163 mValidKeys := by
  refine does1 (rs := [.tmp 2]) rfl rfl fun xs ro h => ?_
  obtain ⟨hs, rfl⟩ := gd_some h
  refine ⟨fun _ => ⟨rfl, rfl⟩, ?_⟩
  simp (config := {maxSteps := 1000000}) (disch := omega) only [go_sem, ↓reduceIte, Nat.reduceEqDiff, Nat.reduceAdd, Nat.reduceMul, Nat.reduceSub, Nat.reduceLeDiff, Nat.reduceLT, Int.reduceToNat, Int.reduceLE, Int.reduceLT, Int.reduceNeg, h_isKey, mIsKey]
  refine W_loop_i (fun s => s.sl 0 = eIs false xs ∧ s.sl 5 = eIs false xs ∧ s.sl 6 = eI xs.length ∧ ∃ k : Nat, k ≤ xs.length ∧ s.sl 7 = eI k ∧ (∀ i, i < k → inR (xs.getD i 0) 0 99 = true) ∧ (∀ i, 0 < i → i < k → xs.getD (i - 1) 0 < xs.getD i 0)) (fun s => xs.length - iN (s.sl 7)) ?_ ?_
  · exact ⟨rfl, rfl, rfl, 0, Nat.zero_le _, rfl, fun i hi => by omega, fun i _ hi => by omega⟩
  · rintro sl hp n ⟨h0, h5, h6, k, hk, h7, ha, hb⟩
    dsimp only at h0 h5 h6 h7
    simp (config := {maxSteps := 1000000}) (disch := omega) only [go_sem, ↓reduceIte, Nat.reduceEqDiff, Nat.reduceAdd, Nat.reduceMul, Nat.reduceSub, Nat.reduceLeDiff, Nat.reduceLT, Int.reduceToNat, Int.reduceLE, Int.reduceLT, Int.reduceNeg, h_isKey, mIsKey, h0, h5, h6, h7]
    (first | refine runKS_split (fun h => ?_) (fun h => ?_) | refine cond_split (fun h => ?_) (fun h => ?_) | refine runK_split (fun h => ?_) (fun h => ?_))
    · have hlt := of_decide_eq_true h
      simp (config := {maxSteps := 1000000}) (disch := omega) only [go_sem, ↓reduceIte, Nat.reduceEqDiff, Nat.reduceAdd, Nat.reduceMul, Nat.reduceSub, Nat.reduceLeDiff, Nat.reduceLT, Int.reduceToNat, Int.reduceLE, Int.reduceLT, Int.reduceNeg, h_isKey, mIsKey, h0, h5, h6, h7, h]
      (first | refine runKS_split (fun h1 => ?_) (fun h1 => ?_) | refine cond_split (fun h1 => ?_) (fun h1 => ?_) | refine runK_split (fun h1 => ?_) (fun h1 => ?_))
      · simp (config := {maxSteps := 1000000}) (disch := omega) only [go_sem, ↓reduceIte, Nat.reduceEqDiff, Nat.reduceAdd, Nat.reduceMul, Nat.reduceSub, Nat.reduceLeDiff, Nat.reduceLT, Int.reduceToNat, Int.reduceLE, Int.reduceLT, Int.reduceNeg, h_isKey, mIsKey]
        rw [vk_f]
        intro hv
        have := hv.2 k (by omega)
        simp only [inR, Bool.not_eq_true', Bool.and_eq_false_iff, decide_eq_false_iff_not] at h1
        omega
      · simp (config := {maxSteps := 1000000}) (disch := omega) only [go_sem, ↓reduceIte, Nat.reduceEqDiff, Nat.reduceAdd, Nat.reduceMul, Nat.reduceSub, Nat.reduceLeDiff, Nat.reduceLT, Int.reduceToNat, Int.reduceLE, Int.reduceLT, Int.reduceNeg, h_isKey, mIsKey, h0, h5, h6, h7]
        have h1' : inR (xs.getD k 0) 0 99 = true := by simpa using h1
        (first | refine runKS_split (fun h2 => ?_) (fun h2 => ?_) | refine cond_split (fun h2 => ?_) (fun h2 => ?_) | refine runK_split (fun h2 => ?_) (fun h2 => ?_))
        · have hk0 := of_decide_eq_true h2
          have e1 : ((k : Int) - 1).toNat = k - 1 := by omega
          simp (config := {maxSteps := 1000000}) (disch := omega) only [go_sem, ↓reduceIte, Nat.reduceEqDiff, Nat.reduceAdd, Nat.reduceMul, Nat.reduceSub, Nat.reduceLeDiff, Nat.reduceLT, Int.reduceToNat, Int.reduceLE, Int.reduceLT, Int.reduceNeg, h_isKey, mIsKey, h0, h5, h6, h7, e1, h2]
          (first | refine runKS_split (fun h3 => ?_) (fun h3 => ?_) | refine cond_split (fun h3 => ?_) (fun h3 => ?_) | refine runK_split (fun h3 => ?_) (fun h3 => ?_))
          · have h3 := of_decide_eq_true h3
            simp (config := {maxSteps := 1000000}) (disch := omega) only [go_sem, ↓reduceIte, Nat.reduceEqDiff, Nat.reduceAdd, Nat.reduceMul, Nat.reduceSub, Nat.reduceLeDiff, Nat.reduceLT, Int.reduceToNat, Int.reduceLE, Int.reduceLT, Int.reduceNeg, h_isKey, mIsKey]
            rw [vk_f]
            intro hv
            have := hv.1 (k - 1) (by omega)
            rw [show k - 1 + 1 = k from by omega] at this
            omega
          · have h3 := of_decide_eq_false h3
            simp (config := {maxSteps := 1000000}) (disch := omega) only [go_sem, ↓reduceIte, Nat.reduceEqDiff, Nat.reduceAdd, Nat.reduceMul, Nat.reduceSub, Nat.reduceLeDiff, Nat.reduceLT, Int.reduceToNat, Int.reduceLE, Int.reduceLT, Int.reduceNeg, h_isKey, mIsKey, h0, h5, h6, h7]
            refine ⟨⟨k + 1, by omega, rfl, fun i hi => ?_, fun i hi hj => ?_⟩, by omega⟩
            · by_cases he : i = k
              · rw [he]; exact h1'
              · exact ha i (by omega)
            · by_cases he : i = k
              · rw [he]; omega
              · exact hb i hi (by omega)
        · have hk0 := of_decide_eq_false h2
          simp (config := {maxSteps := 1000000}) (disch := omega) only [go_sem, ↓reduceIte, Nat.reduceEqDiff, Nat.reduceAdd, Nat.reduceMul, Nat.reduceSub, Nat.reduceLeDiff, Nat.reduceLT, Int.reduceToNat, Int.reduceLE, Int.reduceLT, Int.reduceNeg, h_isKey, mIsKey, h0, h5, h6, h7, h2]
          refine ⟨⟨k + 1, by omega, rfl, fun i hi => ?_, fun i hi hj => ?_⟩, by omega⟩
          · by_cases he : i = k
            · rw [he]; exact h1'
            · exact ha i (by omega)
          · omega
    · have hge := of_decide_eq_false h
      simp (config := {maxSteps := 1000000}) (disch := omega) only [go_sem, ↓reduceIte, Nat.reduceEqDiff, Nat.reduceAdd, Nat.reduceMul, Nat.reduceSub, Nat.reduceLeDiff, Nat.reduceLT, Int.reduceToNat, Int.reduceLE, Int.reduceLT, Int.reduceNeg, h_isKey, mIsKey]
      rw [vk_of (fun i hi => ha i (by omega)) (fun i hi hj => hb i hi (by omega))]
theorem fo_ValidKeysI : FnOk Try.prog 163 := fnOk_of Try.func163 (by kernel_rfl)
theorem c_ValidKeysI : Contract Try.prog 163 mValidKeys :=
  contract_of_does (DT := fun id => match id with  | _ => []) Try.checked.mixed tabOk (gok_model fo_isKey c_isKey gok_nil) Try.func163 rfl (by kernel_rfl) (does_ValidKeysI rfl)



def mLaw1 : Model := M1 .ro true (cIs false) fun xs => some (.b true, [])

theorem fn_FnExactValidKeys (x : List Int) (h : (∀ y ∈ x, intWf .i64 y) ∧ x.length ≤ maxLen) : mLaw1.fn [eIs false x] = some (.b true, []) := by
  simp (config := {maxSteps := 1000000}) (disch := omega) only [go_sem, ↓reduceIte, Nat.reduceEqDiff, Nat.reduceAdd, Nat.reduceMul, Nat.reduceSub, Nat.reduceLeDiff, Nat.reduceLT, Int.reduceToNat, Int.reduceLE, Int.reduceLT, Int.reduceNeg, mLaw1]
end Go.TM
