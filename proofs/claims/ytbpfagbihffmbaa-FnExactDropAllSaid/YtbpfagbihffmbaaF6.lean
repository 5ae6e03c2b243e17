/- Contracts, 2 3 4 5 6. -/
import Derived.Test.YtbpfagbihffmbaaF1
import Derived.Test.YtbpfagbihffmbaaTmD
/- Contracts, 2: valid keys. -/
namespace Go.TM
open Go.Proofs
set_option linter.unusedVariables false
set_option linter.unusedSimpArgs false
set_option maxRecDepth 100000

theorem vk_of {xs : List Int} (h : ∀ i, i < xs.length → inR (xs.getD i 0) 0 99 = true) (h' : ∀ i, 0 < i → i < xs.length → xs.getD (i - 1) 0 < xs.getD i 0) : vk xs = true := by
  rw [vk_iff]
  refine ⟨fun i hi => by simpa using h' (i + 1) (by omega) hi, fun i hi => ?_⟩
  have := h i hi
  simp only [inR, Bool.and_eq_true, decide_eq_true_eq] at this
  exact this

theorem does_ValidKeysI {G : Nat → Option FM} (h_isKey : G 85 = some (.model mIsKey)) : Does T G (fun id => match id with  | _ => []) Try.f163 mValidKeys := by
  refine does1 (rs := [.tmp 2]) rfl rfl fun xs ro h => ?_
  obtain ⟨hs, rfl⟩ := gd_some h
  refine ⟨fun _ => ⟨rfl, rfl⟩, ?_⟩
  simp (config := {maxSteps := 1000000}) (disch := omega) only [go_sem, ↓reduceIte, Nat.reduceEqDiff, Nat.reduceAdd, Nat.reduceMul, Nat.reduceSub, Nat.reduceLeDiff, Nat.reduceLT, Int.reduceToNat, Int.reduceLE, Int.reduceLT, Int.reduceNeg, h_isKey, mIsKey]
  refine W_loop_i (fun s => s.sl 0 = eIs false xs ∧ s.sl 5 = eIs false xs ∧ s.sl 6 = eI xs.length ∧ ∃ k : Nat, k ≤ xs.length ∧ s.sl 7 = eI k ∧ (∀ i, i < k → inR (xs.getD i 0) 0 99 = true) ∧ (∀ i, 0 < i → i < k → xs.getD (i - 1) 0 < xs.getD i 0)) (fun s => xs.length - iN (s.sl 7)) ?_ ?_
  · exact ⟨rfl, rfl, rfl, 0, Nat.zero_le _, rfl, fun i hi => by omega, fun i _ hi => by omega⟩
  · rintro sl hp n ⟨h0, h5, h6, k, hk, h7, ha, hb⟩
    dsimp only at h0 h5 h6 h7
    simp (config := {maxSteps := 1000000}) (disch := omega) only [go_sem, ↓reduceIte, Nat.reduceEqDiff, Nat.reduceAdd, Nat.reduceMul, Nat.reduceSub, Nat.reduceLeDiff, Nat.reduceLT, Int.reduceToNat, Int.reduceLE, Int.reduceLT, Int.reduceNeg, h_isKey, mIsKey, h0, h5, h6, h7]
    (first | refine runKS_split (fun h => ?_) (fun h => ?_) | refine cond_split (fun h => ?_) (fun h => ?_) | refine runK_split (fun h => ?_) (fun h => ?_))
    · have hlt := of_decide_eq_true h
      simp (config := {maxSteps := 1000000}) (disch := omega) only [go_sem, ↓reduceIte, Nat.reduceEqDiff, Nat.reduceAdd, Nat.reduceMul, Nat.reduceSub, Nat.reduceLeDiff, Nat.reduceLT, Int.reduceToNat, Int.reduceLE, Int.reduceLT, Int.reduceNeg, h_isKey, mIsKey, h0, h5, h6, h7, h]
      (first | refine runKS_split (fun h1 => ?_) (fun h1 => ?_) | refine cond_split (fun h1 => ?_) (fun h1 => ?_) | refine runK_split (fun h1 => ?_) (fun h1 => ?_))
      · simp (config := {maxSteps := 1000000}) (disch := omega) only [go_sem, ↓reduceIte, Nat.reduceEqDiff, Nat.reduceAdd, Nat.reduceMul, Nat.reduceSub, Nat.reduceLeDiff, Nat.reduceLT, Int.reduceToNat, Int.reduceLE, Int.reduceLT, Int.reduceNeg, h_isKey, mIsKey]
        rw [vk_f]
        intro hv
        have := hv.2 k (by omega)
        simp only [inR, Bool.not_eq_true', Bool.and_eq_false_iff, decide_eq_false_iff_not] at h1
        omega
      · simp (config := {maxSteps := 1000000}) (disch := omega) only [go_sem, ↓reduceIte, Nat.reduceEqDiff, Nat.reduceAdd, Nat.reduceMul, Nat.reduceSub, Nat.reduceLeDiff, Nat.reduceLT, Int.reduceToNat, Int.reduceLE, Int.reduceLT, Int.reduceNeg, h_isKey, mIsKey, h0, h5, h6, h7]
        have h1' : inR (xs.getD k 0) 0 99 = true := by simpa using h1
        (first | refine runKS_split (fun h2 => ?_) (fun h2 => ?_) | refine cond_split (fun h2 => ?_) (fun h2 => ?_) | refine runK_split (fun h2 => ?_) (fun h2 => ?_))
        · have hk0 := of_decide_eq_true h2
          have e1 : ((k : Int) - 1).toNat = k - 1 := by omega
          simp (config := {maxSteps := 1000000}) (disch := omega) only [go_sem, ↓reduceIte, Nat.reduceEqDiff, Nat.reduceAdd, Nat.reduceMul, Nat.reduceSub, Nat.reduceLeDiff, Nat.reduceLT, Int.reduceToNat, Int.reduceLE, Int.reduceLT, Int.reduceNeg, h_isKey, mIsKey, h0, h5, h6, h7, e1, h2]
          (first | refine runKS_split (fun h3 => ?_) (fun h3 => ?_) | refine cond_split (fun h3 => ?_) (fun h3 => ?_) | refine runK_split (fun h3 => ?_) (fun h3 => ?_))
          · have h3 := of_decide_eq_true h3
            simp (config := {maxSteps := 1000000}) (disch := omega) only [go_sem, ↓reduceIte, Nat.reduceEqDiff, Nat.reduceAdd, Nat.reduceMul, Nat.reduceSub, Nat.reduceLeDiff, Nat.reduceLT, Int.reduceToNat, Int.reduceLE, Int.reduceLT, Int.reduceNeg, h_isKey, mIsKey]
            rw [vk_f]
            intro hv
            have := hv.1 (k - 1) (by omega)
            rw [show k - 1 + 1 = k from by omega] at this
            omega
          · have h3 := of_decide_eq_false h3
            simp (config := {maxSteps := 1000000}) (disch := omega) only [go_sem, ↓reduceIte, Nat.reduceEqDiff, Nat.reduceAdd, Nat.reduceMul, Nat.reduceSub, Nat.reduceLeDiff, Nat.reduceLT, Int.reduceToNat, Int.reduceLE, Int.reduceLT, Int.reduceNeg, h_isKey, mIsKey, h0, h5, h6, h7]
            refine ⟨⟨k + 1, by omega, rfl, fun i hi => ?_, fun i hi hj => ?_⟩, by omega⟩
            · by_cases he : i = k
              · rw [he]; exact h1'
              · exact ha i (by omega)
            · by_cases he : i = k
              · rw [he]; omega
              · exact hb i hi (by omega)
        · have hk0 := of_decide_eq_false h2
          simp (config := {maxSteps := 1000000}) (disch := omega) only [go_sem, ↓reduceIte, Nat.reduceEqDiff, Nat.reduceAdd, Nat.reduceMul, Nat.reduceSub, Nat.reduceLeDiff, Nat.reduceLT, Int.reduceToNat, Int.reduceLE, Int.reduceLT, Int.reduceNeg, h_isKey, mIsKey, h0, h5, h6, h7, h2]
          refine ⟨⟨k + 1, by omega, rfl, fun i hi => ?_, fun i hi hj => ?_⟩, by omega⟩
          · by_cases he : i = k
            · rw [he]; exact h1'
            · exact ha i (by omega)
          · omega
    · have hge := of_decide_eq_false h
      simp (config := {maxSteps := 1000000}) (disch := omega) only [go_sem, ↓reduceIte, Nat.reduceEqDiff, Nat.reduceAdd, Nat.reduceMul, Nat.reduceSub, Nat.reduceLeDiff, Nat.reduceLT, Int.reduceToNat, Int.reduceLE, Int.reduceLT, Int.reduceNeg, h_isKey, mIsKey]
      rw [vk_of (fun i hi => ha i (by omega)) (fun i hi hj => hb i hi (by omega))]
theorem fo_ValidKeysI : FnOk Try.prog 163 := fnOk_of Try.func163 (by kernel_rfl)
theorem c_ValidKeysI : Contract Try.prog 163 mValidKeys :=
  contract_of_does (DT := fun id => match id with  | _ => []) Try.checked.mixed tabOk (gok_model fo_isKey c_isKey gok_nil) Try.func163 rfl (by kernel_rfl) (does_ValidKeysI rfl)



end Go.TM
/- Contracts, 3: rows of operations. -/
namespace Go.TM
open Go.Proofs
set_option linter.unusedVariables false
set_option linter.unusedSimpArgs false
set_option maxRecDepth 100000

theorem all_f {α : Type} {f : α → Bool} {xs : List α} {d : α} {k : Nat} (hk : k < xs.length) (h : f (xs.getD k d) = false) : xs.all f = false := by
  rw [Bool.eq_false_iff]
  intro hh
  rw [List.all_eq_true] at hh
  have := hh (xs.getD k d) (by simp [hk])
  rw [h] at this; cases this
theorem all_t {α : Type} {f : α → Bool} {xs : List α} (d : α) (h : ∀ i, i < xs.length → f (xs.getD i d) = true) : xs.all f = true := by
  rw [List.all_eq_true]
  intro x hx
  obtain ⟨i, hi, rfl⟩ := List.getElem_of_mem hx
  have := h i hi
  simpa [hi] using this
theorem all_step {α : Type} {d : α} {f : α → Bool} {xs : List α} {k : Nat} (h : ∀ i, i < k → f (xs.getD i d) = true) (hk : f (xs.getD k d) = true) : ∀ i, i < k + 1 → f (xs.getD i d) = true := by
  intro i hi
  by_cases he : i = k
  · rw [he]; exact hk
  · exact h i (by omega)

end Go.TM
/- Contracts, 4: rows of pairs. -/
namespace Go.TM
open Go.Proofs
set_option linter.unusedVariables false
set_option linter.unusedSimpArgs false
set_option maxRecDepth 100000

def keysP (xs : List Pr) : List Int := xs.map (·.1)
noncomputable def vRow (xs : List Pr) : Bool := (xs.all fun p => inR p.2 (-1000) 1000) && (decide (xs.length ≤ 24) && vk (keysP xs))
noncomputable def mValidRow : Model := M1 .ro true (cRow false) fun xs => gd (xs.length ≤ 1099511627776) (.b (vRow xs), [])
def mKeysOf : Model := M1 .ro true (cRow false) fun xs => gd (xs.length ≤ 1099511627776) (eIs true (keysP xs), [])

theorem clean_row (xs : List Pr) : cleanL (xs.flatMap ePr) = true := by
  induction xs with
  | nil => rfl
  | cons x xs ih => rw [List.flatMap_cons]; simp [ePr, cleanL, cleanA, ih]
theorem keysP_len (xs : List Pr) : (keysP xs).length = xs.length := by simp [keysP]
theorem keysP_step {xs : List Pr} {k : Nat} (h : k < xs.length) : keysP (xs.take (k + 1)) = keysP (xs.take k) ++ [(xs.getD k default).1] := by
  rw [List.take_succ_eq_append_getElem h, keysP, List.map_append]; simp [keysP, h]
theorem app_I {xs : List Int} {k : Nat} (h : xs.length = k) (v : Int) : (xs.map eI).take k ++ [A.i .i64 v] = (xs ++ [v]).map eI := by
  rw [List.take_of_length_le (by simp [h]), List.map_append]; rfl






theorem does_keysOf {G : Nat → Option FM}  : Does T G (fun id => match id with  | _ => []) Try.f104 mKeysOf := by
  refine does1 (rs := [.tmp 2]) rfl rfl fun xs ro h => ?_
  obtain ⟨hs, rfl⟩ := gd_some h
  refine ⟨fun _ => ⟨by simp [cleanA, clean_ints], rfl⟩, ?_⟩
  simp (config := {maxSteps := 1000000}) (disch := omega) only [go_sem, ↓reduceIte, Nat.reduceEqDiff, Nat.reduceAdd, Nat.reduceMul, Nat.reduceSub, Nat.reduceLeDiff, Nat.reduceLT, Int.reduceToNat, Int.reduceLE, Int.reduceLT, Int.reduceNeg]
  refine W_loop_i (fun s => s.sl 0 = eRow false xs ∧ ∃ k : Nat, k ≤ xs.length ∧ s.sl 4 = eI k ∧ ∃ m, m < s.n ∧ s.sl 3 = .ref (m, 0) [] 0 0 1 k ∧ s.hp (m, 0) = some ⟨1, k, (keysP (xs.take k)).map eI, fun _ => 0⟩) (fun s => xs.length - iN (s.sl 4)) ?_ ?_
  · refine ⟨rfl, 0, Nat.zero_le _, rfl, 4, ?_, rfl, ?_⟩
    · simp (config := {maxSteps := 1000000}) (disch := omega) only [go_sem, ↓reduceIte, Nat.reduceEqDiff, Nat.reduceAdd, Nat.reduceMul, Nat.reduceSub, Nat.reduceLeDiff, Nat.reduceLT, Int.reduceToNat, Int.reduceLE, Int.reduceLT, Int.reduceNeg]
    · simp (config := {maxSteps := 1000000}) (disch := omega) only [go_sem, ↓reduceIte, Nat.reduceEqDiff, Nat.reduceAdd, Nat.reduceMul, Nat.reduceSub, Nat.reduceLeDiff, Nat.reduceLT, Int.reduceToNat, Int.reduceLE, Int.reduceLT, Int.reduceNeg]
      rfl
  · rintro sl hp n ⟨h0, k, hk, h4, m, hm, h3, hh⟩
    dsimp only at h0 h4 h3 hh hm
    simp (config := {maxSteps := 1000000}) (disch := omega) only [go_sem, ↓reduceIte, Nat.reduceEqDiff, Nat.reduceAdd, Nat.reduceMul, Nat.reduceSub, Nat.reduceLeDiff, Nat.reduceLT, Int.reduceToNat, Int.reduceLE, Int.reduceLT, Int.reduceNeg, h0, h3, h4]
    (first | refine runKS_split (fun h => ?_) (fun h => ?_) | refine cond_split (fun h => ?_) (fun h => ?_) | refine runK_split (fun h => ?_) (fun h => ?_))
    · have hlt := of_decide_eq_true h
      simp (config := {maxSteps := 1000000}) (disch := omega) only [go_sem, ↓reduceIte, Nat.reduceEqDiff, Nat.reduceAdd, Nat.reduceMul, Nat.reduceSub, Nat.reduceLeDiff, Nat.reduceLT, Int.reduceToNat, Int.reduceLE, Int.reduceLT, Int.reduceNeg, h0, h3, h4, h, hh]
      refine ⟨⟨k + 1, by omega, rfl, _, ?_, rfl, (upd_same ..).trans ?_⟩, by omega⟩
      · omega
      · rw [keysP_step (by omega), app_I (by simp [keysP]; omega)]
    · have hge := of_decide_eq_false h
      simp (config := {maxSteps := 1000000}) (disch := omega) only [go_sem, ↓reduceIte, Nat.reduceEqDiff, Nat.reduceAdd, Nat.reduceMul, Nat.reduceSub, Nat.reduceLeDiff, Nat.reduceLT, Int.reduceToNat, Int.reduceLE, Int.reduceLT, Int.reduceNeg, h0, h3, h4, h, hh]
      obtain rfl : k = xs.length := by omega
      simp [keysP_len]
theorem fo_keysOf : FnOk Try.prog 104 := fnOk_of Try.func104 (by kernel_rfl)
theorem c_keysOf : Contract Try.prog 104 mKeysOf :=
  contract_of_does (DT := fun id => match id with  | _ => []) Try.checked.mixed tabOk gok_nil Try.func104 rfl (by kernel_rfl) (does_keysOf )


theorem does_keysOfRow {G : Nat → Option FM}  : Does T G (fun id => match id with  | _ => []) Try.f127 mKeysOf := by
  refine does1 (rs := [.tmp 2]) rfl rfl fun xs ro h => ?_
  obtain ⟨hs, rfl⟩ := gd_some h
  refine ⟨fun _ => ⟨by simp [cleanA, clean_ints], rfl⟩, ?_⟩
  simp (config := {maxSteps := 1000000}) (disch := omega) only [go_sem, ↓reduceIte, Nat.reduceEqDiff, Nat.reduceAdd, Nat.reduceMul, Nat.reduceSub, Nat.reduceLeDiff, Nat.reduceLT, Int.reduceToNat, Int.reduceLE, Int.reduceLT, Int.reduceNeg, rep_eI]
  refine W_loop_i (fun s => s.sl 0 = eRow false xs ∧ s.sl 9 = eRow false xs ∧ s.sl 10 = eI xs.length ∧ ∃ m, m < s.n ∧ s.sl 3 = .ref (m, 0) [] 0 0 1 xs.length ∧ ∃ k : Nat, k ≤ xs.length ∧ s.sl 11 = eI k ∧ ∃ ys : List Int, ys.length = xs.length ∧ (∀ i, i < k → ys.getD i 0 = (xs.getD i default).1) ∧ s.hp (m, 0) = some ⟨1, xs.length, ys.map eI, fun _ => 0⟩) (fun s => xs.length - iN (s.sl 11)) ?_ ?_
  · refine ⟨rfl, rfl, rfl, _, ?_, rfl, 0, Nat.zero_le _, rfl, List.replicate xs.length 0, by simp, fun i hi => by omega, ?_⟩
    · simp (config := {maxSteps := 1000000}) (disch := omega) only [go_sem, ↓reduceIte, Nat.reduceEqDiff, Nat.reduceAdd, Nat.reduceMul, Nat.reduceSub, Nat.reduceLeDiff, Nat.reduceLT, Int.reduceToNat, Int.reduceLE, Int.reduceLT, Int.reduceNeg]
    · simp (config := {maxSteps := 1000000}) (disch := omega) only [go_sem, ↓reduceIte, Nat.reduceEqDiff, Nat.reduceAdd, Nat.reduceMul, Nat.reduceSub, Nat.reduceLeDiff, Nat.reduceLT, Int.reduceToNat, Int.reduceLE, Int.reduceLT, Int.reduceNeg]
  · rintro sl hp n ⟨h0, h9, h10, m, hm, h3, k, hk, h11, ys, hy, hall, hh⟩
    dsimp only at h0 h9 h10 h3 h11 hh hm
    simp (config := {maxSteps := 1000000}) (disch := omega) only [go_sem, ↓reduceIte, Nat.reduceEqDiff, Nat.reduceAdd, Nat.reduceMul, Nat.reduceSub, Nat.reduceLeDiff, Nat.reduceLT, Int.reduceToNat, Int.reduceLE, Int.reduceLT, Int.reduceNeg, h0, h9, h10, h3, h11]
    (first | refine runKS_split (fun h => ?_) (fun h => ?_) | refine cond_split (fun h => ?_) (fun h => ?_) | refine runK_split (fun h => ?_) (fun h => ?_))
    · have hlt := of_decide_eq_true h
      simp (config := {maxSteps := 1000000}) (disch := omega) only [go_sem, ↓reduceIte, Nat.reduceEqDiff, Nat.reduceAdd, Nat.reduceMul, Nat.reduceSub, Nat.reduceLeDiff, Nat.reduceLT, Int.reduceToNat, Int.reduceLE, Int.reduceLT, Int.reduceNeg, h0, h9, h10, h3, h11, h, hh, ePr]
      exact ⟨⟨m, by omega, rfl, k + 1, by omega, rfl, ys.set k (xs.getD k default).1, by simp [hy], set_step (fun i => (xs.getD i default).1) (by omega) hall, upd_same ..⟩, by omega⟩
    · have hge := of_decide_eq_false h
      simp (config := {maxSteps := 1000000}) (disch := omega) only [go_sem, ↓reduceIte, Nat.reduceEqDiff, Nat.reduceAdd, Nat.reduceMul, Nat.reduceSub, Nat.reduceLeDiff, Nat.reduceLT, Int.reduceToNat, Int.reduceLE, Int.reduceLT, Int.reduceNeg, h0, h3, h11, h, hh]
      rw [show ys = keysP xs from list_ext (d := 0) (by simp [keysP, hy]) fun i hi => by
        simp only [keysP, List.length_map] at hi
        rw [hall i (by omega)]
        simp [keysP, hi]]
      simp [keysP]
theorem fo_keysOfRow : FnOk Try.prog 127 := fnOk_of Try.func127 (by kernel_rfl)
theorem c_keysOfRow : Contract Try.prog 127 mKeysOf :=
  contract_of_does (DT := fun id => match id with  | _ => []) Try.checked.mixed tabOk gok_nil Try.func127 rfl (by kernel_rfl) (does_keysOfRow )


theorem does_validRow {G : Nat → Option FM} (h_inRange : G 83 = some (.model mInRange)) (h_keysOf : G 104 = some (.model mKeysOf)) (h_validKeys : G 118 = some (.model mValidKeys)) : Does T G (fun id => match id with  | _ => []) Try.f69 mValidRow := by
  refine does1 (rs := [.tmp 2]) rfl rfl fun xs ro h => ?_
  obtain ⟨hs, rfl⟩ := gd_some h
  have hkl := keysP_len xs
  refine ⟨fun _ => ⟨rfl, rfl⟩, ?_⟩
  simp (config := {maxSteps := 1000000}) (disch := omega) only [go_sem, ↓reduceIte, Nat.reduceEqDiff, Nat.reduceAdd, Nat.reduceMul, Nat.reduceSub, Nat.reduceLeDiff, Nat.reduceLT, Int.reduceToNat, Int.reduceLE, Int.reduceLT, Int.reduceNeg, h_inRange, mInRange, h_keysOf, mKeysOf, h_validKeys, mValidKeys]
  refine W_loop_i (fun s => s.sl 0 = eRow false xs ∧ ∃ k : Nat, k ≤ xs.length ∧ s.sl 3 = eI k ∧ ∀ i, i < k → inR (xs.getD i default).2 (-1000) 1000 = true) (fun s => xs.length - iN (s.sl 3)) ?_ ?_
  · exact ⟨rfl, 0, Nat.zero_le _, rfl, fun i hi => by omega⟩
  · rintro sl hp n ⟨h0, k, hk, h3, ha⟩
    dsimp only at h0 h3
    simp (config := {maxSteps := 1000000}) (disch := omega) only [go_sem, ↓reduceIte, Nat.reduceEqDiff, Nat.reduceAdd, Nat.reduceMul, Nat.reduceSub, Nat.reduceLeDiff, Nat.reduceLT, Int.reduceToNat, Int.reduceLE, Int.reduceLT, Int.reduceNeg, h_inRange, mInRange, h_keysOf, mKeysOf, h_validKeys, mValidKeys, h0, h3]
    (first | refine runKS_split (fun h1 => ?_) (fun h1 => ?_) | refine cond_split (fun h1 => ?_) (fun h1 => ?_) | refine runK_split (fun h1 => ?_) (fun h1 => ?_))
    · have hlt : k < xs.length := by have := of_decide_eq_true h1; omega
      generalize hx : xs.getD k default = p at *
      simp (config := {maxSteps := 1000000}) (disch := omega) only [go_sem, ↓reduceIte, Nat.reduceEqDiff, Nat.reduceAdd, Nat.reduceMul, Nat.reduceSub, Nat.reduceLeDiff, Nat.reduceLT, Int.reduceToNat, Int.reduceLE, Int.reduceLT, Int.reduceNeg, h_inRange, mInRange, h_keysOf, mKeysOf, h_validKeys, mValidKeys, h0, h3, h1, hx]
      repeat' ((first | refine runKS_split (fun hh => ?_) (fun hh => ?_) | refine cond_split (fun hh => ?_) (fun hh => ?_) | refine runK_split (fun hh => ?_) (fun hh => ?_)) <;> simp (config := {maxSteps := 1000000}) (disch := omega) only [go_sem, ↓reduceIte, Nat.reduceEqDiff, Nat.reduceAdd, Nat.reduceMul, Nat.reduceSub, Nat.reduceLeDiff, Nat.reduceLT, Int.reduceToNat, Int.reduceLE, Int.reduceLT, Int.reduceNeg, h_inRange, mInRange, h_keysOf, mKeysOf, h_validKeys, mValidKeys, h0, h3, hx, hh])
      all_goals first
        | (rw [show vRow xs = false from by rw [vRow, all_f hlt (d := default) (by rw [hx]; simpa using hh), Bool.false_and]])
        | exact ⟨⟨k + 1, by omega, rfl, all_step (f := fun p : Pr => inR p.2 (-1000) 1000) ha (by rw [hx]; simpa using hh)⟩, by omega⟩
    · have hge := of_decide_eq_false h1
      simp (config := {maxSteps := 1000000}) (disch := omega) only [go_sem, ↓reduceIte, Nat.reduceEqDiff, Nat.reduceAdd, Nat.reduceMul, Nat.reduceSub, Nat.reduceLeDiff, Nat.reduceLT, Int.reduceToNat, Int.reduceLE, Int.reduceLT, Int.reduceNeg, h_inRange, mInRange, h_keysOf, mKeysOf, h_validKeys, mValidKeys, h0]
      have e : vRow xs = (decide (xs.length ≤ 24) && vk (keysP xs)) := by rw [vRow, all_t (f := fun p : Pr => inR p.2 (-1000) 1000) default (fun i hi => ha i (by omega)), Bool.true_and]
      rw [e]
      (first | refine runKS_split (fun h2 => ?_) (fun h2 => ?_) | refine cond_split (fun h2 => ?_) (fun h2 => ?_) | refine runK_split (fun h2 => ?_) (fun h2 => ?_))
      · simp (config := {maxSteps := 1000000}) (disch := omega) only [go_sem, ↓reduceIte, Nat.reduceEqDiff, Nat.reduceAdd, Nat.reduceMul, Nat.reduceSub, Nat.reduceLeDiff, Nat.reduceLT, Int.reduceToNat, Int.reduceLE, Int.reduceLT, Int.reduceNeg, h_inRange, mInRange, h_keysOf, mKeysOf, h_validKeys, mValidKeys, h0, h2]
        have h2' := of_decide_eq_true h2
        rw [decide_eq_true (p := xs.length ≤ 24) (by omega), Bool.true_and]
      · simp (config := {maxSteps := 1000000}) (disch := omega) only [go_sem, ↓reduceIte, Nat.reduceEqDiff, Nat.reduceAdd, Nat.reduceMul, Nat.reduceSub, Nat.reduceLeDiff, Nat.reduceLT, Int.reduceToNat, Int.reduceLE, Int.reduceLT, Int.reduceNeg, h_inRange, mInRange, h_keysOf, mKeysOf, h_validKeys, mValidKeys, h0, h2]
        have h2' := of_decide_eq_false h2
        rw [decide_eq_false (p := xs.length ≤ 24) (by omega), Bool.false_and]
theorem fo_validRow : FnOk Try.prog 69 := fnOk_of Try.func69 (by kernel_rfl)
theorem c_validRow : Contract Try.prog 69 mValidRow :=
  contract_of_does (DT := fun id => match id with  | _ => []) Try.checked.mixed tabOk (gok_model fo_inRange c_inRange (gok_model fo_keysOf c_keysOf (gok_model fo_validKeys c_validKeys gok_nil))) Try.func69 rfl (by kernel_rfl) (does_validRow rfl rfl rfl)



theorem does_ValidRowI {G : Nat → Option FM} (h_isValue : G 125 = some (.model mIsValue)) (h_keysOfRow : G 127 = some (.model mKeysOf)) (h_ValidKeysI : G 163 = some (.model mValidKeys)) : Does T G (fun id => match id with  | _ => []) Try.f148 mValidRow := by
  refine does1 (rs := [.tmp 2]) rfl rfl fun xs ro h => ?_
  obtain ⟨hs, rfl⟩ := gd_some h
  have hkl := keysP_len xs
  refine ⟨fun _ => ⟨rfl, rfl⟩, ?_⟩
  simp (config := {maxSteps := 1000000}) (disch := omega) only [go_sem, ↓reduceIte, Nat.reduceEqDiff, Nat.reduceAdd, Nat.reduceMul, Nat.reduceSub, Nat.reduceLeDiff, Nat.reduceLT, Int.reduceToNat, Int.reduceLE, Int.reduceLT, Int.reduceNeg, h_isValue, mIsValue, h_keysOfRow, mKeysOf, h_ValidKeysI, mValidKeys]
  (first | refine runKS_split (fun h4 => ?_) (fun h4 => ?_) | refine cond_split (fun h4 => ?_) (fun h4 => ?_) | refine runK_split (fun h4 => ?_) (fun h4 => ?_))
  · have h4 := of_decide_eq_true h4
    simp (config := {maxSteps := 1000000}) (disch := omega) only [go_sem, ↓reduceIte, Nat.reduceEqDiff, Nat.reduceAdd, Nat.reduceMul, Nat.reduceSub, Nat.reduceLeDiff, Nat.reduceLT, Int.reduceToNat, Int.reduceLE, Int.reduceLT, Int.reduceNeg, h_isValue, mIsValue, h_keysOfRow, mKeysOf, h_ValidKeysI, mValidKeys]
    have : vRow xs = false := by rw [vRow, decide_eq_false (p := xs.length ≤ 24) (by omega), Bool.false_and, Bool.and_false]
    rw [this]
  · simp (config := {maxSteps := 1000000}) (disch := omega) only [go_sem, ↓reduceIte, Nat.reduceEqDiff, Nat.reduceAdd, Nat.reduceMul, Nat.reduceSub, Nat.reduceLeDiff, Nat.reduceLT, Int.reduceToNat, Int.reduceLE, Int.reduceLT, Int.reduceNeg, h_isValue, mIsValue, h_keysOfRow, mKeysOf, h_ValidKeysI, mValidKeys, h4]
    have h4 := of_decide_eq_false h4
    refine W_loop_i (fun s => s.sl 0 = eRow false xs ∧ s.sl 8 = eRow false xs ∧ s.sl 9 = eI xs.length ∧ ∃ k : Nat, k ≤ xs.length ∧ s.sl 10 = eI k ∧ ∀ i, i < k → inR (xs.getD i default).2 (-1000) 1000 = true) (fun s => xs.length - iN (s.sl 10)) ?_ ?_
    · exact ⟨rfl, rfl, rfl, 0, Nat.zero_le _, rfl, fun i hi => by omega⟩
    · rintro sl hp n ⟨h0, h8, h9, k, hk, h10, ha⟩
      dsimp only at h0 h8 h9 h10
      simp (config := {maxSteps := 1000000}) (disch := omega) only [go_sem, ↓reduceIte, Nat.reduceEqDiff, Nat.reduceAdd, Nat.reduceMul, Nat.reduceSub, Nat.reduceLeDiff, Nat.reduceLT, Int.reduceToNat, Int.reduceLE, Int.reduceLT, Int.reduceNeg, h_isValue, mIsValue, h_keysOfRow, mKeysOf, h_ValidKeysI, mValidKeys, h0, h8, h9, h10]
      (first | refine runKS_split (fun h1 => ?_) (fun h1 => ?_) | refine cond_split (fun h1 => ?_) (fun h1 => ?_) | refine runK_split (fun h1 => ?_) (fun h1 => ?_))
      · have hlt : k < xs.length := by have := of_decide_eq_true h1; omega
        generalize hx : xs.getD k default = p at *
        simp (config := {maxSteps := 1000000}) (disch := omega) only [go_sem, ↓reduceIte, Nat.reduceEqDiff, Nat.reduceAdd, Nat.reduceMul, Nat.reduceSub, Nat.reduceLeDiff, Nat.reduceLT, Int.reduceToNat, Int.reduceLE, Int.reduceLT, Int.reduceNeg, h_isValue, mIsValue, h_keysOfRow, mKeysOf, h_ValidKeysI, mValidKeys, h0, h8, h9, h10, h1, hx, ePr]
        repeat' ((first | refine runKS_split (fun hh => ?_) (fun hh => ?_) | refine cond_split (fun hh => ?_) (fun hh => ?_) | refine runK_split (fun hh => ?_) (fun hh => ?_)) <;> simp (config := {maxSteps := 1000000}) (disch := omega) only [go_sem, ↓reduceIte, Nat.reduceEqDiff, Nat.reduceAdd, Nat.reduceMul, Nat.reduceSub, Nat.reduceLeDiff, Nat.reduceLT, Int.reduceToNat, Int.reduceLE, Int.reduceLT, Int.reduceNeg, h_isValue, mIsValue, h_keysOfRow, mKeysOf, h_ValidKeysI, mValidKeys, h0, h8, h9, h10, hx, hh])
        all_goals first
          | (rw [show vRow xs = false from by rw [vRow, all_f hlt (d := default) (by rw [hx]; simpa using hh), Bool.false_and]])
          | exact ⟨⟨k + 1, by omega, rfl, all_step (f := fun p : Pr => inR p.2 (-1000) 1000) ha (by rw [hx]; simpa using hh)⟩, by omega⟩
      · have hge := of_decide_eq_false h1
        simp (config := {maxSteps := 1000000}) (disch := omega) only [go_sem, ↓reduceIte, Nat.reduceEqDiff, Nat.reduceAdd, Nat.reduceMul, Nat.reduceSub, Nat.reduceLeDiff, Nat.reduceLT, Int.reduceToNat, Int.reduceLE, Int.reduceLT, Int.reduceNeg, h_isValue, mIsValue, h_keysOfRow, mKeysOf, h_ValidKeysI, mValidKeys, h0]
        rw [vRow, all_t (f := fun p : Pr => inR p.2 (-1000) 1000) default (fun i hi => ha i (by omega)), Bool.true_and, decide_eq_true (p := xs.length ≤ 24) (by omega), Bool.true_and]
theorem fo_ValidRowI : FnOk Try.prog 148 := fnOk_of Try.func148 (by kernel_rfl)
theorem c_ValidRowI : Contract Try.prog 148 mValidRow :=
  contract_of_does (DT := fun id => match id with  | _ => []) Try.checked.mixed tabOk (gok_model fo_isValue c_isValue (gok_model fo_keysOfRow c_keysOfRow (gok_model fo_ValidKeysI c_ValidKeysI gok_nil))) Try.func148 rfl (by kernel_rfl) (does_ValidRowI rfl rfl rfl)


end Go.TM
/- Contracts, 5: inner pages. -/
namespace Go.TM
open Go.Proofs
set_option linter.unusedVariables false
set_option linter.unusedSimpArgs false
set_option maxRecDepth 100000

open Classical in
/-- An inner page as it should be. -/
noncomputable def vInn (x : Inn) : Bool := decide (x.kids.Nodup) && (vk x.keys && inR x.keys.length 1 5 && decide (x.kids.length = x.keys.length + 1) && allR x.kids 0 15)
noncomputable def mValidInner : Model := M1 .ro true (cInn false) fun x => gd (x.keys.length ≤ 1099511627776 ∧ x.kids.length ≤ 1099511627776) (.b (vInn x), [])

theorem nodup_take {xs : List Int} {k : Nat} (h : k < xs.length) (hn : (xs.take (k + 1)).Nodup) : (xs.take k).Nodup ∧ xs.getD k 0 ∉ xs.take k := by
  rw [List.take_succ_eq_append_getElem h, List.nodup_append] at hn
  refine ⟨hn.1, fun hm => ?_⟩
  have := hn.2.2 _ hm (xs.getD k 0) (by simp [h])
  exact this rfl
theorem nodup_take' {xs : List Int} {k : Nat} (h : k < xs.length) (hn : (xs.take k).Nodup) (hm : xs.getD k 0 ∉ xs.take k) : (xs.take (k + 1)).Nodup := by
  rw [List.take_succ_eq_append_getElem h, List.nodup_append]
  refine ⟨hn, by simp, fun a ha b hb => ?_⟩
  simp at hb
  subst hb
  intro he
  subst he
  exact hm (by simpa [h] using ha)




theorem get_B {xs : List Bool} {k : Nat} (h : k < xs.length) : (xs.map A.b)[k]? = some (A.b (xs.getD k false)) := by
  simp [List.getElem?_map, List.getElem?_eq_getElem h]
theorem set_B (xs : List Bool) (k : Nat) (v : Bool) : (xs.map A.b).set k (A.b v) = (xs.set k v).map A.b := by simp [List.map_set]

theorem rep_getD (n j : Nat) : (List.replicate n false).getD j false = false := by
  rw [List.getD_eq_getElem?_getD, List.getElem?_replicate]
  split <;> rfl
theorem vInn_iff {x : Inn} : vInn x = true ↔ x.kids.Nodup ∧ vk x.keys = true ∧ 1 ≤ x.keys.length ∧ x.keys.length ≤ 5 ∧ x.kids.length = x.keys.length + 1 ∧ allR x.kids 0 15 = true := by
  simp only [vInn, inR, Bool.and_eq_true, decide_eq_true_eq]
  constructor
  · rintro ⟨a, ⟨⟨b, c, d⟩, e⟩, f⟩
    exact ⟨a, b, by omega, by omega, e, f⟩
  · rintro ⟨a, b, c, d, e, f⟩
    exact ⟨a, ⟨⟨b, by omega, by omega⟩, e⟩, f⟩
theorem vInn_f {x : Inn} (h : (x.kids.Nodup ∧ vk x.keys = true ∧ 1 ≤ x.keys.length ∧ x.keys.length ≤ 5 ∧ x.kids.length = x.keys.length + 1 ∧ allR x.kids 0 15 = true) → False) : vInn x = false := by
  rw [Bool.eq_false_iff]
  exact fun hh => h (vInn_iff.1 hh)

theorem does_ValidInnerI {G : Nat → Option FM} (h_ValidKeysI : G 163 = some (.model mValidKeys)) : Does T G (fun id => match id with  | _ => []) Try.f134 mValidInner := by
  refine does1 (rs := [.tmp 2]) rfl rfl fun x ro h => ?_
  obtain ⟨hs, rfl⟩ := gd_some h
  refine ⟨fun _ => ⟨rfl, rfl⟩, ?_⟩
  simp (config := {maxSteps := 1000000}) (disch := omega) only [go_sem, ↓reduceIte, Nat.reduceEqDiff, Nat.reduceAdd, Nat.reduceMul, Nat.reduceSub, Nat.reduceLeDiff, Nat.reduceLT, Int.reduceToNat, Int.reduceLE, Int.reduceLT, Int.reduceNeg, h_ValidKeysI, mValidKeys]
  repeat' ((first | refine runKS_split (fun h9 => ?_) (fun h9 => ?_) | refine cond_split (fun h9 => ?_) (fun h9 => ?_) | refine runK_split (fun h9 => ?_) (fun h9 => ?_)) <;> simp (config := {maxSteps := 1000000}) (disch := omega) only [go_sem, ↓reduceIte, Nat.reduceEqDiff, Nat.reduceAdd, Nat.reduceMul, Nat.reduceSub, Nat.reduceLeDiff, Nat.reduceLT, Int.reduceToNat, Int.reduceLE, Int.reduceLT, Int.reduceNeg, h_ValidKeysI, mValidKeys, h9])
  any_goals (rw [vInn_f (by first | (intro _; rename_i q; have := of_decide_eq_true q; omega) | (intro _; have := of_decide_eq_true h9; omega) | (intro h; simp_all))]; done)
  rename_i q1 q2 q3
  have q1 := of_decide_eq_false q1
  have q2 := of_decide_eq_false q2
  have q3 : vk x.keys = true := by simpa using q3
  have q4 : x.kids.length = x.keys.length + 1 := by simp only [Bool.not_eq_false', decide_eq_true_eq] at h9; omega
  refine W_loop_i (fun s => s.sl 31 = eIs false x.kids ∧ s.sl 32 = eI x.kids.length ∧ ∃ m, m < s.n ∧ s.sl 3 = .ptr (m, 0) [] 0 0 ∧ ∃ k : Nat, k ≤ x.kids.length ∧ s.sl 33 = eI k ∧ (x.kids.take k).Nodup ∧ (∀ i, i < k → inR (x.kids.getD i 0) 0 15 = true) ∧ ∃ bs : List Bool, bs.length = 16 ∧ (∀ j, j < 16 → (bs.getD j false = true ↔ (j : Int) ∈ x.kids.take k)) ∧ s.hp (m, 0) = some ⟨16, 1, bs.map A.b, fun _ => 0⟩) (fun s => x.kids.length - iN (s.sl 33)) ?_ ?_
  · refine ⟨rfl, rfl, _, ?_, rfl, 0, Nat.zero_le _, rfl, by simp, fun i hi => by omega, List.replicate 16 false, rfl, fun j hj => ?_, ?_⟩
    · simp (config := {maxSteps := 1000000}) (disch := omega) only [go_sem, ↓reduceIte, Nat.reduceEqDiff, Nat.reduceAdd, Nat.reduceMul, Nat.reduceSub, Nat.reduceLeDiff, Nat.reduceLT, Int.reduceToNat, Int.reduceLE, Int.reduceLT, Int.reduceNeg, h_ValidKeysI, mValidKeys]
    · rw [rep_getD 16 j]
      simp
    · simp (config := {maxSteps := 1000000}) (disch := omega) only [go_sem, ↓reduceIte, Nat.reduceEqDiff, Nat.reduceAdd, Nat.reduceMul, Nat.reduceSub, Nat.reduceLeDiff, Nat.reduceLT, Int.reduceToNat, Int.reduceLE, Int.reduceLT, Int.reduceNeg, h_ValidKeysI, mValidKeys]
  · rintro sl hp n ⟨h31, h32, m, hm, h3, k, hk, h33, hnd, hin, bs, hbl, hbs, hh⟩
    dsimp only at h31 h32 h3 h33 hh hm
    simp (config := {maxSteps := 1000000}) (disch := omega) only [go_sem, ↓reduceIte, Nat.reduceEqDiff, Nat.reduceAdd, Nat.reduceMul, Nat.reduceSub, Nat.reduceLeDiff, Nat.reduceLT, Int.reduceToNat, Int.reduceLE, Int.reduceLT, Int.reduceNeg, h_ValidKeysI, mValidKeys, h31, h32, h33, h3, hh]
    (first | refine runKS_split (fun h2 => ?_) (fun h2 => ?_) | refine cond_split (fun h2 => ?_) (fun h2 => ?_) | refine runK_split (fun h2 => ?_) (fun h2 => ?_))
    · have hlt : k < x.kids.length := by have := of_decide_eq_true h2; omega
      generalize hx : x.kids.getD k 0 = p at *
      have bad : inR p 0 15 = false → vInn x = false := fun hb => vInn_f fun hv => by
        have := all_f (f := fun n => inR n 0 15) (d := 0) hlt (by rw [hx]; exact hb)
        have h6 := hv.2.2.2.2.2
        unfold allR at h6
        rw [this] at h6; cases h6
      by_cases ha : p < 0
      · simp (config := {maxSteps := 1000000}) (disch := omega) only [go_sem, ↓reduceIte, Nat.reduceEqDiff, Nat.reduceAdd, Nat.reduceMul, Nat.reduceSub, Nat.reduceLeDiff, Nat.reduceLT, Int.reduceToNat, Int.reduceLE, Int.reduceLT, Int.reduceNeg, h_ValidKeysI, mValidKeys, h31, h32, h33, h3, hh, h2, hx, ha]
        rw [bad (by simp [inR]; omega)]
      · by_cases hb : 16 ≤ p
        · simp (config := {maxSteps := 1000000}) (disch := omega) only [go_sem, ↓reduceIte, Nat.reduceEqDiff, Nat.reduceAdd, Nat.reduceMul, Nat.reduceSub, Nat.reduceLeDiff, Nat.reduceLT, Int.reduceToNat, Int.reduceLE, Int.reduceLT, Int.reduceNeg, h_ValidKeysI, mValidKeys, h31, h32, h33, h3, hh, h2, hx, ha, hb]
          rw [bad (by simp [inR]; omega)]
        · have hp : p.toNat < 16 := by omega
          have hpi : ((p.toNat : Nat) : Int) = p := by omega
          have hq := hbs p.toNat hp
          rw [hpi] at hq
          simp (config := {maxSteps := 1000000}) (disch := omega) only [go_sem, ↓reduceIte, Nat.reduceEqDiff, Nat.reduceAdd, Nat.reduceMul, Nat.reduceSub, Nat.reduceLeDiff, Nat.reduceLT, Int.reduceToNat, Int.reduceLE, Int.reduceLT, Int.reduceNeg, h_ValidKeysI, mValidKeys, h31, h32, h33, h3, hh, h2, hx, ha, hb, get_B, set_B]
          (first | refine runKS_split (fun h5 => ?_) (fun h5 => ?_) | refine cond_split (fun h5 => ?_) (fun h5 => ?_) | refine runK_split (fun h5 => ?_) (fun h5 => ?_))
          · simp (config := {maxSteps := 1000000}) (disch := omega) only [go_sem, ↓reduceIte, Nat.reduceEqDiff, Nat.reduceAdd, Nat.reduceMul, Nat.reduceSub, Nat.reduceLeDiff, Nat.reduceLT, Int.reduceToNat, Int.reduceLE, Int.reduceLT, Int.reduceNeg, h_ValidKeysI, mValidKeys]
            rw [vInn_f fun hv => ?_]
            have := (nodup_take hlt (hv.1.sublist (List.take_sublist _ _))).2
            rw [hx] at this
            exact this (hq.1 h5)
          · simp (config := {maxSteps := 1000000}) (disch := omega) only [go_sem, ↓reduceIte, Nat.reduceEqDiff, Nat.reduceAdd, Nat.reduceMul, Nat.reduceSub, Nat.reduceLeDiff, Nat.reduceLT, Int.reduceToNat, Int.reduceLE, Int.reduceLT, Int.reduceNeg, h_ValidKeysI, mValidKeys, h31, h32, h33, h3, hh, hx, get_B, set_B]
            have hnm : p ∉ x.kids.take k := fun hm' => by rw [hq.2 hm'] at h5; cases h5
            have hnd' := nodup_take' hlt hnd (by rw [hx]; exact hnm)
            refine ⟨⟨m, by omega, rfl, k + 1, by omega, rfl, hnd', all_step (f := fun n => inR n 0 15) (d := 0) hin (by rw [hx]; simp [inR]; omega), bs.set p.toNat true, by simp [hbl], fun j hj => ?_, upd_same ..⟩, by omega⟩
            rw [List.take_succ_eq_append_getElem hlt, List.mem_append]
            have hx' : x.kids[k] = p := by rw [← hx]; simp [hlt]
            rw [hx']
            by_cases hjp : j = p.toNat
            · subst hjp
              rw [List.getD_eq_getElem?_getD, List.getElem?_set_self (by omega)]
              simp [hpi]
            · rw [List.getD_eq_getElem?_getD, List.getElem?_set_ne (by omega), ← List.getD_eq_getElem?_getD, hbs j hj]
              simp
              omega
    · have hge := of_decide_eq_false h2
      simp (config := {maxSteps := 1000000}) (disch := omega) only [go_sem, ↓reduceIte, Nat.reduceEqDiff, Nat.reduceAdd, Nat.reduceMul, Nat.reduceSub, Nat.reduceLeDiff, Nat.reduceLT, Int.reduceToNat, Int.reduceLE, Int.reduceLT, Int.reduceNeg, h_ValidKeysI, mValidKeys, h31, h32, h33, h3, hh, h2]
      have e : vInn x = true := by
        rw [List.take_of_length_le (by omega)] at hnd
        rw [vInn_iff]
        exact ⟨hnd, q3, by omega, by omega, q4, all_t (f := fun n => inR n 0 15) 0 fun i hi => hin i (by omega)⟩
      rw [e]
theorem fo_ValidInnerI : FnOk Try.prog 134 := fnOk_of Try.func134 (by kernel_rfl)
theorem c_ValidInnerI : Contract Try.prog 134 mValidInner :=
  contract_of_does (DT := fun id => match id with  | _ => []) Try.checked.mixed tabOk (gok_model fo_ValidKeysI c_ValidKeysI gok_nil) Try.func134 rfl (by kernel_rfl) (does_ValidInnerI rfl)

end Go.TM
/- Contracts, 6: pages. -/
namespace Go.TM
open Go.Proofs
set_option linter.unusedVariables false
set_option linter.unusedSimpArgs false
set_option maxRecDepth 100000

def szPg (x : Pg) (n : Int) : Int := if n < x.keys.length then -1 else if n - x.keys.length < x.kids.length then -1 else if n - x.keys.length - x.kids.length < x.vals.length then -1 else n - x.keys.length - x.kids.length - x.vals.length
def mSzPage : Model := M2 .ro .ro true (cPage false) cI fun x n => gd (x.keys.length ≤ 9223372036854775807 ∧ x.kids.length ≤ 9223372036854775807 ∧ x.vals.length ≤ 9223372036854775807 ∧ 0 ≤ n ∧ n ≤ 1048576) (eI (szPg x n), [])
def mToPage : Model := M1 .ro true (cPage false) fun x => gd (x.keys.length ≤ 1099511627776 ∧ x.kids.length ≤ 1099511627776 ∧ x.vals.length ≤ 1099511627776) (ePage true x, [])
def mEqPage : Model := M2 .ro .ro true (cPage false) (cPage false) fun x y => gd ((x.keys.length ≤ 1099511627776 ∧ x.kids.length ≤ 1099511627776 ∧ x.vals.length ≤ 1099511627776) ∧ y.keys.length ≤ 1099511627776 ∧ y.kids.length ≤ 1099511627776 ∧ y.vals.length ≤ 1099511627776) (.b (decide (x = y)), [])

theorem does_szPage {G : Nat → Option FM} (h_szIntS : G 149 = some (.model mSzIntS)) : Does T G (fun id => match id with  | _ => []) Try.f99 mSzPage := by
  refine does2 (rs := [.tmp 4]) rfl rfl fun x a ro h => ?_
  obtain ⟨⟨hs1, hs2, hs3⟩, rfl⟩ := gd_some h
  refine ⟨fun _ => ⟨rfl, rfl⟩, ?_⟩
  simp (config := {maxSteps := 1000000}) (disch := omega) only [go_sem, ↓reduceIte, Nat.reduceEqDiff, Nat.reduceAdd, Nat.reduceMul, Nat.reduceSub, Nat.reduceLeDiff, Nat.reduceLT, Int.reduceToNat, Int.reduceLE, Int.reduceLT, Int.reduceNeg, h_szIntS, mSzIntS]
  by_cases h1 : a < (x.keys.length : Int)
  · simp (config := {maxSteps := 1000000}) (disch := omega) only [go_sem, ↓reduceIte, Nat.reduceEqDiff, Nat.reduceAdd, Nat.reduceMul, Nat.reduceSub, Nat.reduceLeDiff, Nat.reduceLT, Int.reduceToNat, Int.reduceLE, Int.reduceLT, Int.reduceNeg, h_szIntS, mSzIntS, h1, szPg]
  · have e : ¬ (a - (x.keys.length : Int)) < 0 := by omega
    simp (config := {maxSteps := 1000000}) (disch := omega) only [go_sem, ↓reduceIte, Nat.reduceEqDiff, Nat.reduceAdd, Nat.reduceMul, Nat.reduceSub, Nat.reduceLeDiff, Nat.reduceLT, Int.reduceToNat, Int.reduceLE, Int.reduceLT, Int.reduceNeg, h_szIntS, mSzIntS, h1, e]
    by_cases h2 : a - (x.keys.length : Int) < (x.kids.length : Int)
    · simp (config := {maxSteps := 1000000}) (disch := omega) only [go_sem, ↓reduceIte, Nat.reduceEqDiff, Nat.reduceAdd, Nat.reduceMul, Nat.reduceSub, Nat.reduceLeDiff, Nat.reduceLT, Int.reduceToNat, Int.reduceLE, Int.reduceLT, Int.reduceNeg, h_szIntS, mSzIntS, h1, h2, szPg]
    · have e2 : ¬ (a - (x.keys.length : Int) - (x.kids.length : Int)) < 0 := by omega
      simp (config := {maxSteps := 1000000}) (disch := omega) only [go_sem, ↓reduceIte, Nat.reduceEqDiff, Nat.reduceAdd, Nat.reduceMul, Nat.reduceSub, Nat.reduceLeDiff, Nat.reduceLT, Int.reduceToNat, Int.reduceLE, Int.reduceLT, Int.reduceNeg, h_szIntS, mSzIntS, h1, h2, e2]
      by_cases h3 : a - (x.keys.length : Int) - (x.kids.length : Int) < (x.vals.length : Int)
      · simp (config := {maxSteps := 1000000}) (disch := omega) only [go_sem, ↓reduceIte, Nat.reduceEqDiff, Nat.reduceAdd, Nat.reduceMul, Nat.reduceSub, Nat.reduceLeDiff, Nat.reduceLT, Int.reduceToNat, Int.reduceLE, Int.reduceLT, Int.reduceNeg, h_szIntS, mSzIntS, h1, h2, h3, szPg]
      · have e3 : ¬ (a - (x.keys.length : Int) - (x.kids.length : Int) - (x.vals.length : Int)) < 0 := by omega
        simp (config := {maxSteps := 1000000}) (disch := omega) only [go_sem, ↓reduceIte, Nat.reduceEqDiff, Nat.reduceAdd, Nat.reduceMul, Nat.reduceSub, Nat.reduceLeDiff, Nat.reduceLT, Int.reduceToNat, Int.reduceLE, Int.reduceLT, Int.reduceNeg, h_szIntS, mSzIntS, h1, h2, h3, e3, szPg]
theorem fo_szPage : FnOk Try.prog 99 := fnOk_of Try.func99 (by kernel_rfl)
theorem c_szPage : Contract Try.prog 99 mSzPage :=
  contract_of_does (DT := fun id => match id with  | _ => []) Try.checked.mixed tabOk (gok_model fo_szIntS c_szIntS gok_nil) Try.func99 rfl (by kernel_rfl) (does_szPage rfl)


theorem does_toPage {G : Nat → Option FM} (h_toIntS : G 23 = some (.model mToIntS)) : Does T G (fun id => match id with  | _ => []) Try.f111 mToPage := by
  refine does1 (rs := [.cell 2 85]) rfl rfl fun x ro h => ?_
  obtain ⟨hs, rfl⟩ := gd_some h
  refine ⟨fun _ => ⟨by simp [cleanA, cleanL, clean_ints], rfl⟩, ?_⟩
  simp (config := {maxSteps := 1000000}) (disch := omega) only [go_sem, ↓reduceIte, Nat.reduceEqDiff, Nat.reduceAdd, Nat.reduceMul, Nat.reduceSub, Nat.reduceLeDiff, Nat.reduceLT, Int.reduceToNat, Int.reduceLE, Int.reduceLT, Int.reduceNeg, h_toIntS, mToIntS]
theorem fo_toPage : FnOk Try.prog 111 := fnOk_of Try.func111 (by kernel_rfl)
theorem c_toPage : Contract Try.prog 111 mToPage :=
  contract_of_does (DT := fun id => match id with  | _ => []) Try.checked.mixed tabOk (gok_model fo_toIntS c_toIntS gok_nil) Try.func111 rfl (by kernel_rfl) (does_toPage rfl)


theorem does_eqPage {G : Nat → Option FM} (h_eqIntS : G 25 = some (.model mEqIntS)) : Does T G (fun id => match id with  | _ => []) Try.f115 mEqPage := by
  refine does2 (rs := [.tmp 4]) rfl rfl fun x y ro h => ?_
  obtain ⟨hs, rfl⟩ := gd_some h
  refine ⟨fun _ => ⟨rfl, rfl⟩, ?_⟩
  obtain ⟨a, b, c⟩ := x
  obtain ⟨a', b', c'⟩ := y
  dsimp only at hs
  simp (config := {maxSteps := 1000000}) (disch := omega) only [go_sem, ↓reduceIte, Nat.reduceEqDiff, Nat.reduceAdd, Nat.reduceMul, Nat.reduceSub, Nat.reduceLeDiff, Nat.reduceLT, Int.reduceToNat, Int.reduceLE, Int.reduceLT, Int.reduceNeg, h_eqIntS, mEqIntS]
  by_cases h1 : a = a'
  · simp (config := {maxSteps := 1000000}) (disch := omega) only [go_sem, ↓reduceIte, Nat.reduceEqDiff, Nat.reduceAdd, Nat.reduceMul, Nat.reduceSub, Nat.reduceLeDiff, Nat.reduceLT, Int.reduceToNat, Int.reduceLE, Int.reduceLT, Int.reduceNeg, h_eqIntS, mEqIntS, h1]
    by_cases h2 : b = b'
    · simp (config := {maxSteps := 1000000}) (disch := omega) only [go_sem, ↓reduceIte, Nat.reduceEqDiff, Nat.reduceAdd, Nat.reduceMul, Nat.reduceSub, Nat.reduceLeDiff, Nat.reduceLT, Int.reduceToNat, Int.reduceLE, Int.reduceLT, Int.reduceNeg, h_eqIntS, mEqIntS, h1, h2]
      by_cases h3 : c = c'
      · simp (config := {maxSteps := 1000000}) (disch := omega) only [go_sem, ↓reduceIte, Nat.reduceEqDiff, Nat.reduceAdd, Nat.reduceMul, Nat.reduceSub, Nat.reduceLeDiff, Nat.reduceLT, Int.reduceToNat, Int.reduceLE, Int.reduceLT, Int.reduceNeg, h_eqIntS, mEqIntS, h1, h2, h3]
        try simp [h1, h2, h3]
      · simp (config := {maxSteps := 1000000}) (disch := omega) only [go_sem, ↓reduceIte, Nat.reduceEqDiff, Nat.reduceAdd, Nat.reduceMul, Nat.reduceSub, Nat.reduceLeDiff, Nat.reduceLT, Int.reduceToNat, Int.reduceLE, Int.reduceLT, Int.reduceNeg, h_eqIntS, mEqIntS, h1, h2, h3]
        try simp [h1, h2, h3]
    · simp (config := {maxSteps := 1000000}) (disch := omega) only [go_sem, ↓reduceIte, Nat.reduceEqDiff, Nat.reduceAdd, Nat.reduceMul, Nat.reduceSub, Nat.reduceLeDiff, Nat.reduceLT, Int.reduceToNat, Int.reduceLE, Int.reduceLT, Int.reduceNeg, h_eqIntS, mEqIntS, h1, h2]
      try simp [h1, h2]
  · simp (config := {maxSteps := 1000000}) (disch := omega) only [go_sem, ↓reduceIte, Nat.reduceEqDiff, Nat.reduceAdd, Nat.reduceMul, Nat.reduceSub, Nat.reduceLeDiff, Nat.reduceLT, Int.reduceToNat, Int.reduceLE, Int.reduceLT, Int.reduceNeg, h_eqIntS, mEqIntS, h1]
    try simp [h1]
theorem fo_eqPage : FnOk Try.prog 115 := fnOk_of Try.func115 (by kernel_rfl)
theorem c_eqPage : Contract Try.prog 115 mEqPage :=
  contract_of_does (DT := fun id => match id with  | _ => []) Try.checked.mixed tabOk (gok_model fo_eqIntS c_eqIntS gok_nil) Try.func115 rfl (by kernel_rfl) (does_eqPage rfl)

def mInside : Model := M1 .ro false (cPage false) fun x => some (eInn false ⟨x.keys, x.kids⟩, [])
theorem does_insideOfI {G : Nat → Option FM}  : Does T G (fun id => match id with  | _ => []) Try.f80 mInside := by
  refine does1 (rs := [.cell 2 93]) rfl rfl fun x ro h => ?_
  cases h
  refine ⟨fun hc => (by cases hc), ?_⟩
  simp (config := {maxSteps := 1000000}) (disch := omega) only [go_sem, ↓reduceIte, Nat.reduceEqDiff, Nat.reduceAdd, Nat.reduceMul, Nat.reduceSub, Nat.reduceLeDiff, Nat.reduceLT, Int.reduceToNat, Int.reduceLE, Int.reduceLT, Int.reduceNeg]
theorem fo_insideOfI : FnOk Try.prog 80 := fnOk_of Try.func80 (by kernel_rfl)
theorem c_insideOfI : Contract Try.prog 80 mInside :=
  contract_of_does (DT := fun id => match id with  | _ => []) Try.checked.mixed tabOk gok_nil Try.func80 rfl (by kernel_rfl) (does_insideOfI )


end Go.TM
