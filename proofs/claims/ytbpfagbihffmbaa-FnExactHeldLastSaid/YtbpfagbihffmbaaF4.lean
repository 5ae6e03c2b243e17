/- Contracts, 4: rows of pairs. -/
import Derived.Test.YtbpfagbihffmbaaF3
namespace Go.TM
open Go.Proofs
set_option linter.unusedVariables false
set_option linter.unusedSimpArgs false
set_option maxRecDepth 100000

def keysP (xs : List Pr) : List Int := xs.map (·.1)
noncomputable def vRow (xs : List Pr) : Bool := (xs.all fun p => inR p.2 (-1000) 1000) && (decide (xs.length ≤ 24) && vk (keysP xs))
noncomputable def mValidRow : Model := M1 .ro true (cRow false) fun xs => gd (xs.length ≤ 1099511627776) (.b (vRow xs), [])
def mToPair : Model := M1 .ro true cPair fun x => some (.agg (ePr x), [])
def mEqPair : Model := M2 .ro .ro true cPair cPair fun x y => some (.b (decide (x = y)), [])
def mSzPairS : Model := M2 .ro .ro true (cRow false) cI fun xs n => gd (xs.length ≤ 9223372036854775807 ∧ 0 ≤ n ∧ n ≤ 1048576) (eI (if n < xs.length then -1 else n - xs.length), [])
def mToPairS : Model := M1 .ro true (cRow false) fun xs => gd (xs.length ≤ 1099511627776) (eRow true xs, [])
def mEqPairS : Model := M2 .ro .ro true (cRow false) (cRow false) fun xs ys => gd (xs.length ≤ 1099511627776 ∧ ys.length ≤ 1099511627776) (.b (decide (xs = ys)), [])
def mKeysOf : Model := M1 .ro true (cRow false) fun xs => gd (xs.length ≤ 1099511627776) (eIs true (keysP xs), [])

theorem clean_row (xs : List Pr) : cleanL (xs.flatMap ePr) = true := by
  induction xs with
  | nil => rfl
  | cons x xs ih => rw [List.flatMap_cons]; simp [ePr, cleanL, cleanA, ih]
theorem rep_ePr (n : Nat) : (List.replicate n [eI 0, eI 0]).flatten = (List.replicate n ((0, 0) : Pr)).flatMap ePr := by
  induction n with
  | zero => rfl
  | succ n ih => simp only [List.replicate_succ, List.flatten_cons, List.flatMap_cons, ih]; rfl

theorem keysP_len (xs : List Pr) : (keysP xs).length = xs.length := by simp [keysP]
theorem keysP_step {xs : List Pr} {k : Nat} (h : k < xs.length) : keysP (xs.take (k + 1)) = keysP (xs.take k) ++ [(xs.getD k default).1] := by
  rw [List.take_succ_eq_append_getElem h, keysP, List.map_append]; simp [keysP, h]
theorem app_I {xs : List Int} {k : Nat} (h : xs.length = k) (v : Int) : (xs.map eI).take k ++ [A.i .i64 v] = (xs ++ [v]).map eI := by
  rw [List.take_of_length_le (by simp [h]), List.map_append]; rfl

theorem does_toPair {G : Nat → Option FM}  : Does T G (fun id => match id with  | _ => []) Try.f36 mToPair := by
  refine does1 (rs := [.cell 2 52]) rfl rfl fun x ro h => ?_
  cases h
  refine ⟨fun _ => ⟨rfl, rfl⟩, ?_⟩
  simp (config := {maxSteps := 1000000}) (disch := omega) only [go_sem, ↓reduceIte, Nat.reduceEqDiff, Nat.reduceAdd, Nat.reduceMul, Nat.reduceSub, Nat.reduceLeDiff, Nat.reduceLT, Int.reduceToNat, Int.reduceLE, Int.reduceLT, Int.reduceNeg]
  rfl
theorem fo_toPair : FnOk Try.prog 36 := fnOk_of Try.func36 (by kernel_rfl)
theorem c_toPair : Contract Try.prog 36 mToPair :=
  contract_of_does (DT := fun id => match id with  | _ => []) Try.checked.mixed tabOk gok_nil Try.func36 rfl (by kernel_rfl) (does_toPair )


theorem does_eqPair {G : Nat → Option FM}  : Does T G (fun id => match id with  | _ => []) Try.f68 mEqPair := by
  refine does2 (rs := [.tmp 4]) rfl rfl fun x y ro h => ?_
  cases h
  refine ⟨fun _ => ⟨rfl, rfl⟩, ?_⟩
  obtain ⟨a, b⟩ := x
  obtain ⟨a', b'⟩ := y
  simp (config := {maxSteps := 1000000}) (disch := omega) only [go_sem, ↓reduceIte, Nat.reduceEqDiff, Nat.reduceAdd, Nat.reduceMul, Nat.reduceSub, Nat.reduceLeDiff, Nat.reduceLT, Int.reduceToNat, Int.reduceLE, Int.reduceLT, Int.reduceNeg]
  (first | refine runKS_split (fun h1 => ?_) (fun h1 => ?_) | refine cond_split (fun h1 => ?_) (fun h1 => ?_) | refine runK_split (fun h1 => ?_) (fun h1 => ?_))
  · simp (config := {maxSteps := 1000000}) (disch := omega) only [go_sem, ↓reduceIte, Nat.reduceEqDiff, Nat.reduceAdd, Nat.reduceMul, Nat.reduceSub, Nat.reduceLeDiff, Nat.reduceLT, Int.reduceToNat, Int.reduceLE, Int.reduceLT, Int.reduceNeg, h1]
    simp only [Bool.not_eq_true', decide_eq_false_iff_not] at h1
    simp [h1]
  · simp (config := {maxSteps := 1000000}) (disch := omega) only [go_sem, ↓reduceIte, Nat.reduceEqDiff, Nat.reduceAdd, Nat.reduceMul, Nat.reduceSub, Nat.reduceLeDiff, Nat.reduceLT, Int.reduceToNat, Int.reduceLE, Int.reduceLT, Int.reduceNeg, h1]
    simp only [Bool.not_eq_false', decide_eq_true_eq] at h1
    (first | refine runKS_split (fun h2 => ?_) (fun h2 => ?_) | refine cond_split (fun h2 => ?_) (fun h2 => ?_) | refine runK_split (fun h2 => ?_) (fun h2 => ?_))
    · simp (config := {maxSteps := 1000000}) (disch := omega) only [go_sem, ↓reduceIte, Nat.reduceEqDiff, Nat.reduceAdd, Nat.reduceMul, Nat.reduceSub, Nat.reduceLeDiff, Nat.reduceLT, Int.reduceToNat, Int.reduceLE, Int.reduceLT, Int.reduceNeg, h2]
      simp only [Bool.not_eq_true', decide_eq_false_iff_not] at h2
      simp [h2]
    · simp (config := {maxSteps := 1000000}) (disch := omega) only [go_sem, ↓reduceIte, Nat.reduceEqDiff, Nat.reduceAdd, Nat.reduceMul, Nat.reduceSub, Nat.reduceLeDiff, Nat.reduceLT, Int.reduceToNat, Int.reduceLE, Int.reduceLT, Int.reduceNeg, h2]
      simp only [Bool.not_eq_false', decide_eq_true_eq] at h2
      simp [h1, h2]
theorem fo_eqPair : FnOk Try.prog 68 := fnOk_of Try.func68 (by kernel_rfl)
theorem c_eqPair : Contract Try.prog 68 mEqPair :=
  contract_of_does (DT := fun id => match id with  | _ => []) Try.checked.mixed tabOk gok_nil Try.func68 rfl (by kernel_rfl) (does_eqPair )


theorem does_szPairS {G : Nat → Option FM}  : Does T G (fun id => match id with  | _ => []) Try.f27 mSzPairS := by
  refine does2 (rs := [.tmp 4]) rfl rfl fun xs a ro h => ?_
  obtain ⟨hs, rfl⟩ := gd_some h
  refine ⟨fun _ => ⟨rfl, rfl⟩, ?_⟩
  simp (config := {maxSteps := 1000000}) (disch := omega) only [go_sem, ↓reduceIte, Nat.reduceEqDiff, Nat.reduceAdd, Nat.reduceMul, Nat.reduceSub, Nat.reduceLeDiff, Nat.reduceLT, Int.reduceToNat, Int.reduceLE, Int.reduceLT, Int.reduceNeg]
  (first | refine runKS_split (fun h => ?_) (fun h => ?_) | refine cond_split (fun h => ?_) (fun h => ?_) | refine runK_split (fun h => ?_) (fun h => ?_))
  · have h' := of_decide_eq_true h
    simp (config := {maxSteps := 1000000}) (disch := omega) only [go_sem, ↓reduceIte, Nat.reduceEqDiff, Nat.reduceAdd, Nat.reduceMul, Nat.reduceSub, Nat.reduceLeDiff, Nat.reduceLT, Int.reduceToNat, Int.reduceLE, Int.reduceLT, Int.reduceNeg, h]
    rw [if_pos (by omega)]
  · have h' := of_decide_eq_false h
    simp (config := {maxSteps := 1000000}) (disch := omega) only [go_sem, ↓reduceIte, Nat.reduceEqDiff, Nat.reduceAdd, Nat.reduceMul, Nat.reduceSub, Nat.reduceLeDiff, Nat.reduceLT, Int.reduceToNat, Int.reduceLE, Int.reduceLT, Int.reduceNeg, h]
    rw [if_neg (by omega)]
theorem fo_szPairS : FnOk Try.prog 27 := fnOk_of Try.func27 (by kernel_rfl)
theorem c_szPairS : Contract Try.prog 27 mSzPairS :=
  contract_of_does (DT := fun id => match id with  | _ => []) Try.checked.mixed tabOk gok_nil Try.func27 rfl (by kernel_rfl) (does_szPairS )


theorem does_toPairS {G : Nat → Option FM} (h_toPair : G 36 = some (.model mToPair)) : Does T G (fun id => match id with  | _ => []) Try.f29 mToPairS := by
  refine does1 (rs := [.tmp 2]) rfl rfl fun xs ro h => ?_
  obtain ⟨hs, rfl⟩ := gd_some h
  refine ⟨fun _ => ⟨by simp [cleanA, clean_row], rfl⟩, ?_⟩
  simp (config := {maxSteps := 1000000}) (disch := omega) only [go_sem, ↓reduceIte, Nat.reduceEqDiff, Nat.reduceAdd, Nat.reduceMul, Nat.reduceSub, Nat.reduceLeDiff, Nat.reduceLT, Int.reduceToNat, Int.reduceLE, Int.reduceLT, Int.reduceNeg, h_toPair, mToPair, rep_ePr]
  refine W_loop_i (fun s => s.sl 0 = eRow false xs ∧ ∃ m, m < s.n ∧ s.sl 3 = .ref (m, 0) [] 0 0 2 xs.length ∧ ∃ k : Nat, k ≤ xs.length ∧ s.sl 4 = eI k ∧ ∃ ys : List Pr, ys.length = xs.length ∧ (∀ i, i < k → ys.getD i default = xs.getD i default) ∧ s.hp (m, 0) = some ⟨2, xs.length, ys.flatMap ePr, fun _ => 0⟩) (fun s => xs.length - iN (s.sl 4)) ?_ ?_
  · refine ⟨rfl, _, ?_, rfl, 0, Nat.zero_le _, rfl, List.replicate xs.length (0, 0), by simp, fun i hi => by omega, ?_⟩
    · simp (config := {maxSteps := 1000000}) (disch := omega) only [go_sem, ↓reduceIte, Nat.reduceEqDiff, Nat.reduceAdd, Nat.reduceMul, Nat.reduceSub, Nat.reduceLeDiff, Nat.reduceLT, Int.reduceToNat, Int.reduceLE, Int.reduceLT, Int.reduceNeg, h_toPair, mToPair]
    · simp (config := {maxSteps := 1000000}) (disch := omega) only [go_sem, ↓reduceIte, Nat.reduceEqDiff, Nat.reduceAdd, Nat.reduceMul, Nat.reduceSub, Nat.reduceLeDiff, Nat.reduceLT, Int.reduceToNat, Int.reduceLE, Int.reduceLT, Int.reduceNeg, h_toPair, mToPair]
  · rintro sl hp n ⟨h0, m, hm, h3, k, hk, h4, ys, hy, hall, hh⟩
    dsimp only at h0 h3 h4 hh hm
    simp (config := {maxSteps := 1000000}) (disch := omega) only [go_sem, ↓reduceIte, Nat.reduceEqDiff, Nat.reduceAdd, Nat.reduceMul, Nat.reduceSub, Nat.reduceLeDiff, Nat.reduceLT, Int.reduceToNat, Int.reduceLE, Int.reduceLT, Int.reduceNeg, h_toPair, mToPair, h0, h3, h4]
    (first | refine runKS_split (fun h => ?_) (fun h => ?_) | refine cond_split (fun h => ?_) (fun h => ?_) | refine runK_split (fun h => ?_) (fun h => ?_))
    · have hlt := of_decide_eq_true h
      simp (config := {maxSteps := 1000000}) (disch := omega) only [go_sem, ↓reduceIte, Nat.reduceEqDiff, Nat.reduceAdd, Nat.reduceMul, Nat.reduceSub, Nat.reduceLeDiff, Nat.reduceLT, Int.reduceToNat, Int.reduceLE, Int.reduceLT, Int.reduceNeg, h_toPair, mToPair, h0, h3, h4, h, hh, ePr]
      exact ⟨⟨m, by omega, rfl, k + 1, by omega, rfl, ys.set k (xs.getD k default), by simp [hy], set_step (fun i => xs.getD i default) (by omega) hall, upd_same ..⟩, by omega⟩
    · have hge := of_decide_eq_false h
      simp (config := {maxSteps := 1000000}) (disch := omega) only [go_sem, ↓reduceIte, Nat.reduceEqDiff, Nat.reduceAdd, Nat.reduceMul, Nat.reduceSub, Nat.reduceLeDiff, Nat.reduceLT, Int.reduceToNat, Int.reduceLE, Int.reduceLT, Int.reduceNeg, h_toPair, mToPair, h0, h3, h4, h, hh]
      rw [list_ext hy fun i hi => hall i (by omega)]
theorem fo_toPairS : FnOk Try.prog 29 := fnOk_of Try.func29 (by kernel_rfl)
theorem c_toPairS : Contract Try.prog 29 mToPairS :=
  contract_of_does (DT := fun id => match id with  | _ => []) Try.checked.mixed tabOk (gok_model fo_toPair c_toPair gok_nil) Try.func29 rfl (by kernel_rfl) (does_toPairS rfl)


theorem does_eqPairS {G : Nat → Option FM} (h_eqPair : G 68 = some (.model mEqPair)) : Does T G (fun id => match id with  | _ => []) Try.f31 mEqPairS := by
  refine does2 (rs := [.tmp 4]) rfl rfl fun xs ys ro h => ?_
  obtain ⟨hs, rfl⟩ := gd_some h
  refine ⟨fun _ => ⟨rfl, rfl⟩, ?_⟩
  simp (config := {maxSteps := 1000000}) (disch := omega) only [go_sem, ↓reduceIte, Nat.reduceEqDiff, Nat.reduceAdd, Nat.reduceMul, Nat.reduceSub, Nat.reduceLeDiff, Nat.reduceLT, Int.reduceToNat, Int.reduceLE, Int.reduceLT, Int.reduceNeg, h_eqPair, mEqPair]
  (first | refine runKS_split (fun h => ?_) (fun h => ?_) | refine cond_split (fun h => ?_) (fun h => ?_) | refine runK_split (fun h => ?_) (fun h => ?_))
  · have h' : xs ≠ ys := by rintro rfl; simp at h
    simp (config := {maxSteps := 1000000}) (disch := omega) only [go_sem, ↓reduceIte, Nat.reduceEqDiff, Nat.reduceAdd, Nat.reduceMul, Nat.reduceSub, Nat.reduceLeDiff, Nat.reduceLT, Int.reduceToNat, Int.reduceLE, Int.reduceLT, Int.reduceNeg, h_eqPair, mEqPair, h]
    simp [h']
  · have hl : xs.length = ys.length := by simp at h; omega
    simp (config := {maxSteps := 1000000}) (disch := omega) only [go_sem, ↓reduceIte, Nat.reduceEqDiff, Nat.reduceAdd, Nat.reduceMul, Nat.reduceSub, Nat.reduceLeDiff, Nat.reduceLT, Int.reduceToNat, Int.reduceLE, Int.reduceLT, Int.reduceNeg, h_eqPair, mEqPair, h]
    refine W_loop_i (fun s => s.sl 0 = eRow false xs ∧ s.sl 1 = eRow false ys ∧ ∃ k : Nat, k ≤ xs.length ∧ s.sl 5 = eI k ∧ ∀ i, i < k → xs.getD i default = ys.getD i default) (fun s => xs.length - iN (s.sl 5)) ?_ ?_
    · exact ⟨rfl, rfl, 0, Nat.zero_le _, rfl, fun i hi => by omega⟩
    · rintro sl hp n ⟨h0, h1, k, hk, h5, hall⟩
      dsimp only at h0 h1 h5
      simp (config := {maxSteps := 1000000}) (disch := omega) only [go_sem, ↓reduceIte, Nat.reduceEqDiff, Nat.reduceAdd, Nat.reduceMul, Nat.reduceSub, Nat.reduceLeDiff, Nat.reduceLT, Int.reduceToNat, Int.reduceLE, Int.reduceLT, Int.reduceNeg, h_eqPair, mEqPair, h0, h1, h5]
      (first | refine runKS_split (fun h2 => ?_) (fun h2 => ?_) | refine cond_split (fun h2 => ?_) (fun h2 => ?_) | refine runK_split (fun h2 => ?_) (fun h2 => ?_))
      · have hlt := of_decide_eq_true h2
        simp (config := {maxSteps := 1000000}) (disch := omega) only [go_sem, ↓reduceIte, Nat.reduceEqDiff, Nat.reduceAdd, Nat.reduceMul, Nat.reduceSub, Nat.reduceLeDiff, Nat.reduceLT, Int.reduceToNat, Int.reduceLE, Int.reduceLT, Int.reduceNeg, h_eqPair, mEqPair, h0, h1, h5, h2, ePr]
        (first | refine runKS_split (fun h' => ?_) (fun h' => ?_) | refine cond_split (fun h' => ?_) (fun h' => ?_) | refine runK_split (fun h' => ?_) (fun h' => ?_))
        · simp (config := {maxSteps := 1000000}) (disch := omega) only [go_sem, ↓reduceIte, Nat.reduceEqDiff, Nat.reduceAdd, Nat.reduceMul, Nat.reduceSub, Nat.reduceLeDiff, Nat.reduceLT, Int.reduceToNat, Int.reduceLE, Int.reduceLT, Int.reduceNeg, h_eqPair, mEqPair]
          have : xs ≠ ys := by rintro rfl; simp at h'
          simp [this]
        · have h' : xs.getD k default = ys.getD k default := by
            have := h'
            simp only [Bool.not_eq_false', decide_eq_true_eq, Prod.mk.injEq] at this
            exact Prod.ext this.1 this.2
          simp (config := {maxSteps := 1000000}) (disch := omega) only [go_sem, ↓reduceIte, Nat.reduceEqDiff, Nat.reduceAdd, Nat.reduceMul, Nat.reduceSub, Nat.reduceLeDiff, Nat.reduceLT, Int.reduceToNat, Int.reduceLE, Int.reduceLT, Int.reduceNeg, h_eqPair, mEqPair, h0, h1, h5]
          refine ⟨⟨k + 1, by omega, rfl, fun i hi => ?_⟩, by omega⟩
          by_cases he : i = k
          · rw [he]; exact h'
          · exact hall i (by omega)
      · have hge := of_decide_eq_false h2
        simp (config := {maxSteps := 1000000}) (disch := omega) only [go_sem, ↓reduceIte, Nat.reduceEqDiff, Nat.reduceAdd, Nat.reduceMul, Nat.reduceSub, Nat.reduceLeDiff, Nat.reduceLT, Int.reduceToNat, Int.reduceLE, Int.reduceLT, Int.reduceNeg, h_eqPair, mEqPair]
        have : xs = ys := (list_ext hl.symm fun i hi => (hall i (by omega)).symm).symm
        simp [this]
theorem fo_eqPairS : FnOk Try.prog 31 := fnOk_of Try.func31 (by kernel_rfl)
theorem c_eqPairS : Contract Try.prog 31 mEqPairS :=
  contract_of_does (DT := fun id => match id with  | _ => []) Try.checked.mixed tabOk (gok_model fo_eqPair c_eqPair gok_nil) Try.func31 rfl (by kernel_rfl) (does_eqPairS rfl)


theorem does_keysOf {G : Nat → Option FM}  : Does T G (fun id => match id with  | _ => []) Try.f104 mKeysOf := by
  refine does1 (rs := [.tmp 2]) rfl rfl fun xs ro h => ?_
  obtain ⟨hs, rfl⟩ := gd_some h
  refine ⟨fun _ => ⟨by simp [cleanA, clean_ints], rfl⟩, ?_⟩
  simp (config := {maxSteps := 1000000}) (disch := omega) only [go_sem, ↓reduceIte, Nat.reduceEqDiff, Nat.reduceAdd, Nat.reduceMul, Nat.reduceSub, Nat.reduceLeDiff, Nat.reduceLT, Int.reduceToNat, Int.reduceLE, Int.reduceLT, Int.reduceNeg]
  refine W_loop_i (fun s => s.sl 0 = eRow false xs ∧ ∃ k : Nat, k ≤ xs.length ∧ s.sl 4 = eI k ∧ ∃ m, m < s.n ∧ s.sl 3 = .ref (m, 0) [] 0 0 1 k ∧ s.hp (m, 0) = some ⟨1, k, (keysP (xs.take k)).map eI, fun _ => 0⟩) (fun s => xs.length - iN (s.sl 4)) ?_ ?_
  · refine ⟨rfl, 0, Nat.zero_le _, rfl, 4, ?_, rfl, ?_⟩
    · simp (config := {maxSteps := 1000000}) (disch := omega) only [go_sem, ↓reduceIte, Nat.reduceEqDiff, Nat.reduceAdd, Nat.reduceMul, Nat.reduceSub, Nat.reduceLeDiff, Nat.reduceLT, Int.reduceToNat, Int.reduceLE, Int.reduceLT, Int.reduceNeg]
    · simp (config := {maxSteps := 1000000}) (disch := omega) only [go_sem, ↓reduceIte, Nat.reduceEqDiff, Nat.reduceAdd, Nat.reduceMul, Nat.reduceSub, Nat.reduceLeDiff, Nat.reduceLT, Int.reduceToNat, Int.reduceLE, Int.reduceLT, Int.reduceNeg]
      rfl
  · rintro sl hp n ⟨h0, k, hk, h4, m, hm, h3, hh⟩
    dsimp only at h0 h4 h3 hh hm
    simp (config := {maxSteps := 1000000}) (disch := omega) only [go_sem, ↓reduceIte, Nat.reduceEqDiff, Nat.reduceAdd, Nat.reduceMul, Nat.reduceSub, Nat.reduceLeDiff, Nat.reduceLT, Int.reduceToNat, Int.reduceLE, Int.reduceLT, Int.reduceNeg, h0, h3, h4]
    (first | refine runKS_split (fun h => ?_) (fun h => ?_) | refine cond_split (fun h => ?_) (fun h => ?_) | refine runK_split (fun h => ?_) (fun h => ?_))
    · have hlt := of_decide_eq_true h
      simp (config := {maxSteps := 1000000}) (disch := omega) only [go_sem, ↓reduceIte, Nat.reduceEqDiff, Nat.reduceAdd, Nat.reduceMul, Nat.reduceSub, Nat.reduceLeDiff, Nat.reduceLT, Int.reduceToNat, Int.reduceLE, Int.reduceLT, Int.reduceNeg, h0, h3, h4, h, hh]
      refine ⟨⟨k + 1, by omega, rfl, _, ?_, rfl, (upd_same ..).trans ?_⟩, by omega⟩
      · omega
      · rw [keysP_step (by omega), app_I (by simp [keysP]; omega)]
    · have hge := of_decide_eq_false h
      simp (config := {maxSteps := 1000000}) (disch := omega) only [go_sem, ↓reduceIte, Nat.reduceEqDiff, Nat.reduceAdd, Nat.reduceMul, Nat.reduceSub, Nat.reduceLeDiff, Nat.reduceLT, Int.reduceToNat, Int.reduceLE, Int.reduceLT, Int.reduceNeg, h0, h3, h4, h, hh]
      obtain rfl : k = xs.length := by omega
      simp [keysP_len]
theorem fo_keysOf : FnOk Try.prog 104 := fnOk_of Try.func104 (by kernel_rfl)
theorem c_keysOf : Contract Try.prog 104 mKeysOf :=
  contract_of_does (DT := fun id => match id with  | _ => []) Try.checked.mixed tabOk gok_nil Try.func104 rfl (by kernel_rfl) (does_keysOf )


theorem does_keysOfRow {G : Nat → Option FM}  : Does T G (fun id => match id with  | _ => []) Try.f127 mKeysOf := by
  refine does1 (rs := [.tmp 2]) rfl rfl fun xs ro h => ?_
  obtain ⟨hs, rfl⟩ := gd_some h
  refine ⟨fun _ => ⟨by simp [cleanA, clean_ints], rfl⟩, ?_⟩
  simp (config := {maxSteps := 1000000}) (disch := omega) only [go_sem, ↓reduceIte, Nat.reduceEqDiff, Nat.reduceAdd, Nat.reduceMul, Nat.reduceSub, Nat.reduceLeDiff, Nat.reduceLT, Int.reduceToNat, Int.reduceLE, Int.reduceLT, Int.reduceNeg, rep_eI]
  refine W_loop_i (fun s => s.sl 0 = eRow false xs ∧ s.sl 9 = eRow false xs ∧ s.sl 10 = eI xs.length ∧ ∃ m, m < s.n ∧ s.sl 3 = .ref (m, 0) [] 0 0 1 xs.length ∧ ∃ k : Nat, k ≤ xs.length ∧ s.sl 11 = eI k ∧ ∃ ys : List Int, ys.length = xs.length ∧ (∀ i, i < k → ys.getD i 0 = (xs.getD i default).1) ∧ s.hp (m, 0) = some ⟨1, xs.length, ys.map eI, fun _ => 0⟩) (fun s => xs.length - iN (s.sl 11)) ?_ ?_
  · refine ⟨rfl, rfl, rfl, _, ?_, rfl, 0, Nat.zero_le _, rfl, List.replicate xs.length 0, by simp, fun i hi => by omega, ?_⟩
    · simp (config := {maxSteps := 1000000}) (disch := omega) only [go_sem, ↓reduceIte, Nat.reduceEqDiff, Nat.reduceAdd, Nat.reduceMul, Nat.reduceSub, Nat.reduceLeDiff, Nat.reduceLT, Int.reduceToNat, Int.reduceLE, Int.reduceLT, Int.reduceNeg]
    · simp (config := {maxSteps := 1000000}) (disch := omega) only [go_sem, ↓reduceIte, Nat.reduceEqDiff, Nat.reduceAdd, Nat.reduceMul, Nat.reduceSub, Nat.reduceLeDiff, Nat.reduceLT, Int.reduceToNat, Int.reduceLE, Int.reduceLT, Int.reduceNeg]
  · rintro sl hp n ⟨h0, h9, h10, m, hm, h3, k, hk, h11, ys, hy, hall, hh⟩
    dsimp only at h0 h9 h10 h3 h11 hh hm
    simp (config := {maxSteps := 1000000}) (disch := omega) only [go_sem, ↓reduceIte, Nat.reduceEqDiff, Nat.reduceAdd, Nat.reduceMul, Nat.reduceSub, Nat.reduceLeDiff, Nat.reduceLT, Int.reduceToNat, Int.reduceLE, Int.reduceLT, Int.reduceNeg, h0, h9, h10, h3, h11]
    (first | refine runKS_split (fun h => ?_) (fun h => ?_) | refine cond_split (fun h => ?_) (fun h => ?_) | refine runK_split (fun h => ?_) (fun h => ?_))
    · have hlt := of_decide_eq_true h
      simp (config := {maxSteps := 1000000}) (disch := omega) only [go_sem, ↓reduceIte, Nat.reduceEqDiff, Nat.reduceAdd, Nat.reduceMul, Nat.reduceSub, Nat.reduceLeDiff, Nat.reduceLT, Int.reduceToNat, Int.reduceLE, Int.reduceLT, Int.reduceNeg, h0, h9, h10, h3, h11, h, hh, ePr]
      exact ⟨⟨m, by omega, rfl, k + 1, by omega, rfl, ys.set k (xs.getD k default).1, by simp [hy], set_step (fun i => (xs.getD i default).1) (by omega) hall, upd_same ..⟩, by omega⟩
    · have hge := of_decide_eq_false h
      simp (config := {maxSteps := 1000000}) (disch := omega) only [go_sem, ↓reduceIte, Nat.reduceEqDiff, Nat.reduceAdd, Nat.reduceMul, Nat.reduceSub, Nat.reduceLeDiff, Nat.reduceLT, Int.reduceToNat, Int.reduceLE, Int.reduceLT, Int.reduceNeg, h0, h3, h11, h, hh]
      rw [show ys = keysP xs from list_ext (d := 0) (by simp [keysP, hy]) fun i hi => by
        simp only [keysP, List.length_map] at hi
        rw [hall i (by omega)]
        simp [keysP, hi]]
      simp [keysP]
theorem fo_keysOfRow : FnOk Try.prog 127 := fnOk_of Try.func127 (by kernel_rfl)
theorem c_keysOfRow : Contract Try.prog 127 mKeysOf :=
  contract_of_does (DT := fun id => match id with  | _ => []) Try.checked.mixed tabOk gok_nil Try.func127 rfl (by kernel_rfl) (does_keysOfRow )


theorem does_validRow {G : Nat → Option FM} (h_inRange : G 83 = some (.model mInRange)) (h_keysOf : G 104 = some (.model mKeysOf)) (h_validKeys : G 118 = some (.model mValidKeys)) : Does T G (fun id => match id with  | _ => []) Try.f69 mValidRow := by
  refine does1 (rs := [.tmp 2]) rfl rfl fun xs ro h => ?_
  obtain ⟨hs, rfl⟩ := gd_some h
  have hkl := keysP_len xs
  refine ⟨fun _ => ⟨rfl, rfl⟩, ?_⟩
  simp (config := {maxSteps := 1000000}) (disch := omega) only [go_sem, ↓reduceIte, Nat.reduceEqDiff, Nat.reduceAdd, Nat.reduceMul, Nat.reduceSub, Nat.reduceLeDiff, Nat.reduceLT, Int.reduceToNat, Int.reduceLE, Int.reduceLT, Int.reduceNeg, h_inRange, mInRange, h_keysOf, mKeysOf, h_validKeys, mValidKeys]
  refine W_loop_i (fun s => s.sl 0 = eRow false xs ∧ ∃ k : Nat, k ≤ xs.length ∧ s.sl 3 = eI k ∧ ∀ i, i < k → inR (xs.getD i default).2 (-1000) 1000 = true) (fun s => xs.length - iN (s.sl 3)) ?_ ?_
  · exact ⟨rfl, 0, Nat.zero_le _, rfl, fun i hi => by omega⟩
  · rintro sl hp n ⟨h0, k, hk, h3, ha⟩
    dsimp only at h0 h3
    simp (config := {maxSteps := 1000000}) (disch := omega) only [go_sem, ↓reduceIte, Nat.reduceEqDiff, Nat.reduceAdd, Nat.reduceMul, Nat.reduceSub, Nat.reduceLeDiff, Nat.reduceLT, Int.reduceToNat, Int.reduceLE, Int.reduceLT, Int.reduceNeg, h_inRange, mInRange, h_keysOf, mKeysOf, h_validKeys, mValidKeys, h0, h3]
    (first | refine runKS_split (fun h1 => ?_) (fun h1 => ?_) | refine cond_split (fun h1 => ?_) (fun h1 => ?_) | refine runK_split (fun h1 => ?_) (fun h1 => ?_))
    · have hlt : k < xs.length := by have := of_decide_eq_true h1; omega
      generalize hx : xs.getD k default = p at *
      simp (config := {maxSteps := 1000000}) (disch := omega) only [go_sem, ↓reduceIte, Nat.reduceEqDiff, Nat.reduceAdd, Nat.reduceMul, Nat.reduceSub, Nat.reduceLeDiff, Nat.reduceLT, Int.reduceToNat, Int.reduceLE, Int.reduceLT, Int.reduceNeg, h_inRange, mInRange, h_keysOf, mKeysOf, h_validKeys, mValidKeys, h0, h3, h1, hx]
      repeat' ((first | refine runKS_split (fun hh => ?_) (fun hh => ?_) | refine cond_split (fun hh => ?_) (fun hh => ?_) | refine runK_split (fun hh => ?_) (fun hh => ?_)) <;> simp (config := {maxSteps := 1000000}) (disch := omega) only [go_sem, ↓reduceIte, Nat.reduceEqDiff, Nat.reduceAdd, Nat.reduceMul, Nat.reduceSub, Nat.reduceLeDiff, Nat.reduceLT, Int.reduceToNat, Int.reduceLE, Int.reduceLT, Int.reduceNeg, h_inRange, mInRange, h_keysOf, mKeysOf, h_validKeys, mValidKeys, h0, h3, hx, hh])
      all_goals first
        | (rw [show vRow xs = false from by rw [vRow, all_f hlt (d := default) (by rw [hx]; simpa using hh), Bool.false_and]])
        | exact ⟨⟨k + 1, by omega, rfl, all_step (f := fun p : Pr => inR p.2 (-1000) 1000) ha (by rw [hx]; simpa using hh)⟩, by omega⟩
    · have hge := of_decide_eq_false h1
      simp (config := {maxSteps := 1000000}) (disch := omega) only [go_sem, ↓reduceIte, Nat.reduceEqDiff, Nat.reduceAdd, Nat.reduceMul, Nat.reduceSub, Nat.reduceLeDiff, Nat.reduceLT, Int.reduceToNat, Int.reduceLE, Int.reduceLT, Int.reduceNeg, h_inRange, mInRange, h_keysOf, mKeysOf, h_validKeys, mValidKeys, h0]
      have e : vRow xs = (decide (xs.length ≤ 24) && vk (keysP xs)) := by rw [vRow, all_t (f := fun p : Pr => inR p.2 (-1000) 1000) default (fun i hi => ha i (by omega)), Bool.true_and]
      rw [e]
      (first | refine runKS_split (fun h2 => ?_) (fun h2 => ?_) | refine cond_split (fun h2 => ?_) (fun h2 => ?_) | refine runK_split (fun h2 => ?_) (fun h2 => ?_))
      · simp (config := {maxSteps := 1000000}) (disch := omega) only [go_sem, ↓reduceIte, Nat.reduceEqDiff, Nat.reduceAdd, Nat.reduceMul, Nat.reduceSub, Nat.reduceLeDiff, Nat.reduceLT, Int.reduceToNat, Int.reduceLE, Int.reduceLT, Int.reduceNeg, h_inRange, mInRange, h_keysOf, mKeysOf, h_validKeys, mValidKeys, h0, h2]
        have h2' := of_decide_eq_true h2
        rw [decide_eq_true (p := xs.length ≤ 24) (by omega), Bool.true_and]
      · simp (config := {maxSteps := 1000000}) (disch := omega) only [go_sem, ↓reduceIte, Nat.reduceEqDiff, Nat.reduceAdd, Nat.reduceMul, Nat.reduceSub, Nat.reduceLeDiff, Nat.reduceLT, Int.reduceToNat, Int.reduceLE, Int.reduceLT, Int.reduceNeg, h_inRange, mInRange, h_keysOf, mKeysOf, h_validKeys, mValidKeys, h0, h2]
        have h2' := of_decide_eq_false h2
        rw [decide_eq_false (p := xs.length ≤ 24) (by omega), Bool.false_and]
theorem fo_validRow : FnOk Try.prog 69 := fnOk_of Try.func69 (by kernel_rfl)
theorem c_validRow : Contract Try.prog 69 mValidRow :=
  contract_of_does (DT := fun id => match id with  | _ => []) Try.checked.mixed tabOk (gok_model fo_inRange c_inRange (gok_model fo_keysOf c_keysOf (gok_model fo_validKeys c_validKeys gok_nil))) Try.func69 rfl (by kernel_rfl) (does_validRow rfl rfl rfl)



theorem does_ValidRowI {G : Nat → Option FM} (h_isValue : G 125 = some (.model mIsValue)) (h_keysOfRow : G 127 = some (.model mKeysOf)) (h_ValidKeysI : G 163 = some (.model mValidKeys)) : Does T G (fun id => match id with  | _ => []) Try.f148 mValidRow := by
  refine does1 (rs := [.tmp 2]) rfl rfl fun xs ro h => ?_
  obtain ⟨hs, rfl⟩ := gd_some h
  have hkl := keysP_len xs
  refine ⟨fun _ => ⟨rfl, rfl⟩, ?_⟩
  simp (config := {maxSteps := 1000000}) (disch := omega) only [go_sem, ↓reduceIte, Nat.reduceEqDiff, Nat.reduceAdd, Nat.reduceMul, Nat.reduceSub, Nat.reduceLeDiff, Nat.reduceLT, Int.reduceToNat, Int.reduceLE, Int.reduceLT, Int.reduceNeg, h_isValue, mIsValue, h_keysOfRow, mKeysOf, h_ValidKeysI, mValidKeys]
  (first | refine runKS_split (fun h4 => ?_) (fun h4 => ?_) | refine cond_split (fun h4 => ?_) (fun h4 => ?_) | refine runK_split (fun h4 => ?_) (fun h4 => ?_))
  · have h4 := of_decide_eq_true h4
    simp (config := {maxSteps := 1000000}) (disch := omega) only [go_sem, ↓reduceIte, Nat.reduceEqDiff, Nat.reduceAdd, Nat.reduceMul, Nat.reduceSub, Nat.reduceLeDiff, Nat.reduceLT, Int.reduceToNat, Int.reduceLE, Int.reduceLT, Int.reduceNeg, h_isValue, mIsValue, h_keysOfRow, mKeysOf, h_ValidKeysI, mValidKeys]
    have : vRow xs = false := by rw [vRow, decide_eq_false (p := xs.length ≤ 24) (by omega), Bool.false_and, Bool.and_false]
    rw [this]
  · simp (config := {maxSteps := 1000000}) (disch := omega) only [go_sem, ↓reduceIte, Nat.reduceEqDiff, Nat.reduceAdd, Nat.reduceMul, Nat.reduceSub, Nat.reduceLeDiff, Nat.reduceLT, Int.reduceToNat, Int.reduceLE, Int.reduceLT, Int.reduceNeg, h_isValue, mIsValue, h_keysOfRow, mKeysOf, h_ValidKeysI, mValidKeys, h4]
    have h4 := of_decide_eq_false h4
    refine W_loop_i (fun s => s.sl 0 = eRow false xs ∧ s.sl 8 = eRow false xs ∧ s.sl 9 = eI xs.length ∧ ∃ k : Nat, k ≤ xs.length ∧ s.sl 10 = eI k ∧ ∀ i, i < k → inR (xs.getD i default).2 (-1000) 1000 = true) (fun s => xs.length - iN (s.sl 10)) ?_ ?_
    · exact ⟨rfl, rfl, rfl, 0, Nat.zero_le _, rfl, fun i hi => by omega⟩
    · rintro sl hp n ⟨h0, h8, h9, k, hk, h10, ha⟩
      dsimp only at h0 h8 h9 h10
      simp (config := {maxSteps := 1000000}) (disch := omega) only [go_sem, ↓reduceIte, Nat.reduceEqDiff, Nat.reduceAdd, Nat.reduceMul, Nat.reduceSub, Nat.reduceLeDiff, Nat.reduceLT, Int.reduceToNat, Int.reduceLE, Int.reduceLT, Int.reduceNeg, h_isValue, mIsValue, h_keysOfRow, mKeysOf, h_ValidKeysI, mValidKeys, h0, h8, h9, h10]
      (first | refine runKS_split (fun h1 => ?_) (fun h1 => ?_) | refine cond_split (fun h1 => ?_) (fun h1 => ?_) | refine runK_split (fun h1 => ?_) (fun h1 => ?_))
      · have hlt : k < xs.length := by have := of_decide_eq_true h1; omega
        generalize hx : xs.getD k default = p at *
        simp (config := {maxSteps := 1000000}) (disch := omega) only [go_sem, ↓reduceIte, Nat.reduceEqDiff, Nat.reduceAdd, Nat.reduceMul, Nat.reduceSub, Nat.reduceLeDiff, Nat.reduceLT, Int.reduceToNat, Int.reduceLE, Int.reduceLT, Int.reduceNeg, h_isValue, mIsValue, h_keysOfRow, mKeysOf, h_ValidKeysI, mValidKeys, h0, h8, h9, h10, h1, hx, ePr]
        repeat' ((first | refine runKS_split (fun hh => ?_) (fun hh => ?_) | refine cond_split (fun hh => ?_) (fun hh => ?_) | refine runK_split (fun hh => ?_) (fun hh => ?_)) <;> simp (config := {maxSteps := 1000000}) (disch := omega) only [go_sem, ↓reduceIte, Nat.reduceEqDiff, Nat.reduceAdd, Nat.reduceMul, Nat.reduceSub, Nat.reduceLeDiff, Nat.reduceLT, Int.reduceToNat, Int.reduceLE, Int.reduceLT, Int.reduceNeg, h_isValue, mIsValue, h_keysOfRow, mKeysOf, h_ValidKeysI, mValidKeys, h0, h8, h9, h10, hx, hh])
        all_goals first
          | (rw [show vRow xs = false from by rw [vRow, all_f hlt (d := default) (by rw [hx]; simpa using hh), Bool.false_and]])
          | exact ⟨⟨k + 1, by omega, rfl, all_step (f := fun p : Pr => inR p.2 (-1000) 1000) ha (by rw [hx]; simpa using hh)⟩, by omega⟩
      · have hge := of_decide_eq_false h1
        simp (config := {maxSteps := 1000000}) (disch := omega) only [go_sem, ↓reduceIte, Nat.reduceEqDiff, Nat.reduceAdd, Nat.reduceMul, Nat.reduceSub, Nat.reduceLeDiff, Nat.reduceLT, Int.reduceToNat, Int.reduceLE, Int.reduceLT, Int.reduceNeg, h_isValue, mIsValue, h_keysOfRow, mKeysOf, h_ValidKeysI, mValidKeys, h0]
        rw [vRow, all_t (f := fun p : Pr => inR p.2 (-1000) 1000) default (fun i hi => ha i (by omega)), Bool.true_and, decide_eq_true (p := xs.length ≤ 24) (by omega), Bool.true_and]
theorem fo_ValidRowI : FnOk Try.prog 148 := fnOk_of Try.func148 (by kernel_rfl)
theorem c_ValidRowI : Contract Try.prog 148 mValidRow :=
  contract_of_does (DT := fun id => match id with  | _ => []) Try.checked.mixed tabOk (gok_model fo_isValue c_isValue (gok_model fo_keysOfRow c_keysOfRow (gok_model fo_ValidKeysI c_ValidKeysI gok_nil))) Try.func148 rfl (by kernel_rfl) (does_ValidRowI rfl rfl rfl)


def mLawRow : Model := M1 .ro true (cRow false) fun xs => gd (xs.length ≤ 9223372036854775807) (.b true, [])
theorem fn_FnExactValidRow (x : List Pr) (h : (∀ y ∈ x, intWf .i64 y.1 ∧ intWf .i64 y.2) ∧ x.length ≤ maxLen) : mLawRow.fn [eRow false x] = some (.b true, []) := by
  have h2 : x.length ≤ 9223372036854775807 := h.2
  simp (config := {maxSteps := 1000000}) (disch := omega) only [go_sem, ↓reduceIte, Nat.reduceEqDiff, Nat.reduceAdd, Nat.reduceMul, Nat.reduceSub, Nat.reduceLeDiff, Nat.reduceLT, Int.reduceToNat, Int.reduceLE, Int.reduceLT, Int.reduceNeg, mLawRow]
end Go.TM
