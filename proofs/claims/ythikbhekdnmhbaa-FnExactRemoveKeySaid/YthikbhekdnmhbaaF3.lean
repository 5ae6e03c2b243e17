/- Contracts, 3: rows of operations. -/
import Derived.Test.YthikbhekdnmhbaaF2
import Derived.Test.YthikbhekdnmhbaaTmD
namespace Go.TM
open Go.Proofs
set_option linter.unusedVariables false
set_option linter.unusedSimpArgs false
set_option maxRecDepth 100000

theorem all_f {α : Type} {f : α → Bool} {xs : List α} {d : α} {k : Nat} (hk : k < xs.length) (h : f (xs.getD k d) = false) : xs.all f = false := by
  rw [Bool.eq_false_iff]
  intro hh
  rw [List.all_eq_true] at hh
  have := hh (xs.getD k d) (by simp [hk])
  rw [h] at this; cases this
theorem all_t {α : Type} {f : α → Bool} {xs : List α} (d : α) (h : ∀ i, i < xs.length → f (xs.getD i d) = true) : xs.all f = true := by
  rw [List.all_eq_true]
  intro x hx
  obtain ⟨i, hi, rfl⟩ := List.getElem_of_mem hx
  have := h i hi
  simpa [hi] using this
theorem all_step {α : Type} {d : α} {f : α → Bool} {xs : List α} {k : Nat} (h : ∀ i, i < k → f (xs.getD i d) = true) (hk : f (xs.getD k d) = true) : ∀ i, i < k + 1 → f (xs.getD i d) = true := by
  intro i hi
  by_cases he : i = k
  · rw [he]; exact hk
  · exact h i (by omega)

def opOk (p : Op3) : Bool := inR p.1 0 1 && inR p.2.1 0 99 && inR p.2.2 (-1000) 1000 && !(decide (p.1 = 0) && !decide (p.2.2 = 0))
def vOps (xs : List Op3) : Bool := decide (xs.length ≤ 4) && xs.all opOk
def mValidOps : Model := M1 .ro true (cOps false) fun xs => gd (xs.length ≤ 1099511627776) (.b (vOps xs), [])
def mToOp : Model := M1 .ro true cOp fun x => some (.agg (eOp x), [])
def mEqOp : Model := M2 .ro .ro true cOp cOp fun x y => some (.b (decide (x = y)), [])
def mSzOpS : Model := M2 .ro .ro true (cOps false) cI fun xs n => gd (xs.length ≤ 9223372036854775807 ∧ 0 ≤ n ∧ n ≤ 1048576) (eI (if n < xs.length then -1 else n - xs.length), [])
def mToOpS : Model := M1 .ro true (cOps false) fun xs => gd (xs.length ≤ 1099511627776) (eOps true xs, [])
def mEqOpS : Model := M2 .ro .ro true (cOps false) (cOps false) fun xs ys => gd (xs.length ≤ 1099511627776 ∧ ys.length ≤ 1099511627776) (.b (decide (xs = ys)), [])

theorem clean_ops (xs : List Op3) : cleanL (xs.flatMap eOp) = true := by
  induction xs with
  | nil => rfl
  | cons x xs ih => rw [List.flatMap_cons]; simp [eOp, cleanL, cleanA, ih]

theorem rep_eOp (n : Nat) : (List.replicate n [eI 0, eI 0, eI 0]).flatten = (List.replicate n ((0, 0, 0) : Op3)).flatMap eOp := by
  induction n with
  | zero => rfl
  | succ n ih => simp only [List.replicate_succ, List.flatten_cons, List.flatMap_cons, ih]; rfl

theorem does_toOp {G : Nat → Option FM}  : Does T G (fun _ => []) Try.f86 mToOp := by
  refine does1 (rs := [.cell 2 84]) rfl rfl fun x ro h => ?_
  cases h
  refine ⟨fun _ => ⟨rfl, rfl⟩, ?_⟩
  simp (config := {maxSteps := 1000000}) (disch := omega) only [go_sem, ↓reduceIte, Nat.reduceEqDiff, Nat.reduceAdd, Nat.reduceMul, Nat.reduceSub, Nat.reduceLeDiff, Nat.reduceLT, Int.reduceToNat, Int.reduceLE, Int.reduceLT, Int.reduceNeg]
  rfl
theorem fo_toOp : FnOk Try.prog 86 := fnOk_of Try.func86 (by kernel_rfl)
theorem c_toOp : Contract Try.prog 86 mToOp :=
  contract_of_does (DT := fun _ => []) Try.checked.mixed tabOk gok_nil Try.func86 rfl (by kernel_rfl) (does_toOp )


theorem does_eqOp {G : Nat → Option FM}  : Does T G (fun _ => []) Try.f88 mEqOp := by
  refine does2 (rs := [.tmp 4]) rfl rfl fun x y ro h => ?_
  cases h
  refine ⟨fun _ => ⟨rfl, rfl⟩, ?_⟩
  obtain ⟨a, b, c⟩ := x
  obtain ⟨a', b', c'⟩ := y
  simp (config := {maxSteps := 1000000}) (disch := omega) only [go_sem, ↓reduceIte, Nat.reduceEqDiff, Nat.reduceAdd, Nat.reduceMul, Nat.reduceSub, Nat.reduceLeDiff, Nat.reduceLT, Int.reduceToNat, Int.reduceLE, Int.reduceLT, Int.reduceNeg]
  (first | refine runKS_split (fun h1 => ?_) (fun h1 => ?_) | refine cond_split (fun h1 => ?_) (fun h1 => ?_) | refine runK_split (fun h1 => ?_) (fun h1 => ?_))
  · simp (config := {maxSteps := 1000000}) (disch := omega) only [go_sem, ↓reduceIte, Nat.reduceEqDiff, Nat.reduceAdd, Nat.reduceMul, Nat.reduceSub, Nat.reduceLeDiff, Nat.reduceLT, Int.reduceToNat, Int.reduceLE, Int.reduceLT, Int.reduceNeg, h1]
    simp only [Bool.not_eq_true', decide_eq_false_iff_not] at h1
    simp [h1]
  · simp (config := {maxSteps := 1000000}) (disch := omega) only [go_sem, ↓reduceIte, Nat.reduceEqDiff, Nat.reduceAdd, Nat.reduceMul, Nat.reduceSub, Nat.reduceLeDiff, Nat.reduceLT, Int.reduceToNat, Int.reduceLE, Int.reduceLT, Int.reduceNeg, h1]
    simp only [Bool.not_eq_false', decide_eq_true_eq] at h1
    (first | refine runKS_split (fun h2 => ?_) (fun h2 => ?_) | refine cond_split (fun h2 => ?_) (fun h2 => ?_) | refine runK_split (fun h2 => ?_) (fun h2 => ?_))
    · simp (config := {maxSteps := 1000000}) (disch := omega) only [go_sem, ↓reduceIte, Nat.reduceEqDiff, Nat.reduceAdd, Nat.reduceMul, Nat.reduceSub, Nat.reduceLeDiff, Nat.reduceLT, Int.reduceToNat, Int.reduceLE, Int.reduceLT, Int.reduceNeg, h2]
      simp only [Bool.not_eq_true', decide_eq_false_iff_not] at h2
      simp [h2]
    · simp (config := {maxSteps := 1000000}) (disch := omega) only [go_sem, ↓reduceIte, Nat.reduceEqDiff, Nat.reduceAdd, Nat.reduceMul, Nat.reduceSub, Nat.reduceLeDiff, Nat.reduceLT, Int.reduceToNat, Int.reduceLE, Int.reduceLT, Int.reduceNeg, h2]
      simp only [Bool.not_eq_false', decide_eq_true_eq] at h2
      (first | refine runKS_split (fun h3 => ?_) (fun h3 => ?_) | refine cond_split (fun h3 => ?_) (fun h3 => ?_) | refine runK_split (fun h3 => ?_) (fun h3 => ?_))
      · simp (config := {maxSteps := 1000000}) (disch := omega) only [go_sem, ↓reduceIte, Nat.reduceEqDiff, Nat.reduceAdd, Nat.reduceMul, Nat.reduceSub, Nat.reduceLeDiff, Nat.reduceLT, Int.reduceToNat, Int.reduceLE, Int.reduceLT, Int.reduceNeg, h3]
        simp only [Bool.not_eq_true', decide_eq_false_iff_not] at h3
        simp [h3]
      · simp (config := {maxSteps := 1000000}) (disch := omega) only [go_sem, ↓reduceIte, Nat.reduceEqDiff, Nat.reduceAdd, Nat.reduceMul, Nat.reduceSub, Nat.reduceLeDiff, Nat.reduceLT, Int.reduceToNat, Int.reduceLE, Int.reduceLT, Int.reduceNeg, h3]
        simp only [Bool.not_eq_false', decide_eq_true_eq] at h3
        simp [h1, h2, h3]
theorem fo_eqOp : FnOk Try.prog 88 := fnOk_of Try.func88 (by kernel_rfl)
theorem c_eqOp : Contract Try.prog 88 mEqOp :=
  contract_of_does (DT := fun _ => []) Try.checked.mixed tabOk gok_nil Try.func88 rfl (by kernel_rfl) (does_eqOp )


theorem does_szOpS {G : Nat → Option FM}  : Does T G (fun _ => []) Try.f34 mSzOpS := by
  refine does2 (rs := [.tmp 4]) rfl rfl fun xs a ro h => ?_
  obtain ⟨hs, rfl⟩ := gd_some h
  refine ⟨fun _ => ⟨rfl, rfl⟩, ?_⟩
  simp (config := {maxSteps := 1000000}) (disch := omega) only [go_sem, ↓reduceIte, Nat.reduceEqDiff, Nat.reduceAdd, Nat.reduceMul, Nat.reduceSub, Nat.reduceLeDiff, Nat.reduceLT, Int.reduceToNat, Int.reduceLE, Int.reduceLT, Int.reduceNeg]
  (first | refine runKS_split (fun h => ?_) (fun h => ?_) | refine cond_split (fun h => ?_) (fun h => ?_) | refine runK_split (fun h => ?_) (fun h => ?_))
  · have h' := of_decide_eq_true h
    simp (config := {maxSteps := 1000000}) (disch := omega) only [go_sem, ↓reduceIte, Nat.reduceEqDiff, Nat.reduceAdd, Nat.reduceMul, Nat.reduceSub, Nat.reduceLeDiff, Nat.reduceLT, Int.reduceToNat, Int.reduceLE, Int.reduceLT, Int.reduceNeg, h]
    rw [if_pos (by omega)]
  · have h' := of_decide_eq_false h
    simp (config := {maxSteps := 1000000}) (disch := omega) only [go_sem, ↓reduceIte, Nat.reduceEqDiff, Nat.reduceAdd, Nat.reduceMul, Nat.reduceSub, Nat.reduceLeDiff, Nat.reduceLT, Int.reduceToNat, Int.reduceLE, Int.reduceLT, Int.reduceNeg, h]
    rw [if_neg (by omega)]
theorem fo_szOpS : FnOk Try.prog 34 := fnOk_of Try.func34 (by kernel_rfl)
theorem c_szOpS : Contract Try.prog 34 mSzOpS :=
  contract_of_does (DT := fun _ => []) Try.checked.mixed tabOk gok_nil Try.func34 rfl (by kernel_rfl) (does_szOpS )


theorem does_validOps {G : Nat → Option FM} (h_inRange : G 83 = some (.model mInRange)) : Does T G (fun _ => []) Try.f85 mValidOps := by
  refine does1 (rs := [.tmp 2]) rfl rfl fun xs ro h => ?_
  obtain ⟨hs, rfl⟩ := gd_some h
  refine ⟨fun _ => ⟨rfl, rfl⟩, ?_⟩
  simp (config := {maxSteps := 1000000}) (disch := omega) only [go_sem, ↓reduceIte, Nat.reduceEqDiff, Nat.reduceAdd, Nat.reduceMul, Nat.reduceSub, Nat.reduceLeDiff, Nat.reduceLT, Int.reduceToNat, Int.reduceLE, Int.reduceLT, Int.reduceNeg, h_inRange, mInRange]
  refine W_loop_i (fun s => s.sl 0 = eOps false xs ∧ ∃ k : Nat, k ≤ xs.length ∧ s.sl 3 = eI k ∧ ∀ i, i < k → opOk (xs.getD i default) = true) (fun s => xs.length - iN (s.sl 3)) ?_ ?_
  · exact ⟨rfl, 0, Nat.zero_le _, rfl, fun i hi => by omega⟩
  · rintro sl hp n ⟨h0, k, hk, h3, ha⟩
    dsimp only at h0 h3
    simp (config := {maxSteps := 1000000}) (disch := omega) only [go_sem, ↓reduceIte, Nat.reduceEqDiff, Nat.reduceAdd, Nat.reduceMul, Nat.reduceSub, Nat.reduceLeDiff, Nat.reduceLT, Int.reduceToNat, Int.reduceLE, Int.reduceLT, Int.reduceNeg, h_inRange, mInRange, h0, h3]
    (first | refine runKS_split (fun h1 => ?_) (fun h1 => ?_) | refine cond_split (fun h1 => ?_) (fun h1 => ?_) | refine runK_split (fun h1 => ?_) (fun h1 => ?_))
    · have hlt : k < xs.length := by have := of_decide_eq_true h1; omega
      generalize hx : xs.getD k default = p at *
      simp (config := {maxSteps := 1000000}) (disch := omega) only [go_sem, ↓reduceIte, Nat.reduceEqDiff, Nat.reduceAdd, Nat.reduceMul, Nat.reduceSub, Nat.reduceLeDiff, Nat.reduceLT, Int.reduceToNat, Int.reduceLE, Int.reduceLT, Int.reduceNeg, h_inRange, mInRange, h0, h3, h1, hx]
      repeat' ((first | refine runKS_split (fun hh => ?_) (fun hh => ?_) | refine cond_split (fun hh => ?_) (fun hh => ?_) | refine runK_split (fun hh => ?_) (fun hh => ?_)) <;> simp (config := {maxSteps := 1000000}) (disch := omega) only [go_sem, ↓reduceIte, Nat.reduceEqDiff, Nat.reduceAdd, Nat.reduceMul, Nat.reduceSub, Nat.reduceLeDiff, Nat.reduceLT, Int.reduceToNat, Int.reduceLE, Int.reduceLT, Int.reduceNeg, h_inRange, mInRange, h0, h3, hx, hh])
      all_goals first
        | (rw [show vOps xs = false from by rw [vOps, all_f hlt (d := default) (by rw [hx]; unfold opOk; simp_all), Bool.and_false]])
        | exact ⟨⟨k + 1, by omega, rfl, all_step ha (by rw [hx]; unfold opOk; simp_all)⟩, by omega⟩
    · have hge := of_decide_eq_false h1
      simp (config := {maxSteps := 1000000}) (disch := omega) only [go_sem, ↓reduceIte, Nat.reduceEqDiff, Nat.reduceAdd, Nat.reduceMul, Nat.reduceSub, Nat.reduceLeDiff, Nat.reduceLT, Int.reduceToNat, Int.reduceLE, Int.reduceLT, Int.reduceNeg, h_inRange, mInRange, h0]
      rw [vOps, all_t default (fun i hi => ha i (by omega)), Bool.and_true]
      simp
      omega
theorem fo_validOps : FnOk Try.prog 85 := fnOk_of Try.func85 (by kernel_rfl)
theorem c_validOps : Contract Try.prog 85 mValidOps :=
  contract_of_does (DT := fun _ => []) Try.checked.mixed tabOk (gok_model fo_inRange c_inRange gok_nil) Try.func85 rfl (by kernel_rfl) (does_validOps rfl)


theorem does_toOpS {G : Nat → Option FM} (h_toOp : G 86 = some (.model mToOp)) : Does T G (fun _ => []) Try.f36 mToOpS := by
  refine does1 (rs := [.tmp 2]) rfl rfl fun xs ro h => ?_
  obtain ⟨hs, rfl⟩ := gd_some h
  refine ⟨fun _ => ⟨by simp [cleanA, clean_ops], rfl⟩, ?_⟩
  simp (config := {maxSteps := 1000000}) (disch := omega) only [go_sem, ↓reduceIte, Nat.reduceEqDiff, Nat.reduceAdd, Nat.reduceMul, Nat.reduceSub, Nat.reduceLeDiff, Nat.reduceLT, Int.reduceToNat, Int.reduceLE, Int.reduceLT, Int.reduceNeg, h_toOp, mToOp, rep_eOp]
  refine W_loop_i (fun s => s.sl 0 = eOps false xs ∧ ∃ m, m < s.n ∧ s.sl 3 = .ref (m, 0) [] 0 0 3 xs.length ∧ ∃ k : Nat, k ≤ xs.length ∧ s.sl 4 = eI k ∧ ∃ ys : List Op3, ys.length = xs.length ∧ (∀ i, i < k → ys.getD i default = xs.getD i default) ∧ s.hp (m, 0) = some ⟨3, xs.length, ys.flatMap eOp, fun _ => 0⟩) (fun s => xs.length - iN (s.sl 4)) ?_ ?_
  · refine ⟨rfl, _, ?_, rfl, 0, Nat.zero_le _, rfl, List.replicate xs.length (0, 0, 0), by simp, fun i hi => by omega, ?_⟩
    · simp (config := {maxSteps := 1000000}) (disch := omega) only [go_sem, ↓reduceIte, Nat.reduceEqDiff, Nat.reduceAdd, Nat.reduceMul, Nat.reduceSub, Nat.reduceLeDiff, Nat.reduceLT, Int.reduceToNat, Int.reduceLE, Int.reduceLT, Int.reduceNeg, h_toOp, mToOp]
    · simp (config := {maxSteps := 1000000}) (disch := omega) only [go_sem, ↓reduceIte, Nat.reduceEqDiff, Nat.reduceAdd, Nat.reduceMul, Nat.reduceSub, Nat.reduceLeDiff, Nat.reduceLT, Int.reduceToNat, Int.reduceLE, Int.reduceLT, Int.reduceNeg, h_toOp, mToOp]
  · rintro sl hp n ⟨h0, m, hm, h3, k, hk, h4, ys, hy, hall, hh⟩
    dsimp only at h0 h3 h4 hh hm
    simp (config := {maxSteps := 1000000}) (disch := omega) only [go_sem, ↓reduceIte, Nat.reduceEqDiff, Nat.reduceAdd, Nat.reduceMul, Nat.reduceSub, Nat.reduceLeDiff, Nat.reduceLT, Int.reduceToNat, Int.reduceLE, Int.reduceLT, Int.reduceNeg, h_toOp, mToOp, h0, h3, h4]
    (first | refine runKS_split (fun h => ?_) (fun h => ?_) | refine cond_split (fun h => ?_) (fun h => ?_) | refine runK_split (fun h => ?_) (fun h => ?_))
    · have hlt := of_decide_eq_true h
      simp (config := {maxSteps := 1000000}) (disch := omega) only [go_sem, ↓reduceIte, Nat.reduceEqDiff, Nat.reduceAdd, Nat.reduceMul, Nat.reduceSub, Nat.reduceLeDiff, Nat.reduceLT, Int.reduceToNat, Int.reduceLE, Int.reduceLT, Int.reduceNeg, h_toOp, mToOp, h0, h3, h4, h, hh, eOp]
      exact ⟨⟨m, by omega, rfl, k + 1, by omega, rfl, ys.set k (xs.getD k default), by simp [hy], set_step (fun i => xs.getD i default) (by omega) hall, upd_same ..⟩, by omega⟩
    · have hge := of_decide_eq_false h
      simp (config := {maxSteps := 1000000}) (disch := omega) only [go_sem, ↓reduceIte, Nat.reduceEqDiff, Nat.reduceAdd, Nat.reduceMul, Nat.reduceSub, Nat.reduceLeDiff, Nat.reduceLT, Int.reduceToNat, Int.reduceLE, Int.reduceLT, Int.reduceNeg, h_toOp, mToOp, h0, h3, h4, h, hh]
      rw [list_ext hy fun i hi => hall i (by omega)]
theorem fo_toOpS : FnOk Try.prog 36 := fnOk_of Try.func36 (by kernel_rfl)
theorem c_toOpS : Contract Try.prog 36 mToOpS :=
  contract_of_does (DT := fun _ => []) Try.checked.mixed tabOk (gok_model fo_toOp c_toOp gok_nil) Try.func36 rfl (by kernel_rfl) (does_toOpS rfl)

theorem does_ValidOpsS {G : Nat → Option FM} (h_validOps : G 85 = some (.model mValidOps)) : Does T G (fun _ => []) Try.f35 mValidOps := by
  refine does1 (rs := [.tmp 2]) rfl rfl fun xs ro h => ?_
  obtain ⟨hs, rfl⟩ := gd_some h
  refine ⟨fun _ => ⟨rfl, rfl⟩, ?_⟩
  simp (config := {maxSteps := 1000000}) (disch := omega) only [go_sem, ↓reduceIte, Nat.reduceEqDiff, Nat.reduceAdd, Nat.reduceMul, Nat.reduceSub, Nat.reduceLeDiff, Nat.reduceLT, Int.reduceToNat, Int.reduceLE, Int.reduceLT, Int.reduceNeg, h_validOps, mValidOps]
theorem fo_ValidOpsS : FnOk Try.prog 35 := fnOk_of Try.func35 (by kernel_rfl)
theorem c_ValidOpsS : Contract Try.prog 35 mValidOps :=
  contract_of_does (DT := fun _ => []) Try.checked.mixed tabOk (gok_model fo_validOps c_validOps gok_nil) Try.func35 rfl (by kernel_rfl) (does_ValidOpsS rfl)


theorem does_ValidOpsI {G : Nat → Option FM} (h_isKey : G 79 = some (.model mIsKey)) (h_isValue : G 87 = some (.model mIsValue)) : Does T G (fun _ => []) Try.f37 mValidOps := by
  refine does1 (rs := [.tmp 2]) rfl rfl fun xs ro h => ?_
  obtain ⟨hs, rfl⟩ := gd_some h
  refine ⟨fun _ => ⟨rfl, rfl⟩, ?_⟩
  simp (config := {maxSteps := 1000000}) (disch := omega) only [go_sem, ↓reduceIte, Nat.reduceEqDiff, Nat.reduceAdd, Nat.reduceMul, Nat.reduceSub, Nat.reduceLeDiff, Nat.reduceLT, Int.reduceToNat, Int.reduceLE, Int.reduceLT, Int.reduceNeg, h_isKey, mIsKey, h_isValue, mIsValue]
  (first | refine runKS_split (fun h4 => ?_) (fun h4 => ?_) | refine cond_split (fun h4 => ?_) (fun h4 => ?_) | refine runK_split (fun h4 => ?_) (fun h4 => ?_))
  · have h4 := of_decide_eq_true h4
    simp (config := {maxSteps := 1000000}) (disch := omega) only [go_sem, ↓reduceIte, Nat.reduceEqDiff, Nat.reduceAdd, Nat.reduceMul, Nat.reduceSub, Nat.reduceLeDiff, Nat.reduceLT, Int.reduceToNat, Int.reduceLE, Int.reduceLT, Int.reduceNeg, h_isKey, mIsKey, h_isValue, mIsValue]
    have : vOps xs = false := by rw [vOps, decide_eq_false (by omega), Bool.false_and]
    rw [this]
  · simp (config := {maxSteps := 1000000}) (disch := omega) only [go_sem, ↓reduceIte, Nat.reduceEqDiff, Nat.reduceAdd, Nat.reduceMul, Nat.reduceSub, Nat.reduceLeDiff, Nat.reduceLT, Int.reduceToNat, Int.reduceLE, Int.reduceLT, Int.reduceNeg, h_isKey, mIsKey, h_isValue, mIsValue, h4]
    have h4 := of_decide_eq_false h4
    refine W_loop_i (fun s => s.sl 0 = eOps false xs ∧ s.sl 8 = eOps false xs ∧ s.sl 9 = eI xs.length ∧ ∃ k : Nat, k ≤ xs.length ∧ s.sl 10 = eI k ∧ ∀ i, i < k → opOk (xs.getD i default) = true) (fun s => xs.length - iN (s.sl 10)) ?_ ?_
    · exact ⟨rfl, rfl, rfl, 0, Nat.zero_le _, rfl, fun i hi => by omega⟩
    · rintro sl hp n ⟨h0, h8, h9, k, hk, h10, ha⟩
      dsimp only at h0 h8 h9 h10
      simp (config := {maxSteps := 1000000}) (disch := omega) only [go_sem, ↓reduceIte, Nat.reduceEqDiff, Nat.reduceAdd, Nat.reduceMul, Nat.reduceSub, Nat.reduceLeDiff, Nat.reduceLT, Int.reduceToNat, Int.reduceLE, Int.reduceLT, Int.reduceNeg, h_isKey, mIsKey, h_isValue, mIsValue, h0, h8, h9, h10]
      (first | refine runKS_split (fun h1 => ?_) (fun h1 => ?_) | refine cond_split (fun h1 => ?_) (fun h1 => ?_) | refine runK_split (fun h1 => ?_) (fun h1 => ?_))
      · have hlt : k < xs.length := by have := of_decide_eq_true h1; omega
        generalize hx : xs.getD k default = p at *
        simp (config := {maxSteps := 1000000}) (disch := omega) only [go_sem, ↓reduceIte, Nat.reduceEqDiff, Nat.reduceAdd, Nat.reduceMul, Nat.reduceSub, Nat.reduceLeDiff, Nat.reduceLT, Int.reduceToNat, Int.reduceLE, Int.reduceLT, Int.reduceNeg, h_isKey, mIsKey, h_isValue, mIsValue, h0, h8, h9, h10, h1, hx, eOp]
        repeat' ((first | refine runKS_split (fun hh => ?_) (fun hh => ?_) | refine cond_split (fun hh => ?_) (fun hh => ?_) | refine runK_split (fun hh => ?_) (fun hh => ?_)) <;> simp (config := {maxSteps := 1000000}) (disch := omega) only [go_sem, ↓reduceIte, Nat.reduceEqDiff, Nat.reduceAdd, Nat.reduceMul, Nat.reduceSub, Nat.reduceLeDiff, Nat.reduceLT, Int.reduceToNat, Int.reduceLE, Int.reduceLT, Int.reduceNeg, h_isKey, mIsKey, h_isValue, mIsValue, h0, h8, h9, h10, hx, hh])
        all_goals first
          | (rw [show vOps xs = false from by rw [vOps, all_f hlt (d := default) (by rw [hx]; unfold opOk; simp_all [inR] <;> omega), Bool.and_false]])
          | exact ⟨⟨k + 1, by omega, rfl, all_step ha (by rw [hx]; unfold opOk; simp_all [inR] <;> omega)⟩, by omega⟩
      · have hge := of_decide_eq_false h1
        simp (config := {maxSteps := 1000000}) (disch := omega) only [go_sem, ↓reduceIte, Nat.reduceEqDiff, Nat.reduceAdd, Nat.reduceMul, Nat.reduceSub, Nat.reduceLeDiff, Nat.reduceLT, Int.reduceToNat, Int.reduceLE, Int.reduceLT, Int.reduceNeg, h_isKey, mIsKey, h_isValue, mIsValue]
        rw [vOps, all_t default (fun i hi => ha i (by omega)), Bool.and_true, decide_eq_true (by omega)]
theorem fo_ValidOpsI : FnOk Try.prog 37 := fnOk_of Try.func37 (by kernel_rfl)
theorem c_ValidOpsI : Contract Try.prog 37 mValidOps :=
  contract_of_does (DT := fun _ => []) Try.checked.mixed tabOk (gok_model fo_isKey c_isKey (gok_model fo_isValue c_isValue gok_nil)) Try.func37 rfl (by kernel_rfl) (does_ValidOpsI rfl rfl)


theorem does_eqOpS {G : Nat → Option FM} (h_eqOp : G 88 = some (.model mEqOp)) : Does T G (fun _ => []) Try.f38 mEqOpS := by
  refine does2 (rs := [.tmp 4]) rfl rfl fun xs ys ro h => ?_
  obtain ⟨hs, rfl⟩ := gd_some h
  refine ⟨fun _ => ⟨rfl, rfl⟩, ?_⟩
  simp (config := {maxSteps := 1000000}) (disch := omega) only [go_sem, ↓reduceIte, Nat.reduceEqDiff, Nat.reduceAdd, Nat.reduceMul, Nat.reduceSub, Nat.reduceLeDiff, Nat.reduceLT, Int.reduceToNat, Int.reduceLE, Int.reduceLT, Int.reduceNeg, h_eqOp, mEqOp]
  (first | refine runKS_split (fun h => ?_) (fun h => ?_) | refine cond_split (fun h => ?_) (fun h => ?_) | refine runK_split (fun h => ?_) (fun h => ?_))
  · have h' : xs ≠ ys := by rintro rfl; simp at h
    simp (config := {maxSteps := 1000000}) (disch := omega) only [go_sem, ↓reduceIte, Nat.reduceEqDiff, Nat.reduceAdd, Nat.reduceMul, Nat.reduceSub, Nat.reduceLeDiff, Nat.reduceLT, Int.reduceToNat, Int.reduceLE, Int.reduceLT, Int.reduceNeg, h_eqOp, mEqOp, h]
    simp [h']
  · have hl : xs.length = ys.length := by simp at h; omega
    simp (config := {maxSteps := 1000000}) (disch := omega) only [go_sem, ↓reduceIte, Nat.reduceEqDiff, Nat.reduceAdd, Nat.reduceMul, Nat.reduceSub, Nat.reduceLeDiff, Nat.reduceLT, Int.reduceToNat, Int.reduceLE, Int.reduceLT, Int.reduceNeg, h_eqOp, mEqOp, h]
    refine W_loop_i (fun s => s.sl 0 = eOps false xs ∧ s.sl 1 = eOps false ys ∧ ∃ k : Nat, k ≤ xs.length ∧ s.sl 5 = eI k ∧ ∀ i, i < k → xs.getD i default = ys.getD i default) (fun s => xs.length - iN (s.sl 5)) ?_ ?_
    · exact ⟨rfl, rfl, 0, Nat.zero_le _, rfl, fun i hi => by omega⟩
    · rintro sl hp n ⟨h0, h1, k, hk, h5, hall⟩
      dsimp only at h0 h1 h5
      simp (config := {maxSteps := 1000000}) (disch := omega) only [go_sem, ↓reduceIte, Nat.reduceEqDiff, Nat.reduceAdd, Nat.reduceMul, Nat.reduceSub, Nat.reduceLeDiff, Nat.reduceLT, Int.reduceToNat, Int.reduceLE, Int.reduceLT, Int.reduceNeg, h_eqOp, mEqOp, h0, h1, h5]
      (first | refine runKS_split (fun h2 => ?_) (fun h2 => ?_) | refine cond_split (fun h2 => ?_) (fun h2 => ?_) | refine runK_split (fun h2 => ?_) (fun h2 => ?_))
      · have hlt := of_decide_eq_true h2
        simp (config := {maxSteps := 1000000}) (disch := omega) only [go_sem, ↓reduceIte, Nat.reduceEqDiff, Nat.reduceAdd, Nat.reduceMul, Nat.reduceSub, Nat.reduceLeDiff, Nat.reduceLT, Int.reduceToNat, Int.reduceLE, Int.reduceLT, Int.reduceNeg, h_eqOp, mEqOp, h0, h1, h5, h2, eOp]
        (first | refine runKS_split (fun h' => ?_) (fun h' => ?_) | refine cond_split (fun h' => ?_) (fun h' => ?_) | refine runK_split (fun h' => ?_) (fun h' => ?_))
        · simp (config := {maxSteps := 1000000}) (disch := omega) only [go_sem, ↓reduceIte, Nat.reduceEqDiff, Nat.reduceAdd, Nat.reduceMul, Nat.reduceSub, Nat.reduceLeDiff, Nat.reduceLT, Int.reduceToNat, Int.reduceLE, Int.reduceLT, Int.reduceNeg, h_eqOp, mEqOp]
          have : xs ≠ ys := by rintro rfl; simp at h'
          simp [this]
        · have h' : xs.getD k default = ys.getD k default := by
            have := h'
            simp only [Bool.not_eq_false', decide_eq_true_eq, Prod.mk.injEq] at this
            exact Prod.ext this.1 (Prod.ext this.2.1 this.2.2)
          simp (config := {maxSteps := 1000000}) (disch := omega) only [go_sem, ↓reduceIte, Nat.reduceEqDiff, Nat.reduceAdd, Nat.reduceMul, Nat.reduceSub, Nat.reduceLeDiff, Nat.reduceLT, Int.reduceToNat, Int.reduceLE, Int.reduceLT, Int.reduceNeg, h_eqOp, mEqOp, h0, h1, h5]
          refine ⟨⟨k + 1, by omega, rfl, fun i hi => ?_⟩, by omega⟩
          by_cases he : i = k
          · rw [he]; exact h'
          · exact hall i (by omega)
      · have hge := of_decide_eq_false h2
        simp (config := {maxSteps := 1000000}) (disch := omega) only [go_sem, ↓reduceIte, Nat.reduceEqDiff, Nat.reduceAdd, Nat.reduceMul, Nat.reduceSub, Nat.reduceLeDiff, Nat.reduceLT, Int.reduceToNat, Int.reduceLE, Int.reduceLT, Int.reduceNeg, h_eqOp, mEqOp]
        have : xs = ys := (list_ext hl.symm fun i hi => (hall i (by omega)).symm).symm
        simp [this]
theorem fo_eqOpS : FnOk Try.prog 38 := fnOk_of Try.func38 (by kernel_rfl)
theorem c_eqOpS : Contract Try.prog 38 mEqOpS :=
  contract_of_does (DT := fun _ => []) Try.checked.mixed tabOk (gok_model fo_eqOp c_eqOp gok_nil) Try.func38 rfl (by kernel_rfl) (does_eqOpS rfl)


def mLawOps : Model := M1 .ro true (cOps false) fun xs => gd (xs.length ≤ 9223372036854775807) (.b true, [])
theorem does_FnExactValidOps {G : Nat → Option FM} (h_szOpS : G 34 = some (.model mSzOpS)) (h_toOpS : G 36 = some (.model mToOpS)) (h_ValidOpsS : G 35 = some (.model mValidOps)) (h_ValidOpsI : G 37 = some (.model mValidOps)) (h_eqOpS : G 38 = some (.model mEqOpS)) : Does T G (fun _ => []) Try.f6 mLawOps := by
  refine does1 (rs := [.tmp 2]) rfl rfl fun xs ro h => ?_
  obtain ⟨hs, rfl⟩ := gd_some h
  refine ⟨fun _ => ⟨rfl, rfl⟩, ?_⟩
  by_cases hl : 1048576 < (xs.length : Int)
  · simp (config := {maxSteps := 1000000}) (disch := omega) only [go_sem, ↓reduceIte, Nat.reduceEqDiff, Nat.reduceAdd, Nat.reduceMul, Nat.reduceSub, Nat.reduceLeDiff, Nat.reduceLT, Int.reduceToNat, Int.reduceLE, Int.reduceLT, Int.reduceNeg, h_szOpS, mSzOpS, h_toOpS, mToOpS, h_ValidOpsS, mValidOps, h_ValidOpsI, mValidOps, h_eqOpS, mEqOpS, hl]
  · have e : ¬ (1048576 - (xs.length : Int)) < 0 := by omega
    simp (config := {maxSteps := 1000000}) (disch := omega) only [go_sem, ↓reduceIte, Nat.reduceEqDiff, Nat.reduceAdd, Nat.reduceMul, Nat.reduceSub, Nat.reduceLeDiff, Nat.reduceLT, Int.reduceToNat, Int.reduceLE, Int.reduceLT, Int.reduceNeg, h_szOpS, mSzOpS, h_toOpS, mToOpS, h_ValidOpsS, mValidOps, h_ValidOpsI, mValidOps, h_eqOpS, mEqOpS, hl, e]
theorem fo_FnExactValidOps : FnOk Try.prog 6 := fnOk_of Try.func6 (by kernel_rfl)
theorem c_FnExactValidOps : Contract Try.prog 6 mLawOps :=
  contract_of_does (DT := fun _ => []) Try.checked.mixed tabOk (gok_model fo_szOpS c_szOpS (gok_model fo_toOpS c_toOpS (gok_model fo_ValidOpsS c_ValidOpsS (gok_model fo_ValidOpsI c_ValidOpsI (gok_model fo_eqOpS c_eqOpS gok_nil))))) Try.func6 rfl (by kernel_rfl) (does_FnExactValidOps rfl rfl rfl rfl rfl)

theorem fn_FnExactValidOps (x : List Op3) (h : (∀ y ∈ x, intWf .i64 y.1 ∧ intWf .i64 y.2.1 ∧ intWf .i64 y.2.2) ∧ x.length ≤ maxLen) : mLawOps.fn [eOps false x] = some (.b true, []) := by
  have h2 : x.length ≤ 9223372036854775807 := h.2
  simp (config := {maxSteps := 1000000}) (disch := omega) only [go_sem, ↓reduceIte, Nat.reduceEqDiff, Nat.reduceAdd, Nat.reduceMul, Nat.reduceSub, Nat.reduceLeDiff, Nat.reduceLT, Int.reduceToNat, Int.reduceLE, Int.reduceLT, Int.reduceNeg, mLawOps]
end Go.TM
