/- Contracts, 6: pages. -/
import Derived.Test.YtbpfagbihffmbaaF5
namespace Go.TM
open Go.Proofs
set_option linter.unusedVariables false
set_option linter.unusedSimpArgs false
set_option maxRecDepth 100000

def szPg (x : Pg) (n : Int) : Int := if n < x.keys.length then -1 else if n - x.keys.length < x.kids.length then -1 else if n - x.keys.length - x.kids.length < x.vals.length then -1 else n - x.keys.length - x.kids.length - x.vals.length
def mSzPage : Model := M2 .ro .ro true (cPage false) cI fun x n => gd (x.keys.length ≤ 9223372036854775807 ∧ x.kids.length ≤ 9223372036854775807 ∧ x.vals.length ≤ 9223372036854775807 ∧ 0 ≤ n ∧ n ≤ 1048576) (eI (szPg x n), [])
def mToPage : Model := M1 .ro true (cPage false) fun x => gd (x.keys.length ≤ 1099511627776 ∧ x.kids.length ≤ 1099511627776 ∧ x.vals.length ≤ 1099511627776) (ePage true x, [])
def mEqPage : Model := M2 .ro .ro true (cPage false) (cPage false) fun x y => gd ((x.keys.length ≤ 1099511627776 ∧ x.kids.length ≤ 1099511627776 ∧ x.vals.length ≤ 1099511627776) ∧ y.keys.length ≤ 1099511627776 ∧ y.kids.length ≤ 1099511627776 ∧ y.vals.length ≤ 1099511627776) (.b (decide (x = y)), [])

theorem does_szPage {G : Nat → Option FM} (h_szIntS : G 149 = some (.model mSzIntS)) : Does T G (fun id => match id with  | _ => []) Try.f99 mSzPage := by
  refine does2 (rs := [.tmp 4]) rfl rfl fun x a ro h => ?_
  obtain ⟨⟨hs1, hs2, hs3⟩, rfl⟩ := gd_some h
  refine ⟨fun _ => ⟨rfl, rfl⟩, ?_⟩
  simp (config := {maxSteps := 1000000}) (disch := omega) only [go_sem, ↓reduceIte, Nat.reduceEqDiff, Nat.reduceAdd, Nat.reduceMul, Nat.reduceSub, Nat.reduceLeDiff, Nat.reduceLT, Int.reduceToNat, Int.reduceLE, Int.reduceLT, Int.reduceNeg, h_szIntS, mSzIntS]
  by_cases h1 : a < (x.keys.length : Int)
  · simp (config := {maxSteps := 1000000}) (disch := omega) only [go_sem, ↓reduceIte, Nat.reduceEqDiff, Nat.reduceAdd, Nat.reduceMul, Nat.reduceSub, Nat.reduceLeDiff, Nat.reduceLT, Int.reduceToNat, Int.reduceLE, Int.reduceLT, Int.reduceNeg, h_szIntS, mSzIntS, h1, szPg]
  · have e : ¬ (a - (x.keys.length : Int)) < 0 := by omega
    simp (config := {maxSteps := 1000000}) (disch := omega) only [go_sem, ↓reduceIte, Nat.reduceEqDiff, Nat.reduceAdd, Nat.reduceMul, Nat.reduceSub, Nat.reduceLeDiff, Nat.reduceLT, Int.reduceToNat, Int.reduceLE, Int.reduceLT, Int.reduceNeg, h_szIntS, mSzIntS, h1, e]
    by_cases h2 : a - (x.keys.length : Int) < (x.kids.length : Int)
    · simp (config := {maxSteps := 1000000}) (disch := omega) only [go_sem, ↓reduceIte, Nat.reduceEqDiff, Nat.reduceAdd, Nat.reduceMul, Nat.reduceSub, Nat.reduceLeDiff, Nat.reduceLT, Int.reduceToNat, Int.reduceLE, Int.reduceLT, Int.reduceNeg, h_szIntS, mSzIntS, h1, h2, szPg]
    · have e2 : ¬ (a - (x.keys.length : Int) - (x.kids.length : Int)) < 0 := by omega
      simp (config := {maxSteps := 1000000}) (disch := omega) only [go_sem, ↓reduceIte, Nat.reduceEqDiff, Nat.reduceAdd, Nat.reduceMul, Nat.reduceSub, Nat.reduceLeDiff, Nat.reduceLT, Int.reduceToNat, Int.reduceLE, Int.reduceLT, Int.reduceNeg, h_szIntS, mSzIntS, h1, h2, e2]
      by_cases h3 : a - (x.keys.length : Int) - (x.kids.length : Int) < (x.vals.length : Int)
      · simp (config := {maxSteps := 1000000}) (disch := omega) only [go_sem, ↓reduceIte, Nat.reduceEqDiff, Nat.reduceAdd, Nat.reduceMul, Nat.reduceSub, Nat.reduceLeDiff, Nat.reduceLT, Int.reduceToNat, Int.reduceLE, Int.reduceLT, Int.reduceNeg, h_szIntS, mSzIntS, h1, h2, h3, szPg]
      · have e3 : ¬ (a - (x.keys.length : Int) - (x.kids.length : Int) - (x.vals.length : Int)) < 0 := by omega
        simp (config := {maxSteps := 1000000}) (disch := omega) only [go_sem, ↓reduceIte, Nat.reduceEqDiff, Nat.reduceAdd, Nat.reduceMul, Nat.reduceSub, Nat.reduceLeDiff, Nat.reduceLT, Int.reduceToNat, Int.reduceLE, Int.reduceLT, Int.reduceNeg, h_szIntS, mSzIntS, h1, h2, h3, e3, szPg]
theorem fo_szPage : FnOk Try.prog 99 := fnOk_of Try.func99 (by kernel_rfl)
theorem c_szPage : Contract Try.prog 99 mSzPage :=
  contract_of_does (DT := fun id => match id with  | _ => []) Try.checked.mixed tabOk (gok_model fo_szIntS c_szIntS gok_nil) Try.func99 rfl (by kernel_rfl) (does_szPage rfl)


theorem does_toPage {G : Nat → Option FM} (h_toIntS : G 23 = some (.model mToIntS)) : Does T G (fun id => match id with  | _ => []) Try.f111 mToPage := by
  refine does1 (rs := [.cell 2 85]) rfl rfl fun x ro h => ?_
  obtain ⟨hs, rfl⟩ := gd_some h
  refine ⟨fun _ => ⟨by simp [cleanA, cleanL, clean_ints], rfl⟩, ?_⟩
  simp (config := {maxSteps := 1000000}) (disch := omega) only [go_sem, ↓reduceIte, Nat.reduceEqDiff, Nat.reduceAdd, Nat.reduceMul, Nat.reduceSub, Nat.reduceLeDiff, Nat.reduceLT, Int.reduceToNat, Int.reduceLE, Int.reduceLT, Int.reduceNeg, h_toIntS, mToIntS]
theorem fo_toPage : FnOk Try.prog 111 := fnOk_of Try.func111 (by kernel_rfl)
theorem c_toPage : Contract Try.prog 111 mToPage :=
  contract_of_does (DT := fun id => match id with  | _ => []) Try.checked.mixed tabOk (gok_model fo_toIntS c_toIntS gok_nil) Try.func111 rfl (by kernel_rfl) (does_toPage rfl)


theorem does_eqPage {G : Nat → Option FM} (h_eqIntS : G 25 = some (.model mEqIntS)) : Does T G (fun id => match id with  | _ => []) Try.f115 mEqPage := by
  refine does2 (rs := [.tmp 4]) rfl rfl fun x y ro h => ?_
  obtain ⟨hs, rfl⟩ := gd_some h
  refine ⟨fun _ => ⟨rfl, rfl⟩, ?_⟩
  obtain ⟨a, b, c⟩ := x
  obtain ⟨a', b', c'⟩ := y
  dsimp only at hs
  simp (config := {maxSteps := 1000000}) (disch := omega) only [go_sem, ↓reduceIte, Nat.reduceEqDiff, Nat.reduceAdd, Nat.reduceMul, Nat.reduceSub, Nat.reduceLeDiff, Nat.reduceLT, Int.reduceToNat, Int.reduceLE, Int.reduceLT, Int.reduceNeg, h_eqIntS, mEqIntS]
  by_cases h1 : a = a'
  · simp (config := {maxSteps := 1000000}) (disch := omega) only [go_sem, ↓reduceIte, Nat.reduceEqDiff, Nat.reduceAdd, Nat.reduceMul, Nat.reduceSub, Nat.reduceLeDiff, Nat.reduceLT, Int.reduceToNat, Int.reduceLE, Int.reduceLT, Int.reduceNeg, h_eqIntS, mEqIntS, h1]
    by_cases h2 : b = b'
    · simp (config := {maxSteps := 1000000}) (disch := omega) only [go_sem, ↓reduceIte, Nat.reduceEqDiff, Nat.reduceAdd, Nat.reduceMul, Nat.reduceSub, Nat.reduceLeDiff, Nat.reduceLT, Int.reduceToNat, Int.reduceLE, Int.reduceLT, Int.reduceNeg, h_eqIntS, mEqIntS, h1, h2]
      by_cases h3 : c = c'
      · simp (config := {maxSteps := 1000000}) (disch := omega) only [go_sem, ↓reduceIte, Nat.reduceEqDiff, Nat.reduceAdd, Nat.reduceMul, Nat.reduceSub, Nat.reduceLeDiff, Nat.reduceLT, Int.reduceToNat, Int.reduceLE, Int.reduceLT, Int.reduceNeg, h_eqIntS, mEqIntS, h1, h2, h3]
        try simp [h1, h2, h3]
      · simp (config := {maxSteps := 1000000}) (disch := omega) only [go_sem, ↓reduceIte, Nat.reduceEqDiff, Nat.reduceAdd, Nat.reduceMul, Nat.reduceSub, Nat.reduceLeDiff, Nat.reduceLT, Int.reduceToNat, Int.reduceLE, Int.reduceLT, Int.reduceNeg, h_eqIntS, mEqIntS, h1, h2, h3]
        try simp [h1, h2, h3]
    · simp (config := {maxSteps := 1000000}) (disch := omega) only [go_sem, ↓reduceIte, Nat.reduceEqDiff, Nat.reduceAdd, Nat.reduceMul, Nat.reduceSub, Nat.reduceLeDiff, Nat.reduceLT, Int.reduceToNat, Int.reduceLE, Int.reduceLT, Int.reduceNeg, h_eqIntS, mEqIntS, h1, h2]
      try simp [h1, h2]
  · simp (config := {maxSteps := 1000000}) (disch := omega) only [go_sem, ↓reduceIte, Nat.reduceEqDiff, Nat.reduceAdd, Nat.reduceMul, Nat.reduceSub, Nat.reduceLeDiff, Nat.reduceLT, Int.reduceToNat, Int.reduceLE, Int.reduceLT, Int.reduceNeg, h_eqIntS, mEqIntS, h1]
    try simp [h1]
theorem fo_eqPage : FnOk Try.prog 115 := fnOk_of Try.func115 (by kernel_rfl)
theorem c_eqPage : Contract Try.prog 115 mEqPage :=
  contract_of_does (DT := fun id => match id with  | _ => []) Try.checked.mixed tabOk (gok_model fo_eqIntS c_eqIntS gok_nil) Try.func115 rfl (by kernel_rfl) (does_eqPage rfl)

def mInside : Model := M1 .ro false (cPage false) fun x => some (eInn false ⟨x.keys, x.kids⟩, [])
theorem does_insideOfI {G : Nat → Option FM}  : Does T G (fun id => match id with  | _ => []) Try.f80 mInside := by
  refine does1 (rs := [.cell 2 93]) rfl rfl fun x ro h => ?_
  cases h
  refine ⟨fun hc => (by cases hc), ?_⟩
  simp (config := {maxSteps := 1000000}) (disch := omega) only [go_sem, ↓reduceIte, Nat.reduceEqDiff, Nat.reduceAdd, Nat.reduceMul, Nat.reduceSub, Nat.reduceLeDiff, Nat.reduceLT, Int.reduceToNat, Int.reduceLE, Int.reduceLT, Int.reduceNeg]
theorem fo_insideOfI : FnOk Try.prog 80 := fnOk_of Try.func80 (by kernel_rfl)
theorem c_insideOfI : Contract Try.prog 80 mInside :=
  contract_of_does (DT := fun id => match id with  | _ => []) Try.checked.mixed tabOk gok_nil Try.func80 rfl (by kernel_rfl) (does_insideOfI )


noncomputable def vPage (x : Pg) : Bool := vk x.keys && decide (x.keys.length ≤ 4) && if x.kids.length = 0 then decide (x.vals.length = x.keys.length) && allR x.vals (-1000) 1000 else decide (x.vals.length = 0) && vInn ⟨x.keys, x.kids⟩
noncomputable def mFits : Model := M1 .ro true (cPage false) fun x => gd (x.keys.length ≤ 1099511627776 ∧ x.kids.length ≤ 1099511627776 ∧ x.vals.length ≤ 1099511627776) (.b (vPage x), [])

theorem nat_eq_zero (n : Nat) : ((n : Int) = 0) ↔ n = 0 := by omega
theorem nat_eq_nat (n m : Nat) : ((n : Int) = (m : Int)) ↔ n = m := by omega
theorem nat_lt4 (n : Nat) : ((4 : Int) < (n : Int)) ↔ 4 < n := by omega



theorem nat_pos (n : Nat) : ((0 : Int) < (n : Int)) ↔ ¬ n = 0 := by omega
theorem nat_eq1 (n m : Nat) : ((n : Int) = (m : Int) + 1) ↔ n = m + 1 := by omega

def mLawPage : Model := M1 .ro true (cPage false) fun x => gd (x.keys.length ≤ 9223372036854775807 ∧ x.kids.length ≤ 9223372036854775807 ∧ x.vals.length ≤ 9223372036854775807) (.b true, [])
theorem fn_FnExactFitsPage (x : Pg) (h : ((∀ y ∈ x.keys, intWf .i64 y) ∧ x.keys.length ≤ maxLen) ∧ ((∀ y ∈ x.kids, intWf .i64 y) ∧ x.kids.length ≤ maxLen) ∧ (∀ y ∈ x.vals, intWf .i64 y) ∧ x.vals.length ≤ maxLen) : mLawPage.fn [ePage false x] = some (.b true, []) := by
  have h2 : x.keys.length ≤ 9223372036854775807 := h.1.2
  have h3 : x.kids.length ≤ 9223372036854775807 := h.2.1.2
  have h4 : x.vals.length ≤ 9223372036854775807 := h.2.2.2
  simp (config := {maxSteps := 1000000}) (disch := omega) only [go_sem, ↓reduceIte, Nat.reduceEqDiff, Nat.reduceAdd, Nat.reduceMul, Nat.reduceSub, Nat.reduceLeDiff, Nat.reduceLT, Int.reduceToNat, Int.reduceLE, Int.reduceLT, Int.reduceNeg, mLawPage]
end Go.TM
