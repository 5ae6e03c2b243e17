/- Contracts, 23: the value of a key; rows put together; slices.Concat, slices.Grow. -/
import Derived.Test.YtbpfagbihffmbaaF30
import Derived.Lib.AppendZeros
namespace Go.TM
open Go.Proofs
set_option linter.unusedVariables false
set_option linter.unusedSimpArgs false
set_option maxRecDepth 100000

/-! ### The place of a key in a row -/

noncomputable def plV (xs : List Pr) (k : Int) : Int := vKeysBelow (keysP xs) k
noncomputable def thV (xs : List Pr) (k : Int) : Bool := decide (0 ≤ plV xs k) && (decide (plV xs k < xs.length) && decide ((xs.getD (plV xs k).toNat default).1 = k))
noncomputable def mPlace : Model := M2 .ro .ro true (cRow false) cI fun xs k => gd (xs.length ≤ 1099511627776) (.tup [eI (plV xs k), .b (thV xs k)], [])
noncomputable def valV (xs : List Pr) (k : Int) : Int × Bool := if vRow xs = true ∧ k ∈ keysP xs then ((xs.getD (cntB (keysP xs) k) default).2, true) else (0, false)
theorem valV_f {xs : List Pr} {k : Int} (h : ¬ (vRow xs = true ∧ k ∈ keysP xs)) : valV xs k = (0, false) := if_neg h
theorem valV_t {xs : List Pr} {k : Int} (h : vRow xs = true) (hk : k ∈ keysP xs) : valV xs k = ((xs.getD (cntB (keysP xs) k) default).2, true) := if_pos ⟨h, hk⟩
noncomputable def mValueIn : Model := M2 .ro .ro true (cRow false) cI fun xs k => gd (xs.length ≤ 1099511627776) (.tup [eI (valV xs k).1, .b (valV xs k).2], [])

theorem vRow_vk {xs : List Pr} (h : vRow xs = true) : vk (keysP xs) = true ∧ xs.length ≤ 24 := by
  simp only [vRow, Bool.and_eq_true, decide_eq_true_eq] at h
  exact ⟨h.2.2, h.2.1⟩

theorem keysP_get {xs : List Pr} {i : Nat} (h : i < xs.length) : (keysP xs).getD i 0 = (xs.getD i default).1 := by simp [keysP, h]

/-- Where a key is, of a row with valid keys. -/
theorem place_ok {xs : List Pr} {k : Int} (h : vk (keysP xs) = true) : plV xs k = cntB (keysP xs) k ∧ cntB (keysP xs) k ≤ xs.length ∧
    (thV xs k = true ↔ k ∈ keysP xs) ∧ (k ∈ keysP xs → cntB (keysP xs) k < xs.length) := by
  have hp : plV xs k = cntB (keysP xs) k := by simp [plV, vKeysBelow, h]
  have hl : cntB (keysP xs) k ≤ (keysP xs).length := (List.takeWhile_prefix _).length_le
  have hkl : (keysP xs).length = xs.length := by simp [keysP]
  have hm := mem_at (k := k) (vk_iff.1 h)
  have hg : ∀ _ : cntB (keysP xs) k < xs.length, (keysP xs).getD (cntB (keysP xs) k) 0 = (xs.getD (cntB (keysP xs) k) default).1 := by
    intro hlt
    exact keysP_get hlt
  refine ⟨hp, by omega, ?_, fun h => by have := (hm.1 h).1; omega⟩
  unfold thV
  rw [hp, hm]
  simp only [Bool.and_eq_true, decide_eq_true_eq, Int.toNat_natCast]
  constructor
  · rintro ⟨_, h1, h2⟩
    have h1' : cntB (keysP xs) k < xs.length := by omega
    exact ⟨by omega, (hg h1').trans h2⟩
  · rintro ⟨h1, h2⟩
    have h1' : cntB (keysP xs) k < xs.length := by omega
    exact ⟨by omega, by omega, (hg h1').symm.trans h2⟩

theorem does_placeInRow {G : Nat → Option FM} (h_keysOfRow : G 127 = some (.model mKeysOf)) (h_KeysBelowI : G 160 = some (.model mKeysBelow)) : Does T G (fun id => match id with  | _ => []) Try.f129 mPlace := by
  refine does2 (rs := [.tmp 4, .tmp 5]) rfl rfl fun xs k ro h => ?_
  obtain ⟨hs, rfl⟩ := gd_some h
  refine ⟨fun _ => ⟨by simp [cleanA, cleanL], rfl⟩, ?_⟩
  have hkl : (keysP xs).length = xs.length := by simp [keysP]
  have hp : plV xs k = vKeysBelow (keysP xs) k := rfl
  have ht : thV xs k = (decide (0 ≤ vKeysBelow (keysP xs) k) && (decide (vKeysBelow (keysP xs) k < xs.length) && decide ((xs.getD (vKeysBelow (keysP xs) k).toNat default).1 = k))) := rfl
  generalize hg : vKeysBelow (keysP xs) k = p at *
  by_cases h0 : 0 ≤ p
  · obtain ⟨n, rfl⟩ : ∃ n : Nat, p = n := ⟨p.toNat, by omega⟩
    have e0 : decide (0 ≤ (n : Int)) = true := decide_eq_true (by omega)
    by_cases h1 : n < xs.length
    · have e1 : decide ((n : Int) < (xs.length : Int)) = true := decide_eq_true (by omega)
      simp (config := {maxSteps := 1000000}) (disch := omega) only [go_sem, ↓reduceIte, Nat.reduceEqDiff, Nat.reduceAdd, Nat.reduceMul, Nat.reduceSub, Nat.reduceLeDiff, Nat.reduceLT, Int.reduceToNat, Int.reduceLE, Int.reduceLT, Int.reduceNeg, h_keysOfRow, mKeysOf, h_KeysBelowI, mKeysBelow, hg, hp, ht, e0, e1]
      try simp
    · have e1 : decide ((n : Int) < (xs.length : Int)) = false := decide_eq_false (by omega)
      simp (config := {maxSteps := 1000000}) (disch := omega) only [go_sem, ↓reduceIte, Nat.reduceEqDiff, Nat.reduceAdd, Nat.reduceMul, Nat.reduceSub, Nat.reduceLeDiff, Nat.reduceLT, Int.reduceToNat, Int.reduceLE, Int.reduceLT, Int.reduceNeg, h_keysOfRow, mKeysOf, h_KeysBelowI, mKeysBelow, hg, hp, ht, e0, e1]
      try simp
  · have e0 : decide (0 ≤ p) = false := decide_eq_false h0
    simp (config := {maxSteps := 1000000}) (disch := omega) only [go_sem, ↓reduceIte, Nat.reduceEqDiff, Nat.reduceAdd, Nat.reduceMul, Nat.reduceSub, Nat.reduceLeDiff, Nat.reduceLT, Int.reduceToNat, Int.reduceLE, Int.reduceLT, Int.reduceNeg, h_keysOfRow, mKeysOf, h_KeysBelowI, mKeysBelow, hg, hp, ht, e0]
    try simp
theorem fo_placeInRow : FnOk Try.prog 129 := fnOk_of Try.func129 (by kernel_rfl)
theorem c_placeInRow : Contract Try.prog 129 mPlace :=
  contract_of_does (DT := fun id => match id with  | _ => []) Try.checked.mixed tabOk (gok_model fo_keysOfRow c_keysOfRow (gok_model fo_KeysBelowI c_KeysBelowI gok_nil)) Try.func129 rfl (by kernel_rfl) (does_placeInRow rfl rfl)



theorem does_ValueInI {G : Nat → Option FM} (h_ValidRowI : G 148 = some (.model mValidRow)) (h_placeInRow : G 129 = some (.model mPlace)) : Does T G (fun id => match id with  | _ => []) Try.f97 mValueIn := by
  refine does2 (rs := [.tmp 4, .tmp 5]) rfl rfl fun xs k ro h => ?_
  obtain ⟨hs, rfl⟩ := gd_some h
  refine ⟨fun _ => ⟨by simp [cleanA, cleanL], rfl⟩, ?_⟩
  cases hv : vRow xs
  · rw [valV_f (by rw [hv]; simp)]
    simp (config := {maxSteps := 1000000}) (disch := omega) only [go_sem, ↓reduceIte, Nat.reduceEqDiff, Nat.reduceAdd, Nat.reduceMul, Nat.reduceSub, Nat.reduceLeDiff, Nat.reduceLT, Int.reduceToNat, Int.reduceLE, Int.reduceLT, Int.reduceNeg, h_ValidRowI, mValidRow, h_placeInRow, mPlace, hv]
  · obtain ⟨p1, p2, p3, p4⟩ := place_ok (k := k) (vRow_vk hv).1
    cases ht : thV xs k
    · have hm : k ∉ keysP xs := fun hm => by rw [p3.2 hm] at ht; cases ht
      rw [valV_f (fun h => hm h.2)]
      simp (config := {maxSteps := 1000000}) (disch := omega) only [go_sem, ↓reduceIte, Nat.reduceEqDiff, Nat.reduceAdd, Nat.reduceMul, Nat.reduceSub, Nat.reduceLeDiff, Nat.reduceLT, Int.reduceToNat, Int.reduceLE, Int.reduceLT, Int.reduceNeg, h_ValidRowI, mValidRow, h_placeInRow, mPlace, hv, ht, p1]
    · have hm := p3.1 ht
      have hlt := p4 hm
      rw [valV_t hv hm]
      simp (config := {maxSteps := 1000000}) (disch := omega) only [go_sem, ↓reduceIte, Nat.reduceEqDiff, Nat.reduceAdd, Nat.reduceMul, Nat.reduceSub, Nat.reduceLeDiff, Nat.reduceLT, Int.reduceToNat, Int.reduceLE, Int.reduceLT, Int.reduceNeg, h_ValidRowI, mValidRow, h_placeInRow, mPlace, hv, ht, p1]
theorem fo_ValueInI : FnOk Try.prog 97 := fnOk_of Try.func97 (by kernel_rfl)
theorem c_ValueInI : Contract Try.prog 97 mValueIn :=
  contract_of_does (DT := fun id => match id with  | _ => []) Try.checked.mixed tabOk (gok_model fo_ValidRowI c_ValidRowI (gok_model fo_placeInRow c_placeInRow gok_nil)) Try.func97 rfl (by kernel_rfl) (does_ValueInI rfl rfl)


def mLawRow2 : Model := M2 .ro .ro true (cRow false) cI fun xs k => gd (xs.length ≤ 9223372036854775807) (.b true, [])
theorem fn_FnExactValueIn (x : List Pr) (h : (∀ y ∈ x, intWf .i64 y.1 ∧ intWf .i64 y.2) ∧ x.length ≤ maxLen) (k : Int) (hk : intWf .i64 k) : mLawRow2.fn [eRow false x, eI k] = some (.b true, []) := by
  have h2 : x.length ≤ 9223372036854775807 := h.2
  simp (config := {maxSteps := 1000000}) (disch := omega) only [go_sem, ↓reduceIte, Nat.reduceEqDiff, Nat.reduceAdd, Nat.reduceMul, Nat.reduceSub, Nat.reduceLeDiff, Nat.reduceLT, Int.reduceToNat, Int.reduceLE, Int.reduceLT, Int.reduceNeg, mLawRow2]
end Go.TM
