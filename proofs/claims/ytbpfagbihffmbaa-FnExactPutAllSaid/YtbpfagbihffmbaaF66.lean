/- Contracts, 66: a page is split. -/
import Derived.Test.YtbpfagbihffmbaaF31
namespace Go.TM
open Go.Proofs
set_option linter.unusedVariables false
set_option linter.unusedSimpArgs false
set_option maxRecDepth 100000
set_option maxHeartbeats 4000000

/-! ### The place of a kid -/

def mPlaceKid : Model := M2 .ro .ro true (cPage false) cI fun p k => gd (p.kids.length ≤ 1099511627776) (eI (placeV p.kids k), [])

/-! ### A page is split -/

/-- A page that is not too large. -/
structure SmP (p : Pg) : Prop where
  keys : p.keys.length ≤ 5
  kids : p.kids.length ≤ 6
  vals : p.vals.length ≤ 5
theorem SmP.tot {p : Pg} (h : SmP p) : totP p ≤ 16 := by
  have := h.keys; have := h.kids; have := h.vals
  unfold totP
  omega
/-- A page that can be split. -/
structure SpP (p : Pg) : Prop where
  sm : SmP p
  two : 2 ≤ p.keys.length
  leaf : p.kids.length = 0 → vRow (prP p) = true ∧ p.vals.length = p.keys.length
  inn : p.kids.length ≠ 0 → p.kids.length = p.keys.length + 1
noncomputable instance (p : Pg) : Decidable (SpP p) := Classical.propDecidable _
noncomputable def mSplitOne : Model := M1 .ro true (cPage false) fun p => gd (SpP p) (.tup [ePage true (splP p).a, eI (splP p).key, ePage true (splP p).b], [])
theorem splP_leaf {p : Pg} (h : p.kids.length = 0) : splP p = ⟨leafP ((prP p).take ((p.keys.length + 1) / 2)), (((prP p).drop ((p.keys.length + 1) / 2)).getD 0 default).1, leafP ((prP p).drop ((p.keys.length + 1) / 2))⟩ := if_pos h
theorem splP_inn {p : Pg} (h : p.kids.length ≠ 0) : splP p = ⟨⟨(halfV ⟨p.keys, p.kids⟩).a.keys, (halfV ⟨p.keys, p.kids⟩).a.kids, []⟩, (halfV ⟨p.keys, p.kids⟩).key, ⟨(halfV ⟨p.keys, p.kids⟩).b.keys, (halfV ⟨p.keys, p.kids⟩).b.kids, []⟩⟩ := if_neg h
theorem does_placeOfKid {G : Nat → Option FM}  : Does T G (fun id => match id with  | _ => []) Try.f78 mPlaceKid := by
  refine does2 (rs := [.tmp 4]) rfl rfl fun p n ro h => ?_
  obtain ⟨hs, rfl⟩ := gd_some h
  refine ⟨fun _ => ⟨rfl, rfl⟩, ?_⟩
  clear h
  simp (config := {maxSteps := 1000000}) (disch := omega) only [go_sem, ↓reduceIte, Nat.reduceEqDiff, Nat.reduceAdd, Nat.reduceMul, Nat.reduceSub, Nat.reduceLeDiff, Nat.reduceLT, Int.reduceToNat, Int.reduceLE, Int.reduceLT, Int.reduceNeg, drP_n, drP_c, logAt_n, logAt_c, disP_n, disP_c, notIn_n, notIn_c]
  obtain ⟨xs, hxs⟩ : ∃ xs, p.kids = xs := ⟨_, rfl⟩
  rw [hxs] at hs ⊢
  refine W_loop_i (fun s => s.sl 1 = eI n ∧ s.sl 8 = eIs false xs ∧ s.sl 9 = eI xs.length ∧ ∃ k : Nat, k ≤ xs.length ∧ s.sl 10 = eI k ∧ ∀ i, i < k → xs.getD i 0 ≠ n) (fun s => xs.length - iN (s.sl 10)) ?_ ?_
  · exact ⟨rfl, rfl, rfl, 0, Nat.zero_le _, rfl, fun i hi => by omega⟩
  · rintro sl hp q ⟨h1, h8, h9, k, hk, h10, hall⟩
    dsimp only at h1 h8 h9 h10
    simp (config := {maxSteps := 1000000}) (disch := omega) only [go_sem, ↓reduceIte, Nat.reduceEqDiff, Nat.reduceAdd, Nat.reduceMul, Nat.reduceSub, Nat.reduceLeDiff, Nat.reduceLT, Int.reduceToNat, Int.reduceLE, Int.reduceLT, Int.reduceNeg, drP_n, drP_c, logAt_n, logAt_c, disP_n, disP_c, notIn_n, notIn_c, h1, h8, h9, h10]
    (first | refine runKS_split (fun g1 => ?_) (fun g1 => ?_) | refine cond_split (fun g1 => ?_) (fun g1 => ?_) | refine runK_split (fun g1 => ?_) (fun g1 => ?_))
    · have g1' := of_decide_eq_true g1
      by_cases hc : xs.getD k 0 = n
      · have e1 : decide (xs.getD k 0 = n) = true := decide_eq_true hc
        have ep := place_at (by omega) hc hall
        simp (config := {maxSteps := 1000000}) (disch := omega) only [go_sem, ↓reduceIte, Nat.reduceEqDiff, Nat.reduceAdd, Nat.reduceMul, Nat.reduceSub, Nat.reduceLeDiff, Nat.reduceLT, Int.reduceToNat, Int.reduceLE, Int.reduceLT, Int.reduceNeg, drP_n, drP_c, logAt_n, logAt_c, disP_n, disP_c, notIn_n, notIn_c, h1, h8, h9, h10, g1, e1]
        rw [ep]
      · have e1 : decide (xs.getD k 0 = n) = false := decide_eq_false hc
        simp (config := {maxSteps := 1000000}) (disch := omega) only [go_sem, ↓reduceIte, Nat.reduceEqDiff, Nat.reduceAdd, Nat.reduceMul, Nat.reduceSub, Nat.reduceLeDiff, Nat.reduceLT, Int.reduceToNat, Int.reduceLE, Int.reduceLT, Int.reduceNeg, drP_n, drP_c, logAt_n, logAt_c, disP_n, disP_c, notIn_n, notIn_c, h1, h8, h9, h10, g1, e1]
        refine ⟨⟨k + 1, by omega, rfl, fun i hi => ?_⟩, by omega⟩
        by_cases hik : i = k
        · rw [hik]; exact hc
        · exact hall i (by omega)
    · have g1' := of_decide_eq_false g1
      obtain rfl : k = xs.length := by omega
      simp (config := {maxSteps := 1000000}) (disch := omega) only [go_sem, ↓reduceIte, Nat.reduceEqDiff, Nat.reduceAdd, Nat.reduceMul, Nat.reduceSub, Nat.reduceLeDiff, Nat.reduceLT, Int.reduceToNat, Int.reduceLE, Int.reduceLT, Int.reduceNeg, drP_n, drP_c, logAt_n, logAt_c, disP_n, disP_c, notIn_n, notIn_c, h1, h8, h9, h10, g1]
      rw [place_no hall]
theorem fo_placeOfKid : FnOk Try.prog 78 := fnOk_of Try.func78 (by kernel_rfl)
theorem c_placeOfKid : Contract Try.prog 78 mPlaceKid :=
  contract_of_does (DT := fun id => match id with  | _ => []) Try.checked.mixed tabOk gok_nil Try.func78 rfl (by kernel_rfl) (does_placeOfKid )


theorem does_splitOne {G : Nat → Option FM} (h_pairsOfLeaf : G 75 = some (.model mRowOf)) (h_SplitRowI : G 132 = some (.model mSplitRow)) (h_leafOfI : G 73 = some (.model mLeafOf)) (h_insideIA : G 80 = some (.alias [3] [.arg 0 0, .arg 0 1])) (h_halvesOf : G 133 = some (.model mHalf)) (h_innerPage : G 77 = some (.alias [2] [.arg 0 0, .arg 0 1, .nil 1])) : Does T G (fun id => match id with | 3 => [(1, 3), (1, 4), (1, 5), (7, 3), (7, 4), (7, 5), (8, 3), (8, 4), (8, 5)] | 5 => [(1, 3)] | _ => []) Try.f76 mSplitOne := by
  refine does1 (rs := [.cell 2 85, .tmp 3, .cell 4 85]) rfl rfl fun p ro h => ?_
  obtain ⟨hp, rfl⟩ := gd_some h
  refine ⟨fun _ => ⟨by simp only [cleanA, cleanL, clean_ints, Bool.and_self], rfl⟩, ?_⟩
  clear h
  have s1 := hp.sm.keys
  have s2 := hp.sm.kids
  have s3 := hp.sm.vals
  have tw := hp.two
  by_cases hk : p.kids.length = 0
  · have e1 : decide ((p.kids.length : Int) = 0) = true := decide_eq_true (by omega)
    obtain ⟨hv, hvl⟩ := hp.leaf hk
    have pl := prP_len p
    have sa := splitA_t hv
    rw [pl] at sa
    have la : ((prP p).take ((p.keys.length + 1) / 2)).length = (p.keys.length + 1) / 2 := by rw [List.length_take]; omega
    have lb : ((prP p).drop ((p.keys.length + 1) / 2)).length = p.keys.length - (p.keys.length + 1) / 2 := by rw [List.length_drop, pl]
    rw [splP_leaf hk]
    generalize ha : (prP p).take ((p.keys.length + 1) / 2) = a at *
    generalize hb : (prP p).drop ((p.keys.length + 1) / 2) = b at *
    simp (config := {maxSteps := 1000000}) (disch := omega) only [go_sem, ↓reduceIte, Nat.reduceEqDiff, Nat.reduceAdd, Nat.reduceMul, Nat.reduceSub, Nat.reduceLeDiff, Nat.reduceLT, Int.reduceToNat, Int.reduceLE, Int.reduceLT, Int.reduceNeg, h_pairsOfLeaf, mRowOf, h_SplitRowI, mSplitRow, h_leafOfI, mLeafOf, h_insideIA, h_halvesOf, mHalf, h_innerPage, drP_n, drP_c, logAt_n, logAt_c, disP_n, disP_c, notIn_n, notIn_c, e1, sa, get_r0]
  · have e1 : decide ((p.kids.length : Int) = 0) = false := decide_eq_false (by omega)
    have hi := hp.inn hk
    rw [splP_inn hk]
    simp (config := {maxSteps := 1000000}) (disch := omega) only [go_sem, ↓reduceIte, Nat.reduceEqDiff, Nat.reduceAdd, Nat.reduceMul, Nat.reduceSub, Nat.reduceLeDiff, Nat.reduceLT, Int.reduceToNat, Int.reduceLE, Int.reduceLT, Int.reduceNeg, h_pairsOfLeaf, mRowOf, h_SplitRowI, mSplitRow, h_leafOfI, mLeafOf, h_insideIA, h_halvesOf, mHalf, h_innerPage, drP_n, drP_c, logAt_n, logAt_c, disP_n, disP_c, notIn_n, notIn_c, e1]
    try rfl
theorem fo_splitOne : FnOk Try.prog 76 := fnOk_of Try.func76 (by kernel_rfl)
theorem c_splitOne : Contract Try.prog 76 mSplitOne :=
  contract_of_does (DT := fun id => match id with | 3 => [(1, 3), (1, 4), (1, 5), (7, 3), (7, 4), (7, 5), (8, 3), (8, 4), (8, 5)] | 5 => [(1, 3)] | _ => []) Try.checked.mixed tabOk (gok_model fo_pairsOfLeaf c_pairsOfLeaf (gok_model fo_SplitRowI c_SplitRowI (gok_model fo_leafOfI c_leafOfI (gok_alias fo_insideIA c_insideIA (gok_model fo_halvesOf c_halvesOf (gok_alias fo_innerPage c_innerPage gok_nil)))))) Try.func76 rfl (by kernel_rfl) (does_splitOne rfl rfl rfl rfl rfl rfl)

end Go.TM
