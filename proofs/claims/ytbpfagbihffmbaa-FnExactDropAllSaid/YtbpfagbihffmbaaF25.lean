/- Contracts, 25: rows put together; insides in parts and together. -/
import Derived.Test.YtbpfagbihffmbaaF24
namespace Go.TM
open Go.Proofs
set_option linter.unusedVariables false
set_option linter.unusedSimpArgs false
set_option maxRecDepth 100000

theorem row_eq2 {n : Nat} {b : Bool} {ys : List Pr} (h : n = ys.length) : some (A.tup [A.s true 2 n (ys.flatMap ePr), A.b b], ([] : List (List A))) = some (A.tup [eRow true ys, A.b b], []) := by subst h; rfl



structure Hv where
  a : Inn
  key : Int
  b : Inn
def halfV (x : Inn) : Hv := ⟨⟨x.keys.take (x.keys.length / 2), x.kids.take (x.keys.length / 2 + 1)⟩, x.keys.getD (x.keys.length / 2) 0, ⟨x.keys.drop (x.keys.length / 2 + 1), x.kids.drop (x.keys.length / 2 + 1)⟩⟩
def mHalf : Model := M1 .ro true (cInn false) fun x => gd (1 ≤ x.keys.length ∧ x.kids.length = x.keys.length + 1 ∧ x.keys.length ≤ 34359738368) (.tup [eInn true (halfV x).a, eI (halfV x).key, eInn true (halfV x).b], [])
theorem tdiv2' (n : Nat) : ((n : Int)).tdiv 2 = (n / 2 : Nat) := rfl
theorem does_splitInner {G : Nat → Option FM} (h_copyInts : G 140 = some (.model mCopyInts)) : Does T G (fun id => match id with | 2 => [(4, 5), (4, 6), (12, 0), (12, 1), (4, 12), (12, 4), (12, 5), (12, 6), (10, 12), (12, 10)] | 3 => [(5, 6), (5, 7), (13, 0), (13, 1), (5, 13), (13, 5), (13, 6), (13, 7), (11, 13), (13, 11)] | 4 => [(7, 1), (7, 2), (7, 4), (7, 5), (7, 6)] | _ => []) Try.f121 mHalf := by
  refine does1 (rs := [.cell 2 93, .tmp 3, .cell 4 93]) rfl rfl fun x ro h => ?_
  obtain ⟨⟨h1, h2, h3⟩, rfl⟩ := gd_some h
  refine ⟨fun _ => ⟨by simp [cleanA, cleanL, clean_ints], rfl⟩, ?_⟩
  have l1 : (x.keys.take (x.keys.length / 2)).length = x.keys.length / 2 := by rw [List.length_take]; omega
  have l2 : (x.kids.take (x.keys.length / 2 + 1)).length = x.keys.length / 2 + 1 := by rw [List.length_take]; omega
  have l3 : (x.keys.drop (x.keys.length / 2 + 1)).length = x.keys.length - (x.keys.length / 2 + 1) := by rw [List.length_drop]
  have l4 : (x.kids.drop (x.keys.length / 2 + 1)).length = x.kids.length - (x.keys.length / 2 + 1) := by rw [List.length_drop]
  simp (config := {maxSteps := 1000000}) (disch := omega) only [go_sem, ↓reduceIte, Nat.reduceEqDiff, Nat.reduceAdd, Nat.reduceMul, Nat.reduceSub, Nat.reduceLeDiff, Nat.reduceLT, Int.reduceToNat, Int.reduceLE, Int.reduceLT, Int.reduceNeg, h_copyInts, mCopyInts, drP_n, drP_c, logAt_n, logAt_c, disP_n, disP_c, notIn_n, notIn_c, tdiv2', toNat_k1, Nat.sub_zero, sub_zero, sub_rest, l1, l2]
  simp only [halfV, eInn, eIs, l1, l2, l3, l4]
theorem fo_splitInner : FnOk Try.prog 121 := fnOk_of Try.func121 (by kernel_rfl)
theorem c_splitInner : Contract Try.prog 121 mHalf :=
  contract_of_does (DT := fun id => match id with | 2 => [(4, 5), (4, 6), (12, 0), (12, 1), (4, 12), (12, 4), (12, 5), (12, 6), (10, 12), (12, 10)] | 3 => [(5, 6), (5, 7), (13, 0), (13, 1), (5, 13), (13, 5), (13, 6), (13, 7), (11, 13), (13, 11)] | 4 => [(7, 1), (7, 2), (7, 4), (7, 5), (7, 6)] | _ => []) Try.checked.mixed tabOk (gok_model fo_copyInts c_copyInts gok_nil) Try.func121 rfl (by kernel_rfl) (does_splitInner rfl)


theorem does_halvesOf {G : Nat → Option FM} (h_cloneI : G 90 = some (.model mCopyInts)) : Does T G (fun id => match id with | 2 => [(4, 5), (4, 6), (12, 0), (12, 1), (4, 12), (12, 4), (12, 5), (12, 6), (10, 12), (12, 10)] | 3 => [(5, 6), (5, 7), (13, 0), (13, 1), (5, 13), (13, 5), (13, 6), (13, 7), (11, 13), (13, 11)] | 4 => [(7, 1), (7, 2), (7, 4), (7, 5), (7, 6)] | _ => []) Try.f133 mHalf := by
  refine does1 (rs := [.cell 2 93, .tmp 3, .cell 4 93]) rfl rfl fun x ro h => ?_
  obtain ⟨⟨h1, h2, h3⟩, rfl⟩ := gd_some h
  refine ⟨fun _ => ⟨by simp [cleanA, cleanL, clean_ints], rfl⟩, ?_⟩
  have l1 : (x.keys.take (x.keys.length / 2)).length = x.keys.length / 2 := by rw [List.length_take]; omega
  have l2 : (x.kids.take (x.keys.length / 2 + 1)).length = x.keys.length / 2 + 1 := by rw [List.length_take]; omega
  have l3 : (x.keys.drop (x.keys.length / 2 + 1)).length = x.keys.length - (x.keys.length / 2 + 1) := by rw [List.length_drop]
  have l4 : (x.kids.drop (x.keys.length / 2 + 1)).length = x.kids.length - (x.keys.length / 2 + 1) := by rw [List.length_drop]
  simp (config := {maxSteps := 1000000}) (disch := omega) only [go_sem, ↓reduceIte, Nat.reduceEqDiff, Nat.reduceAdd, Nat.reduceMul, Nat.reduceSub, Nat.reduceLeDiff, Nat.reduceLT, Int.reduceToNat, Int.reduceLE, Int.reduceLT, Int.reduceNeg, h_cloneI, mCopyInts, drP_n, drP_c, logAt_n, logAt_c, disP_n, disP_c, notIn_n, notIn_c, tdiv2', toNat_k1, Nat.sub_zero, sub_zero, sub_rest, l1, l2]
  simp only [halfV, eInn, eIs, l1, l2, l3, l4]
theorem fo_halvesOf : FnOk Try.prog 133 := fnOk_of Try.func133 (by kernel_rfl)
theorem c_halvesOf : Contract Try.prog 133 mHalf :=
  contract_of_does (DT := fun id => match id with | 2 => [(4, 5), (4, 6), (12, 0), (12, 1), (4, 12), (12, 4), (12, 5), (12, 6), (10, 12), (12, 10)] | 3 => [(5, 6), (5, 7), (13, 0), (13, 1), (5, 13), (13, 5), (13, 6), (13, 7), (11, 13), (13, 11)] | 4 => [(7, 1), (7, 2), (7, 4), (7, 5), (7, 6)] | _ => []) Try.checked.mixed tabOk (gok_model fo_cloneI c_cloneI gok_nil) Try.func133 rfl (by kernel_rfl) (does_halvesOf rfl)


def bothV (a : Inn) (k : Int) (b : Inn) : Inn := ⟨a.keys ++ k :: b.keys, a.kids ++ b.kids⟩
def mBoth : Model := M3 .ro .ro .ro true (cInn false) cI (cInn false) fun a k b => gd ((a.keys.length ≤ 34359738368 ∧ a.kids.length ≤ 34359738368) ∧ b.keys.length ≤ 34359738368 ∧ b.kids.length ≤ 34359738368) (eInn true (bothV a k b), [])
theorem both_keys (a : Inn) (k : Int) (b : Inn) : [a.keys, [k], b.keys].flatten = (bothV a k b).keys := by simp [bothV]
theorem both_kids (a : Inn) (k : Int) (b : Inn) : [a.kids, b.kids].flatten = (bothV a k b).kids := by simp [bothV]
theorem cIss_3' (o : Bool) (a : List Int) (k : Int) (b : List Int) : (cS o (cS o cI)).d (.s o 1 3 [eIs o a, .s o 1 1 [.i .i64 k], eIs o b]) = some [a, [k], b] := (cS o (cS o cI)).de [a, [k], b]

theorem does_bothOf {G : Nat → Option FM} (h_concatI : G 145 = some (.model mConcatI)) : Does T G (fun id => match id with | 1 => [(3, 0), (3, 1), (3, 4), (3, 5), (3, 8), (6, 8), (7, 8), (3, 9), (6, 9), (7, 9), (3, 10), (6, 10), (7, 10), (3, 11), (6, 11), (7, 11), (12, 0), (12, 1), (3, 12), (12, 3), (12, 4), (12, 5), (6, 12), (12, 6), (7, 12), (12, 7)] | _ => []) Try.f170 mBoth := by
  refine does3 (rs := [.cell 6 93]) rfl rfl fun a k b ro h => ?_
  obtain ⟨⟨⟨h1, h2⟩, h3, h4⟩, rfl⟩ := gd_some h
  refine ⟨fun _ => ⟨by simp [cleanA, cleanL, clean_ints], rfl⟩, ?_⟩
  have d1 : decide (a.keys.length ≤ 68719476736) = true := decide_eq_true (by omega)
  have d2 : decide (a.kids.length ≤ 68719476736) = true := decide_eq_true (by omega)
  have d3 : decide (b.keys.length ≤ 68719476736) = true := decide_eq_true (by omega)
  have d4 : decide (b.kids.length ≤ 68719476736) = true := decide_eq_true (by omega)
  simp (config := {maxSteps := 1000000}) (disch := omega) only [go_sem, ↓reduceIte, Nat.reduceEqDiff, Nat.reduceAdd, Nat.reduceMul, Nat.reduceSub, Nat.reduceLeDiff, Nat.reduceLT, Int.reduceToNat, Int.reduceLE, Int.reduceLT, Int.reduceNeg, h_concatI, mConcatI, drP_n, drP_c, logAt_n, logAt_c, disP_n, disP_c, notIn_n, notIn_c, cIss_3', both_keys, both_kids, d1, d2, d3, d4, Bool.and_true, Bool.true_and]
  rfl
theorem fo_bothOf : FnOk Try.prog 170 := fnOk_of Try.func170 (by kernel_rfl)
theorem c_bothOf : Contract Try.prog 170 mBoth :=
  contract_of_does (DT := fun id => match id with | 1 => [(3, 0), (3, 1), (3, 4), (3, 5), (3, 8), (6, 8), (7, 8), (3, 9), (6, 9), (7, 9), (3, 10), (6, 10), (7, 10), (3, 11), (6, 11), (7, 11), (12, 0), (12, 1), (3, 12), (12, 3), (12, 4), (12, 5), (6, 12), (12, 6), (7, 12), (12, 7)] | _ => []) Try.checked.mixed tabOk (gok_model fo_concatI c_concatI gok_nil) Try.func170 rfl (by kernel_rfl) (does_bothOf rfl)


theorem app_K {xs ys : List Int} {k : Int} {n : Nat} (h : xs.length + 1 = n) : ((xs ++ [k]).map eI).take n ++ ys.map eI = (xs ++ k :: ys).map eI := by
  rw [List.take_of_length_le (by rw [List.length_map, List.length_append, List.length_singleton]; omega), ← List.map_append]
  simp

end Go.TM
