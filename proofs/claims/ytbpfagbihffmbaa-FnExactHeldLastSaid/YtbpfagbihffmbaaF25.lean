/- Contracts, 25: rows put together; insides in parts and together. -/
import Derived.Test.YtbpfagbihffmbaaF24
namespace Go.TM
open Go.Proofs
set_option linter.unusedVariables false
set_option linter.unusedSimpArgs false
set_option maxRecDepth 100000

noncomputable def joinV (xs ys : List Pr) : List Pr × Bool := if vRow xs = true ∧ vRow ys = true ∧ vRow (xs ++ ys) = true then (xs ++ ys, true) else ([], false)
theorem joinV_f {xs ys : List Pr} (h : ¬ (vRow xs = true ∧ vRow ys = true ∧ vRow (xs ++ ys) = true)) : joinV xs ys = ([], false) := if_neg h
theorem joinV_t {xs ys : List Pr} (h1 : vRow xs = true) (h2 : vRow ys = true) (h3 : vRow (xs ++ ys) = true) : joinV xs ys = (xs ++ ys, true) := if_pos ⟨h1, h2, h3⟩
theorem joinV_len (xs ys : List Pr) : (joinV xs ys).1.length ≤ xs.length + ys.length := by
  unfold joinV
  split <;> simp
noncomputable def mJoinRows : Model := M2 .ro .ro true (cRow false) (cRow false) fun xs ys => gd (xs.length ≤ 34359738368 ∧ ys.length ≤ 34359738368) (.tup [eRow true (joinV xs ys).1, .b (joinV xs ys).2], [])
theorem row_eq2 {n : Nat} {b : Bool} {ys : List Pr} (h : n = ys.length) : some (A.tup [A.s true 2 n (ys.flatMap ePr), A.b b], ([] : List (List A))) = some (A.tup [eRow true ys, A.b b], []) := by subst h; rfl



def mLawRows : Model := M2 .ro .ro true (cRow false) (cRow false) fun xs ys => gd (xs.length ≤ 9223372036854775807 ∧ ys.length ≤ 9223372036854775807) (.b true, [])
theorem fn_FnExactJoinRows (x : List Pr) (h : (∀ y ∈ x, intWf .i64 y.1 ∧ intWf .i64 y.2) ∧ x.length ≤ maxLen) (y : List Pr) (h' : (∀ z ∈ y, intWf .i64 z.1 ∧ intWf .i64 z.2) ∧ y.length ≤ maxLen) : mLawRows.fn [eRow false x, eRow false y] = some (.b true, []) := by
  have h2 : x.length ≤ 9223372036854775807 := h.2
  have h3 : y.length ≤ 9223372036854775807 := h'.2
  simp (config := {maxSteps := 1000000}) (disch := omega) only [go_sem, ↓reduceIte, Nat.reduceEqDiff, Nat.reduceAdd, Nat.reduceMul, Nat.reduceSub, Nat.reduceLeDiff, Nat.reduceLT, Int.reduceToNat, Int.reduceLE, Int.reduceLT, Int.reduceNeg, mLawRows]

/-! ### Insides -/

structure Hv where
  a : Inn
  key : Int
  b : Inn
def halfV (x : Inn) : Hv := ⟨⟨x.keys.take (x.keys.length / 2), x.kids.take (x.keys.length / 2 + 1)⟩, x.keys.getD (x.keys.length / 2) 0, ⟨x.keys.drop (x.keys.length / 2 + 1), x.kids.drop (x.keys.length / 2 + 1)⟩⟩
def mHalf : Model := M1 .ro true (cInn false) fun x => gd (1 ≤ x.keys.length ∧ x.kids.length = x.keys.length + 1 ∧ x.keys.length ≤ 34359738368) (.tup [eInn true (halfV x).a, eI (halfV x).key, eInn true (halfV x).b], [])
theorem tdiv2' (n : Nat) : ((n : Int)).tdiv 2 = (n / 2 : Nat) := rfl
theorem sub_rest' (xs : List Int) (k n : Nat) (h : n = xs.length - k) : sub xs k n = xs.drop k := by
  subst h
  exact sub_rest xs k

theorem does_splitInner {G : Nat → Option FM} (h_copyInts : G 140 = some (.model mCopyInts)) : Does T G (fun id => match id with | 2 => [(4, 5), (4, 6), (12, 0), (12, 1), (4, 12), (12, 4), (12, 5), (12, 6), (10, 12), (12, 10)] | 3 => [(5, 6), (5, 7), (13, 0), (13, 1), (5, 13), (13, 5), (13, 6), (13, 7), (11, 13), (13, 11)] | 4 => [(7, 1), (7, 2), (7, 4), (7, 5), (7, 6)] | _ => []) Try.f121 mHalf := by
  refine does1 (rs := [.cell 2 93, .tmp 3, .cell 4 93]) rfl rfl fun x ro h => ?_
  obtain ⟨⟨h1, h2, h3⟩, rfl⟩ := gd_some h
  refine ⟨fun _ => ⟨by simp [cleanA, cleanL, clean_ints], rfl⟩, ?_⟩
  have l1 : (x.keys.take (x.keys.length / 2)).length = x.keys.length / 2 := by rw [List.length_take]; omega
  have l2 : (x.kids.take (x.keys.length / 2 + 1)).length = x.keys.length / 2 + 1 := by rw [List.length_take]; omega
  have l3 : (x.keys.drop (x.keys.length / 2 + 1)).length = x.keys.length - (x.keys.length / 2 + 1) := by rw [List.length_drop]
  have l4 : (x.kids.drop (x.keys.length / 2 + 1)).length = x.kids.length - (x.keys.length / 2 + 1) := by rw [List.length_drop]
  simp (config := {maxSteps := 1000000}) (disch := omega) only [go_sem, ↓reduceIte, Nat.reduceEqDiff, Nat.reduceAdd, Nat.reduceMul, Nat.reduceSub, Nat.reduceLeDiff, Nat.reduceLT, Int.reduceToNat, Int.reduceLE, Int.reduceLT, Int.reduceNeg, h_copyInts, mCopyInts, drP_n, drP_c, logAt_n, logAt_c, disP_n, disP_c, notIn_n, notIn_c, tdiv2', toNat_k1, Nat.sub_zero, sub_zero, sub_rest, l1, l2]
  simp only [halfV, eInn, eIs, l1, l2, l3, l4]
theorem fo_splitInner : FnOk Try.prog 121 := fnOk_of Try.func121 (by kernel_rfl)
theorem c_splitInner : Contract Try.prog 121 mHalf :=
  contract_of_does (DT := fun id => match id with | 2 => [(4, 5), (4, 6), (12, 0), (12, 1), (4, 12), (12, 4), (12, 5), (12, 6), (10, 12), (12, 10)] | 3 => [(5, 6), (5, 7), (13, 0), (13, 1), (5, 13), (13, 5), (13, 6), (13, 7), (11, 13), (13, 11)] | 4 => [(7, 1), (7, 2), (7, 4), (7, 5), (7, 6)] | _ => []) Try.checked.mixed tabOk (gok_model fo_copyInts c_copyInts gok_nil) Try.func121 rfl (by kernel_rfl) (does_splitInner rfl)


theorem does_halvesOf {G : Nat → Option FM} (h_cloneI : G 90 = some (.model mCopyInts)) : Does T G (fun id => match id with | 2 => [(4, 5), (4, 6), (12, 0), (12, 1), (4, 12), (12, 4), (12, 5), (12, 6), (10, 12), (12, 10)] | 3 => [(5, 6), (5, 7), (13, 0), (13, 1), (5, 13), (13, 5), (13, 6), (13, 7), (11, 13), (13, 11)] | 4 => [(7, 1), (7, 2), (7, 4), (7, 5), (7, 6)] | _ => []) Try.f133 mHalf := by
  refine does1 (rs := [.cell 2 93, .tmp 3, .cell 4 93]) rfl rfl fun x ro h => ?_
  obtain ⟨⟨h1, h2, h3⟩, rfl⟩ := gd_some h
  refine ⟨fun _ => ⟨by simp [cleanA, cleanL, clean_ints], rfl⟩, ?_⟩
  have l1 : (x.keys.take (x.keys.length / 2)).length = x.keys.length / 2 := by rw [List.length_take]; omega
  have l2 : (x.kids.take (x.keys.length / 2 + 1)).length = x.keys.length / 2 + 1 := by rw [List.length_take]; omega
  have l3 : (x.keys.drop (x.keys.length / 2 + 1)).length = x.keys.length - (x.keys.length / 2 + 1) := by rw [List.length_drop]
  have l4 : (x.kids.drop (x.keys.length / 2 + 1)).length = x.kids.length - (x.keys.length / 2 + 1) := by rw [List.length_drop]
  simp (config := {maxSteps := 1000000}) (disch := omega) only [go_sem, ↓reduceIte, Nat.reduceEqDiff, Nat.reduceAdd, Nat.reduceMul, Nat.reduceSub, Nat.reduceLeDiff, Nat.reduceLT, Int.reduceToNat, Int.reduceLE, Int.reduceLT, Int.reduceNeg, h_cloneI, mCopyInts, drP_n, drP_c, logAt_n, logAt_c, disP_n, disP_c, notIn_n, notIn_c, tdiv2', toNat_k1, Nat.sub_zero, sub_zero, sub_rest, l1, l2]
  simp only [halfV, eInn, eIs, l1, l2, l3, l4]
theorem fo_halvesOf : FnOk Try.prog 133 := fnOk_of Try.func133 (by kernel_rfl)
theorem c_halvesOf : Contract Try.prog 133 mHalf :=
  contract_of_does (DT := fun id => match id with | 2 => [(4, 5), (4, 6), (12, 0), (12, 1), (4, 12), (12, 4), (12, 5), (12, 6), (10, 12), (12, 10)] | 3 => [(5, 6), (5, 7), (13, 0), (13, 1), (5, 13), (13, 5), (13, 6), (13, 7), (11, 13), (13, 11)] | 4 => [(7, 1), (7, 2), (7, 4), (7, 5), (7, 6)] | _ => []) Try.checked.mixed tabOk (gok_model fo_cloneI c_cloneI gok_nil) Try.func133 rfl (by kernel_rfl) (does_halvesOf rfl)


structure Sv where
  a : Inn
  key : Int
  b : Inn
  ok : Bool
noncomputable def splV (x : Inn) : Sv := if vInn x = true ∧ 3 ≤ x.keys.length then ⟨(halfV x).a, (halfV x).key, (halfV x).b, true⟩ else ⟨⟨[], []⟩, 0, ⟨[], []⟩, false⟩
theorem splV_f {x : Inn} (h : ¬ (vInn x = true ∧ 3 ≤ x.keys.length)) : splV x = ⟨⟨[], []⟩, 0, ⟨[], []⟩, false⟩ := if_neg h
theorem splV_t {x : Inn} (h : vInn x = true) (h' : 3 ≤ x.keys.length) : splV x = ⟨(halfV x).a, (halfV x).key, (halfV x).b, true⟩ := if_pos ⟨h, h'⟩
theorem splV_len (x : Inn) : ((splV x).a.keys.length ≤ x.keys.length ∧ (splV x).a.kids.length ≤ x.kids.length) ∧ (splV x).b.keys.length ≤ x.keys.length ∧ (splV x).b.kids.length ≤ x.kids.length := by
  unfold splV
  split
  · simp only [halfV, List.length_take, List.length_drop]
    omega
  · simp
noncomputable def mSplitInner : Model := M1 .ro true (cInn false) fun x => gd (x.keys.length ≤ 34359738368 ∧ x.kids.length ≤ 34359738368) (.tup [eInn true (splV x).a, eI (splV x).key, eInn true (splV x).b, .b (splV x).ok], [])



/-! ### Marks in insides -/

def mkI (a b : Nat) (k : Int) : Inn := ⟨marks a k, marks b (k + a)⟩
def mHeldInner : Model := M2 .ro .ro true (cInn false) cI fun x k => gd ((x.keys.length ≤ 1099511627776 ∧ x.kids.length ≤ 1099511627776) ∧ 0 ≤ k ∧ k ≤ 549755813888 ∧ x.keys.length ≤ 549755813888) (eI (if x = mkI x.keys.length x.kids.length k then k + x.keys.length + x.kids.length else -1), [])


theorem mkI_keys (a b : Nat) (k : Int) : (mkI a b k).keys = marks a k := rfl
theorem mkI_kids (a b : Nat) (k : Int) : (mkI a b k).kids = marks b (k + a) := rfl
theorem mkI_eq (a b : Nat) (k : Int) : (⟨marks a k, marks b (k + a)⟩ : Inn) = mkI a b k := rfl

theorem fn_FnExactSplitInner (x : Inn) (h : ((∀ y ∈ x.keys, intWf .i64 y) ∧ x.keys.length ≤ maxLen) ∧ (∀ y ∈ x.kids, intWf .i64 y) ∧ x.kids.length ≤ maxLen) : mLawInn.fn [eInn false x] = some (.b true, []) := by
  have h2 : x.keys.length ≤ 9223372036854775807 := h.1.2
  have h3 : x.kids.length ≤ 9223372036854775807 := h.2.2
  simp (config := {maxSteps := 1000000}) (disch := omega) only [go_sem, ↓reduceIte, Nat.reduceEqDiff, Nat.reduceAdd, Nat.reduceMul, Nat.reduceSub, Nat.reduceLeDiff, Nat.reduceLT, Int.reduceToNat, Int.reduceLE, Int.reduceLT, Int.reduceNeg, mLawInn]

/-! ### Two insides as one -/

def bothV (a : Inn) (k : Int) (b : Inn) : Inn := ⟨a.keys ++ k :: b.keys, a.kids ++ b.kids⟩
def mBoth : Model := M3 .ro .ro .ro true (cInn false) cI (cInn false) fun a k b => gd ((a.keys.length ≤ 34359738368 ∧ a.kids.length ≤ 34359738368) ∧ b.keys.length ≤ 34359738368 ∧ b.kids.length ≤ 34359738368) (eInn true (bothV a k b), [])
theorem both_keys (a : Inn) (k : Int) (b : Inn) : [a.keys, [k], b.keys].flatten = (bothV a k b).keys := by simp [bothV]
theorem both_kids (a : Inn) (k : Int) (b : Inn) : [a.kids, b.kids].flatten = (bothV a k b).kids := by simp [bothV]
theorem eI_one (k : Int) : [A.i .i64 k] = [k].map eI := rfl
theorem cIss_3' (o : Bool) (a : List Int) (k : Int) (b : List Int) : (cS o (cS o cI)).d (.s o 1 3 [eIs o a, .s o 1 1 [.i .i64 k], eIs o b]) = some [a, [k], b] := (cS o (cS o cI)).de [a, [k], b]


noncomputable def joinIV (a : Inn) (k : Int) (b : Inn) : Inn × Bool := if vInn a = true ∧ vInn b = true ∧ vInn (bothV a k b) = true then (bothV a k b, true) else (⟨[], []⟩, false)
theorem joinIV_f {a b : Inn} {k : Int} (h : ¬ (vInn a = true ∧ vInn b = true ∧ vInn (bothV a k b) = true)) : joinIV a k b = (⟨[], []⟩, false) := if_neg h
theorem joinIV_t {a b : Inn} {k : Int} (h1 : vInn a = true) (h2 : vInn b = true) (h3 : vInn (bothV a k b) = true) : joinIV a k b = (bothV a k b, true) := if_pos ⟨h1, h2, h3⟩
theorem joinIV_len (a : Inn) (k : Int) (b : Inn) : (joinIV a k b).1.keys.length ≤ a.keys.length + b.keys.length + 1 ∧ (joinIV a k b).1.kids.length ≤ a.kids.length + b.kids.length := by
  unfold joinIV
  split
  · simp only [bothV, List.length_append, List.length_cons]; omega
  · simp
noncomputable def mJoinInner : Model := M3 .ro .ro .ro true (cInn false) cI (cInn false) fun a k b => gd ((a.keys.length ≤ 34359738368 ∧ a.kids.length ≤ 34359738368) ∧ b.keys.length ≤ 34359738368 ∧ b.kids.length ≤ 34359738368) (.tup [eInn true (joinIV a k b).1, .b (joinIV a k b).2], [])
theorem app_K {xs ys : List Int} {k : Int} {n : Nat} (h : xs.length + 1 = n) : ((xs ++ [k]).map eI).take n ++ ys.map eI = (xs ++ k :: ys).map eI := by
  rw [List.take_of_length_le (by rw [List.length_map, List.length_append, List.length_singleton]; omega), ← List.map_append]
  simp

theorem app_K' {xs ys : List Int} {k : Int} : (xs.map eI ++ [A.i .i64 k]).take (xs.length + 1) ++ ys.map eI = (xs ++ k :: ys).map eI := by
  rw [List.take_of_length_le (by simp)]
  simp
theorem app_m {xs ys : List Int} : xs.map eI ++ ys.map eI = (xs ++ ys).map eI := List.map_append.symm



def mLawInn3 : Model := M3 .ro .ro .ro true (cInn false) cI (cInn false) fun a k b => gd ((a.keys.length ≤ 9223372036854775807 ∧ a.kids.length ≤ 9223372036854775807) ∧ b.keys.length ≤ 9223372036854775807 ∧ b.kids.length ≤ 9223372036854775807) (.b true, [])
theorem fn_FnExactJoinInner (x : Inn) (h : ((∀ y ∈ x.keys, intWf .i64 y) ∧ x.keys.length ≤ maxLen) ∧ (∀ y ∈ x.kids, intWf .i64 y) ∧ x.kids.length ≤ maxLen) (k : Int) (hk : intWf .i64 k) (y : Inn) (h' : ((∀ z ∈ y.keys, intWf .i64 z) ∧ y.keys.length ≤ maxLen) ∧ (∀ z ∈ y.kids, intWf .i64 z) ∧ y.kids.length ≤ maxLen) : mLawInn3.fn [eInn false x, eI k, eInn false y] = some (.b true, []) := by
  have h2 : x.keys.length ≤ 9223372036854775807 := h.1.2
  have h3 : x.kids.length ≤ 9223372036854775807 := h.2.2
  have h4 : y.keys.length ≤ 9223372036854775807 := h'.1.2
  have h5 : y.kids.length ≤ 9223372036854775807 := h'.2.2
  simp (config := {maxSteps := 1000000}) (disch := omega) only [go_sem, ↓reduceIte, Nat.reduceEqDiff, Nat.reduceAdd, Nat.reduceMul, Nat.reduceSub, Nat.reduceLeDiff, Nat.reduceLT, Int.reduceToNat, Int.reduceLE, Int.reduceLT, Int.reduceNeg, mLawInn3]
end Go.TM
