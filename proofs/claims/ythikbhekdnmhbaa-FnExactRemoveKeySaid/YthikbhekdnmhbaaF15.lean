/- Contracts, 15: a pair is put into a row; drawn rows. -/
import Derived.Test.YthikbhekdnmhbaaF14
namespace Go.TM
open Go.Proofs
set_option linter.unusedVariables false
set_option linter.unusedSimpArgs false
set_option maxRecDepth 100000

theorem app_P {xs : List Pr} {k : Nat} {a b : Int} (h : xs.length = k) : (xs.flatMap ePr).take (k * 2) ++ [A.i .i64 a, A.i .i64 b] = (xs ++ [(a, b)]).flatMap ePr := by
  rw [List.take_of_length_le (by rw [flatPr_len]; omega)]
  simp [List.flatMap_append, ePr]
theorem app_PP {xs ys : List Pr} {k : Nat} (h : xs.length = k) : (xs.flatMap ePr).take (k * 2) ++ ys.flatMap ePr = (xs ++ ys).flatMap ePr := by
  rw [List.take_of_length_le (by rw [flatPr_len]; omega)]
  simp [List.flatMap_append]
theorem sub_restP (xs : List Pr) (k : Nat) : sub xs k (xs.length - k) = xs.drop k := by
  unfold sub
  exact List.take_of_length_le (by rw [List.length_drop]; omega)

def putV (xs : List Pr) (x : Pr) : List Pr :=
  xs.take (cntB (keysP xs) x.1) ++ [x] ++ xs.drop (if cntB (keysP xs) x.1 < xs.length ∧ (xs.getD (cntB (keysP xs) x.1) default).1 = x.1 then cntB (keysP xs) x.1 + 1 else cntB (keysP xs) x.1)

theorem putV_t {xs : List Pr} {a b : Int} (h1 : cntB (keysP xs) a < xs.length) (h2 : (xs.getD (cntB (keysP xs) a) default).1 = a) : putV xs (a, b) = xs.take (cntB (keysP xs) a) ++ (a, b) :: xs.drop (cntB (keysP xs) a + 1) := by
  unfold putV
  rw [if_pos ⟨h1, h2⟩]
  simp
theorem putV_f {xs : List Pr} {a b : Int} (h : ¬ (cntB (keysP xs) a < xs.length ∧ (xs.getD (cntB (keysP xs) a) default).1 = a)) : putV xs (a, b) = xs.take (cntB (keysP xs) a) ++ (a, b) :: xs.drop (cntB (keysP xs) a) := by
  unfold putV
  rw [if_neg h]
  simp
theorem putV_len (xs : List Pr) (x : Pr) : (putV xs x).length ≤ xs.length + 1 := by
  have hc : cntB (keysP xs) x.1 ≤ (keysP xs).length := (List.takeWhile_prefix _).length_le
  have hkl : (keysP xs).length = xs.length := by simp [keysP]
  unfold putV
  split <;> simp <;> omega
theorem row_eq {n : Nat} {ys : List Pr} (h : n = ys.length) : some (A.s true 2 n (ys.flatMap ePr), ([] : List (List A))) = some (eRow true ys, []) := by subst h; rfl

def mCopyRow : Model := M1 .ro true (cRow false) fun xs => gd (xs.length ≤ 1099511627776) (eRow true xs, [])
def mPut : Model := M2 .ro .ro true (cRow false) cPair fun xs x => gd (xs.length ≤ 549755813888) (eRow true (putV xs x), [])

theorem does_copyRow {G : Nat → Option FM}  : Does T G (fun _ => []) Try.f108 mCopyRow := by
  refine does1 (rs := [.tmp 2]) rfl rfl fun xs ro h => ?_
  obtain ⟨hs, rfl⟩ := gd_some h
  refine ⟨fun _ => ⟨by simp [cleanA, clean_row], rfl⟩, ?_⟩
  simp (config := {maxSteps := 1000000}) (disch := omega) only [go_sem, ↓reduceIte, Nat.reduceEqDiff, Nat.reduceAdd, Nat.reduceMul, Nat.reduceSub, Nat.reduceLeDiff, Nat.reduceLT, Int.reduceToNat, Int.reduceLE, Int.reduceLT, Int.reduceNeg]
theorem fo_copyRow : FnOk Try.prog 108 := fnOk_of Try.func108 (by kernel_rfl)
theorem c_copyRow : Contract Try.prog 108 mCopyRow :=
  contract_of_does (DT := fun _ => []) Try.checked.mixed tabOk gok_nil Try.func108 rfl (by kernel_rfl) (does_copyRow )


theorem does_put {G : Nat → Option FM} (h_keysOf : G 115 = some (.model mKeysOf)) (h_below : G 89 = some (.model mBelow)) (h_copyRow : G 108 = some (.model mCopyRow)) : Does T G (fun id => match id with | 1 => [(1, 2), (1, 3)] | 2 => [(3, 4), (3, 5), (5, 3)] | _ => []) Try.f118 mPut := by
  refine does2 (rs := [.tmp 4]) rfl rfl fun xs x ro h => ?_
  obtain ⟨hs, rfl⟩ := gd_some h
  refine ⟨fun _ => ⟨by simp [cleanA, clean_row], rfl⟩, ?_⟩
  obtain ⟨a, b⟩ := x
  have hkl : (keysP xs).length = xs.length := by simp [keysP]
  have hc : cntB (keysP xs) a ≤ (keysP xs).length := (List.takeWhile_prefix _).length_le
  have ht : (xs.take (cntB (keysP xs) a)).length = cntB (keysP xs) a := by rw [List.length_take]; omega
  have ht1 : (xs.take (cntB (keysP xs) a) ++ [(a, b)]).length = cntB (keysP xs) a + 1 := by rw [List.length_append, ht]; rfl
  simp (config := {maxSteps := 1000000}) (disch := omega) only [go_sem, ↓reduceIte, Nat.reduceEqDiff, Nat.reduceAdd, Nat.reduceMul, Nat.reduceSub, Nat.reduceLeDiff, Nat.reduceLT, Int.reduceToNat, Int.reduceLE, Int.reduceLT, Int.reduceNeg, h_keysOf, mKeysOf, h_below, mBelow, h_copyRow, mCopyRow, sub_zero, Nat.sub_zero, List.take_length, app_P, ht, Bool.and_true, Bool.true_and, Bool.and_self]
  refine ⟨rfl, rfl, ?_⟩
  (first | refine runKS_split (fun g1 => ?_) (fun g1 => ?_) | refine cond_split (fun g1 => ?_) (fun g1 => ?_) | refine runK_split (fun g1 => ?_) (fun g1 => ?_))
  · have g1' := of_decide_eq_true g1
    simp (config := {maxSteps := 1000000}) (disch := omega) only [go_sem, ↓reduceIte, Nat.reduceEqDiff, Nat.reduceAdd, Nat.reduceMul, Nat.reduceSub, Nat.reduceLeDiff, Nat.reduceLT, Int.reduceToNat, Int.reduceLE, Int.reduceLT, Int.reduceNeg, h_keysOf, mKeysOf, h_below, mBelow, h_copyRow, mCopyRow, sub_zero, Nat.sub_zero, List.take_length, app_P, ht, g1]
    (first | refine runKS_split (fun g2 => ?_) (fun g2 => ?_) | refine cond_split (fun g2 => ?_) (fun g2 => ?_) | refine runK_split (fun g2 => ?_) (fun g2 => ?_))
    · have g2' := of_decide_eq_true g2
      simp (config := {maxSteps := 1000000}) (disch := omega) only [go_sem, ↓reduceIte, Nat.reduceEqDiff, Nat.reduceAdd, Nat.reduceMul, Nat.reduceSub, Nat.reduceLeDiff, Nat.reduceLT, Int.reduceToNat, Int.reduceLE, Int.reduceLT, Int.reduceNeg, h_keysOf, mKeysOf, h_below, mBelow, h_copyRow, mCopyRow, sub_zero, Nat.sub_zero, List.take_length, app_PP, ht, g1, g2, ht1, sub_restP, toNat_k1]
      rw [putV_t (by omega) g2']
      exact row_eq (by rw [List.length_append, ht, List.length_cons, List.length_drop]; omega)
    · have g2' := of_decide_eq_false g2
      simp (config := {maxSteps := 1000000}) (disch := omega) only [go_sem, ↓reduceIte, Nat.reduceEqDiff, Nat.reduceAdd, Nat.reduceMul, Nat.reduceSub, Nat.reduceLeDiff, Nat.reduceLT, Int.reduceToNat, Int.reduceLE, Int.reduceLT, Int.reduceNeg, h_keysOf, mKeysOf, h_below, mBelow, h_copyRow, mCopyRow, sub_zero, Nat.sub_zero, List.take_length, app_PP, ht, g1, g2, ht1, sub_restP]
      rw [putV_f (fun hh => g2' hh.2)]
      exact row_eq (by rw [List.length_append, ht, List.length_cons, List.length_drop]; omega)
  · have g1' := of_decide_eq_false g1
    simp (config := {maxSteps := 1000000}) (disch := omega) only [go_sem, ↓reduceIte, Nat.reduceEqDiff, Nat.reduceAdd, Nat.reduceMul, Nat.reduceSub, Nat.reduceLeDiff, Nat.reduceLT, Int.reduceToNat, Int.reduceLE, Int.reduceLT, Int.reduceNeg, h_keysOf, mKeysOf, h_below, mBelow, h_copyRow, mCopyRow, sub_zero, Nat.sub_zero, List.take_length, app_PP, ht, g1, ht1, sub_restP]
    rw [putV_f (fun hh => g1' (by omega))]
    exact row_eq (by rw [List.length_append, ht, List.length_cons, List.length_drop]; omega)
theorem fo_put : FnOk Try.prog 118 := fnOk_of Try.func118 (by kernel_rfl)
theorem c_put : Contract Try.prog 118 mPut :=
  contract_of_does (DT := fun id => match id with | 1 => [(1, 2), (1, 3)] | 2 => [(3, 4), (3, 5), (5, 3)] | _ => []) Try.checked.mixed tabOk (gok_model fo_keysOf c_keysOf (gok_model fo_below c_below (gok_model fo_copyRow c_copyRow gok_nil))) Try.func118 rfl (by kernel_rfl) (does_put rfl rfl rfl)


/-! ### Drawn rows -/

def grX (bs : List Int) (p : Int) : Pr := (pickV bs p 100, pickV bs (p + 1) 200 - 100)
def grStep (bs : List Int) (p : Int) (out : List Pr) : List Pr := if (putV out (grX bs p)).length ≤ 24 then putV out (grX bs p) else out
def grLoop (bs : List Int) : Nat → Int → List Pr → List Pr × Int
  | 0, p, out => (out, p)
  | k + 1, p, out => grLoop bs k (p + 1 + 1) (grStep bs p out)
def grK (bs : List Int) (p : Int) : Int := [6, 9, 13, 4, 20, 24, 1, 0].getD (pickV bs p 8).toNat 0
theorem grK_bd (bs : List Int) (p : Int) : 0 ≤ grK bs p ∧ grK bs p ≤ 24 := by
  unfold grK
  generalize (pickV bs p 8).toNat = i
  rcases i with _ | _ | _ | _ | _ | _ | _ | _ | i <;> simp
def grV (bs : List Int) (p : Int) : List Pr × Int := grLoop bs (grK bs p).toNat (p + 1) []
theorem grLoop_len (bs : List Int) : ∀ (k : Nat) (p : Int) (out : List Pr), out.length ≤ 24 → (grLoop bs k p out).1.length ≤ 24 ∧ (grLoop bs k p out).2 = p + 2 * k
  | 0, p, out, h => ⟨h, by simp [grLoop]⟩
  | k + 1, p, out, h => by
    obtain ⟨e1, e2⟩ := grLoop_len bs k (p + 1 + 1) (grStep bs p out) (by unfold grStep; split <;> assumption)
    exact ⟨e1, by simp only [grLoop]; rw [e2]; omega⟩

noncomputable def mGoodRow : Model := M1 .io false cRd fun r => gd (Bs r.bs ∧ 0 ≤ r.p ∧ r.p ≤ 80000) (eRow true (grV r.bs r.p).1, [[eBs false r.bs, eI (grV r.bs r.p).2]])

theorem does_goodRow {G : Nat → Option FM} (h_pick : G 81 = some (.model mPick)) (h_one : G 113 = some (.model mOne)) (h_put : G 118 = some (.model mPut)) : Does T G (fun _ => []) Try.f116 mGoodRow := by
  refine does1 (rs := [.tmp 2]) rfl rfl fun r ro h => ?_
  obtain ⟨⟨hB, hp0, hp1⟩, rfl⟩ := gd_some h
  have c1 := pickV_nn hB (p := r.p) (by omega) (by omega) (n := 8)
  have c2 := pickV_lt hB (p := r.p) (n := 8) (by omega)
  have kb := grK_bd r.bs r.p
  refine ⟨fun hc => (by cases hc), ?_⟩
  simp (config := {maxSteps := 1000000}) (disch := omega) only [go_sem, ↓reduceIte, Nat.reduceEqDiff, Nat.reduceAdd, Nat.reduceMul, Nat.reduceSub, Nat.reduceLeDiff, Nat.reduceLT, Int.reduceToNat, Int.reduceLE, Int.reduceLT, Int.reduceNeg, h_pick, mPick, h_one, mOne, h_put, mPut, hB]
  refine W_loop_i (fun s => s.sl 0 = .ptr (2, 0) [] 0 0 ∧ ∃ (k : Nat) (p : Int) (out : List Pr) (m : Nat), k ≤ 24 ∧ r.p ≤ p ∧ p ≤ r.p + 100 - 2 * k ∧ out.length ≤ 24 ∧ grLoop r.bs k p out = grV r.bs r.p ∧ s.sl 4 = eI k ∧ 2 < m ∧ m < s.n ∧
    s.sl 3 = .ref (m, 0) [] 0 0 2 out.length ∧ s.hp (m, 0) = some ⟨2, out.length, out.flatMap ePr, fun _ => 0⟩ ∧ ∃ v, s.hp (2, 0) = some ⟨2, 1, [eBs false r.bs, eI p], v⟩) (fun s => iN (s.sl 4)) ?_ ?_
  · refine ⟨rfl, (grK r.bs r.p).toNat, r.p + 1, [], 4, by omega, by omega, by omega, by simp, rfl, ?_, by omega, ?_, rfl, ?_, ?_⟩
    · simp (config := {maxSteps := 1000000}) (disch := omega) only [go_sem, ↓reduceIte, Nat.reduceEqDiff, Nat.reduceAdd, Nat.reduceMul, Nat.reduceSub, Nat.reduceLeDiff, Nat.reduceLT, Int.reduceToNat, Int.reduceLE, Int.reduceLT, Int.reduceNeg, h_pick, mPick, h_one, mOne, h_put, mPut]
      show A.i .i64 (grK r.bs r.p) = eI ((grK r.bs r.p).toNat : Int)
      rw [Int.toNat_of_nonneg kb.1]
    · simp (config := {maxSteps := 1000000}) (disch := omega) only [go_sem, ↓reduceIte, Nat.reduceEqDiff, Nat.reduceAdd, Nat.reduceMul, Nat.reduceSub, Nat.reduceLeDiff, Nat.reduceLT, Int.reduceToNat, Int.reduceLE, Int.reduceLT, Int.reduceNeg, h_pick, mPick, h_one, mOne, h_put, mPut]
    · simp (config := {maxSteps := 1000000}) (disch := omega) only [go_sem, ↓reduceIte, Nat.reduceEqDiff, Nat.reduceAdd, Nat.reduceMul, Nat.reduceSub, Nat.reduceLeDiff, Nat.reduceLT, Int.reduceToNat, Int.reduceLE, Int.reduceLT, Int.reduceNeg, h_pick, mPick, h_one, mOne, h_put, mPut]
      rfl
    · simp (config := {maxSteps := 1000000}) (disch := omega) only [go_sem, ↓reduceIte, Nat.reduceEqDiff, Nat.reduceAdd, Nat.reduceMul, Nat.reduceSub, Nat.reduceLeDiff, Nat.reduceLT, Int.reduceToNat, Int.reduceLE, Int.reduceLT, Int.reduceNeg, h_pick, mPick, h_one, mOne, h_put, mPut]
      exact ⟨_, rfl⟩
  · rintro sl hp m0 ⟨h0, k, p, out, m, hk, hpa, hpb, hol, hgr, h4, hm2, hm, h3, hh, v, hr⟩
    dsimp only at h0 h4 h3 hh hr hm
    have a1 := pickV_nn hB (p := p) (by omega) (by omega) (n := 100)
    have a2 := pickV_lt hB (p := p) (n := 100) (by omega)
    have b1 := pickV_nn hB (p := p + 1) (by omega) (by omega) (n := 200)
    have b2 := pickV_lt hB (p := p + 1) (n := 200) (by omega)
    have hpl := putV_len out (grX r.bs p)
    simp (config := {maxSteps := 1000000}) (disch := omega) only [go_sem, ↓reduceIte, Nat.reduceEqDiff, Nat.reduceAdd, Nat.reduceMul, Nat.reduceSub, Nat.reduceLeDiff, Nat.reduceLT, Int.reduceToNat, Int.reduceLE, Int.reduceLT, Int.reduceNeg, h_pick, mPick, h_one, mOne, h_put, mPut, h0, h3, h4]
    (first | refine runKS_split (fun g1 => ?_) (fun g1 => ?_) | refine cond_split (fun g1 => ?_) (fun g1 => ?_) | refine runK_split (fun g1 => ?_) (fun g1 => ?_))
    · have g1' := of_decide_eq_true g1
      obtain ⟨k', rfl⟩ : ∃ k', k = k' + 1 := ⟨k - 1, by omega⟩
      have hgx : (pickV r.bs p 100, pickV r.bs (p + 1) 200 - 100) = grX r.bs p := rfl
      simp (config := {maxSteps := 1000000}) (disch := omega) only [go_sem, ↓reduceIte, Nat.reduceEqDiff, Nat.reduceAdd, Nat.reduceMul, Nat.reduceSub, Nat.reduceLeDiff, Nat.reduceLT, Int.reduceToNat, Int.reduceLE, Int.reduceLT, Int.reduceNeg, h_pick, mPick, h_one, mOne, h_put, mPut, h0, h3, h4, g1, hh, hr, hB, hgx]
      (first | refine runKS_split (fun g2 => ?_) (fun g2 => ?_) | refine cond_split (fun g2 => ?_) (fun g2 => ?_) | refine runK_split (fun g2 => ?_) (fun g2 => ?_))
      · have g2' := of_decide_eq_true g2
        simp (config := {maxSteps := 1000000}) (disch := omega) only [go_sem, ↓reduceIte, Nat.reduceEqDiff, Nat.reduceAdd, Nat.reduceMul, Nat.reduceSub, Nat.reduceLeDiff, Nat.reduceLT, Int.reduceToNat, Int.reduceLE, Int.reduceLT, Int.reduceNeg, h_pick, mPick, h_one, mOne, h_put, mPut, h0, h3, h4, g1, g2, hh, hr, hB, hgx]
        have hst : grStep r.bs p out = putV out (grX r.bs p) := if_pos (by omega)
        refine ⟨⟨k', p + 1 + 1, putV out (grX r.bs p), m0 + 2 + 8 + 5 + 2, by omega, by omega, by omega, by omega, ?_, ?_, by omega, by omega, rfl, ?_, _, rfl⟩, by omega⟩
        · rw [← hgr, ← hst]
          rfl
        · rw [show ((k' + 1 : Nat) : Int) - 1 = k' from by omega]
        · simp (config := {maxSteps := 1000000}) (disch := omega) only [go_sem, ↓reduceIte, Nat.reduceEqDiff, Nat.reduceAdd, Nat.reduceMul, Nat.reduceSub, Nat.reduceLeDiff, Nat.reduceLT, Int.reduceToNat, Int.reduceLE, Int.reduceLT, Int.reduceNeg, h_pick, mPick, h_one, mOne, h_put, mPut]
      · have g2' := of_decide_eq_false g2
        simp (config := {maxSteps := 1000000}) (disch := omega) only [go_sem, ↓reduceIte, Nat.reduceEqDiff, Nat.reduceAdd, Nat.reduceMul, Nat.reduceSub, Nat.reduceLeDiff, Nat.reduceLT, Int.reduceToNat, Int.reduceLE, Int.reduceLT, Int.reduceNeg, h_pick, mPick, h_one, mOne, h_put, mPut, h0, h3, h4, g1, g2, hh, hr, hB, hgx]
        have hst : grStep r.bs p out = out := if_neg (by omega)
        refine ⟨⟨k', p + 1 + 1, out, m, by omega, by omega, by omega, by omega, ?_, ?_, by omega, by omega, rfl, ?_, _, rfl⟩, by omega⟩
        · rw [← hgr]
          show _ = grLoop r.bs k' (p + 1 + 1) (grStep r.bs p out)
          rw [hst]
        · rw [show ((k' + 1 : Nat) : Int) - 1 = k' from by omega]
        · simp (config := {maxSteps := 1000000}) (disch := omega) only [go_sem, ↓reduceIte, Nat.reduceEqDiff, Nat.reduceAdd, Nat.reduceMul, Nat.reduceSub, Nat.reduceLeDiff, Nat.reduceLT, Int.reduceToNat, Int.reduceLE, Int.reduceLT, Int.reduceNeg, h_pick, mPick, h_one, mOne, h_put, mPut, hh]
    · have g1' := of_decide_eq_false g1
      obtain rfl : k = 0 := by omega
      rw [← hgr]
      simp (config := {maxSteps := 1000000}) (disch := omega) only [go_sem, ↓reduceIte, Nat.reduceEqDiff, Nat.reduceAdd, Nat.reduceMul, Nat.reduceSub, Nat.reduceLeDiff, Nat.reduceLT, Int.reduceToNat, Int.reduceLE, Int.reduceLT, Int.reduceNeg, h_pick, mPick, h_one, mOne, h_put, mPut, h0, h3, h4, g1, hh, hr, hB, grLoop]
theorem fo_goodRow : FnOk Try.prog 116 := fnOk_of Try.func116 (by kernel_rfl)
theorem c_goodRow : Contract Try.prog 116 mGoodRow :=
  contract_of_does (DT := fun _ => []) Try.checked.mixed tabOk (gok_model fo_pick c_pick (gok_model fo_one c_one (gok_model fo_put c_put gok_nil))) Try.func116 rfl (by kernel_rfl) (does_goodRow rfl rfl rfl)


def anyRowV (bs : List Int) (p : Int) : List Pr × Int :=
  if pickV bs (grV bs p).2 14 = 0 then ((grV bs p).1 ++ [([99, 0, 100].getD (pickV bs ((grV bs p).2 + 1) 3).toNat 0, [0, 1001].getD (pickV bs ((grV bs p).2 + 1 + 1) 2).toNat 0)], (grV bs p).2 + 1 + 1 + 1)
  else ((grV bs p).1, (grV bs p).2 + 1)
theorem anyRowV_t {bs : List Int} {p : Int} (h : pickV bs (grV bs p).2 14 = 0) : anyRowV bs p = ((grV bs p).1 ++ [([99, 0, 100].getD (pickV bs ((grV bs p).2 + 1) 3).toNat 0, [0, 1001].getD (pickV bs ((grV bs p).2 + 1 + 1) 2).toNat 0)], (grV bs p).2 + 1 + 1 + 1) := if_pos h
theorem anyRowV_f {bs : List Int} {p : Int} (h : ¬ pickV bs (grV bs p).2 14 = 0) : anyRowV bs p = ((grV bs p).1, (grV bs p).2 + 1) := if_neg h
theorem grV_bd (bs : List Int) (p : Int) : (grV bs p).1.length ≤ 24 ∧ p ≤ (grV bs p).2 ∧ (grV bs p).2 ≤ p + 50 := by
  have kb := grK_bd bs p
  obtain ⟨e1, e2⟩ := grLoop_len bs (grK bs p).toNat (p + 1) [] (by simp)
  refine ⟨e1, ?_, ?_⟩ <;> unfold grV <;> rw [e2] <;> omega
theorem anyRowV_len (bs : List Int) (p : Int) : (anyRowV bs p).1.length ≤ 25 := by
  have := (grV_bd bs p).1
  unfold anyRowV
  split <;> simp <;> omega

noncomputable def mAnyRow : Model := M1 .io false cRd fun r => gd (Bs r.bs ∧ 0 ≤ r.p ∧ r.p ≤ 70000) (eRow true (anyRowV r.bs r.p).1, [[eBs false r.bs, eI (anyRowV r.bs r.p).2]])

theorem does_anyRow {G : Nat → Option FM} (h_pick : G 81 = some (.model mPick)) (h_one : G 113 = some (.model mOne)) (h_goodRow : G 116 = some (.model mGoodRow)) : Does T G (fun _ => []) Try.f103 mAnyRow := by
  refine does1 (rs := [.tmp 2]) rfl rfl fun r ro h => ?_
  obtain ⟨⟨hB, hp0, hp1⟩, rfl⟩ := gd_some h
  have gb := grV_bd r.bs r.p
  refine ⟨fun hc => (by cases hc), ?_⟩
  simp (config := {maxSteps := 1000000}) (disch := omega) only [go_sem, ↓reduceIte, Nat.reduceEqDiff, Nat.reduceAdd, Nat.reduceMul, Nat.reduceSub, Nat.reduceLeDiff, Nat.reduceLT, Int.reduceToNat, Int.reduceLE, Int.reduceLT, Int.reduceNeg, h_pick, mPick, h_one, mOne, h_goodRow, mGoodRow, hB]
  (first | refine runKS_split (fun g1 => ?_) (fun g1 => ?_) | refine cond_split (fun g1 => ?_) (fun g1 => ?_) | refine runK_split (fun g1 => ?_) (fun g1 => ?_))
  · have g1' := of_decide_eq_true g1
    rw [anyRowV_t g1']
    simp (config := {maxSteps := 1000000}) (disch := omega) only [go_sem, ↓reduceIte, Nat.reduceEqDiff, Nat.reduceAdd, Nat.reduceMul, Nat.reduceSub, Nat.reduceLeDiff, Nat.reduceLT, Int.reduceToNat, Int.reduceLE, Int.reduceLT, Int.reduceNeg, h_pick, mPick, h_one, mOne, h_goodRow, mGoodRow, hB, g1, app_P]
    simp
  · have g1' := of_decide_eq_false g1
    rw [anyRowV_f g1']
    simp (config := {maxSteps := 1000000}) (disch := omega) only [go_sem, ↓reduceIte, Nat.reduceEqDiff, Nat.reduceAdd, Nat.reduceMul, Nat.reduceSub, Nat.reduceLeDiff, Nat.reduceLT, Int.reduceToNat, Int.reduceLE, Int.reduceLT, Int.reduceNeg, h_pick, mPick, h_one, mOne, h_goodRow, mGoodRow, hB, g1]
theorem fo_anyRow : FnOk Try.prog 103 := fnOk_of Try.func103 (by kernel_rfl)
theorem c_anyRow : Contract Try.prog 103 mAnyRow :=
  contract_of_does (DT := fun _ => []) Try.checked.mixed tabOk (gok_model fo_pick c_pick (gok_model fo_one c_one (gok_model fo_goodRow c_goodRow gok_nil))) Try.func103 rfl (by kernel_rfl) (does_anyRow rfl rfl rfl)


noncomputable def mAnyRowF : Model := M1 .io false cRd fun r => gd (Bs r.bs ∧ 0 ≤ r.p ∧ r.p ≤ 70000) (eRow false (anyRowV r.bs r.p).1, [[eBs false r.bs, eI (anyRowV r.bs r.p).2]])
theorem norm_Row (o : Bool) (xs : List Pr) : normR (eRow o xs) = eRow false xs := by
  simp only [normR, norm]
  rw [normL_row]
theorem c_AnyRowF : Contract Try.prog 103 mAnyRowF := contract_frz c_anyRow rfl rfl fun args r outs h => by
  match args, h with
  | [x], h =>
    simp only [mAnyRowF, M1_fn, Option.bind_eq_some_iff] at h
    obtain ⟨rd, h1, h2⟩ := h
    obtain ⟨hc, h3⟩ := gd_some h2
    cases h3
    exact ⟨eRow true (anyRowV rd.bs rd.p).1, by simp only [mAnyRow, M1_fn, h1, Option.bind_some]; rw [gd_pos hc], (norm_Row _ _).symm, .inl ⟨_, _, _, _, rfl⟩⟩
theorem fo_AnyRowF : FnOk Try.prog 103 := fnOk_of Try.func103 (by kernel_rfl)


def drawR (bs : List Int) : List Pr := (anyRowV (bs.take 2000) 0).1
theorem drawR_len (bs : List Int) : (drawR bs).length ≤ 25 := anyRowV_len _ _
noncomputable def mDrawRow : Model := M1 .ro false (cS false c8) fun bs => gd (bs.length ≤ 1099511627776 ∧ Bs (bs.take 2000)) (eRow false (drawR bs), [])

theorem does_DrawValidRow {G : Nat → Option FM} (h_newReader : G 80 = some (.model mNewReader)) (h_AnyRowF : G 103 = some (.model mAnyRowF)) : Does T G (fun _ => []) Try.f56 mDrawRow := by
  refine does1 (rs := [.tmp 2]) rfl rfl fun bs ro h => ?_
  obtain ⟨⟨hl, hB⟩, rfl⟩ := gd_some h
  refine ⟨fun hc => (by cases hc), ?_⟩
  unfold drawR
  simp (config := {maxSteps := 1000000}) (disch := omega) only [go_sem, ↓reduceIte, Nat.reduceEqDiff, Nat.reduceAdd, Nat.reduceMul, Nat.reduceSub, Nat.reduceLeDiff, Nat.reduceLT, Int.reduceToNat, Int.reduceLE, Int.reduceLT, Int.reduceNeg, h_newReader, mNewReader, h_AnyRowF, mAnyRowF, hB]
theorem fo_DrawValidRow : FnOk Try.prog 56 := fnOk_of Try.func56 (by kernel_rfl)
theorem c_DrawValidRow : Contract Try.prog 56 mDrawRow :=
  contract_of_does (DT := fun _ => []) Try.checked.mixed tabOk (gok_model fo_newReader c_newReader (gok_model fo_AnyRowF c_AnyRowF gok_nil)) Try.func56 rfl (by kernel_rfl) (does_DrawValidRow rfl rfl)

theorem does_DrawSplitRow {G : Nat → Option FM} (h_newReader : G 80 = some (.model mNewReader)) (h_AnyRowF : G 103 = some (.model mAnyRowF)) : Does T G (fun _ => []) Try.f76 mDrawRow := by
  refine does1 (rs := [.tmp 2]) rfl rfl fun bs ro h => ?_
  obtain ⟨⟨hl, hB⟩, rfl⟩ := gd_some h
  refine ⟨fun hc => (by cases hc), ?_⟩
  unfold drawR
  simp (config := {maxSteps := 1000000}) (disch := omega) only [go_sem, ↓reduceIte, Nat.reduceEqDiff, Nat.reduceAdd, Nat.reduceMul, Nat.reduceSub, Nat.reduceLeDiff, Nat.reduceLT, Int.reduceToNat, Int.reduceLE, Int.reduceLT, Int.reduceNeg, h_newReader, mNewReader, h_AnyRowF, mAnyRowF, hB]
theorem fo_DrawSplitRow : FnOk Try.prog 76 := fnOk_of Try.func76 (by kernel_rfl)
theorem c_DrawSplitRow : Contract Try.prog 76 mDrawRow :=
  contract_of_does (DT := fun _ => []) Try.checked.mixed tabOk (gok_model fo_newReader c_newReader (gok_model fo_AnyRowF c_AnyRowF gok_nil)) Try.func76 rfl (by kernel_rfl) (does_DrawSplitRow rfl rfl)

end Go.TM
