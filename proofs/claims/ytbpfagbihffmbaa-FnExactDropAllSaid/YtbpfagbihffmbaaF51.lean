/- Contracts, 51: copies of trees; the order of the pages. -/
import Derived.Test.YtbpfagbihffmbaaF47
namespace Go.TM
open Go.Proofs
set_option linter.unusedVariables false
set_option linter.unusedSimpArgs false
set_option maxRecDepth 100000
set_option maxHeartbeats 4000000

def mCopyPage : Model := M1 .ro true (cPage false) fun p => gd (p.keys.length ≤ 1099511627776 ∧ p.kids.length ≤ 1099511627776 ∧ p.vals.length ≤ 1099511627776) (ePage true p, [])
def mCopyTree : Model := M1 .ro true (cTr false) fun t => gd (smT t.pages = true) (eTr true t, [])
theorem clean_page (p : Pg) : cleanA (ePage true p) = true := by simp only [cleanA, cleanL, clean_ints, Bool.and_self]

theorem does_copyPage {G : Nat → Option FM} (h_copyInts : G 140 = some (.model mCopyInts)) : Does T G (fun id => match id with | 1 => [(2, 3), (2, 4), (2, 6), (5, 6), (2, 7), (5, 7)] | _ => []) Try.f116 mCopyPage := by
  refine does1 (rs := [.cell 2 85]) rfl rfl fun p ro h => ?_
  obtain ⟨hs, rfl⟩ := gd_some h
  refine ⟨fun _ => ⟨clean_page p, rfl⟩, ?_⟩
  simp (config := {maxSteps := 1000000}) (disch := omega) only [go_sem, ↓reduceIte, Nat.reduceEqDiff, Nat.reduceAdd, Nat.reduceMul, Nat.reduceSub, Nat.reduceLeDiff, Nat.reduceLT, Int.reduceToNat, Int.reduceLE, Int.reduceLT, Int.reduceNeg, h_copyInts, mCopyInts, drP_n, drP_c, logAt_n, logAt_c, disP_n, disP_c, notIn_n, notIn_c]
  try rfl
theorem fo_copyPage : FnOk Try.prog 116 := fnOk_of Try.func116 (by kernel_rfl)
theorem c_copyPage : Contract Try.prog 116 mCopyPage :=
  contract_of_does (DT := fun id => match id with | 1 => [(2, 3), (2, 4), (2, 6), (5, 6), (2, 7), (5, 7)] | _ => []) Try.checked.mixed tabOk (gok_model fo_copyInts c_copyInts gok_nil) Try.func116 rfl (by kernel_rfl) (does_copyPage rfl)


theorem pgs_succ {o : Bool} {ps : List Pg} {k : Nat} (hk : k < ps.length) : (ps.take k).flatMap (ePg o) ++ ePg o (ps.getD k default) = (ps.take (k + 1)).flatMap (ePg o) := by
  rw [List.take_succ_eq_append_getElem hk, List.flatMap_append]
  simp [hk]
theorem take_all3 {o : Bool} {ps : List Pg} {n : Nat} (h : ps.length = n) : (ps.flatMap (ePg o)).take (n * 3) = ps.flatMap (ePg o) := List.take_of_length_le (by rw [flatPg_len]; omega)

theorem does_copyTreeS {G : Nat → Option FM} (h_copyPage : G 116 = some (.model mCopyPage)) : Does T G (fun id => match id with | 5 => [(7, 0), (7, 1), (8, 0), (8, 1)] | _ => []) Try.f65 mCopyTree := by
  refine does1 (rs := [.cell 2 28]) rfl rfl fun t ro h => ?_
  obtain ⟨hs, rfl⟩ := gd_some h
  refine ⟨fun _ => ⟨by simp only [cleanA, cleanL, clean_pgs, Bool.and_self], rfl⟩, ?_⟩
  clear h
  have hss := smT_iff.1 hs
  simp (config := {maxSteps := 1000000}) (disch := omega) only [go_sem, ↓reduceIte, Nat.reduceEqDiff, Nat.reduceAdd, Nat.reduceMul, Nat.reduceSub, Nat.reduceLeDiff, Nat.reduceLT, Int.reduceToNat, Int.reduceLE, Int.reduceLT, Int.reduceNeg, h_copyPage, mCopyPage, drP_n, drP_c, logAt_n, logAt_c, disP_n, disP_c, notIn_n, notIn_c]
  refine W_loop_i (fun s => s.sl 1 = .ptr (3, 0) [] 0 0 ∧ s.hp (3, 0) = some ⟨2, 1, [eI t.root, ePgs false t.pages], fun _ => 0⟩ ∧ s.sl 2 = .ptr (4, 0) [] 0 0 ∧ s.hp (4, 0) = some ⟨2, 1, [eI 0, .s true 3 0 []], fun _ => 0⟩ ∧ s.sl 3 = .ptr (9, 0) [] 0 0 ∧ 9 < s.n ∧ ∃ k : Nat, k ≤ t.pages.length ∧ s.sl 4 = eI k ∧ ∃ v, s.hp (9, 0) = some ⟨2, 1, [eI t.root, .s true 3 k ((t.pages.take k).flatMap (ePg true))], v⟩) (fun s => t.pages.length - iN (s.sl 4)) ?_ ?_
  · exact ⟨rfl, rfl, rfl, rfl, rfl, by dsimp only [St.n]; omega, 0, Nat.zero_le _, rfl, _, rfl⟩
  · rintro sl hp q ⟨h1, hh3, h2, hh4, h3, hq, k, hk, h4, v, hh⟩
    dsimp only at h1 hh3 h2 hh4 h3 h4 hh hq
    simp (config := {maxSteps := 1000000}) (disch := omega) only [go_sem, ↓reduceIte, Nat.reduceEqDiff, Nat.reduceAdd, Nat.reduceMul, Nat.reduceSub, Nat.reduceLeDiff, Nat.reduceLT, Int.reduceToNat, Int.reduceLE, Int.reduceLT, Int.reduceNeg, h_copyPage, mCopyPage, drP_n, drP_c, logAt_n, logAt_c, disP_n, disP_c, notIn_n, notIn_c, h1, hh3, h2, hh4, h3, h4, hh]
    (first | refine runKS_split (fun g1 => ?_) (fun g1 => ?_) | refine cond_split (fun g1 => ?_) (fun g1 => ?_) | refine runK_split (fun g1 => ?_) (fun g1 => ?_))
    · have g1' := of_decide_eq_true g1
      have ht := tot_get (ps := t.pages) (k := k) (by omega)
      have htp : totP (t.pages.getD k default) = (t.pages.getD k default).keys.length + (t.pages.getD k default).kids.length + (t.pages.getD k default).vals.length := rfl
      have es := pgs_succ (o := true) (ps := t.pages) (k := k) (by omega)
      have hlk : ((t.pages.take k).flatMap (ePg true)).length = k * 3 := by rw [flatPg_len, List.length_take]; omega
      generalize hP : t.pages.getD k default = P at *
      have es2 : ((t.pages.take k).flatMap (ePg true)).take (k * 3) ++ [A.s true 1 P.keys.length (P.keys.map eI), A.s true 1 P.kids.length (P.kids.map eI), A.s true 1 P.vals.length (P.vals.map eI)] = (t.pages.take (k + 1)).flatMap (ePg true) := by
        rw [List.take_of_length_le (by omega)]; exact es
      simp (config := {maxSteps := 1000000}) (disch := omega) only [go_sem, ↓reduceIte, Nat.reduceEqDiff, Nat.reduceAdd, Nat.reduceMul, Nat.reduceSub, Nat.reduceLeDiff, Nat.reduceLT, Int.reduceToNat, Int.reduceLE, Int.reduceLT, Int.reduceNeg, h_copyPage, mCopyPage, drP_n, drP_c, logAt_n, logAt_c, disP_n, disP_c, notIn_n, notIn_c, h1, hh3, h2, hh4, h3, h4, hh, g1, ePg, hP, es2]
      exact ⟨⟨k + 1, by omega, rfl, _, rfl⟩, by omega⟩
    · have g1' := of_decide_eq_false g1
      obtain rfl : k = t.pages.length := by omega
      simp (config := {maxSteps := 1000000}) (disch := omega) only [go_sem, ↓reduceIte, Nat.reduceEqDiff, Nat.reduceAdd, Nat.reduceMul, Nat.reduceSub, Nat.reduceLeDiff, Nat.reduceLT, Int.reduceToNat, Int.reduceLE, Int.reduceLT, Int.reduceNeg, h_copyPage, mCopyPage, drP_n, drP_c, logAt_n, logAt_c, disP_n, disP_c, notIn_n, notIn_c, h1, hh3, h2, hh4, h3, h4, hh, g1, List.take_length]
theorem fo_copyTreeS : FnOk Try.prog 65 := fnOk_of Try.func65 (by kernel_rfl)
theorem c_copyTreeS : Contract Try.prog 65 mCopyTree :=
  contract_of_does (DT := fun id => match id with | 5 => [(7, 0), (7, 1), (8, 0), (8, 1)] | _ => []) Try.checked.mixed tabOk (gok_model fo_copyPage c_copyPage gok_nil) Try.func65 rfl (by kernel_rfl) (does_copyTreeS rfl)


theorem does_copyTreeI {G : Nat → Option FM} (h_cloneI : G 90 = some (.model mCopyInts)) : Does T G (fun id => match id with | 1 => [(5, 0), (5, 1), (7, 0), (7, 1), (7, 2), (7, 3), (5, 7), (7, 5)] | 5 => [(5, 0), (5, 1), (5, 6), (5, 7), (8, 0), (8, 1), (5, 9), (8, 9), (5, 10), (8, 10), (11, 0), (11, 1)] | _ => []) Try.f67 mCopyTree := by
  refine does1 (rs := [.cell 2 28]) rfl rfl fun t ro h => ?_
  obtain ⟨hs, rfl⟩ := gd_some h
  refine ⟨fun _ => ⟨by simp only [cleanA, cleanL, clean_pgs, Bool.and_self], rfl⟩, ?_⟩
  clear h
  have hss := smT_iff.1 hs
  simp (config := {maxSteps := 1000000}) (disch := omega) only [go_sem, ↓reduceIte, Nat.reduceEqDiff, Nat.reduceAdd, Nat.reduceMul, Nat.reduceSub, Nat.reduceLeDiff, Nat.reduceLT, Int.reduceToNat, Int.reduceLE, Int.reduceLT, Int.reduceNeg, h_cloneI, mCopyInts, drP_n, drP_c, logAt_n, logAt_c, disP_n, disP_c, notIn_n, notIn_c, rep_pgs]
  refine W_loop_i (fun s => s.sl 2 = .ptr (4, 0) [] 0 0 ∧ s.sl 3 = .ptr (12, 0) [] 0 0 ∧ s.hp (4, 0) = some ⟨2, 1, [eI 0, .s true 3 0 []], fun _ => 0⟩ ∧ s.sl 14 = ePgs false t.pages ∧ s.sl 15 = eI t.pages.length ∧ 12 < s.n ∧ ∃ k : Nat, k ≤ t.pages.length ∧ s.sl 16 = eI k ∧ ∃ (ys : List Pg), ys.length = t.pages.length ∧ (∀ i, i < k → ys.getD i default = t.pages.getD i default) ∧ ∃ v, s.hp (12, 0) = some ⟨2, 1, [eI t.root, .s true 3 t.pages.length (ys.flatMap (ePg true))], v⟩) (fun s => t.pages.length - iN (s.sl 16)) ?_ ?_
  · refine ⟨rfl, rfl, rfl, rfl, rfl, by dsimp only [St.n]; omega, 0, Nat.zero_le _, rfl, List.replicate t.pages.length ⟨[], [], []⟩, by simp, fun i hi => by omega, ?_⟩
    simp (config := {maxSteps := 1000000}) (disch := omega) only [go_sem, ↓reduceIte, Nat.reduceEqDiff, Nat.reduceAdd, Nat.reduceMul, Nat.reduceSub, Nat.reduceLeDiff, Nat.reduceLT, Int.reduceToNat, Int.reduceLE, Int.reduceLT, Int.reduceNeg, h_cloneI, mCopyInts, drP_n, drP_c, logAt_n, logAt_c, disP_n, disP_c, notIn_n, notIn_c]
    exact ⟨_, rfl⟩
  · rintro sl hp q ⟨h2, h3, hh4, h14, h15, hq, k, hk, h16, ys, hy, hall, v, hh⟩
    dsimp only at h2 h3 hh4 h14 h15 h16 hh hq
    simp (config := {maxSteps := 1000000}) (disch := omega) only [go_sem, ↓reduceIte, Nat.reduceEqDiff, Nat.reduceAdd, Nat.reduceMul, Nat.reduceSub, Nat.reduceLeDiff, Nat.reduceLT, Int.reduceToNat, Int.reduceLE, Int.reduceLT, Int.reduceNeg, h_cloneI, mCopyInts, drP_n, drP_c, logAt_n, logAt_c, disP_n, disP_c, notIn_n, notIn_c, h2, h3, hh4, h14, h15, h16]
    (first | refine runKS_split (fun g1 => ?_) (fun g1 => ?_) | refine cond_split (fun g1 => ?_) (fun g1 => ?_) | refine runK_split (fun g1 => ?_) (fun g1 => ?_))
    · have g1' := of_decide_eq_true g1
      have ht := tot_get (ps := t.pages) (k := k) (by omega)
      have htp : totP (t.pages.getD k default) = (t.pages.getD k default).keys.length + (t.pages.getD k default).kids.length + (t.pages.getD k default).vals.length := rfl
      simp (config := {maxSteps := 1000000}) (disch := omega) only [go_sem, ↓reduceIte, Nat.reduceEqDiff, Nat.reduceAdd, Nat.reduceMul, Nat.reduceSub, Nat.reduceLeDiff, Nat.reduceLT, Int.reduceToNat, Int.reduceLE, Int.reduceLT, Int.reduceNeg, h_cloneI, mCopyInts, drP_n, drP_c, logAt_n, logAt_c, disP_n, disP_c, notIn_n, notIn_c, h2, h3, hh4, h14, h15, h16, g1, hh, ePg]
      refine ⟨by omega, ⟨k + 1, by omega, rfl, ys.set k (t.pages.getD k default), by simp [hy], set_step (fun i => t.pages.getD i default) (by omega) hall, _, rfl⟩, by omega⟩
    · have g1' := of_decide_eq_false g1
      obtain rfl : k = t.pages.length := by omega
      simp (config := {maxSteps := 1000000}) (disch := omega) only [go_sem, ↓reduceIte, Nat.reduceEqDiff, Nat.reduceAdd, Nat.reduceMul, Nat.reduceSub, Nat.reduceLeDiff, Nat.reduceLT, Int.reduceToNat, Int.reduceLE, Int.reduceLT, Int.reduceNeg, h_cloneI, mCopyInts, drP_n, drP_c, logAt_n, logAt_c, disP_n, disP_c, notIn_n, notIn_c, h2, h3, hh4, h14, h15, h16, g1, hh]
      rw [show ys = t.pages from list_ext (d := default) hy fun i hi => hall i (by omega)]
theorem fo_copyTreeI : FnOk Try.prog 67 := fnOk_of Try.func67 (by kernel_rfl)
theorem c_copyTreeI : Contract Try.prog 67 mCopyTree :=
  contract_of_does (DT := fun id => match id with | 1 => [(5, 0), (5, 1), (7, 0), (7, 1), (7, 2), (7, 3), (5, 7), (7, 5)] | 5 => [(5, 0), (5, 1), (5, 6), (5, 7), (8, 0), (8, 1), (5, 9), (8, 9), (5, 10), (8, 10), (11, 0), (11, 1)] | _ => []) Try.checked.mixed tabOk (gok_model fo_cloneI c_cloneI gok_nil) Try.func67 rfl (by kernel_rfl) (does_copyTreeI rfl)


/-! ### The order of the pages -/

def placeV (xs : List Int) (n : Int) : Int := if n ∈ xs then (xs.idxOf n : Int) else -1
def mPlaceOf : Model := M2 .ro .ro true (cIs false) cI fun xs n => gd (xs.length ≤ 1099511627776) (eI (placeV xs n), [])
theorem place_at {xs : List Int} {n : Int} {k : Nat} (hk : k < xs.length) (h : xs.getD k 0 = n) (hb : ∀ i, i < k → xs.getD i 0 ≠ n) : placeV xs n = k := by
  have hm : n ∈ xs := h ▸ getD_mem hk
  unfold placeV
  rw [if_pos hm]
  have hi := List.idxOf_lt_length_iff.2 hm
  have hg : xs.getD (xs.idxOf n) 0 = n := by simp [hi]
  rcases Nat.lt_trichotomy (xs.idxOf n) k with h1 | h1 | h1
  · exact (hb _ h1 hg).elim
  · rw [h1]
  · exfalso
    have := List.not_of_lt_findIdx (p := fun x => x == n) (xs := xs) (i := k) h1
    rw [show xs[k] = xs.getD k 0 from by simp [hk], h] at this
    simp at this
theorem place_no {xs : List Int} {n : Int} (hb : ∀ i, i < xs.length → xs.getD i 0 ≠ n) : placeV xs n = -1 := by
  unfold placeV
  rw [if_neg]
  intro hm
  obtain ⟨i, hi, e⟩ := mem_getD hm
  exact hb i hi e

theorem does_placeOf {G : Nat → Option FM}  : Does T G (fun id => match id with  | _ => []) Try.f109 mPlaceOf := by
  refine does2 (rs := [.tmp 4]) rfl rfl fun xs n ro h => ?_
  obtain ⟨hs, rfl⟩ := gd_some h
  refine ⟨fun _ => ⟨rfl, rfl⟩, ?_⟩
  clear h
  simp (config := {maxSteps := 1000000}) (disch := omega) only [go_sem, ↓reduceIte, Nat.reduceEqDiff, Nat.reduceAdd, Nat.reduceMul, Nat.reduceSub, Nat.reduceLeDiff, Nat.reduceLT, Int.reduceToNat, Int.reduceLE, Int.reduceLT, Int.reduceNeg, drP_n, drP_c, logAt_n, logAt_c, disP_n, disP_c, notIn_n, notIn_c]
  refine W_loop_i (fun s => s.sl 0 = eIs false xs ∧ s.sl 1 = eI n ∧ ∃ k : Nat, k ≤ xs.length ∧ s.sl 5 = eI k ∧ ∀ i, i < k → xs.getD i 0 ≠ n) (fun s => xs.length - iN (s.sl 5)) ?_ ?_
  · exact ⟨rfl, rfl, 0, Nat.zero_le _, rfl, fun i hi => by omega⟩
  · rintro sl hp q ⟨h0, h1, k, hk, h5, hall⟩
    dsimp only at h0 h1 h5
    simp (config := {maxSteps := 1000000}) (disch := omega) only [go_sem, ↓reduceIte, Nat.reduceEqDiff, Nat.reduceAdd, Nat.reduceMul, Nat.reduceSub, Nat.reduceLeDiff, Nat.reduceLT, Int.reduceToNat, Int.reduceLE, Int.reduceLT, Int.reduceNeg, drP_n, drP_c, logAt_n, logAt_c, disP_n, disP_c, notIn_n, notIn_c, h0, h1, h5]
    (first | refine runKS_split (fun g1 => ?_) (fun g1 => ?_) | refine cond_split (fun g1 => ?_) (fun g1 => ?_) | refine runK_split (fun g1 => ?_) (fun g1 => ?_))
    · have g1' := of_decide_eq_true g1
      by_cases hc : xs.getD k 0 = n
      · have e1 : decide (xs.getD k 0 = n) = true := decide_eq_true hc
        have ep := place_at (by omega) hc hall
        simp (config := {maxSteps := 1000000}) (disch := omega) only [go_sem, ↓reduceIte, Nat.reduceEqDiff, Nat.reduceAdd, Nat.reduceMul, Nat.reduceSub, Nat.reduceLeDiff, Nat.reduceLT, Int.reduceToNat, Int.reduceLE, Int.reduceLT, Int.reduceNeg, drP_n, drP_c, logAt_n, logAt_c, disP_n, disP_c, notIn_n, notIn_c, h0, h1, h5, g1, e1]
        rw [ep]
      · have e1 : decide (xs.getD k 0 = n) = false := decide_eq_false hc
        simp (config := {maxSteps := 1000000}) (disch := omega) only [go_sem, ↓reduceIte, Nat.reduceEqDiff, Nat.reduceAdd, Nat.reduceMul, Nat.reduceSub, Nat.reduceLeDiff, Nat.reduceLT, Int.reduceToNat, Int.reduceLE, Int.reduceLT, Int.reduceNeg, drP_n, drP_c, logAt_n, logAt_c, disP_n, disP_c, notIn_n, notIn_c, h0, h1, h5, g1, e1]
        refine ⟨⟨k + 1, by omega, rfl, fun i hi => ?_⟩, by omega⟩
        by_cases hik : i = k
        · rw [hik]; exact hc
        · exact hall i (by omega)
    · have g1' := of_decide_eq_false g1
      obtain rfl : k = xs.length := by omega
      simp (config := {maxSteps := 1000000}) (disch := omega) only [go_sem, ↓reduceIte, Nat.reduceEqDiff, Nat.reduceAdd, Nat.reduceMul, Nat.reduceSub, Nat.reduceLeDiff, Nat.reduceLT, Int.reduceToNat, Int.reduceLE, Int.reduceLT, Int.reduceNeg, drP_n, drP_c, logAt_n, logAt_c, disP_n, disP_c, notIn_n, notIn_c, h0, h1, h5, g1]
      rw [place_no hall]
theorem fo_placeOf : FnOk Try.prog 109 := fnOk_of Try.func109 (by kernel_rfl)
theorem c_placeOf : Contract Try.prog 109 mPlaceOf :=
  contract_of_does (DT := fun id => match id with  | _ => []) Try.checked.mixed tabOk gok_nil Try.func109 rfl (by kernel_rfl) (does_placeOf )

end Go.TM
