/- Contracts, 49: keys in a range. -/
import Derived.Test.YtbdiacopffnnbaaF48
namespace Go.TM
open Go.Proofs
set_option linter.unusedVariables false
set_option linter.unusedSimpArgs false
set_option maxRecDepth 100000
set_option maxHeartbeats 4000000

def inScan (a b : Int) (x : Pr) : Bool := decide (a ≤ x.1) && decide (x.1 < b)
noncomputable def scanV (t : Tr) (a b m : Int) : List Pr := ((prV t).filter (inScan a b)).take m.toNat
noncomputable def mScanKeys : Model := M4 .ro .ro .ro .ro true (cTr false) cI cI cI fun t a b m => gd (smT t.pages = true) (eRow true (scanV t a b m), [])
theorem filtP_succ {p : Pr → Bool} {w : List Pr} {k : Nat} (hk : k < w.length) : (w.take (k + 1)).filter p = (w.take k).filter p ++ (if p (w.getD k default) = true then [w.getD k default] else []) := by
  rw [List.take_succ_eq_append_getElem hk, List.filter_append]
  have e : w[k] = w.getD k default := by simp [hk]
  rw [e]
  congr 1
  simp only [List.filter_cons, List.filter_nil]
/-- Enough have been found. -/
theorem scan_full {p : Pr → Bool} {w : List Pr} {k : Nat} {m : Int} (h1 : m ≤ ((w.take k).filter p).length) (h2 : ((w.take k).filter p).length ≤ m.toNat) : (w.take k).filter p = (w.filter p).take m.toNat := by
  have e : w.filter p = (w.take k).filter p ++ (w.drop k).filter p := by rw [← List.filter_append, List.take_append_drop]
  rw [e, List.take_append, List.take_of_length_le (l := (w.take k).filter p) h2, show m.toNat - ((w.take k).filter p).length = 0 from by omega]
  simp
/-- No more are there. -/
theorem scan_end {p : Pr → Bool} {w : List Pr} {k : Nat} {m : Int} (h1 : ∀ x ∈ w.drop k, p x = false) (h2 : ((w.take k).filter p).length ≤ m.toNat) : (w.take k).filter p = (w.filter p).take m.toNat := by
  have e : w.filter p = (w.take k).filter p ++ (w.drop k).filter p := by rw [← List.filter_append, List.take_append_drop]
  have e2 : (w.drop k).filter p = [] := List.filter_eq_nil_iff.2 fun x hx => by rw [h1 x hx]; simp
  rw [e, e2, List.append_nil, List.take_of_length_le (l := (w.take k).filter p) h2]
theorem scan_past {w : List Pr} (hv : vk (keysP w) = true) {k : Nat} {a b : Int} (hk : k < w.length) (hb : b ≤ (w.getD k default).1) : ∀ x ∈ w.drop k, inScan a b x = false := by
  intro x hx
  obtain ⟨j, hj, rfl⟩ := List.getElem_of_mem hx
  rw [List.length_drop] at hj
  rw [List.getElem_drop]
  have h1 : (keysP w).getD k 0 ≤ (keysP w).getD (k + j) 0 := by
    have hp := pw_of_vk hv
    rcases Nat.eq_zero_or_pos j with rfl | h0
    · exact Int.le_refl _
    · have h2 := List.pairwise_iff_getElem.1 hp k (k + j) (by rw [keysP_len]; omega) (by rw [keysP_len]; omega) (by omega)
      have e1 : (keysP w).getD k 0 = (keysP w)[k]'(by rw [keysP_len]; omega) := by simp [keysP, hk]
      have e2 : (keysP w).getD (k + j) 0 = (keysP w)[k + j]'(by rw [keysP_len]; omega) := by simp [keysP, show k + j < w.length from by omega]
      rw [e1, e2]
      omega
  rw [keysP_get hk, keysP_get (by omega)] at h1
  have e3 : w.getD (k + j) default = w[k + j] := by simp [show k + j < w.length from by omega]
  rw [e3] at h1
  unfold inScan
  rw [decide_eq_false (p := (w[k + j]).1 < b) (by omega), Bool.and_false]

theorem does_ScanKeysS {G : Nat → Option FM} (h_validTree : G 132 = some (.model mValidTree)) (h_pairsOf : G 153 = some (.model mPairs)) : Does T G (fun id => match id with  | _ => []) Try.f98 mScanKeys := by
  refine does4 (rs := [.tmp 8]) rfl rfl fun t a b m ro h => ?_
  obtain ⟨hs, rfl⟩ := gd_some h
  refine ⟨fun _ => ⟨by simp [cleanA, clean_row], rfl⟩, ?_⟩
  clear h
  cases hv : vTr t
  · rw [show scanV t a b m = [] from by unfold scanV; rw [prV_f hv]; simp]
    simp (config := {maxSteps := 1000000}) (disch := omega) only [go_sem, ↓reduceIte, Nat.reduceEqDiff, Nat.reduceAdd, Nat.reduceMul, Nat.reduceSub, Nat.reduceLeDiff, Nat.reduceLT, Int.reduceToNat, Int.reduceLE, Int.reduceLT, Int.reduceNeg, h_validTree, mValidTree, h_pairsOf, mPairs, drP_n, drP_c, logAt_n, logAt_c, disP_n, disP_c, notIn_n, notIn_c, hs, hv]
    try rfl
  · have l1 := prV_len t
    unfold scanV
    rw [prV_t hv] at *
    generalize hw : prF t (htT t) t.root = w at *
    simp (config := {maxSteps := 1000000}) (disch := omega) only [go_sem, ↓reduceIte, Nat.reduceEqDiff, Nat.reduceAdd, Nat.reduceMul, Nat.reduceSub, Nat.reduceLeDiff, Nat.reduceLT, Int.reduceToNat, Int.reduceLE, Int.reduceLT, Int.reduceNeg, h_validTree, mValidTree, h_pairsOf, mPairs, drP_n, drP_c, logAt_n, logAt_c, disP_n, disP_c, notIn_n, notIn_c, hs, hv, hw]
    refine W_loop_i (fun s => s.sl 1 = eI a ∧ s.sl 2 = eI b ∧ s.sl 3 = eI m ∧ ∃ k l o : Nat, k ≤ w.length ∧ l < s.n ∧ o < s.n ∧ o ≠ l ∧ s.sl 11 = eI k ∧ s.sl 10 = .ref (l, 0) [] 0 0 2 w.length ∧ s.hp (l, 0) = some ⟨2, w.length, w.flatMap ePr, fun _ => 0⟩ ∧
      s.sl 9 = .ref (o, 0) [] 0 0 2 ((w.take k).filter (inScan a b)).length ∧ s.hp (o, 0) = some ⟨2, ((w.take k).filter (inScan a b)).length, ((w.take k).filter (inScan a b)).flatMap ePr, fun _ => 0⟩ ∧ ((w.take k).filter (inScan a b)).length ≤ m.toNat) (fun s => w.length - iN (s.sl 11)) ?_ ?_
    · exact ⟨rfl, rfl, rfl, 0, 11, 5, Nat.zero_le _, by dsimp only [St.n]; omega, by dsimp only [St.n]; omega, by omega, rfl, rfl, rfl, by rw [List.take_zero]; rfl, by rw [List.take_zero]; rfl, by rw [List.take_zero]; exact Nat.zero_le _⟩
    · rintro sl hp q ⟨h1, h2, h3, k, l, o, hk, hln, hon, hol, h11, h10, hl, h9, ho, hm⟩
      dsimp only at h1 h2 h3 hln hon h11 h10 hl h9 ho
      by_cases g1' : k < w.length
      · have g1 : decide ((k : Int) < (w.length : Int)) = true := decide_eq_true (by omega)
        have fs := filtP_succ (p := inScan a b) (w := w) (k := k) g1'
        have fl : ((w.take k).filter (inScan a b)).length ≤ 64 := by
          have e1 := List.length_filter_le (inScan a b) (w.take k)
          rw [List.length_take] at e1
          omega
        generalize hF : (w.take k).filter (inScan a b) = F at *
        by_cases g2' : (F.length : Int) < m
        · have g2 : decide ((F.length : Int) < m) = true := decide_eq_true g2'
          by_cases c1 : a ≤ (w.getD k default).1
          · have e1 : decide (a ≤ (w.getD k default).1) = true := decide_eq_true c1
            by_cases c2 : (w.getD k default).1 < b
            · have e2 : decide ((w.getD k default).1 < b) = true := decide_eq_true c2
              have ei : inScan a b (w.getD k default) = true := by unfold inScan; rw [e1, e2]; rfl
              rw [if_pos ei] at fs
              simp (config := {maxSteps := 1000000}) (disch := omega) only [go_sem, ↓reduceIte, Nat.reduceEqDiff, Nat.reduceAdd, Nat.reduceMul, Nat.reduceSub, Nat.reduceLeDiff, Nat.reduceLT, Int.reduceToNat, Int.reduceLE, Int.reduceLT, Int.reduceNeg, h_validTree, mValidTree, h_pairsOf, mPairs, drP_n, drP_c, logAt_n, logAt_c, disP_n, disP_c, notIn_n, notIn_c, h1, h2, h3, h11, h10, hl, h9, ho, g1, g2, e1, e2, ePr, app_P]
              refine ⟨⟨k + 1, l, q + 10 + 16 + 6, by omega, by omega, by omega, by omega, rfl, rfl, ?_, ?_, ?_, ?_⟩, by omega⟩
              · simp (config := {maxSteps := 1000000}) (disch := omega) only [go_sem, ↓reduceIte, Nat.reduceEqDiff, Nat.reduceAdd, Nat.reduceMul, Nat.reduceSub, Nat.reduceLeDiff, Nat.reduceLT, Int.reduceToNat, Int.reduceLE, Int.reduceLT, Int.reduceNeg, h_validTree, mValidTree, h_pairsOf, mPairs, drP_n, drP_c, logAt_n, logAt_c, disP_n, disP_c, notIn_n, notIn_c, hl]
              · rw [fs, List.length_append]; rfl
              · rw [upd_same, fs, List.length_append]; rfl
              · rw [fs, List.length_append, List.length_singleton]; omega
            · have e2 : decide ((w.getD k default).1 < b) = false := decide_eq_false c2
              have ei : inScan a b (w.getD k default) = false := by unfold inScan; rw [e2, Bool.and_false]
              rw [if_neg (by rw [ei]; simp), List.append_nil] at fs
              simp (config := {maxSteps := 1000000}) (disch := omega) only [go_sem, ↓reduceIte, Nat.reduceEqDiff, Nat.reduceAdd, Nat.reduceMul, Nat.reduceSub, Nat.reduceLeDiff, Nat.reduceLT, Int.reduceToNat, Int.reduceLE, Int.reduceLT, Int.reduceNeg, h_validTree, mValidTree, h_pairsOf, mPairs, drP_n, drP_c, logAt_n, logAt_c, disP_n, disP_c, notIn_n, notIn_c, h1, h2, h3, h11, h10, hl, h9, ho, g1, g2, e1, e2, ePr]
              exact ⟨⟨k + 1, l, o, by omega, by omega, by omega, hol, rfl, rfl, hl, by rw [fs], by rw [fs]; exact ho, by rw [fs]; exact hm⟩, by omega⟩
          · have e1 : decide (a ≤ (w.getD k default).1) = false := decide_eq_false c1
            have ei : inScan a b (w.getD k default) = false := by unfold inScan; rw [e1, Bool.false_and]
            rw [if_neg (by rw [ei]; simp), List.append_nil] at fs
            simp (config := {maxSteps := 1000000}) (disch := omega) only [go_sem, ↓reduceIte, Nat.reduceEqDiff, Nat.reduceAdd, Nat.reduceMul, Nat.reduceSub, Nat.reduceLeDiff, Nat.reduceLT, Int.reduceToNat, Int.reduceLE, Int.reduceLT, Int.reduceNeg, h_validTree, mValidTree, h_pairsOf, mPairs, drP_n, drP_c, logAt_n, logAt_c, disP_n, disP_c, notIn_n, notIn_c, h1, h2, h3, h11, h10, hl, h9, ho, g1, g2, e1, ePr]
            exact ⟨⟨k + 1, l, o, by omega, by omega, by omega, hol, rfl, rfl, hl, by rw [fs], by rw [fs]; exact ho, by rw [fs]; exact hm⟩, by omega⟩
        · have g2 : decide ((F.length : Int) < m) = false := decide_eq_false g2'
          have ef := scan_full (p := inScan a b) (w := w) (k := k) (m := m) (by rw [hF]; omega) (by rw [hF]; exact hm)
          rw [hF] at ef
          rw [← ef]
          simp (config := {maxSteps := 1000000}) (disch := omega) only [go_sem, ↓reduceIte, Nat.reduceEqDiff, Nat.reduceAdd, Nat.reduceMul, Nat.reduceSub, Nat.reduceLeDiff, Nat.reduceLT, Int.reduceToNat, Int.reduceLE, Int.reduceLT, Int.reduceNeg, h_validTree, mValidTree, h_pairsOf, mPairs, drP_n, drP_c, logAt_n, logAt_c, disP_n, disP_c, notIn_n, notIn_c, h1, h2, h3, h11, h10, hl, h9, ho, g1, g2]
      · have g1 : decide ((k : Int) < (w.length : Int)) = false := decide_eq_false (by omega)
        obtain rfl : k = w.length := by omega
        rw [List.take_length] at h9 ho hm
        have ef : w.filter (inScan a b) = (w.filter (inScan a b)).take m.toNat := (List.take_of_length_le hm).symm
        rw [← ef]
        simp (config := {maxSteps := 1000000}) (disch := omega) only [go_sem, ↓reduceIte, Nat.reduceEqDiff, Nat.reduceAdd, Nat.reduceMul, Nat.reduceSub, Nat.reduceLeDiff, Nat.reduceLT, Int.reduceToNat, Int.reduceLE, Int.reduceLT, Int.reduceNeg, h_validTree, mValidTree, h_pairsOf, mPairs, drP_n, drP_c, logAt_n, logAt_c, disP_n, disP_c, notIn_n, notIn_c, h1, h2, h3, h11, h10, hl, h9, ho, g1]
theorem fo_ScanKeysS : FnOk Try.prog 98 := fnOk_of Try.func98 (by kernel_rfl)
theorem c_ScanKeysS : Contract Try.prog 98 mScanKeys :=
  contract_of_does (DT := fun id => match id with  | _ => []) Try.checked.mixed tabOk (gok_model fo_validTree c_validTree (gok_model fo_pairsOf c_pairsOf gok_nil)) Try.func98 rfl (by kernel_rfl) (does_ScanKeysS rfl rfl)


theorem does_ScanKeysI {G : Nat → Option FM} (h_PairsOfI : G 95 = some (.model mPairsOf)) : Does T G (fun id => match id with  | _ => []) Try.f99 mScanKeys := by
  refine does4 (rs := [.tmp 8]) rfl rfl fun t a b m ro h => ?_
  obtain ⟨hs, rfl⟩ := gd_some h
  refine ⟨fun _ => ⟨by simp [cleanA, clean_row], rfl⟩, ?_⟩
  clear h
  have l1 := prV_len t
  have hvk : vk (keysP (prV t)) = true := by
    cases hv : vTr t
    · rw [prV_f hv]; exact vk_iff.2 ⟨fun i hi => by simp [keysP] at hi, fun i hi => by simp [keysP] at hi⟩
    · exact prV_vk hv
  unfold scanV
  simp (config := {maxSteps := 1000000}) (disch := omega) only [go_sem, ↓reduceIte, Nat.reduceEqDiff, Nat.reduceAdd, Nat.reduceMul, Nat.reduceSub, Nat.reduceLeDiff, Nat.reduceLT, Int.reduceToNat, Int.reduceLE, Int.reduceLT, Int.reduceNeg, h_PairsOfI, mPairsOf, drP_n, drP_c, logAt_n, logAt_c, disP_n, disP_c, notIn_n, notIn_c, hs]
  generalize prV t = w at *
  refine W_loop_i (fun s => s.sl 1 = eI a ∧ s.sl 2 = eI b ∧ s.sl 3 = eI m ∧ ∃ k l : Nat, k ≤ w.length ∧ l < s.n ∧ s.sl 15 = eI k ∧ s.sl 13 = .ref (l, 0) [] 0 0 2 w.length ∧ s.sl 14 = eI w.length ∧ s.hp (l, 0) = some ⟨2, w.length, w.flatMap ePr, fun _ => 0⟩ ∧ ((w.take k).filter (inScan a b)).length ≤ m.toNat ∧
    ((((w.take k).filter (inScan a b)).length = 0 ∧ s.sl 9 = .s true 2 0 []) ∨ (0 < ((w.take k).filter (inScan a b)).length ∧ ∃ o : Nat, o < s.n ∧ o ≠ l ∧ s.sl 9 = .ref (o, 0) [] 0 0 2 ((w.take k).filter (inScan a b)).length ∧ s.hp (o, 0) = some ⟨2, ((w.take k).filter (inScan a b)).length, ((w.take k).filter (inScan a b)).flatMap ePr, fun _ => 0⟩))) (fun s => w.length - iN (s.sl 15)) ?_ ?_
  · exact ⟨rfl, rfl, rfl, 0, 7, Nat.zero_le _, by dsimp only [St.n]; omega, rfl, rfl, rfl, rfl, by rw [List.take_zero]; exact Nat.zero_le _, .inl ⟨by rw [List.take_zero]; rfl, rfl⟩⟩
  · rintro sl hp q ⟨h1, h2, h3, k, l, hk, hln, h15, h13, h14, hl, hm, hf⟩
    dsimp only at h1 h2 h3 hln h15 h13 h14 hl hf
    by_cases g1' : k < w.length
    · have g1 : decide ((k : Int) < (w.length : Int)) = true := decide_eq_true (by omega)
      have fs := filtP_succ (p := inScan a b) (w := w) (k := k) g1'
      have pa := fun hb => scan_past (a := a) (b := b) hvk g1' hb
      have fl : ((w.take k).filter (inScan a b)).length ≤ 64 := by
        have e1 := List.length_filter_le (inScan a b) (w.take k)
        rw [List.length_take] at e1
        omega
      have sf := scan_full (p := inScan a b) (w := w) (k := k) (m := m)
      have se := scan_end (p := inScan a b) (w := w) (k := k) (m := m)
      generalize hF : (w.take k).filter (inScan a b) = F at *
      by_cases c1 : (w.getD k default).1 < a
      · have e1 : decide ((w.getD k default).1 < a) = true := decide_eq_true c1
        have ei : inScan a b (w.getD k default) = false := by unfold inScan; rw [decide_eq_false (by omega), Bool.false_and]
        rw [if_neg (by rw [ei]; simp), List.append_nil] at fs
        rcases hf with ⟨f0, h9⟩ | ⟨f0, o, hon, hol, h9, ho⟩
        · simp (config := {maxSteps := 1000000}) (disch := omega) only [go_sem, ↓reduceIte, Nat.reduceEqDiff, Nat.reduceAdd, Nat.reduceMul, Nat.reduceSub, Nat.reduceLeDiff, Nat.reduceLT, Int.reduceToNat, Int.reduceLE, Int.reduceLT, Int.reduceNeg, h_PairsOfI, mPairsOf, drP_n, drP_c, logAt_n, logAt_c, disP_n, disP_c, notIn_n, notIn_c, h1, h2, h3, h15, h13, h14, hl, h9, g1, e1, ePr]
          refine ⟨⟨k + 1, l, by omega, by omega, rfl, rfl, ?_, by rw [fs]; exact hm, .inl (by rw [fs]; exact f0)⟩, by omega⟩
          simp (config := {maxSteps := 1000000}) (disch := omega) only [go_sem, ↓reduceIte, Nat.reduceEqDiff, Nat.reduceAdd, Nat.reduceMul, Nat.reduceSub, Nat.reduceLeDiff, Nat.reduceLT, Int.reduceToNat, Int.reduceLE, Int.reduceLT, Int.reduceNeg, h_PairsOfI, mPairsOf, drP_n, drP_c, logAt_n, logAt_c, disP_n, disP_c, notIn_n, notIn_c, hl]
        · simp (config := {maxSteps := 1000000}) (disch := omega) only [go_sem, ↓reduceIte, Nat.reduceEqDiff, Nat.reduceAdd, Nat.reduceMul, Nat.reduceSub, Nat.reduceLeDiff, Nat.reduceLT, Int.reduceToNat, Int.reduceLE, Int.reduceLT, Int.reduceNeg, h_PairsOfI, mPairsOf, drP_n, drP_c, logAt_n, logAt_c, disP_n, disP_c, notIn_n, notIn_c, h1, h2, h3, h15, h13, h14, hl, h9, ho, g1, e1, ePr]
          refine ⟨⟨k + 1, l, by omega, by omega, rfl, rfl, ?_, by rw [fs]; exact hm, .inr ⟨by rw [fs]; exact f0, o, by omega, by omega, by rw [fs], ?_⟩⟩, by omega⟩
          · simp (config := {maxSteps := 1000000}) (disch := omega) only [go_sem, ↓reduceIte, Nat.reduceEqDiff, Nat.reduceAdd, Nat.reduceMul, Nat.reduceSub, Nat.reduceLeDiff, Nat.reduceLT, Int.reduceToNat, Int.reduceLE, Int.reduceLT, Int.reduceNeg, h_PairsOfI, mPairsOf, drP_n, drP_c, logAt_n, logAt_c, disP_n, disP_c, notIn_n, notIn_c, hl]
          · simp (config := {maxSteps := 1000000}) (disch := omega) only [go_sem, ↓reduceIte, Nat.reduceEqDiff, Nat.reduceAdd, Nat.reduceMul, Nat.reduceSub, Nat.reduceLeDiff, Nat.reduceLT, Int.reduceToNat, Int.reduceLE, Int.reduceLT, Int.reduceNeg, h_PairsOfI, mPairsOf, drP_n, drP_c, logAt_n, logAt_c, disP_n, disP_c, notIn_n, notIn_c, ho, fs]
      · have e1 : decide ((w.getD k default).1 < a) = false := decide_eq_false c1
        by_cases c2 : b ≤ (w.getD k default).1
        · have e2 : decide (b ≤ (w.getD k default).1) = true := decide_eq_true c2
          have ef := se (pa c2) hm
          rw [← ef]
          rcases hf with ⟨f0, h9⟩ | ⟨f0, o, hon, hol, h9, ho⟩
          · simp (config := {maxSteps := 1000000}) (disch := omega) only [go_sem, ↓reduceIte, Nat.reduceEqDiff, Nat.reduceAdd, Nat.reduceMul, Nat.reduceSub, Nat.reduceLeDiff, Nat.reduceLT, Int.reduceToNat, Int.reduceLE, Int.reduceLT, Int.reduceNeg, h_PairsOfI, mPairsOf, drP_n, drP_c, logAt_n, logAt_c, disP_n, disP_c, notIn_n, notIn_c, h1, h2, h3, h15, h13, h14, hl, h9, g1, e1, e2, ePr]
            rw [List.length_eq_zero_iff.1 f0]
            rfl
          · simp (config := {maxSteps := 1000000}) (disch := omega) only [go_sem, ↓reduceIte, Nat.reduceEqDiff, Nat.reduceAdd, Nat.reduceMul, Nat.reduceSub, Nat.reduceLeDiff, Nat.reduceLT, Int.reduceToNat, Int.reduceLE, Int.reduceLT, Int.reduceNeg, h_PairsOfI, mPairsOf, drP_n, drP_c, logAt_n, logAt_c, disP_n, disP_c, notIn_n, notIn_c, h1, h2, h3, h15, h13, h14, hl, h9, ho, g1, e1, e2, ePr]
        · have e2 : decide (b ≤ (w.getD k default).1) = false := decide_eq_false c2
          by_cases c3 : m ≤ (F.length : Int)
          · have e3 : decide (m ≤ (F.length : Int)) = true := decide_eq_true c3
            have ef := sf c3 hm
            rw [← ef]
            rcases hf with ⟨f0, h9⟩ | ⟨f0, o, hon, hol, h9, ho⟩
            · rw [f0] at e3
              simp (config := {maxSteps := 1000000}) (disch := omega) only [go_sem, ↓reduceIte, Nat.reduceEqDiff, Nat.reduceAdd, Nat.reduceMul, Nat.reduceSub, Nat.reduceLeDiff, Nat.reduceLT, Int.reduceToNat, Int.reduceLE, Int.reduceLT, Int.reduceNeg, h_PairsOfI, mPairsOf, drP_n, drP_c, logAt_n, logAt_c, disP_n, disP_c, notIn_n, notIn_c, h1, h2, h3, h15, h13, h14, hl, h9, g1, e1, e2, e3, ePr]
              rw [List.length_eq_zero_iff.1 f0]
              rfl
            · simp (config := {maxSteps := 1000000}) (disch := omega) only [go_sem, ↓reduceIte, Nat.reduceEqDiff, Nat.reduceAdd, Nat.reduceMul, Nat.reduceSub, Nat.reduceLeDiff, Nat.reduceLT, Int.reduceToNat, Int.reduceLE, Int.reduceLT, Int.reduceNeg, h_PairsOfI, mPairsOf, drP_n, drP_c, logAt_n, logAt_c, disP_n, disP_c, notIn_n, notIn_c, h1, h2, h3, h15, h13, h14, hl, h9, ho, g1, e1, e2, e3, ePr]
          · have e3 : decide (m ≤ (F.length : Int)) = false := decide_eq_false c3
            have ei : inScan a b (w.getD k default) = true := by unfold inScan; rw [decide_eq_true (by omega), decide_eq_true (by omega)]; rfl
            rw [if_pos ei] at fs
            have fl2 : ((w.take (k + 1)).filter (inScan a b)).length = F.length + 1 := by rw [fs, List.length_append]; rfl
            rcases hf with ⟨f0, h9⟩ | ⟨f0, o, hon, hol, h9, ho⟩
            · rw [f0] at e3
              rw [List.length_eq_zero_iff.1 f0, List.nil_append] at fs
              simp (config := {maxSteps := 1000000}) (disch := omega) only [go_sem, ↓reduceIte, Nat.reduceEqDiff, Nat.reduceAdd, Nat.reduceMul, Nat.reduceSub, Nat.reduceLeDiff, Nat.reduceLT, Int.reduceToNat, Int.reduceLE, Int.reduceLT, Int.reduceNeg, h_PairsOfI, mPairsOf, drP_n, drP_c, logAt_n, logAt_c, disP_n, disP_c, notIn_n, notIn_c, h1, h2, h3, h15, h13, h14, hl, h9, g1, e1, e2, e3, ePr]
              refine ⟨⟨k + 1, l, by omega, by omega, rfl, rfl, ?_, by omega, .inr ⟨by omega, q + 1 + 4 + 4 + 10 + 3, by omega, by omega, by rw [fs]; rfl, ?_⟩⟩, by omega⟩
              · simp (config := {maxSteps := 1000000}) (disch := omega) only [go_sem, ↓reduceIte, Nat.reduceEqDiff, Nat.reduceAdd, Nat.reduceMul, Nat.reduceSub, Nat.reduceLeDiff, Nat.reduceLT, Int.reduceToNat, Int.reduceLE, Int.reduceLT, Int.reduceNeg, h_PairsOfI, mPairsOf, drP_n, drP_c, logAt_n, logAt_c, disP_n, disP_c, notIn_n, notIn_c, hl]
              · rw [upd_same, fs]; rfl
            · simp (config := {maxSteps := 1000000}) (disch := omega) only [go_sem, ↓reduceIte, Nat.reduceEqDiff, Nat.reduceAdd, Nat.reduceMul, Nat.reduceSub, Nat.reduceLeDiff, Nat.reduceLT, Int.reduceToNat, Int.reduceLE, Int.reduceLT, Int.reduceNeg, h_PairsOfI, mPairsOf, drP_n, drP_c, logAt_n, logAt_c, disP_n, disP_c, notIn_n, notIn_c, h1, h2, h3, h15, h13, h14, hl, h9, ho, g1, e1, e2, e3, ePr, app_P]
              refine ⟨⟨k + 1, l, by omega, by omega, rfl, rfl, ?_, by omega, .inr ⟨by omega, q + 1 + 4 + 4 + 10 + 3, by omega, by omega, by rw [fl2], ?_⟩⟩, by omega⟩
              · simp (config := {maxSteps := 1000000}) (disch := omega) only [go_sem, ↓reduceIte, Nat.reduceEqDiff, Nat.reduceAdd, Nat.reduceMul, Nat.reduceSub, Nat.reduceLeDiff, Nat.reduceLT, Int.reduceToNat, Int.reduceLE, Int.reduceLT, Int.reduceNeg, h_PairsOfI, mPairsOf, drP_n, drP_c, logAt_n, logAt_c, disP_n, disP_c, notIn_n, notIn_c, hl]
              · rw [upd_same, fl2, fs]
    · have g1 : decide ((k : Int) < (w.length : Int)) = false := decide_eq_false (by omega)
      obtain rfl : k = w.length := by omega
      rw [List.take_length] at hm hf
      have ef : w.filter (inScan a b) = (w.filter (inScan a b)).take m.toNat := (List.take_of_length_le hm).symm
      rw [← ef]
      rcases hf with ⟨f0, h9⟩ | ⟨f0, o, hon, hol, h9, ho⟩
      · simp (config := {maxSteps := 1000000}) (disch := omega) only [go_sem, ↓reduceIte, Nat.reduceEqDiff, Nat.reduceAdd, Nat.reduceMul, Nat.reduceSub, Nat.reduceLeDiff, Nat.reduceLT, Int.reduceToNat, Int.reduceLE, Int.reduceLT, Int.reduceNeg, h_PairsOfI, mPairsOf, drP_n, drP_c, logAt_n, logAt_c, disP_n, disP_c, notIn_n, notIn_c, h1, h2, h3, h15, h13, h14, hl, h9, g1]
        rw [List.length_eq_zero_iff.1 f0]
        rfl
      · simp (config := {maxSteps := 1000000}) (disch := omega) only [go_sem, ↓reduceIte, Nat.reduceEqDiff, Nat.reduceAdd, Nat.reduceMul, Nat.reduceSub, Nat.reduceLeDiff, Nat.reduceLT, Int.reduceToNat, Int.reduceLE, Int.reduceLT, Int.reduceNeg, h_PairsOfI, mPairsOf, drP_n, drP_c, logAt_n, logAt_c, disP_n, disP_c, notIn_n, notIn_c, h1, h2, h3, h15, h13, h14, hl, h9, ho, g1]
theorem fo_ScanKeysI : FnOk Try.prog 99 := fnOk_of Try.func99 (by kernel_rfl)
theorem c_ScanKeysI : Contract Try.prog 99 mScanKeys :=
  contract_of_does (DT := fun id => match id with  | _ => []) Try.checked.mixed tabOk (gok_model fo_PairsOfI c_PairsOfI gok_nil) Try.func99 rfl (by kernel_rfl) (does_ScanKeysI rfl)


def mLawTree4 : Model := M4 .ro .ro .ro .ro true (cTr false) cI cI cI fun t _ _ _ => gd (t.pages.length ≤ 9223372036854775807 ∧ t.pages.all bigP = true) (.b true, [])
theorem scanV_len (t : Tr) (a b m : Int) : (scanV t a b m).length ≤ 64 := by
  have h1 := prV_len t
  have h2 := List.length_filter_le (inScan a b) (prV t)
  unfold scanV
  rw [List.length_take]
  omega

theorem does_FnExactScanKeys {G : Nat → Option FM} (h_szTree : G 61 = some (.model mSzTree)) (h_toTree : G 63 = some (.model mToTree)) (h_ScanKeysS : G 98 = some (.model mScanKeys)) (h_ScanKeysI : G 99 = some (.model mScanKeys)) (h_eqTree : G 65 = some (.model mEqTree)) (h_eqPairS : G 31 = some (.model mEqPairS)) (h_markTree : G 80 = some (.each 2 [1] mMarkPageS)) (h_markPairS : G 34 = some (.model mMarkPairS)) (h_heldPairS : G 35 = some (.model mHeldPairS)) : Does T G (fun id => match id with | 10 => [(2, 0)] | _ => []) Try.f26 mLawTree4 := by
  refine does4 (rs := [.tmp 8]) rfl rfl fun t a b m ro h => ?_
  obtain ⟨⟨hs, hb⟩, rfl⟩ := gd_some h
  refine ⟨fun _ => ⟨rfl, rfl⟩, ?_⟩
  obtain ⟨z, hz⟩ : ∃ z, szPs t.pages 1048576 = z := ⟨_, rfl⟩
  have la := scanV_len t a b m
  generalize ha : scanV t a b m = c at la
  by_cases h1 : z < 0
  · have e1 : decide (z < 0) = true := decide_eq_true h1
    simp (config := {maxSteps := 1000000}) (disch := omega) only [go_sem, ↓reduceIte, Nat.reduceEqDiff, Nat.reduceAdd, Nat.reduceMul, Nat.reduceSub, Nat.reduceLeDiff, Nat.reduceLT, Int.reduceToNat, Int.reduceLE, Int.reduceLT, Int.reduceNeg, h_szTree, mSzTree, h_toTree, mToTree, h_ScanKeysS, mScanKeys, h_ScanKeysI, mScanKeys, h_eqTree, mEqTree, h_eqPairS, mEqPairS, h_markTree, mMarkPageS, h_markPairS, mMarkPairS, h_heldPairS, mHeldPairS, drP_n, drP_c, logAt_n, logAt_c, disP_n, disP_c, notIn_n, notIn_c, hb, hz, e1]
  · have e1 : decide (z < 0) = false := decide_eq_false h1
    obtain ⟨h2, hsm⟩ := lawT_small hz h1
    have m1 := marksP_len c.length 1
    have e2 : decide (1 + (tot t.pages : Int) < 0) = false := decide_eq_false (by omega)
    have e3 : decide (1 + 2 * (c.length : Int) < 0) = false := decide_eq_false (by omega)
    have hfl : ((mkPs t.pages 1).flatMap (ePg true)).length = (t.pages.flatMap (ePg true)).length := by rw [flatPg_len, flatPg_len, mkPs_len]
    simp (config := {maxSteps := 1000000}) (disch := omega) only [go_sem, ↓reduceIte, Nat.reduceEqDiff, Nat.reduceAdd, Nat.reduceMul, Nat.reduceSub, Nat.reduceLeDiff, Nat.reduceLT, Int.reduceToNat, Int.reduceLE, Int.reduceLT, Int.reduceNeg, h_szTree, mSzTree, h_toTree, mToTree, h_ScanKeysS, mScanKeys, h_ScanKeysI, mScanKeys, h_eqTree, mEqTree, h_eqPairS, mEqPairS, h_markTree, mMarkPageS, h_markPairS, mMarkPairS, h_heldPairS, mHeldPairS, drP_n, drP_c, logAt_n, logAt_c, disP_n, disP_c, notIn_n, notIn_c, hb, hz, e1, hsm, ha, e2, e3, marksP_len, flatPr_len, sub_marksP]
theorem fo_FnExactScanKeys : FnOk Try.prog 26 := fnOk_of Try.func26 (by kernel_rfl)
theorem c_FnExactScanKeys : Contract Try.prog 26 mLawTree4 :=
  contract_of_does (DT := fun id => match id with | 10 => [(2, 0)] | _ => []) Try.checked.mixed tabOk (gok_model fo_szTree c_szTree (gok_model fo_toTree c_toTree (gok_model fo_ScanKeysS c_ScanKeysS (gok_model fo_ScanKeysI c_ScanKeysI (gok_model fo_eqTree c_eqTree (gok_model fo_eqPairS c_eqPairS (gok_each fo_markTree c_markTree (gok_model fo_markPairS c_markPairS (gok_model fo_heldPairS c_heldPairS gok_nil))))))))) Try.func26 rfl (by kernel_rfl) (does_FnExactScanKeys rfl rfl rfl rfl rfl rfl rfl rfl rfl)

theorem fn_FnExactScanKeys (t : Tr) (h : TrW t) (x : Int) (hx : intWf .i64 x) (y : Int) (hy : intWf .i64 y) (z : Int) (hz : intWf .i64 z) : mLawTree4.fn [eTr false t, eI x, eI y, eI z] = some (.b true, []) := by
  obtain ⟨h1, h2⟩ := bigP_of h
  simp (config := {maxSteps := 1000000}) (disch := omega) only [go_sem, ↓reduceIte, Nat.reduceEqDiff, Nat.reduceAdd, Nat.reduceMul, Nat.reduceSub, Nat.reduceLeDiff, Nat.reduceLT, Int.reduceToNat, Int.reduceLE, Int.reduceLT, Int.reduceNeg, mLawTree4, h2]
end Go.TM
