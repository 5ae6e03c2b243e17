/- Contracts, 36: what the reference asks of a tree. -/
import Derived.Test.YtbpfagbihffmbaaF35
namespace Go.TM
open Go.Proofs
set_option linter.unusedVariables false
set_option linter.unusedSimpArgs false
set_option maxRecDepth 100000
set_option maxHeartbeats 4000000

theorem pgAt_nat (t : Tr) (k : Nat) : pgAt t k = t.pages.getD k default := by simp [pgAt]
theorem tr_small {t : Tr} (h : smT t.pages = true) (x : Int) : (pgAt t x).keys.length ≤ 16777216 ∧ (pgAt t x).kids.length ≤ 16777216 ∧ (pgAt t x).vals.length ≤ 16777216 ∧ t.pages.length ≤ 16777216 := by
  have hs := smT_iff.1 h
  by_cases hx : x.toNat < t.pages.length
  · have := tot_get hx
    unfold totP at this
    unfold pgAt
    omega
  · have e : pgAt t x = default := by unfold pgAt; rw [List.getD_eq_getElem?_getD, List.getElem?_eq_none (by omega)]; rfl
    rw [e]
    refine ⟨by decide, by decide, by decide, by omega⟩

def mHeight : Model := M1 .ro true (cTr false) fun t => gd (smT t.pages = true) (eI (htT t + 1), [])

theorem does_heightOf {G : Nat → Option FM} (h_inRange : G 83 = some (.model mInRange)) : Does T G (fun id => match id with  | _ => []) Try.f100 mHeight := by
  refine does1 (rs := [.tmp 2]) rfl rfl fun t ro h => ?_
  obtain ⟨hs, rfl⟩ := gd_some h
  refine ⟨fun _ => ⟨rfl, rfl⟩, ?_⟩
  simp (config := {maxSteps := 1000000}) (disch := omega) only [go_sem, ↓reduceIte, Nat.reduceEqDiff, Nat.reduceAdd, Nat.reduceMul, Nat.reduceSub, Nat.reduceLeDiff, Nat.reduceLT, Int.reduceToNat, Int.reduceLE, Int.reduceLT, Int.reduceNeg, h_inRange, mInRange, drP_n, drP_c, logAt_n, logAt_c, disP_n, disP_c, notIn_n, notIn_c]
  refine W_loop_i (fun s => s.sl 1 = .ptr (3, 0) [] 0 0 ∧ s.hp (3, 0) = some ⟨2, 1, [eI t.root, ePgs false t.pages], fun _ => 0⟩ ∧ ∃ (k : Nat) (x : Int), k ≤ 3 ∧ s.sl 3 = eI (3 - k + 1 : Int) ∧ s.sl 4 = eI x ∧ htF t k x + (3 - k) = htT t) (fun s => 4 - iN (s.sl 3)) ?_ ?_
  · exact ⟨rfl, rfl, 3, t.root, by omega, rfl, rfl, rfl⟩
  · rintro sl hp n ⟨h1, hh, k, x, hk, h3, h4, hx⟩
    dsimp only at h1 h3 h4 hh
    have hts := tr_small hs x
    cases k with
    | zero =>
      have e1 : decide ((3 : Int) - ((0 : Nat) : Int) + 1 ≤ 3) = false := by decide
      simp (config := {maxSteps := 1000000}) (disch := omega) only [go_sem, ↓reduceIte, Nat.reduceEqDiff, Nat.reduceAdd, Nat.reduceMul, Nat.reduceSub, Nat.reduceLeDiff, Nat.reduceLT, Int.reduceToNat, Int.reduceLE, Int.reduceLT, Int.reduceNeg, h_inRange, mInRange, drP_n, drP_c, logAt_n, logAt_c, disP_n, disP_c, notIn_n, notIn_c, h1, h3, h4, hh, e1]
      rw [← hx]
      rfl
    | succ k =>
      have e1 : decide ((3 : Int) - ((k + 1 : Nat) : Int) + 1 ≤ 3) = true := decide_eq_true (by omega)
      by_cases hr : inR x 0 ((t.pages.length : Int) - 1) = true
      · have hr' := inR_iff.1 hr
        obtain ⟨y, rfl⟩ : ∃ y : Nat, x = y := ⟨x.toNat, by omega⟩
        rw [pgAt_nat] at hts
        by_cases hc : (t.pages.getD y default).kids.length = 0
        · have e2 : decide ((0 : Int) < ((t.pages.getD y default).kids.length : Int)) = false := decide_eq_false (by omega)
          simp (config := {maxSteps := 1000000}) (disch := omega) only [go_sem, ↓reduceIte, Nat.reduceEqDiff, Nat.reduceAdd, Nat.reduceMul, Nat.reduceSub, Nat.reduceLeDiff, Nat.reduceLT, Int.reduceToNat, Int.reduceLE, Int.reduceLT, Int.reduceNeg, h_inRange, mInRange, drP_n, drP_c, logAt_n, logAt_c, disP_n, disP_c, notIn_n, notIn_c, h1, h3, h4, hh, e1, hr, e2]
          have : htF t (k + 1) y = 0 := by
            simp only [htF, pgAt_nat]
            rw [if_neg (fun h => h.2 hc)]
          rw [this] at hx
          rw [← hx]
          show some (A.i .i64 _, _) = some (A.i .i64 _, _)
          congr 3
          omega
        · have e2 : decide ((0 : Int) < ((t.pages.getD y default).kids.length : Int)) = true := decide_eq_true (by omega)
          simp (config := {maxSteps := 1000000}) (disch := omega) only [go_sem, ↓reduceIte, Nat.reduceEqDiff, Nat.reduceAdd, Nat.reduceMul, Nat.reduceSub, Nat.reduceLeDiff, Nat.reduceLT, Int.reduceToNat, Int.reduceLE, Int.reduceLT, Int.reduceNeg, h_inRange, mInRange, drP_n, drP_c, logAt_n, logAt_c, disP_n, disP_c, notIn_n, notIn_c, h1, h3, h4, hh, e1, hr, e2]
          have hstep : htF t (k + 1) y = htF t k ((t.pages.getD y default).kids.getD 0 0) + 1 := by
            simp only [htF, pgAt_nat]
            rw [if_pos ⟨hr, hc⟩]
          refine ⟨⟨k, _, by omega, ?_, rfl, ?_⟩, by omega⟩
          · show A.i .i64 _ = A.i .i64 _
            congr 1
            omega
          · rw [hstep] at hx
            omega
      · have hr : inR x 0 ((t.pages.length : Int) - 1) = false := by simpa using hr
        simp (config := {maxSteps := 1000000}) (disch := omega) only [go_sem, ↓reduceIte, Nat.reduceEqDiff, Nat.reduceAdd, Nat.reduceMul, Nat.reduceSub, Nat.reduceLeDiff, Nat.reduceLT, Int.reduceToNat, Int.reduceLE, Int.reduceLT, Int.reduceNeg, h_inRange, mInRange, drP_n, drP_c, logAt_n, logAt_c, disP_n, disP_c, notIn_n, notIn_c, h1, h3, h4, hh, e1, hr]
        have : htF t (k + 1) x = 0 := by
          simp only [htF]
          rw [if_neg (fun h => by rw [hr] at h; cases h.1)]
        rw [this] at hx
        rw [← hx]
        show some (A.i .i64 _, _) = some (A.i .i64 _, _)
        congr 3
        omega
theorem fo_heightOf : FnOk Try.prog 100 := fnOk_of Try.func100 (by kernel_rfl)
theorem c_heightOf : Contract Try.prog 100 mHeight :=
  contract_of_does (DT := fun id => match id with  | _ => []) Try.checked.mixed tabOk (gok_model fo_inRange c_inRange gok_nil) Try.func100 rfl (by kernel_rfl) (does_heightOf rfl)


/-! ### The pages' ranges -/

noncomputable def mPageFits (D : Nat) : Model := M5 .ro .ro .ro .ro .ro true (cTr false) cI cI cI cI fun t x low hi d => gd (smT t.pages = true ∧ (0 ≤ x ∧ x < t.pages.length) ∧ (-9000000000000000000 ≤ low ∧ low ≤ 9000000000000000000) ∧ (-9000000000000000000 ≤ hi ∧ hi ≤ 9000000000000000000) ∧ 1 ≤ d ∧ d ≤ D ∧ D ≤ 100) (.b (pf t (d - 1).toNat x low hi), [])
theorem mPageFits_none : ∀ args r outs, (mPageFits 0).fn args = some (r, outs) → False := by
  intro args r outs h
  match args, h with
  | [x, y, z, u, v], h =>
    simp only [mPageFits, M5_fn, Option.bind_eq_some_iff] at h
    obtain ⟨_, _, _, _, _, _, _, _, _, _, h⟩ := h
    have := (gd_some h).1
    omega
theorem pf_bad {t : Tr} {x low hi : Int} (h : headOk t x low hi = false) (n : Nat) : pf t n x low hi = false := by
  cases n <;> simp [pf, h]
theorem headOk_f {t : Tr} {x low hi : Int} (h : ¬ (vk (pgAt t x).keys = true ∧ (pgAt t x).keys.length ≤ 4 ∧ allR (pgAt t x).keys low hi = true ∧ (x = t.root ∨ 2 ≤ (pgAt t x).keys.length))) : headOk t x low hi = false := by
  rw [Bool.eq_false_iff]
  exact fun h' => h (headOk_iff.1 h')
theorem pf_kid {t : Tr} {h : Nat} {x low hi : Int} {i : Nat} (hi' : i < (pgAt t x).kids.length) (hf : pf t h ((pgAt t x).kids.getD i 0) (lowK (pgAt t x).keys i low) (topK (pgAt t x).keys i hi) = false) : pf t (h + 1) x low hi = false := by
  rw [Bool.eq_false_iff]
  intro h'
  have := (pf_succ.1 h').2.2 i hi'
  rw [hf] at this
  cases this

theorem does_pageFits {G : Nat → Option FM} (D : Nat) (h_pageFits : G 101 = some (.model (mPageFits D))) (h_validKeys : G 118 = some (.model mValidKeys)) (h_allIn : G 150 = some (.model mAllIn)) : Does T G (fun id => match id with  | _ => []) Try.f101 (mPageFits (D + 1)) := by
  refine does5 (rs := [.tmp 10]) rfl rfl fun t x low hi d ro h => ?_
  obtain ⟨⟨hs, ⟨hx0, hx1⟩, hlo, hhi, hd1, hd2, hD⟩, rfl⟩ := gd_some h
  refine ⟨fun _ => ⟨rfl, rfl⟩, ?_⟩
  obtain ⟨y, rfl⟩ : ∃ y : Nat, x = y := ⟨x.toNat, by omega⟩
  obtain ⟨n, rfl⟩ : ∃ n : Nat, d = n + 1 := ⟨(d - 1).toNat, by omega⟩
  have hn : ((n : Int) + 1 - 1).toNat = n := by omega
  rw [hn]
  have hts := tr_small hs y
  have hpa := pgAt_nat t y
  generalize hP : t.pages.getD y default = P at *
  rw [hpa] at hts
  have hd : ¬ (vk P.keys = true ∧ P.keys.length ≤ 4 ∧ allR P.keys low hi = true ∧ ((y : Int) = t.root ∨ 2 ≤ P.keys.length)) → pf t n y low hi = false := fun h => pf_bad (headOk_f (by rw [hpa]; exact h)) n
  cases h1 : vk P.keys
  · simp (config := {maxSteps := 1000000}) (disch := omega) only [go_sem, ↓reduceIte, Nat.reduceEqDiff, Nat.reduceAdd, Nat.reduceMul, Nat.reduceSub, Nat.reduceLeDiff, Nat.reduceLT, Int.reduceToNat, Int.reduceLE, Int.reduceLT, Int.reduceNeg, h_pageFits, mPageFits, h_validKeys, mValidKeys, h_allIn, mAllIn, drP_n, drP_c, logAt_n, logAt_c, disP_n, disP_c, notIn_n, notIn_c, ePg, hP, h1]
    rw [hd (by rw [h1]; simp)]
  · by_cases h2 : P.keys.length ≤ 4
    · have e2 : decide ((4 : Int) < (P.keys.length : Int)) = false := decide_eq_false (by omega)
      cases h3 : allR P.keys low hi
      · simp (config := {maxSteps := 1000000}) (disch := omega) only [go_sem, ↓reduceIte, Nat.reduceEqDiff, Nat.reduceAdd, Nat.reduceMul, Nat.reduceSub, Nat.reduceLeDiff, Nat.reduceLT, Int.reduceToNat, Int.reduceLE, Int.reduceLT, Int.reduceNeg, h_pageFits, mPageFits, h_validKeys, mValidKeys, h_allIn, mAllIn, drP_n, drP_c, logAt_n, logAt_c, disP_n, disP_c, notIn_n, notIn_c, ePg, hP, h1, e2, h3]
        rw [hd (by rw [h3]; simp)]
      · by_cases h4 : (y : Int) = t.root ∨ 2 ≤ P.keys.length
        · have hh : headOk t y low hi = true := headOk_iff.2 (by rw [hpa]; exact ⟨h1, h2, h3, h4⟩)
          by_cases h5 : (y : Int) = t.root
          · have e4 : decide ((y : Int) = t.root) = true := decide_eq_true h5
            cases n with
            | zero =>
              have d1 : decide (((0 : Nat) : Int) + 1 = 1) = true := by decide
              have hpf : pf t 0 y low hi = leafOk P := by simp only [pf, hh, hpa, Bool.true_and]
              rw [hpf]
              unfold leafOk
              by_cases c1 : P.kids.length = 0
              · have d2 : decide ((P.kids.length : Int) = 0) = true := decide_eq_true (by omega)
                rw [decide_eq_true c1]
                by_cases c2 : P.vals.length = P.keys.length
                · have d3 : decide ((P.vals.length : Int) = (P.keys.length : Int)) = true := decide_eq_true (by omega)
                  rw [decide_eq_true c2]
                  simp (config := {maxSteps := 1000000}) (disch := omega) only [go_sem, ↓reduceIte, Nat.reduceEqDiff, Nat.reduceAdd, Nat.reduceMul, Nat.reduceSub, Nat.reduceLeDiff, Nat.reduceLT, Int.reduceToNat, Int.reduceLE, Int.reduceLT, Int.reduceNeg, h_pageFits, mPageFits, h_validKeys, mValidKeys, h_allIn, mAllIn, drP_n, drP_c, logAt_n, logAt_c, disP_n, disP_c, notIn_n, notIn_c, ePg, hP, h1, e2, h3, e4, d1, d2, d3]
                  try simp
                · have d3 : decide ((P.vals.length : Int) = (P.keys.length : Int)) = false := decide_eq_false (by omega)
                  rw [decide_eq_false c2]
                  simp (config := {maxSteps := 1000000}) (disch := omega) only [go_sem, ↓reduceIte, Nat.reduceEqDiff, Nat.reduceAdd, Nat.reduceMul, Nat.reduceSub, Nat.reduceLeDiff, Nat.reduceLT, Int.reduceToNat, Int.reduceLE, Int.reduceLT, Int.reduceNeg, h_pageFits, mPageFits, h_validKeys, mValidKeys, h_allIn, mAllIn, drP_n, drP_c, logAt_n, logAt_c, disP_n, disP_c, notIn_n, notIn_c, ePg, hP, h1, e2, h3, e4, d1, d2, d3]
                  try simp
              · have d2 : decide ((P.kids.length : Int) = 0) = false := decide_eq_false (by omega)
                rw [decide_eq_false c1]
                simp (config := {maxSteps := 1000000}) (disch := omega) only [go_sem, ↓reduceIte, Nat.reduceEqDiff, Nat.reduceAdd, Nat.reduceMul, Nat.reduceSub, Nat.reduceLeDiff, Nat.reduceLT, Int.reduceToNat, Int.reduceLE, Int.reduceLT, Int.reduceNeg, h_pageFits, mPageFits, h_validKeys, mValidKeys, h_allIn, mAllIn, drP_n, drP_c, logAt_n, logAt_c, disP_n, disP_c, notIn_n, notIn_c, ePg, hP, h1, e2, h3, e4, d1, d2]
                try simp
            | succ n =>
              have d1 : decide (((n + 1 : Nat) : Int) + 1 = 1) = false := decide_eq_false (by omega)
              have bad : innOk t P = false → pf t (n + 1) y low hi = false := fun h => by simp [pf, hpa, h]
              by_cases c1 : P.keys.length = 0
              · have d2 : decide ((P.keys.length : Int) = 0) = true := decide_eq_true (by omega)
                simp (config := {maxSteps := 1000000}) (disch := omega) only [go_sem, ↓reduceIte, Nat.reduceEqDiff, Nat.reduceAdd, Nat.reduceMul, Nat.reduceSub, Nat.reduceLeDiff, Nat.reduceLT, Int.reduceToNat, Int.reduceLE, Int.reduceLT, Int.reduceNeg, h_pageFits, mPageFits, h_validKeys, mValidKeys, h_allIn, mAllIn, drP_n, drP_c, logAt_n, logAt_c, disP_n, disP_c, notIn_n, notIn_c, ePg, hP, h1, e2, h3, e4, d1, d2]
                rw [bad (by unfold innOk; rw [decide_eq_false (p := P.keys.length ≠ 0) (by omega)]; simp)]
              · have d2 : decide ((P.keys.length : Int) = 0) = false := decide_eq_false (by omega)
                by_cases c2 : P.vals.length = 0
                · have d3 : decide ((P.vals.length : Int) = 0) = true := decide_eq_true (by omega)
                  by_cases c3 : P.kids.length = P.keys.length + 1
                  · have d4 : decide ((P.kids.length : Int) = (P.keys.length : Int) + 1) = true := decide_eq_true (by omega)
                    cases c4 : allR P.kids 0 ((t.pages.length : Int) - 1)
                    · simp (config := {maxSteps := 1000000}) (disch := omega) only [go_sem, ↓reduceIte, Nat.reduceEqDiff, Nat.reduceAdd, Nat.reduceMul, Nat.reduceSub, Nat.reduceLeDiff, Nat.reduceLT, Int.reduceToNat, Int.reduceLE, Int.reduceLT, Int.reduceNeg, h_pageFits, mPageFits, h_validKeys, mValidKeys, h_allIn, mAllIn, drP_n, drP_c, logAt_n, logAt_c, disP_n, disP_c, notIn_n, notIn_c, ePg, hP, h1, e2, h3, e4, d1, d2, d3, d4, c4]
                      rw [bad (by unfold innOk; rw [c4]; simp)]
                    · have hio : innOk t P = true := by
                        unfold innOk
                        rw [decide_eq_true (p := P.keys.length ≠ 0) (by omega), decide_eq_true c2, decide_eq_true c3, c4]
                        rfl
                      simp (config := {maxSteps := 1000000}) (disch := omega) only [go_sem, ↓reduceIte, Nat.reduceEqDiff, Nat.reduceAdd, Nat.reduceMul, Nat.reduceSub, Nat.reduceLeDiff, Nat.reduceLT, Int.reduceToNat, Int.reduceLE, Int.reduceLT, Int.reduceNeg, h_pageFits, mPageFits, h_validKeys, mValidKeys, h_allIn, mAllIn, drP_n, drP_c, logAt_n, logAt_c, disP_n, disP_c, notIn_n, notIn_c, ePg, hP, h1, e2, h3, e4, d1, d2, d3, d4, c4]
                      refine W_loop_i (fun s => s.sl 2 = eI low ∧ s.sl 3 = eI hi ∧ s.sl 4 = eI (((n + 1 : Nat) : Int) + 1) ∧ s.sl 5 = .ptr (3, 0) [] 0 0 ∧ s.hp (3, 0) = some ⟨2, 1, [eI t.root, ePgs false t.pages], fun _ => 0⟩ ∧ ∃ m, 3 < m ∧ m < s.n ∧ s.sl 11 = .ptr (m, 0) [] 0 0 ∧ (∃ v, s.hp (m, 0) = some ⟨3, 1, [eIs false P.keys, eIs false P.kids, eIs false P.vals], v⟩) ∧
                        ∃ k : Nat, k ≤ P.kids.length ∧ s.sl 12 = eI k ∧ ∀ i, i < k → pf t n (P.kids.getD i 0) (lowK P.keys i low) (topK P.keys i hi) = true) (fun s => P.kids.length - iN (s.sl 12)) ?_ ?_
                      · refine ⟨rfl, rfl, rfl, rfl, rfl, 10, by omega, by dsimp only [St.n]; omega, rfl, ⟨_, rfl⟩, 0, Nat.zero_le _, rfl, fun i hi => by omega⟩
                      · rintro sl hp q ⟨h2', h3', h4', h5', hh5, m, hm3, hm, h11, ⟨v, hh11⟩, k, hk, h12, hall⟩
                        dsimp only at h2' h3' h4' h5' hh5 h11 hh11 h12 hm
                        simp (config := {maxSteps := 1000000}) (disch := omega) only [go_sem, ↓reduceIte, Nat.reduceEqDiff, Nat.reduceAdd, Nat.reduceMul, Nat.reduceSub, Nat.reduceLeDiff, Nat.reduceLT, Int.reduceToNat, Int.reduceLE, Int.reduceLT, Int.reduceNeg, h_pageFits, mPageFits, h_validKeys, mValidKeys, h_allIn, mAllIn, drP_n, drP_c, logAt_n, logAt_c, disP_n, disP_c, notIn_n, notIn_c, h12, h11, hh11]
                        (first | refine runKS_split (fun g1 => ?_) (fun g1 => ?_) | refine cond_split (fun g1 => ?_) (fun g1 => ?_) | refine runK_split (fun g1 => ?_) (fun g1 => ?_))
                        · have g1' := of_decide_eq_true g1
                          have hkid := inR_iff.1 (List.all_eq_true.1 c4 _ (getD_mem (show k < P.kids.length by omega)))
                          have hnn : ((((n + 1 : Nat) : Int) + 1 - 1) - 1).toNat = n := by omega
                          have key : ∀ i, i < P.keys.length → 0 ≤ P.keys.getD i 0 ∧ P.keys.getD i 0 ≤ 99 := fun i hi => VK_bounds h1 hi
                          have bad2 : pf t n (P.kids.getD k 0) (lowK P.keys k low) (topK P.keys k hi) = false → pf t (n + 1) y low hi = false := fun h => pf_kid (i := k) (by rw [hpa]; omega) (by rw [hpa]; exact h)
                          have inv2 : pf t n (P.kids.getD k 0) (lowK P.keys k low) (topK P.keys k hi) = true → ∀ i, i < k + 1 → pf t n (P.kids.getD i 0) (lowK P.keys i low) (topK P.keys i hi) = true := fun h i hi => by
                            by_cases e : i = k
                            · rw [e]; exact h
                            · exact hall i (by omega)
                          unfold lowK topK at bad2 inv2
                          by_cases k0 : k = 0
                          · subst k0
                            have d5 : decide ((0 : Int) < ((0 : Nat) : Int)) = false := by decide
                            rw [if_neg (by omega)] at bad2 inv2
                            by_cases k1 : 0 < P.keys.length
                            · have d6 : decide (((0 : Nat) : Int) < (P.keys.length : Int)) = true := decide_eq_true (by omega)
                              rw [if_pos k1] at bad2 inv2
                              have kb2 := key 0 k1
                              cases hr : pf t n (P.kids.getD 0 0) low (P.keys.getD 0 0 - 1)
                              · simp (config := {maxSteps := 1000000}) (disch := omega) only [go_sem, ↓reduceIte, Nat.reduceEqDiff, Nat.reduceAdd, Nat.reduceMul, Nat.reduceSub, Nat.reduceLeDiff, Nat.reduceLT, Int.reduceToNat, Int.reduceLE, Int.reduceLT, Int.reduceNeg, h_pageFits, mPageFits, h_validKeys, mValidKeys, h_allIn, mAllIn, drP_n, drP_c, logAt_n, logAt_c, disP_n, disP_c, notIn_n, notIn_c, hs, h2', h3', h4', h5', hh5, h11, hh11, h12, g1, d5, d6, hnn, hr]
                                rw [bad2 hr]
                              · simp (config := {maxSteps := 1000000}) (disch := omega) only [go_sem, ↓reduceIte, Nat.reduceEqDiff, Nat.reduceAdd, Nat.reduceMul, Nat.reduceSub, Nat.reduceLeDiff, Nat.reduceLT, Int.reduceToNat, Int.reduceLE, Int.reduceLT, Int.reduceNeg, h_pageFits, mPageFits, h_validKeys, mValidKeys, h_allIn, mAllIn, drP_n, drP_c, logAt_n, logAt_c, disP_n, disP_c, notIn_n, notIn_c, hs, h2', h3', h4', h5', hh5, h11, hh11, h12, g1, d5, d6, hnn, hr]
                                exact ⟨⟨m, hm3, by omega, rfl, ⟨v, hh11⟩, 0 + 1, by omega, rfl, inv2 hr⟩, by omega⟩
                            · have d6 : decide (((0 : Nat) : Int) < (P.keys.length : Int)) = false := decide_eq_false (by omega)
                              rw [if_neg k1] at bad2 inv2
                              cases hr : pf t n (P.kids.getD 0 0) low hi
                              · simp (config := {maxSteps := 1000000}) (disch := omega) only [go_sem, ↓reduceIte, Nat.reduceEqDiff, Nat.reduceAdd, Nat.reduceMul, Nat.reduceSub, Nat.reduceLeDiff, Nat.reduceLT, Int.reduceToNat, Int.reduceLE, Int.reduceLT, Int.reduceNeg, h_pageFits, mPageFits, h_validKeys, mValidKeys, h_allIn, mAllIn, drP_n, drP_c, logAt_n, logAt_c, disP_n, disP_c, notIn_n, notIn_c, hs, h2', h3', h4', h5', hh5, h11, hh11, h12, g1, d5, d6, hnn, hr]
                                rw [bad2 hr]
                              · simp (config := {maxSteps := 1000000}) (disch := omega) only [go_sem, ↓reduceIte, Nat.reduceEqDiff, Nat.reduceAdd, Nat.reduceMul, Nat.reduceSub, Nat.reduceLeDiff, Nat.reduceLT, Int.reduceToNat, Int.reduceLE, Int.reduceLT, Int.reduceNeg, h_pageFits, mPageFits, h_validKeys, mValidKeys, h_allIn, mAllIn, drP_n, drP_c, logAt_n, logAt_c, disP_n, disP_c, notIn_n, notIn_c, hs, h2', h3', h4', h5', hh5, h11, hh11, h12, g1, d5, d6, hnn, hr]
                                exact absurd k1 (by omega)
                          · obtain ⟨j, rfl⟩ : ∃ j : Nat, k = j + 1 := ⟨k - 1, by omega⟩
                            have d5 : decide ((0 : Int) < ((j + 1 : Nat) : Int)) = true := decide_eq_true (by omega)
                            rw [if_pos (by omega), show j + 1 - 1 = j from by omega] at bad2 inv2
                            have kb := key j (by omega)
                            have ej : ((j + 1 : Nat) : Int) - 1 = (j : Int) := by omega
                            by_cases k1 : (j + 1) < P.keys.length
                            · have d6 : decide ((((j + 1) : Nat) : Int) < (P.keys.length : Int)) = true := decide_eq_true (by omega)
                              rw [if_pos k1] at bad2 inv2
                              have kb2 := key (j + 1) k1
                              cases hr : pf t n (P.kids.getD (j + 1) 0) (P.keys.getD j 0) (P.keys.getD (j + 1) 0 - 1)
                              · simp (config := {maxSteps := 1000000}) (disch := omega) only [go_sem, ↓reduceIte, Nat.reduceEqDiff, Nat.reduceAdd, Nat.reduceMul, Nat.reduceSub, Nat.reduceLeDiff, Nat.reduceLT, Int.reduceToNat, Int.reduceLE, Int.reduceLT, Int.reduceNeg, h_pageFits, mPageFits, h_validKeys, mValidKeys, h_allIn, mAllIn, drP_n, drP_c, logAt_n, logAt_c, disP_n, disP_c, notIn_n, notIn_c, hs, h2', h3', h4', h5', hh5, h11, hh11, h12, g1, d5, d6, hnn, hr, ej]
                                rw [bad2 hr]
                              · simp (config := {maxSteps := 1000000}) (disch := omega) only [go_sem, ↓reduceIte, Nat.reduceEqDiff, Nat.reduceAdd, Nat.reduceMul, Nat.reduceSub, Nat.reduceLeDiff, Nat.reduceLT, Int.reduceToNat, Int.reduceLE, Int.reduceLT, Int.reduceNeg, h_pageFits, mPageFits, h_validKeys, mValidKeys, h_allIn, mAllIn, drP_n, drP_c, logAt_n, logAt_c, disP_n, disP_c, notIn_n, notIn_c, hs, h2', h3', h4', h5', hh5, h11, hh11, h12, g1, d5, d6, hnn, hr, ej]
                                exact ⟨⟨m, hm3, by omega, rfl, ⟨v, hh11⟩, j + 1 + 1, by omega, rfl, inv2 hr⟩, by omega⟩
                            · have d6 : decide ((((j + 1) : Nat) : Int) < (P.keys.length : Int)) = false := decide_eq_false (by omega)
                              rw [if_neg k1] at bad2 inv2
                              cases hr : pf t n (P.kids.getD (j + 1) 0) (P.keys.getD j 0) hi
                              · simp (config := {maxSteps := 1000000}) (disch := omega) only [go_sem, ↓reduceIte, Nat.reduceEqDiff, Nat.reduceAdd, Nat.reduceMul, Nat.reduceSub, Nat.reduceLeDiff, Nat.reduceLT, Int.reduceToNat, Int.reduceLE, Int.reduceLT, Int.reduceNeg, h_pageFits, mPageFits, h_validKeys, mValidKeys, h_allIn, mAllIn, drP_n, drP_c, logAt_n, logAt_c, disP_n, disP_c, notIn_n, notIn_c, hs, h2', h3', h4', h5', hh5, h11, hh11, h12, g1, d5, d6, hnn, hr, ej]
                                rw [bad2 hr]
                              · simp (config := {maxSteps := 1000000}) (disch := omega) only [go_sem, ↓reduceIte, Nat.reduceEqDiff, Nat.reduceAdd, Nat.reduceMul, Nat.reduceSub, Nat.reduceLeDiff, Nat.reduceLT, Int.reduceToNat, Int.reduceLE, Int.reduceLT, Int.reduceNeg, h_pageFits, mPageFits, h_validKeys, mValidKeys, h_allIn, mAllIn, drP_n, drP_c, logAt_n, logAt_c, disP_n, disP_c, notIn_n, notIn_c, hs, h2', h3', h4', h5', hh5, h11, hh11, h12, g1, d5, d6, hnn, hr, ej]
                                exact ⟨⟨m, hm3, by omega, rfl, ⟨v, hh11⟩, j + 1 + 1, by omega, rfl, inv2 hr⟩, by omega⟩
                        · have g1' := of_decide_eq_false g1
                          obtain rfl : k = P.kids.length := by omega
                          simp (config := {maxSteps := 1000000}) (disch := omega) only [go_sem, ↓reduceIte, Nat.reduceEqDiff, Nat.reduceAdd, Nat.reduceMul, Nat.reduceSub, Nat.reduceLeDiff, Nat.reduceLT, Int.reduceToNat, Int.reduceLE, Int.reduceLT, Int.reduceNeg, h_pageFits, mPageFits, h_validKeys, mValidKeys, h_allIn, mAllIn, drP_n, drP_c, logAt_n, logAt_c, disP_n, disP_c, notIn_n, notIn_c, h12, h11, hh11, g1]
                          rw [show pf t (n + 1) y low hi = true from pf_succ.2 (by rw [hpa]; exact ⟨hh, hio, hall⟩)]
                  · have d4 : decide ((P.kids.length : Int) = (P.keys.length : Int) + 1) = false := decide_eq_false (by omega)
                    simp (config := {maxSteps := 1000000}) (disch := omega) only [go_sem, ↓reduceIte, Nat.reduceEqDiff, Nat.reduceAdd, Nat.reduceMul, Nat.reduceSub, Nat.reduceLeDiff, Nat.reduceLT, Int.reduceToNat, Int.reduceLE, Int.reduceLT, Int.reduceNeg, h_pageFits, mPageFits, h_validKeys, mValidKeys, h_allIn, mAllIn, drP_n, drP_c, logAt_n, logAt_c, disP_n, disP_c, notIn_n, notIn_c, ePg, hP, h1, e2, h3, e4, d1, d2, d3, d4]
                    rw [bad (by unfold innOk; rw [decide_eq_false c3]; simp)]
                · have d3 : decide ((P.vals.length : Int) = 0) = false := decide_eq_false (by omega)
                  simp (config := {maxSteps := 1000000}) (disch := omega) only [go_sem, ↓reduceIte, Nat.reduceEqDiff, Nat.reduceAdd, Nat.reduceMul, Nat.reduceSub, Nat.reduceLeDiff, Nat.reduceLT, Int.reduceToNat, Int.reduceLE, Int.reduceLT, Int.reduceNeg, h_pageFits, mPageFits, h_validKeys, mValidKeys, h_allIn, mAllIn, drP_n, drP_c, logAt_n, logAt_c, disP_n, disP_c, notIn_n, notIn_c, ePg, hP, h1, e2, h3, e4, d1, d2, d3]
                  rw [bad (by unfold innOk; rw [decide_eq_false c2]; simp)]
          · have e4 : decide ((y : Int) = t.root) = false := decide_eq_false h5
            have e5 : decide ((P.keys.length : Int) < 2) = false := decide_eq_false (by omega)
            cases n with
            | zero =>
              have d1 : decide (((0 : Nat) : Int) + 1 = 1) = true := by decide
              have hpf : pf t 0 y low hi = leafOk P := by simp only [pf, hh, hpa, Bool.true_and]
              rw [hpf]
              unfold leafOk
              by_cases c1 : P.kids.length = 0
              · have d2 : decide ((P.kids.length : Int) = 0) = true := decide_eq_true (by omega)
                rw [decide_eq_true c1]
                by_cases c2 : P.vals.length = P.keys.length
                · have d3 : decide ((P.vals.length : Int) = (P.keys.length : Int)) = true := decide_eq_true (by omega)
                  rw [decide_eq_true c2]
                  simp (config := {maxSteps := 1000000}) (disch := omega) only [go_sem, ↓reduceIte, Nat.reduceEqDiff, Nat.reduceAdd, Nat.reduceMul, Nat.reduceSub, Nat.reduceLeDiff, Nat.reduceLT, Int.reduceToNat, Int.reduceLE, Int.reduceLT, Int.reduceNeg, h_pageFits, mPageFits, h_validKeys, mValidKeys, h_allIn, mAllIn, drP_n, drP_c, logAt_n, logAt_c, disP_n, disP_c, notIn_n, notIn_c, ePg, hP, h1, e2, h3, e4, e5, d1, d2, d3]
                  try simp
                · have d3 : decide ((P.vals.length : Int) = (P.keys.length : Int)) = false := decide_eq_false (by omega)
                  rw [decide_eq_false c2]
                  simp (config := {maxSteps := 1000000}) (disch := omega) only [go_sem, ↓reduceIte, Nat.reduceEqDiff, Nat.reduceAdd, Nat.reduceMul, Nat.reduceSub, Nat.reduceLeDiff, Nat.reduceLT, Int.reduceToNat, Int.reduceLE, Int.reduceLT, Int.reduceNeg, h_pageFits, mPageFits, h_validKeys, mValidKeys, h_allIn, mAllIn, drP_n, drP_c, logAt_n, logAt_c, disP_n, disP_c, notIn_n, notIn_c, ePg, hP, h1, e2, h3, e4, e5, d1, d2, d3]
                  try simp
              · have d2 : decide ((P.kids.length : Int) = 0) = false := decide_eq_false (by omega)
                rw [decide_eq_false c1]
                simp (config := {maxSteps := 1000000}) (disch := omega) only [go_sem, ↓reduceIte, Nat.reduceEqDiff, Nat.reduceAdd, Nat.reduceMul, Nat.reduceSub, Nat.reduceLeDiff, Nat.reduceLT, Int.reduceToNat, Int.reduceLE, Int.reduceLT, Int.reduceNeg, h_pageFits, mPageFits, h_validKeys, mValidKeys, h_allIn, mAllIn, drP_n, drP_c, logAt_n, logAt_c, disP_n, disP_c, notIn_n, notIn_c, ePg, hP, h1, e2, h3, e4, e5, d1, d2]
                try simp
            | succ n =>
              have d1 : decide (((n + 1 : Nat) : Int) + 1 = 1) = false := decide_eq_false (by omega)
              have bad : innOk t P = false → pf t (n + 1) y low hi = false := fun h => by simp [pf, hpa, h]
              by_cases c1 : P.keys.length = 0
              · have d2 : decide ((P.keys.length : Int) = 0) = true := decide_eq_true (by omega)
                simp (config := {maxSteps := 1000000}) (disch := omega) only [go_sem, ↓reduceIte, Nat.reduceEqDiff, Nat.reduceAdd, Nat.reduceMul, Nat.reduceSub, Nat.reduceLeDiff, Nat.reduceLT, Int.reduceToNat, Int.reduceLE, Int.reduceLT, Int.reduceNeg, h_pageFits, mPageFits, h_validKeys, mValidKeys, h_allIn, mAllIn, drP_n, drP_c, logAt_n, logAt_c, disP_n, disP_c, notIn_n, notIn_c, ePg, hP, h1, e2, h3, e4, e5, d1, d2]
                rw [bad (by unfold innOk; rw [decide_eq_false (p := P.keys.length ≠ 0) (by omega)]; simp)]
              · have d2 : decide ((P.keys.length : Int) = 0) = false := decide_eq_false (by omega)
                by_cases c2 : P.vals.length = 0
                · have d3 : decide ((P.vals.length : Int) = 0) = true := decide_eq_true (by omega)
                  by_cases c3 : P.kids.length = P.keys.length + 1
                  · have d4 : decide ((P.kids.length : Int) = (P.keys.length : Int) + 1) = true := decide_eq_true (by omega)
                    cases c4 : allR P.kids 0 ((t.pages.length : Int) - 1)
                    · simp (config := {maxSteps := 1000000}) (disch := omega) only [go_sem, ↓reduceIte, Nat.reduceEqDiff, Nat.reduceAdd, Nat.reduceMul, Nat.reduceSub, Nat.reduceLeDiff, Nat.reduceLT, Int.reduceToNat, Int.reduceLE, Int.reduceLT, Int.reduceNeg, h_pageFits, mPageFits, h_validKeys, mValidKeys, h_allIn, mAllIn, drP_n, drP_c, logAt_n, logAt_c, disP_n, disP_c, notIn_n, notIn_c, ePg, hP, h1, e2, h3, e4, e5, d1, d2, d3, d4, c4]
                      rw [bad (by unfold innOk; rw [c4]; simp)]
                    · have hio : innOk t P = true := by
                        unfold innOk
                        rw [decide_eq_true (p := P.keys.length ≠ 0) (by omega), decide_eq_true c2, decide_eq_true c3, c4]
                        rfl
                      simp (config := {maxSteps := 1000000}) (disch := omega) only [go_sem, ↓reduceIte, Nat.reduceEqDiff, Nat.reduceAdd, Nat.reduceMul, Nat.reduceSub, Nat.reduceLeDiff, Nat.reduceLT, Int.reduceToNat, Int.reduceLE, Int.reduceLT, Int.reduceNeg, h_pageFits, mPageFits, h_validKeys, mValidKeys, h_allIn, mAllIn, drP_n, drP_c, logAt_n, logAt_c, disP_n, disP_c, notIn_n, notIn_c, ePg, hP, h1, e2, h3, e4, e5, d1, d2, d3, d4, c4]
                      refine W_loop_i (fun s => s.sl 2 = eI low ∧ s.sl 3 = eI hi ∧ s.sl 4 = eI (((n + 1 : Nat) : Int) + 1) ∧ s.sl 5 = .ptr (3, 0) [] 0 0 ∧ s.hp (3, 0) = some ⟨2, 1, [eI t.root, ePgs false t.pages], fun _ => 0⟩ ∧ ∃ m, 3 < m ∧ m < s.n ∧ s.sl 11 = .ptr (m, 0) [] 0 0 ∧ (∃ v, s.hp (m, 0) = some ⟨3, 1, [eIs false P.keys, eIs false P.kids, eIs false P.vals], v⟩) ∧
                        ∃ k : Nat, k ≤ P.kids.length ∧ s.sl 12 = eI k ∧ ∀ i, i < k → pf t n (P.kids.getD i 0) (lowK P.keys i low) (topK P.keys i hi) = true) (fun s => P.kids.length - iN (s.sl 12)) ?_ ?_
                      · refine ⟨rfl, rfl, rfl, rfl, rfl, 10, by omega, by dsimp only [St.n]; omega, rfl, ⟨_, rfl⟩, 0, Nat.zero_le _, rfl, fun i hi => by omega⟩
                      · rintro sl hp q ⟨h2', h3', h4', h5', hh5, m, hm3, hm, h11, ⟨v, hh11⟩, k, hk, h12, hall⟩
                        dsimp only at h2' h3' h4' h5' hh5 h11 hh11 h12 hm
                        simp (config := {maxSteps := 1000000}) (disch := omega) only [go_sem, ↓reduceIte, Nat.reduceEqDiff, Nat.reduceAdd, Nat.reduceMul, Nat.reduceSub, Nat.reduceLeDiff, Nat.reduceLT, Int.reduceToNat, Int.reduceLE, Int.reduceLT, Int.reduceNeg, h_pageFits, mPageFits, h_validKeys, mValidKeys, h_allIn, mAllIn, drP_n, drP_c, logAt_n, logAt_c, disP_n, disP_c, notIn_n, notIn_c, h12, h11, hh11]
                        (first | refine runKS_split (fun g1 => ?_) (fun g1 => ?_) | refine cond_split (fun g1 => ?_) (fun g1 => ?_) | refine runK_split (fun g1 => ?_) (fun g1 => ?_))
                        · have g1' := of_decide_eq_true g1
                          have hkid := inR_iff.1 (List.all_eq_true.1 c4 _ (getD_mem (show k < P.kids.length by omega)))
                          have hnn : ((((n + 1 : Nat) : Int) + 1 - 1) - 1).toNat = n := by omega
                          have key : ∀ i, i < P.keys.length → 0 ≤ P.keys.getD i 0 ∧ P.keys.getD i 0 ≤ 99 := fun i hi => VK_bounds h1 hi
                          have bad2 : pf t n (P.kids.getD k 0) (lowK P.keys k low) (topK P.keys k hi) = false → pf t (n + 1) y low hi = false := fun h => pf_kid (i := k) (by rw [hpa]; omega) (by rw [hpa]; exact h)
                          have inv2 : pf t n (P.kids.getD k 0) (lowK P.keys k low) (topK P.keys k hi) = true → ∀ i, i < k + 1 → pf t n (P.kids.getD i 0) (lowK P.keys i low) (topK P.keys i hi) = true := fun h i hi => by
                            by_cases e : i = k
                            · rw [e]; exact h
                            · exact hall i (by omega)
                          unfold lowK topK at bad2 inv2
                          by_cases k0 : k = 0
                          · subst k0
                            have d5 : decide ((0 : Int) < ((0 : Nat) : Int)) = false := by decide
                            rw [if_neg (by omega)] at bad2 inv2
                            by_cases k1 : 0 < P.keys.length
                            · have d6 : decide (((0 : Nat) : Int) < (P.keys.length : Int)) = true := decide_eq_true (by omega)
                              rw [if_pos k1] at bad2 inv2
                              have kb2 := key 0 k1
                              cases hr : pf t n (P.kids.getD 0 0) low (P.keys.getD 0 0 - 1)
                              · simp (config := {maxSteps := 1000000}) (disch := omega) only [go_sem, ↓reduceIte, Nat.reduceEqDiff, Nat.reduceAdd, Nat.reduceMul, Nat.reduceSub, Nat.reduceLeDiff, Nat.reduceLT, Int.reduceToNat, Int.reduceLE, Int.reduceLT, Int.reduceNeg, h_pageFits, mPageFits, h_validKeys, mValidKeys, h_allIn, mAllIn, drP_n, drP_c, logAt_n, logAt_c, disP_n, disP_c, notIn_n, notIn_c, hs, h2', h3', h4', h5', hh5, h11, hh11, h12, g1, d5, d6, hnn, hr]
                                rw [bad2 hr]
                              · simp (config := {maxSteps := 1000000}) (disch := omega) only [go_sem, ↓reduceIte, Nat.reduceEqDiff, Nat.reduceAdd, Nat.reduceMul, Nat.reduceSub, Nat.reduceLeDiff, Nat.reduceLT, Int.reduceToNat, Int.reduceLE, Int.reduceLT, Int.reduceNeg, h_pageFits, mPageFits, h_validKeys, mValidKeys, h_allIn, mAllIn, drP_n, drP_c, logAt_n, logAt_c, disP_n, disP_c, notIn_n, notIn_c, hs, h2', h3', h4', h5', hh5, h11, hh11, h12, g1, d5, d6, hnn, hr]
                                exact ⟨⟨m, hm3, by omega, rfl, ⟨v, hh11⟩, 0 + 1, by omega, rfl, inv2 hr⟩, by omega⟩
                            · have d6 : decide (((0 : Nat) : Int) < (P.keys.length : Int)) = false := decide_eq_false (by omega)
                              rw [if_neg k1] at bad2 inv2
                              cases hr : pf t n (P.kids.getD 0 0) low hi
                              · simp (config := {maxSteps := 1000000}) (disch := omega) only [go_sem, ↓reduceIte, Nat.reduceEqDiff, Nat.reduceAdd, Nat.reduceMul, Nat.reduceSub, Nat.reduceLeDiff, Nat.reduceLT, Int.reduceToNat, Int.reduceLE, Int.reduceLT, Int.reduceNeg, h_pageFits, mPageFits, h_validKeys, mValidKeys, h_allIn, mAllIn, drP_n, drP_c, logAt_n, logAt_c, disP_n, disP_c, notIn_n, notIn_c, hs, h2', h3', h4', h5', hh5, h11, hh11, h12, g1, d5, d6, hnn, hr]
                                rw [bad2 hr]
                              · simp (config := {maxSteps := 1000000}) (disch := omega) only [go_sem, ↓reduceIte, Nat.reduceEqDiff, Nat.reduceAdd, Nat.reduceMul, Nat.reduceSub, Nat.reduceLeDiff, Nat.reduceLT, Int.reduceToNat, Int.reduceLE, Int.reduceLT, Int.reduceNeg, h_pageFits, mPageFits, h_validKeys, mValidKeys, h_allIn, mAllIn, drP_n, drP_c, logAt_n, logAt_c, disP_n, disP_c, notIn_n, notIn_c, hs, h2', h3', h4', h5', hh5, h11, hh11, h12, g1, d5, d6, hnn, hr]
                                exact absurd k1 (by omega)
                          · obtain ⟨j, rfl⟩ : ∃ j : Nat, k = j + 1 := ⟨k - 1, by omega⟩
                            have d5 : decide ((0 : Int) < ((j + 1 : Nat) : Int)) = true := decide_eq_true (by omega)
                            rw [if_pos (by omega), show j + 1 - 1 = j from by omega] at bad2 inv2
                            have kb := key j (by omega)
                            have ej : ((j + 1 : Nat) : Int) - 1 = (j : Int) := by omega
                            by_cases k1 : (j + 1) < P.keys.length
                            · have d6 : decide ((((j + 1) : Nat) : Int) < (P.keys.length : Int)) = true := decide_eq_true (by omega)
                              rw [if_pos k1] at bad2 inv2
                              have kb2 := key (j + 1) k1
                              cases hr : pf t n (P.kids.getD (j + 1) 0) (P.keys.getD j 0) (P.keys.getD (j + 1) 0 - 1)
                              · simp (config := {maxSteps := 1000000}) (disch := omega) only [go_sem, ↓reduceIte, Nat.reduceEqDiff, Nat.reduceAdd, Nat.reduceMul, Nat.reduceSub, Nat.reduceLeDiff, Nat.reduceLT, Int.reduceToNat, Int.reduceLE, Int.reduceLT, Int.reduceNeg, h_pageFits, mPageFits, h_validKeys, mValidKeys, h_allIn, mAllIn, drP_n, drP_c, logAt_n, logAt_c, disP_n, disP_c, notIn_n, notIn_c, hs, h2', h3', h4', h5', hh5, h11, hh11, h12, g1, d5, d6, hnn, hr, ej]
                                rw [bad2 hr]
                              · simp (config := {maxSteps := 1000000}) (disch := omega) only [go_sem, ↓reduceIte, Nat.reduceEqDiff, Nat.reduceAdd, Nat.reduceMul, Nat.reduceSub, Nat.reduceLeDiff, Nat.reduceLT, Int.reduceToNat, Int.reduceLE, Int.reduceLT, Int.reduceNeg, h_pageFits, mPageFits, h_validKeys, mValidKeys, h_allIn, mAllIn, drP_n, drP_c, logAt_n, logAt_c, disP_n, disP_c, notIn_n, notIn_c, hs, h2', h3', h4', h5', hh5, h11, hh11, h12, g1, d5, d6, hnn, hr, ej]
                                exact ⟨⟨m, hm3, by omega, rfl, ⟨v, hh11⟩, j + 1 + 1, by omega, rfl, inv2 hr⟩, by omega⟩
                            · have d6 : decide ((((j + 1) : Nat) : Int) < (P.keys.length : Int)) = false := decide_eq_false (by omega)
                              rw [if_neg k1] at bad2 inv2
                              cases hr : pf t n (P.kids.getD (j + 1) 0) (P.keys.getD j 0) hi
                              · simp (config := {maxSteps := 1000000}) (disch := omega) only [go_sem, ↓reduceIte, Nat.reduceEqDiff, Nat.reduceAdd, Nat.reduceMul, Nat.reduceSub, Nat.reduceLeDiff, Nat.reduceLT, Int.reduceToNat, Int.reduceLE, Int.reduceLT, Int.reduceNeg, h_pageFits, mPageFits, h_validKeys, mValidKeys, h_allIn, mAllIn, drP_n, drP_c, logAt_n, logAt_c, disP_n, disP_c, notIn_n, notIn_c, hs, h2', h3', h4', h5', hh5, h11, hh11, h12, g1, d5, d6, hnn, hr, ej]
                                rw [bad2 hr]
                              · simp (config := {maxSteps := 1000000}) (disch := omega) only [go_sem, ↓reduceIte, Nat.reduceEqDiff, Nat.reduceAdd, Nat.reduceMul, Nat.reduceSub, Nat.reduceLeDiff, Nat.reduceLT, Int.reduceToNat, Int.reduceLE, Int.reduceLT, Int.reduceNeg, h_pageFits, mPageFits, h_validKeys, mValidKeys, h_allIn, mAllIn, drP_n, drP_c, logAt_n, logAt_c, disP_n, disP_c, notIn_n, notIn_c, hs, h2', h3', h4', h5', hh5, h11, hh11, h12, g1, d5, d6, hnn, hr, ej]
                                exact ⟨⟨m, hm3, by omega, rfl, ⟨v, hh11⟩, j + 1 + 1, by omega, rfl, inv2 hr⟩, by omega⟩
                        · have g1' := of_decide_eq_false g1
                          obtain rfl : k = P.kids.length := by omega
                          simp (config := {maxSteps := 1000000}) (disch := omega) only [go_sem, ↓reduceIte, Nat.reduceEqDiff, Nat.reduceAdd, Nat.reduceMul, Nat.reduceSub, Nat.reduceLeDiff, Nat.reduceLT, Int.reduceToNat, Int.reduceLE, Int.reduceLT, Int.reduceNeg, h_pageFits, mPageFits, h_validKeys, mValidKeys, h_allIn, mAllIn, drP_n, drP_c, logAt_n, logAt_c, disP_n, disP_c, notIn_n, notIn_c, h12, h11, hh11, g1]
                          rw [show pf t (n + 1) y low hi = true from pf_succ.2 (by rw [hpa]; exact ⟨hh, hio, hall⟩)]
                  · have d4 : decide ((P.kids.length : Int) = (P.keys.length : Int) + 1) = false := decide_eq_false (by omega)
                    simp (config := {maxSteps := 1000000}) (disch := omega) only [go_sem, ↓reduceIte, Nat.reduceEqDiff, Nat.reduceAdd, Nat.reduceMul, Nat.reduceSub, Nat.reduceLeDiff, Nat.reduceLT, Int.reduceToNat, Int.reduceLE, Int.reduceLT, Int.reduceNeg, h_pageFits, mPageFits, h_validKeys, mValidKeys, h_allIn, mAllIn, drP_n, drP_c, logAt_n, logAt_c, disP_n, disP_c, notIn_n, notIn_c, ePg, hP, h1, e2, h3, e4, e5, d1, d2, d3, d4]
                    rw [bad (by unfold innOk; rw [decide_eq_false c3]; simp)]
                · have d3 : decide ((P.vals.length : Int) = 0) = false := decide_eq_false (by omega)
                  simp (config := {maxSteps := 1000000}) (disch := omega) only [go_sem, ↓reduceIte, Nat.reduceEqDiff, Nat.reduceAdd, Nat.reduceMul, Nat.reduceSub, Nat.reduceLeDiff, Nat.reduceLT, Int.reduceToNat, Int.reduceLE, Int.reduceLT, Int.reduceNeg, h_pageFits, mPageFits, h_validKeys, mValidKeys, h_allIn, mAllIn, drP_n, drP_c, logAt_n, logAt_c, disP_n, disP_c, notIn_n, notIn_c, ePg, hP, h1, e2, h3, e4, e5, d1, d2, d3]
                  rw [bad (by unfold innOk; rw [decide_eq_false c2]; simp)]
        · have e4 : decide ((y : Int) = t.root) = false := decide_eq_false (fun h => h4 (.inl h))
          have e5 : decide ((P.keys.length : Int) < 2) = true := decide_eq_true (by omega)
          simp (config := {maxSteps := 1000000}) (disch := omega) only [go_sem, ↓reduceIte, Nat.reduceEqDiff, Nat.reduceAdd, Nat.reduceMul, Nat.reduceSub, Nat.reduceLeDiff, Nat.reduceLT, Int.reduceToNat, Int.reduceLE, Int.reduceLT, Int.reduceNeg, h_pageFits, mPageFits, h_validKeys, mValidKeys, h_allIn, mAllIn, drP_n, drP_c, logAt_n, logAt_c, disP_n, disP_c, notIn_n, notIn_c, ePg, hP, h1, e2, h3, e4, e5]
          rw [hd (fun h => h4 h.2.2.2)]
    · have e2 : decide ((4 : Int) < (P.keys.length : Int)) = true := decide_eq_true (by omega)
      simp (config := {maxSteps := 1000000}) (disch := omega) only [go_sem, ↓reduceIte, Nat.reduceEqDiff, Nat.reduceAdd, Nat.reduceMul, Nat.reduceSub, Nat.reduceLeDiff, Nat.reduceLT, Int.reduceToNat, Int.reduceLE, Int.reduceLT, Int.reduceNeg, h_pageFits, mPageFits, h_validKeys, mValidKeys, h_allIn, mAllIn, drP_n, drP_c, logAt_n, logAt_c, disP_n, disP_c, notIn_n, notIn_c, ePg, hP, h1, e2]
      rw [hd (fun h => h2 h.2.1)]
theorem fo_pageFits : FnOk Try.prog 101 := fnOk_of Try.func101 (by kernel_rfl)
theorem c_pageFits : ∀ D, Contract Try.prog 101 (mPageFits D)
  | 0 => contract_none mPageFits_none
  | D + 1 => contract_of_does (DT := fun id => match id with  | _ => []) Try.checked.mixed tabOk (gok_model fo_pageFits (c_pageFits D) (gok_model fo_validKeys c_validKeys (gok_model fo_allIn c_allIn gok_nil))) Try.func101 rfl (by kernel_rfl) (does_pageFits D rfl rfl rfl)

end Go.TM
