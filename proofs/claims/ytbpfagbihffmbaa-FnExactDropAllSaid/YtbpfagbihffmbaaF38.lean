/- Contracts, 38: all pages below a page; the reference's test of a tree. -/
import Derived.Test.YtbpfagbihffmbaaF36
namespace Go.TM
open Go.Proofs
set_option linter.unusedVariables false
set_option linter.unusedSimpArgs false
set_option maxRecDepth 100000
set_option maxHeartbeats 4000000

/-! ### All pages below a page -/

def pfE (t : Tr) (h : Nat) (x : Int) : Prop := (0 ≤ x ∧ x < t.pages.length) ∧ ∃ low hi, pf t h x low hi = true
noncomputable instance (t : Tr) (h : Nat) (x : Int) : Decidable (pfE t h x) := Classical.propDecidable _
theorem pfE.ht {t : Tr} {h : Nat} {x : Int} (p : pfE t h x) (h2 : h ≤ 2) : htF t 3 x = h := by
  obtain ⟨hr, low, hi, hp⟩ := p
  exact htF_pf hp hr (by omega)
theorem pfE.kids0 {t : Tr} {x : Int} (p : pfE t 0 x) : (pgAt t x).kids.length = 0 := by
  obtain ⟨hr, low, hi, hp⟩ := p
  exact (leafOk_iff.1 (pf_zero.1 hp).2).1
theorem pfE.kid {t : Tr} {h : Nat} {x : Int} (p : pfE t (h + 1) x) : (pgAt t x).kids.length ≤ 5 ∧ ∀ y ∈ (pgAt t x).kids, pfE t h y := by
  obtain ⟨hr, low, hi, hp⟩ := p
  obtain ⟨h1, h2, h3⟩ := pf_succ.1 hp
  obtain ⟨a1, a2, a3, a4⟩ := headOk_iff.1 h1
  obtain ⟨b1, b2, b3, b4⟩ := innOk_iff.1 h2
  refine ⟨by omega, fun y hy => ⟨b4 y hy, ?_⟩⟩
  obtain ⟨i, hi', rfl⟩ := mem_getD hy
  exact ⟨_, _, h3 i hi'⟩
def wkN : Nat → Nat
  | 0 => 1
  | h + 1 => 1 + 5 * wkN h
theorem flat_len {f : Int → List Int} {n : Nat} : ∀ xs : List Int, (∀ x ∈ xs, (f x).length ≤ n) → (xs.flatMap f).length ≤ xs.length * n
  | [], _ => by simp
  | x :: xs, h => by
    have h1 := h x (by simp)
    have h2 := flat_len xs fun y hy => h y (by simp [hy])
    rw [List.flatMap_cons, List.length_append, List.length_cons, Nat.add_one_mul]
    omega
theorem wk_len {t : Tr} : ∀ {h : Nat} {x : Int}, pfE t h x → (wk t h x).length ≤ wkN h
  | 0, x, _ => by simp [wk, wkN]
  | h + 1, x, p => by
    obtain ⟨h1, h2⟩ := p.kid
    have h3 := flat_len (f := wk t h) (pgAt t x).kids fun y hy => wk_len (h2 y hy)
    have h4 : (pgAt t x).kids.length * wkN h ≤ 5 * wkN h := Nat.mul_le_mul_right _ h1
    simp only [wk, wkN, List.length_cons]
    omega
theorem wkN_le : ∀ {h : Nat}, h ≤ 2 → wkN h ≤ 31
  | 0, _ => by decide
  | 1, _ => by decide
  | 2, _ => by decide
def wkS (t : Tr) (x : Int) (k : Nat) : Nat → List Int
  | 0 => [x]
  | h + 1 => x :: ((pgAt t x).kids.take k).flatMap (wk t h)
theorem wkS_zero (t : Tr) (x : Int) : ∀ h, wkS t x 0 h = [x]
  | 0 => rfl
  | h + 1 => by simp [wkS]
theorem wkS_all {t : Tr} {x : Int} : ∀ {h}, wkS t x (pgAt t x).kids.length h = wk t h x
  | 0 => rfl
  | h + 1 => by simp [wkS, wk]
theorem wkS_succ {t : Tr} {x : Int} {h k : Nat} (hk : k < (pgAt t x).kids.length) : wkS t x (k + 1) (h + 1) = wkS t x k (h + 1) ++ wk t h ((pgAt t x).kids.getD k 0) := by
  simp only [wkS]
  rw [List.take_succ_eq_append_getElem hk, List.flatMap_append, List.cons_append]
  simp [hk]
theorem wkS_len {t : Tr} {x : Int} {h k : Nat} (p : pfE t h x) (h2 : h ≤ 2) : (wkS t x k h).length ≤ 31 := by
  have := wkN_le h2
  cases h with
  | zero => simp [wkS]
  | succ h =>
    obtain ⟨h1, h3⟩ := p.kid
    have h4 := flat_len (f := wk t h) ((pgAt t x).kids.take k) fun y hy => wk_len (h3 y (List.mem_of_mem_take hy))
    have h5 : ((pgAt t x).kids.take k).length * wkN h ≤ 5 * wkN h := Nat.mul_le_mul_right _ (by rw [List.length_take]; omega)
    simp only [wkS, List.length_cons]
    simp only [wkN] at this
    omega

noncomputable def mWalk (D : Nat) : Model := M2 .ro .ro true (cTr false) cI fun t x => gd (smT t.pages = true ∧ pfE t (htF t 3 x) x ∧ htF t 3 x ≤ 2 ∧ htF t 3 x < D) (eIs true (wk t (htF t 3 x) x), [])
theorem mWalk_none : ∀ args r outs, (mWalk 0).fn args = some (r, outs) → False := by
  intro args r outs h
  match args, h with
  | [x, y], h =>
    simp only [mWalk, M2_fn, Option.bind_eq_some_iff] at h
    obtain ⟨_, _, _, _, h⟩ := h
    have := (gd_some h).1
    omega

theorem does_walk {G : Nat → Option FM} (D : Nat) (h_walk : G 102 = some (.model (mWalk D)))  : Does T G (fun id => match id with  | _ => []) Try.f102 (mWalk (D + 1)) := by
  refine does2 (rs := [.tmp 4]) rfl rfl fun t x ro h => ?_
  obtain ⟨⟨hs, hp, h2, hD⟩, rfl⟩ := gd_some h
  refine ⟨fun _ => ⟨by simp [cleanA, cleanL, clean_ints], rfl⟩, ?_⟩
  obtain ⟨y, rfl⟩ : ∃ y : Nat, x = y := ⟨x.toNat, by have := hp.1; omega⟩
  have hr := hp.1
  have hts := tr_small hs y
  have hpa := pgAt_nat t y
  generalize hh : htF t 3 y = n at *
  generalize hP : t.pages.getD y default = P at *
  rw [hpa] at hts
  simp (config := {maxSteps := 1000000}) (disch := omega) only [go_sem, ↓reduceIte, Nat.reduceEqDiff, Nat.reduceAdd, Nat.reduceMul, Nat.reduceSub, Nat.reduceLeDiff, Nat.reduceLT, Int.reduceToNat, Int.reduceLE, Int.reduceLT, Int.reduceNeg, h_walk, mWalk, drP_n, drP_c, logAt_n, logAt_c, disP_n, disP_c, notIn_n, notIn_c]
  refine W_loop_i (fun s => s.sl 1 = eI y ∧ s.sl 2 = .ptr (3, 0) [] 0 0 ∧ s.hp (3, 0) = some ⟨2, 1, [eI t.root, ePgs false t.pages], fun _ => 0⟩ ∧ ∃ k m : Nat, k ≤ P.kids.length ∧ s.sl 6 = eI k ∧ 3 < m ∧ m < s.n ∧ s.sl 5 = .ref (m, 0) [] 0 0 1 (wkS t y k n).length ∧ s.hp (m, 0) = some ⟨1, (wkS t y k n).length, (wkS t y k n).map eI, fun _ => 0⟩) (fun s => P.kids.length - iN (s.sl 6)) ?_ ?_
  · have e0 := wkS_zero t y n
    refine ⟨rfl, rfl, rfl, 0, 6, Nat.zero_le _, rfl, by omega, by dsimp only [St.n]; omega, ?_, ?_⟩
    · rw [e0]; rfl
    · rw [e0]; rfl
  · rintro sl hp' q ⟨h1, h2', hh2, k, m, hk, h6, hm3, hm, h5, hm5⟩
    dsimp only at h1 h2' hh2 h6 h5 hm5 hm
    simp (config := {maxSteps := 1000000}) (disch := omega) only [go_sem, ↓reduceIte, Nat.reduceEqDiff, Nat.reduceAdd, Nat.reduceMul, Nat.reduceSub, Nat.reduceLeDiff, Nat.reduceLT, Int.reduceToNat, Int.reduceLE, Int.reduceLT, Int.reduceNeg, h_walk, mWalk, drP_n, drP_c, logAt_n, logAt_c, disP_n, disP_c, notIn_n, notIn_c, ePg, hP, h1, h2', hh2, h6]
    (first | refine runKS_split (fun g1 => ?_) (fun g1 => ?_) | refine cond_split (fun g1 => ?_) (fun g1 => ?_) | refine runK_split (fun g1 => ?_) (fun g1 => ?_))
    · have g1' := of_decide_eq_true g1
      cases n with
      | zero =>
        have := hp.kids0
        rw [hpa] at this
        omega
      | succ n =>
        have hkd := hp.kid
        rw [hpa] at hkd
        have pk := hkd.2 _ (getD_mem (show k < P.kids.length by omega))
        have hk1 := pk.ht (by omega)
        have lk := wkS_len (k := k) hp h2
        have lw := wk_len pk
        have lw2 := wkN_le (show n ≤ 2 by omega)
        have es := wkS_succ (t := t) (x := y) (h := n) (k := k) (by rw [hpa]; omega)
        rw [hpa] at es
        simp (config := {maxSteps := 1000000}) (disch := omega) only [go_sem, ↓reduceIte, Nat.reduceEqDiff, Nat.reduceAdd, Nat.reduceMul, Nat.reduceSub, Nat.reduceLeDiff, Nat.reduceLT, Int.reduceToNat, Int.reduceLE, Int.reduceLT, Int.reduceNeg, h_walk, mWalk, drP_n, drP_c, logAt_n, logAt_c, disP_n, disP_c, notIn_n, notIn_c, hs, ePg, hP, h1, h2', hh2, h6, h5, hm5, g1, hk1, pk, app_I', es]
        have el : (wkS t y (k + 1) (n + 1)).length = (wkS t y k (n + 1)).length + (wk t n (P.kids.getD k 0)).length := by rw [es, List.length_append]
        have e1 : List.take (wkS t y k (n + 1)).length (List.map eI (wkS t y k (n + 1))) = List.map eI (wkS t y k (n + 1)) := List.take_of_length_le (by simp)
        have e2 : ∀ xs : List Int, List.map scal (List.map eI xs) = List.map eI xs := fun xs => by rw [List.map_map]; rfl
        refine ⟨⟨k + 1, q + 9 + 12, by omega, rfl, by omega, by omega, by rw [el], ?_⟩, by omega⟩
        rw [upd_same, el, e1, e2, es, List.map_append]
    · have g1' := of_decide_eq_false g1
      obtain rfl : k = P.kids.length := by omega
      simp (config := {maxSteps := 1000000}) (disch := omega) only [go_sem, ↓reduceIte, Nat.reduceEqDiff, Nat.reduceAdd, Nat.reduceMul, Nat.reduceSub, Nat.reduceLeDiff, Nat.reduceLT, Int.reduceToNat, Int.reduceLE, Int.reduceLT, Int.reduceNeg, h_walk, mWalk, drP_n, drP_c, logAt_n, logAt_c, disP_n, disP_c, notIn_n, notIn_c, ePg, hP, h1, h2', hh2, h6, h5, hm5, g1]
      rw [show wkS t y P.kids.length n = wk t n y from by rw [← hpa]; exact wkS_all]
theorem fo_walk : FnOk Try.prog 102 := fnOk_of Try.func102 (by kernel_rfl)
theorem c_walk : ∀ D, Contract Try.prog 102 (mWalk D)
  | 0 => contract_none mWalk_none
  | D + 1 => contract_of_does (DT := fun id => match id with  | _ => []) Try.checked.mixed tabOk (gok_model fo_walk (c_walk D) gok_nil) Try.func102 rfl (by kernel_rfl) (does_walk D rfl )


/-! ### The reference's test -/

theorem nodup_of_take {w : List Int} (k : Nat) (h : ¬ (w.take k).Nodup) : ¬ w.Nodup := fun h' => h (h'.sublist (List.take_sublist k w))

noncomputable def mValidTree : Model := M1 .ro true (cTr false) fun t => gd (smT t.pages = true) (.b (vTr t), [])

theorem does_validTree {G : Nat → Option FM} (h_inRange : G 83 = some (.model mInRange)) (h_heightOf : G 100 = some (.model mHeight)) (h_pageFits : G 101 = some (.model (mPageFits 3))) (h_walk : G 102 = some (.model (mWalk 3))) (h_isIn : G 103 = some (.model mIsIn)) : Does T G (fun id => match id with | 1 => [(25, 21), (25, 22), (25, 23)] | _ => []) Try.f57 mValidTree := by
  refine does1 (rs := [.tmp 2]) rfl rfl fun t ro h => ?_
  obtain ⟨hs, rfl⟩ := gd_some h
  refine ⟨fun _ => ⟨rfl, rfl⟩, ?_⟩
  have hss := smT_iff.1 hs
  cases h1 : inR t.pages.length 1 16
  · simp (config := {maxSteps := 1000000}) (disch := omega) only [go_sem, ↓reduceIte, Nat.reduceEqDiff, Nat.reduceAdd, Nat.reduceMul, Nat.reduceSub, Nat.reduceLeDiff, Nat.reduceLT, Int.reduceToNat, Int.reduceLE, Int.reduceLT, Int.reduceNeg, h_inRange, mInRange, h_heightOf, mHeight, h_pageFits, mPageFits, h_walk, mWalk, h_isIn, mIsIn, drP_n, drP_c, logAt_n, logAt_c, disP_n, disP_c, notIn_n, notIn_c, hs, h1]
    rw [show vTr t = false from by unfold vTr; rw [h1]; rfl]
  · cases h2 : inR t.root 0 ((t.pages.length : Int) - 1)
    · simp (config := {maxSteps := 1000000}) (disch := omega) only [go_sem, ↓reduceIte, Nat.reduceEqDiff, Nat.reduceAdd, Nat.reduceMul, Nat.reduceSub, Nat.reduceLeDiff, Nat.reduceLT, Int.reduceToNat, Int.reduceLE, Int.reduceLT, Int.reduceNeg, h_inRange, mInRange, h_heightOf, mHeight, h_pageFits, mPageFits, h_walk, mWalk, h_isIn, mIsIn, drP_n, drP_c, logAt_n, logAt_c, disP_n, disP_c, notIn_n, notIn_c, hs, h1, h2]
      rw [show vTr t = false from by unfold vTr; rw [h1, h2]; rfl]
    · have h2' := inR_iff.1 h2
      by_cases h3 : htT t ≤ 2
      · have d3 : decide ((3 : Int) < (htT t : Int) + 1) = false := decide_eq_false (by omega)
        have ehn : ((htT t : Int) + 1 - 1).toNat = htT t := by omega
        cases h4 : pf t (htT t) t.root 0 99
        · simp (config := {maxSteps := 1000000}) (disch := omega) only [go_sem, ↓reduceIte, Nat.reduceEqDiff, Nat.reduceAdd, Nat.reduceMul, Nat.reduceSub, Nat.reduceLeDiff, Nat.reduceLT, Int.reduceToNat, Int.reduceLE, Int.reduceLT, Int.reduceNeg, h_inRange, mInRange, h_heightOf, mHeight, h_pageFits, mPageFits, h_walk, mWalk, h_isIn, mIsIn, drP_n, drP_c, logAt_n, logAt_c, disP_n, disP_c, notIn_n, notIn_c, hs, h1, h2, d3, ehn, h4]
          rw [show vTr t = false from by unfold vTr; rw [h1, h2, h4]; simp]
        · have pe : pfE t (htT t) t.root := ⟨by omega, 0, 99, h4⟩
          have lw := wk_len pe
          have lw2 := wkN_le h3
          have h3a : htF t 3 t.root ≤ 2 := h3
          have h3b : htF t 3 t.root < 3 := by omega
          simp (config := {maxSteps := 1000000}) (disch := omega) only [go_sem, ↓reduceIte, Nat.reduceEqDiff, Nat.reduceAdd, Nat.reduceMul, Nat.reduceSub, Nat.reduceLeDiff, Nat.reduceLT, Int.reduceToNat, Int.reduceLE, Int.reduceLT, Int.reduceNeg, h_inRange, mInRange, h_heightOf, mHeight, h_pageFits, mPageFits, h_walk, mWalk, h_isIn, mIsIn, drP_n, drP_c, logAt_n, logAt_c, disP_n, disP_c, notIn_n, notIn_c, hs, h1, h2, d3, ehn, h4, pe, h3a, h3b]
          have ev : vTr t = (decide (wk t (htT t) t.root).Nodup && decide ((wk t (htT t) t.root).length = t.pages.length)) := by
            unfold vTr
            rw [h1, h2, h4, decide_eq_true h3]
            rfl
          rw [ev]
          generalize hw : wk t (htT t) t.root = w at *
          refine W_loop_i (fun s => s.sl 1 = .ptr (3, 0) [] 0 0 ∧ s.hp (3, 0) = some ⟨2, 1, [eI t.root, ePgs false t.pages], fun _ => 0⟩ ∧ ∃ k m : Nat, k ≤ w.length ∧ s.sl 4 = eI k ∧ 3 < m ∧ m < s.n ∧ s.sl 3 = .ref (m, 0) [] 0 0 1 w.length ∧ s.hp (m, 0) = some ⟨1, w.length, w.map eI, fun _ => 0⟩ ∧ (w.take k).Nodup) (fun s => w.length - iN (s.sl 4)) ?_ ?_
          · refine ⟨rfl, rfl, 0, 37, Nat.zero_le _, rfl, by omega, by dsimp only [St.n]; omega, ?_, ?_, by simp⟩
            · rfl
            · rfl
          · rintro sl hp' q ⟨h1', hh1, k, m, hk, h4', hm2, hm, h3', hm3, hnd⟩
            dsimp only at h1' hh1 h4' h3' hm3 hm
            simp (config := {maxSteps := 1000000}) (disch := omega) only [go_sem, ↓reduceIte, Nat.reduceEqDiff, Nat.reduceAdd, Nat.reduceMul, Nat.reduceSub, Nat.reduceLeDiff, Nat.reduceLT, Int.reduceToNat, Int.reduceLE, Int.reduceLT, Int.reduceNeg, h_inRange, mInRange, h_heightOf, mHeight, h_pageFits, mPageFits, h_walk, mWalk, h_isIn, mIsIn, drP_n, drP_c, logAt_n, logAt_c, disP_n, disP_c, notIn_n, notIn_c, h1', hh1, h4', h3', hm3]
            (first | refine runKS_split (fun g1 => ?_) (fun g1 => ?_) | refine cond_split (fun g1 => ?_) (fun g1 => ?_) | refine runK_split (fun g1 => ?_) (fun g1 => ?_))
            · have g1' := of_decide_eq_true g1
              by_cases k0 : k = 0
              · subst k0
                have e2 : decide (w.getD 0 0 ∈ w.take 0) = false := by simp
                have e3 : decide (w.getD 0 0 ∈ ([] : List Int)) = false := by simp
                simp (config := {maxSteps := 1000000}) (disch := omega) only [go_sem, ↓reduceIte, Nat.reduceEqDiff, Nat.reduceAdd, Nat.reduceMul, Nat.reduceSub, Nat.reduceLeDiff, Nat.reduceLT, Int.reduceToNat, Int.reduceLE, Int.reduceLT, Int.reduceNeg, h_inRange, mInRange, h_heightOf, mHeight, h_pageFits, mPageFits, h_walk, mWalk, h_isIn, mIsIn, drP_n, drP_c, logAt_n, logAt_c, disP_n, disP_c, notIn_n, notIn_c, h1', hh1, h4', h3', hm3, g1, e2, e3]
                exact ⟨⟨0 + 1, m, by omega, rfl, hm2, by omega, rfl, hm3, nodup_take' (by omega) hnd (by simp)⟩, by omega⟩
              · have hlk : (w.take k).length = k := by rw [List.length_take]; omega
                have hdec : (cIs false).d (A.s false 1 k (List.map eI (List.take k w))) = some (w.take k) := by
                  have h := (cIs false).de (w.take k)
                  rw [← h]
                  show _ = (cIs false).d (A.s false 1 (w.take k).length _)
                  rw [hlk]
                  rfl
                by_cases hm' : w.getD k 0 ∈ w.take k
                · have e2 : decide (w.getD k 0 ∈ w.take k) = true := decide_eq_true hm'
                  simp (config := {maxSteps := 1000000}) (disch := omega) only [go_sem, ↓reduceIte, Nat.reduceEqDiff, Nat.reduceAdd, Nat.reduceMul, Nat.reduceSub, Nat.reduceLeDiff, Nat.reduceLT, Int.reduceToNat, Int.reduceLE, Int.reduceLT, Int.reduceNeg, h_inRange, mInRange, h_heightOf, mHeight, h_pageFits, mPageFits, h_walk, mWalk, h_isIn, mIsIn, drP_n, drP_c, logAt_n, logAt_c, disP_n, disP_c, notIn_n, notIn_c, h1', hh1, h4', h3', hm3, g1, e2, k0, hdec, hlk, take_mapI', sub_zero, Nat.sub_zero]
                  rw [decide_eq_false (p := w.Nodup) (nodup_of_take (k + 1) fun h => (nodup_take (by omega) h).2 hm')]
                  rfl
                · have e2 : decide (w.getD k 0 ∈ w.take k) = false := decide_eq_false hm'
                  simp (config := {maxSteps := 1000000}) (disch := omega) only [go_sem, ↓reduceIte, Nat.reduceEqDiff, Nat.reduceAdd, Nat.reduceMul, Nat.reduceSub, Nat.reduceLeDiff, Nat.reduceLT, Int.reduceToNat, Int.reduceLE, Int.reduceLT, Int.reduceNeg, h_inRange, mInRange, h_heightOf, mHeight, h_pageFits, mPageFits, h_walk, mWalk, h_isIn, mIsIn, drP_n, drP_c, logAt_n, logAt_c, disP_n, disP_c, notIn_n, notIn_c, h1', hh1, h4', h3', hm3, g1, e2, k0, hdec, hlk, take_mapI', sub_zero, Nat.sub_zero]
                  exact ⟨⟨k + 1, m, by omega, rfl, hm2, by omega, rfl, hm3, nodup_take' (by omega) hnd hm'⟩, by omega⟩
            · have g1' := of_decide_eq_false g1
              obtain rfl : k = w.length := by omega
              rw [List.take_length] at hnd
              simp (config := {maxSteps := 1000000}) (disch := omega) only [go_sem, ↓reduceIte, Nat.reduceEqDiff, Nat.reduceAdd, Nat.reduceMul, Nat.reduceSub, Nat.reduceLeDiff, Nat.reduceLT, Int.reduceToNat, Int.reduceLE, Int.reduceLT, Int.reduceNeg, h_inRange, mInRange, h_heightOf, mHeight, h_pageFits, mPageFits, h_walk, mWalk, h_isIn, mIsIn, drP_n, drP_c, logAt_n, logAt_c, disP_n, disP_c, notIn_n, notIn_c, h1', hh1, h4', h3', hm3, g1]
              rw [decide_eq_true hnd, Bool.true_and, show decide ((w.length : Int) = (t.pages.length : Int)) = decide (w.length = t.pages.length) from decide_eq_decide.2 (by omega)]
      · have d3 : decide ((3 : Int) < (htT t : Int) + 1) = true := decide_eq_true (by omega)
        simp (config := {maxSteps := 1000000}) (disch := omega) only [go_sem, ↓reduceIte, Nat.reduceEqDiff, Nat.reduceAdd, Nat.reduceMul, Nat.reduceSub, Nat.reduceLeDiff, Nat.reduceLT, Int.reduceToNat, Int.reduceLE, Int.reduceLT, Int.reduceNeg, h_inRange, mInRange, h_heightOf, mHeight, h_pageFits, mPageFits, h_walk, mWalk, h_isIn, mIsIn, drP_n, drP_c, logAt_n, logAt_c, disP_n, disP_c, notIn_n, notIn_c, hs, h1, h2, d3]
        rw [show vTr t = false from by unfold vTr; rw [h1, h2, decide_eq_false h3]; rfl]
theorem fo_validTree : FnOk Try.prog 57 := fnOk_of Try.func57 (by kernel_rfl)
theorem c_validTree : Contract Try.prog 57 mValidTree :=
  contract_of_does (DT := fun id => match id with | 1 => [(25, 21), (25, 22), (25, 23)] | _ => []) Try.checked.mixed tabOk (gok_model fo_inRange c_inRange (gok_model fo_heightOf c_heightOf (gok_model fo_pageFits (c_pageFits 3) (gok_model fo_walk (c_walk 3) (gok_model fo_isIn c_isIn gok_nil))))) Try.func57 rfl (by kernel_rfl) (does_validTree rfl rfl rfl rfl rfl)


end Go.TM
