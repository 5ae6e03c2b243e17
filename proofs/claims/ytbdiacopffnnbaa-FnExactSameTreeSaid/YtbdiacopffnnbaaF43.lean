/- Contracts, 43: the leaves of a tree. -/
import Derived.Test.YtbdiacopffnnbaaF42
namespace Go.TM
open Go.Proofs
set_option linter.unusedVariables false
set_option linter.unusedSimpArgs false
set_option maxRecDepth 100000
set_option maxHeartbeats 4000000

theorem TV.pe {t : Tr} (h : TV t) : pfE t (htT t) t.root := ⟨h.root, 0, 99, h.pf⟩
noncomputable def mLeaves : Model := M1 .ro true (cTr false) fun t => gd (smT t.pages = true ∧ vTr t = true) (eIs true (lvF t (htT t) t.root), [])
theorem filt_succ {p : Int → Bool} {w : List Int} {k : Nat} (hk : k < w.length) : (w.take (k + 1)).filter p = (w.take k).filter p ++ (if p (w.getD k 0) = true then [w.getD k 0] else []) := by
  rw [List.take_succ_eq_append_getElem hk, List.filter_append]
  have e : w[k] = w.getD k 0 := by simp [hk]
  rw [e]
  congr 1
  simp only [List.filter_cons, List.filter_nil]

theorem does_leavesOf {G : Nat → Option FM} (h_walk : G 180 = some (.model (mWalk 3))) : Does T G (fun id => match id with  | _ => []) Try.f151 mLeaves := by
  refine does1 (rs := [.tmp 2]) rfl rfl fun t ro h => ?_
  obtain ⟨⟨hs, hv⟩, rfl⟩ := gd_some h
  refine ⟨fun _ => ⟨by simp [cleanA, cleanL, clean_ints], rfl⟩, ?_⟩
  clear h
  have tv := vTr_iff.1 hv
  have hss := smT_iff.1 hs
  have pe := tv.pe
  have h3a : htF t 3 t.root ≤ 2 := tv.ht
  have h3b : htF t 3 t.root < 3 := by omega
  have lw := tv.pd.wlen
  have wr := tv.pd.wrng
  rw [← lvF_eq tv.pd]
  simp (config := {maxSteps := 1000000}) (disch := omega) only [go_sem, ↓reduceIte, Nat.reduceEqDiff, Nat.reduceAdd, Nat.reduceMul, Nat.reduceSub, Nat.reduceLeDiff, Nat.reduceLT, Int.reduceToNat, Int.reduceLE, Int.reduceLT, Int.reduceNeg, h_walk, mWalk, drP_n, drP_c, logAt_n, logAt_c, disP_n, disP_c, notIn_n, notIn_c, hs, pe, h3a, h3b]
  generalize hw : wk t (htT t) t.root = w at *
  refine W_loop_i (fun s => s.sl 1 = .ptr (3, 0) [] 0 0 ∧ s.hp (3, 0) = some ⟨2, 1, [eI t.root, ePgs false t.pages], fun _ => 0⟩ ∧ ∃ k m l : Nat, k ≤ w.length ∧ s.sl 5 = eI k ∧ 3 < m ∧ m < s.n ∧ 3 < l ∧ l < s.n ∧ l ≠ m ∧ s.sl 4 = .ref (m, 0) [] 0 0 1 w.length ∧ s.hp (m, 0) = some ⟨1, w.length, w.map eI, fun _ => 0⟩ ∧
    s.sl 3 = .ref (l, 0) [] 0 0 1 ((w.take k).filter (isLf t)).length ∧ s.hp (l, 0) = some ⟨1, ((w.take k).filter (isLf t)).length, ((w.take k).filter (isLf t)).map eI, fun _ => 0⟩) (fun s => w.length - iN (s.sl 5)) ?_ ?_
  · exact ⟨rfl, rfl, 0, 10, 5, Nat.zero_le _, rfl, by omega, by dsimp only [St.n]; omega, by omega, by dsimp only [St.n]; omega, by omega, rfl, rfl, by rw [List.take_zero]; rfl, by rw [List.take_zero]; rfl⟩
  · rintro sl hp q ⟨h1, hh1, k, m, l, hk, h5, hm3, hm, hl3, hl, hlm, h4, hm4, h3, hl4⟩
    dsimp only at h1 hh1 h5 h4 hm4 h3 hl4 hm hl
    simp (config := {maxSteps := 1000000}) (disch := omega) only [go_sem, ↓reduceIte, Nat.reduceEqDiff, Nat.reduceAdd, Nat.reduceMul, Nat.reduceSub, Nat.reduceLeDiff, Nat.reduceLT, Int.reduceToNat, Int.reduceLE, Int.reduceLT, Int.reduceNeg, h_walk, mWalk, drP_n, drP_c, logAt_n, logAt_c, disP_n, disP_c, notIn_n, notIn_c, h1, hh1, h5, h4, hm4]
    (first | refine runKS_split (fun g1 => ?_) (fun g1 => ?_) | refine cond_split (fun g1 => ?_) (fun g1 => ?_) | refine runK_split (fun g1 => ?_) (fun g1 => ?_))
    · have g1' := of_decide_eq_true g1
      have hx := wr (w.getD k 0) (getD_mem (by omega))
      obtain ⟨y, hy⟩ : ∃ y : Nat, w.getD k 0 = y := ⟨(w.getD k 0).toNat, by omega⟩
      rw [hy] at hx
      have hts := tr_small hs y
      have hpa := pgAt_nat t y
      have fs := filt_succ (p := isLf t) (w := w) (k := k) (by omega)
      rw [hy] at fs
      generalize hP : t.pages.getD y default = P at *
      rw [hpa] at hts
      have hil : isLf t y = decide (P.kids.length = 0) := by unfold isLf; rw [hpa]
      have ll : ((w.take k).filter (isLf t)).length ≤ 16 := by
        have h1 := List.length_filter_le (isLf t) (w.take k)
        rw [List.length_take] at h1
        omega
      by_cases c0 : P.kids.length = 0
      · have e1 : decide ((P.kids.length : Int) = 0) = true := decide_eq_true (by omega)
        rw [hil, decide_eq_true c0, if_pos rfl] at fs
        have el : ((w.take (k + 1)).filter (isLf t)).length = ((w.take k).filter (isLf t)).length + 1 := by rw [fs, List.length_append]; rfl
        simp (config := {maxSteps := 1000000}) (disch := omega) only [go_sem, ↓reduceIte, Nat.reduceEqDiff, Nat.reduceAdd, Nat.reduceMul, Nat.reduceSub, Nat.reduceLeDiff, Nat.reduceLT, Int.reduceToNat, Int.reduceLE, Int.reduceLT, Int.reduceNeg, h_walk, mWalk, drP_n, drP_c, logAt_n, logAt_c, disP_n, disP_c, notIn_n, notIn_c, h1, hh1, h5, h4, hm4, h3, hl4, g1, hy, hP, ePg, e1, app_I']
        refine ⟨⟨k + 1, m, q + 4 + 11 + 6, by omega, rfl, hm3, by omega, by omega, by omega, by omega, rfl, ?_, ?_, ?_⟩, by omega⟩
        · simp (config := {maxSteps := 1000000}) (disch := omega) only [go_sem, ↓reduceIte, Nat.reduceEqDiff, Nat.reduceAdd, Nat.reduceMul, Nat.reduceSub, Nat.reduceLeDiff, Nat.reduceLT, Int.reduceToNat, Int.reduceLE, Int.reduceLT, Int.reduceNeg, h_walk, mWalk, drP_n, drP_c, logAt_n, logAt_c, disP_n, disP_c, notIn_n, notIn_c, hm4]
        · rw [el]
        · rw [upd_same, el, fs]
      · have e1 : decide ((P.kids.length : Int) = 0) = false := decide_eq_false (by omega)
        rw [hil, decide_eq_false c0, if_neg (by simp), List.append_nil] at fs
        simp (config := {maxSteps := 1000000}) (disch := omega) only [go_sem, ↓reduceIte, Nat.reduceEqDiff, Nat.reduceAdd, Nat.reduceMul, Nat.reduceSub, Nat.reduceLeDiff, Nat.reduceLT, Int.reduceToNat, Int.reduceLE, Int.reduceLT, Int.reduceNeg, h_walk, mWalk, drP_n, drP_c, logAt_n, logAt_c, disP_n, disP_c, notIn_n, notIn_c, h1, hh1, h5, h4, hm4, g1, hy, hP, ePg, e1]
        exact ⟨⟨k + 1, m, l, by omega, rfl, hm3, by omega, hl3, by omega, hlm, rfl, hm4, by rw [fs]; exact h3, by rw [fs]; exact hl4⟩, by omega⟩
    · have g1' := of_decide_eq_false g1
      obtain rfl : k = w.length := by omega
      rw [List.take_length] at h3 hl4
      simp (config := {maxSteps := 1000000}) (disch := omega) only [go_sem, ↓reduceIte, Nat.reduceEqDiff, Nat.reduceAdd, Nat.reduceMul, Nat.reduceSub, Nat.reduceLeDiff, Nat.reduceLT, Int.reduceToNat, Int.reduceLE, Int.reduceLT, Int.reduceNeg, h_walk, mWalk, drP_n, drP_c, logAt_n, logAt_c, disP_n, disP_c, notIn_n, notIn_c, h1, hh1, h5, h4, hm4, h3, hl4, g1]
      try rfl
theorem fo_leavesOf : FnOk Try.prog 151 := fnOk_of Try.func151 (by kernel_rfl)
theorem c_leavesOf : Contract Try.prog 151 mLeaves :=
  contract_of_does (DT := fun id => match id with  | _ => []) Try.checked.mixed tabOk (gok_model fo_walk (c_walk 3) gok_nil) Try.func151 rfl (by kernel_rfl) (does_leavesOf rfl)


theorem PD.ht {t : Tr} {h : Nat} {x : Int} (p : PD t h x) (h2 : h ≤ 2) : htF t 3 x = h := by
  obtain ⟨low, hi, _, hp⟩ := p.pf
  exact htF_pf hp p.rng (by omega)
noncomputable instance (t : Tr) (h : Nat) (x : Int) : Decidable (PD t h x) := Classical.propDecidable _
noncomputable def mLvBelow (D : Nat) : Model := M3 .ro .ro .mv true (cTr false) cI (cIs true) fun t x xs => gd (smT t.pages = true ∧ PD t (htF t 3 x) x ∧ htF t 3 x ≤ 2 ∧ htF t 3 x < D ∧ xs.length + (lvF t (htF t 3 x) x).length ≤ 1000) (eIs true (xs ++ lvF t (htF t 3 x) x), [])
theorem mLvBelow_none : ∀ args r outs, (mLvBelow 0).fn args = some (r, outs) → False := by
  intro args r outs h
  match args, h with
  | [x, y, z], h =>
    simp only [mLvBelow, M3_fn, Option.bind_eq_some_iff] at h
    obtain ⟨_, _, _, _, _, _, h⟩ := h
    have := (gd_some h).1
    omega

theorem does_leavesBelow {G : Nat → Option FM} (D : Nat) (h_leavesBelow : G 152 = some (.model (mLvBelow D)))  : Does T G (fun id => match id with  | _ => []) Try.f152 (mLvBelow (D + 1)) := by
  refine does3 (rs := [.tmp 6]) rfl rfl fun t x xs ro h => ?_
  obtain ⟨⟨hs, hp, h2, hD, hl⟩, rfl⟩ := gd_some h
  refine ⟨fun _ => ⟨by simp only [cleanA]; exact clean_ints _, rfl⟩, ?_⟩
  clear h
  obtain ⟨y, rfl⟩ : ∃ y : Nat, x = y := ⟨x.toNat, by have := hp.rng; omega⟩
  have hr := hp.rng
  have hts := tr_small hs y
  have hpa := pgAt_nat t y
  generalize hh : htF t 3 y = n at *
  generalize hP : t.pages.getD y default = P at *
  rw [hpa] at hts
  have ll := lvF_len hp
  cases n with
  | zero =>
    have hk := hp.leaf.kids
    rw [hpa] at hk
    have e1 : decide ((P.kids.length : Int) = 0) = true := decide_eq_true (by rw [hk]; rfl)
    simp (config := {maxSteps := 1000000}) (disch := omega) only [go_sem, ↓reduceIte, Nat.reduceEqDiff, Nat.reduceAdd, Nat.reduceMul, Nat.reduceSub, Nat.reduceLeDiff, Nat.reduceLT, Int.reduceToNat, Int.reduceLE, Int.reduceLT, Int.reduceNeg, h_leavesBelow, mLvBelow, drP_n, drP_c, logAt_n, logAt_c, disP_n, disP_c, notIn_n, notIn_c, ePg, hP, e1, app_I']
    rw [show xs.length + 1 = (xs ++ [(y : Int)]).length from by simp]
    rfl
  | succ n =>
    have hi := hp.inn
    have hk := hi.kids
    have hpd := hi.pd
    rw [hpa] at hk hpd
    have e1 : decide ((P.kids.length : Int) = 0) = false := decide_eq_false (by omega)
    simp (config := {maxSteps := 1000000}) (disch := omega) only [go_sem, ↓reduceIte, Nat.reduceEqDiff, Nat.reduceAdd, Nat.reduceMul, Nat.reduceSub, Nat.reduceLeDiff, Nat.reduceLT, Int.reduceToNat, Int.reduceLE, Int.reduceLT, Int.reduceNeg, h_leavesBelow, mLvBelow, drP_n, drP_c, logAt_n, logAt_c, disP_n, disP_c, notIn_n, notIn_c, ePg, hP, e1]
    refine W_loop_i (fun s => s.sl 3 = .ptr (3, 0) [] 0 0 ∧ s.hp (3, 0) = some ⟨2, 1, [eI t.root, ePgs false t.pages], fun _ => 0⟩ ∧ s.sl 26 = eIs false P.kids ∧ s.sl 27 = eI P.kids.length ∧ ∃ k l : Nat, k ≤ P.kids.length ∧ s.sl 28 = eI k ∧ l ≠ 3 ∧ l < s.n ∧ 3 < s.n ∧ s.sl 2 = .ref (l, 0) [] 0 0 1 (xs ++ (P.kids.take k).flatMap (lvF t n)).length ∧ ∃ v, s.hp (l, 0) = some ⟨1, (xs ++ (P.kids.take k).flatMap (lvF t n)).length, (xs ++ (P.kids.take k).flatMap (lvF t n)).map eI, v⟩) (fun s => P.kids.length - iN (s.sl 28)) ?_ ?_
    · refine ⟨rfl, rfl, rfl, rfl, 0, 1, Nat.zero_le _, rfl, by omega, by dsimp only [St.n]; omega, by dsimp only [St.n]; omega, ?_, ?_⟩
      · rw [List.take_zero, List.flatMap_nil, List.append_nil]; rfl
      · rw [List.take_zero, List.flatMap_nil, List.append_nil]; exact ⟨_, rfl⟩
    · rintro sl hp' q ⟨h3, hh3, h26, h27, k, l, hk', h28, hlb, hln, hq3, h2', v, hl2⟩
      dsimp only at h3 hh3 h26 h27 h28 h2' hl2 hln hq3
      simp (config := {maxSteps := 1000000}) (disch := omega) only [go_sem, ↓reduceIte, Nat.reduceEqDiff, Nat.reduceAdd, Nat.reduceMul, Nat.reduceSub, Nat.reduceLeDiff, Nat.reduceLT, Int.reduceToNat, Int.reduceLE, Int.reduceLT, Int.reduceNeg, h_leavesBelow, mLvBelow, drP_n, drP_c, logAt_n, logAt_c, disP_n, disP_c, notIn_n, notIn_c, h26, h27, h28]
      (first | refine runKS_split (fun g1 => ?_) (fun g1 => ?_) | refine cond_split (fun g1 => ?_) (fun g1 => ?_) | refine runK_split (fun g1 => ?_) (fun g1 => ?_))
      · have g1' := of_decide_eq_true g1
        have pk := hpd _ (getD_mem (show k < P.kids.length by omega))
        have hk1 := pk.ht (by omega)
        have es : xs ++ (P.kids.take (k + 1)).flatMap (lvF t n) = (xs ++ (P.kids.take k).flatMap (lvF t n)) ++ lvF t n (P.kids.getD k 0) := by
          rw [List.take_succ_eq_append_getElem (show k < P.kids.length by omega), List.flatMap_append, List.append_assoc]
          simp [show k < P.kids.length by omega]
        have ef : lvF t (n + 1) y = P.kids.flatMap (lvF t n) := by simp only [lvF, hpa]
        have et : (P.kids.flatMap (lvF t n)).length = ((P.kids.take (k + 1)).flatMap (lvF t n)).length + ((P.kids.drop (k + 1)).flatMap (lvF t n)).length := by
          rw [← List.length_append, ← List.flatMap_append, List.take_append_drop]
        have lk : (xs ++ (P.kids.take k).flatMap (lvF t n)).length + (lvF t n (P.kids.getD k 0)).length ≤ 1000 := by
          have h1 := congrArg List.length es
          rw [ef] at hl
          simp only [List.length_append] at h1 hl ⊢
          omega
        simp (config := {maxSteps := 1000000}) (disch := omega) only [go_sem, ↓reduceIte, Nat.reduceEqDiff, Nat.reduceAdd, Nat.reduceMul, Nat.reduceSub, Nat.reduceLeDiff, Nat.reduceLT, Int.reduceToNat, Int.reduceLE, Int.reduceLT, Int.reduceNeg, h_leavesBelow, mLvBelow, drP_n, drP_c, logAt_n, logAt_c, disP_n, disP_c, notIn_n, notIn_c, hs, h3, hh3, h26, h27, h28, h2', hl2, g1, pk, hk1]
        rw [List.append_assoc] at es
        refine ⟨⟨k + 1, q + 1 + 3 + 3, by omega, rfl, by omega, by omega, by rw [es], ?_⟩, by omega⟩
        rw [upd_same, es]
        exact ⟨_, rfl⟩
      · have g1' := of_decide_eq_false g1
        obtain rfl : k = P.kids.length := by omega
        rw [List.take_length] at h2' hl2
        simp (config := {maxSteps := 1000000}) (disch := omega) only [go_sem, ↓reduceIte, Nat.reduceEqDiff, Nat.reduceAdd, Nat.reduceMul, Nat.reduceSub, Nat.reduceLeDiff, Nat.reduceLT, Int.reduceToNat, Int.reduceLE, Int.reduceLT, Int.reduceNeg, h_leavesBelow, mLvBelow, drP_n, drP_c, logAt_n, logAt_c, disP_n, disP_c, notIn_n, notIn_c, h3, hh3, h26, h27, h28, h2', hl2, g1]
        rw [show lvF t (n + 1) y = P.kids.flatMap (lvF t n) from by simp only [lvF, hpa]]
        try rfl
theorem fo_leavesBelow : FnOk Try.prog 152 := fnOk_of Try.func152 (by kernel_rfl)
theorem c_leavesBelow : ∀ D, Contract Try.prog 152 (mLvBelow D)
  | 0 => contract_none mLvBelow_none
  | D + 1 => contract_of_does (DT := fun id => match id with  | _ => []) Try.checked.mixed tabOk (gok_model fo_leavesBelow (c_leavesBelow D) gok_nil) Try.func152 rfl (by kernel_rfl) (does_leavesBelow D rfl )

end Go.TM
