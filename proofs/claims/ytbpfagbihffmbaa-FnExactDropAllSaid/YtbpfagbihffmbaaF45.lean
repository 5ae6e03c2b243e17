/- Contracts, 43 45. -/
import Derived.Test.YtbpfagbihffmbaaF39
import Derived.Test.YtbpfagbihffmbaaTmD
/- Contracts, 43: the leaves of a tree. -/
namespace Go.TM
open Go.Proofs
set_option linter.unusedVariables false
set_option linter.unusedSimpArgs false
set_option maxRecDepth 100000
set_option maxHeartbeats 4000000

theorem TV.pe {t : Tr} (h : TV t) : pfE t (htT t) t.root := ⟨h.root, 0, 99, h.pf⟩
noncomputable def mLeaves : Model := M1 .ro true (cTr false) fun t => gd (smT t.pages = true ∧ vTr t = true) (eIs true (lvF t (htT t) t.root), [])
theorem filt_succ {p : Int → Bool} {w : List Int} {k : Nat} (hk : k < w.length) : (w.take (k + 1)).filter p = (w.take k).filter p ++ (if p (w.getD k 0) = true then [w.getD k 0] else []) := by
  rw [List.take_succ_eq_append_getElem hk, List.filter_append]
  have e : w[k] = w.getD k 0 := by simp [hk]
  rw [e]
  congr 1
  simp only [List.filter_cons, List.filter_nil]

theorem does_leavesOf {G : Nat → Option FM} (h_walk : G 102 = some (.model (mWalk 3))) : Does T G (fun id => match id with  | _ => []) Try.f151 mLeaves := by
  refine does1 (rs := [.tmp 2]) rfl rfl fun t ro h => ?_
  obtain ⟨⟨hs, hv⟩, rfl⟩ := gd_some h
  refine ⟨fun _ => ⟨by simp [cleanA, cleanL, clean_ints], rfl⟩, ?_⟩
  clear h
  have tv := vTr_iff.1 hv
  have hss := smT_iff.1 hs
  have pe := tv.pe
  have h3a : htF t 3 t.root ≤ 2 := tv.ht
  have h3b : htF t 3 t.root < 3 := by omega
  have lw := tv.pd.wlen
  have wr := tv.pd.wrng
  rw [← lvF_eq tv.pd]
  simp (config := {maxSteps := 1000000}) (disch := omega) only [go_sem, ↓reduceIte, Nat.reduceEqDiff, Nat.reduceAdd, Nat.reduceMul, Nat.reduceSub, Nat.reduceLeDiff, Nat.reduceLT, Int.reduceToNat, Int.reduceLE, Int.reduceLT, Int.reduceNeg, h_walk, mWalk, drP_n, drP_c, logAt_n, logAt_c, disP_n, disP_c, notIn_n, notIn_c, hs, pe, h3a, h3b]
  generalize hw : wk t (htT t) t.root = w at *
  refine W_loop_i (fun s => s.sl 1 = .ptr (3, 0) [] 0 0 ∧ s.hp (3, 0) = some ⟨2, 1, [eI t.root, ePgs false t.pages], fun _ => 0⟩ ∧ ∃ k m l : Nat, k ≤ w.length ∧ s.sl 5 = eI k ∧ 3 < m ∧ m < s.n ∧ 3 < l ∧ l < s.n ∧ l ≠ m ∧ s.sl 4 = .ref (m, 0) [] 0 0 1 w.length ∧ s.hp (m, 0) = some ⟨1, w.length, w.map eI, fun _ => 0⟩ ∧
    s.sl 3 = .ref (l, 0) [] 0 0 1 ((w.take k).filter (isLf t)).length ∧ s.hp (l, 0) = some ⟨1, ((w.take k).filter (isLf t)).length, ((w.take k).filter (isLf t)).map eI, fun _ => 0⟩) (fun s => w.length - iN (s.sl 5)) ?_ ?_
  · exact ⟨rfl, rfl, 0, 10, 5, Nat.zero_le _, rfl, by omega, by dsimp only [St.n]; omega, by omega, by dsimp only [St.n]; omega, by omega, rfl, rfl, by rw [List.take_zero]; rfl, by rw [List.take_zero]; rfl⟩
  · rintro sl hp q ⟨h1, hh1, k, m, l, hk, h5, hm3, hm, hl3, hl, hlm, h4, hm4, h3, hl4⟩
    dsimp only at h1 hh1 h5 h4 hm4 h3 hl4 hm hl
    simp (config := {maxSteps := 1000000}) (disch := omega) only [go_sem, ↓reduceIte, Nat.reduceEqDiff, Nat.reduceAdd, Nat.reduceMul, Nat.reduceSub, Nat.reduceLeDiff, Nat.reduceLT, Int.reduceToNat, Int.reduceLE, Int.reduceLT, Int.reduceNeg, h_walk, mWalk, drP_n, drP_c, logAt_n, logAt_c, disP_n, disP_c, notIn_n, notIn_c, h1, hh1, h5, h4, hm4]
    (first | refine runKS_split (fun g1 => ?_) (fun g1 => ?_) | refine cond_split (fun g1 => ?_) (fun g1 => ?_) | refine runK_split (fun g1 => ?_) (fun g1 => ?_))
    · have g1' := of_decide_eq_true g1
      have hx := wr (w.getD k 0) (getD_mem (by omega))
      obtain ⟨y, hy⟩ : ∃ y : Nat, w.getD k 0 = y := ⟨(w.getD k 0).toNat, by omega⟩
      rw [hy] at hx
      have hts := tr_small hs y
      have hpa := pgAt_nat t y
      have fs := filt_succ (p := isLf t) (w := w) (k := k) (by omega)
      rw [hy] at fs
      generalize hP : t.pages.getD y default = P at *
      rw [hpa] at hts
      have hil : isLf t y = decide (P.kids.length = 0) := by unfold isLf; rw [hpa]
      have ll : ((w.take k).filter (isLf t)).length ≤ 16 := by
        have h1 := List.length_filter_le (isLf t) (w.take k)
        rw [List.length_take] at h1
        omega
      by_cases c0 : P.kids.length = 0
      · have e1 : decide ((P.kids.length : Int) = 0) = true := decide_eq_true (by omega)
        rw [hil, decide_eq_true c0, if_pos rfl] at fs
        have el : ((w.take (k + 1)).filter (isLf t)).length = ((w.take k).filter (isLf t)).length + 1 := by rw [fs, List.length_append]; rfl
        simp (config := {maxSteps := 1000000}) (disch := omega) only [go_sem, ↓reduceIte, Nat.reduceEqDiff, Nat.reduceAdd, Nat.reduceMul, Nat.reduceSub, Nat.reduceLeDiff, Nat.reduceLT, Int.reduceToNat, Int.reduceLE, Int.reduceLT, Int.reduceNeg, h_walk, mWalk, drP_n, drP_c, logAt_n, logAt_c, disP_n, disP_c, notIn_n, notIn_c, h1, hh1, h5, h4, hm4, h3, hl4, g1, hy, hP, ePg, e1, app_I']
        refine ⟨⟨k + 1, m, q + 4 + 11 + 6, by omega, rfl, hm3, by omega, by omega, by omega, by omega, rfl, ?_, ?_, ?_⟩, by omega⟩
        · simp (config := {maxSteps := 1000000}) (disch := omega) only [go_sem, ↓reduceIte, Nat.reduceEqDiff, Nat.reduceAdd, Nat.reduceMul, Nat.reduceSub, Nat.reduceLeDiff, Nat.reduceLT, Int.reduceToNat, Int.reduceLE, Int.reduceLT, Int.reduceNeg, h_walk, mWalk, drP_n, drP_c, logAt_n, logAt_c, disP_n, disP_c, notIn_n, notIn_c, hm4]
        · rw [el]
        · rw [upd_same, el, fs]
      · have e1 : decide ((P.kids.length : Int) = 0) = false := decide_eq_false (by omega)
        rw [hil, decide_eq_false c0, if_neg (by simp), List.append_nil] at fs
        simp (config := {maxSteps := 1000000}) (disch := omega) only [go_sem, ↓reduceIte, Nat.reduceEqDiff, Nat.reduceAdd, Nat.reduceMul, Nat.reduceSub, Nat.reduceLeDiff, Nat.reduceLT, Int.reduceToNat, Int.reduceLE, Int.reduceLT, Int.reduceNeg, h_walk, mWalk, drP_n, drP_c, logAt_n, logAt_c, disP_n, disP_c, notIn_n, notIn_c, h1, hh1, h5, h4, hm4, g1, hy, hP, ePg, e1]
        exact ⟨⟨k + 1, m, l, by omega, rfl, hm3, by omega, hl3, by omega, hlm, rfl, hm4, by rw [fs]; exact h3, by rw [fs]; exact hl4⟩, by omega⟩
    · have g1' := of_decide_eq_false g1
      obtain rfl : k = w.length := by omega
      rw [List.take_length] at h3 hl4
      simp (config := {maxSteps := 1000000}) (disch := omega) only [go_sem, ↓reduceIte, Nat.reduceEqDiff, Nat.reduceAdd, Nat.reduceMul, Nat.reduceSub, Nat.reduceLeDiff, Nat.reduceLT, Int.reduceToNat, Int.reduceLE, Int.reduceLT, Int.reduceNeg, h_walk, mWalk, drP_n, drP_c, logAt_n, logAt_c, disP_n, disP_c, notIn_n, notIn_c, h1, hh1, h5, h4, hm4, h3, hl4, g1]
      try rfl
theorem fo_leavesOf : FnOk Try.prog 151 := fnOk_of Try.func151 (by kernel_rfl)
theorem c_leavesOf : Contract Try.prog 151 mLeaves :=
  contract_of_does (DT := fun id => match id with  | _ => []) Try.checked.mixed tabOk (gok_model fo_walk (c_walk 3) gok_nil) Try.func151 rfl (by kernel_rfl) (does_leavesOf rfl)


theorem PD.ht {t : Tr} {h : Nat} {x : Int} (p : PD t h x) (h2 : h ≤ 2) : htF t 3 x = h := by
  obtain ⟨low, hi, _, hp⟩ := p.pf
  exact htF_pf hp p.rng (by omega)
noncomputable instance (t : Tr) (h : Nat) (x : Int) : Decidable (PD t h x) := Classical.propDecidable _
end Go.TM
/- Contracts, 45: the pairs of a tree. -/
namespace Go.TM
open Go.Proofs
set_option linter.unusedVariables false
set_option linter.unusedSimpArgs false
set_option maxRecDepth 100000
set_option maxHeartbeats 4000000

def mRowOf : Model := M1 .ro true (cPage false) fun p => gd (p.keys.length ≤ p.vals.length ∧ p.vals.length ≤ 16777216) (eRow true (prP p), [])
theorem prP_get {p : Pg} {i : Nat} (h : i < p.keys.length) : (prP p).getD i default = (p.keys.getD i 0, p.vals.getD i 0) := by simp [prP, h]
theorem prP_take {p : Pg} {k : Nat} (h : k < p.keys.length) : (prP p).take (k + 1) = (prP p).take k ++ [(p.keys.getD k 0, p.vals.getD k 0)] := by
  rw [List.take_succ_eq_append_getElem (by rw [prP_len]; exact h)]
  simp [prP]
theorem rep_pr (n : Nat) : (List.replicate n [A.i .i64 0, A.i .i64 0]).flatten = (List.replicate n ((0, 0) : Pr)).flatMap ePr := by
  induction n with
  | zero => rfl
  | succ n ih => rw [List.replicate_succ, List.replicate_succ, List.flatten_cons, List.flatMap_cons, ih]; rfl

theorem scal_row (xs : List Pr) : (xs.flatMap ePr).map scal = xs.flatMap ePr := by
  induction xs with
  | nil => rfl
  | cons x xs ih => simp only [List.flatMap_cons, List.map_append, ih]; rfl
theorem scal_I (xs : List Int) : (xs.map eI).map scal = xs.map eI := by rw [List.map_map]; rfl
attribute [go_sem] scal_row scal_I

theorem does_rowOf {G : Nat → Option FM}  : Does T G (fun id => match id with  | _ => []) Try.f96 mRowOf := by
  refine does1 (rs := [.tmp 2]) rfl rfl fun p ro h => ?_
  obtain ⟨⟨hs, hs2⟩, rfl⟩ := gd_some h
  refine ⟨fun _ => ⟨by simp [cleanA, clean_row], rfl⟩, ?_⟩
  clear h
  have hpl := prP_len p
  simp (config := {maxSteps := 1000000}) (disch := omega) only [go_sem, ↓reduceIte, Nat.reduceEqDiff, Nat.reduceAdd, Nat.reduceMul, Nat.reduceSub, Nat.reduceLeDiff, Nat.reduceLT, Int.reduceToNat, Int.reduceLE, Int.reduceLT, Int.reduceNeg, drP_n, drP_c, logAt_n, logAt_c, disP_n, disP_c, notIn_n, notIn_c]
  refine W_loop_i (fun s => s.sl 1 = .ptr (3, 0) [] 0 0 ∧ s.hp (3, 0) = some ⟨3, 1, [eIs false p.keys, eIs false p.kids, eIs false p.vals], fun _ => 0⟩ ∧ ∃ k m : Nat, k ≤ p.keys.length ∧ s.sl 4 = eI k ∧ 3 < m ∧ m < s.n ∧ s.sl 3 = .ref (m, 0) [] 0 0 2 k ∧ s.hp (m, 0) = some ⟨2, k, ((prP p).take k).flatMap ePr, fun _ => 0⟩) (fun s => p.keys.length - iN (s.sl 4)) ?_ ?_
  · exact ⟨rfl, rfl, 0, 5, Nat.zero_le _, rfl, by omega, by dsimp only [St.n]; omega, rfl, rfl⟩
  · rintro sl hp q ⟨h1, hh1, k, m, hk, h4, hm3, hm, h3, hh3⟩
    dsimp only at h1 hh1 h4 h3 hh3 hm
    simp (config := {maxSteps := 1000000}) (disch := omega) only [go_sem, ↓reduceIte, Nat.reduceEqDiff, Nat.reduceAdd, Nat.reduceMul, Nat.reduceSub, Nat.reduceLeDiff, Nat.reduceLT, Int.reduceToNat, Int.reduceLE, Int.reduceLT, Int.reduceNeg, drP_n, drP_c, logAt_n, logAt_c, disP_n, disP_c, notIn_n, notIn_c, h1, hh1, h4, h3, hh3]
    (first | refine runKS_split (fun g1 => ?_) (fun g1 => ?_) | refine cond_split (fun g1 => ?_) (fun g1 => ?_) | refine runK_split (fun g1 => ?_) (fun g1 => ?_))
    · have g1' := of_decide_eq_true g1
      have hlt : ((prP p).take k).length = k := by rw [List.length_take]; omega
      have es := prP_take (p := p) (k := k) (by omega)
      simp (config := {maxSteps := 1000000}) (disch := omega) only [go_sem, ↓reduceIte, Nat.reduceEqDiff, Nat.reduceAdd, Nat.reduceMul, Nat.reduceSub, Nat.reduceLeDiff, Nat.reduceLT, Int.reduceToNat, Int.reduceLE, Int.reduceLT, Int.reduceNeg, drP_n, drP_c, logAt_n, logAt_c, disP_n, disP_c, notIn_n, notIn_c, h1, hh1, h4, h3, hh3, g1, app_P]
      refine ⟨⟨k + 1, _, by omega, rfl, ?_, ?_, rfl, ?_⟩, by omega⟩
      · omega
      · omega
      · rw [upd_same, es]
    · have g1' := of_decide_eq_false g1
      obtain rfl : k = p.keys.length := by omega
      simp (config := {maxSteps := 1000000}) (disch := omega) only [go_sem, ↓reduceIte, Nat.reduceEqDiff, Nat.reduceAdd, Nat.reduceMul, Nat.reduceSub, Nat.reduceLeDiff, Nat.reduceLT, Int.reduceToNat, Int.reduceLE, Int.reduceLT, Int.reduceNeg, drP_n, drP_c, logAt_n, logAt_c, disP_n, disP_c, notIn_n, notIn_c, h1, hh1, h4, h3, hh3, g1]
      rw [← hpl, List.take_length]
theorem fo_rowOf : FnOk Try.prog 96 := fnOk_of Try.func96 (by kernel_rfl)
theorem c_rowOf : Contract Try.prog 96 mRowOf :=
  contract_of_does (DT := fun id => match id with  | _ => []) Try.checked.mixed tabOk gok_nil Try.func96 rfl (by kernel_rfl) (does_rowOf )


theorem does_pairsOfLeaf {G : Nat → Option FM}  : Does T G (fun id => match id with  | _ => []) Try.f75 mRowOf := by
  refine does1 (rs := [.tmp 2]) rfl rfl fun p ro h => ?_
  obtain ⟨⟨hs, hs2⟩, rfl⟩ := gd_some h
  refine ⟨fun _ => ⟨by simp [cleanA, clean_row], rfl⟩, ?_⟩
  clear h
  have hpl := prP_len p
  simp (config := {maxSteps := 1000000}) (disch := omega) only [go_sem, ↓reduceIte, Nat.reduceEqDiff, Nat.reduceAdd, Nat.reduceMul, Nat.reduceSub, Nat.reduceLeDiff, Nat.reduceLT, Int.reduceToNat, Int.reduceLE, Int.reduceLT, Int.reduceNeg, drP_n, drP_c, logAt_n, logAt_c, disP_n, disP_c, notIn_n, notIn_c, rep_pr]
  refine W_loop_i (fun s => s.sl 1 = .ptr (3, 0) [] 0 0 ∧ s.hp (3, 0) = some ⟨3, 1, [eIs false p.keys, eIs false p.kids, eIs false p.vals], fun _ => 0⟩ ∧ s.sl 11 = eIs false p.keys ∧ s.sl 12 = eI p.keys.length ∧ ∃ m, 3 < m ∧ m < s.n ∧ s.sl 3 = .ref (m, 0) [] 0 0 2 p.keys.length ∧ ∃ k : Nat, k ≤ p.keys.length ∧ s.sl 13 = eI k ∧ ∃ (ys : List Pr) (v : Nat → Nat), ys.length = p.keys.length ∧ (∀ i, i < k → ys.getD i default = (p.keys.getD i 0, p.vals.getD i 0)) ∧ s.hp (m, 0) = some ⟨2, p.keys.length, ys.flatMap ePr, v⟩) (fun s => p.keys.length - iN (s.sl 13)) ?_ ?_
  · refine ⟨rfl, rfl, rfl, rfl, 8, by omega, by dsimp only [St.n]; omega, rfl, 0, Nat.zero_le _, rfl, List.replicate p.keys.length (0, 0), fun _ => 0, by simp, fun i hi => by omega, ?_⟩
    simp (config := {maxSteps := 1000000}) (disch := omega) only [go_sem, ↓reduceIte, Nat.reduceEqDiff, Nat.reduceAdd, Nat.reduceMul, Nat.reduceSub, Nat.reduceLeDiff, Nat.reduceLT, Int.reduceToNat, Int.reduceLE, Int.reduceLT, Int.reduceNeg, drP_n, drP_c, logAt_n, logAt_c, disP_n, disP_c, notIn_n, notIn_c]
  · rintro sl hp q ⟨h1, hh1, hA, hB, m, hm3, hm, h3, k, hk, hC, ys, v, hy, hall, hh⟩
    dsimp only at h1 hh1 hA hB h3 hC hh hm
    simp (config := {maxSteps := 1000000}) (disch := omega) only [go_sem, ↓reduceIte, Nat.reduceEqDiff, Nat.reduceAdd, Nat.reduceMul, Nat.reduceSub, Nat.reduceLeDiff, Nat.reduceLT, Int.reduceToNat, Int.reduceLE, Int.reduceLT, Int.reduceNeg, drP_n, drP_c, logAt_n, logAt_c, disP_n, disP_c, notIn_n, notIn_c, h1, hh1, hA, hB, h3, hC]
    (first | refine runKS_split (fun g1 => ?_) (fun g1 => ?_) | refine cond_split (fun g1 => ?_) (fun g1 => ?_) | refine runK_split (fun g1 => ?_) (fun g1 => ?_))
    · have g1' := of_decide_eq_true g1
      simp (config := {maxSteps := 1000000}) (disch := omega) only [go_sem, ↓reduceIte, Nat.reduceEqDiff, Nat.reduceAdd, Nat.reduceMul, Nat.reduceSub, Nat.reduceLeDiff, Nat.reduceLT, Int.reduceToNat, Int.reduceLE, Int.reduceLT, Int.reduceNeg, drP_n, drP_c, logAt_n, logAt_c, disP_n, disP_c, notIn_n, notIn_c, h1, hh1, hA, hB, h3, hC, g1, hh]
      exact ⟨⟨m, by omega, by omega, rfl, k + 1, by omega, rfl, ys.set k (p.keys.getD k 0, p.vals.getD k 0), _, by simp [hy], set_step (fun i => (p.keys.getD i 0, p.vals.getD i 0)) (by omega) hall, upd_same ..⟩, by omega⟩
    · have g1' := of_decide_eq_false g1
      obtain rfl : k = p.keys.length := by omega
      simp (config := {maxSteps := 1000000}) (disch := omega) only [go_sem, ↓reduceIte, Nat.reduceEqDiff, Nat.reduceAdd, Nat.reduceMul, Nat.reduceSub, Nat.reduceLeDiff, Nat.reduceLT, Int.reduceToNat, Int.reduceLE, Int.reduceLT, Int.reduceNeg, drP_n, drP_c, logAt_n, logAt_c, disP_n, disP_c, notIn_n, notIn_c, h1, hh1, hA, hB, h3, hC, g1, hh]
      rw [show ys = prP p from list_ext (d := default) (by rw [hy, hpl]) fun i hi => by
        rw [hall i (by omega), prP_get (by omega)]]
      exact row_eq hpl.symm
theorem fo_pairsOfLeaf : FnOk Try.prog 75 := fnOk_of Try.func75 (by kernel_rfl)
theorem c_pairsOfLeaf : Contract Try.prog 75 mRowOf :=
  contract_of_does (DT := fun id => match id with  | _ => []) Try.checked.mixed tabOk gok_nil Try.func75 rfl (by kernel_rfl) (does_pairsOfLeaf )


noncomputable def mPairs : Model := M1 .ro true (cTr false) fun t => gd (smT t.pages = true ∧ vTr t = true) (eRow true (prF t (htT t) t.root), [])
def prK (t : Tr) (xs : List Int) : List Pr := xs.flatMap fun y => prP (pgAt t y)
theorem prK_succ {t : Tr} {w : List Int} {k : Nat} (hk : k < w.length) : prK t (w.take (k + 1)) = prK t (w.take k) ++ prP (pgAt t (w.getD k 0)) := by
  rw [prK, List.take_succ_eq_append_getElem hk, List.flatMap_append]
  simp [prK, hk]
theorem prK_len {t : Tr} {xs : List Int} (h : ∀ y ∈ xs, (pgAt t y).keys.length ≤ 4) : (prK t xs).length ≤ xs.length * 4 := by
  unfold prK
  exact flat_le fun y hy => by rw [prP_len]; exact h y hy
theorem PLeaf.vlen {t : Tr} {x : Int} (h : PLeaf t x) : (pgAt t x).vals.length = (pgAt t x).keys.length := h.vals

theorem does_pairsOf {G : Nat → Option FM} (h_leavesOf : G 151 = some (.model mLeaves)) (h_rowOf : G 96 = some (.model mRowOf)) : Does T G (fun id => match id with  | _ => []) Try.f105 mPairs := by
  refine does1 (rs := [.tmp 2]) rfl rfl fun t ro h => ?_
  obtain ⟨⟨hs, hv⟩, rfl⟩ := gd_some h
  refine ⟨fun _ => ⟨by simp [cleanA, clean_row], rfl⟩, ?_⟩
  clear h
  have tv := vTr_iff.1 hv
  have lw := lvF_len tv.pd
  have lp := lvF_leaf tv.pd
  have lr := lvF_sub tv.pd
  have wr := tv.pd.wrng
  simp (config := {maxSteps := 1000000}) (disch := omega) only [go_sem, ↓reduceIte, Nat.reduceEqDiff, Nat.reduceAdd, Nat.reduceMul, Nat.reduceSub, Nat.reduceLeDiff, Nat.reduceLT, Int.reduceToNat, Int.reduceLE, Int.reduceLT, Int.reduceNeg, h_leavesOf, mLeaves, h_rowOf, mRowOf, drP_n, drP_c, logAt_n, logAt_c, disP_n, disP_c, notIn_n, notIn_c, hs, hv]
  show _
  rw [show prF t (htT t) t.root = prK t (lvF t (htT t) t.root) from rfl]
  generalize hw : lvF t (htT t) t.root = w at *
  refine W_loop_i (fun s => s.sl 1 = .ptr (3, 0) [] 0 0 ∧ s.hp (3, 0) = some ⟨2, 1, [eI t.root, ePgs false t.pages], fun _ => 0⟩ ∧ ∃ k m l : Nat, k ≤ w.length ∧ s.sl 5 = eI k ∧ 3 < m ∧ m < s.n ∧ 3 < l ∧ l < s.n ∧ l ≠ m ∧ s.sl 4 = .ref (m, 0) [] 0 0 1 w.length ∧ s.hp (m, 0) = some ⟨1, w.length, w.map eI, fun _ => 0⟩ ∧
    s.sl 3 = .ref (l, 0) [] 0 0 2 (prK t (w.take k)).length ∧ s.hp (l, 0) = some ⟨2, (prK t (w.take k)).length, (prK t (w.take k)).flatMap ePr, fun _ => 0⟩) (fun s => w.length - iN (s.sl 5)) ?_ ?_
  · exact ⟨rfl, rfl, 0, 8, 5, Nat.zero_le _, rfl, by omega, by dsimp only [St.n]; omega, by omega, by dsimp only [St.n]; omega, by omega, rfl, rfl, by rw [List.take_zero]; rfl, by rw [List.take_zero]; rfl⟩
  · rintro sl hp q ⟨h1, hh1, k, m, l, hk, h5, hm3, hm, hl3, hl, hlm, h4, hm4, h3, hl4⟩
    dsimp only at h1 hh1 h5 h4 hm4 h3 hl4 hm hl
    simp (config := {maxSteps := 1000000}) (disch := omega) only [go_sem, ↓reduceIte, Nat.reduceEqDiff, Nat.reduceAdd, Nat.reduceMul, Nat.reduceSub, Nat.reduceLeDiff, Nat.reduceLT, Int.reduceToNat, Int.reduceLE, Int.reduceLT, Int.reduceNeg, h_leavesOf, mLeaves, h_rowOf, mRowOf, drP_n, drP_c, logAt_n, logAt_c, disP_n, disP_c, notIn_n, notIn_c, h1, hh1, h5, h4, hm4]
    (first | refine runKS_split (fun g1 => ?_) (fun g1 => ?_) | refine cond_split (fun g1 => ?_) (fun g1 => ?_) | refine runK_split (fun g1 => ?_) (fun g1 => ?_))
    · have g1' := of_decide_eq_true g1
      have hmem := getD_mem (show k < w.length by omega)
      have hx := wr _ (lr _ hmem).1
      have hpl := (lp _ hmem).leaf
      have es := prK_succ (t := t) (w := w) (k := k) (by omega)
      have hkl : (prK t (w.take k)).length ≤ 64 := by
        have h1 := prK_len (t := t) (xs := w.take k) fun y hy => (lp y (List.mem_of_mem_take hy)).leaf.len
        rw [List.length_take] at h1
        omega
      obtain ⟨y, hy⟩ : ∃ y : Nat, w.getD k 0 = y := ⟨(w.getD k 0).toNat, by omega⟩
      rw [hy] at hx hpl es
      have hts := tr_small hs y
      have hpa := pgAt_nat t y
      have hvl := hpl.vlen
      have hp4 := hpl.len
      rw [hpa] at hts hvl hp4 es
      generalize hP : t.pages.getD y default = P at *
      have hpl' := prP_len P
      simp (config := {maxSteps := 1000000}) (disch := omega) only [go_sem, ↓reduceIte, Nat.reduceEqDiff, Nat.reduceAdd, Nat.reduceMul, Nat.reduceSub, Nat.reduceLeDiff, Nat.reduceLT, Int.reduceToNat, Int.reduceLE, Int.reduceLT, Int.reduceNeg, h_leavesOf, mLeaves, h_rowOf, mRowOf, drP_n, drP_c, logAt_n, logAt_c, disP_n, disP_c, notIn_n, notIn_c, h1, hh1, h5, h4, hm4, h3, hl4, g1, hy, hP, ePg, app_PP]
      refine ⟨⟨k + 1, m, q + 4 + 10, by omega, rfl, hm3, by omega, by omega, by omega, by omega, rfl, ?_, ?_, ?_⟩, by omega⟩
      · simp (config := {maxSteps := 1000000}) (disch := omega) only [go_sem, ↓reduceIte, Nat.reduceEqDiff, Nat.reduceAdd, Nat.reduceMul, Nat.reduceSub, Nat.reduceLeDiff, Nat.reduceLT, Int.reduceToNat, Int.reduceLE, Int.reduceLT, Int.reduceNeg, h_leavesOf, mLeaves, h_rowOf, mRowOf, drP_n, drP_c, logAt_n, logAt_c, disP_n, disP_c, notIn_n, notIn_c, hm4]
      · rw [es, List.length_append]
      · rw [upd_same, es, List.length_append]
    · have g1' := of_decide_eq_false g1
      obtain rfl : k = w.length := by omega
      rw [List.take_length] at h3 hl4
      simp (config := {maxSteps := 1000000}) (disch := omega) only [go_sem, ↓reduceIte, Nat.reduceEqDiff, Nat.reduceAdd, Nat.reduceMul, Nat.reduceSub, Nat.reduceLeDiff, Nat.reduceLT, Int.reduceToNat, Int.reduceLE, Int.reduceLT, Int.reduceNeg, h_leavesOf, mLeaves, h_rowOf, mRowOf, drP_n, drP_c, logAt_n, logAt_c, disP_n, disP_c, notIn_n, notIn_c, h1, hh1, h5, h4, hm4, h3, hl4, g1]
      try rfl
theorem fo_pairsOf : FnOk Try.prog 105 := fnOk_of Try.func105 (by kernel_rfl)
theorem c_pairsOf : Contract Try.prog 105 mPairs :=
  contract_of_does (DT := fun id => match id with  | _ => []) Try.checked.mixed tabOk (gok_model fo_leavesOf c_leavesOf (gok_model fo_rowOf c_rowOf gok_nil)) Try.func105 rfl (by kernel_rfl) (does_pairsOf rfl rfl)


end Go.TM
