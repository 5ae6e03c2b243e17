/- Contracts, 47: the path to a key. -/
import Derived.Test.YtbpfagbihffmbaaF45
namespace Go.TM
open Go.Proofs
set_option linter.unusedVariables false
set_option linter.unusedSimpArgs false
set_option maxRecDepth 100000
set_option maxHeartbeats 4000000

theorem path_nx {t : Tr} {key : Int} : ∀ (i h : Nat) (x : Int), i < h → (pathF t key h x).getD (i + 1) 0 = (pgAt t ((pathF t key h x).getD i 0)).kids.getD (cntU (pgAt t ((pathF t key h x).getD i 0)).keys key) 0
  | 0, h + 1, x, _ => by
    simp only [pathF, List.getD_cons_succ, List.getD_cons_zero]
    cases h <;> rfl
  | i + 1, h + 1, x, hi => by
    simp only [pathF, List.getD_cons_succ]
    exact path_nx i h _ (by omega)
theorem take_app1 {w : List Int} {k : Nat} (hk : k < w.length) : w.take (k + 1) = w.take k ++ [w.getD k 0] := by
  rw [List.take_succ_eq_append_getElem hk]
  simp [hk]

theorem ints1_eq {n : Nat} {xs : List Int} (h : n = xs.length) : some (A.s true 1 n (xs.map eI), ([] : List (List A))) = some (eIs true xs, []) := by subst h; rfl
def lN : A → Nat
  | .ref _ _ _ _ _ l => l
  | _ => 0
noncomputable def mPath : Model := M2 .ro .ro true (cTr false) cI fun t key => gd (smT t.pages = true ∧ vTr t = true) (eIs true (pathF t key (htT t) t.root), [])
noncomputable def ptV (t : Tr) (key : Int) : List Int := if vTr t = true then pathF t key (htT t) t.root else []
theorem ptV_f {t : Tr} {key : Int} (h : vTr t = false) : ptV t key = [] := if_neg (by rw [h]; simp)
theorem ptV_t {t : Tr} {key : Int} (h : vTr t = true) : ptV t key = pathF t key (htT t) t.root := if_pos h
noncomputable def mPathTo : Model := M2 .ro .ro true (cTr false) cI fun t key => gd (smT t.pages = true) (eIs true (ptV t key), [])

theorem does_pathTo {G : Nat → Option FM} (h_upTo : G 138 = some (.model mUpTo)) : Does T G (fun id => match id with | 3 => [(10, 0), (10, 1), (10, 6), (10, 7), (10, 8), (10, 9)] | 4 => [(6, 1), (6, 2)] | _ => []) Try.f87 mPath := by
  refine does2 (rs := [.tmp 4]) rfl rfl fun t key ro h => ?_
  obtain ⟨⟨hs, hv⟩, rfl⟩ := gd_some h
  refine ⟨fun _ => ⟨by simp only [cleanA]; exact clean_ints _, rfl⟩, ?_⟩
  clear h
  have tv := vTr_iff.1 hv
  have pl := pathF_len t key (htT t) t.root
  have h2 := tv.ht
  have pp : ∀ i, i ≤ htT t → PD t (htT t - i) ((pathF t key (htT t) t.root).getD i 0) := fun i hi => pathF_pd tv.pd i hi
  have nx : ∀ i, i < htT t → (pathF t key (htT t) t.root).getD (i + 1) 0 = (pgAt t ((pathF t key (htT t) t.root).getD i 0)).kids.getD (cntU (pgAt t ((pathF t key (htT t) t.root).getD i 0)).keys key) 0 := fun i hi => path_nx i _ _ hi
  have p0 : (pathF t key (htT t) t.root).take 1 = [t.root] := by cases htT t <;> rfl
  generalize hw : pathF t key (htT t) t.root = w at *
  have kb : ∀ i, i ≤ htT t → 0 ≤ w.getD i 0 ∧ w.getD i 0 < t.pages.length := fun i hi => (pp i hi).rng
  simp (config := {maxSteps := 1000000}) (disch := omega) only [go_sem, ↓reduceIte, Nat.reduceEqDiff, Nat.reduceAdd, Nat.reduceMul, Nat.reduceSub, Nat.reduceLeDiff, Nat.reduceLT, Int.reduceToNat, Int.reduceLE, Int.reduceLT, Int.reduceNeg, h_upTo, mUpTo, drP_n, drP_c, logAt_n, logAt_c, disP_n, disP_c, notIn_n, notIn_c]
  refine W_loop_i (fun s => s.sl 1 = eI key ∧ s.sl 2 = .ptr (3, 0) [] 0 0 ∧ s.hp (3, 0) = some ⟨2, 1, [eI t.root, ePgs false t.pages], fun _ => 0⟩ ∧ ∃ k m : Nat, k ≤ htT t ∧ 3 < m ∧ m < s.n ∧ s.sl 5 = .ref (m, 0) [] 0 0 1 (k + 1) ∧ s.hp (m, 0) = some ⟨1, k + 1, (w.take (k + 1)).map eI, fun _ => 0⟩) (fun s => htT t + 1 - lN (s.sl 5)) ?_ ?_
  · exact ⟨rfl, rfl, rfl, 0, 7, Nat.zero_le _, by omega, by dsimp only [St.n]; omega, rfl, by rw [p0]; rfl⟩
  · rintro sl hp q ⟨h1, h2', hh2, k, m, hk, hm3, hm, h5, hm5⟩
    dsimp only at h1 h2' hh2 h5 hm5 hm
    have hlt : (w.take (k + 1)).length = k + 1 := by rw [List.length_take]; omega
    have gt : (w.take (k + 1)).getD k 0 = w.getD k 0 := getD_take (by omega)
    have e0 : ((k + 1 : Nat) : Int) - 1 = k := by omega
    have pk := pp k hk
    have nk := nx k
    have hr := kb k hk
    obtain ⟨y, hy⟩ : ∃ y : Nat, w.getD k 0 = y := ⟨(w.getD k 0).toNat, by omega⟩
    rw [hy] at gt pk hr nk
    have hts := tr_small hs y
    have hpa := pgAt_nat t y
    rw [hpa] at hts nk
    generalize hP : t.pages.getD y default = P at *
    obtain ⟨j, hj⟩ : ∃ j, htT t - k = j := ⟨_, rfl⟩
    rw [hj] at pk
    cases j with
    | zero =>
      have hk0 := pk.leaf.kids
      rw [hpa] at hk0
      have e1 : decide ((0 : Int) < (P.kids.length : Int)) = false := decide_eq_false (by rw [hk0]; decide)
      obtain rfl : k = htT t := by omega
      simp (config := {maxSteps := 1000000}) (disch := omega) only [go_sem, ↓reduceIte, Nat.reduceEqDiff, Nat.reduceAdd, Nat.reduceMul, Nat.reduceSub, Nat.reduceLeDiff, Nat.reduceLT, Int.reduceToNat, Int.reduceLE, Int.reduceLT, Int.reduceNeg, h_upTo, mUpTo, drP_n, drP_c, logAt_n, logAt_c, disP_n, disP_c, notIn_n, notIn_c, h1, h2', hh2, h5, hm5, e0, gt, ePg, hP, e1]
      rw [show w.take (htT t + 1) = w from List.take_of_length_le (by omega)]
      exact ints1_eq pl.symm
    | succ j =>
      have hi := pk.inn
      have hkl := hi.kids
      rw [hpa] at hkl
      have e1 : decide ((0 : Int) < (P.kids.length : Int)) = true := decide_eq_true (by omega)
      have cu := cntU_le P.keys key
      have nk := nk (by omega)
      have es : w.take (k + 1 + 1) = w.take (k + 1) ++ [P.kids.getD (cntU P.keys key) 0] := by rw [take_app1 (by omega), nk]
      simp (config := {maxSteps := 1000000}) (disch := omega) only [go_sem, ↓reduceIte, Nat.reduceEqDiff, Nat.reduceAdd, Nat.reduceMul, Nat.reduceSub, Nat.reduceLeDiff, Nat.reduceLT, Int.reduceToNat, Int.reduceLE, Int.reduceLT, Int.reduceNeg, h_upTo, mUpTo, drP_n, drP_c, logAt_n, logAt_c, disP_n, disP_c, notIn_n, notIn_c, h1, h2', hh2, h5, hm5, e0, gt, ePg, hP, e1, app_I', hlt]
      refine ⟨by omega, ⟨k + 1, q + 13 + 12 + 10, by omega, by omega, by omega, rfl, ?_⟩, by dsimp only [lN]; omega⟩
      rw [upd_same, es]
theorem fo_pathTo : FnOk Try.prog 87 := fnOk_of Try.func87 (by kernel_rfl)
theorem c_pathTo : Contract Try.prog 87 mPath :=
  contract_of_does (DT := fun id => match id with | 3 => [(10, 0), (10, 1), (10, 6), (10, 7), (10, 8), (10, 9)] | 4 => [(6, 1), (6, 2)] | _ => []) Try.checked.mixed tabOk (gok_model fo_upTo c_upTo gok_nil) Try.func87 rfl (by kernel_rfl) (does_pathTo rfl)



theorem does_PathToI {G : Nat → Option FM} (h_ValidTreeI : G 66 = some (.model mValidTree)) (h_insideOfI : G 80 = some (.model mInside)) (h_RouteKeyI : G 126 = some (.model mRoute)) : Does T G (fun id => match id with  | _ => []) Try.f72 mPathTo := by
  refine does2 (rs := [.tmp 4]) rfl rfl fun t key ro h => ?_
  obtain ⟨hs, rfl⟩ := gd_some h
  refine ⟨fun _ => ⟨by simp only [cleanA]; exact clean_ints _, rfl⟩, ?_⟩
  clear h
  cases hv : vTr t
  · rw [ptV_f hv]
    simp (config := {maxSteps := 1000000}) (disch := omega) only [go_sem, ↓reduceIte, Nat.reduceEqDiff, Nat.reduceAdd, Nat.reduceMul, Nat.reduceSub, Nat.reduceLeDiff, Nat.reduceLT, Int.reduceToNat, Int.reduceLE, Int.reduceLT, Int.reduceNeg, h_ValidTreeI, mValidTree, h_insideOfI, mInside, h_RouteKeyI, mRoute, drP_n, drP_c, logAt_n, logAt_c, disP_n, disP_c, notIn_n, notIn_c, hs, hv]
    try rfl
  · rw [ptV_t hv]
    have tv := vTr_iff.1 hv
    have pl := pathF_len t key (htT t) t.root
    have h2 := tv.ht
    have pp : ∀ i, i ≤ htT t → PD t (htT t - i) ((pathF t key (htT t) t.root).getD i 0) := fun i hi => pathF_pd tv.pd i hi
    have nx : ∀ i, i < htT t → (pathF t key (htT t) t.root).getD (i + 1) 0 = (pgAt t ((pathF t key (htT t) t.root).getD i 0)).kids.getD (cntU (pgAt t ((pathF t key (htT t) t.root).getD i 0)).keys key) 0 := fun i hi => path_nx i _ _ hi
    have p0 : (pathF t key (htT t) t.root).take 1 = [t.root] := by cases htT t <;> rfl
    have p1 : (pathF t key (htT t) t.root).getD 0 0 = t.root := by cases htT t <;> rfl
    generalize hw : pathF t key (htT t) t.root = w at *
    have kb : ∀ i, i ≤ htT t → 0 ≤ w.getD i 0 ∧ w.getD i 0 < t.pages.length := fun i hi => (pp i hi).rng
    simp (config := {maxSteps := 1000000}) (disch := omega) only [go_sem, ↓reduceIte, Nat.reduceEqDiff, Nat.reduceAdd, Nat.reduceMul, Nat.reduceSub, Nat.reduceLeDiff, Nat.reduceLT, Int.reduceToNat, Int.reduceLE, Int.reduceLT, Int.reduceNeg, h_ValidTreeI, mValidTree, h_insideOfI, mInside, h_RouteKeyI, mRoute, drP_n, drP_c, logAt_n, logAt_c, disP_n, disP_c, notIn_n, notIn_c, hs, hv]
    refine W_loop_i (fun s => s.sl 1 = eI key ∧ s.sl 2 = .ptr (3, 0) [] 0 0 ∧ s.hp (3, 0) = some ⟨2, 1, [eI t.root, ePgs false t.pages], fun _ => 0⟩ ∧ ∃ k m : Nat, k ≤ htT t ∧ 3 < m ∧ m < s.n ∧ s.sl 5 = eI (w.getD k 0) ∧ s.sl 6 = .ref (m, 0) [] 0 0 1 (k + 1) ∧ s.hp (m, 0) = some ⟨1, k + 1, (w.take (k + 1)).map eI, fun _ => 0⟩) (fun s => htT t + 1 - lN (s.sl 6)) ?_ ?_
    · exact ⟨rfl, rfl, rfl, 0, 12, Nat.zero_le _, by omega, by dsimp only [St.n]; omega, by rw [p1]; rfl, rfl, by rw [p0]; rfl⟩
    · rintro sl hp q ⟨h1, h2', hh2, k, m, hk, hm3, hm, h5, h6, hm6⟩
      dsimp only at h1 h2' hh2 h5 h6 hm6 hm
      have hlt : (w.take (k + 1)).length = k + 1 := by rw [List.length_take]; omega
      have pk := pp k hk
      have nk := nx k
      have hr := kb k hk
      obtain ⟨y, hy⟩ : ∃ y : Nat, w.getD k 0 = y := ⟨(w.getD k 0).toNat, by omega⟩
      rw [hy] at h5 pk hr nk
      have hts := tr_small hs y
      have hpa := pgAt_nat t y
      rw [hpa] at hts nk
      generalize hP : t.pages.getD y default = P at *
      obtain ⟨j, hj⟩ : ∃ j, htT t - k = j := ⟨_, rfl⟩
      rw [hj] at pk
      cases j with
      | zero =>
        have hk0 := pk.leaf.kids
        rw [hpa] at hk0
        have e1 : decide ((0 : Int) < (P.kids.length : Int)) = false := decide_eq_false (by rw [hk0]; decide)
        obtain rfl : k = htT t := by omega
        simp (config := {maxSteps := 1000000}) (disch := omega) only [go_sem, ↓reduceIte, Nat.reduceEqDiff, Nat.reduceAdd, Nat.reduceMul, Nat.reduceSub, Nat.reduceLeDiff, Nat.reduceLT, Int.reduceToNat, Int.reduceLE, Int.reduceLT, Int.reduceNeg, h_ValidTreeI, mValidTree, h_insideOfI, mInside, h_RouteKeyI, mRoute, drP_n, drP_c, logAt_n, logAt_c, disP_n, disP_c, notIn_n, notIn_c, h1, h2', hh2, h5, h6, hm6, ePg, hP, e1]
        rw [show w.take (htT t + 1) = w from List.take_of_length_le (by omega)]
        exact ints1_eq pl.symm
      | succ j =>
        have hi := pk.inn
        have hkl := hi.kids
        have hvi := hi.inn
        rw [hpa] at hkl hvi
        have e1 : decide ((0 : Int) < (P.kids.length : Int)) = true := decide_eq_true (by omega)
        have cu := cntU_le P.keys key
        have nk := nk (by omega)
        have er : rtV ⟨P.keys, P.kids⟩ key = P.kids.getD (cntU P.keys key) 0 := if_pos hvi
        have es : w.take (k + 1 + 1) = w.take (k + 1) ++ [P.kids.getD (cntU P.keys key) 0] := by rw [take_app1 (by omega), nk]
        simp (config := {maxSteps := 1000000}) (disch := omega) only [go_sem, ↓reduceIte, Nat.reduceEqDiff, Nat.reduceAdd, Nat.reduceMul, Nat.reduceSub, Nat.reduceLeDiff, Nat.reduceLT, Int.reduceToNat, Int.reduceLE, Int.reduceLT, Int.reduceNeg, h_ValidTreeI, mValidTree, h_insideOfI, mInside, h_RouteKeyI, mRoute, drP_n, drP_c, logAt_n, logAt_c, disP_n, disP_c, notIn_n, notIn_c, h1, h2', hh2, h5, h6, hm6, ePg, hP, e1, er, app_I', hlt]
        refine ⟨⟨k + 1, q + 8 + 9 + 3, by omega, by omega, by omega, by rw [nk], rfl, ?_⟩, by dsimp only [lN]; omega⟩
        rw [upd_same, es]
theorem fo_PathToI : FnOk Try.prog 72 := fnOk_of Try.func72 (by kernel_rfl)
theorem c_PathToI : Contract Try.prog 72 mPathTo :=
  contract_of_does (DT := fun id => match id with  | _ => []) Try.checked.mixed tabOk (gok_model fo_ValidTreeI c_ValidTreeI (gok_model fo_insideOfI c_insideOfI (gok_model fo_RouteKeyI c_RouteKeyI gok_nil))) Try.func72 rfl (by kernel_rfl) (does_PathToI rfl rfl rfl)


def mLawTree2 : Model := M2 .ro .ro true (cTr false) cI fun t _ => gd (t.pages.length ≤ 9223372036854775807 ∧ t.pages.all bigP = true) (.b true, [])

end Go.TM
