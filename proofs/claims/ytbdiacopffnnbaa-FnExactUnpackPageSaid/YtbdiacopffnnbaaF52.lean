/- Contracts, 52: a tree is numbered anew. -/
import Derived.Test.YtbdiacopffnnbaaF51
namespace Go.TM
open Go.Proofs
set_option linter.unusedVariables false
set_option linter.unusedSimpArgs false
set_option maxRecDepth 100000
set_option maxHeartbeats 4000000

def rnP (w : List Int) (p : Pg) : Pg := ⟨p.keys, p.kids.map fun k => placeV w k, p.vals⟩
def rnT (t : Tr) : Tr := ⟨0, (wk t (htT t) t.root).map fun x => rnP (wk t (htT t) t.root) (pgAt t x)⟩
noncomputable def rnV (t : Tr) : Tr × Bool := if vTr t = true then (rnT t, true) else (⟨0, []⟩, false)
theorem rnV_f {t : Tr} (h : vTr t = false) : rnV t = (⟨0, []⟩, false) := if_neg (by rw [h]; simp)
theorem rnV_t {t : Tr} (h : vTr t = true) : rnV t = (rnT t, true) := if_pos h
noncomputable def mRenum : Model := M1 .ro true (cTr false) fun t => gd (smT t.pages = true ∧ vTr t = true) (eTr true (rnT t), [])
noncomputable def mRenumber : Model := M1 .ro true (cTr false) fun t => gd (smT t.pages = true) (.tup [eTr true (rnV t).1, .b (rnV t).2], [])
theorem clean_tr (t : Tr) : cleanA (eTr true t) = true := by simp only [cleanA, cleanL, clean_pgs, Bool.and_self]

theorem map_take_succ {α β : Type} {f : α → β} {w : List α} {k : Nat} (hk : k < w.length) : (w.take (k + 1)).map f = (w.take k).map f ++ [f w[k]] := by
  rw [List.take_succ_eq_append_getElem hk, List.map_append]; rfl
theorem rn_succ {t : Tr} {w w' : List Int} {k : Nat} (hk : k < w.length) : (w.take (k + 1)).map (fun x => rnP w' (pgAt t x)) = (w.take k).map (fun x => rnP w' (pgAt t x)) ++ [rnP w' (pgAt t (w.getD k 0))] := by
  rw [map_take_succ hk]; simp [hk]
/-- A list of numbers, of which the first ones are turned. -/
def mixL (f : Int → Int) (xs : List Int) (j : Nat) : List Int := (xs.take j).map f ++ xs.drop j
theorem mixL_len (f : Int → Int) (xs : List Int) (j : Nat) : (mixL f xs j).length = xs.length := by simp [mixL]; omega
theorem mixL_get {f : Int → Int} {xs : List Int} {j : Nat} (h : j < xs.length) : (mixL f xs j).getD j 0 = xs.getD j 0 := by
  unfold mixL
  rw [getD_app, if_neg (by rw [List.length_map, List.length_take]; omega), List.length_map, List.length_take, Nat.min_eq_left (by omega), Nat.sub_self, getD_drop, Nat.add_zero]
theorem mixL_set {f : Int → Int} {xs : List Int} {j : Nat} (h : j < xs.length) : (mixL f xs j).set j (f (xs.getD j 0)) = mixL f xs (j + 1) := by
  unfold mixL
  rw [List.set_append_right _ _ (by rw [List.length_map, List.length_take]; omega), List.length_map, List.length_take, Nat.min_eq_left (by omega), Nat.sub_self, map_take_succ h, List.append_assoc]
  rw [show xs.drop j = xs[j] :: xs.drop (j + 1) from List.drop_eq_getElem_cons h, List.set_cons_zero]
  simp [h]
theorem mixL_zero (f : Int → Int) (xs : List Int) : mixL f xs 0 = xs := by simp [mixL]
theorem mixL_all (f : Int → Int) (xs : List Int) : mixL f xs xs.length = xs.map f := by simp [mixL]

theorem app_pg {R : List Pg} {k a b c : Nat} {x y z : List Int} (h : R.length = k ∧ a = x.length ∧ b = y.length ∧ c = z.length) : (R.flatMap (ePg true)).take (k * 3) ++ [A.s true 1 a (x.map eI), A.s true 1 b (y.map eI), A.s true 1 c (z.map eI)] = (R ++ [(⟨x, y, z⟩ : Pg)]).flatMap (ePg true) := by
  obtain ⟨h, rfl, rfl, rfl⟩ := h
  rw [take_all3 h, List.flatMap_append]
  rfl
theorem tr_eq {n : Nat} {r : Int} {ps : List Pg} (h : n = ps.length) : some (A.agg [eI r, .s true 3 n (ps.flatMap (ePg true))], ([] : List (List A))) = some (eTr true ⟨r, ps⟩, []) := by subst h; rfl

theorem does_renumber {G : Nat → Option FM} (h_walk : G 180 = some (.model (mWalk 3))) (h_copyPage : G 189 = some (.model mCopyPage)) (h_placeOf : G 190 = some (.model mPlaceOf)) : Does T G (fun id => match id with | 6 => [(9, 0), (9, 1), (9, 4), (9, 5), (9, 6), (9, 7), (8, 9), (9, 8)] | 10 => [(9, 0), (9, 1)] | _ => []) Try.f162 mRenum := by
  refine does1 (rs := [.cell 2 73]) rfl rfl fun t ro h => ?_
  obtain ⟨⟨hs, hv⟩, rfl⟩ := gd_some h
  refine ⟨fun _ => ⟨clean_tr _, rfl⟩, ?_⟩
  clear h
  have tv := vTr_iff.1 hv
  have pd := tv.pd
  have pe := tv.pe
  have h3a : htF t 3 t.root ≤ 2 := tv.ht
  have h3b : htF t 3 t.root < 3 := by omega
  have lw := pd.wlen
  have wr := pd.wrng
  simp (config := {maxSteps := 1000000}) (disch := omega) only [go_sem, ↓reduceIte, Nat.reduceEqDiff, Nat.reduceAdd, Nat.reduceMul, Nat.reduceSub, Nat.reduceLeDiff, Nat.reduceLT, Int.reduceToNat, Int.reduceLE, Int.reduceLT, Int.reduceNeg, h_walk, mWalk, h_copyPage, mCopyPage, h_placeOf, mPlaceOf, drP_n, drP_c, logAt_n, logAt_c, disP_n, disP_c, notIn_n, notIn_c, hs, pe, h3a, h3b]
  unfold rnT
  generalize hw : wk t (htT t) t.root = w at *
  refine W_loop_i (fun s => s.sl 1 = .ptr (3, 0) [] 0 0 ∧ s.sl 2 = .ptr (4, 0) [] 0 0 ∧ s.sl 3 = .ptr (7, 0) [] 0 0 ∧ s.hp (3, 0) = some ⟨2, 1, [eI t.root, ePgs false t.pages], fun _ => 0⟩ ∧ s.hp (4, 0) = some ⟨2, 1, [eI 0, .s true 3 0 []], fun _ => 0⟩ ∧ 12 < s.n ∧
    s.sl 4 = .ref (12, 0) [] 0 0 1 w.length ∧ s.hp (12, 0) = some ⟨1, w.length, w.map eI, fun _ => 0⟩ ∧ ∃ k : Nat, k ≤ w.length ∧ s.sl 5 = eI k ∧ ∃ v, s.hp (7, 0) = some ⟨2, 1, [eI 0, .s true 3 k (((w.take k).map fun x => rnP w (pgAt t x)).flatMap (ePg true))], v⟩) (fun s => w.length - iN (s.sl 5)) ?_ ?_
  · exact ⟨rfl, rfl, rfl, rfl, rfl, by dsimp only [St.n]; omega, rfl, rfl, 0, Nat.zero_le _, rfl, _, rfl⟩
  · rintro sl hp q ⟨h1, h2, h3, hh3, hh4, hq, h4, hhw, k, hk, h5, v, hhr⟩
    dsimp only at h1 h2 h3 hh3 hh4 hq h4 hhw h5 hhr
    simp (config := {maxSteps := 1000000}) (disch := omega) only [go_sem, ↓reduceIte, Nat.reduceEqDiff, Nat.reduceAdd, Nat.reduceMul, Nat.reduceSub, Nat.reduceLeDiff, Nat.reduceLT, Int.reduceToNat, Int.reduceLE, Int.reduceLT, Int.reduceNeg, h_walk, mWalk, h_copyPage, mCopyPage, h_placeOf, mPlaceOf, drP_n, drP_c, logAt_n, logAt_c, disP_n, disP_c, notIn_n, notIn_c, h1, h2, h3, hh3, hh4, h4, hhw, h5]
    (first | refine runKS_split (fun g1 => ?_) (fun g1 => ?_) | refine cond_split (fun g1 => ?_) (fun g1 => ?_) | refine runK_split (fun g1 => ?_) (fun g1 => ?_))
    · have g1' := of_decide_eq_true g1
      have hx := wr (w.getD k 0) (getD_mem (by omega))
      have rs := rn_succ (t := t) (w := w) (w' := w) (k := k) (by omega)
      have rl : ((w.take k).map fun x => rnP w (pgAt t x)).length = k := by rw [List.length_map, List.length_take]; omega
      obtain ⟨y, hy⟩ : ∃ y : Nat, w.getD k 0 = y := ⟨(w.getD k 0).toNat, by omega⟩
      rw [hy] at hx rs
      have hts := tr_small hs y
      have hpa := pgAt_nat t y
      rw [hpa] at hts rs
      generalize hP : t.pages.getD y default = P at *
      generalize hR : (w.take k).map (fun x => rnP w (pgAt t x)) = R at *
      simp (config := {maxSteps := 1000000}) (disch := omega) only [go_sem, ↓reduceIte, Nat.reduceEqDiff, Nat.reduceAdd, Nat.reduceMul, Nat.reduceSub, Nat.reduceLeDiff, Nat.reduceLT, Int.reduceToNat, Int.reduceLE, Int.reduceLT, Int.reduceNeg, h_walk, mWalk, h_copyPage, mCopyPage, h_placeOf, mPlaceOf, drP_n, drP_c, logAt_n, logAt_c, disP_n, disP_c, notIn_n, notIn_c, h1, h2, h3, hh3, hh4, h4, hhw, h5, hhr, g1, hy, hP, ePg]
      refine ⟨by omega, ?_⟩
      refine W_loop_i (fun s => s.sl 1 = .ptr (3, 0) [] 0 0 ∧ s.sl 2 = .ptr (4, 0) [] 0 0 ∧ s.sl 3 = .ptr (7, 0) [] 0 0 ∧ s.hp (3, 0) = some ⟨2, 1, [eI t.root, ePgs false t.pages], fun _ => 0⟩ ∧ s.hp (4, 0) = some ⟨2, 1, [eI 0, .s true 3 0 []], fun _ => 0⟩ ∧ 12 < s.n ∧
        s.sl 4 = .ref (12, 0) [] 0 0 1 w.length ∧ s.hp (12, 0) = some ⟨1, w.length, w.map eI, fun _ => 0⟩ ∧ s.sl 5 = eI k ∧ s.hp (7, 0) = some ⟨2, 1, [eI 0, .s true 3 k (R.flatMap (ePg true))], v⟩ ∧ ∃ m j : Nat, 12 < m ∧ m < s.n ∧ s.sl 6 = .ptr (m, 0) [] 0 0 ∧ j ≤ P.kids.length ∧ s.sl 7 = eI j ∧ ∃ v2, s.hp (m, 0) = some ⟨3, 1, [eIs true P.keys, .s true 1 P.kids.length ((mixL (placeV w) P.kids j).map eI), eIs true P.vals], v2⟩) (fun s => P.kids.length - iN (s.sl 7)) ?_ ?_
      · simp (config := {maxSteps := 1000000}) (disch := omega) only [go_sem, ↓reduceIte, Nat.reduceEqDiff, Nat.reduceAdd, Nat.reduceMul, Nat.reduceSub, Nat.reduceLeDiff, Nat.reduceLT, Int.reduceToNat, Int.reduceLE, Int.reduceLT, Int.reduceNeg, h_walk, mWalk, h_copyPage, mCopyPage, h_placeOf, mPlaceOf, drP_n, drP_c, logAt_n, logAt_c, disP_n, disP_c, notIn_n, notIn_c, h1, h2, h3, hh3, hh4, h4, hhw, h5, hhr]
        exact ⟨q + 4 + 9, 0, by omega, by omega, rfl, Nat.zero_le _, rfl, _, by rw [upd_same, mixL_zero]⟩
      · rintro sl hp q ⟨h1, h2, h3, hh3, hh4, hq, h4, hhw, h5, hhr, m, j, hm1, hm2, h6, hj, h7, v2, hhm⟩
        dsimp only at h1 h2 h3 hh3 hh4 hq h4 hhw h5 hhr hm2 h6 h7 hhm
        have ml := mixL_len (placeV w) P.kids j
        simp (config := {maxSteps := 1000000}) (disch := omega) only [go_sem, ↓reduceIte, Nat.reduceEqDiff, Nat.reduceAdd, Nat.reduceMul, Nat.reduceSub, Nat.reduceLeDiff, Nat.reduceLT, Int.reduceToNat, Int.reduceLE, Int.reduceLT, Int.reduceNeg, h_walk, mWalk, h_copyPage, mCopyPage, h_placeOf, mPlaceOf, drP_n, drP_c, logAt_n, logAt_c, disP_n, disP_c, notIn_n, notIn_c, h1, h2, h3, hh3, hh4, h4, hhw, h5, hhr, h6, h7, hhm]
        (first | refine runKS_split (fun g2 => ?_) (fun g2 => ?_) | refine cond_split (fun g2 => ?_) (fun g2 => ?_) | refine runK_split (fun g2 => ?_) (fun g2 => ?_))
        · have g2' := of_decide_eq_true g2
          have mg := mixL_get (f := placeV w) (xs := P.kids) (j := j) (by omega)
          have ms := mixL_set (f := placeV w) (xs := P.kids) (j := j) (by omega)
          simp (config := {maxSteps := 1000000}) (disch := omega) only [go_sem, ↓reduceIte, Nat.reduceEqDiff, Nat.reduceAdd, Nat.reduceMul, Nat.reduceSub, Nat.reduceLeDiff, Nat.reduceLT, Int.reduceToNat, Int.reduceLE, Int.reduceLT, Int.reduceNeg, h_walk, mWalk, h_copyPage, mCopyPage, h_placeOf, mPlaceOf, drP_n, drP_c, logAt_n, logAt_c, disP_n, disP_c, notIn_n, notIn_c, h1, h2, h3, hh3, hh4, h4, hhw, h5, hhr, h6, h7, hhm, g2, mg, ms]
          exact ⟨⟨m, j + 1, hm1, by omega, rfl, by omega, rfl, v2, upd_same ..⟩, by omega⟩

        · have g2' := of_decide_eq_false g2
          obtain rfl : j = P.kids.length := by omega
          rw [mixL_all] at hhm
          have hml : (P.kids.map (placeV w)).length = P.kids.length := List.length_map _
          simp (config := {maxSteps := 1000000}) (disch := omega) only [go_sem, ↓reduceIte, Nat.reduceEqDiff, Nat.reduceAdd, Nat.reduceMul, Nat.reduceSub, Nat.reduceLeDiff, Nat.reduceLT, Int.reduceToNat, Int.reduceLE, Int.reduceLT, Int.reduceNeg, h_walk, mWalk, h_copyPage, mCopyPage, h_placeOf, mPlaceOf, drP_n, drP_c, logAt_n, logAt_c, disP_n, disP_c, notIn_n, notIn_c, h1, h2, h3, hh3, hh4, h4, hhw, h5, hhr, h6, h7, hhm, g2, app_pg]
          refine ⟨⟨k + 1, by omega, rfl, ?_⟩, by omega⟩
          rw [rs]
          exact ⟨_, rfl⟩

    · have g1' := of_decide_eq_false g1
      obtain rfl : k = w.length := by omega
      rw [List.take_length] at hhr
      simp (config := {maxSteps := 1000000}) (disch := omega) only [go_sem, ↓reduceIte, Nat.reduceEqDiff, Nat.reduceAdd, Nat.reduceMul, Nat.reduceSub, Nat.reduceLeDiff, Nat.reduceLT, Int.reduceToNat, Int.reduceLE, Int.reduceLT, Int.reduceNeg, h_walk, mWalk, h_copyPage, mCopyPage, h_placeOf, mPlaceOf, drP_n, drP_c, logAt_n, logAt_c, disP_n, disP_c, notIn_n, notIn_c, h1, h2, h3, hh3, hh4, h4, hhw, h5, hhr, g1]
      exact tr_eq (by rw [List.length_map])
theorem fo_renumber : FnOk Try.prog 162 := fnOk_of Try.func162 (by kernel_rfl)
theorem c_renumber : Contract Try.prog 162 mRenum :=
  contract_of_does (DT := fun id => match id with | 6 => [(9, 0), (9, 1), (9, 4), (9, 5), (9, 6), (9, 7), (8, 9), (9, 8)] | 10 => [(9, 0), (9, 1)] | _ => []) Try.checked.mixed tabOk (gok_model fo_walk (c_walk 3) (gok_model fo_copyPage c_copyPage (gok_model fo_placeOf c_placeOf gok_nil))) Try.func162 rfl (by kernel_rfl) (does_renumber rfl rfl rfl)


theorem does_RenumberS {G : Nat → Option FM} (h_validTree : G 132 = some (.model mValidTree)) (h_renumber : G 162 = some (.model mRenum)) : Does T G (fun id => match id with  | _ => []) Try.f96 mRenumber := by
  refine does1 (rs := [.cell 2 73, .tmp 3]) rfl rfl fun t ro h => ?_
  obtain ⟨hs, rfl⟩ := gd_some h
  refine ⟨fun _ => ⟨by simp only [cleanA, cleanL, clean_pgs, Bool.and_self], rfl⟩, ?_⟩
  clear h
  cases hv : vTr t
  · rw [rnV_f hv]
    simp (config := {maxSteps := 1000000}) (disch := omega) only [go_sem, ↓reduceIte, Nat.reduceEqDiff, Nat.reduceAdd, Nat.reduceMul, Nat.reduceSub, Nat.reduceLeDiff, Nat.reduceLT, Int.reduceToNat, Int.reduceLE, Int.reduceLT, Int.reduceNeg, h_validTree, mValidTree, h_renumber, mRenum, drP_n, drP_c, logAt_n, logAt_c, disP_n, disP_c, notIn_n, notIn_c, hs, hv]
    try rfl
  · rw [rnV_t hv]
    simp (config := {maxSteps := 1000000}) (disch := omega) only [go_sem, ↓reduceIte, Nat.reduceEqDiff, Nat.reduceAdd, Nat.reduceMul, Nat.reduceSub, Nat.reduceLeDiff, Nat.reduceLT, Int.reduceToNat, Int.reduceLE, Int.reduceLT, Int.reduceNeg, h_validTree, mValidTree, h_renumber, mRenum, drP_n, drP_c, logAt_n, logAt_c, disP_n, disP_c, notIn_n, notIn_c, hs, hv]
    try rfl
theorem fo_RenumberS : FnOk Try.prog 96 := fnOk_of Try.func96 (by kernel_rfl)
theorem c_RenumberS : Contract Try.prog 96 mRenumber :=
  contract_of_does (DT := fun id => match id with  | _ => []) Try.checked.mixed tabOk (gok_model fo_validTree c_validTree (gok_model fo_renumber c_renumber gok_nil)) Try.func96 rfl (by kernel_rfl) (does_RenumberS rfl rfl)

end Go.TM
