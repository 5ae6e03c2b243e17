/- Contracts, 83: a page is taken out (the reference). -/
import Derived.Test.YtbpfagbihffmbaaF82
namespace Go.TM
open Go.Proofs
set_option linter.unusedVariables false
set_option linter.unusedSimpArgs false
set_option maxRecDepth 100000
set_option maxHeartbeats 8000000

def kidsB (ps : List Pg) : Bool := ps.all fun p => p.kids.all fun k => inR k 0 1000
theorem kidsB_get {ps : List Pg} (h : kidsB ps = true) {i j : Nat} (hi : i < ps.length) (hj : j < (ps.getD i default).kids.length) : 0 ≤ (ps.getD i default).kids.getD j 0 ∧ (ps.getD i default).kids.getD j 0 ≤ 1000 := by
  have h1 := List.all_eq_true.1 h (ps.getD i default) (by simp [hi])
  exact inR_iff.1 (List.all_eq_true.1 h1 _ (getD_mem hj))
def cutP (t : Tr) (x : Int) (k : Nat) : List Pg := ((List.range k).filter fun (i : Nat) => !decide ((i : Int) = x)).map fun i => renP (decK x) (t.pages.getD i default)
theorem cutP_t {t : Tr} {x : Int} {k : Nat} (h : (k : Int) = x) : cutP t x (k + 1) = cutP t x k := by
  unfold cutP
  rw [List.range_succ, List.filter_append]
  simp [h]
theorem cutP_f {t : Tr} {x : Int} {k : Nat} (h : ¬ (k : Int) = x) : cutP t x (k + 1) = cutP t x k ++ [renP (decK x) (t.pages.getD k default)] := by
  unfold cutP
  rw [List.range_succ, List.filter_append]
  simp [h]
theorem cutP_len (t : Tr) (x : Int) (k : Nat) : (cutP t x k).length ≤ k := by
  unfold cutP
  rw [List.length_map]
  have := List.length_filter_le (fun (i : Nat) => !decide ((i : Int) = x)) (List.range k)
  rw [List.length_range] at this
  exact this
def cutKs (x : Int) (xs : List Int) (j : Nat) : List Int := (xs.take j).map (decK x) ++ xs.drop j
theorem cutKs_len (x : Int) (xs : List Int) {j : Nat} (h : j ≤ xs.length) : (cutKs x xs j).length = xs.length := by
  unfold cutKs
  rw [List.length_append, List.length_map, List.length_take, List.length_drop]; omega
theorem cutKs_get (x : Int) {xs : List Int} {j : Nat} (h : j < xs.length) : (cutKs x xs j).getD j 0 = xs.getD j 0 := by
  unfold cutKs
  rw [List.getD_eq_getElem?_getD, List.getElem?_append_right (by rw [List.length_map, List.length_take]; omega), List.length_map, List.length_take, Nat.min_eq_left (by omega), Nat.sub_self, List.getElem?_drop]
  simp
theorem cutKs_step (x : Int) {xs : List Int} {j : Nat} (h : j < xs.length) : (cutKs x xs j).set j (decK x (xs.getD j 0)) = cutKs x xs (j + 1) := by
  have hl : ((xs.take j).map (decK x)).length = j := by rw [List.length_map, List.length_take]; omega
  unfold cutKs
  rw [List.set_append_right _ _ (by omega), hl, Nat.sub_self, List.drop_eq_getElem_cons h, List.set_cons_zero, List.take_succ_eq_append_getElem h, List.map_append, List.append_assoc]
  simp [h]
theorem cutKs_all (x : Int) (xs : List Int) : cutKs x xs xs.length = xs.map (decK x) := by simp [cutKs]
def mCutPage : Model := M2 .ro .ro true (cTr false) cI fun t x => gd (smT t.pages = true ∧ t.pages.length ≤ 1000 ∧ kidsB t.pages = true ∧ (0 ≤ t.root ∧ t.root ≤ 1000) ∧ 0 ≤ x ∧ x ≤ 1000) (eTr true (cut1 t x), [])

theorem does_cutPage {G : Nat → Option FM} (h_toInt : G 84 = some (.model mToInt)) (h_copyPage : G 116 = some (.model mCopyPage)) : Does T G (fun id => match id with | 1 => [(6, 0), (6, 1), (8, 0), (8, 1), (8, 2), (8, 3), (6, 8), (8, 6), (10, 0), (10, 1), (10, 2), (10, 3), (6, 10), (10, 6), (8, 10), (10, 8)] | 10 => [(15, 0), (15, 1), (15, 3), (15, 4), (15, 6), (15, 7)] | _ => []) Try.f110 mCutPage := by
  refine does2 (rs := [.cell 4 28]) rfl rfl fun t x ro h => ?_
  obtain ⟨⟨hs, hpl, hkb, ⟨r0, r1⟩, x0, x1⟩, rfl⟩ := gd_some h
  refine ⟨fun _ => ⟨by simp only [cleanA, cleanL, clean_pgs, Bool.and_self], rfl⟩, ?_⟩
  clear h
  have hss := smT_iff.1 hs
  have hdr : t.root - (if decide (x < t.root) = true then 1 else 0) = decK x t.root := by
    unfold decK
    simp [gt_iff_lt]
  simp (config := {maxSteps := 1000000}) (disch := omega) only [go_sem, ↓reduceIte, Nat.reduceEqDiff, Nat.reduceAdd, Nat.reduceMul, Nat.reduceSub, Nat.reduceLeDiff, Nat.reduceLT, Int.reduceToNat, Int.reduceLE, Int.reduceLT, Int.reduceNeg, h_toInt, mToInt, h_copyPage, mCopyPage, drP_n, drP_c, logAt_n, logAt_c, disP_n, disP_c, notIn_n, notIn_c, hdr]
  refine W_loop_i (fun s => s.sl 1 = eI x ∧ s.sl 2 = .ptr (3, 0) [] 0 0 ∧ s.hp (3, 0) = some ⟨2, 1, [eI t.root, ePgs false t.pages], fun _ => 0⟩ ∧ s.sl 4 = .ptr (4, 0) [] 0 0 ∧ s.hp (4, 0) = some ⟨2, 1, [eI 0, .s true 3 0 []], fun _ => 0⟩ ∧ s.sl 5 = .ptr (15, 0) [] 0 0 ∧ 15 < s.n ∧ ∃ k : Nat, k ≤ t.pages.length ∧ s.sl 6 = eI k ∧ ∃ v, s.hp (15, 0) = some ⟨2, 1, [eI (decK x t.root), .s true 3 (cutP t x k).length ((cutP t x k).flatMap (ePg true))], v⟩) (fun s => t.pages.length - iN (s.sl 6)) ?_ ?_
  · exact ⟨rfl, rfl, rfl, rfl, rfl, rfl, by dsimp only [St.n]; omega, 0, Nat.zero_le _, rfl, _, rfl⟩
  · rintro sl hp q ⟨j1, j2, j3, j4, jh4, j5, jq, k, hk, j6, v, j15⟩
    dsimp only at j1 j2 j3 j4 jh4 j5 jq j6 j15
    have cl := cutP_len t x k
    by_cases g1' : k < t.pages.length
    · have g1 : decide ((k : Int) < (t.pages.length : Int)) = true := decide_eq_true (by omega)
      by_cases hx : (k : Int) = x
      · have e1 : decide ((k : Int) = x) = true := decide_eq_true hx
        have ct := cutP_t (t := t) hx
        simp (config := {maxSteps := 1000000}) (disch := omega) only [go_sem, ↓reduceIte, Nat.reduceEqDiff, Nat.reduceAdd, Nat.reduceMul, Nat.reduceSub, Nat.reduceLeDiff, Nat.reduceLT, Int.reduceToNat, Int.reduceLE, Int.reduceLT, Int.reduceNeg, h_toInt, mToInt, h_copyPage, mCopyPage, drP_n, drP_c, logAt_n, logAt_c, disP_n, disP_c, notIn_n, notIn_c, j1, j2, j3, j4, jh4, j5, j6, j15, g1, e1]
        exact ⟨⟨k + 1, by omega, rfl, by rw [ct]; exact ⟨_, rfl⟩⟩, by omega⟩
      · have e1 : decide ((k : Int) = x) = false := decide_eq_false hx
        have cf := cutP_f (t := t) hx
        have hts := tr_small hs k
        rw [pgAt_nat] at hts
        have hkg := fun j hj => kidsB_get hkb (i := k) (j := j) (by omega) hj
        generalize hP : t.pages.getD k default = P at *
        simp (config := {maxSteps := 1000000}) (disch := omega) only [go_sem, ↓reduceIte, Nat.reduceEqDiff, Nat.reduceAdd, Nat.reduceMul, Nat.reduceSub, Nat.reduceLeDiff, Nat.reduceLT, Int.reduceToNat, Int.reduceLE, Int.reduceLT, Int.reduceNeg, h_toInt, mToInt, h_copyPage, mCopyPage, drP_n, drP_c, logAt_n, logAt_c, disP_n, disP_c, notIn_n, notIn_c, j1, j2, j3, j4, jh4, j5, j6, j15, g1, e1, hP, ePg]
        refine W_loop_i (fun s => s.sl 1 = eI x ∧ s.sl 2 = .ptr (3, 0) [] 0 0 ∧ s.hp (3, 0) = some ⟨2, 1, [eI t.root, ePgs false t.pages], fun _ => 0⟩ ∧ s.sl 4 = .ptr (4, 0) [] 0 0 ∧ s.hp (4, 0) = some ⟨2, 1, [eI 0, .s true 3 0 []], fun _ => 0⟩ ∧ s.sl 5 = .ptr (15, 0) [] 0 0 ∧ s.sl 6 = eI k ∧ s.sl 7 = .ptr (q + 5 + 3 + 6, 0) [] 0 0 ∧ q + 5 + 3 + 6 < s.n ∧ (∃ v, s.hp (15, 0) = some ⟨2, 1, [eI (decK x t.root), .s true 3 (cutP t x k).length ((cutP t x k).flatMap (ePg true))], v⟩) ∧ ∃ j : Nat, j ≤ P.kids.length ∧ s.sl 8 = eI j ∧ ∃ v, s.hp (q + 5 + 3 + 6, 0) = some ⟨3, 1, [.s true 1 P.keys.length (P.keys.map eI), .s true 1 P.kids.length ((cutKs x P.kids j).map eI), .s true 1 P.vals.length (P.vals.map eI)], v⟩) (fun s => P.kids.length - iN (s.sl 8)) ?_ ?_
        · refine ⟨by simp (config := {maxSteps := 1000000}) (disch := omega) only [go_sem, ↓reduceIte, Nat.reduceEqDiff, Nat.reduceAdd, Nat.reduceMul, Nat.reduceSub, Nat.reduceLeDiff, Nat.reduceLT, Int.reduceToNat, Int.reduceLE, Int.reduceLT, Int.reduceNeg, h_toInt, mToInt, h_copyPage, mCopyPage, drP_n, drP_c, logAt_n, logAt_c, disP_n, disP_c, notIn_n, notIn_c, j1], by simp (config := {maxSteps := 1000000}) (disch := omega) only [go_sem, ↓reduceIte, Nat.reduceEqDiff, Nat.reduceAdd, Nat.reduceMul, Nat.reduceSub, Nat.reduceLeDiff, Nat.reduceLT, Int.reduceToNat, Int.reduceLE, Int.reduceLT, Int.reduceNeg, h_toInt, mToInt, h_copyPage, mCopyPage, drP_n, drP_c, logAt_n, logAt_c, disP_n, disP_c, notIn_n, notIn_c, j2], by simp (config := {maxSteps := 1000000}) (disch := omega) only [go_sem, ↓reduceIte, Nat.reduceEqDiff, Nat.reduceAdd, Nat.reduceMul, Nat.reduceSub, Nat.reduceLeDiff, Nat.reduceLT, Int.reduceToNat, Int.reduceLE, Int.reduceLT, Int.reduceNeg, h_toInt, mToInt, h_copyPage, mCopyPage, drP_n, drP_c, logAt_n, logAt_c, disP_n, disP_c, notIn_n, notIn_c, j3], by simp (config := {maxSteps := 1000000}) (disch := omega) only [go_sem, ↓reduceIte, Nat.reduceEqDiff, Nat.reduceAdd, Nat.reduceMul, Nat.reduceSub, Nat.reduceLeDiff, Nat.reduceLT, Int.reduceToNat, Int.reduceLE, Int.reduceLT, Int.reduceNeg, h_toInt, mToInt, h_copyPage, mCopyPage, drP_n, drP_c, logAt_n, logAt_c, disP_n, disP_c, notIn_n, notIn_c, j4], by simp (config := {maxSteps := 1000000}) (disch := omega) only [go_sem, ↓reduceIte, Nat.reduceEqDiff, Nat.reduceAdd, Nat.reduceMul, Nat.reduceSub, Nat.reduceLeDiff, Nat.reduceLT, Int.reduceToNat, Int.reduceLE, Int.reduceLT, Int.reduceNeg, h_toInt, mToInt, h_copyPage, mCopyPage, drP_n, drP_c, logAt_n, logAt_c, disP_n, disP_c, notIn_n, notIn_c, jh4], by simp (config := {maxSteps := 1000000}) (disch := omega) only [go_sem, ↓reduceIte, Nat.reduceEqDiff, Nat.reduceAdd, Nat.reduceMul, Nat.reduceSub, Nat.reduceLeDiff, Nat.reduceLT, Int.reduceToNat, Int.reduceLE, Int.reduceLT, Int.reduceNeg, h_toInt, mToInt, h_copyPage, mCopyPage, drP_n, drP_c, logAt_n, logAt_c, disP_n, disP_c, notIn_n, notIn_c, j5], by simp (config := {maxSteps := 1000000}) (disch := omega) only [go_sem, ↓reduceIte, Nat.reduceEqDiff, Nat.reduceAdd, Nat.reduceMul, Nat.reduceSub, Nat.reduceLeDiff, Nat.reduceLT, Int.reduceToNat, Int.reduceLE, Int.reduceLT, Int.reduceNeg, h_toInt, mToInt, h_copyPage, mCopyPage, drP_n, drP_c, logAt_n, logAt_c, disP_n, disP_c, notIn_n, notIn_c, j6], by simp (config := {maxSteps := 1000000}) (disch := omega) only [go_sem, ↓reduceIte, Nat.reduceEqDiff, Nat.reduceAdd, Nat.reduceMul, Nat.reduceSub, Nat.reduceLeDiff, Nat.reduceLT, Int.reduceToNat, Int.reduceLE, Int.reduceLT, Int.reduceNeg, h_toInt, mToInt, h_copyPage, mCopyPage, drP_n, drP_c, logAt_n, logAt_c, disP_n, disP_c, notIn_n, notIn_c], by dsimp only [St.n]; omega, ?_, 0, Nat.zero_le _, rfl, ?_⟩
          · simp (config := {maxSteps := 1000000}) (disch := omega) only [go_sem, ↓reduceIte, Nat.reduceEqDiff, Nat.reduceAdd, Nat.reduceMul, Nat.reduceSub, Nat.reduceLeDiff, Nat.reduceLT, Int.reduceToNat, Int.reduceLE, Int.reduceLT, Int.reduceNeg, h_toInt, mToInt, h_copyPage, mCopyPage, drP_n, drP_c, logAt_n, logAt_c, disP_n, disP_c, notIn_n, notIn_c, j15]
            exact ⟨_, rfl⟩
          · rw [show cutKs x P.kids 0 = P.kids by simp [cutKs]]
            simp (config := {maxSteps := 1000000}) (disch := omega) only [go_sem, ↓reduceIte, Nat.reduceEqDiff, Nat.reduceAdd, Nat.reduceMul, Nat.reduceSub, Nat.reduceLeDiff, Nat.reduceLT, Int.reduceToNat, Int.reduceLE, Int.reduceLT, Int.reduceNeg, h_toInt, mToInt, h_copyPage, mCopyPage, drP_n, drP_c, logAt_n, logAt_c, disP_n, disP_c, notIn_n, notIn_c]
            exact ⟨_, rfl⟩
        · rintro sl hp q2 ⟨k1, k2, k3, k4, kh4, k5, k6, k7, kq, ⟨v2, k15⟩, j, hj, k8, v3, kpg⟩
          dsimp only at k1 k2 k3 k4 kh4 k5 k6 k7 kq k15 k8 kpg
          have ckl := cutKs_len x P.kids hj
          by_cases g2' : j < P.kids.length
          · have g2 : decide ((j : Int) < (P.kids.length : Int)) = true := decide_eq_true (by omega)
            have hb := hkg j g2'
            have hcg := cutKs_get x g2'
            have hst := cutKs_step x g2'
            obtain ⟨y, hy⟩ : ∃ y, P.kids.getD j 0 = y := ⟨_, rfl⟩
            rw [hy] at hb hcg hst
            have hdk : y - (if decide (x < y) = true then 1 else 0) = decK x y := by
              unfold decK
              simp [gt_iff_lt]
            have hdb : -1 ≤ decK x y ∧ decK x y ≤ 1000 := by unfold decK; split <;> omega
            simp (config := {maxSteps := 1000000}) (disch := omega) only [go_sem, ↓reduceIte, Nat.reduceEqDiff, Nat.reduceAdd, Nat.reduceMul, Nat.reduceSub, Nat.reduceLeDiff, Nat.reduceLT, Int.reduceToNat, Int.reduceLE, Int.reduceLT, Int.reduceNeg, h_toInt, mToInt, h_copyPage, mCopyPage, drP_n, drP_c, logAt_n, logAt_c, disP_n, disP_c, notIn_n, notIn_c, k1, k2, k3, k4, kh4, k5, k6, k7, k15, k8, kpg, g2, hcg, hdk, hst]
            exact ⟨⟨⟨_, rfl⟩, j + 1, by omega, rfl, _, rfl⟩, by omega⟩
          · have g2 : decide ((j : Int) < (P.kids.length : Int)) = false := decide_eq_false (by omega)
            obtain rfl : j = P.kids.length := by omega
            rw [cutKs_all] at kpg
            have hml : (P.kids.map (decK x)).length = P.kids.length := List.length_map _
            simp (config := {maxSteps := 1000000}) (disch := omega) only [go_sem, ↓reduceIte, Nat.reduceEqDiff, Nat.reduceAdd, Nat.reduceMul, Nat.reduceSub, Nat.reduceLeDiff, Nat.reduceLT, Int.reduceToNat, Int.reduceLE, Int.reduceLT, Int.reduceNeg, h_toInt, mToInt, h_copyPage, mCopyPage, drP_n, drP_c, logAt_n, logAt_c, disP_n, disP_c, notIn_n, notIn_c, k1, k2, k3, k4, kh4, k5, k6, k7, k15, k8, kpg, g2, app_pg]
            exact ⟨⟨k + 1, by omega, rfl, by rw [cf, List.length_append]; exact ⟨_, rfl⟩⟩, by omega⟩
    · have g1 : decide ((k : Int) < (t.pages.length : Int)) = false := decide_eq_false (by omega)
      obtain rfl : k = t.pages.length := by omega
      simp (config := {maxSteps := 1000000}) (disch := omega) only [go_sem, ↓reduceIte, Nat.reduceEqDiff, Nat.reduceAdd, Nat.reduceMul, Nat.reduceSub, Nat.reduceLeDiff, Nat.reduceLT, Int.reduceToNat, Int.reduceLE, Int.reduceLT, Int.reduceNeg, h_toInt, mToInt, h_copyPage, mCopyPage, drP_n, drP_c, logAt_n, logAt_c, disP_n, disP_c, notIn_n, notIn_c, j1, j2, j3, j4, jh4, j5, j6, j15, g1]
      rfl
theorem fo_cutPage : FnOk Try.prog 110 := fnOk_of Try.func110 (by kernel_rfl)
theorem c_cutPage : Contract Try.prog 110 mCutPage :=
  contract_of_does (DT := fun id => match id with | 1 => [(6, 0), (6, 1), (8, 0), (8, 1), (8, 2), (8, 3), (6, 8), (8, 6), (10, 0), (10, 1), (10, 2), (10, 3), (6, 10), (10, 6), (8, 10), (10, 8)] | 10 => [(15, 0), (15, 1), (15, 3), (15, 4), (15, 6), (15, 7)] | _ => []) Try.checked.mixed tabOk (gok_model fo_toInt c_toInt (gok_model fo_copyPage c_copyPage gok_nil)) Try.func110 rfl (by kernel_rfl) (does_cutPage rfl rfl)

end Go.TM
