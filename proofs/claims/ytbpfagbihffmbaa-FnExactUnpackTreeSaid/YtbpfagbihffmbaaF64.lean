/- Contracts, 64: the value of a key. -/
import Derived.Test.YtbpfagbihffmbaaF63
namespace Go.TM
open Go.Proofs
set_option linter.unusedVariables false
set_option linter.unusedSimpArgs false
set_option maxRecDepth 100000
set_option maxHeartbeats 4000000

noncomputable def mLeafFor : Model := M2 .ro .ro true (cTr false) cI fun t key => gd (smT t.pages = true ∧ vTr t = true) (eI (leafF t key (htT t) t.root), [])
noncomputable def getV (t : Tr) (key : Int) : Int × Bool := if vTr t = true then valV (prP (pgAt t (leafF t key (htT t) t.root))) key else (0, false)
theorem getV_f {t : Tr} {key : Int} (h : vTr t = false) : getV t key = (0, false) := if_neg (by rw [h]; simp)
theorem getV_t {t : Tr} {key : Int} (h : vTr t = true) : getV t key = valV (prP (pgAt t (leafF t key (htT t) t.root))) key := if_pos h
noncomputable def mGetKey : Model := M2 .ro .ro true (cTr false) cI fun t key => gd (smT t.pages = true) (.tup [eI (getV t key).1, .b (getV t key).2], [])

theorem does_leafFor {G : Nat → Option FM} (h_PathToI : G 72 = some (.model mPathTo)) : Does T G (fun id => match id with  | _ => []) Try.f98 mLeafFor := by
  refine does2 (rs := [.tmp 4]) rfl rfl fun t key ro h => ?_
  obtain ⟨⟨hs, hv⟩, rfl⟩ := gd_some h
  refine ⟨fun _ => ⟨rfl, rfl⟩, ?_⟩
  clear h
  have e := ptV_t (key := key) hv
  have pl := pathF_len t key (htT t) t.root
  have hl := pathF_last t key (htT t) t.root
  have h2 := (vTr_iff.1 hv).ht
  rw [← hl]
  generalize pathF t key (htT t) t.root = w at *
  have e0 : ((htT t + 1 : Nat) : Int) - 1 = htT t := by omega
  simp (config := {maxSteps := 1000000}) (disch := omega) only [go_sem, ↓reduceIte, Nat.reduceEqDiff, Nat.reduceAdd, Nat.reduceMul, Nat.reduceSub, Nat.reduceLeDiff, Nat.reduceLT, Int.reduceToNat, Int.reduceLE, Int.reduceLT, Int.reduceNeg, h_PathToI, mPathTo, drP_n, drP_c, logAt_n, logAt_c, disP_n, disP_c, notIn_n, notIn_c, hs, e, pl, e0]
theorem fo_leafFor : FnOk Try.prog 98 := fnOk_of Try.func98 (by kernel_rfl)
theorem c_leafFor : Contract Try.prog 98 mLeafFor :=
  contract_of_does (DT := fun id => match id with  | _ => []) Try.checked.mixed tabOk (gok_model fo_PathToI c_PathToI gok_nil) Try.func98 rfl (by kernel_rfl) (does_leafFor rfl)


theorem does_GetKeyI {G : Nat → Option FM} (h_ValidTreeI : G 66 = some (.model mValidTree)) (h_leafFor : G 98 = some (.model mLeafFor)) (h_pairsOfLeaf : G 75 = some (.model mRowOf)) (h_ValueInI : G 97 = some (.model mValueIn)) : Does T G (fun id => match id with | 3 => [(4, 0), (4, 1)] | _ => []) Try.f55 mGetKey := by
  refine does2 (rs := [.tmp 4, .tmp 5]) rfl rfl fun t key ro h => ?_
  obtain ⟨hs, rfl⟩ := gd_some h
  refine ⟨fun _ => ⟨rfl, rfl⟩, ?_⟩
  clear h
  cases hv : vTr t
  · rw [getV_f hv]
    simp (config := {maxSteps := 1000000}) (disch := omega) only [go_sem, ↓reduceIte, Nat.reduceEqDiff, Nat.reduceAdd, Nat.reduceMul, Nat.reduceSub, Nat.reduceLeDiff, Nat.reduceLT, Int.reduceToNat, Int.reduceLE, Int.reduceLT, Int.reduceNeg, h_ValidTreeI, mValidTree, h_leafFor, mLeafFor, h_pairsOfLeaf, mRowOf, h_ValueInI, mValueIn, drP_n, drP_c, logAt_n, logAt_c, disP_n, disP_c, notIn_n, notIn_c, hs, hv]
    try rfl
  · rw [getV_t hv]
    have pd := leafF_pd (key := key) (vTr_iff.1 hv).pd
    generalize hx : leafF t key (htT t) t.root = x at *
    have hr := pd.rng
    have lf := pd.leaf
    have h1 := lf.len
    have h2 := lf.vals
    obtain ⟨y, rfl⟩ : ∃ y : Nat, x = y := ⟨x.toNat, by omega⟩
    have hts := tr_small hs y
    have hpa := pgAt_nat t y
    rw [hpa] at hts h1 h2 ⊢
    generalize hP : t.pages.getD y default = P at *
    have pl := prP_len P
    simp (config := {maxSteps := 1000000}) (disch := omega) only [go_sem, ↓reduceIte, Nat.reduceEqDiff, Nat.reduceAdd, Nat.reduceMul, Nat.reduceSub, Nat.reduceLeDiff, Nat.reduceLT, Int.reduceToNat, Int.reduceLE, Int.reduceLT, Int.reduceNeg, h_ValidTreeI, mValidTree, h_leafFor, mLeafFor, h_pairsOfLeaf, mRowOf, h_ValueInI, mValueIn, drP_n, drP_c, logAt_n, logAt_c, disP_n, disP_c, notIn_n, notIn_c, hs, hv, hx, ePg, hP]
theorem fo_GetKeyI : FnOk Try.prog 55 := fnOk_of Try.func55 (by kernel_rfl)
theorem c_GetKeyI : Contract Try.prog 55 mGetKey :=
  contract_of_does (DT := fun id => match id with | 3 => [(4, 0), (4, 1)] | _ => []) Try.checked.mixed tabOk (gok_model fo_ValidTreeI c_ValidTreeI (gok_model fo_leafFor c_leafFor (gok_model fo_pairsOfLeaf c_pairsOfLeaf (gok_model fo_ValueInI c_ValueInI gok_nil)))) Try.func55 rfl (by kernel_rfl) (does_GetKeyI rfl rfl rfl rfl)


theorem does_GetKeyS {G : Nat → Option FM} (h_validTree : G 57 = some (.model mValidTree)) (h_pathTo : G 87 = some (.model mPath)) (h_rowOf : G 96 = some (.model mRowOf)) (h_ValueInS : G 95 = some (.model mValueIn)) : Does T G (fun id => match id with  | _ => []) Try.f54 mGetKey := by
  refine does2 (rs := [.tmp 4, .tmp 5]) rfl rfl fun t key ro h => ?_
  obtain ⟨hs, rfl⟩ := gd_some h
  refine ⟨fun _ => ⟨rfl, rfl⟩, ?_⟩
  clear h
  cases hv : vTr t
  · rw [getV_f hv]
    simp (config := {maxSteps := 1000000}) (disch := omega) only [go_sem, ↓reduceIte, Nat.reduceEqDiff, Nat.reduceAdd, Nat.reduceMul, Nat.reduceSub, Nat.reduceLeDiff, Nat.reduceLT, Int.reduceToNat, Int.reduceLE, Int.reduceLT, Int.reduceNeg, h_validTree, mValidTree, h_pathTo, mPath, h_rowOf, mRowOf, h_ValueInS, mValueIn, drP_n, drP_c, logAt_n, logAt_c, disP_n, disP_c, notIn_n, notIn_c, hs, hv]
    try rfl
  · rw [getV_t hv]
    have pd := leafF_pd (key := key) (vTr_iff.1 hv).pd
    have pl' := pathF_len t key (htT t) t.root
    have hl := pathF_last t key (htT t) t.root
    have h2' := (vTr_iff.1 hv).ht
    rw [← hl] at pd ⊢
    generalize hw : pathF t key (htT t) t.root = w at *
    have e0 : ((htT t + 1 : Nat) : Int) - 1 = htT t := by omega
    have hr := pd.rng
    have lf := pd.leaf
    have h1 := lf.len
    have h2 := lf.vals
    obtain ⟨y, hy⟩ : ∃ y : Nat, w.getD (htT t) 0 = y := ⟨(w.getD (htT t) 0).toNat, by omega⟩
    rw [hy] at hr h1 h2 ⊢
    have hts := tr_small hs y
    have hpa := pgAt_nat t y
    rw [hpa] at hts h1 h2 ⊢
    generalize hP : t.pages.getD y default = P at *
    have pl := prP_len P
    simp (config := {maxSteps := 1000000}) (disch := omega) only [go_sem, ↓reduceIte, Nat.reduceEqDiff, Nat.reduceAdd, Nat.reduceMul, Nat.reduceSub, Nat.reduceLeDiff, Nat.reduceLT, Int.reduceToNat, Int.reduceLE, Int.reduceLT, Int.reduceNeg, h_validTree, mValidTree, h_pathTo, mPath, h_rowOf, mRowOf, h_ValueInS, mValueIn, drP_n, drP_c, logAt_n, logAt_c, disP_n, disP_c, notIn_n, notIn_c, hs, hv, hw, pl', e0, hy, ePg, hP]
theorem fo_GetKeyS : FnOk Try.prog 54 := fnOk_of Try.func54 (by kernel_rfl)
theorem c_GetKeyS : Contract Try.prog 54 mGetKey :=
  contract_of_does (DT := fun id => match id with  | _ => []) Try.checked.mixed tabOk (gok_model fo_validTree c_validTree (gok_model fo_pathTo c_pathTo (gok_model fo_rowOf c_rowOf (gok_model fo_ValueInS c_ValueInS gok_nil)))) Try.func54 rfl (by kernel_rfl) (does_GetKeyS rfl rfl rfl rfl)


theorem does_FnExactGetKey {G : Nat → Option FM} (h_szTree : G 15 = some (.model mSzTree)) (h_toTree : G 17 = some (.model mToTree)) (h_GetKeyS : G 54 = some (.model mGetKey)) (h_GetKeyI : G 55 = some (.model mGetKey)) (h_eqTree : G 19 = some (.model mEqTree)) : Does T G (fun id => match id with | 10 => [(2, 0)] | _ => []) Try.f14 mLawTree2 := by
  refine does2 (rs := [.tmp 4]) rfl rfl fun t key ro h => ?_
  obtain ⟨⟨hs, hb⟩, rfl⟩ := gd_some h
  refine ⟨fun _ => ⟨rfl, rfl⟩, ?_⟩
  obtain ⟨z, hz⟩ : ∃ z, szPs t.pages 1048576 = z := ⟨_, rfl⟩
  by_cases h1 : z < 0
  · have e1 : decide (z < 0) = true := decide_eq_true h1
    simp (config := {maxSteps := 1000000}) (disch := omega) only [go_sem, ↓reduceIte, Nat.reduceEqDiff, Nat.reduceAdd, Nat.reduceMul, Nat.reduceSub, Nat.reduceLeDiff, Nat.reduceLT, Int.reduceToNat, Int.reduceLE, Int.reduceLT, Int.reduceNeg, h_szTree, mSzTree, h_toTree, mToTree, h_GetKeyS, mGetKey, h_GetKeyI, mGetKey, h_eqTree, mEqTree, drP_n, drP_c, logAt_n, logAt_c, disP_n, disP_c, notIn_n, notIn_c, hb, hz, e1]
  · have e1 : decide (z < 0) = false := decide_eq_false h1
    obtain ⟨h2, hsm⟩ := lawT_small hz h1
    simp (config := {maxSteps := 1000000}) (disch := omega) only [go_sem, ↓reduceIte, Nat.reduceEqDiff, Nat.reduceAdd, Nat.reduceMul, Nat.reduceSub, Nat.reduceLeDiff, Nat.reduceLT, Int.reduceToNat, Int.reduceLE, Int.reduceLT, Int.reduceNeg, h_szTree, mSzTree, h_toTree, mToTree, h_GetKeyS, mGetKey, h_GetKeyI, mGetKey, h_eqTree, mEqTree, drP_n, drP_c, logAt_n, logAt_c, disP_n, disP_c, notIn_n, notIn_c, hb, hz, e1, hsm]
theorem fo_FnExactGetKey : FnOk Try.prog 14 := fnOk_of Try.func14 (by kernel_rfl)
theorem c_FnExactGetKey : Contract Try.prog 14 mLawTree2 :=
  contract_of_does (DT := fun id => match id with | 10 => [(2, 0)] | _ => []) Try.checked.mixed tabOk (gok_model fo_szTree c_szTree (gok_model fo_toTree c_toTree (gok_model fo_GetKeyS c_GetKeyS (gok_model fo_GetKeyI c_GetKeyI (gok_model fo_eqTree c_eqTree gok_nil))))) Try.func14 rfl (by kernel_rfl) (does_FnExactGetKey rfl rfl rfl rfl rfl)

theorem fn_FnExactGetKey (t : Tr) (h : TrW t) (x : Int) (hx : intWf .i64 x) : mLawTree2.fn [eTr false t, eI x] = some (.b true, []) := by
  obtain ⟨h1, h2⟩ := bigP_of h
  simp (config := {maxSteps := 1000000}) (disch := omega) only [go_sem, ↓reduceIte, Nat.reduceEqDiff, Nat.reduceAdd, Nat.reduceMul, Nat.reduceSub, Nat.reduceLeDiff, Nat.reduceLT, Int.reduceToNat, Int.reduceLE, Int.reduceLT, Int.reduceNeg, mLawTree2, h2]

/-! ### A tree as numbers -/

theorem leaf_vPage {t : Tr} {x : Int} (h : PLeaf t x) : vPage (pgAt t x) = true := vPage_iff.2 ⟨h.vk, h.len, .inl ⟨by rw [h.kids]; rfl, h.vals, h.vrng⟩⟩
theorem PD.vPage {t : Tr} : ∀ {h : Nat} {x : Int}, PD t h x → Go.TM.vPage (pgAt t x) = true
  | 0, x, p => leaf_vPage p.leaf
  | h + 1, x, p => by
    have i := p.inn
    refine vPage_iff.2 ⟨i.vk, i.len.2, .inr ⟨by have := i.kids; have := i.len; omega, by rw [i.vals]; rfl, i.inn⟩⟩
theorem TV.pg {t : Tr} (h : TV t) {i : Nat} (hi : i < t.pages.length) : ∃ h', PD t h' i := by
  obtain ⟨y, hy, e⟩ := (all_iff_len h.nd h.pd.wrng).1 h.all i hi
  obtain ⟨h', hp⟩ := wk_pd' h.pd y hy
  have hr := h.pd.wrng y hy
  rw [show (i : Int) = y from by omega]
  exact ⟨h', hp⟩
theorem TV.vp {t : Tr} (h : TV t) {i : Nat} (hi : i < t.pages.length) : vPage (t.pages.getD i default) = true := by
  obtain ⟨h', hp⟩ := h.pg hi
  have := hp.vPage
  rwa [pgAt_nat] at this
def packT (t : Tr) (k : Nat) : List Int := (t.pages.length : Int) :: t.root :: (t.pages.take k).flatMap packN
theorem packT_succ {t : Tr} {k : Nat} (h : k < t.pages.length) : packT t k ++ packN (t.pages.getD k default) = packT t (k + 1) := by
  unfold packT
  rw [List.take_succ_eq_append_getElem h, List.flatMap_append]
  simp [h]
theorem flatP_len {m : Nat} {f : Pg → List Int} : ∀ {ps : List Pg}, (∀ p ∈ ps, (f p).length ≤ m) → (ps.flatMap f).length ≤ ps.length * m
  | [], _ => by simp
  | p :: ps, h => by
    have h1 := h p (by simp)
    have h2 := flatP_len (ps := ps) (f := f) (m := m) fun q hq => h q (by simp [hq])
    rw [List.flatMap_cons, List.length_append, List.length_cons, Nat.add_one_mul]
    omega
theorem packN_len {p : Pg} (h : vPage p = true) : (packN p).length ≤ 20 := by
  have h1 := packV_len p
  rw [packV_t h] at h1
  have s := smallPg h
  have := s.keys; have := s.kids; have := s.vals
  omega
theorem packT_len {t : Tr} (h : TV t) (k : Nat) : (packT t k).length ≤ 400 := by
  have h1 := flatP_len (m := 20) (f := packN) (ps := t.pages.take k) fun p hp => by
    obtain ⟨i, hi, rfl⟩ := List.getElem_of_mem (List.mem_of_mem_take hp)
    have := h.vp hi
    rw [show t.pages.getD i default = t.pages[i] from by simp [hi]] at this
    exact packN_len this
  have h2 := h.len.2
  rw [List.length_take] at h1
  unfold packT
  rw [List.length_cons, List.length_cons]
  have : min k t.pages.length * 20 ≤ 16 * 20 := Nat.mul_le_mul_right _ (by omega)
  omega
noncomputable def pkT (t : Tr) : List Int := if vTr t = true then packT t t.pages.length else []
theorem pkT_f {t : Tr} (h : vTr t = false) : pkT t = [] := if_neg (by rw [h]; simp)
theorem pkT_t {t : Tr} (h : vTr t = true) : pkT t = packT t t.pages.length := if_pos h
theorem pkT_len (t : Tr) : (pkT t).length ≤ 400 := by
  cases h : vTr t
  · rw [pkT_f h]; simp
  · rw [pkT_t h]; exact packT_len (vTr_iff.1 h) _
noncomputable def mPackT : Model := M1 .ro true (cTr false) fun t => gd (smT t.pages = true ∧ vTr t = true) (eIs true (packT t t.pages.length), [])
noncomputable def mPackTree : Model := M1 .ro true (cTr false) fun t => gd (smT t.pages = true) (eIs true (pkT t), [])

theorem does_packTreeN {G : Nat → Option FM} (h_packPage : G 144 = some (.model mPackN)) : Does T G (fun id => match id with  | _ => []) Try.f93 mPackT := by
  refine does1 (rs := [.tmp 2]) rfl rfl fun t ro h => ?_
  obtain ⟨⟨hs, hv⟩, rfl⟩ := gd_some h
  refine ⟨fun _ => ⟨by simp only [cleanA]; exact clean_ints _, rfl⟩, ?_⟩
  clear h
  have tv := vTr_iff.1 hv
  have ln := tv.len
  have p0 : packT t 0 = [(t.pages.length : Int), t.root] := by simp [packT]
  simp (config := {maxSteps := 1000000}) (disch := omega) only [go_sem, ↓reduceIte, Nat.reduceEqDiff, Nat.reduceAdd, Nat.reduceMul, Nat.reduceSub, Nat.reduceLeDiff, Nat.reduceLT, Int.reduceToNat, Int.reduceLE, Int.reduceLT, Int.reduceNeg, h_packPage, mPackN, drP_n, drP_c, logAt_n, logAt_c, disP_n, disP_c, notIn_n, notIn_c]
  refine W_loop_i (fun s => s.sl 1 = .ptr (3, 0) [] 0 0 ∧ s.hp (3, 0) = some ⟨2, 1, [eI t.root, ePgs false t.pages], fun _ => 0⟩ ∧ ∃ k m : Nat, k ≤ t.pages.length ∧ s.sl 4 = eI k ∧ 3 < m ∧ m < s.n ∧ s.sl 3 = .ref (m, 0) [] 0 0 1 (packT t k).length ∧ s.hp (m, 0) = some ⟨1, (packT t k).length, (packT t k).map eI, fun _ => 0⟩) (fun s => t.pages.length - iN (s.sl 4)) ?_ ?_
  · exact ⟨rfl, rfl, 0, 10, Nat.zero_le _, rfl, by omega, by dsimp only [St.n]; omega, by rw [p0]; rfl, by rw [p0]; rfl⟩
  · rintro sl hp q ⟨h1, hh1, k, m, hk, h4, hm3, hm, h3, hhm⟩
    dsimp only at h1 hh1 h4 hm h3 hhm
    simp (config := {maxSteps := 1000000}) (disch := omega) only [go_sem, ↓reduceIte, Nat.reduceEqDiff, Nat.reduceAdd, Nat.reduceMul, Nat.reduceSub, Nat.reduceLeDiff, Nat.reduceLT, Int.reduceToNat, Int.reduceLE, Int.reduceLT, Int.reduceNeg, h_packPage, mPackN, drP_n, drP_c, logAt_n, logAt_c, disP_n, disP_c, notIn_n, notIn_c, h1, hh1, h4, h3, hhm]
    (first | refine runKS_split (fun g1 => ?_) (fun g1 => ?_) | refine cond_split (fun g1 => ?_) (fun g1 => ?_) | refine runK_split (fun g1 => ?_) (fun g1 => ?_))
    · have g1' := of_decide_eq_true g1
      have hv' := tv.vp (i := k) (by omega)
      have es := packT_succ (t := t) (k := k) (by omega)
      have l1 := packT_len tv k
      have l2 := packN_len hv'
      generalize hP : t.pages.getD k default = P at *
      simp (config := {maxSteps := 1000000}) (disch := omega) only [go_sem, ↓reduceIte, Nat.reduceEqDiff, Nat.reduceAdd, Nat.reduceMul, Nat.reduceSub, Nat.reduceLeDiff, Nat.reduceLT, Int.reduceToNat, Int.reduceLE, Int.reduceLT, Int.reduceNeg, h_packPage, mPackN, drP_n, drP_c, logAt_n, logAt_c, disP_n, disP_c, notIn_n, notIn_c, h1, hh1, h4, h3, hhm, g1, hP, ePg, hv']
      refine ⟨⟨k + 1, q + 5 + 7, by omega, rfl, by omega, by omega, by rw [← es, List.length_append], ?_⟩, by omega⟩
      rw [upd_same, ← es, List.length_append, List.map_append, List.take_of_length_le (by simp)]
    · have g1' := of_decide_eq_false g1
      obtain rfl : k = t.pages.length := by omega
      simp (config := {maxSteps := 1000000}) (disch := omega) only [go_sem, ↓reduceIte, Nat.reduceEqDiff, Nat.reduceAdd, Nat.reduceMul, Nat.reduceSub, Nat.reduceLeDiff, Nat.reduceLT, Int.reduceToNat, Int.reduceLE, Int.reduceLT, Int.reduceNeg, h_packPage, mPackN, drP_n, drP_c, logAt_n, logAt_c, disP_n, disP_c, notIn_n, notIn_c, h1, hh1, h4, h3, hhm, g1]
theorem fo_packTreeN : FnOk Try.prog 93 := fnOk_of Try.func93 (by kernel_rfl)
theorem c_packTreeN : Contract Try.prog 93 mPackT :=
  contract_of_does (DT := fun id => match id with  | _ => []) Try.checked.mixed tabOk (gok_model fo_packPage c_packPage gok_nil) Try.func93 rfl (by kernel_rfl) (does_packTreeN rfl)


theorem does_PackTreeS {G : Nat → Option FM} (h_validTree : G 57 = some (.model mValidTree)) (h_packTreeN : G 93 = some (.model mPackT)) : Does T G (fun id => match id with  | _ => []) Try.f52 mPackTree := by
  refine does1 (rs := [.tmp 2]) rfl rfl fun t ro h => ?_
  obtain ⟨hs, rfl⟩ := gd_some h
  refine ⟨fun _ => ⟨by simp only [cleanA]; exact clean_ints _, rfl⟩, ?_⟩
  clear h
  cases hv : vTr t
  · rw [pkT_f hv]
    simp (config := {maxSteps := 1000000}) (disch := omega) only [go_sem, ↓reduceIte, Nat.reduceEqDiff, Nat.reduceAdd, Nat.reduceMul, Nat.reduceSub, Nat.reduceLeDiff, Nat.reduceLT, Int.reduceToNat, Int.reduceLE, Int.reduceLT, Int.reduceNeg, h_validTree, mValidTree, h_packTreeN, mPackT, drP_n, drP_c, logAt_n, logAt_c, disP_n, disP_c, notIn_n, notIn_c, hs, hv]
    try rfl
  · rw [pkT_t hv]
    simp (config := {maxSteps := 1000000}) (disch := omega) only [go_sem, ↓reduceIte, Nat.reduceEqDiff, Nat.reduceAdd, Nat.reduceMul, Nat.reduceSub, Nat.reduceLeDiff, Nat.reduceLT, Int.reduceToNat, Int.reduceLE, Int.reduceLT, Int.reduceNeg, h_validTree, mValidTree, h_packTreeN, mPackT, drP_n, drP_c, logAt_n, logAt_c, disP_n, disP_c, notIn_n, notIn_c, hs, hv]
    try rfl
theorem fo_PackTreeS : FnOk Try.prog 52 := fnOk_of Try.func52 (by kernel_rfl)
theorem c_PackTreeS : Contract Try.prog 52 mPackTree :=
  contract_of_does (DT := fun id => match id with  | _ => []) Try.checked.mixed tabOk (gok_model fo_validTree c_validTree (gok_model fo_packTreeN c_packTreeN gok_nil)) Try.func52 rfl (by kernel_rfl) (does_PackTreeS rfl rfl)


theorem does_PackTreeI {G : Nat → Option FM} (h_ValidTreeI : G 66 = some (.model mValidTree)) (h_PackPageI : G 94 = some (.model mPackPage)) : Does T G (fun id => match id with  | _ => []) Try.f53 mPackTree := by
  refine does1 (rs := [.tmp 2]) rfl rfl fun t ro h => ?_
  obtain ⟨hs, rfl⟩ := gd_some h
  refine ⟨fun _ => ⟨by simp only [cleanA]; exact clean_ints _, rfl⟩, ?_⟩
  clear h
  cases hv : vTr t
  · rw [pkT_f hv]
    simp (config := {maxSteps := 1000000}) (disch := omega) only [go_sem, ↓reduceIte, Nat.reduceEqDiff, Nat.reduceAdd, Nat.reduceMul, Nat.reduceSub, Nat.reduceLeDiff, Nat.reduceLT, Int.reduceToNat, Int.reduceLE, Int.reduceLT, Int.reduceNeg, h_ValidTreeI, mValidTree, h_PackPageI, mPackPage, drP_n, drP_c, logAt_n, logAt_c, disP_n, disP_c, notIn_n, notIn_c, hs, hv]
    try rfl
  · rw [pkT_t hv]
    have tv := vTr_iff.1 hv
    have ln := tv.len
    have p0 : packT t 0 = [(t.pages.length : Int), t.root] := by simp [packT]
    simp (config := {maxSteps := 1000000}) (disch := omega) only [go_sem, ↓reduceIte, Nat.reduceEqDiff, Nat.reduceAdd, Nat.reduceMul, Nat.reduceSub, Nat.reduceLeDiff, Nat.reduceLT, Int.reduceToNat, Int.reduceLE, Int.reduceLT, Int.reduceNeg, h_ValidTreeI, mValidTree, h_PackPageI, mPackPage, drP_n, drP_c, logAt_n, logAt_c, disP_n, disP_c, notIn_n, notIn_c, hs, hv]
    refine W_loop_i (fun s => s.sl 16 = ePgs false t.pages ∧ s.sl 17 = eI t.pages.length ∧ ∃ k m : Nat, k ≤ t.pages.length ∧ s.sl 18 = eI k ∧ 3 < m ∧ m < s.n ∧ s.sl 3 = .ref (m, 0) [] 0 0 1 (packT t k).length ∧ s.hp (m, 0) = some ⟨1, (packT t k).length, (packT t k).map eI, fun _ => 0⟩) (fun s => t.pages.length - iN (s.sl 18)) ?_ ?_
    · exact ⟨rfl, rfl, 0, 13, Nat.zero_le _, rfl, by omega, by dsimp only [St.n]; omega, by rw [p0]; rfl, by rw [p0]; rfl⟩
    · rintro sl hp q ⟨h16, h17, k, m, hk, h18, hm3, hm, h3, hhm⟩
      dsimp only at h16 h17 h18 hm h3 hhm
      simp (config := {maxSteps := 1000000}) (disch := omega) only [go_sem, ↓reduceIte, Nat.reduceEqDiff, Nat.reduceAdd, Nat.reduceMul, Nat.reduceSub, Nat.reduceLeDiff, Nat.reduceLT, Int.reduceToNat, Int.reduceLE, Int.reduceLT, Int.reduceNeg, h_ValidTreeI, mValidTree, h_PackPageI, mPackPage, drP_n, drP_c, logAt_n, logAt_c, disP_n, disP_c, notIn_n, notIn_c, h16, h17, h18, h3, hhm]
      (first | refine runKS_split (fun g1 => ?_) (fun g1 => ?_) | refine cond_split (fun g1 => ?_) (fun g1 => ?_) | refine runK_split (fun g1 => ?_) (fun g1 => ?_))
      · have g1' := of_decide_eq_true g1
        have hv' := tv.vp (i := k) (by omega)
        have es := packT_succ (t := t) (k := k) (by omega)
        have l1 := packT_len tv k
        have l2 := packN_len hv'
        have sp := smallPg hv'
        have sp1 := sp.keys
        have sp2 := sp.kids
        have sp3 := sp.vals
        generalize hP : t.pages.getD k default = P at *
        have pv := packV_t hv'
        simp (config := {maxSteps := 1000000}) (disch := omega) only [go_sem, ↓reduceIte, Nat.reduceEqDiff, Nat.reduceAdd, Nat.reduceMul, Nat.reduceSub, Nat.reduceLeDiff, Nat.reduceLT, Int.reduceToNat, Int.reduceLE, Int.reduceLT, Int.reduceNeg, h_ValidTreeI, mValidTree, h_PackPageI, mPackPage, drP_n, drP_c, logAt_n, logAt_c, disP_n, disP_c, notIn_n, notIn_c, h16, h17, h18, h3, hhm, g1, hP, ePg, pv]
        refine ⟨⟨k + 1, q + 1 + 4 + 3, by omega, rfl, by omega, by omega, by rw [← es, List.length_append], ?_⟩, by omega⟩
        rw [upd_same, ← es, List.length_append, List.map_append, List.take_of_length_le (by simp)]
      · have g1' := of_decide_eq_false g1
        obtain rfl : k = t.pages.length := by omega
        simp (config := {maxSteps := 1000000}) (disch := omega) only [go_sem, ↓reduceIte, Nat.reduceEqDiff, Nat.reduceAdd, Nat.reduceMul, Nat.reduceSub, Nat.reduceLeDiff, Nat.reduceLT, Int.reduceToNat, Int.reduceLE, Int.reduceLT, Int.reduceNeg, h_ValidTreeI, mValidTree, h_PackPageI, mPackPage, drP_n, drP_c, logAt_n, logAt_c, disP_n, disP_c, notIn_n, notIn_c, h16, h17, h18, h3, hhm, g1]
theorem fo_PackTreeI : FnOk Try.prog 53 := fnOk_of Try.func53 (by kernel_rfl)
theorem c_PackTreeI : Contract Try.prog 53 mPackTree :=
  contract_of_does (DT := fun id => match id with  | _ => []) Try.checked.mixed tabOk (gok_model fo_ValidTreeI c_ValidTreeI (gok_model fo_PackPageI c_PackPageI gok_nil)) Try.func53 rfl (by kernel_rfl) (does_PackTreeI rfl rfl)


theorem does_FnExactPackTree {G : Nat → Option FM} (h_szTree : G 15 = some (.model mSzTree)) (h_toTree : G 17 = some (.model mToTree)) (h_PackTreeS : G 52 = some (.model mPackTree)) (h_PackTreeI : G 53 = some (.model mPackTree)) (h_eqTree : G 19 = some (.model mEqTree)) (h_eqIntS : G 25 = some (.model mEqIntS)) (h_markTree : G 20 = some (.each 2 [1] mMarkPageS)) (h_markIntS : G 26 = some (.model mMarkIntS)) (h_heldIntS : G 40 = some (.model mHeldIntS)) : Does T G (fun id => match id with | 10 => [(2, 0)] | _ => []) Try.f13 mLawTree := by
  refine does1 (rs := [.tmp 2]) rfl rfl fun t ro h => ?_
  obtain ⟨⟨hs, hb⟩, rfl⟩ := gd_some h
  refine ⟨fun _ => ⟨rfl, rfl⟩, ?_⟩
  obtain ⟨z, hz⟩ : ∃ z, szPs t.pages 1048576 = z := ⟨_, rfl⟩
  have la := pkT_len t
  generalize ha : pkT t = a at la
  by_cases h1 : z < 0
  · have e1 : decide (z < 0) = true := decide_eq_true h1
    simp (config := {maxSteps := 1000000}) (disch := omega) only [go_sem, ↓reduceIte, Nat.reduceEqDiff, Nat.reduceAdd, Nat.reduceMul, Nat.reduceSub, Nat.reduceLeDiff, Nat.reduceLT, Int.reduceToNat, Int.reduceLE, Int.reduceLT, Int.reduceNeg, h_szTree, mSzTree, h_toTree, mToTree, h_PackTreeS, mPackTree, h_PackTreeI, mPackTree, h_eqTree, mEqTree, h_eqIntS, mEqIntS, h_markTree, mMarkPageS, h_markIntS, mMarkIntS, h_heldIntS, mHeldIntS, drP_n, drP_c, logAt_n, logAt_c, disP_n, disP_c, notIn_n, notIn_c, hb, hz, e1]
  · have e1 : decide (z < 0) = false := decide_eq_false h1
    obtain ⟨h2, hsm⟩ := lawT_small hz h1
    have m1 := marks_len a.length 1
    have e2 : decide (1 + (tot t.pages : Int) < 0) = false := decide_eq_false (by omega)
    have e3 : decide (1 + (a.length : Int) < 0) = false := decide_eq_false (by omega)
    have hfl : ((mkPs t.pages 1).flatMap (ePg true)).length = (t.pages.flatMap (ePg true)).length := by rw [flatPg_len, flatPg_len, mkPs_len]
    simp (config := {maxSteps := 1000000}) (disch := omega) only [go_sem, ↓reduceIte, Nat.reduceEqDiff, Nat.reduceAdd, Nat.reduceMul, Nat.reduceSub, Nat.reduceLeDiff, Nat.reduceLT, Int.reduceToNat, Int.reduceLE, Int.reduceLT, Int.reduceNeg, h_szTree, mSzTree, h_toTree, mToTree, h_PackTreeS, mPackTree, h_PackTreeI, mPackTree, h_eqTree, mEqTree, h_eqIntS, mEqIntS, h_markTree, mMarkPageS, h_markIntS, mMarkIntS, h_heldIntS, mHeldIntS, drP_n, drP_c, logAt_n, logAt_c, disP_n, disP_c, notIn_n, notIn_c, hb, hz, e1, hsm, ha, e2, e3, marks_len, List.length_map, sub_marks]
theorem fo_FnExactPackTree : FnOk Try.prog 13 := fnOk_of Try.func13 (by kernel_rfl)
theorem c_FnExactPackTree : Contract Try.prog 13 mLawTree :=
  contract_of_does (DT := fun id => match id with | 10 => [(2, 0)] | _ => []) Try.checked.mixed tabOk (gok_model fo_szTree c_szTree (gok_model fo_toTree c_toTree (gok_model fo_PackTreeS c_PackTreeS (gok_model fo_PackTreeI c_PackTreeI (gok_model fo_eqTree c_eqTree (gok_model fo_eqIntS c_eqIntS (gok_each fo_markTree c_markTree (gok_model fo_markIntS c_markIntS (gok_model fo_heldIntS c_heldIntS gok_nil))))))))) Try.func13 rfl (by kernel_rfl) (does_FnExactPackTree rfl rfl rfl rfl rfl rfl rfl rfl rfl)

theorem fn_FnExactPackTree (t : Tr) (h : TrW t) : mLawTree.fn [eTr false t] = some (.b true, []) := by
  obtain ⟨h1, h2⟩ := bigP_of h
  simp (config := {maxSteps := 1000000}) (disch := omega) only [go_sem, ↓reduceIte, Nat.reduceEqDiff, Nat.reduceAdd, Nat.reduceMul, Nat.reduceSub, Nat.reduceLeDiff, Nat.reduceLT, Int.reduceToNat, Int.reduceLE, Int.reduceLT, Int.reduceNeg, mLawTree, h2]
end Go.TM
