/- Contracts, 90 91. -/
import Derived.Test.YtbpfagbihffmbaaF89
/- Contracts, 90: DropKey and JoinsFor: both sides, the laws. -/
namespace Go.TM
open Go.Proofs
set_option linter.unusedVariables false
set_option linter.unusedSimpArgs false
set_option maxRecDepth 100000
set_option maxHeartbeats 4000000

theorem renP_tot (f : Int → Int) (p : Pg) : totP (renP f p) = totP p := by simp [totP, renP]
theorem wog_sm {u : Tr} {g : List Int} (hl : u.pages.length ≤ 16) (h : ∀ p ∈ u.pages, SmQ p) : SmTr (wog u g) := by
  have h0 : (wog u g).pages.length ≤ 16 := by
    show (List.map _ _).length ≤ 16
    rw [List.length_map]
    have := List.length_filter_le (fun (i : Nat) => !decide ((i : Int) ∈ g)) (List.range u.pages.length)
    rw [List.length_range] at this
    omega
  have h1 := tot_le (m := 28) (ps := (wog u g).pages) fun p hp => by
    obtain ⟨i, hi, rfl⟩ := List.mem_map.1 hp
    have hi := List.mem_range.1 (List.mem_filter.1 hi).1
    rw [renP_tot]
    exact (h _ (by rw [List.getD_eq_getElem?_getD, List.getElem?_eq_getElem hi]; exact List.getElem_mem _)).tot
  exact ⟨by omega, by omega⟩
theorem dropUp_j {t : Tr} (hv : TV t) {key : Int} : ∀ (i : Nat) (u : Tr) (g : List Int), DropJ t key i u g → ∃ i', DropJ t key i' (dropUp (pathF t key (htT t) t.root) i u g).1 (dropUp (pathF t key (htT t) t.root) i u g).2
  | 0, u, g, hJ => ⟨0, hJ⟩
  | i + 1, u, g, hJ => by
    simp only [dropUp]
    split
    · exact ⟨i + 1, hJ⟩
    · obtain ⟨h1, _, _, h2, h3⟩ := drop_step hv hJ.inv _ _ _ _ _ _ rfl rfl rfl rfl rfl rfl
      refine dropUp_j hv i _ _ ⟨h3, mendF_smQ hJ.sm (hJ.sm _ ?_) h2⟩
      unfold pgAt
      rw [List.getD_eq_getElem?_getD, List.getElem?_eq_getElem (by omega)]
      exact List.getElem_mem _
theorem dropT_sm {t : Tr} (hv : TV t) (key : Int) : SmTr (dropT t key) := by
  obtain ⟨i, hJ⟩ := dropUp_j hv (htT t) _ _ (dropJ_start hv key)
  have hJ : DropJ t key i (dropM t key).1 (dropM t key).2 := hJ
  unfold dropT
  generalize hd : dropM t key = d at hJ
  obtain ⟨u, g⟩ := d
  have hlen := hJ.inv.len
  have h2 := hv.len.2
  dsimp only at hlen
  unfold dropR
  split
  · exact wog_sm (by show u.pages.length ≤ 16; omega) hJ.sm
  · exact wog_sm (by show u.pages.length ≤ 16; omega) hJ.sm
theorem dmV_sm (t : Tr) (key : Int) : SmTr (dmV t key).1 := by
  by_cases h : vTr t = true ∧ key ∈ (pgAt t (leafT t key)).keys
  · rw [dmV_t h]; exact dropT_sm (vTr_iff.1 h.1) key
  · rw [dmV_f h]; exact smTr_nil 0

noncomputable def mDropKey : Model := M2 .ro .ro true (cTr false) cI fun t key => gd (smT t.pages = true) (.tup [eTr true (dmV t key).1, .b (dmV t key).2.2], [])
noncomputable def joinsV (t : Tr) (key : Int) : Int := if (dmV t key).2.2 = true then (dmV t key).2.1 else -1
noncomputable def mJoinsFor : Model := M2 .ro .ro true (cTr false) cI fun t key => gd (smT t.pages = true) (eI (joinsV t key), [])
theorem joinsV_t {t : Tr} {key : Int} (h : vTr t = true ∧ key ∈ (pgAt t (leafT t key)).keys) : joinsV t key = ((dropM t key).2.length : Nat) := by
  unfold joinsV; rw [dmV_t h]; rfl
theorem joinsV_f {t : Tr} {key : Int} (h : ¬ (vTr t = true ∧ key ∈ (pgAt t (leafT t key)).keys)) : joinsV t key = -1 := by
  unfold joinsV; rw [dmV_f h]; rfl

theorem does_DropKeyI {G : Nat → Option FM} (h_dropMend : G 61 = some (.model mDropMend)) : Does T G (fun id => match id with  | _ => []) Try.f18 mDropKey := by
  refine does2 (rs := [.cell 4 28, .tmp 5]) rfl rfl fun t key ro h => ?_
  obtain ⟨hs, rfl⟩ := gd_some h
  refine ⟨fun _ => ⟨by simp only [cleanA, cleanL, clean_pgs, Bool.and_self], rfl⟩, ?_⟩
  clear h
  simp (config := {maxSteps := 1000000}) (disch := omega) only [go_sem, ↓reduceIte, Nat.reduceEqDiff, Nat.reduceAdd, Nat.reduceMul, Nat.reduceSub, Nat.reduceLeDiff, Nat.reduceLT, Int.reduceToNat, Int.reduceLE, Int.reduceLT, Int.reduceNeg, h_dropMend, mDropMend, drP_n, drP_c, logAt_n, logAt_c, disP_n, disP_c, notIn_n, notIn_c, hs]
  try rfl
theorem fo_DropKeyI : FnOk Try.prog 18 := fnOk_of Try.func18 (by kernel_rfl)
theorem c_DropKeyI : Contract Try.prog 18 mDropKey :=
  contract_of_does (DT := fun id => match id with  | _ => []) Try.checked.mixed tabOk (gok_model fo_dropMend c_dropMend gok_nil) Try.func18 rfl (by kernel_rfl) (does_DropKeyI rfl)


theorem does_DropKeyS {G : Nat → Option FM} (h_validTree : G 57 = some (.model mValidTree)) (h_hasKey : G 58 = some (.model mHasKey)) (h_dropTree : G 59 = some (.model mDropTree)) : Does T G (fun id => match id with  | _ => []) Try.f16 mDropKey := by
  refine does2 (rs := [.cell 4 28, .tmp 5]) rfl rfl fun t key ro h => ?_
  obtain ⟨hs, rfl⟩ := gd_some h
  refine ⟨fun _ => ⟨by simp only [cleanA, cleanL, clean_pgs, Bool.and_self], rfl⟩, ?_⟩
  clear h
  cases hv : vTr t
  · rw [dmV_f (by rw [hv]; simp)]
    simp (config := {maxSteps := 1000000}) (disch := omega) only [go_sem, ↓reduceIte, Nat.reduceEqDiff, Nat.reduceAdd, Nat.reduceMul, Nat.reduceSub, Nat.reduceLeDiff, Nat.reduceLT, Int.reduceToNat, Int.reduceLE, Int.reduceLT, Int.reduceNeg, h_validTree, mValidTree, h_hasKey, mHasKey, h_dropTree, mDropTree, drP_n, drP_c, logAt_n, logAt_c, disP_n, disP_c, notIn_n, notIn_c, hs, hv]
    try rfl
  · by_cases hk : key ∈ (pgAt t (leafT t key)).keys
    · have e1 : decide (key ∈ (pgAt t (leafT t key)).keys) = true := decide_eq_true hk
      rw [dmV_t ⟨hv, hk⟩]
      simp (config := {maxSteps := 1000000}) (disch := omega) only [go_sem, ↓reduceIte, Nat.reduceEqDiff, Nat.reduceAdd, Nat.reduceMul, Nat.reduceSub, Nat.reduceLeDiff, Nat.reduceLT, Int.reduceToNat, Int.reduceLE, Int.reduceLT, Int.reduceNeg, h_validTree, mValidTree, h_hasKey, mHasKey, h_dropTree, mDropTree, drP_n, drP_c, logAt_n, logAt_c, disP_n, disP_c, notIn_n, notIn_c, hs, hv, hk, e1]
      try rfl
    · have e1 : decide (key ∈ (pgAt t (leafT t key)).keys) = false := decide_eq_false hk
      rw [dmV_f (fun h => hk h.2)]
      simp (config := {maxSteps := 1000000}) (disch := omega) only [go_sem, ↓reduceIte, Nat.reduceEqDiff, Nat.reduceAdd, Nat.reduceMul, Nat.reduceSub, Nat.reduceLeDiff, Nat.reduceLT, Int.reduceToNat, Int.reduceLE, Int.reduceLT, Int.reduceNeg, h_validTree, mValidTree, h_hasKey, mHasKey, h_dropTree, mDropTree, drP_n, drP_c, logAt_n, logAt_c, disP_n, disP_c, notIn_n, notIn_c, hs, hv, hk, e1]
      try rfl
theorem fo_DropKeyS : FnOk Try.prog 16 := fnOk_of Try.func16 (by kernel_rfl)
theorem c_DropKeyS : Contract Try.prog 16 mDropKey :=
  contract_of_does (DT := fun id => match id with  | _ => []) Try.checked.mixed tabOk (gok_model fo_validTree c_validTree (gok_model fo_hasKey c_hasKey (gok_model fo_dropTree c_dropTree gok_nil))) Try.func16 rfl (by kernel_rfl) (does_DropKeyS rfl rfl rfl)


theorem does_JoinsForI {G : Nat → Option FM} (h_dropMend : G 61 = some (.model mDropMend)) : Does T G (fun id => match id with  | _ => []) Try.f34 mJoinsFor := by
  refine does2 (rs := [.tmp 4]) rfl rfl fun t key ro h => ?_
  obtain ⟨hs, rfl⟩ := gd_some h
  refine ⟨fun _ => ⟨rfl, rfl⟩, ?_⟩
  clear h
  unfold joinsV
  cases hb : (dmV t key).2.2
  · rw [if_neg (by simp)]
    simp (config := {maxSteps := 1000000}) (disch := omega) only [go_sem, ↓reduceIte, Nat.reduceEqDiff, Nat.reduceAdd, Nat.reduceMul, Nat.reduceSub, Nat.reduceLeDiff, Nat.reduceLT, Int.reduceToNat, Int.reduceLE, Int.reduceLT, Int.reduceNeg, h_dropMend, mDropMend, drP_n, drP_c, logAt_n, logAt_c, disP_n, disP_c, notIn_n, notIn_c, hs, hb]
    try rfl
  · rw [if_pos rfl]
    simp (config := {maxSteps := 1000000}) (disch := omega) only [go_sem, ↓reduceIte, Nat.reduceEqDiff, Nat.reduceAdd, Nat.reduceMul, Nat.reduceSub, Nat.reduceLeDiff, Nat.reduceLT, Int.reduceToNat, Int.reduceLE, Int.reduceLT, Int.reduceNeg, h_dropMend, mDropMend, drP_n, drP_c, logAt_n, logAt_c, disP_n, disP_c, notIn_n, notIn_c, hs, hb]
    try rfl
theorem fo_JoinsForI : FnOk Try.prog 34 := fnOk_of Try.func34 (by kernel_rfl)
theorem c_JoinsForI : Contract Try.prog 34 mJoinsFor :=
  contract_of_does (DT := fun id => match id with  | _ => []) Try.checked.mixed tabOk (gok_model fo_dropMend c_dropMend gok_nil) Try.func34 rfl (by kernel_rfl) (does_JoinsForI rfl)


theorem does_JoinsForS {G : Nat → Option FM} (h_validTree : G 57 = some (.model mValidTree)) (h_hasKey : G 58 = some (.model mHasKey)) (h_dropTree : G 59 = some (.model mDropTree)) : Does T G (fun id => match id with  | _ => []) Try.f33 mJoinsFor := by
  refine does2 (rs := [.tmp 4]) rfl rfl fun t key ro h => ?_
  obtain ⟨hs, rfl⟩ := gd_some h
  refine ⟨fun _ => ⟨rfl, rfl⟩, ?_⟩
  clear h
  cases hv : vTr t
  · rw [joinsV_f (by rw [hv]; simp)]
    simp (config := {maxSteps := 1000000}) (disch := omega) only [go_sem, ↓reduceIte, Nat.reduceEqDiff, Nat.reduceAdd, Nat.reduceMul, Nat.reduceSub, Nat.reduceLeDiff, Nat.reduceLT, Int.reduceToNat, Int.reduceLE, Int.reduceLT, Int.reduceNeg, h_validTree, mValidTree, h_hasKey, mHasKey, h_dropTree, mDropTree, drP_n, drP_c, logAt_n, logAt_c, disP_n, disP_c, notIn_n, notIn_c, hs, hv]
    try rfl
  · by_cases hk : key ∈ (pgAt t (leafT t key)).keys
    · have e1 : decide (key ∈ (pgAt t (leafT t key)).keys) = true := decide_eq_true hk
      rw [joinsV_t ⟨hv, hk⟩]
      simp (config := {maxSteps := 1000000}) (disch := omega) only [go_sem, ↓reduceIte, Nat.reduceEqDiff, Nat.reduceAdd, Nat.reduceMul, Nat.reduceSub, Nat.reduceLeDiff, Nat.reduceLT, Int.reduceToNat, Int.reduceLE, Int.reduceLT, Int.reduceNeg, h_validTree, mValidTree, h_hasKey, mHasKey, h_dropTree, mDropTree, drP_n, drP_c, logAt_n, logAt_c, disP_n, disP_c, notIn_n, notIn_c, hs, hv, hk, e1]
      try rfl
    · have e1 : decide (key ∈ (pgAt t (leafT t key)).keys) = false := decide_eq_false hk
      rw [joinsV_f (fun h => hk h.2)]
      simp (config := {maxSteps := 1000000}) (disch := omega) only [go_sem, ↓reduceIte, Nat.reduceEqDiff, Nat.reduceAdd, Nat.reduceMul, Nat.reduceSub, Nat.reduceLeDiff, Nat.reduceLT, Int.reduceToNat, Int.reduceLE, Int.reduceLT, Int.reduceNeg, h_validTree, mValidTree, h_hasKey, mHasKey, h_dropTree, mDropTree, drP_n, drP_c, logAt_n, logAt_c, disP_n, disP_c, notIn_n, notIn_c, hs, hv, hk, e1]
      try rfl
theorem fo_JoinsForS : FnOk Try.prog 33 := fnOk_of Try.func33 (by kernel_rfl)
theorem c_JoinsForS : Contract Try.prog 33 mJoinsFor :=
  contract_of_does (DT := fun id => match id with  | _ => []) Try.checked.mixed tabOk (gok_model fo_validTree c_validTree (gok_model fo_hasKey c_hasKey (gok_model fo_dropTree c_dropTree gok_nil))) Try.func33 rfl (by kernel_rfl) (does_JoinsForS rfl rfl rfl)


theorem does_FnExactDropKey {G : Nat → Option FM} (h_szTree : G 15 = some (.model mSzTree)) (h_toTree : G 17 = some (.model mToTree)) (h_DropKeyS : G 16 = some (.model mDropKey)) (h_DropKeyI : G 18 = some (.model mDropKey)) (h_eqTree : G 19 = some (.model mEqTree)) (h_markTree : G 20 = some (.each 2 [1] mMarkPageS)) (h_heldTree : G 21 = some (.model mHeldTree)) : Does T G (fun id => match id with | 10 => [(2, 0)] | _ => []) Try.f3 mLawTree2 := by
  refine does2 (rs := [.tmp 4]) rfl rfl fun t x ro h => ?_
  obtain ⟨⟨hs, hb⟩, rfl⟩ := gd_some h
  refine ⟨fun _ => ⟨rfl, rfl⟩, ?_⟩
  obtain ⟨z, hz⟩ : ∃ z, szPs t.pages 1048576 = z := ⟨_, rfl⟩
  have la := dmV_sm t x
  generalize ha : (dmV t x).1 = a at la
  generalize hb' : (dmV t x).2.2 = b
  by_cases h1 : z < 0
  · have e1 : decide (z < 0) = true := decide_eq_true h1
    simp (config := {maxSteps := 1000000}) (disch := omega) only [go_sem, ↓reduceIte, Nat.reduceEqDiff, Nat.reduceAdd, Nat.reduceMul, Nat.reduceSub, Nat.reduceLeDiff, Nat.reduceLT, Int.reduceToNat, Int.reduceLE, Int.reduceLT, Int.reduceNeg, h_szTree, mSzTree, h_toTree, mToTree, h_DropKeyS, mDropKey, h_DropKeyI, mDropKey, h_eqTree, mEqTree, h_markTree, mMarkPageS, h_heldTree, mHeldTree, drP_n, drP_c, logAt_n, logAt_c, disP_n, disP_c, notIn_n, notIn_c, hb, hz, e1]
  · have e1 : decide (z < 0) = false := decide_eq_false h1
    obtain ⟨h2, hsm⟩ := lawT_small hz h1
    have lb := la.sm
    have lc := (la.mark a.root 1).sm
    dsimp only at lc
    have l1 := la.tot
    have l2 := la.len
    have l3 := mkPs_len a.pages 1
    have e2 : decide (1 + (tot t.pages : Int) < 0) = false := decide_eq_false (by omega)
    have e3 : decide (1 + (tot a.pages : Int) < 0) = false := decide_eq_false (by omega)
    have hfl := flat_mk t.pages 1
    have hfa := flat_mk a.pages 1
    simp (config := {maxSteps := 1000000}) (disch := omega) only [go_sem, ↓reduceIte, Nat.reduceEqDiff, Nat.reduceAdd, Nat.reduceMul, Nat.reduceSub, Nat.reduceLeDiff, Nat.reduceLT, Int.reduceToNat, Int.reduceLE, Int.reduceLT, Int.reduceNeg, h_szTree, mSzTree, h_toTree, mToTree, h_DropKeyS, mDropKey, h_DropKeyI, mDropKey, h_eqTree, mEqTree, h_markTree, mMarkPageS, h_heldTree, mHeldTree, drP_n, drP_c, logAt_n, logAt_c, disP_n, disP_c, notIn_n, notIn_c, hb, hz, e1, hsm, ha, hb', e2, e3, lb, lc, hfl, hfa, sub_mk, mkPs_idem, mkPs_tot]
theorem c_FnExactDropKey : Contract Try.prog 3 mLawTree2 :=
  contract_of_does (DT := fun id => match id with | 10 => [(2, 0)] | _ => []) Try.checked.mixed tabOk (gok_model fo_szTree c_szTree (gok_model fo_toTree c_toTree (gok_model fo_DropKeyS c_DropKeyS (gok_model fo_DropKeyI c_DropKeyI (gok_model fo_eqTree c_eqTree (gok_each fo_markTree c_markTree (gok_model fo_heldTree c_heldTree gok_nil))))))) Try.func3 rfl (by kernel_rfl) (does_FnExactDropKey rfl rfl rfl rfl rfl rfl rfl)

theorem fn_FnExactDropKey (t : Tr) (h : TrW t) (x : Int) (hx : intWf .i64 x) : mLawTree2.fn [eTr false t, eI x] = some (.b true, []) := by
  obtain ⟨h1, h2⟩ := bigP_of h
  simp (config := {maxSteps := 1000000}) (disch := omega) only [go_sem, ↓reduceIte, Nat.reduceEqDiff, Nat.reduceAdd, Nat.reduceMul, Nat.reduceSub, Nat.reduceLeDiff, Nat.reduceLT, Int.reduceToNat, Int.reduceLE, Int.reduceLT, Int.reduceNeg, mLawTree2, h2]

theorem does_FnExactJoinsFor {G : Nat → Option FM} (h_szTree : G 15 = some (.model mSzTree)) (h_toTree : G 17 = some (.model mToTree)) (h_JoinsForS : G 33 = some (.model mJoinsFor)) (h_JoinsForI : G 34 = some (.model mJoinsFor)) (h_eqTree : G 19 = some (.model mEqTree)) : Does T G (fun id => match id with | 10 => [(2, 0)] | _ => []) Try.f6 mLawTree2 := by
  refine does2 (rs := [.tmp 4]) rfl rfl fun t key ro h => ?_
  obtain ⟨⟨hs, hb⟩, rfl⟩ := gd_some h
  refine ⟨fun _ => ⟨rfl, rfl⟩, ?_⟩
  obtain ⟨z, hz⟩ : ∃ z, szPs t.pages 1048576 = z := ⟨_, rfl⟩
  by_cases h1 : z < 0
  · have e1 : decide (z < 0) = true := decide_eq_true h1
    simp (config := {maxSteps := 1000000}) (disch := omega) only [go_sem, ↓reduceIte, Nat.reduceEqDiff, Nat.reduceAdd, Nat.reduceMul, Nat.reduceSub, Nat.reduceLeDiff, Nat.reduceLT, Int.reduceToNat, Int.reduceLE, Int.reduceLT, Int.reduceNeg, h_szTree, mSzTree, h_toTree, mToTree, h_JoinsForS, mJoinsFor, h_JoinsForI, mJoinsFor, h_eqTree, mEqTree, drP_n, drP_c, logAt_n, logAt_c, disP_n, disP_c, notIn_n, notIn_c, hb, hz, e1]
  · have e1 : decide (z < 0) = false := decide_eq_false h1
    obtain ⟨h2, hsm⟩ := lawT_small hz h1
    simp (config := {maxSteps := 1000000}) (disch := omega) only [go_sem, ↓reduceIte, Nat.reduceEqDiff, Nat.reduceAdd, Nat.reduceMul, Nat.reduceSub, Nat.reduceLeDiff, Nat.reduceLT, Int.reduceToNat, Int.reduceLE, Int.reduceLT, Int.reduceNeg, h_szTree, mSzTree, h_toTree, mToTree, h_JoinsForS, mJoinsFor, h_JoinsForI, mJoinsFor, h_eqTree, mEqTree, drP_n, drP_c, logAt_n, logAt_c, disP_n, disP_c, notIn_n, notIn_c, hb, hz, e1, hsm]
theorem c_FnExactJoinsFor : Contract Try.prog 6 mLawTree2 :=
  contract_of_does (DT := fun id => match id with | 10 => [(2, 0)] | _ => []) Try.checked.mixed tabOk (gok_model fo_szTree c_szTree (gok_model fo_toTree c_toTree (gok_model fo_JoinsForS c_JoinsForS (gok_model fo_JoinsForI c_JoinsForI (gok_model fo_eqTree c_eqTree gok_nil))))) Try.func6 rfl (by kernel_rfl) (does_FnExactJoinsFor rfl rfl rfl rfl rfl)

theorem fn_FnExactJoinsFor (t : Tr) (h : TrW t) (x : Int) (hx : intWf .i64 x) : mLawTree2.fn [eTr false t, eI x] = some (.b true, []) := by
  obtain ⟨h1, h2⟩ := bigP_of h
  simp (config := {maxSteps := 1000000}) (disch := omega) only [go_sem, ↓reduceIte, Nat.reduceEqDiff, Nat.reduceAdd, Nat.reduceMul, Nat.reduceSub, Nat.reduceLeDiff, Nat.reduceLT, Int.reduceToNat, Int.reduceLE, Int.reduceLT, Int.reduceNeg, mLawTree2, h2]
end Go.TM
/- Contracts, 91: keys are dropped from a tree. -/
namespace Go.TM
open Go.Proofs
set_option linter.unusedVariables false
set_option linter.unusedSimpArgs false
set_option maxRecDepth 100000
set_option maxHeartbeats 4000000

noncomputable def daF : List Int → Tr → Option Tr
  | [], t => some t
  | x :: xs, t => if (dmV t x).2.2 = true then daF xs (dmV t x).1 else none
noncomputable def daR : Option Tr → Tr × Bool
  | some u => (u, true)
  | none => (⟨0, []⟩, false)
noncomputable def daV (t : Tr) (xs : List Int) : Tr × Bool := if vTr t = true ∧ xs.length ≤ 24 then daR (daF xs t) else (⟨0, []⟩, false)
theorem daV_f {t : Tr} {xs : List Int} (h : ¬ (vTr t = true ∧ xs.length ≤ 24)) : daV t xs = (⟨0, []⟩, false) := if_neg h
theorem daV_t {t : Tr} {xs : List Int} (h : vTr t = true ∧ xs.length ≤ 24) : daV t xs = daR (daF xs t) := if_pos h
theorem daF_t {x : Int} {xs : List Int} {t : Tr} (h : (dmV t x).2.2 = true) : daF (x :: xs) t = daF xs (dmV t x).1 := if_pos h
theorem daF_f {x : Int} {xs : List Int} {t : Tr} (h : (dmV t x).2.2 = false) : daF (x :: xs) t = none := if_neg (by rw [h]; simp)
theorem drop_consI {xs : List Int} {k : Nat} (h : k < xs.length) : xs.drop k = xs.getD k 0 :: xs.drop (k + 1) := by
  rw [List.drop_eq_getElem_cons h]
  simp [h]
theorem daF_sm : ∀ (xs : List Int) (t : Tr), SmTr t → SmTr (daR (daF xs t)).1
  | [], t, h => h
  | x :: xs, t, h => by
    cases hb : (dmV t x).2.2
    · rw [daF_f hb]; exact smTr_nil 0
    · rw [daF_t hb]; exact daF_sm xs _ (dmV_sm t x)
theorem daV_sm (t : Tr) (xs : List Int) : SmTr (daV t xs).1 := by
  by_cases h : vTr t = true ∧ xs.length ≤ 24
  · rw [daV_t h]
    have tv := vTr_iff.1 h.1
    have h1 := tot_le (m := 28) (ps := t.pages) fun p hp => (tv.smAll p hp).smQ.tot
    have h2 := tv.len.2
    exact daF_sm xs t ⟨by omega, by omega⟩
  · rw [daV_f h]; exact smTr_nil 0
noncomputable def mDropAll : Model := M2 .ro .ro true (cTr false) (cIs false) fun t xs => gd (smT t.pages = true ∧ xs.length ≤ 1099511627776) (.tup [eTr true (daV t xs).1, .b (daV t xs).2], [])

theorem does_DropAllI {G : Nat → Option FM} (h_ValidTreeI : G 66 = some (.model mValidTree)) (h_copyTreeI : G 67 = some (.model mCopyTree)) (h_DropKeyI : G 18 = some (.model mDropKey)) : Does T G (fun id => match id with  | _ => []) Try.f24 mDropAll := by
  refine does2 (rs := [.cell 4 28, .tmp 5]) rfl rfl fun t xs ro h => ?_
  obtain ⟨⟨hs, hx⟩, rfl⟩ := gd_some h
  refine ⟨fun _ => ⟨by simp only [cleanA, cleanL, clean_pgs, Bool.and_self], rfl⟩, ?_⟩
  clear h
  cases hv : vTr t
  · rw [daV_f (by rw [hv]; simp)]
    simp (config := {maxSteps := 1000000}) (disch := omega) only [go_sem, ↓reduceIte, Nat.reduceEqDiff, Nat.reduceAdd, Nat.reduceMul, Nat.reduceSub, Nat.reduceLeDiff, Nat.reduceLT, Int.reduceToNat, Int.reduceLE, Int.reduceLT, Int.reduceNeg, h_ValidTreeI, mValidTree, h_copyTreeI, mCopyTree, h_DropKeyI, mDropKey, drP_n, drP_c, logAt_n, logAt_c, disP_n, disP_c, notIn_n, notIn_c, hs, hv]
    try rfl
  · by_cases hl : xs.length ≤ 24
    · have e0 : decide (24 < (xs.length : Int)) = false := decide_eq_false (by omega)
      rw [daV_t ⟨hv, hl⟩]
      simp (config := {maxSteps := 1000000}) (disch := omega) only [go_sem, ↓reduceIte, Nat.reduceEqDiff, Nat.reduceAdd, Nat.reduceMul, Nat.reduceSub, Nat.reduceLeDiff, Nat.reduceLT, Int.reduceToNat, Int.reduceLE, Int.reduceLT, Int.reduceNeg, h_ValidTreeI, mValidTree, h_copyTreeI, mCopyTree, h_DropKeyI, mDropKey, drP_n, drP_c, logAt_n, logAt_c, disP_n, disP_c, notIn_n, notIn_c, hs, hv, e0]
      refine W_loop_i (fun s => s.sl 4 = .ptr (4, 0) [] 0 0 ∧ s.hp (4, 0) = some ⟨2, 1, [eI 0, .s true 3 0 []], fun _ => 0⟩ ∧ s.sl 22 = eIs false xs ∧ s.sl 23 = eI xs.length ∧ s.sl 6 = .ptr (16, 0) [] 0 0 ∧ 16 < s.n ∧ ∃ (k : Nat) (u : Tr), k ≤ xs.length ∧ s.sl 24 = eI k ∧ daF (xs.drop k) u = daF xs t ∧ smT u.pages = true ∧ ∃ v, s.hp (16, 0) = some ⟨2, 1, [eI u.root, .s true 3 u.pages.length (u.pages.flatMap (ePg true))], v⟩) (fun s => xs.length - iN (s.sl 24)) ?_ ?_
      · exact ⟨rfl, rfl, rfl, rfl, rfl, by dsimp only [St.n]; omega, 0, t, Nat.zero_le _, rfl, rfl, hs, _, rfl⟩
      · rintro sl hp q ⟨j4, jh4, j22, j23, j6, jq, k, u, hk, j24, heq, hsu, v, jh⟩
        dsimp only at j4 jh4 j22 j23 j6 jq j24 jh
        have hsb : sub u.pages 0 u.pages.length = u.pages := sub_all _
        have hss := smT_iff.1 hsu
        by_cases g1' : k < xs.length
        · have g1 : decide ((k : Int) < (xs.length : Int)) = true := decide_eq_true (by omega)
          rw [drop_consI g1'] at heq
          obtain ⟨a, hxk⟩ : ∃ p : Int, xs.getD k 0 = p := ⟨_, rfl⟩
          rw [hxk] at heq
          cases hb : (dmV u a).2.2
          · rw [daF_f hb] at heq
            rw [← heq]
            simp (config := {maxSteps := 1000000}) (disch := omega) only [go_sem, ↓reduceIte, Nat.reduceEqDiff, Nat.reduceAdd, Nat.reduceMul, Nat.reduceSub, Nat.reduceLeDiff, Nat.reduceLT, Int.reduceToNat, Int.reduceLE, Int.reduceLT, Int.reduceNeg, h_ValidTreeI, mValidTree, h_copyTreeI, mCopyTree, h_DropKeyI, mDropKey, drP_n, drP_c, logAt_n, logAt_c, disP_n, disP_c, notIn_n, notIn_c, j4, jh4, j22, j23, j6, j24, jh, g1, hsb, hxk, hsu, hb]
            try rfl
          · rw [daF_t hb] at heq
            have la := dmV_sm u a
            have hsU := la.sm
            generalize hU : (dmV u a).1 = U at *
            have hsb2 : sub U.pages 0 U.pages.length = U.pages := sub_all _
            have hss2 := smT_iff.1 hsU
            simp (config := {maxSteps := 1000000}) (disch := omega) only [go_sem, ↓reduceIte, Nat.reduceEqDiff, Nat.reduceAdd, Nat.reduceMul, Nat.reduceSub, Nat.reduceLeDiff, Nat.reduceLT, Int.reduceToNat, Int.reduceLE, Int.reduceLT, Int.reduceNeg, h_ValidTreeI, mValidTree, h_copyTreeI, mCopyTree, h_DropKeyI, mDropKey, drP_n, drP_c, logAt_n, logAt_c, disP_n, disP_c, notIn_n, notIn_c, j4, jh4, j22, j23, j6, j24, jh, g1, hsb, hxk, hsu, hb, hU, hsb2]
            exact ⟨⟨k + 1, U, by omega, rfl, heq, hsU, _, rfl⟩, by omega⟩
        · have g1 : decide ((k : Int) < (xs.length : Int)) = false := decide_eq_false (by omega)
          obtain rfl : k = xs.length := by omega
          rw [List.drop_length] at heq
          rw [← heq]
          simp (config := {maxSteps := 1000000}) (disch := omega) only [go_sem, ↓reduceIte, Nat.reduceEqDiff, Nat.reduceAdd, Nat.reduceMul, Nat.reduceSub, Nat.reduceLeDiff, Nat.reduceLT, Int.reduceToNat, Int.reduceLE, Int.reduceLT, Int.reduceNeg, h_ValidTreeI, mValidTree, h_copyTreeI, mCopyTree, h_DropKeyI, mDropKey, drP_n, drP_c, logAt_n, logAt_c, disP_n, disP_c, notIn_n, notIn_c, j4, jh4, j22, j23, j6, j24, jh, g1, hsb]
          first | rfl | exact tr2_eq rfl
    · have e0 : decide (24 < (xs.length : Int)) = true := decide_eq_true (by omega)
      rw [daV_f (fun h => hl h.2)]
      simp (config := {maxSteps := 1000000}) (disch := omega) only [go_sem, ↓reduceIte, Nat.reduceEqDiff, Nat.reduceAdd, Nat.reduceMul, Nat.reduceSub, Nat.reduceLeDiff, Nat.reduceLT, Int.reduceToNat, Int.reduceLE, Int.reduceLT, Int.reduceNeg, h_ValidTreeI, mValidTree, h_copyTreeI, mCopyTree, h_DropKeyI, mDropKey, drP_n, drP_c, logAt_n, logAt_c, disP_n, disP_c, notIn_n, notIn_c, hs, hv, e0]
      try rfl
theorem fo_DropAllI : FnOk Try.prog 24 := fnOk_of Try.func24 (by kernel_rfl)
theorem c_DropAllI : Contract Try.prog 24 mDropAll :=
  contract_of_does (DT := fun id => match id with  | _ => []) Try.checked.mixed tabOk (gok_model fo_ValidTreeI c_ValidTreeI (gok_model fo_copyTreeI c_copyTreeI (gok_model fo_DropKeyI c_DropKeyI gok_nil))) Try.func24 rfl (by kernel_rfl) (does_DropAllI rfl rfl rfl)


theorem does_DropAllS {G : Nat → Option FM} (h_validTree : G 57 = some (.model mValidTree)) (h_copyTreeS : G 65 = some (.model mCopyTree)) (h_DropKeyS : G 16 = some (.model mDropKey)) : Does T G (fun id => match id with | 6 => [(9, 0), (9, 3), (9, 4), (5, 9), (9, 5)] | _ => []) Try.f22 mDropAll := by
  refine does2 (rs := [.cell 4 28, .tmp 5]) rfl rfl fun t xs ro h => ?_
  obtain ⟨⟨hs, hx⟩, rfl⟩ := gd_some h
  refine ⟨fun _ => ⟨by simp only [cleanA, cleanL, clean_pgs, Bool.and_self], rfl⟩, ?_⟩
  clear h
  cases hv : vTr t
  · rw [daV_f (by rw [hv]; simp)]
    simp (config := {maxSteps := 1000000}) (disch := omega) only [go_sem, ↓reduceIte, Nat.reduceEqDiff, Nat.reduceAdd, Nat.reduceMul, Nat.reduceSub, Nat.reduceLeDiff, Nat.reduceLT, Int.reduceToNat, Int.reduceLE, Int.reduceLT, Int.reduceNeg, h_validTree, mValidTree, h_copyTreeS, mCopyTree, h_DropKeyS, mDropKey, drP_n, drP_c, logAt_n, logAt_c, disP_n, disP_c, notIn_n, notIn_c, hs, hv]
    try rfl
  · by_cases hl : xs.length ≤ 24
    · have e0 : decide (24 < (xs.length : Int)) = false := decide_eq_false (by omega)
      rw [daV_t ⟨hv, hl⟩]
      simp (config := {maxSteps := 1000000}) (disch := omega) only [go_sem, ↓reduceIte, Nat.reduceEqDiff, Nat.reduceAdd, Nat.reduceMul, Nat.reduceSub, Nat.reduceLeDiff, Nat.reduceLT, Int.reduceToNat, Int.reduceLE, Int.reduceLT, Int.reduceNeg, h_validTree, mValidTree, h_copyTreeS, mCopyTree, h_DropKeyS, mDropKey, drP_n, drP_c, logAt_n, logAt_c, disP_n, disP_c, notIn_n, notIn_c, hs, hv, e0]
      refine W_loop_i (fun s => s.sl 4 = .ptr (4, 0) [] 0 0 ∧ s.hp (4, 0) = some ⟨2, 1, [eI 0, .s true 3 0 []], fun _ => 0⟩ ∧ s.sl 1 = eIs false xs ∧ s.sl 2 = .ptr (3, 0) [] 0 0 ∧ 4 < s.n ∧ ∃ (k : Nat) (u : Tr) (o : Bool), k ≤ xs.length ∧ s.sl 6 = eI k ∧ daF (xs.drop k) u = daF xs t ∧ smT u.pages = true ∧ ∃ v, s.hp (3, 0) = some ⟨2, 1, [eI u.root, .s o 3 u.pages.length (u.pages.flatMap (ePg o))], v⟩) (fun s => xs.length - iN (s.sl 6)) ?_ ?_
      · exact ⟨rfl, rfl, rfl, rfl, by dsimp only [St.n]; omega, 0, t, false, Nat.zero_le _, rfl, rfl, hs, _, rfl⟩
      · rintro sl hp q ⟨j4, jh4, j1, j2, jq, k, u, o, hk, j6, heq, hsu, v, jh⟩
        dsimp only at j4 jh4 j1 j2 jq j6 jh
        have hsb : sub u.pages 0 u.pages.length = u.pages := sub_all _
        have hss := smT_iff.1 hsu
        by_cases g1' : k < xs.length
        · have g1 : decide ((k : Int) < (xs.length : Int)) = true := decide_eq_true (by omega)
          rw [drop_consI g1'] at heq
          obtain ⟨a, hxk⟩ : ∃ p : Int, xs.getD k 0 = p := ⟨_, rfl⟩
          rw [hxk] at heq
          cases hb : (dmV u a).2.2
          · rw [daF_f hb] at heq
            rw [← heq]
            cases o
            · simp (config := {maxSteps := 1000000}) (disch := omega) only [go_sem, ↓reduceIte, Nat.reduceEqDiff, Nat.reduceAdd, Nat.reduceMul, Nat.reduceSub, Nat.reduceLeDiff, Nat.reduceLT, Int.reduceToNat, Int.reduceLE, Int.reduceLT, Int.reduceNeg, h_validTree, mValidTree, h_copyTreeS, mCopyTree, h_DropKeyS, mDropKey, drP_n, drP_c, logAt_n, logAt_c, disP_n, disP_c, notIn_n, notIn_c, j4, jh4, j1, j2, j6, jh, g1, hsb, hxk, hsu, hb]
              try rfl
            · simp (config := {maxSteps := 1000000}) (disch := omega) only [go_sem, ↓reduceIte, Nat.reduceEqDiff, Nat.reduceAdd, Nat.reduceMul, Nat.reduceSub, Nat.reduceLeDiff, Nat.reduceLT, Int.reduceToNat, Int.reduceLE, Int.reduceLT, Int.reduceNeg, h_validTree, mValidTree, h_copyTreeS, mCopyTree, h_DropKeyS, mDropKey, drP_n, drP_c, logAt_n, logAt_c, disP_n, disP_c, notIn_n, notIn_c, j4, jh4, j1, j2, j6, jh, g1, hsb, hxk, hsu, hb]
              try rfl
          · rw [daF_t hb] at heq
            have la := dmV_sm u a
            have hsU := la.sm
            generalize hU : (dmV u a).1 = U at *
            have hsb2 : sub U.pages 0 U.pages.length = U.pages := sub_all _
            have hss2 := smT_iff.1 hsU
            cases o
            · simp (config := {maxSteps := 1000000}) (disch := omega) only [go_sem, ↓reduceIte, Nat.reduceEqDiff, Nat.reduceAdd, Nat.reduceMul, Nat.reduceSub, Nat.reduceLeDiff, Nat.reduceLT, Int.reduceToNat, Int.reduceLE, Int.reduceLT, Int.reduceNeg, h_validTree, mValidTree, h_copyTreeS, mCopyTree, h_DropKeyS, mDropKey, drP_n, drP_c, logAt_n, logAt_c, disP_n, disP_c, notIn_n, notIn_c, j4, jh4, j1, j2, j6, jh, g1, hsb, hxk, hsu, hb, hU, hsb2]
              exact ⟨⟨k + 1, U, true, by omega, rfl, heq, hsU, _, rfl⟩, by omega⟩
            · simp (config := {maxSteps := 1000000}) (disch := omega) only [go_sem, ↓reduceIte, Nat.reduceEqDiff, Nat.reduceAdd, Nat.reduceMul, Nat.reduceSub, Nat.reduceLeDiff, Nat.reduceLT, Int.reduceToNat, Int.reduceLE, Int.reduceLT, Int.reduceNeg, h_validTree, mValidTree, h_copyTreeS, mCopyTree, h_DropKeyS, mDropKey, drP_n, drP_c, logAt_n, logAt_c, disP_n, disP_c, notIn_n, notIn_c, j4, jh4, j1, j2, j6, jh, g1, hsb, hxk, hsu, hb, hU, hsb2]
              exact ⟨⟨k + 1, U, true, by omega, rfl, heq, hsU, _, rfl⟩, by omega⟩
        · have g1 : decide ((k : Int) < (xs.length : Int)) = false := decide_eq_false (by omega)
          obtain rfl : k = xs.length := by omega
          rw [List.drop_length] at heq
          rw [← heq]
          cases o
          · simp (config := {maxSteps := 1000000}) (disch := omega) only [go_sem, ↓reduceIte, Nat.reduceEqDiff, Nat.reduceAdd, Nat.reduceMul, Nat.reduceSub, Nat.reduceLeDiff, Nat.reduceLT, Int.reduceToNat, Int.reduceLE, Int.reduceLT, Int.reduceNeg, h_validTree, mValidTree, h_copyTreeS, mCopyTree, h_DropKeyS, mDropKey, drP_n, drP_c, logAt_n, logAt_c, disP_n, disP_c, notIn_n, notIn_c, j4, jh4, j1, j2, j6, jh, g1, hsb, hsu]
            first | rfl | exact tr2_eq rfl
          · simp (config := {maxSteps := 1000000}) (disch := omega) only [go_sem, ↓reduceIte, Nat.reduceEqDiff, Nat.reduceAdd, Nat.reduceMul, Nat.reduceSub, Nat.reduceLeDiff, Nat.reduceLT, Int.reduceToNat, Int.reduceLE, Int.reduceLT, Int.reduceNeg, h_validTree, mValidTree, h_copyTreeS, mCopyTree, h_DropKeyS, mDropKey, drP_n, drP_c, logAt_n, logAt_c, disP_n, disP_c, notIn_n, notIn_c, j4, jh4, j1, j2, j6, jh, g1, hsb, hsu]
            first | rfl | exact tr2_eq rfl
    · have e0 : decide (24 < (xs.length : Int)) = true := decide_eq_true (by omega)
      rw [daV_f (fun h => hl h.2)]
      simp (config := {maxSteps := 1000000}) (disch := omega) only [go_sem, ↓reduceIte, Nat.reduceEqDiff, Nat.reduceAdd, Nat.reduceMul, Nat.reduceSub, Nat.reduceLeDiff, Nat.reduceLT, Int.reduceToNat, Int.reduceLE, Int.reduceLT, Int.reduceNeg, h_validTree, mValidTree, h_copyTreeS, mCopyTree, h_DropKeyS, mDropKey, drP_n, drP_c, logAt_n, logAt_c, disP_n, disP_c, notIn_n, notIn_c, hs, hv, e0]
      try rfl
theorem fo_DropAllS : FnOk Try.prog 22 := fnOk_of Try.func22 (by kernel_rfl)
theorem c_DropAllS : Contract Try.prog 22 mDropAll :=
  contract_of_does (DT := fun id => match id with | 6 => [(9, 0), (9, 3), (9, 4), (5, 9), (9, 5)] | _ => []) Try.checked.mixed tabOk (gok_model fo_validTree c_validTree (gok_model fo_copyTreeS c_copyTreeS (gok_model fo_DropKeyS c_DropKeyS gok_nil))) Try.func22 rfl (by kernel_rfl) (does_DropAllS rfl rfl rfl)


def mLawTreeI : Model := M2 .ro .ro true (cTr false) (cIs false) fun t xs => gd ((t.pages.length ≤ 9223372036854775807 ∧ t.pages.all bigP = true) ∧ xs.length ≤ 9223372036854775807) (.b true, [])

theorem does_FnExactDropAll {G : Nat → Option FM} (h_szTree : G 15 = some (.model mSzTree)) (h_toTree : G 17 = some (.model mToTree)) (h_toIntS : G 23 = some (.model mToIntS)) (h_DropAllS : G 22 = some (.model mDropAll)) (h_DropAllI : G 24 = some (.model mDropAll)) (h_eqTree : G 19 = some (.model mEqTree)) (h_eqIntS : G 25 = some (.model mEqIntS)) (h_markTree : G 20 = some (.each 2 [1] mMarkPageS)) (h_markIntS : G 26 = some (.model mMarkIntS)) (h_heldTree : G 21 = some (.model mHeldTree)) : Does T G (fun id => match id with | 13 => [(2, 0)] | _ => []) Try.f4 mLawTreeI := by
  refine does2 (rs := [.tmp 4]) rfl rfl fun t xs ro h => ?_
  obtain ⟨⟨⟨hs, hb⟩, hxl⟩, rfl⟩ := gd_some h
  refine ⟨fun _ => ⟨rfl, rfl⟩, ?_⟩
  obtain ⟨z, hz⟩ : ∃ z, szPs t.pages 1048576 = z := ⟨_, rfl⟩
  have la := daV_sm t xs
  generalize ha : (daV t xs).1 = a at la
  generalize hb' : (daV t xs).2 = b
  by_cases h3 : 1048576 < (xs.length : Int)
  · have e0 : decide (1048576 < (xs.length : Int)) = true := decide_eq_true h3
    simp (config := {maxSteps := 1000000}) (disch := omega) only [go_sem, ↓reduceIte, Nat.reduceEqDiff, Nat.reduceAdd, Nat.reduceMul, Nat.reduceSub, Nat.reduceLeDiff, Nat.reduceLT, Int.reduceToNat, Int.reduceLE, Int.reduceLT, Int.reduceNeg, h_szTree, mSzTree, h_toTree, mToTree, h_toIntS, mToIntS, h_DropAllS, mDropAll, h_DropAllI, mDropAll, h_eqTree, mEqTree, h_eqIntS, mEqIntS, h_markTree, mMarkPageS, h_markIntS, mMarkIntS, h_heldTree, mHeldTree, drP_n, drP_c, logAt_n, logAt_c, disP_n, disP_c, notIn_n, notIn_c, hb, e0]
  · have e0 : decide (1048576 < (xs.length : Int)) = false := decide_eq_false h3
    by_cases h1 : z < 0
    · have e1 : decide (z < 0) = true := decide_eq_true h1
      simp (config := {maxSteps := 1000000}) (disch := omega) only [go_sem, ↓reduceIte, Nat.reduceEqDiff, Nat.reduceAdd, Nat.reduceMul, Nat.reduceSub, Nat.reduceLeDiff, Nat.reduceLT, Int.reduceToNat, Int.reduceLE, Int.reduceLT, Int.reduceNeg, h_szTree, mSzTree, h_toTree, mToTree, h_toIntS, mToIntS, h_DropAllS, mDropAll, h_DropAllI, mDropAll, h_eqTree, mEqTree, h_eqIntS, mEqIntS, h_markTree, mMarkPageS, h_markIntS, mMarkIntS, h_heldTree, mHeldTree, drP_n, drP_c, logAt_n, logAt_c, disP_n, disP_c, notIn_n, notIn_c, hb, hz, e0, e1]
    · have e1 : decide (z < 0) = false := decide_eq_false h1
      obtain ⟨h2, hsm⟩ := lawT_small hz h1
      have lb := la.sm
      have lc := (la.mark a.root 1).sm
      dsimp only at lc
      have l1 := la.tot
      have l2 := la.len
      have l3 := mkPs_len a.pages 1
      have m0 := marks_len xs.length (1 + (tot t.pages : Int))
      have e2 : decide (1 + (tot t.pages : Int) < 0) = false := decide_eq_false (by omega)
      have e3 : decide (1 + (tot a.pages : Int) < 0) = false := decide_eq_false (by omega)
      have e4 : decide (1 + (tot t.pages : Int) + (xs.length : Int) < 0) = false := decide_eq_false (by omega)
      have hfl := flat_mk t.pages 1
      have hfa := flat_mk a.pages 1
      simp (config := {maxSteps := 1000000}) (disch := omega) only [go_sem, ↓reduceIte, Nat.reduceEqDiff, Nat.reduceAdd, Nat.reduceMul, Nat.reduceSub, Nat.reduceLeDiff, Nat.reduceLT, Int.reduceToNat, Int.reduceLE, Int.reduceLT, Int.reduceNeg, h_szTree, mSzTree, h_toTree, mToTree, h_toIntS, mToIntS, h_DropAllS, mDropAll, h_DropAllI, mDropAll, h_eqTree, mEqTree, h_eqIntS, mEqIntS, h_markTree, mMarkPageS, h_markIntS, mMarkIntS, h_heldTree, mHeldTree, drP_n, drP_c, logAt_n, logAt_c, disP_n, disP_c, notIn_n, notIn_c, hb, hz, e0, e1, hsm, ha, hb', e2, e3, e4, lb, lc, hfl, hfa, sub_mk, mkPs_idem, mkPs_tot, marks_len, sub_marks]
theorem c_FnExactDropAll : Contract Try.prog 4 mLawTreeI :=
  contract_of_does (DT := fun id => match id with | 13 => [(2, 0)] | _ => []) Try.checked.mixed tabOk (gok_model fo_szTree c_szTree (gok_model fo_toTree c_toTree (gok_model fo_toIntS c_toIntS (gok_model fo_DropAllS c_DropAllS (gok_model fo_DropAllI c_DropAllI (gok_model fo_eqTree c_eqTree (gok_model fo_eqIntS c_eqIntS (gok_each fo_markTree c_markTree (gok_model fo_markIntS c_markIntS (gok_model fo_heldTree c_heldTree gok_nil)))))))))) Try.func4 rfl (by kernel_rfl) (does_FnExactDropAll rfl rfl rfl rfl rfl rfl rfl rfl rfl rfl)

theorem fn_FnExactDropAll (t : Tr) (h : TrW t) (x : List Int) (hx : (∀ y ∈ x, intWf .i64 y) ∧ x.length ≤ maxLen) : mLawTreeI.fn [eTr false t, eIs false x] = some (.b true, []) := by
  obtain ⟨h1, h2⟩ := bigP_of h
  have h3 : x.length ≤ 9223372036854775807 := hx.2
  simp (config := {maxSteps := 1000000}) (disch := omega) only [go_sem, ↓reduceIte, Nat.reduceEqDiff, Nat.reduceAdd, Nat.reduceMul, Nat.reduceSub, Nat.reduceLeDiff, Nat.reduceLT, Int.reduceToNat, Int.reduceLE, Int.reduceLT, Int.reduceNeg, mLawTreeI, h2]
end Go.TM
