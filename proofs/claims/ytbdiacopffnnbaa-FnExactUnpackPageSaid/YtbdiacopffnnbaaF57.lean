/- Contracts, 57: the law of renumbering. -/
import Derived.Test.YtbdiacopffnnbaaF56
namespace Go.TM
open Go.Proofs
set_option linter.unusedVariables false
set_option linter.unusedSimpArgs false
set_option maxRecDepth 100000
set_option maxHeartbeats 4000000

theorem tot_le {m : Nat} : ∀ {ps : List Pg}, (∀ p ∈ ps, totP p ≤ m) → tot ps ≤ ps.length * m
  | [], _ => by simp [tot]
  | p :: ps, h => by
    have h1 := h p (by simp)
    have h2 := tot_le (ps := ps) fun q hq => h q (by simp [hq])
    rw [tot, List.length_cons, Nat.add_one_mul]
    omega
theorem PD.tot {t : Tr} : ∀ {h : Nat} {x : Int}, PD t h x → totP (pgAt t x) ≤ 9
  | 0, x, p => by
    have h1 := p.leaf.kids
    have h2 := p.leaf.len
    have h3 := p.leaf.vals
    unfold totP
    rw [h1, h3]
    simp
    omega
  | h + 1, x, p => by
    have h1 := p.inn.vals
    have h2 := p.inn.len
    have h3 := p.inn.kids
    unfold totP
    rw [h1, h3]
    simp
    omega
theorem wk_pd' {t : Tr} : ∀ {h : Nat} {x : Int}, PD t h x → ∀ z ∈ wk t h x, ∃ h', PD t h' z
  | 0, x, p, z, hz => by
    simp only [wk, List.mem_singleton] at hz
    exact ⟨0, hz ▸ p⟩
  | h + 1, x, p, z, hz => by
    simp only [wk, List.mem_cons, List.mem_flatMap] at hz
    rcases hz with rfl | ⟨y, hy, hz⟩
    · exact ⟨h + 1, p⟩
    · exact wk_pd' (p.inn.pd y hy) z hz
/-- A tree that is handed back is small. -/
structure SmTr (t : Tr) : Prop where
  len : t.pages.length ≤ 1000
  tot : tot t.pages ≤ 10000
theorem SmTr.sm {t : Tr} (h : SmTr t) : smT t.pages = true := smT_iff.2 (by have := h.len; have := h.tot; omega)
theorem smTr_nil (r : Int) : SmTr ⟨r, []⟩ := ⟨by simp, by simp [Go.TM.tot]⟩
theorem mkPs_idem (ps : List Pg) (k : Int) : mkPs (mkPs ps k) k = mkPs ps k := by
  induction ps generalizing k with
  | nil => rfl
  | cons p ps ih =>
    simp only [mkPs]
    rw [mkPg_tot, show (p.keys.length + p.kids.length + p.vals.length : Nat) = totP p from rfl, ih]
    simp only [mkPg, marks_len]
theorem SmTr.mark {t : Tr} (h : SmTr t) (r k : Int) : SmTr ⟨r, mkPs t.pages k⟩ := ⟨by rw [mkPs_len]; exact h.len, by rw [mkPs_tot]; exact h.tot⟩
theorem flat_mk (ps : List Pg) (k : Int) : ((mkPs ps k).flatMap (ePg true)).length = (ps.flatMap (ePg true)).length := by rw [flatPg_len, flatPg_len, mkPs_len]
theorem rnV_sm (t : Tr) : SmTr (rnV t).1 := by
  cases hv : vTr t
  · rw [rnV_f hv]; exact smTr_nil 0
  · rw [rnV_t hv]
    have pd := (vTr_iff.1 hv).pd
    have hl : (rnT t).pages.length ≤ 16 := by unfold rnT; rw [List.length_map]; exact pd.wlen
    refine ⟨by show (rnT t).pages.length ≤ 1000; omega, ?_⟩
    have h1 := tot_le (m := 9) (ps := (rnT t).pages) fun p hp => by
      unfold rnT at hp
      obtain ⟨x, hx, rfl⟩ := List.mem_map.1 hp
      obtain ⟨h', ph⟩ := wk_pd' pd x hx
      have := ph.tot
      unfold totP at this ⊢
      simpa [rnP] using this
    show Go.TM.tot (rnT t).pages ≤ 10000
    omega

theorem sub_mk (ps : List Pg) (k : Int) : sub (mkPs ps k) 0 ps.length = mkPs ps k := by
  have := sub_all (mkPs ps k)
  rwa [mkPs_len] at this

theorem does_FnExactRenumberTree {G : Nat → Option FM} (h_szTree : G 61 = some (.model mSzTree)) (h_toTree : G 63 = some (.model mToTree)) (h_RenumberS : G 96 = some (.model mRenumber)) (h_RenumberI : G 97 = some (.model mRenumber)) (h_eqTree : G 65 = some (.model mEqTree)) (h_markTree : G 80 = some (.each 2 [1] mMarkPageS)) (h_heldTree : G 81 = some (.model mHeldTree)) : Does T G (fun id => match id with | 10 => [(2, 0)] | _ => []) Try.f25 mLawTree := by
  refine does1 (rs := [.tmp 2]) rfl rfl fun t ro h => ?_
  obtain ⟨⟨hs, hb⟩, rfl⟩ := gd_some h
  refine ⟨fun _ => ⟨rfl, rfl⟩, ?_⟩
  obtain ⟨z, hz⟩ : ∃ z, szPs t.pages 1048576 = z := ⟨_, rfl⟩
  have la := rnV_sm t
  generalize ha : (rnV t).1 = a at la
  generalize hb' : (rnV t).2 = b
  by_cases h1 : z < 0
  · have e1 : decide (z < 0) = true := decide_eq_true h1
    simp (config := {maxSteps := 1000000}) (disch := omega) only [go_sem, ↓reduceIte, Nat.reduceEqDiff, Nat.reduceAdd, Nat.reduceMul, Nat.reduceSub, Nat.reduceLeDiff, Nat.reduceLT, Int.reduceToNat, Int.reduceLE, Int.reduceLT, Int.reduceNeg, h_szTree, mSzTree, h_toTree, mToTree, h_RenumberS, mRenumber, h_RenumberI, mRenumber, h_eqTree, mEqTree, h_markTree, mMarkPageS, h_heldTree, mHeldTree, drP_n, drP_c, logAt_n, logAt_c, disP_n, disP_c, notIn_n, notIn_c, hb, hz, e1]
  · have e1 : decide (z < 0) = false := decide_eq_false h1
    obtain ⟨h2, hsm⟩ := lawT_small hz h1
    have lb := la.sm
    have lc := (la.mark a.root 1).sm
    dsimp only at lc
    have l1 := la.tot
    have l2 := la.len
    have l3 := mkPs_len a.pages 1
    have e2 : decide (1 + (tot t.pages : Int) < 0) = false := decide_eq_false (by omega)
    have e3 : decide (1 + (tot a.pages : Int) < 0) = false := decide_eq_false (by omega)
    have hfl := flat_mk t.pages 1
    have hfa := flat_mk a.pages 1
    simp (config := {maxSteps := 1000000}) (disch := omega) only [go_sem, ↓reduceIte, Nat.reduceEqDiff, Nat.reduceAdd, Nat.reduceMul, Nat.reduceSub, Nat.reduceLeDiff, Nat.reduceLT, Int.reduceToNat, Int.reduceLE, Int.reduceLT, Int.reduceNeg, h_szTree, mSzTree, h_toTree, mToTree, h_RenumberS, mRenumber, h_RenumberI, mRenumber, h_eqTree, mEqTree, h_markTree, mMarkPageS, h_heldTree, mHeldTree, drP_n, drP_c, logAt_n, logAt_c, disP_n, disP_c, notIn_n, notIn_c, hb, hz, e1, hsm, ha, hb', e2, e3, lb, lc, hfl, hfa, sub_mk, mkPs_idem, mkPs_tot]
theorem fo_FnExactRenumberTree : FnOk Try.prog 25 := fnOk_of Try.func25 (by kernel_rfl)
theorem c_FnExactRenumberTree : Contract Try.prog 25 mLawTree :=
  contract_of_does (DT := fun id => match id with | 10 => [(2, 0)] | _ => []) Try.checked.mixed tabOk (gok_model fo_szTree c_szTree (gok_model fo_toTree c_toTree (gok_model fo_RenumberS c_RenumberS (gok_model fo_RenumberI c_RenumberI (gok_model fo_eqTree c_eqTree (gok_each fo_markTree c_markTree (gok_model fo_heldTree c_heldTree gok_nil))))))) Try.func25 rfl (by kernel_rfl) (does_FnExactRenumberTree rfl rfl rfl rfl rfl rfl rfl)

theorem fn_FnExactRenumberTree (t : Tr) (h : TrW t) : mLawTree.fn [eTr false t] = some (.b true, []) := by
  obtain ⟨h1, h2⟩ := bigP_of h
  simp (config := {maxSteps := 1000000}) (disch := omega) only [go_sem, ↓reduceIte, Nat.reduceEqDiff, Nat.reduceAdd, Nat.reduceMul, Nat.reduceSub, Nat.reduceLeDiff, Nat.reduceLT, Int.reduceToNat, Int.reduceLE, Int.reduceLT, Int.reduceNeg, mLawTree, h2]
end Go.TM
