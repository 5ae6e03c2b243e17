/- Contracts, 12: routing in an inside. -/
import Derived.Test.YthikbhekdnmhbaaF11
namespace Go.TM
open Go.Proofs
set_option linter.unusedVariables false
set_option linter.unusedSimpArgs false
set_option maxRecDepth 100000

noncomputable def rtV (x : Inn) (k : Int) : Int := if vInn x then x.kids.getD (cntU x.keys k) 0 else -1
noncomputable def mRoute : Model := M2 .ro .ro true (cInn false) cI fun x k => gd (x.keys.length ≤ 1099511627776 ∧ x.kids.length ≤ 1099511627776) (eI (rtV x k), [])

theorem does_RouteKeyS {G : Nat → Option FM} (h_validInner : G 100 = some (.model mValidInner)) (h_upTo : G 92 = some (.model mUpTo)) : Does T G (fun id => match id with | 3 => [(5, 0), (5, 1)] | _ => []) Try.f65 mRoute := by
  refine does2 (rs := [.tmp 4]) rfl rfl fun x k ro h => ?_
  obtain ⟨⟨hs1, hs2⟩, rfl⟩ := gd_some h
  refine ⟨fun _ => ⟨rfl, rfl⟩, ?_⟩
  cases hv : vInn x
  · rw [show rtV x k = -1 from by unfold rtV; rw [hv]; rfl]
    simp (config := {maxSteps := 1000000}) (disch := omega) only [go_sem, ↓reduceIte, Nat.reduceEqDiff, Nat.reduceAdd, Nat.reduceMul, Nat.reduceSub, Nat.reduceLeDiff, Nat.reduceLT, Int.reduceToNat, Int.reduceLE, Int.reduceLT, Int.reduceNeg, h_validInner, mValidInner, h_upTo, mUpTo, hv]
  · rw [show rtV x k = x.kids.getD (cntU x.keys k) 0 from by unfold rtV; rw [hv]; rfl]
    have hk := (vInn_iff.1 hv)
    have hc : cntU x.keys k ≤ x.keys.length := (List.takeWhile_prefix _).length_le
    simp (config := {maxSteps := 1000000}) (disch := omega) only [go_sem, ↓reduceIte, Nat.reduceEqDiff, Nat.reduceAdd, Nat.reduceMul, Nat.reduceSub, Nat.reduceLeDiff, Nat.reduceLT, Int.reduceToNat, Int.reduceLE, Int.reduceLT, Int.reduceNeg, h_validInner, mValidInner, h_upTo, mUpTo, hv]
    rfl
theorem fo_RouteKeyS : FnOk Try.prog 65 := fnOk_of Try.func65 (by kernel_rfl)
theorem c_RouteKeyS : Contract Try.prog 65 mRoute :=
  contract_of_does (DT := fun id => match id with | 3 => [(5, 0), (5, 1)] | _ => []) Try.checked.mixed tabOk (gok_model fo_validInner c_validInner (gok_model fo_upTo c_upTo gok_nil)) Try.func65 rfl (by kernel_rfl) (does_RouteKeyS rfl rfl)


theorem does_RouteKeyI {G : Nat → Option FM} (h_ValidInnerI : G 52 = some (.model mValidInner)) (h_KeysUpToI : G 42 = some (.model mKeysUpTo)) : Does T G (fun id => match id with | 3 => [(5, 0), (5, 1)] | _ => []) Try.f66 mRoute := by
  refine does2 (rs := [.tmp 4]) rfl rfl fun x k ro h => ?_
  obtain ⟨⟨hs1, hs2⟩, rfl⟩ := gd_some h
  refine ⟨fun _ => ⟨rfl, rfl⟩, ?_⟩
  cases hv : vInn x
  · rw [show rtV x k = -1 from by unfold rtV; rw [hv]; rfl]
    simp (config := {maxSteps := 1000000}) (disch := omega) only [go_sem, ↓reduceIte, Nat.reduceEqDiff, Nat.reduceAdd, Nat.reduceMul, Nat.reduceSub, Nat.reduceLeDiff, Nat.reduceLT, Int.reduceToNat, Int.reduceLE, Int.reduceLT, Int.reduceNeg, h_ValidInnerI, mValidInner, h_KeysUpToI, mKeysUpTo, hv]
  · rw [show rtV x k = x.kids.getD (cntU x.keys k) 0 from by unfold rtV; rw [hv]; rfl]
    have hk := (vInn_iff.1 hv)
    have hc : cntU x.keys k ≤ x.keys.length := (List.takeWhile_prefix _).length_le
    simp (config := {maxSteps := 1000000}) (disch := omega) only [go_sem, ↓reduceIte, Nat.reduceEqDiff, Nat.reduceAdd, Nat.reduceMul, Nat.reduceSub, Nat.reduceLeDiff, Nat.reduceLT, Int.reduceToNat, Int.reduceLE, Int.reduceLT, Int.reduceNeg, h_ValidInnerI, mValidInner, h_KeysUpToI, mKeysUpTo, hv, vKeysUpTo, hk.2.1]
    rfl
theorem fo_RouteKeyI : FnOk Try.prog 66 := fnOk_of Try.func66 (by kernel_rfl)
theorem c_RouteKeyI : Contract Try.prog 66 mRoute :=
  contract_of_does (DT := fun id => match id with | 3 => [(5, 0), (5, 1)] | _ => []) Try.checked.mixed tabOk (gok_model fo_ValidInnerI c_ValidInnerI (gok_model fo_KeysUpToI c_KeysUpToI gok_nil)) Try.func66 rfl (by kernel_rfl) (does_RouteKeyI rfl rfl)


def mLawInn2 : Model := M2 .ro .ro true (cInn false) cI fun x k => gd (x.keys.length ≤ 9223372036854775807 ∧ x.kids.length ≤ 9223372036854775807) (.b true, [])

theorem does_FnExactRouteKey {G : Nat → Option FM} (h_szInner : G 49 = some (.model mSzInner)) (h_toInner : G 51 = some (.model mToInner)) (h_RouteKeyS : G 65 = some (.model mRoute)) (h_RouteKeyI : G 66 = some (.model mRoute)) (h_eqInner : G 53 = some (.model mEqInner)) : Does T G (fun id => match id with | 10 => [(2, 0)] | _ => []) Try.f23 mLawInn2 := by
  refine does2 (rs := [.tmp 4]) rfl rfl fun x key ro h => ?_
  obtain ⟨hs, rfl⟩ := gd_some h
  refine ⟨fun _ => ⟨rfl, rfl⟩, ?_⟩
  simp (config := {maxSteps := 1000000}) (disch := omega) only [go_sem, ↓reduceIte, Nat.reduceEqDiff, Nat.reduceAdd, Nat.reduceMul, Nat.reduceSub, Nat.reduceLeDiff, Nat.reduceLT, Int.reduceToNat, Int.reduceLE, Int.reduceLT, Int.reduceNeg, h_szInner, mSzInner, h_toInner, mToInner, h_RouteKeyS, mRoute, h_RouteKeyI, mRoute, h_eqInner, mEqInner]
  by_cases h1 : 1048576 < (x.keys.length : Int)
  · simp (config := {maxSteps := 1000000}) (disch := omega) only [go_sem, ↓reduceIte, Nat.reduceEqDiff, Nat.reduceAdd, Nat.reduceMul, Nat.reduceSub, Nat.reduceLeDiff, Nat.reduceLT, Int.reduceToNat, Int.reduceLE, Int.reduceLT, Int.reduceNeg, h_szInner, mSzInner, h_toInner, mToInner, h_RouteKeyS, mRoute, h_RouteKeyI, mRoute, h_eqInner, mEqInner, h1, szI]
  · by_cases h2 : 1048576 - (x.keys.length : Int) < (x.kids.length : Int)
    · simp (config := {maxSteps := 1000000}) (disch := omega) only [go_sem, ↓reduceIte, Nat.reduceEqDiff, Nat.reduceAdd, Nat.reduceMul, Nat.reduceSub, Nat.reduceLeDiff, Nat.reduceLT, Int.reduceToNat, Int.reduceLE, Int.reduceLT, Int.reduceNeg, h_szInner, mSzInner, h_toInner, mToInner, h_RouteKeyS, mRoute, h_RouteKeyI, mRoute, h_eqInner, mEqInner, h1, h2, szI]
    · have e : ¬ (1048576 - (x.keys.length : Int) - (x.kids.length : Int)) < 0 := by omega
      simp (config := {maxSteps := 1000000}) (disch := omega) only [go_sem, ↓reduceIte, Nat.reduceEqDiff, Nat.reduceAdd, Nat.reduceMul, Nat.reduceSub, Nat.reduceLeDiff, Nat.reduceLT, Int.reduceToNat, Int.reduceLE, Int.reduceLT, Int.reduceNeg, h_szInner, mSzInner, h_toInner, mToInner, h_RouteKeyS, mRoute, h_RouteKeyI, mRoute, h_eqInner, mEqInner, h1, h2, szI, e]
      rfl
theorem fo_FnExactRouteKey : FnOk Try.prog 23 := fnOk_of Try.func23 (by kernel_rfl)
theorem c_FnExactRouteKey : Contract Try.prog 23 mLawInn2 :=
  contract_of_does (DT := fun id => match id with | 10 => [(2, 0)] | _ => []) Try.checked.mixed tabOk (gok_model fo_szInner c_szInner (gok_model fo_toInner c_toInner (gok_model fo_RouteKeyS c_RouteKeyS (gok_model fo_RouteKeyI c_RouteKeyI (gok_model fo_eqInner c_eqInner gok_nil))))) Try.func23 rfl (by kernel_rfl) (does_FnExactRouteKey rfl rfl rfl rfl rfl)

theorem fn_FnExactRouteKey (x : Inn) (h : ((∀ y ∈ x.keys, intWf .i64 y) ∧ x.keys.length ≤ maxLen) ∧ (∀ y ∈ x.kids, intWf .i64 y) ∧ x.kids.length ≤ maxLen) (k : Int) (hk : intWf .i64 k) : mLawInn2.fn [eInn false x, eI k] = some (.b true, []) := by
  have h2 : x.keys.length ≤ 9223372036854775807 := h.1.2
  have h3 : x.kids.length ≤ 9223372036854775807 := h.2.2
  simp (config := {maxSteps := 1000000}) (disch := omega) only [go_sem, ↓reduceIte, Nat.reduceEqDiff, Nat.reduceAdd, Nat.reduceMul, Nat.reduceSub, Nat.reduceLeDiff, Nat.reduceLT, Int.reduceToNat, Int.reduceLE, Int.reduceLT, Int.reduceNeg, mLawInn2]
end Go.TM
