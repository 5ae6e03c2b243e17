/- Contracts, 12: routing in an inside. -/
import Derived.Test.YtbpfagbihffmbaaF40
namespace Go.TM
open Go.Proofs
set_option linter.unusedVariables false
set_option linter.unusedSimpArgs false
set_option maxRecDepth 100000

noncomputable def rtV (x : Inn) (k : Int) : Int := if vInn x then x.kids.getD (cntU x.keys k) 0 else -1
noncomputable def mRoute : Model := M2 .ro .ro true (cInn false) cI fun x k => gd (x.keys.length ≤ 1099511627776 ∧ x.kids.length ≤ 1099511627776) (eI (rtV x k), [])


theorem does_RouteKeyI {G : Nat → Option FM} (h_ValidInnerI : G 134 = some (.model mValidInner)) (h_KeysUpToI : G 159 = some (.model mKeysUpTo)) : Does T G (fun id => match id with | 3 => [(5, 0), (5, 1)] | _ => []) Try.f126 mRoute := by
  refine does2 (rs := [.tmp 4]) rfl rfl fun x k ro h => ?_
  obtain ⟨⟨hs1, hs2⟩, rfl⟩ := gd_some h
  refine ⟨fun _ => ⟨rfl, rfl⟩, ?_⟩
  cases hv : vInn x
  · rw [show rtV x k = -1 from by unfold rtV; rw [hv]; rfl]
    simp (config := {maxSteps := 1000000}) (disch := omega) only [go_sem, ↓reduceIte, Nat.reduceEqDiff, Nat.reduceAdd, Nat.reduceMul, Nat.reduceSub, Nat.reduceLeDiff, Nat.reduceLT, Int.reduceToNat, Int.reduceLE, Int.reduceLT, Int.reduceNeg, h_ValidInnerI, mValidInner, h_KeysUpToI, mKeysUpTo, hv]
  · rw [show rtV x k = x.kids.getD (cntU x.keys k) 0 from by unfold rtV; rw [hv]; rfl]
    have hk := (vInn_iff.1 hv)
    have hc : cntU x.keys k ≤ x.keys.length := (List.takeWhile_prefix _).length_le
    simp (config := {maxSteps := 1000000}) (disch := omega) only [go_sem, ↓reduceIte, Nat.reduceEqDiff, Nat.reduceAdd, Nat.reduceMul, Nat.reduceSub, Nat.reduceLeDiff, Nat.reduceLT, Int.reduceToNat, Int.reduceLE, Int.reduceLT, Int.reduceNeg, h_ValidInnerI, mValidInner, h_KeysUpToI, mKeysUpTo, hv, vKeysUpTo, hk.2.1]
    rfl
theorem fo_RouteKeyI : FnOk Try.prog 126 := fnOk_of Try.func126 (by kernel_rfl)
theorem c_RouteKeyI : Contract Try.prog 126 mRoute :=
  contract_of_does (DT := fun id => match id with | 3 => [(5, 0), (5, 1)] | _ => []) Try.checked.mixed tabOk (gok_model fo_ValidInnerI c_ValidInnerI (gok_model fo_KeysUpToI c_KeysUpToI gok_nil)) Try.func126 rfl (by kernel_rfl) (does_RouteKeyI rfl rfl)


def mLawInn2 : Model := M2 .ro .ro true (cInn false) cI fun x k => gd (x.keys.length ≤ 9223372036854775807 ∧ x.kids.length ≤ 9223372036854775807) (.b true, [])

theorem fn_FnExactRouteKey (x : Inn) (h : ((∀ y ∈ x.keys, intWf .i64 y) ∧ x.keys.length ≤ maxLen) ∧ (∀ y ∈ x.kids, intWf .i64 y) ∧ x.kids.length ≤ maxLen) (k : Int) (hk : intWf .i64 k) : mLawInn2.fn [eInn false x, eI k] = some (.b true, []) := by
  have h2 : x.keys.length ≤ 9223372036854775807 := h.1.2
  have h3 : x.kids.length ≤ 9223372036854775807 := h.2.2
  simp (config := {maxSteps := 1000000}) (disch := omega) only [go_sem, ↓reduceIte, Nat.reduceEqDiff, Nat.reduceAdd, Nat.reduceMul, Nat.reduceSub, Nat.reduceLeDiff, Nat.reduceLT, Int.reduceToNat, Int.reduceLE, Int.reduceLT, Int.reduceNeg, mLawInn2]
end Go.TM
