/- Contracts, 5: inner pages. -/
import Derived.Test.YtbpfagbihffmbaaF4
namespace Go.TM
open Go.Proofs
set_option linter.unusedVariables false
set_option linter.unusedSimpArgs false
set_option maxRecDepth 100000

def szI (x : Inn) (n : Int) : Int := if n < x.keys.length then -1 else if n - x.keys.length < x.kids.length then -1 else n - x.keys.length - x.kids.length
def mSzInner : Model := M2 .ro .ro true (cInn false) cI fun x n => gd (x.keys.length ≤ 9223372036854775807 ∧ x.kids.length ≤ 9223372036854775807 ∧ 0 ≤ n ∧ n ≤ 1048576) (eI (szI x n), [])
def mToInner : Model := M1 .ro true (cInn false) fun x => gd (x.keys.length ≤ 1099511627776 ∧ x.kids.length ≤ 1099511627776) (eInn true x, [])
def mEqInner : Model := M2 .ro .ro true (cInn false) (cInn false) fun x y => gd ((x.keys.length ≤ 1099511627776 ∧ x.kids.length ≤ 1099511627776) ∧ y.keys.length ≤ 1099511627776 ∧ y.kids.length ≤ 1099511627776) (.b (decide (x = y)), [])
open Classical in
/-- An inner page as it should be. -/
noncomputable def vInn (x : Inn) : Bool := decide (x.kids.Nodup) && (vk x.keys && inR x.keys.length 1 5 && decide (x.kids.length = x.keys.length + 1) && allR x.kids 0 15)
noncomputable def mValidInner : Model := M1 .ro true (cInn false) fun x => gd (x.keys.length ≤ 1099511627776 ∧ x.kids.length ≤ 1099511627776) (.b (vInn x), [])

theorem nodup_take {xs : List Int} {k : Nat} (h : k < xs.length) (hn : (xs.take (k + 1)).Nodup) : (xs.take k).Nodup ∧ xs.getD k 0 ∉ xs.take k := by
  rw [List.take_succ_eq_append_getElem h, List.nodup_append] at hn
  refine ⟨hn.1, fun hm => ?_⟩
  have := hn.2.2 _ hm (xs.getD k 0) (by simp [h])
  exact this rfl
theorem nodup_take' {xs : List Int} {k : Nat} (h : k < xs.length) (hn : (xs.take k).Nodup) (hm : xs.getD k 0 ∉ xs.take k) : (xs.take (k + 1)).Nodup := by
  rw [List.take_succ_eq_append_getElem h, List.nodup_append]
  refine ⟨hn, by simp, fun a ha b hb => ?_⟩
  simp at hb
  subst hb
  intro he
  subst he
  exact hm (by simpa [h] using ha)




theorem get_B {xs : List Bool} {k : Nat} (h : k < xs.length) : (xs.map A.b)[k]? = some (A.b (xs.getD k false)) := by
  simp [List.getElem?_map, List.getElem?_eq_getElem h]
theorem set_B (xs : List Bool) (k : Nat) (v : Bool) : (xs.map A.b).set k (A.b v) = (xs.set k v).map A.b := by simp [List.map_set]

theorem rep_getD (n j : Nat) : (List.replicate n false).getD j false = false := by
  rw [List.getD_eq_getElem?_getD, List.getElem?_replicate]
  split <;> rfl
theorem vInn_iff {x : Inn} : vInn x = true ↔ x.kids.Nodup ∧ vk x.keys = true ∧ 1 ≤ x.keys.length ∧ x.keys.length ≤ 5 ∧ x.kids.length = x.keys.length + 1 ∧ allR x.kids 0 15 = true := by
  simp only [vInn, inR, Bool.and_eq_true, decide_eq_true_eq]
  constructor
  · rintro ⟨a, ⟨⟨b, c, d⟩, e⟩, f⟩
    exact ⟨a, b, by omega, by omega, e, f⟩
  · rintro ⟨a, b, c, d, e, f⟩
    exact ⟨a, ⟨⟨b, by omega, by omega⟩, e⟩, f⟩
theorem vInn_f {x : Inn} (h : (x.kids.Nodup ∧ vk x.keys = true ∧ 1 ≤ x.keys.length ∧ x.keys.length ≤ 5 ∧ x.kids.length = x.keys.length + 1 ∧ allR x.kids 0 15 = true) → False) : vInn x = false := by
  rw [Bool.eq_false_iff]
  exact fun hh => h (vInn_iff.1 hh)

theorem does_ValidInnerI {G : Nat → Option FM} (h_ValidKeysI : G 163 = some (.model mValidKeys)) : Does T G (fun id => match id with  | _ => []) Try.f134 mValidInner := by
  refine does1 (rs := [.tmp 2]) rfl rfl fun x ro h => ?_
  obtain ⟨hs, rfl⟩ := gd_some h
  refine ⟨fun _ => ⟨rfl, rfl⟩, ?_⟩
  simp (config := {maxSteps := 1000000}) (disch := omega) only [go_sem, ↓reduceIte, Nat.reduceEqDiff, Nat.reduceAdd, Nat.reduceMul, Nat.reduceSub, Nat.reduceLeDiff, Nat.reduceLT, Int.reduceToNat, Int.reduceLE, Int.reduceLT, Int.reduceNeg, h_ValidKeysI, mValidKeys]
  repeat' ((first | refine runKS_split (fun h9 => ?_) (fun h9 => ?_) | refine cond_split (fun h9 => ?_) (fun h9 => ?_) | refine runK_split (fun h9 => ?_) (fun h9 => ?_)) <;> simp (config := {maxSteps := 1000000}) (disch := omega) only [go_sem, ↓reduceIte, Nat.reduceEqDiff, Nat.reduceAdd, Nat.reduceMul, Nat.reduceSub, Nat.reduceLeDiff, Nat.reduceLT, Int.reduceToNat, Int.reduceLE, Int.reduceLT, Int.reduceNeg, h_ValidKeysI, mValidKeys, h9])
  any_goals (rw [vInn_f (by first | (intro _; rename_i q; have := of_decide_eq_true q; omega) | (intro _; have := of_decide_eq_true h9; omega) | (intro h; simp_all))]; done)
  rename_i q1 q2 q3
  have q1 := of_decide_eq_false q1
  have q2 := of_decide_eq_false q2
  have q3 : vk x.keys = true := by simpa using q3
  have q4 : x.kids.length = x.keys.length + 1 := by simp only [Bool.not_eq_false', decide_eq_true_eq] at h9; omega
  refine W_loop_i (fun s => s.sl 31 = eIs false x.kids ∧ s.sl 32 = eI x.kids.length ∧ ∃ m, m < s.n ∧ s.sl 3 = .ptr (m, 0) [] 0 0 ∧ ∃ k : Nat, k ≤ x.kids.length ∧ s.sl 33 = eI k ∧ (x.kids.take k).Nodup ∧ (∀ i, i < k → inR (x.kids.getD i 0) 0 15 = true) ∧ ∃ bs : List Bool, bs.length = 16 ∧ (∀ j, j < 16 → (bs.getD j false = true ↔ (j : Int) ∈ x.kids.take k)) ∧ s.hp (m, 0) = some ⟨16, 1, bs.map A.b, fun _ => 0⟩) (fun s => x.kids.length - iN (s.sl 33)) ?_ ?_
  · refine ⟨rfl, rfl, _, ?_, rfl, 0, Nat.zero_le _, rfl, by simp, fun i hi => by omega, List.replicate 16 false, rfl, fun j hj => ?_, ?_⟩
    · simp (config := {maxSteps := 1000000}) (disch := omega) only [go_sem, ↓reduceIte, Nat.reduceEqDiff, Nat.reduceAdd, Nat.reduceMul, Nat.reduceSub, Nat.reduceLeDiff, Nat.reduceLT, Int.reduceToNat, Int.reduceLE, Int.reduceLT, Int.reduceNeg, h_ValidKeysI, mValidKeys]
    · rw [rep_getD 16 j]
      simp
    · simp (config := {maxSteps := 1000000}) (disch := omega) only [go_sem, ↓reduceIte, Nat.reduceEqDiff, Nat.reduceAdd, Nat.reduceMul, Nat.reduceSub, Nat.reduceLeDiff, Nat.reduceLT, Int.reduceToNat, Int.reduceLE, Int.reduceLT, Int.reduceNeg, h_ValidKeysI, mValidKeys]
  · rintro sl hp n ⟨h31, h32, m, hm, h3, k, hk, h33, hnd, hin, bs, hbl, hbs, hh⟩
    dsimp only at h31 h32 h3 h33 hh hm
    simp (config := {maxSteps := 1000000}) (disch := omega) only [go_sem, ↓reduceIte, Nat.reduceEqDiff, Nat.reduceAdd, Nat.reduceMul, Nat.reduceSub, Nat.reduceLeDiff, Nat.reduceLT, Int.reduceToNat, Int.reduceLE, Int.reduceLT, Int.reduceNeg, h_ValidKeysI, mValidKeys, h31, h32, h33, h3, hh]
    (first | refine runKS_split (fun h2 => ?_) (fun h2 => ?_) | refine cond_split (fun h2 => ?_) (fun h2 => ?_) | refine runK_split (fun h2 => ?_) (fun h2 => ?_))
    · have hlt : k < x.kids.length := by have := of_decide_eq_true h2; omega
      generalize hx : x.kids.getD k 0 = p at *
      have bad : inR p 0 15 = false → vInn x = false := fun hb => vInn_f fun hv => by
        have := all_f (f := fun n => inR n 0 15) (d := 0) hlt (by rw [hx]; exact hb)
        have h6 := hv.2.2.2.2.2
        unfold allR at h6
        rw [this] at h6; cases h6
      by_cases ha : p < 0
      · simp (config := {maxSteps := 1000000}) (disch := omega) only [go_sem, ↓reduceIte, Nat.reduceEqDiff, Nat.reduceAdd, Nat.reduceMul, Nat.reduceSub, Nat.reduceLeDiff, Nat.reduceLT, Int.reduceToNat, Int.reduceLE, Int.reduceLT, Int.reduceNeg, h_ValidKeysI, mValidKeys, h31, h32, h33, h3, hh, h2, hx, ha]
        rw [bad (by simp [inR]; omega)]
      · by_cases hb : 16 ≤ p
        · simp (config := {maxSteps := 1000000}) (disch := omega) only [go_sem, ↓reduceIte, Nat.reduceEqDiff, Nat.reduceAdd, Nat.reduceMul, Nat.reduceSub, Nat.reduceLeDiff, Nat.reduceLT, Int.reduceToNat, Int.reduceLE, Int.reduceLT, Int.reduceNeg, h_ValidKeysI, mValidKeys, h31, h32, h33, h3, hh, h2, hx, ha, hb]
          rw [bad (by simp [inR]; omega)]
        · have hp : p.toNat < 16 := by omega
          have hpi : ((p.toNat : Nat) : Int) = p := by omega
          have hq := hbs p.toNat hp
          rw [hpi] at hq
          simp (config := {maxSteps := 1000000}) (disch := omega) only [go_sem, ↓reduceIte, Nat.reduceEqDiff, Nat.reduceAdd, Nat.reduceMul, Nat.reduceSub, Nat.reduceLeDiff, Nat.reduceLT, Int.reduceToNat, Int.reduceLE, Int.reduceLT, Int.reduceNeg, h_ValidKeysI, mValidKeys, h31, h32, h33, h3, hh, h2, hx, ha, hb, get_B, set_B]
          (first | refine runKS_split (fun h5 => ?_) (fun h5 => ?_) | refine cond_split (fun h5 => ?_) (fun h5 => ?_) | refine runK_split (fun h5 => ?_) (fun h5 => ?_))
          · simp (config := {maxSteps := 1000000}) (disch := omega) only [go_sem, ↓reduceIte, Nat.reduceEqDiff, Nat.reduceAdd, Nat.reduceMul, Nat.reduceSub, Nat.reduceLeDiff, Nat.reduceLT, Int.reduceToNat, Int.reduceLE, Int.reduceLT, Int.reduceNeg, h_ValidKeysI, mValidKeys]
            rw [vInn_f fun hv => ?_]
            have := (nodup_take hlt (hv.1.sublist (List.take_sublist _ _))).2
            rw [hx] at this
            exact this (hq.1 h5)
          · simp (config := {maxSteps := 1000000}) (disch := omega) only [go_sem, ↓reduceIte, Nat.reduceEqDiff, Nat.reduceAdd, Nat.reduceMul, Nat.reduceSub, Nat.reduceLeDiff, Nat.reduceLT, Int.reduceToNat, Int.reduceLE, Int.reduceLT, Int.reduceNeg, h_ValidKeysI, mValidKeys, h31, h32, h33, h3, hh, hx, get_B, set_B]
            have hnm : p ∉ x.kids.take k := fun hm' => by rw [hq.2 hm'] at h5; cases h5
            have hnd' := nodup_take' hlt hnd (by rw [hx]; exact hnm)
            refine ⟨⟨m, by omega, rfl, k + 1, by omega, rfl, hnd', all_step (f := fun n => inR n 0 15) (d := 0) hin (by rw [hx]; simp [inR]; omega), bs.set p.toNat true, by simp [hbl], fun j hj => ?_, upd_same ..⟩, by omega⟩
            rw [List.take_succ_eq_append_getElem hlt, List.mem_append]
            have hx' : x.kids[k] = p := by rw [← hx]; simp [hlt]
            rw [hx']
            by_cases hjp : j = p.toNat
            · subst hjp
              rw [List.getD_eq_getElem?_getD, List.getElem?_set_self (by omega)]
              simp [hpi]
            · rw [List.getD_eq_getElem?_getD, List.getElem?_set_ne (by omega), ← List.getD_eq_getElem?_getD, hbs j hj]
              simp
              omega
    · have hge := of_decide_eq_false h2
      simp (config := {maxSteps := 1000000}) (disch := omega) only [go_sem, ↓reduceIte, Nat.reduceEqDiff, Nat.reduceAdd, Nat.reduceMul, Nat.reduceSub, Nat.reduceLeDiff, Nat.reduceLT, Int.reduceToNat, Int.reduceLE, Int.reduceLT, Int.reduceNeg, h_ValidKeysI, mValidKeys, h31, h32, h33, h3, hh, h2]
      have e : vInn x = true := by
        rw [List.take_of_length_le (by omega)] at hnd
        rw [vInn_iff]
        exact ⟨hnd, q3, by omega, by omega, q4, all_t (f := fun n => inR n 0 15) 0 fun i hi => hin i (by omega)⟩
      rw [e]
theorem fo_ValidInnerI : FnOk Try.prog 134 := fnOk_of Try.func134 (by kernel_rfl)
theorem c_ValidInnerI : Contract Try.prog 134 mValidInner :=
  contract_of_does (DT := fun id => match id with  | _ => []) Try.checked.mixed tabOk (gok_model fo_ValidKeysI c_ValidKeysI gok_nil) Try.func134 rfl (by kernel_rfl) (does_ValidInnerI rfl)

def mLawInn : Model := M1 .ro true (cInn false) fun x => gd (x.keys.length ≤ 9223372036854775807 ∧ x.kids.length ≤ 9223372036854775807) (.b true, [])
theorem fn_FnExactValidInner (x : Inn) (h : ((∀ y ∈ x.keys, intWf .i64 y) ∧ x.keys.length ≤ maxLen) ∧ (∀ y ∈ x.kids, intWf .i64 y) ∧ x.kids.length ≤ maxLen) : mLawInn.fn [eInn false x] = some (.b true, []) := by
  have h2 : x.keys.length ≤ 9223372036854775807 := h.1.2
  have h3 : x.kids.length ≤ 9223372036854775807 := h.2.2
  simp (config := {maxSteps := 1000000}) (disch := omega) only [go_sem, ↓reduceIte, Nat.reduceEqDiff, Nat.reduceAdd, Nat.reduceMul, Nat.reduceSub, Nat.reduceLeDiff, Nat.reduceLT, Int.reduceToNat, Int.reduceLE, Int.reduceLT, Int.reduceNeg, mLawInn]
end Go.TM
