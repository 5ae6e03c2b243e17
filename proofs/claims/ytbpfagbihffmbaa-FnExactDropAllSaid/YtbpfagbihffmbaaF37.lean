/- Contracts, 37: the program's test of a tree. -/
import Derived.Test.YtbpfagbihffmbaaF38
namespace Go.TM
open Go.Proofs
set_option linter.unusedVariables false
set_option linter.unusedSimpArgs false
set_option maxRecDepth 100000
set_option maxHeartbeats 4000000

structure Pc where
  t : Tr
  sn : List Bool
  ld : Int
def tlPc (sn : List Bool) (ld : Int) : List A := sn.map A.b ++ [.i .i64 ld]
def csPc (s : Pc) : List A := .i .i64 s.t.root :: ePgs false s.t.pages :: tlPc s.sn s.ld
def dTl : List A → Option (List Bool × Int)
  | [.i .i64 n] => some ([], n)
  | .b v :: xs => (dTl xs).map fun r => (v :: r.1, r.2)
  | _ => none
theorem dTl_e (ld : Int) : ∀ sn : List Bool, dTl (tlPc sn ld) = some (sn, ld)
  | [] => rfl
  | b :: sn => by
    have := dTl_e ld sn
    show dTl (.b b :: tlPc sn ld) = _
    simp only [dTl, this, Option.map_some]
theorem dTl_d : ∀ (xs : List A) (r : List Bool × Int), dTl xs = some r → xs = tlPc r.1 r.2
  | [], r, h => by simp [dTl] at h
  | x :: xs, r, h => by
    unfold dTl at h
    split at h
    · rename_i e
      cases e
      cases h
      rfl
    · rename_i e
      cases e
      rw [Option.map_eq_some_iff] at h
      obtain ⟨q, hq, rfl⟩ := h
      rw [dTl_d _ q hq]
      rfl
    · cases h
def cPc : Cod Pc where
  e s := .agg (csPc s)
  d
    | .agg (a :: b :: xs) => (dI a).bind fun r => ((cPgs false).d b).bind fun ps => (dTl xs).map fun q => ⟨⟨r, ps⟩, q.1, q.2⟩
    | _ => none
  de s := by
    show ((dI (.i .i64 s.t.root)).bind fun r => ((cPgs false).d (ePgs false s.t.pages)).bind fun ps => (dTl (tlPc s.sn s.ld)).map fun q => (⟨⟨r, ps⟩, q.1, q.2⟩ : Pc)) = some s
    rw [show (cPgs false).d (ePgs false s.t.pages) = some s.t.pages from (cPgs false).de _, dTl_e]
    rfl
  ed a s h := by
    split at h
    · rename_i a b xs
      simp only [Option.bind_eq_some_iff, Option.map_eq_some_iff] at h
      obtain ⟨r, h1, ps, h2, q, h3, rfl⟩ := h
      have e1 : a = .i .i64 r := cI.ed _ _ h1
      have e2 : b = ePgs false ps := (cPgs false).ed _ _ h2
      rw [e1, e2, dTl_d _ _ h3]
      rfl
    · cases h
theorem cPc_e (s : Pc) : cPc.e s = .agg (csPc s) := rfl
theorem cPc_d {n : Nat} {r : Int} {ps : List Pg} {sn : List Bool} {ld : Int} (h : n = ps.length) : cPc.d (.agg (.i .i64 r :: .s false 3 n (ps.flatMap (ePg false)) :: tlPc sn ld)) = some ⟨⟨r, ps⟩, sn, ld⟩ := by
  subst h
  exact cPc.de ⟨⟨r, ps⟩, sn, ld⟩
attribute [go_sem] cPc_e cPc_d
theorem csPc_c (t : Tr) (sn : List Bool) (ld : Int) : csPc ⟨t, sn, ld⟩ = .i .i64 t.root :: ePgs false t.pages :: tlPc sn ld := rfl
theorem tlPc_len {sn : List Bool} {ld : Int} (h : sn.length = 16) : (tlPc sn ld).length = 17 := by simp [tlPc, h]

noncomputable def mFilled : Model := M2 .io .ro false cPc cI fun s x => gd (smT s.t.pages = true ∧ s.sn.length = 16 ∧ 0 ≤ x ∧ x < s.t.pages.length) (.b (filledOk s.t x), [csPc s])

theorem does_filledRight {G : Nat → Option FM} (h_ValidKeysI : G 163 = some (.model mValidKeys)) (h_isValue : G 125 = some (.model mIsValue)) : Does T G (fun id => match id with  | _ => []) Try.f158 mFilled := by
  refine does2 (rs := [.tmp 4]) rfl rfl fun s x ro h => ?_
  obtain ⟨⟨hs, hsn, hx0, hx1⟩, rfl⟩ := gd_some h
  refine ⟨fun hc => (by cases hc), ?_⟩
  obtain ⟨y, rfl⟩ : ∃ y : Nat, x = y := ⟨x.toNat, by omega⟩
  obtain ⟨t, sn, ld⟩ := s
  dsimp only at hs hsn hx0 hx1 ⊢
  have hts := tr_small hs y
  have hpa := pgAt_nat t y
  have hl := tlPc_len (ld := ld) hsn
  generalize hP : t.pages.getD y default = P at *
  rw [hpa] at hts
  have ef : filledOk t y = (decide (P.keys.length ≤ 4) && (vk P.keys && ((decide ((y : Int) = t.root) || decide (2 ≤ P.keys.length)) &&
      if P.kids.length = 0 then decide (P.vals.length = P.keys.length) && allR P.vals (-1000) 1000
      else decide (P.vals.length = 0) && (decide (1 ≤ P.keys.length) && decide (P.kids.length = P.keys.length + 1))))) := by unfold filledOk; rw [hpa]
  rw [ef]
  clear h
  by_cases a1 : P.keys.length ≤ 4
  · have e1 : decide ((4 : Int) < (P.keys.length : Int)) = false := decide_eq_false (by omega)
    rw [decide_eq_true a1, Bool.true_and]
    cases h1 : vk P.keys
    · simp (config := {maxSteps := 1000000}) (disch := omega) only [go_sem, ↓reduceIte, Nat.reduceEqDiff, Nat.reduceAdd, Nat.reduceMul, Nat.reduceSub, Nat.reduceLeDiff, Nat.reduceLT, Int.reduceToNat, Int.reduceLE, Int.reduceLT, Int.reduceNeg, h_ValidKeysI, mValidKeys, h_isValue, mIsValue, drP_n, drP_c, logAt_n, logAt_c, disP_n, disP_c, notIn_n, notIn_c, csPc_c, ePg, hP, hl, e1, h1]
      try rfl
    · rw [Bool.true_and]
      by_cases a2 : (y : Int) = t.root ∨ 2 ≤ P.keys.length
      · have e23 : (decide ((y : Int) = t.root) || decide (2 ≤ P.keys.length)) = true := by simpa using a2
        rw [e23, Bool.true_and]
        cases e2 : decide ((y : Int) = t.root)
        · have e3 : decide ((P.keys.length : Int) < 2) = false := decide_eq_false (by have := of_decide_eq_false e2; omega)
          by_cases a4 : P.kids.length = 0
          · have e4 : decide ((0 : Int) < (P.kids.length : Int)) = false := decide_eq_false (by omega)
            rw [if_pos a4]
            by_cases a5 : P.vals.length = P.keys.length
            · have e5 : decide ((P.vals.length : Int) = (P.keys.length : Int)) = true := decide_eq_true (by omega)
              rw [decide_eq_true a5, Bool.true_and]
              simp (config := {maxSteps := 1000000}) (disch := omega) only [go_sem, ↓reduceIte, Nat.reduceEqDiff, Nat.reduceAdd, Nat.reduceMul, Nat.reduceSub, Nat.reduceLeDiff, Nat.reduceLT, Int.reduceToNat, Int.reduceLE, Int.reduceLT, Int.reduceNeg, h_ValidKeysI, mValidKeys, h_isValue, mIsValue, drP_n, drP_c, logAt_n, logAt_c, disP_n, disP_c, notIn_n, notIn_c, csPc_c, ePg, hP, hl, e1, h1, e2, e3, e4, e5]
              refine W_loop_i (fun s => s.hp (2, 0) = some ⟨19, 1, .i .i64 t.root :: ePgs false t.pages :: tlPc sn ld, fun _ => 0⟩ ∧ s.sl 71 = eIs false P.vals ∧ s.sl 72 = eI P.vals.length ∧ ∃ k : Nat, k ≤ P.vals.length ∧ s.sl 73 = eI k ∧ ∀ i, i < k → inR (P.vals.getD i 0) (-1000) 1000 = true) (fun s => P.vals.length - iN (s.sl 73)) ?_ ?_
              · exact ⟨rfl, rfl, rfl, 0, Nat.zero_le _, rfl, fun i hi => by omega⟩
              · rintro sl hp q ⟨hh, h71, h72, k, hk, h73, hall⟩
                dsimp only at hh h71 h72 h73
                simp (config := {maxSteps := 1000000}) (disch := omega) only [go_sem, ↓reduceIte, Nat.reduceEqDiff, Nat.reduceAdd, Nat.reduceMul, Nat.reduceSub, Nat.reduceLeDiff, Nat.reduceLT, Int.reduceToNat, Int.reduceLE, Int.reduceLT, Int.reduceNeg, h_ValidKeysI, mValidKeys, h_isValue, mIsValue, drP_n, drP_c, logAt_n, logAt_c, disP_n, disP_c, notIn_n, notIn_c, hh, h71, h72, h73]
                (first | refine runKS_split (fun g1 => ?_) (fun g1 => ?_) | refine cond_split (fun g1 => ?_) (fun g1 => ?_) | refine runK_split (fun g1 => ?_) (fun g1 => ?_))
                · have g1' := of_decide_eq_true g1
                  cases hv : inR (P.vals.getD k 0) (-1000) 1000
                  · simp (config := {maxSteps := 1000000}) (disch := omega) only [go_sem, ↓reduceIte, Nat.reduceEqDiff, Nat.reduceAdd, Nat.reduceMul, Nat.reduceSub, Nat.reduceLeDiff, Nat.reduceLT, Int.reduceToNat, Int.reduceLE, Int.reduceLT, Int.reduceNeg, h_ValidKeysI, mValidKeys, h_isValue, mIsValue, drP_n, drP_c, logAt_n, logAt_c, disP_n, disP_c, notIn_n, notIn_c, hh, h71, h72, h73, g1, hv, hl]
                    rw [show allR P.vals (-1000) 1000 = false from by
                      rw [Bool.eq_false_iff]
                      intro h'
                      have := inR_iff.2 (allR_get.1 h' k (by omega))
                      rw [hv] at this
                      cases this]
                    try rfl
                  · simp (config := {maxSteps := 1000000}) (disch := omega) only [go_sem, ↓reduceIte, Nat.reduceEqDiff, Nat.reduceAdd, Nat.reduceMul, Nat.reduceSub, Nat.reduceLeDiff, Nat.reduceLT, Int.reduceToNat, Int.reduceLE, Int.reduceLT, Int.reduceNeg, h_ValidKeysI, mValidKeys, h_isValue, mIsValue, drP_n, drP_c, logAt_n, logAt_c, disP_n, disP_c, notIn_n, notIn_c, hh, h71, h72, h73, g1, hv, hl]
                    exact ⟨⟨k + 1, by omega, rfl, fun i hi => by
                      by_cases e : i = k
                      · rw [e]; exact hv
                      · exact hall i (by omega)⟩, by omega⟩
                · have g1' := of_decide_eq_false g1
                  obtain rfl : k = P.vals.length := by omega
                  simp (config := {maxSteps := 1000000}) (disch := omega) only [go_sem, ↓reduceIte, Nat.reduceEqDiff, Nat.reduceAdd, Nat.reduceMul, Nat.reduceSub, Nat.reduceLeDiff, Nat.reduceLT, Int.reduceToNat, Int.reduceLE, Int.reduceLT, Int.reduceNeg, h_ValidKeysI, mValidKeys, h_isValue, mIsValue, drP_n, drP_c, logAt_n, logAt_c, disP_n, disP_c, notIn_n, notIn_c, hh, h71, h72, h73, g1, hl]
                  rw [show allR P.vals (-1000) 1000 = true from allR_get.2 fun i hi => inR_iff.1 (hall i hi)]
                  try rfl
            · have e5 : decide ((P.vals.length : Int) = (P.keys.length : Int)) = false := decide_eq_false (by omega)
              rw [decide_eq_false a5, Bool.false_and]
              simp (config := {maxSteps := 1000000}) (disch := omega) only [go_sem, ↓reduceIte, Nat.reduceEqDiff, Nat.reduceAdd, Nat.reduceMul, Nat.reduceSub, Nat.reduceLeDiff, Nat.reduceLT, Int.reduceToNat, Int.reduceLE, Int.reduceLT, Int.reduceNeg, h_ValidKeysI, mValidKeys, h_isValue, mIsValue, drP_n, drP_c, logAt_n, logAt_c, disP_n, disP_c, notIn_n, notIn_c, csPc_c, ePg, hP, hl, e1, h1, e2, e3, e4, e5]
              try rfl
          · have e4 : decide ((0 : Int) < (P.kids.length : Int)) = true := decide_eq_true (by omega)
            rw [if_neg a4]
            by_cases a6 : P.vals.length = 0
            · have e6 : decide ((P.vals.length : Int) = 0) = true := decide_eq_true (by omega)
              rw [decide_eq_true a6, Bool.true_and]
              by_cases a7 : 1 ≤ P.keys.length
              · have e7 : decide ((1 : Int) ≤ (P.keys.length : Int)) = true := decide_eq_true (by omega)
                rw [decide_eq_true a7, Bool.true_and]
                rw [show decide (P.kids.length = P.keys.length + 1) = decide ((P.kids.length : Int) = (P.keys.length : Int) + 1) from decide_eq_decide.2 (by omega)]
                simp (config := {maxSteps := 1000000}) (disch := omega) only [go_sem, ↓reduceIte, Nat.reduceEqDiff, Nat.reduceAdd, Nat.reduceMul, Nat.reduceSub, Nat.reduceLeDiff, Nat.reduceLT, Int.reduceToNat, Int.reduceLE, Int.reduceLT, Int.reduceNeg, h_ValidKeysI, mValidKeys, h_isValue, mIsValue, drP_n, drP_c, logAt_n, logAt_c, disP_n, disP_c, notIn_n, notIn_c, csPc_c, ePg, hP, hl, e1, h1, e2, e3, e4, e6, e7]
                try rfl
              · have e7 : decide ((1 : Int) ≤ (P.keys.length : Int)) = false := decide_eq_false (by omega)
                rw [decide_eq_false a7, Bool.false_and]
                simp (config := {maxSteps := 1000000}) (disch := omega) only [go_sem, ↓reduceIte, Nat.reduceEqDiff, Nat.reduceAdd, Nat.reduceMul, Nat.reduceSub, Nat.reduceLeDiff, Nat.reduceLT, Int.reduceToNat, Int.reduceLE, Int.reduceLT, Int.reduceNeg, h_ValidKeysI, mValidKeys, h_isValue, mIsValue, drP_n, drP_c, logAt_n, logAt_c, disP_n, disP_c, notIn_n, notIn_c, csPc_c, ePg, hP, hl, e1, h1, e2, e3, e4, e6, e7]
                try rfl
            · have e6 : decide ((P.vals.length : Int) = 0) = false := decide_eq_false (by omega)
              rw [decide_eq_false a6, Bool.false_and]
              simp (config := {maxSteps := 1000000}) (disch := omega) only [go_sem, ↓reduceIte, Nat.reduceEqDiff, Nat.reduceAdd, Nat.reduceMul, Nat.reduceSub, Nat.reduceLeDiff, Nat.reduceLT, Int.reduceToNat, Int.reduceLE, Int.reduceLT, Int.reduceNeg, h_ValidKeysI, mValidKeys, h_isValue, mIsValue, drP_n, drP_c, logAt_n, logAt_c, disP_n, disP_c, notIn_n, notIn_c, csPc_c, ePg, hP, hl, e1, h1, e2, e3, e4, e6]
              try rfl
        · by_cases a4 : P.kids.length = 0
          · have e4 : decide ((0 : Int) < (P.kids.length : Int)) = false := decide_eq_false (by omega)
            rw [if_pos a4]
            by_cases a5 : P.vals.length = P.keys.length
            · have e5 : decide ((P.vals.length : Int) = (P.keys.length : Int)) = true := decide_eq_true (by omega)
              rw [decide_eq_true a5, Bool.true_and]
              simp (config := {maxSteps := 1000000}) (disch := omega) only [go_sem, ↓reduceIte, Nat.reduceEqDiff, Nat.reduceAdd, Nat.reduceMul, Nat.reduceSub, Nat.reduceLeDiff, Nat.reduceLT, Int.reduceToNat, Int.reduceLE, Int.reduceLT, Int.reduceNeg, h_ValidKeysI, mValidKeys, h_isValue, mIsValue, drP_n, drP_c, logAt_n, logAt_c, disP_n, disP_c, notIn_n, notIn_c, csPc_c, ePg, hP, hl, e1, h1, e2, e4, e5]
              refine W_loop_i (fun s => s.hp (2, 0) = some ⟨19, 1, .i .i64 t.root :: ePgs false t.pages :: tlPc sn ld, fun _ => 0⟩ ∧ s.sl 71 = eIs false P.vals ∧ s.sl 72 = eI P.vals.length ∧ ∃ k : Nat, k ≤ P.vals.length ∧ s.sl 73 = eI k ∧ ∀ i, i < k → inR (P.vals.getD i 0) (-1000) 1000 = true) (fun s => P.vals.length - iN (s.sl 73)) ?_ ?_
              · exact ⟨rfl, rfl, rfl, 0, Nat.zero_le _, rfl, fun i hi => by omega⟩
              · rintro sl hp q ⟨hh, h71, h72, k, hk, h73, hall⟩
                dsimp only at hh h71 h72 h73
                simp (config := {maxSteps := 1000000}) (disch := omega) only [go_sem, ↓reduceIte, Nat.reduceEqDiff, Nat.reduceAdd, Nat.reduceMul, Nat.reduceSub, Nat.reduceLeDiff, Nat.reduceLT, Int.reduceToNat, Int.reduceLE, Int.reduceLT, Int.reduceNeg, h_ValidKeysI, mValidKeys, h_isValue, mIsValue, drP_n, drP_c, logAt_n, logAt_c, disP_n, disP_c, notIn_n, notIn_c, hh, h71, h72, h73]
                (first | refine runKS_split (fun g1 => ?_) (fun g1 => ?_) | refine cond_split (fun g1 => ?_) (fun g1 => ?_) | refine runK_split (fun g1 => ?_) (fun g1 => ?_))
                · have g1' := of_decide_eq_true g1
                  cases hv : inR (P.vals.getD k 0) (-1000) 1000
                  · simp (config := {maxSteps := 1000000}) (disch := omega) only [go_sem, ↓reduceIte, Nat.reduceEqDiff, Nat.reduceAdd, Nat.reduceMul, Nat.reduceSub, Nat.reduceLeDiff, Nat.reduceLT, Int.reduceToNat, Int.reduceLE, Int.reduceLT, Int.reduceNeg, h_ValidKeysI, mValidKeys, h_isValue, mIsValue, drP_n, drP_c, logAt_n, logAt_c, disP_n, disP_c, notIn_n, notIn_c, hh, h71, h72, h73, g1, hv, hl]
                    rw [show allR P.vals (-1000) 1000 = false from by
                      rw [Bool.eq_false_iff]
                      intro h'
                      have := inR_iff.2 (allR_get.1 h' k (by omega))
                      rw [hv] at this
                      cases this]
                    try rfl
                  · simp (config := {maxSteps := 1000000}) (disch := omega) only [go_sem, ↓reduceIte, Nat.reduceEqDiff, Nat.reduceAdd, Nat.reduceMul, Nat.reduceSub, Nat.reduceLeDiff, Nat.reduceLT, Int.reduceToNat, Int.reduceLE, Int.reduceLT, Int.reduceNeg, h_ValidKeysI, mValidKeys, h_isValue, mIsValue, drP_n, drP_c, logAt_n, logAt_c, disP_n, disP_c, notIn_n, notIn_c, hh, h71, h72, h73, g1, hv, hl]
                    exact ⟨⟨k + 1, by omega, rfl, fun i hi => by
                      by_cases e : i = k
                      · rw [e]; exact hv
                      · exact hall i (by omega)⟩, by omega⟩
                · have g1' := of_decide_eq_false g1
                  obtain rfl : k = P.vals.length := by omega
                  simp (config := {maxSteps := 1000000}) (disch := omega) only [go_sem, ↓reduceIte, Nat.reduceEqDiff, Nat.reduceAdd, Nat.reduceMul, Nat.reduceSub, Nat.reduceLeDiff, Nat.reduceLT, Int.reduceToNat, Int.reduceLE, Int.reduceLT, Int.reduceNeg, h_ValidKeysI, mValidKeys, h_isValue, mIsValue, drP_n, drP_c, logAt_n, logAt_c, disP_n, disP_c, notIn_n, notIn_c, hh, h71, h72, h73, g1, hl]
                  rw [show allR P.vals (-1000) 1000 = true from allR_get.2 fun i hi => inR_iff.1 (hall i hi)]
                  try rfl
            · have e5 : decide ((P.vals.length : Int) = (P.keys.length : Int)) = false := decide_eq_false (by omega)
              rw [decide_eq_false a5, Bool.false_and]
              simp (config := {maxSteps := 1000000}) (disch := omega) only [go_sem, ↓reduceIte, Nat.reduceEqDiff, Nat.reduceAdd, Nat.reduceMul, Nat.reduceSub, Nat.reduceLeDiff, Nat.reduceLT, Int.reduceToNat, Int.reduceLE, Int.reduceLT, Int.reduceNeg, h_ValidKeysI, mValidKeys, h_isValue, mIsValue, drP_n, drP_c, logAt_n, logAt_c, disP_n, disP_c, notIn_n, notIn_c, csPc_c, ePg, hP, hl, e1, h1, e2, e4, e5]
              try rfl
          · have e4 : decide ((0 : Int) < (P.kids.length : Int)) = true := decide_eq_true (by omega)
            rw [if_neg a4]
            by_cases a6 : P.vals.length = 0
            · have e6 : decide ((P.vals.length : Int) = 0) = true := decide_eq_true (by omega)
              rw [decide_eq_true a6, Bool.true_and]
              by_cases a7 : 1 ≤ P.keys.length
              · have e7 : decide ((1 : Int) ≤ (P.keys.length : Int)) = true := decide_eq_true (by omega)
                rw [decide_eq_true a7, Bool.true_and]
                rw [show decide (P.kids.length = P.keys.length + 1) = decide ((P.kids.length : Int) = (P.keys.length : Int) + 1) from decide_eq_decide.2 (by omega)]
                simp (config := {maxSteps := 1000000}) (disch := omega) only [go_sem, ↓reduceIte, Nat.reduceEqDiff, Nat.reduceAdd, Nat.reduceMul, Nat.reduceSub, Nat.reduceLeDiff, Nat.reduceLT, Int.reduceToNat, Int.reduceLE, Int.reduceLT, Int.reduceNeg, h_ValidKeysI, mValidKeys, h_isValue, mIsValue, drP_n, drP_c, logAt_n, logAt_c, disP_n, disP_c, notIn_n, notIn_c, csPc_c, ePg, hP, hl, e1, h1, e2, e4, e6, e7]
                try rfl
              · have e7 : decide ((1 : Int) ≤ (P.keys.length : Int)) = false := decide_eq_false (by omega)
                rw [decide_eq_false a7, Bool.false_and]
                simp (config := {maxSteps := 1000000}) (disch := omega) only [go_sem, ↓reduceIte, Nat.reduceEqDiff, Nat.reduceAdd, Nat.reduceMul, Nat.reduceSub, Nat.reduceLeDiff, Nat.reduceLT, Int.reduceToNat, Int.reduceLE, Int.reduceLT, Int.reduceNeg, h_ValidKeysI, mValidKeys, h_isValue, mIsValue, drP_n, drP_c, logAt_n, logAt_c, disP_n, disP_c, notIn_n, notIn_c, csPc_c, ePg, hP, hl, e1, h1, e2, e4, e6, e7]
                try rfl
            · have e6 : decide ((P.vals.length : Int) = 0) = false := decide_eq_false (by omega)
              rw [decide_eq_false a6, Bool.false_and]
              simp (config := {maxSteps := 1000000}) (disch := omega) only [go_sem, ↓reduceIte, Nat.reduceEqDiff, Nat.reduceAdd, Nat.reduceMul, Nat.reduceSub, Nat.reduceLeDiff, Nat.reduceLT, Int.reduceToNat, Int.reduceLE, Int.reduceLT, Int.reduceNeg, h_ValidKeysI, mValidKeys, h_isValue, mIsValue, drP_n, drP_c, logAt_n, logAt_c, disP_n, disP_c, notIn_n, notIn_c, csPc_c, ePg, hP, hl, e1, h1, e2, e4, e6]
              try rfl
      · have e2 : decide ((y : Int) = t.root) = false := decide_eq_false (fun h => a2 (.inl h))
        have e3 : decide ((P.keys.length : Int) < 2) = true := decide_eq_true (by omega)
        rw [e2, decide_eq_false (p := 2 ≤ P.keys.length) (fun h => a2 (.inr h))]
        simp (config := {maxSteps := 1000000}) (disch := omega) only [go_sem, ↓reduceIte, Nat.reduceEqDiff, Nat.reduceAdd, Nat.reduceMul, Nat.reduceSub, Nat.reduceLeDiff, Nat.reduceLT, Int.reduceToNat, Int.reduceLE, Int.reduceLT, Int.reduceNeg, h_ValidKeysI, mValidKeys, h_isValue, mIsValue, drP_n, drP_c, logAt_n, logAt_c, disP_n, disP_c, notIn_n, notIn_c, csPc_c, ePg, hP, hl, e1, h1, e2, e3]
        try rfl
  · have e1 : decide ((4 : Int) < (P.keys.length : Int)) = true := decide_eq_true (by omega)
    rw [decide_eq_false a1]
    simp (config := {maxSteps := 1000000}) (disch := omega) only [go_sem, ↓reduceIte, Nat.reduceEqDiff, Nat.reduceAdd, Nat.reduceMul, Nat.reduceSub, Nat.reduceLeDiff, Nat.reduceLT, Int.reduceToNat, Int.reduceLE, Int.reduceLT, Int.reduceNeg, h_ValidKeysI, mValidKeys, h_isValue, mIsValue, drP_n, drP_c, logAt_n, logAt_c, disP_n, disP_c, notIn_n, notIn_c, csPc_c, ePg, hP, hl, e1]
    try rfl
theorem fo_filledRight : FnOk Try.prog 158 := fnOk_of Try.func158 (by kernel_rfl)
theorem c_filledRight : Contract Try.prog 158 mFilled :=
  contract_of_does (DT := fun id => match id with  | _ => []) Try.checked.mixed tabOk (gok_model fo_ValidKeysI c_ValidKeysI (gok_model fo_isValue c_isValue gok_nil)) Try.func158 rfl (by kernel_rfl) (does_filledRight rfl rfl)


theorem visF_no {t : Tr} {n : Nat} {x d low hi : Int} {s : VS} (h : inR x 0 ((t.pages.length : Int) - 1) = false ∨ 3 ≤ d ∨ s.1.getD x.toNat false = true) : visF t n x d low hi s = (false, s) := by
  cases n with
  | zero => rfl
  | succ n => unfold visF; rw [if_pos h]
theorem visF_go {t : Tr} {n : Nat} {x d low hi : Int} {s : VS} (h : ¬ (inR x 0 ((t.pages.length : Int) - 1) = false ∨ 3 ≤ d ∨ s.1.getD x.toNat false = true)) : visF t (n + 1) x d low hi s =
    if filledOk t x = false ∨ allR (pgAt t x).keys low (hi - 1) = false then (false, s.1.set x.toNat true, s.2)
    else if (pgAt t x).kids.length = 0 then (decide ((if s.2 < 0 then d else s.2) = d), s.1.set x.toNat true, if s.2 < 0 then d else s.2)
    else klF (fun i s' => visF t n ((pgAt t x).kids.getD i 0) (d + 1) (lowK (pgAt t x).keys i low) (hiK (pgAt t x).keys i hi) s') (List.range (pgAt t x).kids.length) (s.1.set x.toNat true, s.2) := by
  show (if _ then _ else _) = _
  rw [if_neg h]
theorem klF_len {g : Nat → VS → Bool × VS} (hg : ∀ i s, (g i s).2.1.length = s.1.length) : ∀ (r : List Nat) (s : VS), (klF g r s).2.1.length = s.1.length
  | [], s => rfl
  | i :: r, s => by
    unfold klF
    split
    · rw [klF_len hg r, hg]
    · exact hg i s
theorem visF_len {t : Tr} : ∀ {n : Nat} {x d low hi : Int} {s : VS}, (visF t n x d low hi s).2.1.length = s.1.length
  | 0, _, _, _, _, _ => rfl
  | n + 1, x, d, low, hi, s => by
    unfold visF
    split
    · rfl
    · split
      · simp
      · split
        · simp
        · rw [klF_len fun i s => visF_len]
          simp
theorem klF_t {g : Nat → VS → Bool × VS} {k m : Nat} {s s' : VS} (hk : k < m) (h : g k s = (true, s')) : klF g (List.range' k (m - k)) s = klF g (List.range' (k + 1) (m - (k + 1))) s' := by
  rw [show m - k = (m - (k + 1)) + 1 from by omega, List.range'_succ]
  simp only [klF, h, if_true]
theorem klF_f {g : Nat → VS → Bool × VS} {k m : Nat} {s s' : VS} (hk : k < m) (h : g k s = (false, s')) : klF g (List.range' k (m - k)) s = (false, s') := by
  rw [show m - k = (m - (k + 1)) + 1 from by omega, List.range'_succ]
  simp only [klF, h]
  rfl
theorem klF_e {g : Nat → VS → Bool × VS} {m : Nat} {s : VS} : klF g (List.range' m (m - m)) s = (true, s) := by
  rw [Nat.sub_self]
  rfl
theorem tl_get {sn : List Bool} {ld : Int} {y : Nat} (h : y < sn.length) : (tlPc sn ld)[y]? = some (.b (sn.getD y false)) := by
  unfold tlPc
  rw [List.getElem?_append_left (by simpa using h)]
  simp [h]
theorem tl_set {sn : List Bool} {ld : Int} {y : Nat} {v : Bool} (h : y < sn.length) : (tlPc sn ld).set y (.b v) = tlPc (sn.set y v) ld := by
  unfold tlPc
  rw [List.set_append_left _ _ (by simpa using h), List.map_set]
theorem tl_get16 {sn : List Bool} {ld : Int} (h : sn.length = 16) : (tlPc sn ld)[16]? = some (.i .i64 ld) := by
  unfold tlPc
  rw [List.getElem?_append_right (by simp [h])]
  simp [h]
theorem tl_set16 {sn : List Bool} {ld v : Int} (h : sn.length = 16) : (tlPc sn ld).set 16 (.i .i64 v) = tlPc sn v := by
  unfold tlPc
  rw [List.set_append_right _ _ (by simp [h])]
  simp [h]

theorem get_2 {a b : A} {xs : List A} {y : Nat} : (a :: b :: xs)[2 + y]? = xs[y]? := by rw [Nat.add_comm]; rfl
theorem set_2 {a b v : A} {xs : List A} {y : Nat} : (a :: b :: xs).set (2 + y) v = a :: b :: xs.set y v := by rw [Nat.add_comm]; rfl

noncomputable def mVisit (D : Nat) : Model := M5 .io .ro .ro .ro .ro false cPc cI cI cI cI fun s x d low hi => gd (smT s.t.pages = true ∧ s.sn.length = 16 ∧ s.t.pages.length ≤ 16 ∧ 0 ≤ d ∧ d ≤ 3 ∧ 4 - d ≤ D)
  (.b (visF s.t (3 - d).toNat x d low hi (s.sn, s.ld)).1, [csPc ⟨s.t, (visF s.t (3 - d).toNat x d low hi (s.sn, s.ld)).2.1, (visF s.t (3 - d).toNat x d low hi (s.sn, s.ld)).2.2⟩])
theorem mVisit_none : ∀ args r outs, (mVisit 0).fn args = some (r, outs) → False := by
  intro args r outs h
  match args, h with
  | [x, y, z, u, v], h =>
    simp only [mVisit, M5_fn, Option.bind_eq_some_iff] at h
    obtain ⟨_, _, _, _, _, _, _, _, _, _, h⟩ := h
    have := (gd_some h).1
    omega

theorem does_visit {G : Nat → Option FM} (D : Nat) (h_visit : G 117 = some (.model (mVisit D))) (h_filledRight : G 158 = some (.model mFilled)) : Does T G (fun id => match id with  | _ => []) Try.f117 (mVisit (D + 1)) := by
  refine does5 (rs := [.tmp 10]) rfl rfl fun s x d low hi ro h => ?_
  obtain ⟨⟨hs, hsn, hlen, hd0, hd3, hD⟩, rfl⟩ := gd_some h
  refine ⟨fun hc => (by cases hc), ?_⟩
  obtain ⟨t, sn, ld⟩ := s
  obtain ⟨n, hn⟩ : ∃ n : Nat, (3 - d).toNat = n := ⟨_, rfl⟩
  clear h
  dsimp only at hs hsn hlen ⊢
  rw [hn]
  obtain ⟨vb, vs, vl, hV⟩ : ∃ vb vs vl, visF t n x d low hi (sn, ld) = (vb, vs, vl) := ⟨_, _, _, rfl⟩
  rw [hV]
  dsimp only
  have hl := tlPc_len (ld := ld) hsn
  by_cases x0 : x < 0
  · have e1 : decide (x < 0) = true := decide_eq_true x0
    rw [visF_no (.inl (inR_f (by omega)))] at hV
    cases hV
    simp (config := {maxSteps := 1000000}) (disch := omega) only [go_sem, ↓reduceIte, Nat.reduceEqDiff, Nat.reduceAdd, Nat.reduceMul, Nat.reduceSub, Nat.reduceLeDiff, Nat.reduceLT, Int.reduceToNat, Int.reduceLE, Int.reduceLT, Int.reduceNeg, h_visit, mVisit, h_filledRight, mFilled, drP_n, drP_c, logAt_n, logAt_c, disP_n, disP_c, notIn_n, notIn_c, csPc_c, hl, e1]
    try rfl
  · have e1 : decide (x < 0) = false := decide_eq_false x0
    obtain ⟨y, rfl⟩ : ∃ y : Nat, x = y := ⟨x.toNat, by omega⟩
    by_cases x1 : (y : Int) < t.pages.length
    · have e2 : decide ((t.pages.length : Int) ≤ (y : Int)) = false := decide_eq_false (by omega)
      by_cases x2 : 3 ≤ d
      · have e3 : decide ((3 : Int) ≤ d) = true := decide_eq_true x2
        rw [visF_no (.inr (.inl x2))] at hV
        cases hV
        simp (config := {maxSteps := 1000000}) (disch := omega) only [go_sem, ↓reduceIte, Nat.reduceEqDiff, Nat.reduceAdd, Nat.reduceMul, Nat.reduceSub, Nat.reduceLeDiff, Nat.reduceLT, Int.reduceToNat, Int.reduceLE, Int.reduceLT, Int.reduceNeg, h_visit, mVisit, h_filledRight, mFilled, drP_n, drP_c, logAt_n, logAt_c, disP_n, disP_c, notIn_n, notIn_c, csPc_c, hl, e1, e2, e3]
        try rfl
      · have e3 : decide ((3 : Int) ≤ d) = false := decide_eq_false x2
        have tg := tl_get (sn := sn) (ld := ld) (y := y) (by omega)
        cases x3 : sn.getD y false
        · have ts := tl_set (sn := sn) (ld := ld) (y := y) (v := true) (by omega)
          have hl1 := tlPc_len (sn := sn.set y true) (ld := ld) (by simpa using hsn)
          obtain ⟨n, rfl⟩ : ∃ m, n = m + 1 := ⟨n - 1, by omega⟩
          rw [visF_go (by
            rintro (h | h | h)
            · rw [inR_t (by omega)] at h; cases h
            · exact x2 h
            · rw [show ((y : Int)).toNat = y from rfl] at h
              dsimp only at h
              rw [x3] at h; cases h)] at hV
          have hs1 : (sn.set y true).length = 16 := by simpa using hsn
          have ey : ((y : Int)).toNat = y := rfl
          dsimp only at hV
          rw [ey] at hV
          generalize sn.set y true = sn1 at *
          have hts := tr_small hs y
          have hpa := pgAt_nat t y
          generalize hP : t.pages.getD y default = P at *
          rw [hpa] at hts hV
          cases f1 : filledOk t y
          · rw [if_pos (.inl f1)] at hV
            cases hV
            simp (config := {maxSteps := 1000000}) (disch := omega) only [go_sem, ↓reduceIte, Nat.reduceEqDiff, Nat.reduceAdd, Nat.reduceMul, Nat.reduceSub, Nat.reduceLeDiff, Nat.reduceLT, Int.reduceToNat, Int.reduceLE, Int.reduceLT, Int.reduceNeg, h_visit, mVisit, h_filledRight, mFilled, drP_n, drP_c, logAt_n, logAt_c, disP_n, disP_c, notIn_n, notIn_c, hs, csPc_c, hl, e1, e2, e3, get_2, set_2, tg, x3, ts, hl1, hs1, f1]
            try rfl
          · simp (config := {maxSteps := 1000000}) (disch := omega) only [go_sem, ↓reduceIte, Nat.reduceEqDiff, Nat.reduceAdd, Nat.reduceMul, Nat.reduceSub, Nat.reduceLeDiff, Nat.reduceLT, Int.reduceToNat, Int.reduceLE, Int.reduceLT, Int.reduceNeg, h_visit, mVisit, h_filledRight, mFilled, drP_n, drP_c, logAt_n, logAt_c, disP_n, disP_c, notIn_n, notIn_c, hs, csPc_c, hl, e1, e2, e3, get_2, set_2, tg, x3, ts, hl1, hs1, f1, ePg, hP]
            refine W_loop_i (fun s => s.sl 0 = .ptr (2, 0) [] 0 0 ∧ s.sl 2 = eI d ∧ s.sl 3 = eI low ∧ s.sl 4 = eI hi ∧ (∃ v', s.hp (2, 0) = some ⟨19, 1, .i .i64 t.root :: ePgs false t.pages :: tlPc sn1 ld, v'⟩) ∧ ∃ m, 2 < m ∧ m < s.n ∧ s.sl 11 = .ptr (m, 0) [] 0 0 ∧ (∃ v, s.hp (m, 0) = some ⟨3, 1, [eIs false P.keys, eIs false P.kids, eIs false P.vals], v⟩) ∧ s.sl 60 = eIs false P.keys ∧ s.sl 61 = eI P.keys.length ∧ ∃ k : Nat, k ≤ P.keys.length ∧ s.sl 62 = eI k ∧ ∀ i, i < k → low ≤ P.keys.getD i 0 ∧ P.keys.getD i 0 ≤ hi - 1) (fun s => P.keys.length - iN (s.sl 62)) ?_ ?_
            · refine ⟨rfl, rfl, rfl, rfl, ⟨_, rfl⟩, 46, by omega, by dsimp only [St.n]; omega, rfl, ⟨_, rfl⟩, rfl, rfl, 0, Nat.zero_le _, rfl, fun i hi => by omega⟩
            · rintro sl hp q ⟨h0, h2, h3, h4, ⟨v', hh⟩, m, hm2, hm, h11, ⟨v, hh11⟩, h60, h61, k, hk, h62, hall⟩
              dsimp only at h0 h2 h3 h4 hh h11 hh11 h60 h61 h62 hm
              simp (config := {maxSteps := 1000000}) (disch := omega) only [go_sem, ↓reduceIte, Nat.reduceEqDiff, Nat.reduceAdd, Nat.reduceMul, Nat.reduceSub, Nat.reduceLeDiff, Nat.reduceLT, Int.reduceToNat, Int.reduceLE, Int.reduceLT, Int.reduceNeg, h_visit, mVisit, h_filledRight, mFilled, drP_n, drP_c, logAt_n, logAt_c, disP_n, disP_c, notIn_n, notIn_c, h0, h60, h61, h62]
              (first | refine runKS_split (fun g1 => ?_) (fun g1 => ?_) | refine cond_split (fun g1 => ?_) (fun g1 => ?_) | refine runK_split (fun g1 => ?_) (fun g1 => ?_))
              · have g1' := of_decide_eq_true g1
                by_cases k1 : P.keys.getD k 0 < low
                · have e4 : decide (P.keys.getD k 0 < low) = true := decide_eq_true k1
                  have hno : allR P.keys low (hi - 1) = false := by
                    rw [Bool.eq_false_iff]
                    intro h'
                    have := allR_get.1 h' k (by omega)
                    omega
                  rw [if_pos (.inr hno)] at hV
                  cases hV
                  simp (config := {maxSteps := 1000000}) (disch := omega) only [go_sem, ↓reduceIte, Nat.reduceEqDiff, Nat.reduceAdd, Nat.reduceMul, Nat.reduceSub, Nat.reduceLeDiff, Nat.reduceLT, Int.reduceToNat, Int.reduceLE, Int.reduceLT, Int.reduceNeg, h_visit, mVisit, h_filledRight, mFilled, drP_n, drP_c, logAt_n, logAt_c, disP_n, disP_c, notIn_n, notIn_c, hs, csPc_c, hl1, hs1, h0, h2, h3, h4, hh, h11, hh11, h60, h61, h62, g1, e4]
                  try rfl
                · have e4 : decide (P.keys.getD k 0 < low) = false := decide_eq_false k1
                  by_cases k2 : hi ≤ P.keys.getD k 0
                  · have e5 : decide (hi ≤ P.keys.getD k 0) = true := decide_eq_true k2
                    have hno : allR P.keys low (hi - 1) = false := by
                      rw [Bool.eq_false_iff]
                      intro h'
                      have := allR_get.1 h' k (by omega)
                      omega
                    rw [if_pos (.inr hno)] at hV
                    cases hV
                    simp (config := {maxSteps := 1000000}) (disch := omega) only [go_sem, ↓reduceIte, Nat.reduceEqDiff, Nat.reduceAdd, Nat.reduceMul, Nat.reduceSub, Nat.reduceLeDiff, Nat.reduceLT, Int.reduceToNat, Int.reduceLE, Int.reduceLT, Int.reduceNeg, h_visit, mVisit, h_filledRight, mFilled, drP_n, drP_c, logAt_n, logAt_c, disP_n, disP_c, notIn_n, notIn_c, hs, csPc_c, hl1, hs1, h0, h2, h3, h4, hh, h11, hh11, h60, h61, h62, g1, e4, e5]
                    try rfl
                  · have e5 : decide (hi ≤ P.keys.getD k 0) = false := decide_eq_false k2
                    simp (config := {maxSteps := 1000000}) (disch := omega) only [go_sem, ↓reduceIte, Nat.reduceEqDiff, Nat.reduceAdd, Nat.reduceMul, Nat.reduceSub, Nat.reduceLeDiff, Nat.reduceLT, Int.reduceToNat, Int.reduceLE, Int.reduceLT, Int.reduceNeg, h_visit, mVisit, h_filledRight, mFilled, drP_n, drP_c, logAt_n, logAt_c, disP_n, disP_c, notIn_n, notIn_c, hs, csPc_c, hl1, hs1, h0, h2, h3, h4, hh, h11, hh11, h60, h61, h62, g1, e4, e5]
                    exact ⟨⟨⟨_, rfl⟩, m, hm2, by omega, rfl, ⟨v, hh11⟩, k + 1, by omega, rfl, fun i hi => by
                      by_cases e : i = k
                      · rw [e]; omega
                      · exact hall i (by omega)⟩, by omega⟩
              · have g1' := of_decide_eq_false g1
                obtain rfl : k = P.keys.length := by omega
                rw [if_neg (by rw [f1, allR_get.2 hall]; simp)] at hV
                have t16 := tl_get16 (ld := ld) hs1
                by_cases c0 : P.kids.length = 0
                · have e6 : decide ((P.kids.length : Int) = 0) = true := decide_eq_true (by omega)
                  rw [if_pos c0] at hV
                  by_cases l0 : ld < 0
                  · have e7 : decide (ld < 0) = true := decide_eq_true l0
                    have s16 := tl_set16 (ld := ld) (v := d) hs1
                    have t16' := tl_get16 (ld := d) hs1
                    have hl2 := tlPc_len (ld := d) hs1
                    rw [if_pos l0, decide_eq_true rfl] at hV
                    cases hV
                    simp (config := {maxSteps := 1000000}) (disch := omega) only [go_sem, ↓reduceIte, Nat.reduceEqDiff, Nat.reduceAdd, Nat.reduceMul, Nat.reduceSub, Nat.reduceLeDiff, Nat.reduceLT, Int.reduceToNat, Int.reduceLE, Int.reduceLT, Int.reduceNeg, h_visit, mVisit, h_filledRight, mFilled, drP_n, drP_c, logAt_n, logAt_c, disP_n, disP_c, notIn_n, notIn_c, hs, csPc_c, hl1, hs1, h0, h2, h3, h4, hh, h11, hh11, h60, h61, h62, g1, e6, e7, t16, s16, t16', hl2]
                    try simp
                  · have e7 : decide (ld < 0) = false := decide_eq_false l0
                    rw [if_neg l0] at hV
                    cases hV
                    simp (config := {maxSteps := 1000000}) (disch := omega) only [go_sem, ↓reduceIte, Nat.reduceEqDiff, Nat.reduceAdd, Nat.reduceMul, Nat.reduceSub, Nat.reduceLeDiff, Nat.reduceLT, Int.reduceToNat, Int.reduceLE, Int.reduceLT, Int.reduceNeg, h_visit, mVisit, h_filledRight, mFilled, drP_n, drP_c, logAt_n, logAt_c, disP_n, disP_c, notIn_n, notIn_c, hs, csPc_c, hl1, hs1, h0, h2, h3, h4, hh, h11, hh11, h60, h61, h62, g1, e6, e7, t16]
                    try rfl
                · have e6 : decide ((P.kids.length : Int) = 0) = false := decide_eq_false (by omega)
                  rw [if_neg c0] at hV
                  have hkl : P.kids.length = P.keys.length + 1 := by
                    have f2 := f1
                    unfold filledOk at f2
                    rw [hpa, if_neg c0] at f2
                    simp only [Bool.and_eq_true, decide_eq_true_eq] at f2
                    exact f2.2.2.2.2.2
                  generalize hg : (fun (i : Nat) (s' : VS) => visF t n (P.kids.getD i 0) (d + 1) (lowK P.keys i low) (hiK P.keys i hi) s') = g at hV
                  simp (config := {maxSteps := 1000000}) (disch := omega) only [go_sem, ↓reduceIte, Nat.reduceEqDiff, Nat.reduceAdd, Nat.reduceMul, Nat.reduceSub, Nat.reduceLeDiff, Nat.reduceLT, Int.reduceToNat, Int.reduceLE, Int.reduceLT, Int.reduceNeg, h_visit, mVisit, h_filledRight, mFilled, drP_n, drP_c, logAt_n, logAt_c, disP_n, disP_c, notIn_n, notIn_c, hs, csPc_c, hl1, hs1, h0, h2, h3, h4, hh, h11, hh11, h60, h61, h62, g1, e6]
                  refine W_loop_i (fun s => s.sl 0 = .ptr (2, 0) [] 0 0 ∧ s.sl 2 = eI d ∧ s.sl 3 = eI low ∧ s.sl 4 = eI hi ∧ 2 < m ∧ m < s.n ∧ s.sl 11 = .ptr (m, 0) [] 0 0 ∧ s.hp (m, 0) = some ⟨3, 1, [eIs false P.keys, eIs false P.kids, eIs false P.vals], v⟩ ∧ s.sl 95 = eIs false P.kids ∧ s.sl 96 = eI P.kids.length ∧ ∃ (k : Nat) (sk : List Bool) (lk : Int), k ≤ P.kids.length ∧ s.sl 97 = eI k ∧ sk.length = 16 ∧ (∃ v', s.hp (2, 0) = some ⟨19, 1, .i .i64 t.root :: ePgs false t.pages :: tlPc sk lk, v'⟩) ∧ klF g (List.range' k (P.kids.length - k)) (sk, lk) = (vb, vs, vl)) (fun s => P.kids.length - iN (s.sl 97)) ?_ ?_
                  · refine ⟨h0, h2, h3, h4, hm2, by dsimp only [St.n]; omega, h11, hh11, rfl, rfl, 0, sn1, ld, Nat.zero_le _, rfl, hs1, ⟨_, hh⟩, ?_⟩
                    rw [Nat.sub_zero, ← List.range_eq_range']
                    exact hV
                  · clear hV hh h0 h2 h3 h4 h11 hh11 h60 h61 h62 hall hm g1 g1'
                    rintro sl hp q ⟨h0, h2, h3, h4, -, hm, h11, hh11, h95, h96, k, sk, lk, hk, h97, hsk, ⟨v', hh⟩, hV⟩
                    dsimp only at h0 h2 h3 h4 hh h11 hh11 h95 h96 h97 hm
                    have hlk := tlPc_len (ld := lk) hsk
                    simp (config := {maxSteps := 1000000}) (disch := omega) only [go_sem, ↓reduceIte, Nat.reduceEqDiff, Nat.reduceAdd, Nat.reduceMul, Nat.reduceSub, Nat.reduceLeDiff, Nat.reduceLT, Int.reduceToNat, Int.reduceLE, Int.reduceLT, Int.reduceNeg, h_visit, mVisit, h_filledRight, mFilled, drP_n, drP_c, logAt_n, logAt_c, disP_n, disP_c, notIn_n, notIn_c, h0, h95, h96, h97]
                    (first | refine runKS_split (fun g1 => ?_) (fun g1 => ?_) | refine cond_split (fun g1 => ?_) (fun g1 => ?_) | refine runK_split (fun g1 => ?_) (fun g1 => ?_))
                    · have g1' := of_decide_eq_true g1
                      have hn' : (3 - (d + 1)).toNat = n := by omega
                      have hkk : k < P.kids.length := by omega
                      obtain ⟨b, s2, l2, hr⟩ : ∃ b s2 l2, g k (sk, lk) = (b, s2, l2) := ⟨_, _, _, rfl⟩
                      have hs2 : s2.length = 16 := by
                        have := visF_len (t := t) (n := n) (x := P.kids.getD k 0) (d := d + 1) (low := lowK P.keys k low) (hi := hiK P.keys k hi) (s := (sk, lk))
                        rw [← hg] at hr
                        dsimp only at hr
                        rw [hr] at this
                        dsimp only at this
                        omega
                      have hl2 := tlPc_len (ld := l2) hs2
                      have hr2 := hr
                      rw [← hg] at hr2
                      dsimp only at hr2
                      unfold lowK hiK at hr2
                      by_cases k0 : k = 0
                      · subst k0
                        have d5 : decide ((0 : Int) < ((0 : Nat) : Int)) = false := by decide
                        rw [if_neg (by omega)] at hr2
                        by_cases k1 : 0 < P.keys.length
                        · have d6 : decide (((0 : Nat) : Int) < (P.keys.length : Int)) = true := decide_eq_true (by omega)
                          rw [if_pos k1] at hr2
                          cases b
                          · rw [klF_f hkk hr] at hV
                            cases hV
                            simp (config := {maxSteps := 1000000}) (disch := omega) only [go_sem, ↓reduceIte, Nat.reduceEqDiff, Nat.reduceAdd, Nat.reduceMul, Nat.reduceSub, Nat.reduceLeDiff, Nat.reduceLT, Int.reduceToNat, Int.reduceLE, Int.reduceLT, Int.reduceNeg, h_visit, mVisit, h_filledRight, mFilled, drP_n, drP_c, logAt_n, logAt_c, disP_n, disP_c, notIn_n, notIn_c, hs, csPc_c, h0, h2, h3, h4, hh, h11, hh11, h95, h96, h97, g1, hsk, hlk, hn', hl2, d5, d6, hr2]
                            try rfl
                          · rw [klF_t hkk hr] at hV
                            simp (config := {maxSteps := 1000000}) (disch := omega) only [go_sem, ↓reduceIte, Nat.reduceEqDiff, Nat.reduceAdd, Nat.reduceMul, Nat.reduceSub, Nat.reduceLeDiff, Nat.reduceLT, Int.reduceToNat, Int.reduceLE, Int.reduceLT, Int.reduceNeg, h_visit, mVisit, h_filledRight, mFilled, drP_n, drP_c, logAt_n, logAt_c, disP_n, disP_c, notIn_n, notIn_c, hs, csPc_c, h0, h2, h3, h4, hh, h11, hh11, h95, h96, h97, g1, hsk, hlk, hn', hl2, d5, d6, hr2]
                            exact ⟨⟨hm2, 0 + 1, s2, l2, by omega, rfl, hs2, ⟨_, rfl⟩, hV⟩, by omega⟩
                        · have d6 : decide (((0 : Nat) : Int) < (P.keys.length : Int)) = false := decide_eq_false (by omega)
                          rw [if_neg k1] at hr2
                          cases b
                          · rw [klF_f hkk hr] at hV
                            cases hV
                            simp (config := {maxSteps := 1000000}) (disch := omega) only [go_sem, ↓reduceIte, Nat.reduceEqDiff, Nat.reduceAdd, Nat.reduceMul, Nat.reduceSub, Nat.reduceLeDiff, Nat.reduceLT, Int.reduceToNat, Int.reduceLE, Int.reduceLT, Int.reduceNeg, h_visit, mVisit, h_filledRight, mFilled, drP_n, drP_c, logAt_n, logAt_c, disP_n, disP_c, notIn_n, notIn_c, hs, csPc_c, h0, h2, h3, h4, hh, h11, hh11, h95, h96, h97, g1, hsk, hlk, hn', hl2, d5, d6, hr2]
                            try rfl
                          · rw [klF_t hkk hr] at hV
                            simp (config := {maxSteps := 1000000}) (disch := omega) only [go_sem, ↓reduceIte, Nat.reduceEqDiff, Nat.reduceAdd, Nat.reduceMul, Nat.reduceSub, Nat.reduceLeDiff, Nat.reduceLT, Int.reduceToNat, Int.reduceLE, Int.reduceLT, Int.reduceNeg, h_visit, mVisit, h_filledRight, mFilled, drP_n, drP_c, logAt_n, logAt_c, disP_n, disP_c, notIn_n, notIn_c, hs, csPc_c, h0, h2, h3, h4, hh, h11, hh11, h95, h96, h97, g1, hsk, hlk, hn', hl2, d5, d6, hr2]
                            exact ⟨⟨hm2, 0 + 1, s2, l2, by omega, rfl, hs2, ⟨_, rfl⟩, hV⟩, by omega⟩
                      · obtain ⟨j, rfl⟩ : ∃ j : Nat, k = j + 1 := ⟨k - 1, by omega⟩
                        have d5 : decide ((0 : Int) < ((j + 1 : Nat) : Int)) = true := decide_eq_true (by omega)
                        rw [if_pos (by omega), show j + 1 - 1 = j from by omega] at hr2
                        have ej : ((j + 1 : Nat) : Int) - 1 = (j : Int) := by omega
                        by_cases k1 : (j + 1) < P.keys.length
                        · have d6 : decide ((((j + 1) : Nat) : Int) < (P.keys.length : Int)) = true := decide_eq_true (by omega)
                          rw [if_pos k1] at hr2
                          cases b
                          · rw [klF_f hkk hr] at hV
                            cases hV
                            simp (config := {maxSteps := 1000000}) (disch := omega) only [go_sem, ↓reduceIte, Nat.reduceEqDiff, Nat.reduceAdd, Nat.reduceMul, Nat.reduceSub, Nat.reduceLeDiff, Nat.reduceLT, Int.reduceToNat, Int.reduceLE, Int.reduceLT, Int.reduceNeg, h_visit, mVisit, h_filledRight, mFilled, drP_n, drP_c, logAt_n, logAt_c, disP_n, disP_c, notIn_n, notIn_c, hs, csPc_c, h0, h2, h3, h4, hh, h11, hh11, h95, h96, h97, g1, hsk, hlk, hn', hl2, d5, d6, hr2, ej]
                            try rfl
                          · rw [klF_t hkk hr] at hV
                            simp (config := {maxSteps := 1000000}) (disch := omega) only [go_sem, ↓reduceIte, Nat.reduceEqDiff, Nat.reduceAdd, Nat.reduceMul, Nat.reduceSub, Nat.reduceLeDiff, Nat.reduceLT, Int.reduceToNat, Int.reduceLE, Int.reduceLT, Int.reduceNeg, h_visit, mVisit, h_filledRight, mFilled, drP_n, drP_c, logAt_n, logAt_c, disP_n, disP_c, notIn_n, notIn_c, hs, csPc_c, h0, h2, h3, h4, hh, h11, hh11, h95, h96, h97, g1, hsk, hlk, hn', hl2, d5, d6, hr2, ej]
                            exact ⟨⟨hm2, (j + 1) + 1, s2, l2, by omega, rfl, hs2, ⟨_, rfl⟩, hV⟩, by omega⟩
                        · have d6 : decide ((((j + 1) : Nat) : Int) < (P.keys.length : Int)) = false := decide_eq_false (by omega)
                          rw [if_neg k1] at hr2
                          cases b
                          · rw [klF_f hkk hr] at hV
                            cases hV
                            simp (config := {maxSteps := 1000000}) (disch := omega) only [go_sem, ↓reduceIte, Nat.reduceEqDiff, Nat.reduceAdd, Nat.reduceMul, Nat.reduceSub, Nat.reduceLeDiff, Nat.reduceLT, Int.reduceToNat, Int.reduceLE, Int.reduceLT, Int.reduceNeg, h_visit, mVisit, h_filledRight, mFilled, drP_n, drP_c, logAt_n, logAt_c, disP_n, disP_c, notIn_n, notIn_c, hs, csPc_c, h0, h2, h3, h4, hh, h11, hh11, h95, h96, h97, g1, hsk, hlk, hn', hl2, d5, d6, hr2, ej]
                            try rfl
                          · rw [klF_t hkk hr] at hV
                            simp (config := {maxSteps := 1000000}) (disch := omega) only [go_sem, ↓reduceIte, Nat.reduceEqDiff, Nat.reduceAdd, Nat.reduceMul, Nat.reduceSub, Nat.reduceLeDiff, Nat.reduceLT, Int.reduceToNat, Int.reduceLE, Int.reduceLT, Int.reduceNeg, h_visit, mVisit, h_filledRight, mFilled, drP_n, drP_c, logAt_n, logAt_c, disP_n, disP_c, notIn_n, notIn_c, hs, csPc_c, h0, h2, h3, h4, hh, h11, hh11, h95, h96, h97, g1, hsk, hlk, hn', hl2, d5, d6, hr2, ej]
                            exact ⟨⟨hm2, (j + 1) + 1, s2, l2, by omega, rfl, hs2, ⟨_, rfl⟩, hV⟩, by omega⟩
                    · have g1' := of_decide_eq_false g1
                      obtain rfl : k = P.kids.length := by omega
                      rw [klF_e] at hV
                      cases hV
                      simp (config := {maxSteps := 1000000}) (disch := omega) only [go_sem, ↓reduceIte, Nat.reduceEqDiff, Nat.reduceAdd, Nat.reduceMul, Nat.reduceSub, Nat.reduceLeDiff, Nat.reduceLT, Int.reduceToNat, Int.reduceLE, Int.reduceLT, Int.reduceNeg, h_visit, mVisit, h_filledRight, mFilled, drP_n, drP_c, logAt_n, logAt_c, disP_n, disP_c, notIn_n, notIn_c, hs, csPc_c, h0, h2, h3, h4, hh, h11, hh11, h95, h96, h97, g1, hsk, hlk]
                      try rfl
        · rw [visF_no (.inr (.inr x3))] at hV
          cases hV
          simp (config := {maxSteps := 1000000}) (disch := omega) only [go_sem, ↓reduceIte, Nat.reduceEqDiff, Nat.reduceAdd, Nat.reduceMul, Nat.reduceSub, Nat.reduceLeDiff, Nat.reduceLT, Int.reduceToNat, Int.reduceLE, Int.reduceLT, Int.reduceNeg, h_visit, mVisit, h_filledRight, mFilled, drP_n, drP_c, logAt_n, logAt_c, disP_n, disP_c, notIn_n, notIn_c, csPc_c, hl, e1, e2, e3, get_2, set_2, tg, x3]
          try rfl
    · have e2 : decide ((t.pages.length : Int) ≤ (y : Int)) = true := decide_eq_true (by omega)
      rw [visF_no (.inl (inR_f (by omega)))] at hV
      cases hV
      simp (config := {maxSteps := 1000000}) (disch := omega) only [go_sem, ↓reduceIte, Nat.reduceEqDiff, Nat.reduceAdd, Nat.reduceMul, Nat.reduceSub, Nat.reduceLeDiff, Nat.reduceLT, Int.reduceToNat, Int.reduceLE, Int.reduceLT, Int.reduceNeg, h_visit, mVisit, h_filledRight, mFilled, drP_n, drP_c, logAt_n, logAt_c, disP_n, disP_c, notIn_n, notIn_c, csPc_c, hl, e1, e2]
      try rfl
theorem fo_visit : FnOk Try.prog 117 := fnOk_of Try.func117 (by kernel_rfl)
theorem c_visit : ∀ D, Contract Try.prog 117 (mVisit D)
  | 0 => contract_none mVisit_none
  | D + 1 => contract_of_does (DT := fun id => match id with  | _ => []) Try.checked.mixed tabOk (gok_model fo_visit (c_visit D) (gok_model fo_filledRight c_filledRight gok_nil)) Try.func117 rfl (by kernel_rfl) (does_visit D rfl rfl)

end Go.TM
