/- Contracts, joined. -/
import Derived.Test.YtbpfagbihffmbaaF77
namespace Go.TM
open Go.Proofs
set_option linter.unusedVariables false
set_option linter.unusedSimpArgs false
set_option maxRecDepth 100000
set_option maxHeartbeats 4000000

def sfV (t : Tr) (x op : Int) : Bool :=
  if op = 1 then decide (((pgAt t x).keys.length : Int) < 4)
  else if op = 2 then if x = t.root then decide (((pgAt t x).kids.length : Int) = 0) || decide (1 < ((pgAt t x).keys.length : Int)) else decide (2 < ((pgAt t x).keys.length : Int))
  else true
def mSafe : Model := M3 .ro .ro .ro true (cTr false) cI cI fun t x op => gd (smT t.pages = true ∧ 0 ≤ x ∧ x < t.pages.length) (.b (sfV t x op), [])
noncomputable def safeV (t : Tr) (x op : Int) : Bool := vTr t && (inR x 0 ((t.pages.length : Int) - 1) && (inR op 0 2 && sfV t x op))
noncomputable def mIsSafe : Model := M3 .ro .ro .ro true (cTr false) cI cI fun t x op => gd (smT t.pages = true) (.b (safeV t x op), [])

theorem does_vKind {G : Nat → Option FM} (h_inRange : G 83 = some (.model mInRange)) : Does T G (fun id => match id with  | _ => []) Try.f86 mValidKind := by
  refine does1 (rs := [.tmp 2]) rfl rfl fun n ro h => ?_
  cases h
  refine ⟨fun _ => ⟨rfl, rfl⟩, ?_⟩
  simp (config := {maxSteps := 1000000}) (disch := omega) only [go_sem, ↓reduceIte, Nat.reduceEqDiff, Nat.reduceAdd, Nat.reduceMul, Nat.reduceSub, Nat.reduceLeDiff, Nat.reduceLT, Int.reduceToNat, Int.reduceLE, Int.reduceLT, Int.reduceNeg, h_inRange, mInRange]
theorem fo_vKind : FnOk Try.prog 86 := fnOk_of Try.func86 (by kernel_rfl)
theorem c_vKind : Contract Try.prog 86 mValidKind :=
  contract_of_does (DT := fun id => match id with  | _ => []) Try.checked.mixed tabOk (gok_model fo_inRange c_inRange gok_nil) Try.func86 rfl (by kernel_rfl) (does_vKind rfl)


theorem does_safe {G : Nat → Option FM}  : Does T G (fun id => match id with  | _ => []) Try.f139 mSafe := by
  refine does3 (rs := [.tmp 6]) rfl rfl fun t x op ro h => ?_
  obtain ⟨⟨hs, hx0, hx1⟩, rfl⟩ := gd_some h
  refine ⟨fun _ => ⟨rfl, rfl⟩, ?_⟩
  clear h
  obtain ⟨y, rfl⟩ : ∃ y : Nat, x = y := ⟨x.toNat, by omega⟩
  have hts := tr_small hs y
  have hpa := pgAt_nat t y
  unfold sfV
  rw [hpa] at hts ⊢
  generalize hP : t.pages.getD y default = P at *
  by_cases o1 : op = 1
  · have e1 : decide (op = 1) = true := decide_eq_true o1
    rw [if_pos o1]
    simp (config := {maxSteps := 1000000}) (disch := omega) only [go_sem, ↓reduceIte, Nat.reduceEqDiff, Nat.reduceAdd, Nat.reduceMul, Nat.reduceSub, Nat.reduceLeDiff, Nat.reduceLT, Int.reduceToNat, Int.reduceLE, Int.reduceLT, Int.reduceNeg, drP_n, drP_c, logAt_n, logAt_c, disP_n, disP_c, notIn_n, notIn_c, ePg, hP, e1]
    try rfl
  · have e1 : decide (op = 1) = false := decide_eq_false o1
    rw [if_neg o1]
    by_cases o2 : op = 2
    · have e2 : decide (op = 2) = true := decide_eq_true o2
      rw [if_pos o2]
      by_cases hr : (y : Int) = t.root
      · have e3 : decide ((y : Int) = t.root) = true := decide_eq_true hr
        rw [if_pos hr]
        cases e4 : decide ((P.kids.length : Int) = 0)
        · simp (config := {maxSteps := 1000000}) (disch := omega) only [go_sem, ↓reduceIte, Nat.reduceEqDiff, Nat.reduceAdd, Nat.reduceMul, Nat.reduceSub, Nat.reduceLeDiff, Nat.reduceLT, Int.reduceToNat, Int.reduceLE, Int.reduceLT, Int.reduceNeg, drP_n, drP_c, logAt_n, logAt_c, disP_n, disP_c, notIn_n, notIn_c, ePg, hP, e1, e2, e3, e4]
          try rfl
        · simp (config := {maxSteps := 1000000}) (disch := omega) only [go_sem, ↓reduceIte, Nat.reduceEqDiff, Nat.reduceAdd, Nat.reduceMul, Nat.reduceSub, Nat.reduceLeDiff, Nat.reduceLT, Int.reduceToNat, Int.reduceLE, Int.reduceLT, Int.reduceNeg, drP_n, drP_c, logAt_n, logAt_c, disP_n, disP_c, notIn_n, notIn_c, ePg, hP, e1, e2, e3, e4]
          try rfl
      · have e3 : decide ((y : Int) = t.root) = false := decide_eq_false hr
        rw [if_neg hr]
        simp (config := {maxSteps := 1000000}) (disch := omega) only [go_sem, ↓reduceIte, Nat.reduceEqDiff, Nat.reduceAdd, Nat.reduceMul, Nat.reduceSub, Nat.reduceLeDiff, Nat.reduceLT, Int.reduceToNat, Int.reduceLE, Int.reduceLT, Int.reduceNeg, drP_n, drP_c, logAt_n, logAt_c, disP_n, disP_c, notIn_n, notIn_c, ePg, hP, e1, e2, e3]
        try rfl
    · have e2 : decide (op = 2) = false := decide_eq_false o2
      rw [if_neg o2]
      simp (config := {maxSteps := 1000000}) (disch := omega) only [go_sem, ↓reduceIte, Nat.reduceEqDiff, Nat.reduceAdd, Nat.reduceMul, Nat.reduceSub, Nat.reduceLeDiff, Nat.reduceLT, Int.reduceToNat, Int.reduceLE, Int.reduceLT, Int.reduceNeg, drP_n, drP_c, logAt_n, logAt_c, disP_n, disP_c, notIn_n, notIn_c, ePg, hP, e1, e2]
      try rfl
theorem fo_safe : FnOk Try.prog 139 := fnOk_of Try.func139 (by kernel_rfl)
theorem c_safe : Contract Try.prog 139 mSafe :=
  contract_of_does (DT := fun id => match id with  | _ => []) Try.checked.mixed tabOk gok_nil Try.func139 rfl (by kernel_rfl) (does_safe )



theorem does_IsSafeI {G : Nat → Option FM} (h_ValidTreeI : G 66 = some (.model mValidTree)) : Does T G (fun id => match id with  | _ => []) Try.f89 mIsSafe := by
  refine does3 (rs := [.tmp 6]) rfl rfl fun t x op ro h => ?_
  obtain ⟨hs, rfl⟩ := gd_some h
  refine ⟨fun _ => ⟨rfl, rfl⟩, ?_⟩
  clear h
  have hss := smT_iff.1 hs
  unfold safeV
  cases h1 : vTr t
  · simp (config := {maxSteps := 1000000}) (disch := omega) only [go_sem, ↓reduceIte, Nat.reduceEqDiff, Nat.reduceAdd, Nat.reduceMul, Nat.reduceSub, Nat.reduceLeDiff, Nat.reduceLT, Int.reduceToNat, Int.reduceLE, Int.reduceLT, Int.reduceNeg, h_ValidTreeI, mValidTree, drP_n, drP_c, logAt_n, logAt_c, disP_n, disP_c, notIn_n, notIn_c, hs, h1]
    try rfl
  · by_cases x0 : x < 0
    · have e1 : decide (x < 0) = true := decide_eq_true x0
      rw [inR_f (by omega)]
      simp (config := {maxSteps := 1000000}) (disch := omega) only [go_sem, ↓reduceIte, Nat.reduceEqDiff, Nat.reduceAdd, Nat.reduceMul, Nat.reduceSub, Nat.reduceLeDiff, Nat.reduceLT, Int.reduceToNat, Int.reduceLE, Int.reduceLT, Int.reduceNeg, h_ValidTreeI, mValidTree, drP_n, drP_c, logAt_n, logAt_c, disP_n, disP_c, notIn_n, notIn_c, hs, h1, e1]
      try rfl
    · have e1 : decide (x < 0) = false := decide_eq_false x0
      obtain ⟨y, rfl⟩ : ∃ y : Nat, x = y := ⟨x.toNat, by omega⟩
      by_cases x1 : (y : Int) < t.pages.length
      · have e2 : decide ((t.pages.length : Int) ≤ (y : Int)) = false := decide_eq_false (by omega)
        rw [inR_t (by omega)]
        have hts := tr_small hs y
        have hpa := pgAt_nat t y
        unfold sfV
        rw [hpa] at hts ⊢
        generalize hP : t.pages.getD y default = P at *
        by_cases o0 : op = 0
        · have e3 : decide (op = 0) = true := decide_eq_true o0
          rw [inR_t (by omega), if_neg (by omega), if_neg (by omega)]
          simp (config := {maxSteps := 1000000}) (disch := omega) only [go_sem, ↓reduceIte, Nat.reduceEqDiff, Nat.reduceAdd, Nat.reduceMul, Nat.reduceSub, Nat.reduceLeDiff, Nat.reduceLT, Int.reduceToNat, Int.reduceLE, Int.reduceLT, Int.reduceNeg, h_ValidTreeI, mValidTree, drP_n, drP_c, logAt_n, logAt_c, disP_n, disP_c, notIn_n, notIn_c, ePg, hP, hs, h1, e1, e2, e3]
          try rfl
        · have e3 : decide (op = 0) = false := decide_eq_false o0
          by_cases o1 : op = 1
          · have e4 : decide (op = 1) = true := decide_eq_true o1
            rw [inR_t (by omega), if_pos o1]
            simp (config := {maxSteps := 1000000}) (disch := omega) only [go_sem, ↓reduceIte, Nat.reduceEqDiff, Nat.reduceAdd, Nat.reduceMul, Nat.reduceSub, Nat.reduceLeDiff, Nat.reduceLT, Int.reduceToNat, Int.reduceLE, Int.reduceLT, Int.reduceNeg, h_ValidTreeI, mValidTree, drP_n, drP_c, logAt_n, logAt_c, disP_n, disP_c, notIn_n, notIn_c, ePg, hP, hs, h1, e1, e2, e3, e4]
            try rfl
          · have e4 : decide (op = 1) = false := decide_eq_false o1
            rw [if_neg o1]
            by_cases o2 : op = 2
            · have e5 : decide (op = 2) = true := decide_eq_true o2
              rw [inR_t (by omega), if_pos o2]
              by_cases hr : (y : Int) = t.root
              · have e6 : decide ((y : Int) = t.root) = true := decide_eq_true hr
                rw [if_pos hr]
                cases e7 : decide ((P.kids.length : Int) = 0)
                · simp (config := {maxSteps := 1000000}) (disch := omega) only [go_sem, ↓reduceIte, Nat.reduceEqDiff, Nat.reduceAdd, Nat.reduceMul, Nat.reduceSub, Nat.reduceLeDiff, Nat.reduceLT, Int.reduceToNat, Int.reduceLE, Int.reduceLT, Int.reduceNeg, h_ValidTreeI, mValidTree, drP_n, drP_c, logAt_n, logAt_c, disP_n, disP_c, notIn_n, notIn_c, ePg, hP, hs, h1, e1, e2, e3, e4, e5, e6, e7]
                  try rfl
                · simp (config := {maxSteps := 1000000}) (disch := omega) only [go_sem, ↓reduceIte, Nat.reduceEqDiff, Nat.reduceAdd, Nat.reduceMul, Nat.reduceSub, Nat.reduceLeDiff, Nat.reduceLT, Int.reduceToNat, Int.reduceLE, Int.reduceLT, Int.reduceNeg, h_ValidTreeI, mValidTree, drP_n, drP_c, logAt_n, logAt_c, disP_n, disP_c, notIn_n, notIn_c, ePg, hP, hs, h1, e1, e2, e3, e4, e5, e6, e7]
                  try rfl
              · have e6 : decide ((y : Int) = t.root) = false := decide_eq_false hr
                rw [if_neg hr]
                simp (config := {maxSteps := 1000000}) (disch := omega) only [go_sem, ↓reduceIte, Nat.reduceEqDiff, Nat.reduceAdd, Nat.reduceMul, Nat.reduceSub, Nat.reduceLeDiff, Nat.reduceLT, Int.reduceToNat, Int.reduceLE, Int.reduceLT, Int.reduceNeg, h_ValidTreeI, mValidTree, drP_n, drP_c, logAt_n, logAt_c, disP_n, disP_c, notIn_n, notIn_c, ePg, hP, hs, h1, e1, e2, e3, e4, e5, e6]
                try rfl
            · have e5 : decide (op = 2) = false := decide_eq_false o2
              rw [inR_f (by omega)]
              simp (config := {maxSteps := 1000000}) (disch := omega) only [go_sem, ↓reduceIte, Nat.reduceEqDiff, Nat.reduceAdd, Nat.reduceMul, Nat.reduceSub, Nat.reduceLeDiff, Nat.reduceLT, Int.reduceToNat, Int.reduceLE, Int.reduceLT, Int.reduceNeg, h_ValidTreeI, mValidTree, drP_n, drP_c, logAt_n, logAt_c, disP_n, disP_c, notIn_n, notIn_c, ePg, hP, hs, h1, e1, e2, e3, e4, e5]
              try rfl
      · have e2 : decide ((t.pages.length : Int) ≤ (y : Int)) = true := decide_eq_true (by omega)
        rw [inR_f (by omega)]
        simp (config := {maxSteps := 1000000}) (disch := omega) only [go_sem, ↓reduceIte, Nat.reduceEqDiff, Nat.reduceAdd, Nat.reduceMul, Nat.reduceSub, Nat.reduceLeDiff, Nat.reduceLT, Int.reduceToNat, Int.reduceLE, Int.reduceLT, Int.reduceNeg, h_ValidTreeI, mValidTree, drP_n, drP_c, logAt_n, logAt_c, disP_n, disP_c, notIn_n, notIn_c, hs, h1, e1, e2]
        try rfl
theorem fo_IsSafeI : FnOk Try.prog 89 := fnOk_of Try.func89 (by kernel_rfl)
theorem c_IsSafeI : Contract Try.prog 89 mIsSafe :=
  contract_of_does (DT := fun id => match id with  | _ => []) Try.checked.mixed tabOk (gok_model fo_ValidTreeI c_ValidTreeI gok_nil) Try.func89 rfl (by kernel_rfl) (does_IsSafeI rfl)


def mLawTree3 : Model := M3 .ro .ro .ro true (cTr false) cI cI fun t _ _ => gd (t.pages.length ≤ 9223372036854775807 ∧ t.pages.all bigP = true) (.b true, [])

theorem fn_FnExactIsSafe (t : Tr) (h : TrW t) (x : Int) (hx : intWf .i64 x) (op : Int) (hop : intWf .i64 op) : mLawTree3.fn [eTr false t, eI x, eI op] = some (.b true, []) := by
  obtain ⟨h1, h2⟩ := bigP_of h
  simp (config := {maxSteps := 1000000}) (disch := omega) only [go_sem, ↓reduceIte, Nat.reduceEqDiff, Nat.reduceAdd, Nat.reduceMul, Nat.reduceSub, Nat.reduceLeDiff, Nat.reduceLT, Int.reduceToNat, Int.reduceLE, Int.reduceLT, Int.reduceNeg, mLawTree3, h2]

set_option linter.unusedVariables false
set_option linter.unusedSimpArgs false
set_option maxRecDepth 100000
set_option maxHeartbeats 4000000

def totS : List (List Int) → Nat
  | [] => 0
  | x :: xs => x.length + totS xs
theorem totS_app : ∀ a b : List (List Int), totS (a ++ b) = totS a + totS b
  | [], b => by simp [totS]
  | p :: a, b => by simp only [List.cons_append, totS, totS_app a b]; omega
theorem totS_take_succ {ps : List (List Int)} {k : Nat} (h : k < ps.length) : totS (ps.take (k + 1)) = totS (ps.take k) + (ps.getD k []).length := by
  rw [List.take_succ_eq_append_getElem h, totS_app]
  simp [totS, h]
theorem totS_split (ps : List (List Int)) (k : Nat) : totS (ps.take k) + totS (ps.drop k) = totS ps := by
  rw [← totS_app, List.take_append_drop]
theorem totS_get {ps : List (List Int)} {k : Nat} (h : k < ps.length) : totS (ps.take k) + (ps.getD k []).length ≤ totS ps := by
  have h1 := totS_split ps (k + 1)
  rw [totS_take_succ h] at h1
  omega
def smS (ps : List (List Int)) : Bool := decide (ps.length + totS ps ≤ 16777216)
theorem smS_iff {ps : List (List Int)} : smS ps = true ↔ ps.length + totS ps ≤ 16777216 := by simp [smS]
theorem clean_iss (ps : List (List Int)) : cleanL (ps.map (eIs true)) = true := by
  induction ps with
  | nil => rfl
  | cons x ps ih => simp only [List.map_cons, cleanL, cleanA, clean_ints, ih, Bool.and_self]
def mkSs : List (List Int) → Int → List (List Int)
  | [], _ => []
  | x :: xs, k => marks x.length k :: mkSs xs (k + x.length)
theorem mkSs_len : ∀ (ps : List (List Int)) (k : Int), (mkSs ps k).length = ps.length
  | [], _ => rfl
  | p :: ps, k => by simp [mkSs, mkSs_len ps]
theorem mkSs_tot : ∀ (ps : List (List Int)) (k : Int), totS (mkSs ps k) = totS ps
  | [], _ => rfl
  | p :: ps, k => by simp [mkSs, totS, mkSs_tot ps, marks_len]
theorem mkSs_app : ∀ (a b : List (List Int)) (k : Int), mkSs (a ++ b) k = mkSs a k ++ mkSs b (k + totS a)
  | [], b, k => by simp [mkSs, totS]
  | p :: a, b, k => by
    simp only [List.cons_append, mkSs, mkSs_app a b, totS]
    rw [show k + (p.length : Int) + (totS a : Int) = k + ((p.length + totS a : Nat) : Int) from by omega]
theorem mkSs_get {ps : List (List Int)} {k : Nat} (h : k < ps.length) (n : Int) : (mkSs ps n).getD k [] = marks (ps.getD k []).length (n + totS (ps.take k)) := by
  have e : ps = ps.take k ++ ps.getD k [] :: ps.drop (k + 1) := by
    rw [show ps.getD k [] = ps[k] from by simp [h], ← List.drop_eq_getElem_cons h, List.take_append_drop]
  have hl : (mkSs (ps.take k) n).length = k := by rw [mkSs_len, List.length_take]; omega
  conv => lhs; rw [e, mkSs_app]
  rw [List.getD_eq_getElem?_getD, List.getElem?_append_right (by omega), hl, Nat.sub_self]
  rfl
theorem mkSs_step {ps : List (List Int)} {k : Nat} (h : k < ps.length) (n : Int) : (mkSs (ps.take k) n ++ ps.drop k).set k (marks (ps.getD k []).length (n + totS (ps.take k))) = mkSs (ps.take (k + 1)) n ++ ps.drop (k + 1) := by
  have hl : (mkSs (ps.take k) n).length = k := by rw [mkSs_len, List.length_take]; omega
  rw [List.take_succ_eq_append_getElem h, mkSs_app, List.set_append_right _ _ (by omega), hl, Nat.sub_self, List.drop_eq_getElem_cons h, List.set_cons_zero, List.append_assoc]
  simp [mkSs, h]
theorem mkSs_idem : ∀ (ps : List (List Int)) (k : Int), mkSs (mkSs ps k) k = mkSs ps k
  | [], _ => rfl
  | p :: ps, k => by simp only [mkSs, marks_len, mkSs_idem ps]

def mEqIntSS : Model := M2 .ro .ro true (cIss false) (cIss false) fun a b => gd (smS a = true ∧ smS b = true) (.b (decide (a = b)), [])
def mHeldIntSS : Model := M2 .ro .ro true (cIss false) cI fun ps k => gd (smS ps = true ∧ 0 ≤ k ∧ k ≤ 1073741824) (eI (if ps = mkSs ps k then k + totS ps else -1), [])
def mMarkIntSS : Model := M2 (.ln 1) .ro true (cIss true) cI fun ps k => gd (smS ps = true ∧ 0 ≤ k ∧ k ≤ 1073741824) (eI (k + totS ps), [(mkSs ps k).map (eIs true)])

theorem does_eqIntSS {G : Nat → Option FM} (h_eqIntS : G 25 = some (.model mEqIntS)) : Does T G (fun id => match id with  | _ => []) Try.f45 mEqIntSS := by
  refine does2 (rs := [.tmp 4]) rfl rfl fun a b ro h => ?_
  obtain ⟨⟨ha, hb⟩, rfl⟩ := gd_some h
  have ha := smS_iff.1 ha
  have hb := smS_iff.1 hb
  refine ⟨fun _ => ⟨rfl, rfl⟩, ?_⟩
  by_cases hl : a.length = b.length
  · have e0 : decide ((a.length : Int) = (b.length : Int)) = true := decide_eq_true (by omega)
    simp (config := {maxSteps := 1000000}) (disch := omega) only [go_sem, ↓reduceIte, Nat.reduceEqDiff, Nat.reduceAdd, Nat.reduceMul, Nat.reduceSub, Nat.reduceLeDiff, Nat.reduceLT, Int.reduceToNat, Int.reduceLE, Int.reduceLT, Int.reduceNeg, h_eqIntS, mEqIntS, drP_n, drP_c, logAt_n, logAt_c, disP_n, disP_c, notIn_n, notIn_c, e0]
    refine W_loop_i (fun s => s.sl 0 = eIss false a ∧ s.sl 1 = eIss false b ∧ ∃ k : Nat, k ≤ a.length ∧ s.sl 5 = eI k ∧ ∀ i, i < k → a.getD i [] = b.getD i []) (fun s => a.length - iN (s.sl 5)) ?_ ?_
    · exact ⟨rfl, rfl, 0, Nat.zero_le _, rfl, fun i hi => by omega⟩
    · rintro sl hp n ⟨h0, h1, k, hk, h5, hall⟩
      dsimp only at h0 h1 h5
      by_cases g1' : k < a.length
      · have g1 : decide ((k : Int) < (a.length : Int)) = true := decide_eq_true (by omega)
        have ta := totS_get (ps := a) (k := k) (by omega)
        have tb := totS_get (ps := b) (k := k) (by omega)
        by_cases he : a.getD k [] = b.getD k []
        · have e1 : decide (a.getD k [] = b.getD k []) = true := decide_eq_true he
          simp (config := {maxSteps := 1000000}) (disch := omega) only [go_sem, ↓reduceIte, Nat.reduceEqDiff, Nat.reduceAdd, Nat.reduceMul, Nat.reduceSub, Nat.reduceLeDiff, Nat.reduceLT, Int.reduceToNat, Int.reduceLE, Int.reduceLT, Int.reduceNeg, h_eqIntS, mEqIntS, drP_n, drP_c, logAt_n, logAt_c, disP_n, disP_c, notIn_n, notIn_c, h0, h1, h5, g1, get_Is, e1]
          refine ⟨⟨k + 1, by omega, rfl, fun i hi => ?_⟩, by omega⟩
          by_cases hik : i = k
          · rw [hik]; exact he
          · exact hall i (by omega)
        · have e1 : decide (a.getD k [] = b.getD k []) = false := decide_eq_false he
          simp (config := {maxSteps := 1000000}) (disch := omega) only [go_sem, ↓reduceIte, Nat.reduceEqDiff, Nat.reduceAdd, Nat.reduceMul, Nat.reduceSub, Nat.reduceLeDiff, Nat.reduceLT, Int.reduceToNat, Int.reduceLE, Int.reduceLT, Int.reduceNeg, h_eqIntS, mEqIntS, drP_n, drP_c, logAt_n, logAt_c, disP_n, disP_c, notIn_n, notIn_c, h0, h1, h5, g1, get_Is, e1]
          rw [decide_eq_false]
          rintro rfl
          exact he rfl
      · have g1 : decide ((k : Int) < (a.length : Int)) = false := decide_eq_false (by omega)
        obtain rfl : k = a.length := by omega
        simp (config := {maxSteps := 1000000}) (disch := omega) only [go_sem, ↓reduceIte, Nat.reduceEqDiff, Nat.reduceAdd, Nat.reduceMul, Nat.reduceSub, Nat.reduceLeDiff, Nat.reduceLT, Int.reduceToNat, Int.reduceLE, Int.reduceLT, Int.reduceNeg, h_eqIntS, mEqIntS, drP_n, drP_c, logAt_n, logAt_c, disP_n, disP_c, notIn_n, notIn_c, h0, h1, h5, g1]
        rw [decide_eq_true (list_ext (d := []) hl fun i hi => hall i (by omega))]
  · have e0 : decide ((a.length : Int) = (b.length : Int)) = false := decide_eq_false (by omega)
    simp (config := {maxSteps := 1000000}) (disch := omega) only [go_sem, ↓reduceIte, Nat.reduceEqDiff, Nat.reduceAdd, Nat.reduceMul, Nat.reduceSub, Nat.reduceLeDiff, Nat.reduceLT, Int.reduceToNat, Int.reduceLE, Int.reduceLT, Int.reduceNeg, h_eqIntS, mEqIntS, drP_n, drP_c, logAt_n, logAt_c, disP_n, disP_c, notIn_n, notIn_c, e0]
    rw [decide_eq_false]
    rintro rfl
    exact hl rfl
theorem fo_eqIntSS : FnOk Try.prog 45 := fnOk_of Try.func45 (by kernel_rfl)
theorem c_eqIntSS : Contract Try.prog 45 mEqIntSS :=
  contract_of_does (DT := fun id => match id with  | _ => []) Try.checked.mixed tabOk (gok_model fo_eqIntS c_eqIntS gok_nil) Try.func45 rfl (by kernel_rfl) (does_eqIntSS rfl)


theorem does_heldIntSS {G : Nat → Option FM} (h_heldIntS : G 40 = some (.model mHeldIntS)) : Does T G (fun id => match id with  | _ => []) Try.f47 mHeldIntSS := by
  refine does2 (rs := [.tmp 4]) rfl rfl fun ps k0 ro h => ?_
  obtain ⟨⟨hs, hk0, hk1⟩, rfl⟩ := gd_some h
  have hs := smS_iff.1 hs
  refine ⟨fun _ => ⟨rfl, rfl⟩, ?_⟩
  have no : ∀ k, k < ps.length → ps.getD k [] ≠ marks (ps.getD k []).length (k0 + totS (ps.take k)) → ps ≠ mkSs ps k0 := by
    intro k hk hne he
    apply hne
    have : ps.getD k [] = (mkSs ps k0).getD k [] := congrArg (fun l => l.getD k []) he
    rw [mkSs_get hk] at this
    exact this
  simp (config := {maxSteps := 1000000}) (disch := omega) only [go_sem, ↓reduceIte, Nat.reduceEqDiff, Nat.reduceAdd, Nat.reduceMul, Nat.reduceSub, Nat.reduceLeDiff, Nat.reduceLT, Int.reduceToNat, Int.reduceLE, Int.reduceLT, Int.reduceNeg, h_heldIntS, mHeldIntS, drP_n, drP_c, logAt_n, logAt_c, disP_n, disP_c, notIn_n, notIn_c]
  refine W_loop_i (fun s => s.sl 0 = eIss false ps ∧ ∃ k : Nat, k ≤ ps.length ∧ s.sl 5 = eI k ∧ s.sl 1 = eI (k0 + totS (ps.take k)) ∧ ∀ i, i < k → ps.getD i [] = (mkSs ps k0).getD i []) (fun s => ps.length - iN (s.sl 5)) ?_ ?_
  · refine ⟨rfl, 0, Nat.zero_le _, rfl, ?_, fun i hi => by omega⟩
    show A.i .i64 k0 = eI _
    rw [List.take_zero, totS]; simp
  · rintro sl hp n ⟨h0, k, hk, h5, h1, hall⟩
    dsimp only at h0 h5 h1
    by_cases g1' : k < ps.length
    · have g1 : decide ((k : Int) < (ps.length : Int)) = true := decide_eq_true (by omega)
      have ta := totS_get (ps := ps) (k := k) (by omega)
      have ets := totS_take_succ (ps := ps) (k := k) (by omega)
      have no := no k (by omega)
      have mg := mkSs_get (ps := ps) (k := k) (by omega) k0
      generalize hx : ps.getD k [] = x at *
      generalize hn : k0 + (totS (ps.take k) : Int) = q at *
      by_cases c1 : x = marks x.length q
      · have e1 : decide (q + (x.length : Int) < 0) = false := decide_eq_false (by omega)
        simp (config := {maxSteps := 1000000}) (disch := omega) only [go_sem, ↓reduceIte, Nat.reduceEqDiff, Nat.reduceAdd, Nat.reduceMul, Nat.reduceSub, Nat.reduceLeDiff, Nat.reduceLT, Int.reduceToNat, Int.reduceLE, Int.reduceLT, Int.reduceNeg, h_heldIntS, mHeldIntS, drP_n, drP_c, logAt_n, logAt_c, disP_n, disP_c, notIn_n, notIn_c, h0, h1, h5, g1, get_Is, hx, if_pos c1, e1]
        refine ⟨⟨k + 1, by omega, rfl, ?_, fun i hi => ?_⟩, by omega⟩
        · rw [ets]
          show A.i .i64 _ = A.i .i64 _
          congr 1
          omega
        · by_cases hik : i = k
          · rw [hik, hx, mg]; exact c1
          · exact hall i (by omega)
      · simp (config := {maxSteps := 1000000}) (disch := omega) only [go_sem, ↓reduceIte, Nat.reduceEqDiff, Nat.reduceAdd, Nat.reduceMul, Nat.reduceSub, Nat.reduceLeDiff, Nat.reduceLT, Int.reduceToNat, Int.reduceLE, Int.reduceLT, Int.reduceNeg, h_heldIntS, mHeldIntS, drP_n, drP_c, logAt_n, logAt_c, disP_n, disP_c, notIn_n, notIn_c, h0, h1, h5, g1, get_Is, hx, if_neg c1]
        rw [if_neg (no c1)]
    · have g1 : decide ((k : Int) < (ps.length : Int)) = false := decide_eq_false (by omega)
      obtain rfl : k = ps.length := by omega
      rw [List.take_length] at h1
      simp (config := {maxSteps := 1000000}) (disch := omega) only [go_sem, ↓reduceIte, Nat.reduceEqDiff, Nat.reduceAdd, Nat.reduceMul, Nat.reduceSub, Nat.reduceLeDiff, Nat.reduceLT, Int.reduceToNat, Int.reduceLE, Int.reduceLT, Int.reduceNeg, h_heldIntS, mHeldIntS, drP_n, drP_c, logAt_n, logAt_c, disP_n, disP_c, notIn_n, notIn_c, h0, h1, h5, g1]
      rw [if_pos (list_ext (d := []) (mkSs_len _ _).symm fun i hi => hall i (by rw [mkSs_len] at hi; omega))]
theorem fo_heldIntSS : FnOk Try.prog 47 := fnOk_of Try.func47 (by kernel_rfl)
theorem c_heldIntSS : Contract Try.prog 47 mHeldIntSS :=
  contract_of_does (DT := fun id => match id with  | _ => []) Try.checked.mixed tabOk (gok_model fo_heldIntS c_heldIntS gok_nil) Try.func47 rfl (by kernel_rfl) (does_heldIntSS rfl)


theorem does_markIntSS {G : Nat → Option FM} (h_markIntS : G 26 = some (.model mMarkIntS)) : Does T G (fun id => match id with  | _ => []) Try.f46 mMarkIntSS := by
  refine does2 (rs := [.tmp 4]) rfl rfl fun ps k0 ro h => ?_
  obtain ⟨⟨hs, hk0, hk1⟩, rfl⟩ := gd_some h
  have hs := smS_iff.1 hs
  refine ⟨fun _ => ⟨rfl, by simp [clean_iss]⟩, ?_⟩
  simp (config := {maxSteps := 1000000}) (disch := omega) only [go_sem, ↓reduceIte, Nat.reduceEqDiff, Nat.reduceAdd, Nat.reduceMul, Nat.reduceSub, Nat.reduceLeDiff, Nat.reduceLT, Int.reduceToNat, Int.reduceLE, Int.reduceLT, Int.reduceNeg, h_markIntS, mMarkIntS, drP_n, drP_c, logAt_n, logAt_c, disP_n, disP_c, notIn_n, notIn_c]
  refine W_loop_i (fun s => s.sl 0 = .ref (2, 0) [] 0 0 1 ps.length ∧ ∃ k : Nat, k ≤ ps.length ∧ s.sl 5 = eI k ∧ s.sl 1 = eI (k0 + totS (ps.take k)) ∧ ∃ v, s.hp (2, 0) = some ⟨1, ps.length, (mkSs (ps.take k) k0 ++ ps.drop k).map (eIs true), v⟩) (fun s => ps.length - iN (s.sl 5)) ?_ ?_
  · refine ⟨rfl, 0, Nat.zero_le _, rfl, ?_, fun _ => 0, ?_⟩
    · show A.i .i64 k0 = eI _
      rw [List.take_zero, totS]; simp
    · simp (config := {maxSteps := 1000000}) (disch := omega) only [go_sem, ↓reduceIte, Nat.reduceEqDiff, Nat.reduceAdd, Nat.reduceMul, Nat.reduceSub, Nat.reduceLeDiff, Nat.reduceLT, Int.reduceToNat, Int.reduceLE, Int.reduceLT, Int.reduceNeg, h_markIntS, mMarkIntS, drP_n, drP_c, logAt_n, logAt_c, disP_n, disP_c, notIn_n, notIn_c]
      rfl
  · rintro sl hp n ⟨h0, k, hk, h5, h1, v, hh⟩
    dsimp only at h0 h5 h1 hh
    have hcl : (mkSs (ps.take k) k0 ++ ps.drop k).length = ps.length := by rw [List.length_append, mkSs_len, List.length_take, List.length_drop]; omega
    by_cases g1' : k < ps.length
    · have g1 : decide ((k : Int) < (ps.length : Int)) = true := decide_eq_true (by omega)
      have ta := totS_get (ps := ps) (k := k) (by omega)
      have ets := totS_take_succ (ps := ps) (k := k) (by omega)
      have hgk : (mkSs (ps.take k) k0 ++ ps.drop k).getD k [] = ps.getD k [] := by
        rw [List.getD_eq_getElem?_getD, List.getElem?_append_right (by rw [mkSs_len, List.length_take]; omega), mkSs_len, List.length_take, Nat.min_eq_left (by omega), Nat.sub_self, List.getElem?_drop]
        simp
      have stp := mkSs_step (ps := ps) (k := k) (by omega) k0
      generalize hcur : mkSs (ps.take k) k0 ++ ps.drop k = cur at *
      generalize ps.getD k [] = x at *
      generalize hq : k0 + (totS (ps.take k) : Int) = q at *
      have m0 := marks_len x.length q
      simp (config := {maxSteps := 1000000}) (disch := omega) only [go_sem, ↓reduceIte, Nat.reduceEqDiff, Nat.reduceAdd, Nat.reduceMul, Nat.reduceSub, Nat.reduceLeDiff, Nat.reduceLT, Int.reduceToNat, Int.reduceLE, Int.reduceLT, Int.reduceNeg, h_markIntS, mMarkIntS, drP_n, drP_c, logAt_n, logAt_c, disP_n, disP_c, notIn_n, notIn_c, h0, h1, h5, g1, hh, get_Is, hgk, marks_len, List.length_map]
      refine ⟨⟨k + 1, by omega, rfl, ?_, ?_⟩, by omega⟩
      · rw [ets]
        show A.i .i64 _ = A.i .i64 _
        congr 1
        omega
      · have e : eIs true (marks x.length q) = A.s true 1 x.length ((marks x.length q).map eI) := by
          show A.s true 1 (marks x.length q).length _ = _
          rw [m0]
        rw [← stp, List.map_set, e]
        exact ⟨_, rfl⟩
    · have g1 : decide ((k : Int) < (ps.length : Int)) = false := decide_eq_false (by omega)
      obtain rfl : k = ps.length := by omega
      rw [List.take_length, List.drop_length, List.append_nil] at hh
      rw [List.take_length] at h1
      simp (config := {maxSteps := 1000000}) (disch := omega) only [go_sem, ↓reduceIte, Nat.reduceEqDiff, Nat.reduceAdd, Nat.reduceMul, Nat.reduceSub, Nat.reduceLeDiff, Nat.reduceLT, Int.reduceToNat, Int.reduceLE, Int.reduceLT, Int.reduceNeg, h_markIntS, mMarkIntS, drP_n, drP_c, logAt_n, logAt_c, disP_n, disP_c, notIn_n, notIn_c, h0, h1, h5, g1, hh]
      try rfl
theorem fo_markIntSS : FnOk Try.prog 46 := fnOk_of Try.func46 (by kernel_rfl)
theorem c_markIntSS : Contract Try.prog 46 mMarkIntSS :=
  contract_of_does (DT := fun id => match id with  | _ => []) Try.checked.mixed tabOk (gok_model fo_markIntS c_markIntS gok_nil) Try.func46 rfl (by kernel_rfl) (does_markIntSS rfl)


set_option linter.unusedVariables false
set_option linter.unusedSimpArgs false
set_option maxRecDepth 100000
set_option maxHeartbeats 4000000

def frF (t : Tr) (op : Int) (w : List Int) : Nat → Nat
  | 0 => 0
  | k + 1 => if sfV t (w.getD k 0) op = true then k else frF t op w k
theorem frF_le (t : Tr) (op : Int) (w : List Int) : ∀ k, frF t op w k ≤ k ∧ frF t op w (k + 1) ≤ k
  | 0 => by
    refine ⟨Nat.le_refl _, ?_⟩
    simp only [frF]
    split <;> omega
  | k + 1 => by
    have h := frF_le t op w k
    refine ⟨by omega, ?_⟩
    have h2 : frF t op w (k + 1 + 1) = if sfV t (w.getD (k + 1) 0) op = true then k + 1 else frF t op w (k + 1) := rfl
    rw [h2]
    split
    · omega
    · omega
def hdL (t : Tr) (op : Int) (w : List Int) (k : Nat) : List Int := sub w (frF t op w k) (k - frF t op w k)
theorem frF_t {t : Tr} {op : Int} {w : List Int} {k : Nat} (h : sfV t (w.getD k 0) op = true) : frF t op w (k + 1) = k := if_pos h
theorem frF_f {t : Tr} {op : Int} {w : List Int} {k : Nat} (h : sfV t (w.getD k 0) op = false) : frF t op w (k + 1) = frF t op w k := if_neg (by rw [h]; simp)
theorem sub_ge {w : List Int} {a n : Nat} (h : a + n < w.length) : sub w a n ++ [w.getD (a + n) 0] = sub w a (n + 1) := by
  unfold sub
  rw [List.take_succ_eq_append_getElem (by rw [List.length_drop]; omega)]
  simp [h]
theorem hdL_t {t : Tr} {op : Int} {w : List Int} {k : Nat} (hk : k < w.length) (h : sfV t (w.getD k 0) op = true) : hdL t op w (k + 1) = [w.getD k 0] := by
  unfold hdL
  rw [frF_t h, show k + 1 - k = 0 + 1 by omega, ← sub_ge (by omega)]
  simp [sub]
theorem hdL_f {t : Tr} {op : Int} {w : List Int} {k : Nat} (hk : k < w.length) (h : sfV t (w.getD k 0) op = false) : hdL t op w (k + 1) = hdL t op w k ++ [w.getD k 0] := by
  have h1 := (frF_le t op w k).1
  unfold hdL
  rw [frF_f h, show k + 1 - frF t op w k = (k - frF t op w k) + 1 by omega, ← sub_ge (by omega), show frF t op w k + (k - frF t op w k) = k by omega]
theorem hdL_len {t : Tr} {op : Int} {w : List Int} {k : Nat} (hk : k ≤ w.length) : (hdL t op w k).length = k - frF t op w k := by
  have h1 := (frF_le t op w k).1
  unfold hdL sub
  rw [List.length_take, List.length_drop]
  omega
def latL (t : Tr) (op : Int) (w : List Int) : Nat → List (List Int)
  | 0 => []
  | k + 1 => latL t op w k ++ [hdL t op w (k + 1)]
theorem latL_len (t : Tr) (op : Int) (w : List Int) : ∀ k, (latL t op w k).length = k
  | 0 => rfl
  | k + 1 => by simp only [latL]; rw [List.length_append, latL_len t op w k]; rfl
theorem latL_tot {t : Tr} {op : Int} {w : List Int} : ∀ k, k ≤ w.length → totS (latL t op w k) ≤ k * w.length
  | 0, _ => Nat.zero_le _
  | k + 1, h => by
    have h1 := latL_tot (t := t) (op := op) (w := w) k (by omega)
    have h2 := hdL_len (t := t) (op := op) h
    simp only [latL]
    rw [totS_app, Nat.add_one_mul]
    simp only [totS]
    omega
noncomputable def latV (t : Tr) (key op : Int) : List (List Int) := if vTr t = true ∧ inR op 0 2 = true then latL t op (pathF t key (htT t) t.root) (htT t + 1) else []
noncomputable def hlV (t : Tr) (key op : Int) : List Int := if vTr t = true ∧ inR op 0 2 = true then hdL t op (pathF t key (htT t) t.root) (htT t + 1) else []
theorem latV_f {t : Tr} {key op : Int} (h : ¬ (vTr t = true ∧ inR op 0 2 = true)) : latV t key op = [] := if_neg h
theorem latV_t {t : Tr} {key op : Int} (h : vTr t = true ∧ inR op 0 2 = true) : latV t key op = latL t op (pathF t key (htT t) t.root) (htT t + 1) := if_pos h
theorem hlV_f {t : Tr} {key op : Int} (h : ¬ (vTr t = true ∧ inR op 0 2 = true)) : hlV t key op = [] := if_neg h
theorem hlV_t {t : Tr} {key op : Int} (h : vTr t = true ∧ inR op 0 2 = true) : hlV t key op = hdL t op (pathF t key (htT t) t.root) (htT t + 1) := if_pos h
theorem app_SS {L : List (List Int)} {k n : Nat} {x : List Int} (h : L.length = k ∧ n = x.length) : (L.map (eIs true)).take k ++ [A.s true 1 n (x.map eI)] = (L ++ [x]).map (eIs true) := by
  obtain ⟨rfl, rfl⟩ := h
  rw [List.take_of_length_le (by simp), List.map_append]
  rfl

theorem app_SS1 {L : List (List Int)} {k : Nat} {y : Int} (h : L.length = k) : (L.map (eIs true)).take k ++ [A.s true 1 1 [.i .i64 y]] = (L ++ [[y]]).map (eIs true) := app_SS (x := [y]) ⟨h, rfl⟩
theorem iss_eq {L : List (List Int)} {n : Nat} (h : L.length = n) : some (A.s true 1 n (L.map (eIs true)), ([] : List (List A))) = some (eIss true L, []) := by subst h; rfl
def mHeldAt : Model := M4 .ro .ro .ro .ro true (cTr false) (cIs false) cI cI fun t w n op => gd (smT t.pages = true ∧ (0 ≤ n ∧ n < w.length ∧ w.length ≤ 1000) ∧ allR w 0 ((t.pages.length : Int) - 1) = true) (eIs true (hdL t op w (n.toNat + 1)), [])
noncomputable def mLatch : Model := M3 .ro .ro .ro true (cTr false) cI cI fun t key op => gd (smT t.pages = true) (eIss true (latV t key op), [])
noncomputable def mHeldLast : Model := M3 .ro .ro .ro true (cTr false) cI cI fun t key op => gd (smT t.pages = true) (eIs true (hlV t key op), [])

theorem does_heldAt {G : Nat → Option FM} (h_safe : G 139 = some (.model mSafe)) (h_copyInts : G 140 = some (.model mCopyInts)) : Does T G (fun id => match id with  | _ => []) Try.f88 mHeldAt := by
  refine does4 (rs := [.tmp 8]) rfl rfl fun t w n op ro h => ?_
  obtain ⟨⟨hs, ⟨hn0, hn1, hwl⟩, hall⟩, rfl⟩ := gd_some h
  refine ⟨fun _ => ⟨by simp only [cleanA]; exact clean_ints _, rfl⟩, ?_⟩
  clear h
  obtain ⟨n, rfl⟩ : ∃ m : Nat, n = m := ⟨n.toNat, by omega⟩
  rw [Int.toNat_natCast]
  have hg := allR_get.1 hall
  have hss := smT_iff.1 hs
  simp (config := {maxSteps := 1000000}) (disch := omega) only [go_sem, ↓reduceIte, Nat.reduceEqDiff, Nat.reduceAdd, Nat.reduceMul, Nat.reduceSub, Nat.reduceLeDiff, Nat.reduceLT, Int.reduceToNat, Int.reduceLE, Int.reduceLT, Int.reduceNeg, h_safe, mSafe, h_copyInts, mCopyInts, drP_n, drP_c, logAt_n, logAt_c, disP_n, disP_c, notIn_n, notIn_c]
  refine W_loop_i (fun s => s.sl 4 = .ptr (3, 0) [] 0 0 ∧ s.hp (3, 0) = some ⟨2, 1, [eI t.root, ePgs false t.pages], fun _ => 0⟩ ∧ s.sl 1 = eIs false w ∧ s.sl 2 = eI n ∧ s.sl 3 = eI op ∧ ∃ k : Nat, k ≤ n + 1 ∧ s.sl 10 = eI k ∧ s.sl 9 = eI (frF t op w k : Nat)) (fun s => n + 1 - iN (s.sl 10)) ?_ ?_
  · exact ⟨rfl, rfl, rfl, rfl, rfl, 0, Nat.zero_le _, rfl, rfl⟩
  · rintro sl hp q ⟨j4, j5, j1, j2, j3, k, hk, j10, j9⟩
    dsimp only at j4 j5 j1 j2 j3 j10 j9
    by_cases g1' : k ≤ n
    · have g1 : decide ((k : Int) ≤ (n : Int)) = true := decide_eq_true (by omega)
      have hgk := hg k (by omega)
      have ft := frF_t (t := t) (op := op) (w := w) (k := k)
      have ff := frF_f (t := t) (op := op) (w := w) (k := k)
      obtain ⟨y, hy⟩ : ∃ y, w.getD k 0 = y := ⟨_, rfl⟩
      rw [hy] at hgk ft ff
      cases hsf : sfV t y op
      · have ff := ff hsf
        simp (config := {maxSteps := 1000000}) (disch := omega) only [go_sem, ↓reduceIte, Nat.reduceEqDiff, Nat.reduceAdd, Nat.reduceMul, Nat.reduceSub, Nat.reduceLeDiff, Nat.reduceLT, Int.reduceToNat, Int.reduceLE, Int.reduceLT, Int.reduceNeg, h_safe, mSafe, h_copyInts, mCopyInts, drP_n, drP_c, logAt_n, logAt_c, disP_n, disP_c, notIn_n, notIn_c, j4, j5, j1, j2, j3, j10, j9, g1, hs, hy, hsf]
        exact ⟨⟨k + 1, by omega, rfl, by rw [ff]⟩, by omega⟩
      · have ft := ft hsf
        simp (config := {maxSteps := 1000000}) (disch := omega) only [go_sem, ↓reduceIte, Nat.reduceEqDiff, Nat.reduceAdd, Nat.reduceMul, Nat.reduceSub, Nat.reduceLeDiff, Nat.reduceLT, Int.reduceToNat, Int.reduceLE, Int.reduceLT, Int.reduceNeg, h_safe, mSafe, h_copyInts, mCopyInts, drP_n, drP_c, logAt_n, logAt_c, disP_n, disP_c, notIn_n, notIn_c, j4, j5, j1, j2, j3, j10, j9, g1, hs, hy, hsf]
        exact ⟨⟨k + 1, by omega, rfl, by rw [ft]⟩, by omega⟩
    · have g1 : decide ((k : Int) ≤ (n : Int)) = false := decide_eq_false (by omega)
      obtain rfl : k = n + 1 := by omega
      have f1 := (frF_le t op w n).2
      have hl := hdL_len (t := t) (op := op) (w := w) (k := n + 1) (by omega)
      unfold hdL at hl ⊢
      generalize frF t op w (n + 1) = f at *
      have et : ((n : Int) + 1).toNat = n + 1 := by omega
      simp (config := {maxSteps := 1000000}) (disch := omega) only [go_sem, ↓reduceIte, Nat.reduceEqDiff, Nat.reduceAdd, Nat.reduceMul, Nat.reduceSub, Nat.reduceLeDiff, Nat.reduceLT, Int.reduceToNat, Int.reduceLE, Int.reduceLT, Int.reduceNeg, h_safe, mSafe, h_copyInts, mCopyInts, drP_n, drP_c, logAt_n, logAt_c, disP_n, disP_c, notIn_n, notIn_c, j4, j5, j1, j2, j3, j10, j9, g1, et]
      try rfl
theorem fo_heldAt : FnOk Try.prog 88 := fnOk_of Try.func88 (by kernel_rfl)
theorem c_heldAt : Contract Try.prog 88 mHeldAt :=
  contract_of_does (DT := fun id => match id with  | _ => []) Try.checked.mixed tabOk (gok_model fo_safe c_safe (gok_model fo_copyInts c_copyInts gok_nil)) Try.func88 rfl (by kernel_rfl) (does_heldAt rfl rfl)


theorem does_LatchPathS {G : Nat → Option FM} (h_validTree : G 57 = some (.model mValidTree)) (h_vKind : G 86 = some (.model mValidKind)) (h_pathTo : G 87 = some (.model mPath)) (h_heldAt : G 88 = some (.model mHeldAt)) : Does T G (fun id => match id with  | _ => []) Try.f43 mLatch := by
  refine does3 (rs := [.tmp 6]) rfl rfl fun t key op ro h => ?_
  obtain ⟨hs, rfl⟩ := gd_some h
  refine ⟨fun _ => ⟨by simp only [cleanA]; exact clean_iss _, rfl⟩, ?_⟩
  clear h
  cases hv : vTr t
  · rw [latV_f (by rw [hv]; simp)]
    simp (config := {maxSteps := 1000000}) (disch := omega) only [go_sem, ↓reduceIte, Nat.reduceEqDiff, Nat.reduceAdd, Nat.reduceMul, Nat.reduceSub, Nat.reduceLeDiff, Nat.reduceLT, Int.reduceToNat, Int.reduceLE, Int.reduceLT, Int.reduceNeg, h_validTree, mValidTree, h_vKind, mValidKind, h_pathTo, mPath, h_heldAt, mHeldAt, drP_n, drP_c, logAt_n, logAt_c, disP_n, disP_c, notIn_n, notIn_c, hs, hv]
    try rfl
  · cases ho : inR op 0 2
    · rw [latV_f (by rw [ho]; simp)]
      simp (config := {maxSteps := 1000000}) (disch := omega) only [go_sem, ↓reduceIte, Nat.reduceEqDiff, Nat.reduceAdd, Nat.reduceMul, Nat.reduceSub, Nat.reduceLeDiff, Nat.reduceLT, Int.reduceToNat, Int.reduceLE, Int.reduceLT, Int.reduceNeg, h_validTree, mValidTree, h_vKind, mValidKind, h_pathTo, mPath, h_heldAt, mHeldAt, drP_n, drP_c, logAt_n, logAt_c, disP_n, disP_c, notIn_n, notIn_c, hs, hv, ho]
      try rfl
    · have tv := vTr_iff.1 hv
      rw [latV_t ⟨hv, ho⟩]
      have ep := ptV_t (key := key) hv
      have pl := pathF_len t key (htT t) t.root
      have h2 := tv.ht
      have hss := smT_iff.1 hs
      have hall : allR (pathF t key (htT t) t.root) 0 ((t.pages.length : Int) - 1) = true := allR_get.2 fun i hi => by
        have := (pathF_pd (key := key) tv.pd i (by omega)).rng
        omega
      generalize hw : pathF t key (htT t) t.root = w at *
      simp (config := {maxSteps := 1000000}) (disch := omega) only [go_sem, ↓reduceIte, Nat.reduceEqDiff, Nat.reduceAdd, Nat.reduceMul, Nat.reduceSub, Nat.reduceLeDiff, Nat.reduceLT, Int.reduceToNat, Int.reduceLE, Int.reduceLT, Int.reduceNeg, h_validTree, mValidTree, h_vKind, mValidKind, h_pathTo, mPath, h_heldAt, mHeldAt, drP_n, drP_c, logAt_n, logAt_c, disP_n, disP_c, notIn_n, notIn_c, hs, hv, ho, ep, hw, pl]
      refine W_loop_i (fun s => s.sl 3 = .ptr (3, 0) [] 0 0 ∧ s.hp (3, 0) = some ⟨2, 1, [eI t.root, ePgs false t.pages], fun _ => 0⟩ ∧ s.sl 2 = eI op ∧ s.sl 8 = .ref (17, 0) [] 0 0 1 (htT t + 1) ∧ s.hp (17, 0) = some ⟨1, htT t + 1, w.map eI, fun _ => 0⟩ ∧ 17 < s.n ∧ ∃ k m : Nat, k ≤ htT t + 1 ∧ s.sl 9 = eI k ∧ m ≠ 3 ∧ m ≠ 17 ∧ m < s.n ∧ s.sl 7 = .ref (m, 0) [] 0 0 1 k ∧ s.hp (m, 0) = some ⟨1, k, (latL t op w k).map (eIs true), fun _ => 0⟩) (fun s => htT t + 1 - iN (s.sl 9)) ?_ ?_
      · exact ⟨rfl, rfl, rfl, rfl, rfl, by dsimp only [St.n]; omega, 0, 5, Nat.zero_le _, rfl, by omega, by omega, by dsimp only [St.n]; omega, rfl, rfl⟩
      · rintro sl hp q ⟨j3, j4, j2, j8, j20, jq, k, m, hk, j9, hm4, hm20, hmq, j7, jm⟩
        dsimp only at j3 j4 j2 j8 j20 jq j9 hmq j7 jm
        by_cases g1' : k < htT t + 1
        · have g1 : decide ((k : Int) < ((htT t + 1 : Nat) : Int)) = true := decide_eq_true (by omega)
          have ll := latL_len t op w k
          have hl := hdL_len (t := t) (op := op) (w := w) (k := k + 1) (by omega)
          have hws : sub w 0 (htT t + 1) = w := by rw [← pl]; exact sub_all w
          simp (config := {maxSteps := 1000000}) (disch := omega) only [go_sem, ↓reduceIte, Nat.reduceEqDiff, Nat.reduceAdd, Nat.reduceMul, Nat.reduceSub, Nat.reduceLeDiff, Nat.reduceLT, Int.reduceToNat, Int.reduceLE, Int.reduceLT, Int.reduceNeg, h_validTree, mValidTree, h_vKind, mValidKind, h_pathTo, mPath, h_heldAt, mHeldAt, drP_n, drP_c, logAt_n, logAt_c, disP_n, disP_c, notIn_n, notIn_c, j3, j4, j2, j8, j20, j9, j7, jm, g1, hs, hall, app_SS, hws]
          exact ⟨⟨k + 1, q + 4 + 7, by omega, rfl, by omega, by omega, by omega, rfl, by rw [upd_same]; rfl⟩, by omega⟩
        · have g1 : decide ((k : Int) < ((htT t + 1 : Nat) : Int)) = false := decide_eq_false (by omega)
          obtain rfl : k = htT t + 1 := by omega
          have ll := latL_len t op w (htT t + 1)
          simp (config := {maxSteps := 1000000}) (disch := omega) only [go_sem, ↓reduceIte, Nat.reduceEqDiff, Nat.reduceAdd, Nat.reduceMul, Nat.reduceSub, Nat.reduceLeDiff, Nat.reduceLT, Int.reduceToNat, Int.reduceLE, Int.reduceLT, Int.reduceNeg, h_validTree, mValidTree, h_vKind, mValidKind, h_pathTo, mPath, h_heldAt, mHeldAt, drP_n, drP_c, logAt_n, logAt_c, disP_n, disP_c, notIn_n, notIn_c, j3, j4, j2, j8, j20, j9, j7, jm, g1]
          exact iss_eq ll
theorem fo_LatchPathS : FnOk Try.prog 43 := fnOk_of Try.func43 (by kernel_rfl)
theorem c_LatchPathS : Contract Try.prog 43 mLatch :=
  contract_of_does (DT := fun id => match id with  | _ => []) Try.checked.mixed tabOk (gok_model fo_validTree c_validTree (gok_model fo_vKind c_vKind (gok_model fo_pathTo c_pathTo (gok_model fo_heldAt c_heldAt gok_nil)))) Try.func43 rfl (by kernel_rfl) (does_LatchPathS rfl rfl rfl rfl)


theorem does_HeldLastS {G : Nat → Option FM} (h_validTree : G 57 = some (.model mValidTree)) (h_vKind : G 86 = some (.model mValidKind)) (h_pathTo : G 87 = some (.model mPath)) (h_heldAt : G 88 = some (.model mHeldAt)) : Does T G (fun id => match id with  | _ => []) Try.f48 mHeldLast := by
  refine does3 (rs := [.tmp 6]) rfl rfl fun t key op ro h => ?_
  obtain ⟨hs, rfl⟩ := gd_some h
  refine ⟨fun _ => ⟨by simp only [cleanA]; exact clean_ints _, rfl⟩, ?_⟩
  clear h
  cases hv : vTr t
  · rw [hlV_f (by rw [hv]; simp)]
    simp (config := {maxSteps := 1000000}) (disch := omega) only [go_sem, ↓reduceIte, Nat.reduceEqDiff, Nat.reduceAdd, Nat.reduceMul, Nat.reduceSub, Nat.reduceLeDiff, Nat.reduceLT, Int.reduceToNat, Int.reduceLE, Int.reduceLT, Int.reduceNeg, h_validTree, mValidTree, h_vKind, mValidKind, h_pathTo, mPath, h_heldAt, mHeldAt, drP_n, drP_c, logAt_n, logAt_c, disP_n, disP_c, notIn_n, notIn_c, hs, hv]
    try rfl
  · cases ho : inR op 0 2
    · rw [hlV_f (by rw [ho]; simp)]
      simp (config := {maxSteps := 1000000}) (disch := omega) only [go_sem, ↓reduceIte, Nat.reduceEqDiff, Nat.reduceAdd, Nat.reduceMul, Nat.reduceSub, Nat.reduceLeDiff, Nat.reduceLT, Int.reduceToNat, Int.reduceLE, Int.reduceLT, Int.reduceNeg, h_validTree, mValidTree, h_vKind, mValidKind, h_pathTo, mPath, h_heldAt, mHeldAt, drP_n, drP_c, logAt_n, logAt_c, disP_n, disP_c, notIn_n, notIn_c, hs, hv, ho]
      try rfl
    · have tv := vTr_iff.1 hv
      rw [hlV_t ⟨hv, ho⟩]
      have ep := ptV_t (key := key) hv
      have pl := pathF_len t key (htT t) t.root
      have h2 := tv.ht
      have hss := smT_iff.1 hs
      have hall : allR (pathF t key (htT t) t.root) 0 ((t.pages.length : Int) - 1) = true := allR_get.2 fun i hi => by
        have := (pathF_pd (key := key) tv.pd i (by omega)).rng
        omega
      generalize hw : pathF t key (htT t) t.root = w at *
      have hws : sub w 0 (htT t + 1) = w := by rw [← pl]; exact sub_all w
      have e0 : ((htT t + 1 : Nat) : Int) - 1 = htT t := by omega
      have e1 : ((htT t : Nat) : Int).toNat = htT t := Int.toNat_natCast _
      simp (config := {maxSteps := 1000000}) (disch := omega) only [go_sem, ↓reduceIte, Nat.reduceEqDiff, Nat.reduceAdd, Nat.reduceMul, Nat.reduceSub, Nat.reduceLeDiff, Nat.reduceLT, Int.reduceToNat, Int.reduceLE, Int.reduceLT, Int.reduceNeg, h_validTree, mValidTree, h_vKind, mValidKind, h_pathTo, mPath, h_heldAt, mHeldAt, drP_n, drP_c, logAt_n, logAt_c, disP_n, disP_c, notIn_n, notIn_c, hs, hv, ho, ep, hw, pl, hws, e0, e1, hall]
      try rfl
theorem fo_HeldLastS : FnOk Try.prog 48 := fnOk_of Try.func48 (by kernel_rfl)
theorem c_HeldLastS : Contract Try.prog 48 mHeldLast :=
  contract_of_does (DT := fun id => match id with  | _ => []) Try.checked.mixed tabOk (gok_model fo_validTree c_validTree (gok_model fo_vKind c_vKind (gok_model fo_pathTo c_pathTo (gok_model fo_heldAt c_heldAt gok_nil)))) Try.func48 rfl (by kernel_rfl) (does_HeldLastS rfl rfl rfl rfl)


theorem does_LatchPathI {G : Nat → Option FM} (h_ValidTreeI : G 66 = some (.model mValidTree)) (h_PathToI : G 72 = some (.model mPathTo)) (h_IsSafeI : G 89 = some (.model mIsSafe)) (h_cloneI : G 90 = some (.model mCopyInts)) : Does T G (fun id => match id with  | _ => []) Try.f44 mLatch := by
  refine does3 (rs := [.tmp 6]) rfl rfl fun t key op ro h => ?_
  obtain ⟨hs, rfl⟩ := gd_some h
  refine ⟨fun _ => ⟨by simp only [cleanA]; exact clean_iss _, rfl⟩, ?_⟩
  clear h
  cases hv : vTr t
  · rw [latV_f (by rw [hv]; simp)]
    simp (config := {maxSteps := 1000000}) (disch := omega) only [go_sem, ↓reduceIte, Nat.reduceEqDiff, Nat.reduceAdd, Nat.reduceMul, Nat.reduceSub, Nat.reduceLeDiff, Nat.reduceLT, Int.reduceToNat, Int.reduceLE, Int.reduceLT, Int.reduceNeg, h_ValidTreeI, mValidTree, h_PathToI, mPathTo, h_IsSafeI, mIsSafe, h_cloneI, mCopyInts, drP_n, drP_c, logAt_n, logAt_c, disP_n, disP_c, notIn_n, notIn_c, hs, hv]
    try rfl
  · by_cases o1 : op < 0
    · have e1 : decide (op < 0) = true := decide_eq_true o1
      rw [latV_f (by rw [inR_f (by omega)]; simp)]
      simp (config := {maxSteps := 1000000}) (disch := omega) only [go_sem, ↓reduceIte, Nat.reduceEqDiff, Nat.reduceAdd, Nat.reduceMul, Nat.reduceSub, Nat.reduceLeDiff, Nat.reduceLT, Int.reduceToNat, Int.reduceLE, Int.reduceLT, Int.reduceNeg, h_ValidTreeI, mValidTree, h_PathToI, mPathTo, h_IsSafeI, mIsSafe, h_cloneI, mCopyInts, drP_n, drP_c, logAt_n, logAt_c, disP_n, disP_c, notIn_n, notIn_c, hs, hv, e1]
      try rfl
    · have e1 : decide (op < 0) = false := decide_eq_false o1
      by_cases o2 : 2 < op
      · have e2 : decide (2 < op) = true := decide_eq_true o2
        rw [latV_f (by rw [inR_f (by omega)]; simp)]
        simp (config := {maxSteps := 1000000}) (disch := omega) only [go_sem, ↓reduceIte, Nat.reduceEqDiff, Nat.reduceAdd, Nat.reduceMul, Nat.reduceSub, Nat.reduceLeDiff, Nat.reduceLT, Int.reduceToNat, Int.reduceLE, Int.reduceLT, Int.reduceNeg, h_ValidTreeI, mValidTree, h_PathToI, mPathTo, h_IsSafeI, mIsSafe, h_cloneI, mCopyInts, drP_n, drP_c, logAt_n, logAt_c, disP_n, disP_c, notIn_n, notIn_c, hs, hv, e1, e2]
        try rfl
      · have e2 : decide (2 < op) = false := decide_eq_false o2
        have ho : inR op 0 2 = true := inR_t (by omega)
        have tv := vTr_iff.1 hv
        rw [latV_t ⟨hv, ho⟩]
        have ep := ptV_t (key := key) hv
        have pl := pathF_len t key (htT t) t.root
        have h2 := tv.ht
        have hss := smT_iff.1 hs
        have hrg := fun i hi => (pathF_pd (key := key) tv.pd i hi).rng
        generalize hw : pathF t key (htT t) t.root = w at *
        simp (config := {maxSteps := 1000000}) (disch := omega) only [go_sem, ↓reduceIte, Nat.reduceEqDiff, Nat.reduceAdd, Nat.reduceMul, Nat.reduceSub, Nat.reduceLeDiff, Nat.reduceLT, Int.reduceToNat, Int.reduceLE, Int.reduceLT, Int.reduceNeg, h_ValidTreeI, mValidTree, h_PathToI, mPathTo, h_IsSafeI, mIsSafe, h_cloneI, mCopyInts, drP_n, drP_c, logAt_n, logAt_c, disP_n, disP_c, notIn_n, notIn_c, hs, hv, e1, e2, ep, hw, pl]
        refine W_loop_i (fun s => s.sl 3 = .ptr (3, 0) [] 0 0 ∧ s.hp (3, 0) = some ⟨2, 1, [eI t.root, ePgs false t.pages], fun _ => 0⟩ ∧ s.sl 2 = eI op ∧ s.sl 24 = .ref (20, 0) [] 0 0 1 (htT t + 1) ∧ s.sl 25 = eI (htT t + 1 : Nat) ∧ s.hp (20, 0) = some ⟨1, htT t + 1, w.map eI, fun _ => 0⟩ ∧ 20 < s.n ∧ ∃ k : Nat, k ≤ htT t + 1 ∧ s.sl 26 = eI k ∧
          ((k = 0 ∧ s.sl 7 = .s true 1 0 [] ∧ s.sl 8 = .s true 1 0 []) ∨ (0 < k ∧ ∃ m l : Nat, m ≠ 3 ∧ m ≠ 20 ∧ m < s.n ∧ l ≠ 3 ∧ l ≠ 20 ∧ l < s.n ∧ m ≠ l ∧ s.sl 7 = .ref (m, 0) [] 0 0 1 k ∧ s.hp (m, 0) = some ⟨1, k, (latL t op w k).map (eIs true), fun _ => 0⟩ ∧ s.sl 8 = .ref (l, 0) [] 0 0 1 (hdL t op w k).length ∧ s.hp (l, 0) = some ⟨1, (hdL t op w k).length, (hdL t op w k).map eI, fun _ => 0⟩))) (fun s => htT t + 1 - iN (s.sl 26)) ?_ ?_
        · exact ⟨rfl, rfl, rfl, rfl, rfl, rfl, by dsimp only [St.n]; omega, 0, Nat.zero_le _, rfl, .inl ⟨rfl, rfl, rfl⟩⟩
        · rintro sl hp q ⟨j3, j4, j2, j24, j25, j17, jq, k, hk, j26, hf⟩
          dsimp only at j3 j4 j2 j24 j25 j17 jq j26 hf
          by_cases g1' : k < htT t + 1
          · have g1 : decide ((k : Int) < ((htT t + 1 : Nat) : Int)) = true := decide_eq_true (by omega)
            have ll := latL_len t op w k
            have hlk := hdL_len (t := t) (op := op) (w := w) (k := k) (by omega)
            have hlk1 := hdL_len (t := t) (op := op) (w := w) (k := k + 1) (by omega)
            have ht' := hdL_t (t := t) (op := op) (w := w) (k := k) (by omega)
            have hf' := hdL_f (t := t) (op := op) (w := w) (k := k) (by omega)
            have hr := hrg k (by omega)
            have hlat : latL t op w (k + 1) = latL t op w k ++ [hdL t op w (k + 1)] := rfl
            obtain ⟨y, hy⟩ : ∃ y, w.getD k 0 = y := ⟨_, rfl⟩
            rw [hy] at hr ht' hf'
            have hsv : safeV t y op = sfV t y op := by
              unfold safeV
              rw [hv, ho, inR_t (by omega)]
              simp
            cases hsf : sfV t y op
            · rw [hsf] at hsv
              have hf' := hf' hsf
              rcases hf with ⟨rfl, j7, j8⟩ | ⟨k0, m, l, hm4, hm17, hmq, hl4, hl17, hlq, hml, j7, jm, j8, jl⟩
              · simp (config := {maxSteps := 1000000}) (disch := omega) only [go_sem, ↓reduceIte, Nat.reduceEqDiff, Nat.reduceAdd, Nat.reduceMul, Nat.reduceSub, Nat.reduceLeDiff, Nat.reduceLT, Int.reduceToNat, Int.reduceLE, Int.reduceLT, Int.reduceNeg, h_ValidTreeI, mValidTree, h_PathToI, mPathTo, h_IsSafeI, mIsSafe, h_cloneI, mCopyInts, drP_n, drP_c, logAt_n, logAt_c, disP_n, disP_c, notIn_n, notIn_c, j3, j4, j2, j24, j25, j17, j26, j7, j8, g1, hs, hy, hsv, app_SS]
                refine ⟨⟨0 + 1, by omega, rfl, .inr ⟨by omega, q + 1 + 3 + 4 + 5 + 4, q + 1 + 3 + 4 + 3, by omega, by omega, by omega, by omega, by omega, by omega, by omega, rfl, ?_, ?_, ?_⟩⟩, by omega⟩
                · rw [upd_same, hlat, hf']
                  try rfl
                · rw [hf']
                  try rfl
                · simp (config := {maxSteps := 1000000}) (disch := omega) only [go_sem, ↓reduceIte, Nat.reduceEqDiff, Nat.reduceAdd, Nat.reduceMul, Nat.reduceSub, Nat.reduceLeDiff, Nat.reduceLT, Int.reduceToNat, Int.reduceLE, Int.reduceLT, Int.reduceNeg, h_ValidTreeI, mValidTree, h_PathToI, mPathTo, h_IsSafeI, mIsSafe, h_cloneI, mCopyInts, drP_n, drP_c, logAt_n, logAt_c, disP_n, disP_c, notIn_n, notIn_c, hf']
                  try rfl
              · have e9 := congrArg List.length hf'
                rw [List.length_append, List.length_singleton] at e9
                have hsb : sub (hdL t op w (k + 1)) 0 ((hdL t op w k).length + 1) = hdL t op w (k + 1) := by rw [← e9]; exact sub_all _
                simp (config := {maxSteps := 1000000}) (disch := omega) only [go_sem, ↓reduceIte, Nat.reduceEqDiff, Nat.reduceAdd, Nat.reduceMul, Nat.reduceSub, Nat.reduceLeDiff, Nat.reduceLT, Int.reduceToNat, Int.reduceLE, Int.reduceLT, Int.reduceNeg, h_ValidTreeI, mValidTree, h_PathToI, mPathTo, h_IsSafeI, mIsSafe, h_cloneI, mCopyInts, drP_n, drP_c, logAt_n, logAt_c, disP_n, disP_c, notIn_n, notIn_c, j3, j4, j2, j24, j25, j17, j26, j7, jm, j8, jl, g1, hs, hy, hsv, app_SS, app_I', ← hf', hsb]
                refine ⟨⟨k + 1, by omega, rfl, .inr ⟨by omega, q + 1 + 3 + 4 + 5 + 4, q + 1 + 3 + 4 + 3, by omega, by omega, by omega, by omega, by omega, by omega, by omega, rfl, ?_, ?_, ?_⟩⟩, by omega⟩
                · rw [upd_same]
                  try rfl
                · rw [e9]
                · simp (config := {maxSteps := 1000000}) (disch := omega) only [go_sem, ↓reduceIte, Nat.reduceEqDiff, Nat.reduceAdd, Nat.reduceMul, Nat.reduceSub, Nat.reduceLeDiff, Nat.reduceLT, Int.reduceToNat, Int.reduceLE, Int.reduceLT, Int.reduceNeg, h_ValidTreeI, mValidTree, h_PathToI, mPathTo, h_IsSafeI, mIsSafe, h_cloneI, mCopyInts, drP_n, drP_c, logAt_n, logAt_c, disP_n, disP_c, notIn_n, notIn_c, e9]
                  try rfl
            · rw [hsf] at hsv
              have ht' := ht' hsf
              rcases hf with ⟨rfl, j7, j8⟩ | ⟨k0, m, l, hm4, hm17, hmq, hl4, hl17, hlq, hml, j7, jm, j8, jl⟩
              · simp (config := {maxSteps := 1000000}) (disch := omega) only [go_sem, ↓reduceIte, Nat.reduceEqDiff, Nat.reduceAdd, Nat.reduceMul, Nat.reduceSub, Nat.reduceLeDiff, Nat.reduceLT, Int.reduceToNat, Int.reduceLE, Int.reduceLT, Int.reduceNeg, h_ValidTreeI, mValidTree, h_PathToI, mPathTo, h_IsSafeI, mIsSafe, h_cloneI, mCopyInts, drP_n, drP_c, logAt_n, logAt_c, disP_n, disP_c, notIn_n, notIn_c, j3, j4, j2, j24, j25, j17, j26, j7, j8, g1, hs, hy, hsv, app_SS]
                refine ⟨⟨0 + 1, by omega, rfl, .inr ⟨by omega, q + 1 + 3 + 4 + 1 + 5 + 4, q + 1 + 3 + 4 + 1 + 3, by omega, by omega, by omega, by omega, by omega, by omega, by omega, rfl, ?_, ?_, ?_⟩⟩, by omega⟩
                · rw [upd_same, hlat, ht']
                  try rfl
                · rw [ht']
                  try rfl
                · simp (config := {maxSteps := 1000000}) (disch := omega) only [go_sem, ↓reduceIte, Nat.reduceEqDiff, Nat.reduceAdd, Nat.reduceMul, Nat.reduceSub, Nat.reduceLeDiff, Nat.reduceLT, Int.reduceToNat, Int.reduceLE, Int.reduceLT, Int.reduceNeg, h_ValidTreeI, mValidTree, h_PathToI, mPathTo, h_IsSafeI, mIsSafe, h_cloneI, mCopyInts, drP_n, drP_c, logAt_n, logAt_c, disP_n, disP_c, notIn_n, notIn_c, ht']
                  try rfl
              · simp (config := {maxSteps := 1000000}) (disch := omega) only [go_sem, ↓reduceIte, Nat.reduceEqDiff, Nat.reduceAdd, Nat.reduceMul, Nat.reduceSub, Nat.reduceLeDiff, Nat.reduceLT, Int.reduceToNat, Int.reduceLE, Int.reduceLT, Int.reduceNeg, h_ValidTreeI, mValidTree, h_PathToI, mPathTo, h_IsSafeI, mIsSafe, h_cloneI, mCopyInts, drP_n, drP_c, logAt_n, logAt_c, disP_n, disP_c, notIn_n, notIn_c, j3, j4, j2, j24, j25, j17, j26, j7, jm, j8, jl, g1, hs, hy, hsv, app_SS, app_SS1]
                refine ⟨⟨k + 1, by omega, rfl, .inr ⟨by omega, q + 1 + 3 + 4 + 1 + 5 + 4, q + 1 + 3 + 4 + 1 + 3, by omega, by omega, by omega, by omega, by omega, by omega, by omega, rfl, ?_, ?_, ?_⟩⟩, by omega⟩
                · rw [upd_same, hlat, ht']
                  try rfl
                · rw [ht']
                  try rfl
                · simp (config := {maxSteps := 1000000}) (disch := omega) only [go_sem, ↓reduceIte, Nat.reduceEqDiff, Nat.reduceAdd, Nat.reduceMul, Nat.reduceSub, Nat.reduceLeDiff, Nat.reduceLT, Int.reduceToNat, Int.reduceLE, Int.reduceLT, Int.reduceNeg, h_ValidTreeI, mValidTree, h_PathToI, mPathTo, h_IsSafeI, mIsSafe, h_cloneI, mCopyInts, drP_n, drP_c, logAt_n, logAt_c, disP_n, disP_c, notIn_n, notIn_c, ht']
                  try rfl
          · have g1 : decide ((k : Int) < ((htT t + 1 : Nat) : Int)) = false := decide_eq_false (by omega)
            obtain rfl : k = htT t + 1 := by omega
            have ll := latL_len t op w (htT t + 1)
            rcases hf with ⟨h0, _⟩ | ⟨k0, m, l, hm4, hm17, hmq, hl4, hl17, hlq, hml, j7, jm, j8, jl⟩
            · omega
            · simp (config := {maxSteps := 1000000}) (disch := omega) only [go_sem, ↓reduceIte, Nat.reduceEqDiff, Nat.reduceAdd, Nat.reduceMul, Nat.reduceSub, Nat.reduceLeDiff, Nat.reduceLT, Int.reduceToNat, Int.reduceLE, Int.reduceLT, Int.reduceNeg, h_ValidTreeI, mValidTree, h_PathToI, mPathTo, h_IsSafeI, mIsSafe, h_cloneI, mCopyInts, drP_n, drP_c, logAt_n, logAt_c, disP_n, disP_c, notIn_n, notIn_c, j3, j4, j2, j24, j25, j17, j26, j7, jm, j8, jl, g1]
              exact iss_eq ll
theorem fo_LatchPathI : FnOk Try.prog 44 := fnOk_of Try.func44 (by kernel_rfl)
theorem c_LatchPathI : Contract Try.prog 44 mLatch :=
  contract_of_does (DT := fun id => match id with  | _ => []) Try.checked.mixed tabOk (gok_model fo_ValidTreeI c_ValidTreeI (gok_model fo_PathToI c_PathToI (gok_model fo_IsSafeI c_IsSafeI (gok_model fo_cloneI c_cloneI gok_nil)))) Try.func44 rfl (by kernel_rfl) (does_LatchPathI rfl rfl rfl rfl)


theorem latL_last {t : Tr} {op : Int} {w : List Int} {k : Nat} : (latL t op w (k + 1)).getD k [] = hdL t op w (k + 1) := by
  simp only [latL]
  rw [List.getD_eq_getElem?_getD, List.getElem?_append_right (by rw [latL_len]; exact Nat.le_refl _), latL_len, Nat.sub_self]
  rfl

theorem does_HeldLastI {G : Nat → Option FM} (h_LatchPathI : G 44 = some (.model mLatch)) : Does T G (fun id => match id with  | _ => []) Try.f49 mHeldLast := by
  refine does3 (rs := [.tmp 6]) rfl rfl fun t key op ro h => ?_
  obtain ⟨hs, rfl⟩ := gd_some h
  refine ⟨fun _ => ⟨by simp only [cleanA]; exact clean_ints _, rfl⟩, ?_⟩
  clear h
  by_cases hc : vTr t = true ∧ inR op 0 2 = true
  · have hla := latV_t (key := key) hc
    rw [hlV_t hc]
    have ll := latL_len t op (pathF t key (htT t) t.root) (htT t + 1)
    have lst := latL_last (t := t) (op := op) (w := pathF t key (htT t) t.root) (k := htT t)
    generalize latL t op (pathF t key (htT t) t.root) (htT t + 1) = L at *
    have h2 := (vTr_iff.1 hc.1).ht
    have e0 : ((htT t + 1 : Nat) : Int) - 1 = htT t := by omega
    have e1 : decide (((htT t + 1 : Nat) : Int) = 0) = false := decide_eq_false (by omega)
    simp (config := {maxSteps := 1000000}) (disch := omega) only [go_sem, ↓reduceIte, Nat.reduceEqDiff, Nat.reduceAdd, Nat.reduceMul, Nat.reduceSub, Nat.reduceLeDiff, Nat.reduceLT, Int.reduceToNat, Int.reduceLE, Int.reduceLT, Int.reduceNeg, h_LatchPathI, mLatch, drP_n, drP_c, logAt_n, logAt_c, disP_n, disP_c, notIn_n, notIn_c, hs, hla, ll, e0, e1, get_Is, lst]
    skip
  · have hla := latV_f (key := key) hc
    rw [hlV_f hc]
    have e3 : decide (((0 : Nat) : Int) = 0) = true := rfl
    simp (config := {maxSteps := 1000000}) (disch := omega) only [go_sem, ↓reduceIte, Nat.reduceEqDiff, Nat.reduceAdd, Nat.reduceMul, Nat.reduceSub, Nat.reduceLeDiff, Nat.reduceLT, Int.reduceToNat, Int.reduceLE, Int.reduceLT, Int.reduceNeg, h_LatchPathI, mLatch, drP_n, drP_c, logAt_n, logAt_c, disP_n, disP_c, notIn_n, notIn_c, hs, hla, e3]
    try rfl
theorem fo_HeldLastI : FnOk Try.prog 49 := fnOk_of Try.func49 (by kernel_rfl)
theorem c_HeldLastI : Contract Try.prog 49 mHeldLast :=
  contract_of_does (DT := fun id => match id with  | _ => []) Try.checked.mixed tabOk (gok_model fo_LatchPathI c_LatchPathI gok_nil) Try.func49 rfl (by kernel_rfl) (does_HeldLastI rfl)


set_option linter.unusedVariables false
set_option linter.unusedSimpArgs false
set_option maxRecDepth 100000
set_option maxHeartbeats 4000000

theorem latV_sm (t : Tr) (key op : Int) : (latV t key op).length ≤ 3 ∧ totS (latV t key op) ≤ 9 := by
  by_cases hc : vTr t = true ∧ inR op 0 2 = true
  · rw [latV_t hc]
    have h2 := (vTr_iff.1 hc.1).ht
    have pl := pathF_len t key (htT t) t.root
    have h3 := latL_tot (t := t) (op := op) (w := pathF t key (htT t) t.root) (htT t + 1) (by omega)
    rw [latL_len]
    rw [pl] at h3
    have h4 : (htT t + 1) * (htT t + 1) ≤ 3 * 3 := Nat.mul_le_mul (by omega) (by omega)
    omega
  · rw [latV_f hc]
    exact ⟨Nat.zero_le _, Nat.zero_le _⟩
theorem hlV_sm (t : Tr) (key op : Int) : (hlV t key op).length ≤ 3 := by
  by_cases hc : vTr t = true ∧ inR op 0 2 = true
  · rw [hlV_t hc]
    have h2 := (vTr_iff.1 hc.1).ht
    have pl := pathF_len t key (htT t) t.root
    have h3 := hdL_len (t := t) (op := op) (w := pathF t key (htT t) t.root) (k := htT t + 1) (by omega)
    omega
  · rw [hlV_f hc]
    exact Nat.zero_le _
theorem smSS {L : List (List Int)} (h : L.length ≤ 3 ∧ totS L ≤ 9) : smS L = true := smS_iff.2 (by omega)
theorem subS_mk (L : List (List Int)) (k : Int) : sub (mkSs L k) 0 L.length = mkSs L k := by
  have := sub_all (mkSs L k)
  rwa [mkSs_len] at this

theorem rng_iss {L : List (List Int)} {n : Nat} (h : L.length = n) : rng (L.map (eIs true)) 0 n = L.map (eIs true) := by
  subst h
  exact List.take_of_length_le (by simp)

theorem does_FnExactLatchPath {G : Nat → Option FM} (h_szTree : G 15 = some (.model mSzTree)) (h_toTree : G 17 = some (.model mToTree)) (h_LatchPathS : G 43 = some (.model mLatch)) (h_LatchPathI : G 44 = some (.model mLatch)) (h_eqTree : G 19 = some (.model mEqTree)) (h_eqIntSS : G 45 = some (.model mEqIntSS)) (h_markTree : G 20 = some (.each 2 [1] mMarkPageS)) (h_markIntSS : G 46 = some (.model mMarkIntSS)) (h_heldIntSS : G 47 = some (.model mHeldIntSS)) : Does T G (fun id => match id with | 10 => [(2, 0)] | _ => []) Try.f10 mLawTree3 := by
  refine does3 (rs := [.tmp 6]) rfl rfl fun t x op ro h => ?_
  obtain ⟨⟨hs, hb⟩, rfl⟩ := gd_some h
  refine ⟨fun _ => ⟨rfl, rfl⟩, ?_⟩
  obtain ⟨z, hz⟩ : ∃ z, szPs t.pages 1048576 = z := ⟨_, rfl⟩
  have la := latV_sm t x op
  generalize ha : latV t x op = a at la
  by_cases h1 : z < 0
  · have e1 : decide (z < 0) = true := decide_eq_true h1
    simp (config := {maxSteps := 1000000}) (disch := omega) only [go_sem, ↓reduceIte, Nat.reduceEqDiff, Nat.reduceAdd, Nat.reduceMul, Nat.reduceSub, Nat.reduceLeDiff, Nat.reduceLT, Int.reduceToNat, Int.reduceLE, Int.reduceLT, Int.reduceNeg, h_szTree, mSzTree, h_toTree, mToTree, h_LatchPathS, mLatch, h_LatchPathI, mLatch, h_eqTree, mEqTree, h_eqIntSS, mEqIntSS, h_markTree, mMarkPageS, h_markIntSS, mMarkIntSS, h_heldIntSS, mHeldIntSS, drP_n, drP_c, logAt_n, logAt_c, disP_n, disP_c, notIn_n, notIn_c, hb, hz, e1]
  · have e1 : decide (z < 0) = false := decide_eq_false h1
    obtain ⟨h2, hsm⟩ := lawT_small hz h1
    have lb := smSS la
    have lc : smS (mkSs a 1) = true := smSS (by rw [mkSs_len, mkSs_tot]; exact la)
    have l1 := la.1
    have l2 := la.2
    have l3 := mkSs_len a 1
    have e2 : decide (1 + (tot t.pages : Int) < 0) = false := decide_eq_false (by omega)
    have e3 : decide (1 + (totS a : Int) < 0) = false := decide_eq_false (by omega)
    have hfl := flat_mk t.pages 1
    simp (config := {maxSteps := 1000000}) (disch := omega) only [go_sem, ↓reduceIte, Nat.reduceEqDiff, Nat.reduceAdd, Nat.reduceMul, Nat.reduceSub, Nat.reduceLeDiff, Nat.reduceLT, Int.reduceToNat, Int.reduceLE, Int.reduceLT, Int.reduceNeg, h_szTree, mSzTree, h_toTree, mToTree, h_LatchPathS, mLatch, h_LatchPathI, mLatch, h_eqTree, mEqTree, h_eqIntSS, mEqIntSS, h_markTree, mMarkPageS, h_markIntSS, mMarkIntSS, h_heldIntSS, mHeldIntSS, drP_n, drP_c, logAt_n, logAt_c, disP_n, disP_c, notIn_n, notIn_c, hb, hz, e1, hsm, ha, e2, e3, lb, lc, hfl, rng_iss, normL_iss, subS_mk, mkSs_idem, mkSs_tot, mkSs_len, sub_mk, mkPs_idem, mkPs_tot]
theorem fo_FnExactLatchPath : FnOk Try.prog 10 := fnOk_of Try.func10 (by kernel_rfl)
theorem c_FnExactLatchPath : Contract Try.prog 10 mLawTree3 :=
  contract_of_does (DT := fun id => match id with | 10 => [(2, 0)] | _ => []) Try.checked.mixed tabOk (gok_model fo_szTree c_szTree (gok_model fo_toTree c_toTree (gok_model fo_LatchPathS c_LatchPathS (gok_model fo_LatchPathI c_LatchPathI (gok_model fo_eqTree c_eqTree (gok_model fo_eqIntSS c_eqIntSS (gok_each fo_markTree c_markTree (gok_model fo_markIntSS c_markIntSS (gok_model fo_heldIntSS c_heldIntSS gok_nil))))))))) Try.func10 rfl (by kernel_rfl) (does_FnExactLatchPath rfl rfl rfl rfl rfl rfl rfl rfl rfl)

theorem fn_FnExactLatchPath (t : Tr) (h : TrW t) (x : Int) (hx : intWf .i64 x) (op : Int) (hop : intWf .i64 op) : mLawTree3.fn [eTr false t, eI x, eI op] = some (.b true, []) := by
  obtain ⟨h1, h2⟩ := bigP_of h
  simp (config := {maxSteps := 1000000}) (disch := omega) only [go_sem, ↓reduceIte, Nat.reduceEqDiff, Nat.reduceAdd, Nat.reduceMul, Nat.reduceSub, Nat.reduceLeDiff, Nat.reduceLT, Int.reduceToNat, Int.reduceLE, Int.reduceLT, Int.reduceNeg, mLawTree3, h2]

theorem does_FnExactHeldLast {G : Nat → Option FM} (h_szTree : G 15 = some (.model mSzTree)) (h_toTree : G 17 = some (.model mToTree)) (h_HeldLastS : G 48 = some (.model mHeldLast)) (h_HeldLastI : G 49 = some (.model mHeldLast)) (h_eqTree : G 19 = some (.model mEqTree)) (h_eqIntS : G 25 = some (.model mEqIntS)) (h_markTree : G 20 = some (.each 2 [1] mMarkPageS)) (h_markIntS : G 26 = some (.model mMarkIntS)) (h_heldIntS : G 40 = some (.model mHeldIntS)) : Does T G (fun id => match id with | 10 => [(2, 0)] | _ => []) Try.f11 mLawTree3 := by
  refine does3 (rs := [.tmp 6]) rfl rfl fun t x op ro h => ?_
  obtain ⟨⟨hs, hb⟩, rfl⟩ := gd_some h
  refine ⟨fun _ => ⟨rfl, rfl⟩, ?_⟩
  obtain ⟨z, hz⟩ : ∃ z, szPs t.pages 1048576 = z := ⟨_, rfl⟩
  have la := hlV_sm t x op
  generalize ha : hlV t x op = a at la
  by_cases h1 : z < 0
  · have e1 : decide (z < 0) = true := decide_eq_true h1
    simp (config := {maxSteps := 1000000}) (disch := omega) only [go_sem, ↓reduceIte, Nat.reduceEqDiff, Nat.reduceAdd, Nat.reduceMul, Nat.reduceSub, Nat.reduceLeDiff, Nat.reduceLT, Int.reduceToNat, Int.reduceLE, Int.reduceLT, Int.reduceNeg, h_szTree, mSzTree, h_toTree, mToTree, h_HeldLastS, mHeldLast, h_HeldLastI, mHeldLast, h_eqTree, mEqTree, h_eqIntS, mEqIntS, h_markTree, mMarkPageS, h_markIntS, mMarkIntS, h_heldIntS, mHeldIntS, drP_n, drP_c, logAt_n, logAt_c, disP_n, disP_c, notIn_n, notIn_c, hb, hz, e1]
  · have e1 : decide (z < 0) = false := decide_eq_false h1
    obtain ⟨h2, hsm⟩ := lawT_small hz h1
    have m1 := marks_len a.length 1
    have e2 : decide (1 + (tot t.pages : Int) < 0) = false := decide_eq_false (by omega)
    have e3 : decide (1 + (a.length : Int) < 0) = false := decide_eq_false (by omega)
    have hfl : ((mkPs t.pages 1).flatMap (ePg true)).length = (t.pages.flatMap (ePg true)).length := by rw [flatPg_len, flatPg_len, mkPs_len]
    simp (config := {maxSteps := 1000000}) (disch := omega) only [go_sem, ↓reduceIte, Nat.reduceEqDiff, Nat.reduceAdd, Nat.reduceMul, Nat.reduceSub, Nat.reduceLeDiff, Nat.reduceLT, Int.reduceToNat, Int.reduceLE, Int.reduceLT, Int.reduceNeg, h_szTree, mSzTree, h_toTree, mToTree, h_HeldLastS, mHeldLast, h_HeldLastI, mHeldLast, h_eqTree, mEqTree, h_eqIntS, mEqIntS, h_markTree, mMarkPageS, h_markIntS, mMarkIntS, h_heldIntS, mHeldIntS, drP_n, drP_c, logAt_n, logAt_c, disP_n, disP_c, notIn_n, notIn_c, hb, hz, e1, hsm, ha, e2, e3, marks_len, List.length_map, sub_marks]
theorem fo_FnExactHeldLast : FnOk Try.prog 11 := fnOk_of Try.func11 (by kernel_rfl)
theorem c_FnExactHeldLast : Contract Try.prog 11 mLawTree3 :=
  contract_of_does (DT := fun id => match id with | 10 => [(2, 0)] | _ => []) Try.checked.mixed tabOk (gok_model fo_szTree c_szTree (gok_model fo_toTree c_toTree (gok_model fo_HeldLastS c_HeldLastS (gok_model fo_HeldLastI c_HeldLastI (gok_model fo_eqTree c_eqTree (gok_model fo_eqIntS c_eqIntS (gok_each fo_markTree c_markTree (gok_model fo_markIntS c_markIntS (gok_model fo_heldIntS c_heldIntS gok_nil))))))))) Try.func11 rfl (by kernel_rfl) (does_FnExactHeldLast rfl rfl rfl rfl rfl rfl rfl rfl rfl)

theorem fn_FnExactHeldLast (t : Tr) (h : TrW t) (x : Int) (hx : intWf .i64 x) (op : Int) (hop : intWf .i64 op) : mLawTree3.fn [eTr false t, eI x, eI op] = some (.b true, []) := by
  obtain ⟨h1, h2⟩ := bigP_of h
  simp (config := {maxSteps := 1000000}) (disch := omega) only [go_sem, ↓reduceIte, Nat.reduceEqDiff, Nat.reduceAdd, Nat.reduceMul, Nat.reduceSub, Nat.reduceLeDiff, Nat.reduceLT, Int.reduceToNat, Int.reduceLE, Int.reduceLT, Int.reduceNeg, mLawTree3, h2]
end Go.TM
