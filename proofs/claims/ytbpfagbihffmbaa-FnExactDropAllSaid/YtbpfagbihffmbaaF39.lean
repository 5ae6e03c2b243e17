/- Contracts, 39: the program's test of a tree, and the law of it. -/
import Derived.Test.YtbpfagbihffmbaaF37
namespace Go.TM
open Go.Proofs
set_option linter.unusedVariables false
set_option linter.unusedSimpArgs false
set_option maxRecDepth 100000
set_option maxHeartbeats 4000000

theorem cPc_d0 {n : Nat} {r : Int} {ps : List Pg} (h : n = ps.length) : cPc.d (.agg [.i .i64 r, .s false 3 n (ps.flatMap (ePg false)), .b false, .b false, .b false, .b false, .b false, .b false, .b false, .b false, .b false, .b false, .b false, .b false, .b false, .b false, .b false, .b false, .i .i64 (-1)]) = some ⟨⟨r, ps⟩, List.replicate 16 false, -1⟩ := by
  subst h
  exact cPc.de ⟨⟨r, ps⟩, List.replicate 16 false, -1⟩

theorem set19 {n : Nat} {r : Int} {cs : List A} : setR 0 [.i .i64 r, .s false 3 n cs, .b false, .b false, .b false, .b false, .b false, .b false, .b false, .b false, .b false, .b false, .b false, .b false, .b false, .b false, .b false, .b false, .i .i64 (-1)] [.i .i64 0, .s true 3 0 [], .b false, .b false, .b false, .b false, .b false, .b false, .b false, .b false, .b false, .b false, .b false, .b false, .b false, .b false, .b false, .b false, .i .i64 0] = [.i .i64 r, .s false 3 n cs, .b false, .b false, .b false, .b false, .b false, .b false, .b false, .b false, .b false, .b false, .b false, .b false, .b false, .b false, .b false, .b false, .i .i64 (-1)] := rfl

theorem does_ValidTreeI {G : Nat → Option FM} (h_visit : G 117 = some (.model (mVisit 4))) : Does T G (fun id => match id with  | _ => []) Try.f66 mValidTree := by
  refine does1 (rs := [.tmp 2]) rfl rfl fun t ro h => ?_
  obtain ⟨hs, rfl⟩ := gd_some h
  refine ⟨fun _ => ⟨rfl, rfl⟩, ?_⟩
  have hss := smT_iff.1 hs
  clear h
  rw [← vTrI_eq]
  by_cases a1 : 1 ≤ t.pages.length
  · have e1 : decide ((t.pages.length : Int) < 1) = false := decide_eq_false (by omega)
    by_cases a2 : t.pages.length ≤ 16
    · have e2 : decide ((16 : Int) < (t.pages.length : Int)) = false := decide_eq_false (by omega)
      have e30 : ((3 : Int) - 0).toNat = 3 := rfl
      have h16 : (List.replicate 16 false).length = 16 := rfl
      obtain ⟨vb, vs, vl, hV⟩ : ∃ vb vs vl, visF t 3 t.root 0 0 100 (List.replicate 16 false, -1) = (vb, vs, vl) := ⟨_, _, _, rfl⟩
      have hvs : vs.length = 16 := by
        have := visF_len (t := t) (n := 3) (x := t.root) (d := 0) (low := 0) (hi := 100) (s := (List.replicate 16 false, -1))
        rw [hV] at this
        exact this
      have hl := tlPc_len (ld := vl) hvs
      have hI : vTrI t = (vb && (List.range t.pages.length).all fun i => vs.getD i false) := by
        unfold vTrI
        rw [hV, decide_eq_true a1, decide_eq_true a2]
        rfl
      rw [hI]
      have hV' : visF t 3 t.root 0 0 100 ([false, false, false, false, false, false, false, false, false, false, false, false, false, false, false, false], -1) = (vb, vs, vl) := hV
      cases vb
      · simp (config := {maxSteps := 1000000}) (disch := omega) only [go_sem, ↓reduceIte, Nat.reduceEqDiff, Nat.reduceAdd, Nat.reduceMul, Nat.reduceSub, Nat.reduceLeDiff, Nat.reduceLT, Int.reduceToNat, Int.reduceLE, Int.reduceLT, Int.reduceNeg, h_visit, mVisit, drP_n, drP_c, logAt_n, logAt_c, disP_n, disP_c, notIn_n, notIn_c, hs, e1, e2, csPc_c, set19, cPc_d0, e30, h16, hV', hl]
        try rfl
      · simp (config := {maxSteps := 1000000}) (disch := omega) only [go_sem, ↓reduceIte, Nat.reduceEqDiff, Nat.reduceAdd, Nat.reduceMul, Nat.reduceSub, Nat.reduceLeDiff, Nat.reduceLT, Int.reduceToNat, Int.reduceLE, Int.reduceLT, Int.reduceNeg, h_visit, mVisit, drP_n, drP_c, logAt_n, logAt_c, disP_n, disP_c, notIn_n, notIn_c, hs, e1, e2, csPc_c, set19, cPc_d0, e30, h16, hV', hl]
        refine W_loop_i (fun s => s.sl 23 = eI t.pages.length ∧ (∃ m v, s.sl 3 = .ptr (m, 0) [] 0 0 ∧ s.hp (m, 0) = some ⟨19, 1, .i .i64 t.root :: ePgs false t.pages :: tlPc vs vl, v⟩) ∧ ∃ k : Nat, k ≤ t.pages.length ∧ s.sl 24 = eI k ∧ ∀ i, i < k → vs.getD i false = true) (fun s => t.pages.length - iN (s.sl 24)) ?_ ?_
        · exact ⟨rfl, ⟨_, _, rfl, rfl⟩, 0, Nat.zero_le _, rfl, fun i hi => by omega⟩
        · rintro sl hp q ⟨h23, ⟨m, v, h3, hh⟩, k, hk, h24, hall⟩
          dsimp only at h23 h3 hh h24
          simp (config := {maxSteps := 1000000}) (disch := omega) only [go_sem, ↓reduceIte, Nat.reduceEqDiff, Nat.reduceAdd, Nat.reduceMul, Nat.reduceSub, Nat.reduceLeDiff, Nat.reduceLT, Int.reduceToNat, Int.reduceLE, Int.reduceLT, Int.reduceNeg, h_visit, mVisit, drP_n, drP_c, logAt_n, logAt_c, disP_n, disP_c, notIn_n, notIn_c, h23, h24]
          (first | refine runKS_split (fun g1 => ?_) (fun g1 => ?_) | refine cond_split (fun g1 => ?_) (fun g1 => ?_) | refine runK_split (fun g1 => ?_) (fun g1 => ?_))
          · have g1' := of_decide_eq_true g1
            have tg := tl_get (sn := vs) (ld := vl) (y := k) (by omega)
            cases hv : vs.getD k false
            · simp (config := {maxSteps := 1000000}) (disch := omega) only [go_sem, ↓reduceIte, Nat.reduceEqDiff, Nat.reduceAdd, Nat.reduceMul, Nat.reduceSub, Nat.reduceLeDiff, Nat.reduceLT, Int.reduceToNat, Int.reduceLE, Int.reduceLT, Int.reduceNeg, h_visit, mVisit, drP_n, drP_c, logAt_n, logAt_c, disP_n, disP_c, notIn_n, notIn_c, h23, h24, h3, hh, g1, get_2, tg, hv, hl]
              rw [show ((List.range t.pages.length).all fun i => vs.getD i false) = false from by
                rw [Bool.eq_false_iff]
                intro h'
                have := List.all_eq_true.1 h' k (List.mem_range.2 (by omega))
                rw [hv] at this
                cases this]
            · simp (config := {maxSteps := 1000000}) (disch := omega) only [go_sem, ↓reduceIte, Nat.reduceEqDiff, Nat.reduceAdd, Nat.reduceMul, Nat.reduceSub, Nat.reduceLeDiff, Nat.reduceLT, Int.reduceToNat, Int.reduceLE, Int.reduceLT, Int.reduceNeg, h_visit, mVisit, drP_n, drP_c, logAt_n, logAt_c, disP_n, disP_c, notIn_n, notIn_c, h23, h24, h3, hh, g1, get_2, tg, hv, hl]
              exact ⟨⟨⟨m, v, rfl, hh⟩, k + 1, by omega, rfl, fun i hi => by
                by_cases e : i = k
                · rw [e]; exact hv
                · exact hall i (by omega)⟩, by omega⟩
          · have g1' := of_decide_eq_false g1
            obtain rfl : k = t.pages.length := by omega
            simp (config := {maxSteps := 1000000}) (disch := omega) only [go_sem, ↓reduceIte, Nat.reduceEqDiff, Nat.reduceAdd, Nat.reduceMul, Nat.reduceSub, Nat.reduceLeDiff, Nat.reduceLT, Int.reduceToNat, Int.reduceLE, Int.reduceLT, Int.reduceNeg, h_visit, mVisit, drP_n, drP_c, logAt_n, logAt_c, disP_n, disP_c, notIn_n, notIn_c, h23, h24, g1]
            rw [show ((List.range t.pages.length).all fun i => vs.getD i false) = true from List.all_eq_true.2 fun i hi => hall i (List.mem_range.1 hi)]
    · have e2 : decide ((16 : Int) < (t.pages.length : Int)) = true := decide_eq_true (by omega)
      simp (config := {maxSteps := 1000000}) (disch := omega) only [go_sem, ↓reduceIte, Nat.reduceEqDiff, Nat.reduceAdd, Nat.reduceMul, Nat.reduceSub, Nat.reduceLeDiff, Nat.reduceLT, Int.reduceToNat, Int.reduceLE, Int.reduceLT, Int.reduceNeg, h_visit, mVisit, drP_n, drP_c, logAt_n, logAt_c, disP_n, disP_c, notIn_n, notIn_c, e1, e2]
      rw [show vTrI t = false from by unfold vTrI; rw [decide_eq_false a2]; simp]
  · have e1 : decide ((t.pages.length : Int) < 1) = true := decide_eq_true (by omega)
    simp (config := {maxSteps := 1000000}) (disch := omega) only [go_sem, ↓reduceIte, Nat.reduceEqDiff, Nat.reduceAdd, Nat.reduceMul, Nat.reduceSub, Nat.reduceLeDiff, Nat.reduceLT, Int.reduceToNat, Int.reduceLE, Int.reduceLT, Int.reduceNeg, h_visit, mVisit, drP_n, drP_c, logAt_n, logAt_c, disP_n, disP_c, notIn_n, notIn_c, e1]
    rw [show vTrI t = false from by unfold vTrI; rw [decide_eq_false a1]; simp]
theorem fo_ValidTreeI : FnOk Try.prog 66 := fnOk_of Try.func66 (by kernel_rfl)
theorem c_ValidTreeI : Contract Try.prog 66 mValidTree :=
  contract_of_does (DT := fun id => match id with  | _ => []) Try.checked.mixed tabOk (gok_model fo_visit (c_visit 4) gok_nil) Try.func66 rfl (by kernel_rfl) (does_ValidTreeI rfl)


end Go.TM
