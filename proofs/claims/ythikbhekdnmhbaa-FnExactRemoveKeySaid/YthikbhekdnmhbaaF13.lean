/- Contracts, 13: drawn insides. -/
import Derived.Test.YthikbhekdnmhbaaF12
namespace Go.TM
open Go.Proofs
set_option linter.unusedVariables false
set_option linter.unusedSimpArgs false
set_option maxRecDepth 100000

def aiLoop (bs : List Int) : Nat → Int → Int → List Int → List Int → List Int × List Int × Int
  | 0, p, _, ks, kd => (ks, kd, p)
  | k + 1, p, n, ks, kd => aiLoop bs k (p + 1 + 1) (n + 1 + pickV bs (p + 1) 16) (ks ++ [n]) (kd ++ [kd.getD (kd.length - 1) 0 + 1 + pickV bs p 2])
def aiK (bs : List Int) (p : Int) : Int := [3, 4, 2, 5, 1].getD (pickV bs (p + 1 + 1) 5).toNat 0
theorem aiK_bd (bs : List Int) (p : Int) : 0 ≤ aiK bs p ∧ aiK bs p ≤ 5 := by
  unfold aiK
  generalize (pickV bs (p + 1 + 1) 5).toNat = i
  rcases i with _ | _ | _ | _ | _ | i <;> simp
theorem aiK_pos {bs : List Int} {p : Int} (h0 : 0 ≤ pickV bs (p + 1 + 1) 5) (h : pickV bs (p + 1 + 1) 5 < 5) : 1 ≤ aiK bs p := by
  unfold aiK
  have : (pickV bs (p + 1 + 1) 5).toNat < 5 := by omega
  generalize (pickV bs (p + 1 + 1) 5).toNat = i at this
  rcases i with _ | _ | _ | _ | _ | i
  · simp
  · simp
  · simp
  · simp
  · simp
  · omega
def aiL (bs : List Int) (p : Int) : List Int × List Int × Int := aiLoop bs (aiK bs p).toNat (p + 1 + 1 + 1) (pickV bs (p + 1) 20) [] [pickV bs p 4]

/-- The inside at the loop's end, spoilt. -/
def aiE (bs : List Int) (ks kd : List Int) (p : Int) : (Bool × List Int) × (Bool × List Int) × Int :=
  if pickV bs p 24 = 0 then ((((spoilV bs (p + 1) ks 100).1, (spoilV bs (p + 1) ks 100).2.1)), (true, kd), (spoilV bs (p + 1) ks 100).2.2)
  else if pickV bs p 24 = 1 then ((true, ks), ((spoilV bs (p + 1) kd 16).1, (spoilV bs (p + 1) kd 16).2.1), (spoilV bs (p + 1) kd 16).2.2)
  else if pickV bs p 24 = 2 then ((true, ks), (true, kd.set 0 (kd.getD 1 0)), p + 1)
  else ((true, ks), (true, kd), p + 1)
def aiV (bs : List Int) (p : Int) : (Bool × List Int) × (Bool × List Int) × Int := aiE bs (aiL bs p).1 (aiL bs p).2.1 (aiL bs p).2.2

section
variable {bs ks kd : List Int} {p : Int}
theorem aiE_0 (h : pickV bs p 24 = 0) : aiE bs ks kd p = ((((spoilV bs (p + 1) ks 100).1, (spoilV bs (p + 1) ks 100).2.1)), (true, kd), (spoilV bs (p + 1) ks 100).2.2) := by unfold aiE; rw [if_pos h]
theorem aiE_1 (h : pickV bs p 24 = 1) : aiE bs ks kd p = ((true, ks), ((spoilV bs (p + 1) kd 16).1, (spoilV bs (p + 1) kd 16).2.1), (spoilV bs (p + 1) kd 16).2.2) := by unfold aiE; rw [if_neg (by omega), if_pos h]
theorem aiE_2 (h : pickV bs p 24 = 2) : aiE bs ks kd p = ((true, ks), (true, kd.set 0 (kd.getD 1 0)), p + 1) := by unfold aiE; rw [if_neg (by omega), if_neg (by omega), if_pos h]
theorem aiE_3 (h0 : pickV bs p 24 ≠ 0) (h1 : pickV bs p 24 ≠ 1) (h2 : pickV bs p 24 ≠ 2) : aiE bs ks kd p = ((true, ks), (true, kd), p + 1) := by unfold aiE; rw [if_neg h0, if_neg h1, if_neg h2]
end

noncomputable def mAnyInner : Model := M1 .io false cRd fun r => gd (Bs r.bs ∧ 0 ≤ r.p ∧ r.p ≤ 80000) (.agg [eIs (aiV r.bs r.p).1.1 (aiV r.bs r.p).1.2, eIs (aiV r.bs r.p).2.1.1 (aiV r.bs r.p).2.1.2], [[eBs false r.bs, eI (aiV r.bs r.p).2.2]])

theorem does_anyInner {G : Nat → Option FM} (h_pick : G 81 = some (.model mPick)) (h_one : G 113 = some (.model mOne)) (h_spoil : G 114 = some (.model mSpoil)) (h_copyInts : G 105 = some (.model mCopyInts)) : Does T G (fun id => match id with | 7 => [(2, 3), (2, 4), (2, 5), (2, 6), (2, 9), (2, 10), (13, 3), (13, 4), (13, 5), (13, 6), (13, 9), (13, 10)] | _ => []) Try.f102 mAnyInner := by
  refine does1 (rs := [.cell 2 51]) rfl rfl fun r ro h => ?_
  obtain ⟨⟨hB, hp0, hp1⟩, rfl⟩ := gd_some h
  have a1 := pickV_nn hB hp0 (by omega) (n := 4)
  have a2 := pickV_lt hB (p := r.p) (n := 4) (by omega)
  have b1 := pickV_nn hB (p := r.p + 1) (by omega) (by omega) (n := 20)
  have b2 := pickV_lt hB (p := r.p + 1) (n := 20) (by omega)
  have c1 := pickV_nn hB (p := r.p + 1 + 1) (by omega) (by omega) (n := 5)
  have c2 := pickV_lt hB (p := r.p + 1 + 1) (n := 5) (by omega)
  have kb := aiK_bd r.bs r.p
  have kp := aiK_pos c1 c2
  refine ⟨fun hc => (by cases hc), ?_⟩
  simp (config := {maxSteps := 1000000}) (disch := omega) only [go_sem, ↓reduceIte, Nat.reduceEqDiff, Nat.reduceAdd, Nat.reduceMul, Nat.reduceSub, Nat.reduceLeDiff, Nat.reduceLT, Int.reduceToNat, Int.reduceLE, Int.reduceLT, Int.reduceNeg, h_pick, mPick, h_one, mOne, h_spoil, mSpoil, h_copyInts, mCopyInts, hB]
  refine W_loop_i (fun s => s.sl 0 = .ptr (2, 0) [] 0 0 ∧ s.sl 2 = .ptr (3, 0) [] 0 0 ∧ s.sl 3 = .ptr (9, 0) [] 0 0 ∧ 18 ≤ s.n ∧ s.hp (3, 0) = some ⟨2, 1, [.s true 1 0 [], .s true 1 0 []], fun _ => 0⟩ ∧
    ∃ (k : Nat) (p n : Int) (ks kd : List Int), 1 ≤ k + ks.length ∧ k + ks.length ≤ 5 ∧ kd.length = ks.length + 1 ∧ r.p ≤ p ∧ p ≤ r.p + 100 - 2 * k ∧ 0 ≤ n ∧ n ≤ 20 + 16 * ks.length ∧ allR kd 0 (4 + 2 * ks.length) = true ∧ aiLoop r.bs k p n ks kd = aiL r.bs r.p ∧
    s.sl 5 = eI k ∧ s.sl 4 = eI n ∧ (∃ v, s.hp (9, 0) = some ⟨2, 1, [eIs true ks, eIs true kd], v⟩) ∧ ∃ v, s.hp (2, 0) = some ⟨2, 1, [eBs false r.bs, eI p], v⟩) (fun s => iN (s.sl 5)) ?_ ?_
  · refine ⟨rfl, rfl, rfl, ?_, ?_, (aiK r.bs r.p).toNat, r.p + 1 + 1 + 1, pickV r.bs (r.p + 1) 20, [], [pickV r.bs r.p 4], by simp; omega, by simp; omega, rfl, by omega, by omega, by omega, by simp; omega, ?_, rfl, ?_, rfl, ?_, ?_⟩
    · simp (config := {maxSteps := 1000000}) (disch := omega) only [go_sem, ↓reduceIte, Nat.reduceEqDiff, Nat.reduceAdd, Nat.reduceMul, Nat.reduceSub, Nat.reduceLeDiff, Nat.reduceLT, Int.reduceToNat, Int.reduceLE, Int.reduceLT, Int.reduceNeg, h_pick, mPick, h_one, mOne, h_spoil, mSpoil, h_copyInts, mCopyInts]
    · simp (config := {maxSteps := 1000000}) (disch := omega) only [go_sem, ↓reduceIte, Nat.reduceEqDiff, Nat.reduceAdd, Nat.reduceMul, Nat.reduceSub, Nat.reduceLeDiff, Nat.reduceLT, Int.reduceToNat, Int.reduceLE, Int.reduceLT, Int.reduceNeg, h_pick, mPick, h_one, mOne, h_spoil, mSpoil, h_copyInts, mCopyInts]
    · simp [allR, inR]; omega
    · simp (config := {maxSteps := 1000000}) (disch := omega) only [go_sem, ↓reduceIte, Nat.reduceEqDiff, Nat.reduceAdd, Nat.reduceMul, Nat.reduceSub, Nat.reduceLeDiff, Nat.reduceLT, Int.reduceToNat, Int.reduceLE, Int.reduceLT, Int.reduceNeg, h_pick, mPick, h_one, mOne, h_spoil, mSpoil, h_copyInts, mCopyInts]
      show A.i .i64 (aiK r.bs r.p) = eI ((aiK r.bs r.p).toNat : Int)
      rw [Int.toNat_of_nonneg kb.1]
    · simp (config := {maxSteps := 1000000}) (disch := omega) only [go_sem, ↓reduceIte, Nat.reduceEqDiff, Nat.reduceAdd, Nat.reduceMul, Nat.reduceSub, Nat.reduceLeDiff, Nat.reduceLT, Int.reduceToNat, Int.reduceLE, Int.reduceLT, Int.reduceNeg, h_pick, mPick, h_one, mOne, h_spoil, mSpoil, h_copyInts, mCopyInts]
      exact ⟨_, rfl⟩
    · simp (config := {maxSteps := 1000000}) (disch := omega) only [go_sem, ↓reduceIte, Nat.reduceEqDiff, Nat.reduceAdd, Nat.reduceMul, Nat.reduceSub, Nat.reduceLeDiff, Nat.reduceLT, Int.reduceToNat, Int.reduceLE, Int.reduceLT, Int.reduceNeg, h_pick, mPick, h_one, mOne, h_spoil, mSpoil, h_copyInts, mCopyInts]
      exact ⟨_, rfl⟩
  · rintro sl hp m0 ⟨h0, h2, h3, hm, hh3, k, p, n, ks, kd, hkp, hk, hl, hpa, hpb, hn0, hn1, hall, hai, h5, h4, ⟨v, hh⟩, v2, hr⟩
    dsimp only at h0 h2 h3 h5 h4 hh3 hh hr hm
    have d1 := pickV_nn hB (p := p) (by omega) (by omega) (n := 2)
    have d2 := pickV_lt hB (p := p) (n := 2) (by omega)
    have f1 := pickV_nn hB (p := p + 1) (by omega) (by omega) (n := 16)
    have f2 := pickV_lt hB (p := p + 1) (n := 16) (by omega)
    have hlast := allR_get.1 hall (kd.length - 1) (by omega)
    have e1 : ((kd.length : Int) - 1).toNat = kd.length - 1 := by omega
    simp (config := {maxSteps := 1000000}) (disch := omega) only [go_sem, ↓reduceIte, Nat.reduceEqDiff, Nat.reduceAdd, Nat.reduceMul, Nat.reduceSub, Nat.reduceLeDiff, Nat.reduceLT, Int.reduceToNat, Int.reduceLE, Int.reduceLT, Int.reduceNeg, h_pick, mPick, h_one, mOne, h_spoil, mSpoil, h_copyInts, mCopyInts, h0, h2, h3, h4, h5]
    (first | refine runKS_split (fun g1 => ?_) (fun g1 => ?_) | refine cond_split (fun g1 => ?_) (fun g1 => ?_) | refine runK_split (fun g1 => ?_) (fun g1 => ?_))
    · have g1' := of_decide_eq_true g1
      simp (config := {maxSteps := 1000000}) (disch := omega) only [go_sem, ↓reduceIte, Nat.reduceEqDiff, Nat.reduceAdd, Nat.reduceMul, Nat.reduceSub, Nat.reduceLeDiff, Nat.reduceLT, Int.reduceToNat, Int.reduceLE, Int.reduceLT, Int.reduceNeg, h_pick, mPick, h_one, mOne, h_spoil, mSpoil, h_copyInts, mCopyInts, h0, h2, h3, h4, h5, g1, hh, hr, hB, hh3, e1]
      obtain ⟨k', rfl⟩ : ∃ k', k = k' + 1 := ⟨k - 1, by omega⟩
      refine ⟨?_, ⟨k', p + 1 + 1, n + 1 + pickV r.bs (p + 1) 16, ks ++ [n], kd ++ [kd.getD (kd.length - 1) 0 + 1 + pickV r.bs p 2], by simp; omega, by simp; omega, by simp; omega, by omega, by omega, by omega, by simp; omega, ?_, hai, ?_, rfl, ?_, ⟨_, rfl⟩⟩, by omega⟩
      · simp [drawB, logAt, disjB]
        try omega
      · simp only [allR, List.all_append, List.all_cons, List.all_nil, Bool.and_true, Bool.and_eq_true, List.length_append, List.length_singleton] at hall ⊢
        refine ⟨?_, ?_⟩
        · simp only [List.all_eq_true, inR, Bool.and_eq_true, decide_eq_true_eq] at hall ⊢
          intro x hx
          have := hall x hx
          omega
        · simp only [inR, Bool.and_eq_true, decide_eq_true_eq]
          omega
      · rw [show ((k' + 1 : Nat) : Int) - 1 = k' from by omega]
      · rw [app_I rfl, app_I rfl]
        simp only [eIs, List.length_append, List.length_singleton]
        exact ⟨_, rfl⟩
    · have g1' := of_decide_eq_false g1
      obtain rfl : k = 0 := by omega
      have q1 := pickV_nn hB (p := p) (by omega) (by omega) (n := 24)
      have e : aiV r.bs r.p = aiE r.bs ks kd p := by unfold aiV; rw [← hai]; rfl
      rw [e]
      simp (config := {maxSteps := 1000000}) (disch := omega) only [go_sem, ↓reduceIte, Nat.reduceEqDiff, Nat.reduceAdd, Nat.reduceMul, Nat.reduceSub, Nat.reduceLeDiff, Nat.reduceLT, Int.reduceToNat, Int.reduceLE, Int.reduceLT, Int.reduceNeg, h_pick, mPick, h_one, mOne, h_spoil, mSpoil, h_copyInts, mCopyInts, h0, h2, h3, h4, h5, g1, hh, hr, hB, hh3]
      (first | refine runKS_split (fun g2 => ?_) (fun g2 => ?_) | refine cond_split (fun g2 => ?_) (fun g2 => ?_) | refine runK_split (fun g2 => ?_) (fun g2 => ?_))
      · have g2' := of_decide_eq_true g2
        rw [aiE_0 g2']
        dsimp only
        rcases hsp : spoilV r.bs (p + 1) ks 100 with ⟨o, ys, q⟩
        cases o <;> simp (config := {maxSteps := 1000000}) (disch := omega) only [go_sem, ↓reduceIte, Nat.reduceEqDiff, Nat.reduceAdd, Nat.reduceMul, Nat.reduceSub, Nat.reduceLeDiff, Nat.reduceLT, Int.reduceToNat, Int.reduceLE, Int.reduceLT, Int.reduceNeg, h_pick, mPick, h_one, mOne, h_spoil, mSpoil, h_copyInts, mCopyInts, h0, h2, h3, h4, h5, g1, g2, hh, hr, hB, hh3, hsp]
      · have g2' := of_decide_eq_false g2
        simp (config := {maxSteps := 1000000}) (disch := omega) only [go_sem, ↓reduceIte, Nat.reduceEqDiff, Nat.reduceAdd, Nat.reduceMul, Nat.reduceSub, Nat.reduceLeDiff, Nat.reduceLT, Int.reduceToNat, Int.reduceLE, Int.reduceLT, Int.reduceNeg, h_pick, mPick, h_one, mOne, h_spoil, mSpoil, h_copyInts, mCopyInts, h0, h2, h3, h4, h5, g1, g2, hh, hr, hB, hh3]
        (first | refine runKS_split (fun g3 => ?_) (fun g3 => ?_) | refine cond_split (fun g3 => ?_) (fun g3 => ?_) | refine runK_split (fun g3 => ?_) (fun g3 => ?_))
        · have g3' := of_decide_eq_true g3
          rw [aiE_1 g3']
          dsimp only
          rcases hsp : spoilV r.bs (p + 1) kd 16 with ⟨o, ys, q⟩
          cases o <;> simp (config := {maxSteps := 1000000}) (disch := omega) only [go_sem, ↓reduceIte, Nat.reduceEqDiff, Nat.reduceAdd, Nat.reduceMul, Nat.reduceSub, Nat.reduceLeDiff, Nat.reduceLT, Int.reduceToNat, Int.reduceLE, Int.reduceLT, Int.reduceNeg, h_pick, mPick, h_one, mOne, h_spoil, mSpoil, h_copyInts, mCopyInts, h0, h2, h3, h4, h5, g1, g2, g3, hh, hr, hB, hh3, hsp]
        · have g3' := of_decide_eq_false g3
          simp (config := {maxSteps := 1000000}) (disch := omega) only [go_sem, ↓reduceIte, Nat.reduceEqDiff, Nat.reduceAdd, Nat.reduceMul, Nat.reduceSub, Nat.reduceLeDiff, Nat.reduceLT, Int.reduceToNat, Int.reduceLE, Int.reduceLT, Int.reduceNeg, h_pick, mPick, h_one, mOne, h_spoil, mSpoil, h_copyInts, mCopyInts, h0, h2, h3, h4, h5, g1, g2, g3, hh, hr, hB, hh3]
          (first | refine runKS_split (fun g4 => ?_) (fun g4 => ?_) | refine cond_split (fun g4 => ?_) (fun g4 => ?_) | refine runK_split (fun g4 => ?_) (fun g4 => ?_))
          · have g4' := of_decide_eq_true g4
            rw [aiE_2 g4']
            dsimp only
            simp (config := {maxSteps := 1000000}) (disch := omega) only [go_sem, ↓reduceIte, Nat.reduceEqDiff, Nat.reduceAdd, Nat.reduceMul, Nat.reduceSub, Nat.reduceLeDiff, Nat.reduceLT, Int.reduceToNat, Int.reduceLE, Int.reduceLT, Int.reduceNeg, h_pick, mPick, h_one, mOne, h_spoil, mSpoil, h_copyInts, mCopyInts, h0, h2, h3, h4, h5, g1, g2, g3, g4, hh, hr, hB, hh3]
            simp
          · have g4' := of_decide_eq_false g4
            rw [aiE_3 g2' g3' g4']
            dsimp only
            simp (config := {maxSteps := 1000000}) (disch := omega) only [go_sem, ↓reduceIte, Nat.reduceEqDiff, Nat.reduceAdd, Nat.reduceMul, Nat.reduceSub, Nat.reduceLeDiff, Nat.reduceLT, Int.reduceToNat, Int.reduceLE, Int.reduceLT, Int.reduceNeg, h_pick, mPick, h_one, mOne, h_spoil, mSpoil, h_copyInts, mCopyInts, h0, h2, h3, h4, h5, g1, g2, g3, g4, hh, hr, hB, hh3]
theorem fo_anyInner : FnOk Try.prog 102 := fnOk_of Try.func102 (by kernel_rfl)
theorem c_anyInner : Contract Try.prog 102 mAnyInner :=
  contract_of_does (DT := fun id => match id with | 7 => [(2, 3), (2, 4), (2, 5), (2, 6), (2, 9), (2, 10), (13, 3), (13, 4), (13, 5), (13, 6), (13, 9), (13, 10)] | _ => []) Try.checked.mixed tabOk (gok_model fo_pick c_pick (gok_model fo_one c_one (gok_model fo_spoil c_spoil (gok_model fo_copyInts c_copyInts gok_nil)))) Try.func102 rfl (by kernel_rfl) (does_anyInner rfl rfl rfl rfl)


def aiX (bs : List Int) (p : Int) : Inn := ⟨(aiV bs p).1.2, (aiV bs p).2.1.2⟩
noncomputable def mAnyInnerF : Model := M1 .io false cRd fun r => gd (Bs r.bs ∧ 0 ≤ r.p ∧ r.p ≤ 80000) (eInn false (aiX r.bs r.p), [[eBs false r.bs, eI (aiV r.bs r.p).2.2]])
theorem norm_Inn (o1 o2 : Bool) (a b : List Int) : normR (.agg [eIs o1 a, eIs o2 b]) = eInn false ⟨a, b⟩ := by
  simp only [normR, normL, norm]
  rw [normL_eI, normL_eI]
theorem c_AnyInnerF : Contract Try.prog 102 mAnyInnerF := contract_frz c_anyInner rfl rfl fun args r outs h => by
  match args, h with
  | [x], h =>
    simp only [mAnyInnerF, M1_fn, Option.bind_eq_some_iff] at h
    obtain ⟨rd, h1, h2⟩ := h
    obtain ⟨hc, h3⟩ := gd_some h2
    cases h3
    exact ⟨.agg [eIs (aiV rd.bs rd.p).1.1 (aiV rd.bs rd.p).1.2, eIs (aiV rd.bs rd.p).2.1.1 (aiV rd.bs rd.p).2.1.2], by simp only [mAnyInner, M1_fn, h1, Option.bind_some]; rw [gd_pos hc], (norm_Inn _ _ _ _).symm, .inr ⟨_, rfl⟩⟩
theorem fo_AnyInnerF : FnOk Try.prog 102 := fnOk_of Try.func102 (by kernel_rfl)


theorem aiLoop_len (bs : List Int) : ∀ (k : Nat) (p n : Int) (ks kd : List Int), (aiLoop bs k p n ks kd).1.length = ks.length + k ∧ (aiLoop bs k p n ks kd).2.1.length = kd.length + k
  | 0, p, n, ks, kd => by simp [aiLoop]
  | k + 1, p, n, ks, kd => by
    obtain ⟨e1, e2⟩ := aiLoop_len bs k (p + 1 + 1) (n + 1 + pickV bs (p + 1) 16) (ks ++ [n]) (kd ++ [kd.getD (kd.length - 1) 0 + 1 + pickV bs p 2])
    simp only [aiLoop]
    rw [e1, e2]
    simp
    omega

theorem spoilV_len {bs xs : List Int} {p n : Int} : (spoilV bs p xs n).2.1.length ≤ xs.length + 1 := by
  unfold spoilV
  split
  · simp
  · split
    · split
      · simp
      · simp; omega
    · split
      · split <;> simp
      · simp

theorem aiX_len (bs : List Int) (p : Int) : (aiX bs p).keys.length ≤ 6 ∧ (aiX bs p).kids.length ≤ 7 := by
  obtain ⟨e1, e2⟩ := aiLoop_len bs (aiK bs p).toNat (p + 1 + 1 + 1) (pickV bs (p + 1) 20) [] [pickV bs p 4]
  have kb := aiK_bd bs p
  have f1 : (aiL bs p).1.length ≤ 5 := by unfold aiL; rw [e1]; simp; omega
  have f2 : (aiL bs p).2.1.length ≤ 6 := by unfold aiL; rw [e2]; simp; omega
  have s1 := spoilV_len (bs := bs) (p := (aiL bs p).2.2 + 1) (xs := (aiL bs p).1) (n := 100)
  have s2 := spoilV_len (bs := bs) (p := (aiL bs p).2.2 + 1) (xs := (aiL bs p).2.1) (n := 16)
  unfold aiX aiV aiE
  split
  · exact ⟨by dsimp only; omega, by dsimp only; omega⟩
  · split
    · exact ⟨by dsimp only; omega, by dsimp only; omega⟩
    · split
      · exact ⟨by dsimp only; omega, by simp; omega⟩
      · exact ⟨by dsimp only; omega, by dsimp only; omega⟩

def drawI (bs : List Int) : Inn := aiX (bs.take 2000) 0
noncomputable def mDrawInner : Model := M1 .ro false (cS false c8) fun bs => gd (bs.length ≤ 1099511627776 ∧ Bs (bs.take 2000)) (eInn false (drawI bs), [])

theorem does_DrawValidInner {G : Nat → Option FM} (h_newReader : G 80 = some (.model mNewReader)) (h_AnyInnerF : G 102 = some (.model mAnyInnerF)) : Does T G (fun _ => []) Try.f55 mDrawInner := by
  refine does1 (rs := [.cell 2 51]) rfl rfl fun bs ro h => ?_
  obtain ⟨⟨hl, hB⟩, rfl⟩ := gd_some h
  refine ⟨fun hc => (by cases hc), ?_⟩
  unfold drawI
  simp (config := {maxSteps := 1000000}) (disch := omega) only [go_sem, ↓reduceIte, Nat.reduceEqDiff, Nat.reduceAdd, Nat.reduceMul, Nat.reduceSub, Nat.reduceLeDiff, Nat.reduceLT, Int.reduceToNat, Int.reduceLE, Int.reduceLT, Int.reduceNeg, h_newReader, mNewReader, h_AnyInnerF, mAnyInnerF, hB]
theorem fo_DrawValidInner : FnOk Try.prog 55 := fnOk_of Try.func55 (by kernel_rfl)
theorem c_DrawValidInner : Contract Try.prog 55 mDrawInner :=
  contract_of_does (DT := fun _ => []) Try.checked.mixed tabOk (gok_model fo_newReader c_newReader (gok_model fo_AnyInnerF c_AnyInnerF gok_nil)) Try.func55 rfl (by kernel_rfl) (does_DrawValidInner rfl rfl)

end Go.TM
