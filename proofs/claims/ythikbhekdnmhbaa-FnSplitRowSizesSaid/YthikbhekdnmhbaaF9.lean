/- Contracts, 9: drawn keys. -/
import Derived.Test.YthikbhekdnmhbaaF8
import Derived.Test.YthikbhekdnmhbaaTmD
namespace Go.TM
open Go.Proofs
set_option linter.unusedVariables false
set_option linter.unusedSimpArgs false
set_option maxRecDepth 100000

def skLoop (bs : List Int) : Nat → Int → Int → List Int → List Int × Int
  | 0, p, _, out => (out, p)
  | k + 1, p, n, out => if n ≤ 99 then skLoop bs k (p + 1) (n + 1 + pickV bs p 12) (out ++ [n]) else (out, p)
theorem skLoop_t {bs out : List Int} {k : Nat} {p n : Int} (h : n ≤ 99) : skLoop bs (k + 1) p n out = skLoop bs k (p + 1) (n + 1 + pickV bs p 12) (out ++ [n]) := by simp [skLoop, h]
theorem skLoop_f {bs out : List Int} {k : Nat} {p n : Int} (h : ¬ n ≤ 99) : skLoop bs k p n out = (out, p) := by cases k <;> simp [skLoop, h]
theorem skLoop_0 {bs out : List Int} {p n : Int} : skLoop bs 0 p n out = (out, p) := rfl

/-- How many keys, and the first. -/
def skK (bs : List Int) (p : Int) : Int := [5, 8, 3, 12, 1, 0].getD (pickV bs (p + 1) 6).toNat 0
theorem skK_bd (bs : List Int) (p : Int) : 0 ≤ skK bs p ∧ skK bs p ≤ 12 := by
  unfold skK
  generalize (pickV bs (p + 1) 6).toNat = i
  rcases i with _ | _ | _ | _ | _ | _ | i <;> simp

def skV (bs : List Int) (p : Int) : List Int × Int := skLoop bs (skK bs p).toNat (p + 1 + 1) (pickV bs p 10) []
def someV (bs : List Int) (p : Int) : Bool × List Int × Int := spoilV bs (skV bs p).2 (skV bs p).1 100

noncomputable def mSomeKeys : Model := M1 .io false cRd fun r => gd (Bs r.bs ∧ 0 ≤ r.p ∧ r.p ≤ 80000) (eIs (someV r.bs r.p).1 (someV r.bs r.p).2.1, [[eBs false r.bs, eI (someV r.bs r.p).2.2]])

theorem does_someKeys {G : Nat → Option FM} (h_pick : G 81 = some (.model mPick)) (h_one : G 113 = some (.model mOne)) (h_spoil : G 114 = some (.model mSpoil)) : Does T G (fun _ => []) Try.f94 mSomeKeys := by
  refine does1 (rs := [.tmp 2]) rfl rfl fun r ro h => ?_
  obtain ⟨⟨hB, hp0, hp1⟩, rfl⟩ := gd_some h
  have a1 := pickV_nn hB hp0 (by omega) (n := 10)
  have a2 := pickV_lt hB (p := r.p) (n := 10) (by omega)
  have b1 := pickV_nn hB (p := r.p + 1) (by omega) (by omega) (n := 6)
  have b2 := pickV_lt hB (p := r.p + 1) (n := 6) (by omega)
  have kb := skK_bd r.bs r.p
  refine ⟨fun hc => (by cases hc), ?_⟩
  simp (config := {maxSteps := 1000000}) (disch := omega) only [go_sem, ↓reduceIte, Nat.reduceEqDiff, Nat.reduceAdd, Nat.reduceMul, Nat.reduceSub, Nat.reduceLeDiff, Nat.reduceLT, Int.reduceToNat, Int.reduceLE, Int.reduceLT, Int.reduceNeg, h_pick, mPick, h_one, mOne, h_spoil, mSpoil, hB]
  refine W_loop_i (fun s => s.sl 0 = .ptr (2, 0) [] 0 0 ∧ ∃ (k : Nat) (p n : Int) (out : List Int) (m : Nat), k ≤ 12 ∧ r.p ≤ p ∧ p ≤ r.p + 100 - k ∧ out.length + k ≤ 100 ∧ 0 ≤ n ∧ n ≤ 200 ∧ skLoop r.bs k p n out = skV r.bs r.p ∧ s.sl 5 = eI k ∧ s.sl 4 = eI n ∧ 2 < m ∧ m < s.n ∧
    s.sl 3 = .ref (m, 0) [] 0 0 1 out.length ∧ s.hp (m, 0) = some ⟨1, out.length, out.map eI, fun _ => 0⟩ ∧ ∃ v, s.hp (2, 0) = some ⟨2, 1, [eBs false r.bs, eI p], v⟩) (fun s => iN (s.sl 5)) ?_ ?_
  · refine ⟨rfl, (skK r.bs r.p).toNat, r.p + 1 + 1, pickV r.bs r.p 10, [], 4, by omega, by omega, by omega, by simp; omega, by omega, by omega, rfl, ?_, rfl, by omega, ?_, rfl, ?_, ?_⟩
    · simp (config := {maxSteps := 1000000}) (disch := omega) only [go_sem, ↓reduceIte, Nat.reduceEqDiff, Nat.reduceAdd, Nat.reduceMul, Nat.reduceSub, Nat.reduceLeDiff, Nat.reduceLT, Int.reduceToNat, Int.reduceLE, Int.reduceLT, Int.reduceNeg, h_pick, mPick, h_one, mOne, h_spoil, mSpoil]
      show A.i .i64 (skK r.bs r.p) = eI ((skK r.bs r.p).toNat : Int)
      rw [Int.toNat_of_nonneg kb.1]
    · simp (config := {maxSteps := 1000000}) (disch := omega) only [go_sem, ↓reduceIte, Nat.reduceEqDiff, Nat.reduceAdd, Nat.reduceMul, Nat.reduceSub, Nat.reduceLeDiff, Nat.reduceLT, Int.reduceToNat, Int.reduceLE, Int.reduceLT, Int.reduceNeg, h_pick, mPick, h_one, mOne, h_spoil, mSpoil]
    · simp (config := {maxSteps := 1000000}) (disch := omega) only [go_sem, ↓reduceIte, Nat.reduceEqDiff, Nat.reduceAdd, Nat.reduceMul, Nat.reduceSub, Nat.reduceLeDiff, Nat.reduceLT, Int.reduceToNat, Int.reduceLE, Int.reduceLT, Int.reduceNeg, h_pick, mPick, h_one, mOne, h_spoil, mSpoil]
    · simp (config := {maxSteps := 1000000}) (disch := omega) only [go_sem, ↓reduceIte, Nat.reduceEqDiff, Nat.reduceAdd, Nat.reduceMul, Nat.reduceSub, Nat.reduceLeDiff, Nat.reduceLT, Int.reduceToNat, Int.reduceLE, Int.reduceLT, Int.reduceNeg, h_pick, mPick, h_one, mOne, h_spoil, mSpoil]
      exact ⟨_, rfl⟩
  · rintro sl hp m0 ⟨h0, k, p, n, out, m, hk, hpa, hpb, hol, hn0, hn1, hsk, h5, h4, hm2, hm, h3, hh, v, hr⟩
    dsimp only at h0 h5 h4 h3 hh hr hm
    have c1 := pickV_nn hB (p := p) (by omega) (by omega) (n := 12)
    have c2 := pickV_lt hB (p := p) (n := 12) (by omega)
    have fin : skV r.bs r.p = (out, p) → ∀ q ys o, spoilV r.bs p out 100 = (o, ys, q) → (eIs (someV r.bs r.p).1 (someV r.bs r.p).2.1, [[eBs false r.bs, eI (someV r.bs r.p).2.2]]) = (eIs o ys, [[eBs false r.bs, eI q]]) := by
      intro e q ys o hq
      simp only [someV, e, hq]
    simp (config := {maxSteps := 1000000}) (disch := omega) only [go_sem, ↓reduceIte, Nat.reduceEqDiff, Nat.reduceAdd, Nat.reduceMul, Nat.reduceSub, Nat.reduceLeDiff, Nat.reduceLT, Int.reduceToNat, Int.reduceLE, Int.reduceLT, Int.reduceNeg, h_pick, mPick, h_one, mOne, h_spoil, mSpoil, h0, h3, h4, h5]
    (first | refine runKS_split (fun g1 => ?_) (fun g1 => ?_) | refine cond_split (fun g1 => ?_) (fun g1 => ?_) | refine runK_split (fun g1 => ?_) (fun g1 => ?_))
    · have g1' := of_decide_eq_true g1
      simp (config := {maxSteps := 1000000}) (disch := omega) only [go_sem, ↓reduceIte, Nat.reduceEqDiff, Nat.reduceAdd, Nat.reduceMul, Nat.reduceSub, Nat.reduceLeDiff, Nat.reduceLT, Int.reduceToNat, Int.reduceLE, Int.reduceLT, Int.reduceNeg, h_pick, mPick, h_one, mOne, h_spoil, mSpoil, h0, h3, h4, h5, g1]
      (first | refine runKS_split (fun g2 => ?_) (fun g2 => ?_) | refine cond_split (fun g2 => ?_) (fun g2 => ?_) | refine runK_split (fun g2 => ?_) (fun g2 => ?_))
      · have g2' := of_decide_eq_true g2
        simp (config := {maxSteps := 1000000}) (disch := omega) only [go_sem, ↓reduceIte, Nat.reduceEqDiff, Nat.reduceAdd, Nat.reduceMul, Nat.reduceSub, Nat.reduceLeDiff, Nat.reduceLT, Int.reduceToNat, Int.reduceLE, Int.reduceLT, Int.reduceNeg, h_pick, mPick, h_one, mOne, h_spoil, mSpoil, h0, h3, h4, h5, g1, g2, hh, hr, hB]
        obtain ⟨k', rfl⟩ : ∃ k', k = k' + 1 := ⟨k - 1, by omega⟩
        rw [skLoop_t g2'] at hsk
        refine ⟨⟨k', p + 1, n + 1 + pickV r.bs p 12, out ++ [n], m0 + 6 + 3, by omega, by omega, by omega, by simp; omega, by omega, by omega, hsk, ?_, rfl, by omega, by omega, ?_, ?_, _, rfl⟩, by omega⟩
        · rw [show ((k' + 1 : Nat) : Int) - 1 = k' from by omega]
        · simp
        · simp (config := {maxSteps := 1000000}) (disch := omega) only [go_sem, ↓reduceIte, Nat.reduceEqDiff, Nat.reduceAdd, Nat.reduceMul, Nat.reduceSub, Nat.reduceLeDiff, Nat.reduceLT, Int.reduceToNat, Int.reduceLE, Int.reduceLT, Int.reduceNeg, h_pick, mPick, h_one, mOne, h_spoil, mSpoil]
          rw [app_I rfl]
          simp
      · have g2' := of_decide_eq_false g2
        rw [skLoop_f g2'] at hsk
        rcases hsp : spoilV r.bs p out 100 with ⟨o, ys, q⟩
        rw [fin hsk.symm _ _ _ hsp]
        cases o <;> simp (config := {maxSteps := 1000000}) (disch := omega) only [go_sem, ↓reduceIte, Nat.reduceEqDiff, Nat.reduceAdd, Nat.reduceMul, Nat.reduceSub, Nat.reduceLeDiff, Nat.reduceLT, Int.reduceToNat, Int.reduceLE, Int.reduceLT, Int.reduceNeg, h_pick, mPick, h_one, mOne, h_spoil, mSpoil, h0, h3, h4, h5, g1, g2, hh, hr, hB, hsp]
    · have g1' := of_decide_eq_false g1
      obtain rfl : k = 0 := by omega
      rw [skLoop_0] at hsk
      rcases hsp : spoilV r.bs p out 100 with ⟨o, ys, q⟩
      rw [fin hsk.symm _ _ _ hsp]
      cases o <;> simp (config := {maxSteps := 1000000}) (disch := omega) only [go_sem, ↓reduceIte, Nat.reduceEqDiff, Nat.reduceAdd, Nat.reduceMul, Nat.reduceSub, Nat.reduceLeDiff, Nat.reduceLT, Int.reduceToNat, Int.reduceLE, Int.reduceLT, Int.reduceNeg, h_pick, mPick, h_one, mOne, h_spoil, mSpoil, h0, h3, h4, h5, g1, hh, hr, hB, hsp]
theorem fo_someKeys : FnOk Try.prog 94 := fnOk_of Try.func94 (by kernel_rfl)
theorem c_someKeys : Contract Try.prog 94 mSomeKeys :=
  contract_of_does (DT := fun _ => []) Try.checked.mixed tabOk (gok_model fo_pick c_pick (gok_model fo_one c_one (gok_model fo_spoil c_spoil gok_nil))) Try.func94 rfl (by kernel_rfl) (does_someKeys rfl rfl rfl)


noncomputable def mSomeKeysF : Model := M1 .io false cRd fun r => gd (Bs r.bs ∧ 0 ≤ r.p ∧ r.p ≤ 80000) (eIs false (someV r.bs r.p).2.1, [[eBs false r.bs, eI (someV r.bs r.p).2.2]])
theorem c_SomeKeysF : Contract Try.prog 94 mSomeKeysF := contract_frz c_someKeys rfl rfl fun args r outs h => by
  match args, h with
  | [x], h =>
    simp only [mSomeKeysF, M1_fn, Option.bind_eq_some_iff] at h
    obtain ⟨rd, h1, h2⟩ := h
    obtain ⟨hc, h3⟩ := gd_some h2
    cases h3
    exact ⟨eIs (someV rd.bs rd.p).1 (someV rd.bs rd.p).2.1, by simp only [mSomeKeys, M1_fn, h1, Option.bind_some]; rw [gd_pos hc], (norm_Is _ _).symm, .inl ⟨_, _, _, _, rfl⟩⟩
theorem fo_SomeKeysF : FnOk Try.prog 94 := fnOk_of Try.func94 (by kernel_rfl)


/-! ### What is drawn is small -/

theorem skLoop_bd {bs : List Int} (hB : Bs bs) : ∀ (k : Nat) (p n : Int) (out : List Int), 0 ≤ p → p + k ≤ 90000 → 0 ≤ n → allR out (-1) 200 = true → allR (skLoop bs k p n out).1 (-1) 200 = true ∧ (skLoop bs k p n out).1.length ≤ out.length + k ∧
    p ≤ (skLoop bs k p n out).2 ∧ (skLoop bs k p n out).2 ≤ p + k
  | 0, p, n, out, _, _, _, ho => ⟨ho, by simp [skLoop], by simp [skLoop], by simp [skLoop]⟩
  | k + 1, p, n, out, hp, hp1, hn, ho => by
    by_cases h : n ≤ 99
    · rw [skLoop_t h]
      have c1 := pickV_nn hB (p := p) (by omega) (by omega) (n := 12)
      obtain ⟨e1, e2, e3, e4⟩ := skLoop_bd hB k (p + 1) (n + 1 + pickV bs p 12) (out ++ [n]) (by omega) (by omega) (by omega) (by
        simp only [allR, List.all_append, List.all_cons, List.all_nil, Bool.and_true, Bool.and_eq_true] at ho ⊢
        exact ⟨ho, by simp [inR]; omega⟩)
      refine ⟨e1, ?_, by omega, by omega⟩
      rw [List.length_append, List.length_singleton] at e2
      omega
    · rw [skLoop_f h]
      exact ⟨ho, by simp, by simp, by simp; try omega⟩

theorem allR_drop {xs : List Int} {a b : Int} (h : allR xs a b = true) (k : Nat) : allR (xs.drop k) a b = true := by
  simp only [allR, List.all_eq_true] at h ⊢
  exact fun x hx => h x (List.mem_of_mem_drop hx)
theorem allR_set {xs : List Int} {a b : Int} (h : allR xs a b = true) (k : Nat) {v : Int} (hv : inR v a b = true) : allR (xs.set k v) a b = true := by
  simp only [allR, List.all_eq_true] at h ⊢
  intro x hx
  rcases List.mem_or_eq_of_mem_set hx with hx | rfl
  · exact h x hx
  · exact hv

theorem spoilV_bd {bs xs : List Int} {p n : Int} (h : allR xs (-1) 200 = true) (hn : inR n (-1) 200 = true) : allR (spoilV bs p xs n).2.1 (-1) 200 = true ∧ (spoilV bs p xs n).2.1.length ≤ xs.length + 1 ∧ p + 1 ≤ (spoilV bs p xs n).2.2 ∧ (spoilV bs p xs n).2.2 ≤ p + 3 := by
  unfold spoilV
  split
  · refine ⟨?_, by simp, by simp, by simp; try omega⟩
    simp only [allR, List.all_append, List.all_cons, List.all_nil, Bool.and_true, Bool.and_eq_true] at h ⊢
    exact ⟨h, hn⟩
  · split
    · split
      · exact ⟨h, by simp, by simp, by simp; try omega⟩
      · exact ⟨allR_drop h 1, by simp; try omega, by simp, by simp; try omega⟩
    · split
      · split
        · exact ⟨h, by simp, by simp, by simp; try omega⟩
        · refine ⟨allR_set h _ ?_, by simp, by simp; try omega, by simp; try omega⟩
          generalize (pickV bs (p + 1 + 1) 4).toNat = i
          rcases i with _ | _ | _ | _ | i <;> simp [inR] at hn ⊢ <;> omega
      · exact ⟨h, by simp, by simp, by simp; try omega⟩

theorem someV_bd {bs : List Int} {p : Int} (hB : Bs bs) (hp0 : 0 ≤ p) (hp1 : p ≤ 80000) : allR (someV bs p).2.1 (-1) 200 = true ∧ (someV bs p).2.1.length ≤ 13 ∧ p ≤ (someV bs p).2.2 ∧ (someV bs p).2.2 ≤ p + 20 := by
  have kb := skK_bd bs p
  obtain ⟨e1, e2, e3, e4⟩ := skLoop_bd hB (skK bs p).toNat (p + 1 + 1) (pickV bs p 10) [] (by omega) (by omega) (pickV_nn hB hp0 (by omega)) rfl
  obtain ⟨f1, f2, f3, f4⟩ := spoilV_bd (bs := bs) (p := (skV bs p).2) (xs := (skV bs p).1) (n := 100) e1 rfl
  refine ⟨f1, ?_, ?_, ?_⟩
  · simp only [List.length_nil] at e2
    simp only [someV, skV] at f2 ⊢
    omega
  · simp only [someV, skV] at f3 ⊢
    omega
  · simp only [someV, skV] at f4 ⊢
    omega

/-! ### A key near -/

def keyV (bs : List Int) (p : Int) (xs : List Int) : Int × Int :=
  if xs.length = 0 then ([pickV bs p 100, pickV bs (p + 1) 100, 0, 99, 100, -1].getD (pickV bs (p + 1 + 1) 6).toNat 0, p + 1 + 1 + 1)
  else if 0 < pickV bs p 3 then (xs.getD (pickV bs (p + 1) xs.length).toNat 0 + [0, 0, 1, -1].getD (pickV bs (p + 1 + 1) 4).toNat 0, p + 1 + 1 + 1)
  else ([pickV bs (p + 1) 100, pickV bs (p + 1 + 1) 100, 0, 99, 100, -1].getD (pickV bs (p + 1 + 1 + 1) 6).toNat 0, p + 1 + 1 + 1 + 1)
section
variable {bs xs : List Int} {p : Int}
theorem keyV_e (h : xs.length = 0) : keyV bs p xs = ([pickV bs p 100, pickV bs (p + 1) 100, 0, 99, 100, -1].getD (pickV bs (p + 1 + 1) 6).toNat 0, p + 1 + 1 + 1) := by unfold keyV; rw [if_pos h]
theorem keyV_t (h : xs.length ≠ 0) (h1 : 0 < pickV bs p 3) : keyV bs p xs = (xs.getD (pickV bs (p + 1) xs.length).toNat 0 + [0, 0, 1, -1].getD (pickV bs (p + 1 + 1) 4).toNat 0, p + 1 + 1 + 1) := by unfold keyV; rw [if_neg h, if_pos h1]
theorem keyV_f (h : xs.length ≠ 0) (h1 : ¬ 0 < pickV bs p 3) : keyV bs p xs = ([pickV bs (p + 1) 100, pickV bs (p + 1 + 1) 100, 0, 99, 100, -1].getD (pickV bs (p + 1 + 1 + 1) 6).toNat 0, p + 1 + 1 + 1 + 1) := by unfold keyV; rw [if_neg h, if_neg h1]
end

theorem getD4_bd (i : Nat) : -1 ≤ [0, 0, 1, -1].getD i (0 : Int) ∧ [0, 0, 1, -1].getD i (0 : Int) ≤ 1 := by
  rcases i with _ | _ | _ | _ | i <;> simp

theorem keyV_bd {bs xs : List Int} {p : Int} (hB : Bs bs) (hp0 : 0 ≤ p) (hp1 : p ≤ 90000) (hx : allR xs (-1) 200 = true) : -2 ≤ (keyV bs p xs).1 ∧ (keyV bs p xs).1 ≤ 201 ∧ p ≤ (keyV bs p xs).2 ∧ (keyV bs p xs).2 ≤ p + 4 := by
  have q : ∀ q, 0 ≤ q → q ≤ 100000 → 0 ≤ pickV bs q 100 ∧ pickV bs q 100 < 100 := fun q h1 h2 => ⟨pickV_nn hB h1 (by omega), pickV_lt hB (by omega)⟩
  have l6 : ∀ (a b : Int) (i : Nat), 0 ≤ a → a < 100 → 0 ≤ b → b < 100 → -2 ≤ [a, b, 0, 99, 100, -1].getD i 0 ∧ [a, b, 0, 99, 100, -1].getD i 0 ≤ 201 := by
    intro a b i _ _ _ _
    rcases i with _ | _ | _ | _ | _ | _ | i <;> simp <;> omega
  have q0 := q p (by omega) (by omega)
  have q1 := q (p + 1) (by omega) (by omega)
  have q2 := q (p + 1 + 1) (by omega) (by omega)
  unfold keyV
  split
  · have := l6 _ _ (pickV bs (p + 1 + 1) 6).toNat q0.1 q0.2 q1.1 q1.2
    exact ⟨this.1, this.2, by simp; try omega, by simp; try omega⟩
  · split
    · have a1 := pickV_nn hB (p := p + 1) (by omega) (by omega) (n := xs.length)
      have a2 := pickV_lt hB (p := p + 1) (n := xs.length) (by omega)
      have a3 := allR_get.1 hx (pickV bs (p + 1) xs.length).toNat (by omega)
      have a4 := getD4_bd (pickV bs (p + 1 + 1) 4).toNat
      refine ⟨?_, ?_, by simp; try omega, by simp; try omega⟩ <;> dsimp only <;> omega
    · have := l6 _ _ (pickV bs (p + 1 + 1 + 1) 6).toNat q1.1 q1.2 q2.1 q2.2
      exact ⟨this.1, this.2, by simp; try omega, by simp; try omega⟩

noncomputable def mKeyNear : Model := M2 .io .ro false cRd (cIs false) fun r xs => gd (Bs r.bs ∧ 0 ≤ r.p ∧ r.p ≤ 90000 ∧ xs.length ≤ 1000 ∧ allR xs (-1) 200 = true) (eI (keyV r.bs r.p xs).1, [[eBs false r.bs, eI (keyV r.bs r.p xs).2]])

theorem does_keyNear {G : Nat → Option FM} (h_pick : G 81 = some (.model mPick)) (h_one : G 113 = some (.model mOne)) : Does T G (fun id => match id with | 2 => [(4, 8), (8, 4), (8, 5), (8, 6), (9, 5), (9, 6)] | _ => []) Try.f101 mKeyNear := by
  refine does2 (rs := [.tmp 4]) rfl rfl fun r xs ro h => ?_
  obtain ⟨⟨hB, hp0, hp1, hl, hx⟩, rfl⟩ := gd_some h
  have a1 := pickV_nn hB (p := r.p + 1) (by omega) (by omega) (n := xs.length)
  have a4 := getD4_bd (pickV r.bs (r.p + 1 + 1) ((4 : Nat) : Int)).toNat
  refine ⟨fun hc => (by cases hc), ?_⟩
  simp (config := {maxSteps := 1000000}) (disch := omega) only [go_sem, ↓reduceIte, Nat.reduceEqDiff, Nat.reduceAdd, Nat.reduceMul, Nat.reduceSub, Nat.reduceLeDiff, Nat.reduceLT, Int.reduceToNat, Int.reduceLE, Int.reduceLT, Int.reduceNeg, h_pick, mPick, h_one, mOne]
  (first | refine runKS_split (fun h1 => ?_) (fun h1 => ?_) | refine cond_split (fun h1 => ?_) (fun h1 => ?_) | refine runK_split (fun h1 => ?_) (fun h1 => ?_))
  · have h1' := of_decide_eq_true h1
    have a2 := pickV_lt hB (p := r.p + 1) (n := xs.length) (by omega)
    have a3 := allR_get.1 hx (pickV r.bs (r.p + 1) xs.length).toNat (by omega)
    simp (config := {maxSteps := 1000000}) (disch := omega) only [go_sem, ↓reduceIte, Nat.reduceEqDiff, Nat.reduceAdd, Nat.reduceMul, Nat.reduceSub, Nat.reduceLeDiff, Nat.reduceLT, Int.reduceToNat, Int.reduceLE, Int.reduceLT, Int.reduceNeg, h_pick, mPick, h_one, mOne, h1, hB]
    (first | refine runKS_split (fun h2 => ?_) (fun h2 => ?_) | refine cond_split (fun h2 => ?_) (fun h2 => ?_) | refine runK_split (fun h2 => ?_) (fun h2 => ?_))
    · have h2' := of_decide_eq_true h2
      simp (config := {maxSteps := 1000000}) (disch := omega) only [go_sem, ↓reduceIte, Nat.reduceEqDiff, Nat.reduceAdd, Nat.reduceMul, Nat.reduceSub, Nat.reduceLeDiff, Nat.reduceLT, Int.reduceToNat, Int.reduceLE, Int.reduceLT, Int.reduceNeg, h_pick, mPick, h_one, mOne, h1, h2, hB]
      refine ⟨?_, ?_⟩
      · rfl
      · rw [keyV_t (by omega) h2']
        rfl
    · have h2' := of_decide_eq_false h2
      simp (config := {maxSteps := 1000000}) (disch := omega) only [go_sem, ↓reduceIte, Nat.reduceEqDiff, Nat.reduceAdd, Nat.reduceMul, Nat.reduceSub, Nat.reduceLeDiff, Nat.reduceLT, Int.reduceToNat, Int.reduceLE, Int.reduceLT, Int.reduceNeg, h_pick, mPick, h_one, mOne, h1, h2, hB]
      rw [keyV_f (by omega) h2']
      rfl
  · have h1' := of_decide_eq_false h1
    simp (config := {maxSteps := 1000000}) (disch := omega) only [go_sem, ↓reduceIte, Nat.reduceEqDiff, Nat.reduceAdd, Nat.reduceMul, Nat.reduceSub, Nat.reduceLeDiff, Nat.reduceLT, Int.reduceToNat, Int.reduceLE, Int.reduceLT, Int.reduceNeg, h_pick, mPick, h_one, mOne, h1, hB]
    rw [keyV_e (by omega)]
    rfl
theorem fo_keyNear : FnOk Try.prog 101 := fnOk_of Try.func101 (by kernel_rfl)
theorem c_keyNear : Contract Try.prog 101 mKeyNear :=
  contract_of_does (DT := fun id => match id with | 2 => [(4, 8), (8, 4), (8, 5), (8, 6), (9, 5), (9, 6)] | _ => []) Try.checked.mixed tabOk (gok_model fo_pick c_pick (gok_model fo_one c_one gok_nil)) Try.func101 rfl (by kernel_rfl) (does_keyNear rfl rfl)


/-- What is drawn: keys; a key. -/
def drawY (bs : List Int) : List Int := (someV (bs.take 2000) 0).2.1
def drawK (bs : List Int) : Int := (keyV (bs.take 2000) (someV (bs.take 2000) 0).2.2 (someV (bs.take 2000) 0).2.1).1
theorem draw_bd {bs : List Int} (hB : Bs (bs.take 2000)) : allR (drawY bs) (-1) 200 = true ∧ (drawY bs).length ≤ 13 ∧ -2 ≤ drawK bs ∧ drawK bs ≤ 201 := by
  have b := someV_bd hB (p := 0) (by omega) (by omega)
  have k := keyV_bd hB (p := (someV (bs.take 2000) 0).2.2) (by omega) (by omega) b.1
  exact ⟨b.1, b.2.1, k.1, k.2.1⟩

noncomputable def mDrawKeys : Model := M1 .ro false (cS false c8) fun bs => gd (bs.length ≤ 1099511627776 ∧ Bs (bs.take 2000)) (eIs false (drawY bs), [])
noncomputable def mDrawKey : Model := M1 .ro false (cS false c8) fun bs => gd (bs.length ≤ 1099511627776 ∧ Bs (bs.take 2000)) (.tup [eIs false (drawY bs), eI (drawK bs)], [])

theorem does_DrawValidKeys {G : Nat → Option FM} (h_newReader : G 80 = some (.model mNewReader)) (h_SomeKeysF : G 94 = some (.model mSomeKeysF)) : Does T G (fun _ => []) Try.f43 mDrawKeys := by
  refine does1 (rs := [.tmp 2]) rfl rfl fun bs ro h => ?_
  obtain ⟨⟨hl, hB⟩, rfl⟩ := gd_some h
  refine ⟨fun hc => (by cases hc), ?_⟩
  unfold drawY
  simp (config := {maxSteps := 1000000}) (disch := omega) only [go_sem, ↓reduceIte, Nat.reduceEqDiff, Nat.reduceAdd, Nat.reduceMul, Nat.reduceSub, Nat.reduceLeDiff, Nat.reduceLT, Int.reduceToNat, Int.reduceLE, Int.reduceLT, Int.reduceNeg, h_newReader, mNewReader, h_SomeKeysF, mSomeKeysF, hB]
theorem fo_DrawValidKeys : FnOk Try.prog 43 := fnOk_of Try.func43 (by kernel_rfl)
theorem c_DrawValidKeys : Contract Try.prog 43 mDrawKeys :=
  contract_of_does (DT := fun _ => []) Try.checked.mixed tabOk (gok_model fo_newReader c_newReader (gok_model fo_SomeKeysF c_SomeKeysF gok_nil)) Try.func43 rfl (by kernel_rfl) (does_DrawValidKeys rfl rfl)


theorem does_DrawKeysBelow {G : Nat → Option FM} (h_newReader : G 80 = some (.model mNewReader)) (h_SomeKeysF : G 94 = some (.model mSomeKeysF)) (h_keyNear : G 101 = some (.model mKeyNear)) : Does T G (fun _ => []) Try.f54 mDrawKey := by
  refine does1 (rs := [.tmp 2, .tmp 3]) rfl rfl fun bs ro h => ?_
  obtain ⟨⟨hl, hB⟩, rfl⟩ := gd_some h
  have b := someV_bd hB (p := 0) (by omega) (by omega)
  have hx := b.1
  refine ⟨fun hc => (by cases hc), ?_⟩
  unfold drawY drawK
  simp (config := {maxSteps := 1000000}) (disch := omega) only [go_sem, ↓reduceIte, Nat.reduceEqDiff, Nat.reduceAdd, Nat.reduceMul, Nat.reduceSub, Nat.reduceLeDiff, Nat.reduceLT, Int.reduceToNat, Int.reduceLE, Int.reduceLT, Int.reduceNeg, h_newReader, mNewReader, h_SomeKeysF, mSomeKeysF, h_keyNear, mKeyNear, hB, hx]
theorem fo_DrawKeysBelow : FnOk Try.prog 54 := fnOk_of Try.func54 (by kernel_rfl)
theorem c_DrawKeysBelow : Contract Try.prog 54 mDrawKey :=
  contract_of_does (DT := fun _ => []) Try.checked.mixed tabOk (gok_model fo_newReader c_newReader (gok_model fo_SomeKeysF c_SomeKeysF (gok_model fo_keyNear c_keyNear gok_nil))) Try.func54 rfl (by kernel_rfl) (does_DrawKeysBelow rfl rfl rfl)


theorem does_DrawKeysUpTo {G : Nat → Option FM} (h_DrawKeysBelow : G 54 = some (.model mDrawKey)) : Does T G (fun _ => []) Try.f58 mDrawKey := by
  refine does1 (rs := [.tmp 2, .tmp 3]) rfl rfl fun bs ro h => ?_
  obtain ⟨⟨hl, hB⟩, rfl⟩ := gd_some h
  refine ⟨fun hc => (by cases hc), ?_⟩
  simp (config := {maxSteps := 1000000}) (disch := omega) only [go_sem, ↓reduceIte, Nat.reduceEqDiff, Nat.reduceAdd, Nat.reduceMul, Nat.reduceSub, Nat.reduceLeDiff, Nat.reduceLT, Int.reduceToNat, Int.reduceLE, Int.reduceLT, Int.reduceNeg, h_DrawKeysBelow, mDrawKey, hB]
theorem fo_DrawKeysUpTo : FnOk Try.prog 58 := fnOk_of Try.func58 (by kernel_rfl)
theorem c_DrawKeysUpTo : Contract Try.prog 58 mDrawKey :=
  contract_of_does (DT := fun _ => []) Try.checked.mixed tabOk (gok_model fo_DrawKeysBelow c_DrawKeysBelow gok_nil) Try.func58 rfl (by kernel_rfl) (does_DrawKeysUpTo rfl)

end Go.TM
