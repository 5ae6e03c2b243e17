/- Contracts, 53: a leaf of pairs; the loader. -/
import Derived.Test.YtbpfagbihffmbaaF57
namespace Go.TM
open Go.Proofs
set_option linter.unusedVariables false
set_option linter.unusedSimpArgs false
set_option maxRecDepth 100000
set_option maxHeartbeats 4000000

def mValsOf : Model := M1 .ro true (cRow false) fun xs => gd (xs.length ≤ 1099511627776) (eIs true (xs.map (·.2)), [])
def mLeafOf : Model := M1 .ro true (cRow false) fun xs => gd (xs.length ≤ 1099511627776) (ePage true (leafP xs), [])
theorem vals_step {xs : List Pr} {k : Nat} (h : k < xs.length) : (xs.take k).map (·.2) ++ [(xs.getD k default).2] = (xs.take (k + 1)).map (·.2) := by
  rw [map_take_succ h]; simp [h]

theorem does_valuesOfRow {G : Nat → Option FM}  : Does T G (fun id => match id with  | _ => []) Try.f128 mValsOf := by
  refine does1 (rs := [.tmp 2]) rfl rfl fun xs ro h => ?_
  obtain ⟨hs, rfl⟩ := gd_some h
  refine ⟨fun _ => ⟨by simp only [cleanA]; exact clean_ints _, rfl⟩, ?_⟩
  clear h
  simp (config := {maxSteps := 1000000}) (disch := omega) only [go_sem, ↓reduceIte, Nat.reduceEqDiff, Nat.reduceAdd, Nat.reduceMul, Nat.reduceSub, Nat.reduceLeDiff, Nat.reduceLT, Int.reduceToNat, Int.reduceLE, Int.reduceLT, Int.reduceNeg, drP_n, drP_c, logAt_n, logAt_c, disP_n, disP_c, notIn_n, notIn_c, rep_eI]
  refine W_loop_i (fun s => s.sl 0 = eRow false xs ∧ s.sl 9 = eRow false xs ∧ s.sl 10 = eI xs.length ∧ ∃ m, m < s.n ∧ s.sl 3 = .ref (m, 0) [] 0 0 1 xs.length ∧ ∃ k : Nat, k ≤ xs.length ∧ s.sl 11 = eI k ∧ ∃ ys : List Int, ys.length = xs.length ∧ (∀ i, i < k → ys.getD i 0 = (xs.getD i default).2) ∧ s.hp (m, 0) = some ⟨1, xs.length, ys.map eI, fun _ => 0⟩) (fun s => xs.length - iN (s.sl 11)) ?_ ?_
  · refine ⟨rfl, rfl, rfl, _, ?_, rfl, 0, Nat.zero_le _, rfl, List.replicate xs.length 0, by simp, fun i hi => by omega, ?_⟩
    · simp (config := {maxSteps := 1000000}) (disch := omega) only [go_sem, ↓reduceIte, Nat.reduceEqDiff, Nat.reduceAdd, Nat.reduceMul, Nat.reduceSub, Nat.reduceLeDiff, Nat.reduceLT, Int.reduceToNat, Int.reduceLE, Int.reduceLT, Int.reduceNeg, drP_n, drP_c, logAt_n, logAt_c, disP_n, disP_c, notIn_n, notIn_c]
    · simp (config := {maxSteps := 1000000}) (disch := omega) only [go_sem, ↓reduceIte, Nat.reduceEqDiff, Nat.reduceAdd, Nat.reduceMul, Nat.reduceSub, Nat.reduceLeDiff, Nat.reduceLT, Int.reduceToNat, Int.reduceLE, Int.reduceLT, Int.reduceNeg, drP_n, drP_c, logAt_n, logAt_c, disP_n, disP_c, notIn_n, notIn_c]
  · rintro sl hp n ⟨h0, h9, h10, m, hm, h3, k, hk, h11, ys, hy, hall, hh⟩
    dsimp only at h0 h9 h10 h3 h11 hh hm
    simp (config := {maxSteps := 1000000}) (disch := omega) only [go_sem, ↓reduceIte, Nat.reduceEqDiff, Nat.reduceAdd, Nat.reduceMul, Nat.reduceSub, Nat.reduceLeDiff, Nat.reduceLT, Int.reduceToNat, Int.reduceLE, Int.reduceLT, Int.reduceNeg, drP_n, drP_c, logAt_n, logAt_c, disP_n, disP_c, notIn_n, notIn_c, h0, h9, h10, h3, h11]
    (first | refine runKS_split (fun h => ?_) (fun h => ?_) | refine cond_split (fun h => ?_) (fun h => ?_) | refine runK_split (fun h => ?_) (fun h => ?_))
    · have hlt := of_decide_eq_true h
      simp (config := {maxSteps := 1000000}) (disch := omega) only [go_sem, ↓reduceIte, Nat.reduceEqDiff, Nat.reduceAdd, Nat.reduceMul, Nat.reduceSub, Nat.reduceLeDiff, Nat.reduceLT, Int.reduceToNat, Int.reduceLE, Int.reduceLT, Int.reduceNeg, drP_n, drP_c, logAt_n, logAt_c, disP_n, disP_c, notIn_n, notIn_c, h0, h9, h10, h3, h11, h, hh, ePr]
      exact ⟨⟨m, by omega, rfl, k + 1, by omega, rfl, ys.set k (xs.getD k default).2, by simp [hy], set_step (fun i => (xs.getD i default).2) (by omega) hall, upd_same ..⟩, by omega⟩
    · have hge := of_decide_eq_false h
      simp (config := {maxSteps := 1000000}) (disch := omega) only [go_sem, ↓reduceIte, Nat.reduceEqDiff, Nat.reduceAdd, Nat.reduceMul, Nat.reduceSub, Nat.reduceLeDiff, Nat.reduceLT, Int.reduceToNat, Int.reduceLE, Int.reduceLT, Int.reduceNeg, drP_n, drP_c, logAt_n, logAt_c, disP_n, disP_c, notIn_n, notIn_c, h0, h3, h11, h, hh]
      rw [show ys = xs.map (·.2) from list_ext (d := 0) (by simp [hy]) fun i hi => by
        rw [List.length_map] at hi
        rw [hall i (by omega)]
        simp [hi]]
      simp
theorem fo_valuesOfRow : FnOk Try.prog 128 := fnOk_of Try.func128 (by kernel_rfl)
theorem c_valuesOfRow : Contract Try.prog 128 mValsOf :=
  contract_of_does (DT := fun id => match id with  | _ => []) Try.checked.mixed tabOk gok_nil Try.func128 rfl (by kernel_rfl) (does_valuesOfRow )


theorem page1_eq {a b c : Nat} {x y z : List Int} (ha : a = x.length) (hb : b = y.length) (hc : c = z.length) : some (A.agg [.s true 1 a (x.map eI), .s true 1 b (y.map eI), .s true 1 c (z.map eI)], ([] : List (List A))) = some (ePage true ⟨x, y, z⟩, []) := by subst ha; subst hb; subst hc; rfl

theorem does_leafOfI {G : Nat → Option FM} (h_keysOfRow : G 127 = some (.model mKeysOf)) (h_valuesOfRow : G 128 = some (.model mValsOf)) : Does T G (fun id => match id with  | _ => []) Try.f73 mLeafOf := by
  refine does1 (rs := [.cell 2 85]) rfl rfl fun xs ro h => ?_
  obtain ⟨hs, rfl⟩ := gd_some h
  refine ⟨fun _ => ⟨clean_page _, rfl⟩, ?_⟩
  clear h
  simp (config := {maxSteps := 1000000}) (disch := omega) only [go_sem, ↓reduceIte, Nat.reduceEqDiff, Nat.reduceAdd, Nat.reduceMul, Nat.reduceSub, Nat.reduceLeDiff, Nat.reduceLT, Int.reduceToNat, Int.reduceLE, Int.reduceLT, Int.reduceNeg, h_keysOfRow, mKeysOf, h_valuesOfRow, mValsOf, drP_n, drP_c, logAt_n, logAt_c, disP_n, disP_c, notIn_n, notIn_c]
  exact page1_eq (y := []) rfl rfl (by simp)
theorem fo_leafOfI : FnOk Try.prog 73 := fnOk_of Try.func73 (by kernel_rfl)
theorem c_leafOfI : Contract Try.prog 73 mLeafOf :=
  contract_of_does (DT := fun id => match id with  | _ => []) Try.checked.mixed tabOk (gok_model fo_keysOfRow c_keysOfRow (gok_model fo_valuesOfRow c_valuesOfRow gok_nil)) Try.func73 rfl (by kernel_rfl) (does_leafOfI rfl rfl)


theorem does_leafOfS {G : Nat → Option FM} (h_keysOf : G 104 = some (.model mKeysOf)) : Does T G (fun id => match id with | 5 => [(7, 0), (7, 1)] | _ => []) Try.f107 mLeafOf := by
  refine does1 (rs := [.cell 2 85]) rfl rfl fun xs ro h => ?_
  obtain ⟨hs, rfl⟩ := gd_some h
  refine ⟨fun _ => ⟨clean_page _, rfl⟩, ?_⟩
  clear h
  have kl := keysP_len xs
  simp (config := {maxSteps := 1000000}) (disch := omega) only [go_sem, ↓reduceIte, Nat.reduceEqDiff, Nat.reduceAdd, Nat.reduceMul, Nat.reduceSub, Nat.reduceLeDiff, Nat.reduceLT, Int.reduceToNat, Int.reduceLE, Int.reduceLT, Int.reduceNeg, h_keysOf, mKeysOf, drP_n, drP_c, logAt_n, logAt_c, disP_n, disP_c, notIn_n, notIn_c]
  refine W_loop_i (fun s => s.sl 0 = eRow false xs ∧ s.sl 2 = .ptr (3, 0) [] 0 0 ∧ s.sl 3 = .ptr (9, 0) [] 0 0 ∧ s.hp (3, 0) = some ⟨3, 1, [.s true 1 0 [], .s true 1 0 [], .s true 1 0 []], fun _ => 0⟩ ∧ 9 < s.n ∧ ∃ k : Nat, k ≤ xs.length ∧ s.sl 4 = eI k ∧ ∃ v, s.hp (9, 0) = some ⟨3, 1, [eIs true (keysP xs), .s true 1 0 [], .s true 1 k (((xs.take k).map (·.2)).map eI)], v⟩) (fun s => xs.length - iN (s.sl 4)) ?_ ?_
  · exact ⟨rfl, rfl, rfl, rfl, by dsimp only [St.n]; omega, 0, Nat.zero_le _, rfl, _, rfl⟩
  · rintro sl hp q ⟨h0, h2, h3, hh3, hq, k, hk, h4, v, hh9⟩
    dsimp only at h0 h2 h3 hh3 hq h4 hh9
    simp (config := {maxSteps := 1000000}) (disch := omega) only [go_sem, ↓reduceIte, Nat.reduceEqDiff, Nat.reduceAdd, Nat.reduceMul, Nat.reduceSub, Nat.reduceLeDiff, Nat.reduceLT, Int.reduceToNat, Int.reduceLE, Int.reduceLT, Int.reduceNeg, h_keysOf, mKeysOf, drP_n, drP_c, logAt_n, logAt_c, disP_n, disP_c, notIn_n, notIn_c, h0, h2, h3, hh3, h4]
    (first | refine runKS_split (fun g1 => ?_) (fun g1 => ?_) | refine cond_split (fun g1 => ?_) (fun g1 => ?_) | refine runK_split (fun g1 => ?_) (fun g1 => ?_))
    · have g1' := of_decide_eq_true g1
      have hlt : ((xs.take k).map (·.2)).length = k := by rw [List.length_map, List.length_take]; omega
      have vs := vals_step (xs := xs) (k := k) (by omega)
      simp (config := {maxSteps := 1000000}) (disch := omega) only [go_sem, ↓reduceIte, Nat.reduceEqDiff, Nat.reduceAdd, Nat.reduceMul, Nat.reduceSub, Nat.reduceLeDiff, Nat.reduceLT, Int.reduceToNat, Int.reduceLE, Int.reduceLT, Int.reduceNeg, h_keysOf, mKeysOf, drP_n, drP_c, logAt_n, logAt_c, disP_n, disP_c, notIn_n, notIn_c, h0, h2, h3, hh3, hh9, h4, g1, ePr, app_I', vs]
      exact ⟨⟨k + 1, by omega, rfl, _, rfl⟩, by omega⟩
    · have g1' := of_decide_eq_false g1
      obtain rfl : k = xs.length := by omega
      rw [List.take_length] at hh9
      simp (config := {maxSteps := 1000000}) (disch := omega) only [go_sem, ↓reduceIte, Nat.reduceEqDiff, Nat.reduceAdd, Nat.reduceMul, Nat.reduceSub, Nat.reduceLeDiff, Nat.reduceLT, Int.reduceToNat, Int.reduceLE, Int.reduceLT, Int.reduceNeg, h_keysOf, mKeysOf, drP_n, drP_c, logAt_n, logAt_c, disP_n, disP_c, notIn_n, notIn_c, h0, h2, h3, hh3, hh9, h4, g1]
      exact page1_eq (y := []) rfl rfl (by simp)
theorem fo_leafOfS : FnOk Try.prog 107 := fnOk_of Try.func107 (by kernel_rfl)
theorem c_leafOfS : Contract Try.prog 107 mLeafOf :=
  contract_of_does (DT := fun id => match id with | 5 => [(7, 0), (7, 1)] | _ => []) Try.checked.mixed tabOk (gok_model fo_keysOf c_keysOf gok_nil) Try.func107 rfl (by kernel_rfl) (does_leafOfS rfl)


/-! ### The loader -/

structure Ld where
  parts : List (List Pr)
  pages : List Pg
def cLd : Cod Ld where
  e l := .agg [(cS true (cRow false)).e l.parts, ePgs true l.pages]
  d a := ((c2 (cS true (cRow false)) (cPgs true)).d a).map fun x => ⟨x.1, x.2⟩
  de l := by rw [show A.agg [(cS true (cRow false)).e l.parts, ePgs true l.pages] = (c2 (cS true (cRow false)) (cPgs true)).e (l.parts, l.pages) from rfl, (c2 (cS true (cRow false)) (cPgs true)).de]; rfl
  ed a l h := by
    rw [Option.map_eq_some_iff] at h
    obtain ⟨x, h1, h2⟩ := h
    rw [(c2 (cS true (cRow false)) (cPgs true)).ed _ _ h1, ← h2]; rfl
theorem cLd_e (l : Ld) : cLd.e l = .agg [.s true 1 l.parts.length (l.parts.map (eRow false)), .s true 3 l.pages.length (l.pages.flatMap (ePg true))] := rfl
theorem cLd_d {a b : Nat} {ps : List (List Pr)} {gs : List Pg} (h : a = ps.length ∧ b = gs.length) : cLd.d (.agg [.s true 1 a (ps.map (eRow false)), .s true 3 b (gs.flatMap (ePg true))]) = some ⟨ps, gs⟩ := by
  obtain ⟨rfl, rfl⟩ := h
  exact cLd.de ⟨ps, gs⟩
attribute [go_sem] cLd_e cLd_d
def ldOk (l : Ld) : Prop := l.parts.length ≤ 100 ∧ l.pages.length ≤ 100 ∧ ∀ p ∈ l.parts, p.length ≤ 100
noncomputable instance (l : Ld) : Decidable (ldOk l) := Classical.propDecidable _
end Go.TM
