/- Contracts, 40: lists, and a pair put into a row. -/
import Derived.Test.YtbpfagbihffmbaaF7
import Derived.Test.YtbpfagbihffmbaaTmD
namespace Go.TM
open Go.Proofs
set_option linter.unusedVariables false
set_option linter.unusedSimpArgs false
set_option maxRecDepth 100000

theorem cntB_ok {xs : List Int} {k : Int} (h : VK xs) : cntB xs k ≤ xs.length ∧ (∀ i, i < cntB xs k → xs.getD i 0 < k) ∧ ∀ i, cntB xs k ≤ i → i < xs.length → k ≤ xs.getD i 0 := by
  have hle : cntB xs k ≤ xs.length := (List.takeWhile_prefix _).length_le
  refine ⟨hle, fun i hi => ?_, fun i hi hl => ?_⟩
  · have : ∀ (ys : List Int) (i : Nat), i < (ys.takeWhile fun x => decide (x < k)).length → ys.getD i 0 < k := by
      intro ys
      induction ys with
      | nil => intro i hi; simp at hi
      | cons y ys ih =>
        intro i hi
        rw [List.takeWhile_cons] at hi
        split at hi
        · rename_i hy
          cases i with
          | zero => simpa using hy
          | succ i => simpa using ih i (by simpa using hi)
        · simp at hi
    exact this xs i hi
  · have hc : ∀ (ys : List Int) (hl : (ys.takeWhile fun x => decide (x < k)).length < ys.length), k ≤ ys.getD (ys.takeWhile fun x => decide (x < k)).length 0 := by
      intro ys
      induction ys with
      | nil => intro hl; simp at hl
      | cons y ys ih =>
        intro hl
        rw [List.takeWhile_cons] at hl ⊢
        split at hl
        · rename_i hy
          rw [if_pos hy]
          simpa using ih (by simpa using hl)
        · rename_i hy
          rw [if_neg hy]
          simp at hy
          simpa using hy
    have h1 := hc xs (by simp only [cntB] at hi; omega)
    have h2 := vk_mono' h hi hl
    exact Int.le_trans h1 h2

theorem cntB_uniq {xs : List Int} {k : Int} {c : Nat} (hc : c ≤ xs.length) (h1 : ∀ i, i < c → xs.getD i 0 < k) (h2 : c < xs.length → k ≤ xs.getD c 0) : cntB xs k = c :=
  takeWhile_len hc (fun i hi => by simpa using h1 i hi) (fun hl => by simpa using h2 hl)

theorem cntU_succ (xs : List Int) (k : Int) : cntU xs k = cntB xs (k + 1) := by
  unfold cntU cntB
  congr 1
  congr 1
  funext x
  rw [decide_eq_decide]
  omega

theorem cntB_next {xs : List Int} {k : Int} (h : VK xs) : cntB xs (k + 1) = cntB xs k + if k ∈ xs then 1 else 0 := by
  obtain ⟨a1, a2, a3⟩ := cntB_ok (k := k) h
  by_cases hm : k ∈ xs
  · rw [if_pos hm]
    obtain ⟨j, hj, he⟩ := List.getElem_of_mem hm
    have he' : xs.getD j 0 = k := by simpa [hj] using he
    have hjc : cntB xs k ≤ j := by
      rcases Nat.lt_or_ge j (cntB xs k) with hlt | hge
      · have := a2 j hlt; omega
      · exact hge
    have hc0 : xs.getD (cntB xs k) 0 = k := by
      have h1 := a3 _ (Nat.le_refl _) (by omega)
      have h2 := vk_mono' h hjc hj
      omega
    refine cntB_uniq (by omega) (fun i hi => ?_) (fun hl => ?_)
    · have := vk_mono' h (show i ≤ cntB xs k by omega) (by omega)
      omega
    · have := h.1 (cntB xs k) hl
      omega
  · rw [if_neg hm]
    refine cntB_uniq (by omega) (fun i hi => by have := a2 i hi; omega) (fun hl => ?_)
    rw [Nat.add_zero] at hl ⊢
    have h1 := a3 _ (Nat.le_refl _) hl
    have h2 : xs.getD (cntB xs k) 0 ≠ k := fun e => hm (by rw [← e]; exact getD_mem hl)
    omega

theorem cntB_zero {xs : List Int} (h : VK xs) : cntB xs 0 = 0 := cntB_uniq (Nat.zero_le _) (fun i hi => by omega) (fun hl => (h.2 0 hl).1)
theorem cntB_all {xs : List Int} (h : VK xs) : cntB xs 100 = xs.length := cntB_uniq (Nat.le_refl _) (fun i hi => by have := (h.2 i hi).2; omega) (fun hl => by omega)

theorem getD_app {xs ys : List Int} (i : Nat) : (xs ++ ys).getD i 0 = if i < xs.length then xs.getD i 0 else ys.getD (i - xs.length) 0 := by
  split
  · rename_i h
    simp [List.getElem?_append_left h]
  · rename_i h
    simp [List.getElem?_append_right (Nat.le_of_not_lt h)]
theorem getD_take {xs : List Int} {k i : Nat} (h : i < k) : (xs.take k).getD i 0 = xs.getD i 0 := by simp [List.getElem?_take, h]
theorem getD_drop (xs : List Int) (k i : Nat) : (xs.drop k).getD i 0 = xs.getD (k + i) 0 := by simp [List.getElem?_drop]
theorem sub_rest (xs : List Int) (k : Nat) : sub xs k (xs.length - k) = xs.drop k := by
  unfold sub
  exact List.take_of_length_le (by rw [List.length_drop]; omega)
theorem toNat_k1 (k : Nat) : ((k : Int) + 1).toNat = k + 1 := by omega
theorem app_P {xs : List Pr} {k : Nat} {a b : Int} (h : xs.length = k) : (xs.flatMap ePr).take (k * 2) ++ [A.i .i64 a, A.i .i64 b] = (xs ++ [(a, b)]).flatMap ePr := by
  rw [List.take_of_length_le (by rw [flatPr_len]; omega)]
  simp [List.flatMap_append, ePr]
theorem app_PP {xs ys : List Pr} {k : Nat} (h : xs.length = k) : (xs.flatMap ePr).take (k * 2) ++ ys.flatMap ePr = (xs ++ ys).flatMap ePr := by
  rw [List.take_of_length_le (by rw [flatPr_len]; omega)]
  simp [List.flatMap_append]
theorem sub_restP (xs : List Pr) (k : Nat) : sub xs k (xs.length - k) = xs.drop k := by
  unfold sub
  exact List.take_of_length_le (by rw [List.length_drop]; omega)

def putV (xs : List Pr) (x : Pr) : List Pr :=
  xs.take (cntB (keysP xs) x.1) ++ [x] ++ xs.drop (if cntB (keysP xs) x.1 < xs.length ∧ (xs.getD (cntB (keysP xs) x.1) default).1 = x.1 then cntB (keysP xs) x.1 + 1 else cntB (keysP xs) x.1)

theorem putV_t {xs : List Pr} {a b : Int} (h1 : cntB (keysP xs) a < xs.length) (h2 : (xs.getD (cntB (keysP xs) a) default).1 = a) : putV xs (a, b) = xs.take (cntB (keysP xs) a) ++ (a, b) :: xs.drop (cntB (keysP xs) a + 1) := by
  unfold putV
  rw [if_pos ⟨h1, h2⟩]
  simp
theorem putV_f {xs : List Pr} {a b : Int} (h : ¬ (cntB (keysP xs) a < xs.length ∧ (xs.getD (cntB (keysP xs) a) default).1 = a)) : putV xs (a, b) = xs.take (cntB (keysP xs) a) ++ (a, b) :: xs.drop (cntB (keysP xs) a) := by
  unfold putV
  rw [if_neg h]
  simp
theorem putV_len (xs : List Pr) (x : Pr) : (putV xs x).length ≤ xs.length + 1 := by
  have hc : cntB (keysP xs) x.1 ≤ (keysP xs).length := (List.takeWhile_prefix _).length_le
  have hkl : (keysP xs).length = xs.length := by simp [keysP]
  unfold putV
  split <;> simp <;> omega
theorem row_eq {n : Nat} {ys : List Pr} (h : n = ys.length) : some (A.s true 2 n (ys.flatMap ePr), ([] : List (List A))) = some (eRow true ys, []) := by subst h; rfl

def mCopyRow : Model := M1 .ro true (cRow false) fun xs => gd (xs.length ≤ 1099511627776) (eRow true xs, [])
def mPut : Model := M2 .ro .ro true (cRow false) cPair fun xs x => gd (xs.length ≤ 549755813888) (eRow true (putV xs x), [])

theorem does_copyRow {G : Nat → Option FM}  : Does T G (fun id => match id with  | _ => []) Try.f152 mCopyRow := by
  refine does1 (rs := [.tmp 2]) rfl rfl fun xs ro h => ?_
  obtain ⟨hs, rfl⟩ := gd_some h
  refine ⟨fun _ => ⟨by simp [cleanA, clean_row], rfl⟩, ?_⟩
  simp (config := {maxSteps := 1000000}) (disch := omega) only [go_sem, ↓reduceIte, Nat.reduceEqDiff, Nat.reduceAdd, Nat.reduceMul, Nat.reduceSub, Nat.reduceLeDiff, Nat.reduceLT, Int.reduceToNat, Int.reduceLE, Int.reduceLT, Int.reduceNeg]
theorem fo_copyRow : FnOk Try.prog 152 := fnOk_of Try.func152 (by kernel_rfl)
theorem c_copyRow : Contract Try.prog 152 mCopyRow :=
  contract_of_does (DT := fun id => match id with  | _ => []) Try.checked.mixed tabOk gok_nil Try.func152 rfl (by kernel_rfl) (does_copyRow )


theorem does_put {G : Nat → Option FM} (h_keysOf : G 104 = some (.model mKeysOf)) (h_below : G 147 = some (.model mBelow)) (h_copyRow : G 152 = some (.model mCopyRow)) : Does T G (fun id => match id with | 1 => [(1, 2), (1, 3)] | 2 => [(3, 4), (3, 5), (5, 3)] | _ => []) Try.f119 mPut := by
  refine does2 (rs := [.tmp 4]) rfl rfl fun xs x ro h => ?_
  obtain ⟨hs, rfl⟩ := gd_some h
  refine ⟨fun _ => ⟨by simp [cleanA, clean_row], rfl⟩, ?_⟩
  obtain ⟨a, b⟩ := x
  have hkl : (keysP xs).length = xs.length := by simp [keysP]
  have hc : cntB (keysP xs) a ≤ (keysP xs).length := (List.takeWhile_prefix _).length_le
  have ht : (xs.take (cntB (keysP xs) a)).length = cntB (keysP xs) a := by rw [List.length_take]; omega
  have ht1 : (xs.take (cntB (keysP xs) a) ++ [(a, b)]).length = cntB (keysP xs) a + 1 := by rw [List.length_append, ht]; rfl
  simp (config := {maxSteps := 1000000}) (disch := omega) only [go_sem, ↓reduceIte, Nat.reduceEqDiff, Nat.reduceAdd, Nat.reduceMul, Nat.reduceSub, Nat.reduceLeDiff, Nat.reduceLT, Int.reduceToNat, Int.reduceLE, Int.reduceLT, Int.reduceNeg, h_keysOf, mKeysOf, h_below, mBelow, h_copyRow, mCopyRow, sub_zero, Nat.sub_zero, List.take_length, app_P, ht, Bool.and_true, Bool.true_and, Bool.and_self]
  refine ⟨rfl, rfl, ?_⟩
  (first | refine runKS_split (fun g1 => ?_) (fun g1 => ?_) | refine cond_split (fun g1 => ?_) (fun g1 => ?_) | refine runK_split (fun g1 => ?_) (fun g1 => ?_))
  · have g1' := of_decide_eq_true g1
    simp (config := {maxSteps := 1000000}) (disch := omega) only [go_sem, ↓reduceIte, Nat.reduceEqDiff, Nat.reduceAdd, Nat.reduceMul, Nat.reduceSub, Nat.reduceLeDiff, Nat.reduceLT, Int.reduceToNat, Int.reduceLE, Int.reduceLT, Int.reduceNeg, h_keysOf, mKeysOf, h_below, mBelow, h_copyRow, mCopyRow, sub_zero, Nat.sub_zero, List.take_length, app_P, ht, g1]
    (first | refine runKS_split (fun g2 => ?_) (fun g2 => ?_) | refine cond_split (fun g2 => ?_) (fun g2 => ?_) | refine runK_split (fun g2 => ?_) (fun g2 => ?_))
    · have g2' := of_decide_eq_true g2
      simp (config := {maxSteps := 1000000}) (disch := omega) only [go_sem, ↓reduceIte, Nat.reduceEqDiff, Nat.reduceAdd, Nat.reduceMul, Nat.reduceSub, Nat.reduceLeDiff, Nat.reduceLT, Int.reduceToNat, Int.reduceLE, Int.reduceLT, Int.reduceNeg, h_keysOf, mKeysOf, h_below, mBelow, h_copyRow, mCopyRow, sub_zero, Nat.sub_zero, List.take_length, app_PP, ht, g1, g2, ht1, sub_restP, toNat_k1]
      rw [putV_t (by omega) g2']
      exact row_eq (by rw [List.length_append, ht, List.length_cons, List.length_drop]; omega)
    · have g2' := of_decide_eq_false g2
      simp (config := {maxSteps := 1000000}) (disch := omega) only [go_sem, ↓reduceIte, Nat.reduceEqDiff, Nat.reduceAdd, Nat.reduceMul, Nat.reduceSub, Nat.reduceLeDiff, Nat.reduceLT, Int.reduceToNat, Int.reduceLE, Int.reduceLT, Int.reduceNeg, h_keysOf, mKeysOf, h_below, mBelow, h_copyRow, mCopyRow, sub_zero, Nat.sub_zero, List.take_length, app_PP, ht, g1, g2, ht1, sub_restP]
      rw [putV_f (fun hh => g2' hh.2)]
      exact row_eq (by rw [List.length_append, ht, List.length_cons, List.length_drop]; omega)
  · have g1' := of_decide_eq_false g1
    simp (config := {maxSteps := 1000000}) (disch := omega) only [go_sem, ↓reduceIte, Nat.reduceEqDiff, Nat.reduceAdd, Nat.reduceMul, Nat.reduceSub, Nat.reduceLeDiff, Nat.reduceLT, Int.reduceToNat, Int.reduceLE, Int.reduceLT, Int.reduceNeg, h_keysOf, mKeysOf, h_below, mBelow, h_copyRow, mCopyRow, sub_zero, Nat.sub_zero, List.take_length, app_PP, ht, g1, ht1, sub_restP]
    rw [putV_f (fun hh => g1' (by omega))]
    exact row_eq (by rw [List.length_append, ht, List.length_cons, List.length_drop]; omega)
theorem fo_put : FnOk Try.prog 119 := fnOk_of Try.func119 (by kernel_rfl)
theorem c_put : Contract Try.prog 119 mPut :=
  contract_of_does (DT := fun id => match id with | 1 => [(1, 2), (1, 3)] | 2 => [(3, 4), (3, 5), (5, 3)] | _ => []) Try.checked.mixed tabOk (gok_model fo_keysOf c_keysOf (gok_model fo_below c_below (gok_model fo_copyRow c_copyRow gok_nil))) Try.func119 rfl (by kernel_rfl) (does_put rfl rfl rfl)


end Go.TM
