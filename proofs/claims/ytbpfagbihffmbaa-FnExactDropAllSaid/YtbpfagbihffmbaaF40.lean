/- Contracts, 40: lists, and a pair put into a row. -/
import Derived.Test.YtbpfagbihffmbaaF7
import Derived.Test.YtbpfagbihffmbaaTmD
namespace Go.TM
open Go.Proofs
set_option linter.unusedVariables false
set_option linter.unusedSimpArgs false
set_option maxRecDepth 100000

theorem cntB_ok {xs : List Int} {k : Int} (h : VK xs) : cntB xs k ≤ xs.length ∧ (∀ i, i < cntB xs k → xs.getD i 0 < k) ∧ ∀ i, cntB xs k ≤ i → i < xs.length → k ≤ xs.getD i 0 := by
  have hle : cntB xs k ≤ xs.length := (List.takeWhile_prefix _).length_le
  refine ⟨hle, fun i hi => ?_, fun i hi hl => ?_⟩
  · have : ∀ (ys : List Int) (i : Nat), i < (ys.takeWhile fun x => decide (x < k)).length → ys.getD i 0 < k := by
      intro ys
      induction ys with
      | nil => intro i hi; simp at hi
      | cons y ys ih =>
        intro i hi
        rw [List.takeWhile_cons] at hi
        split at hi
        · rename_i hy
          cases i with
          | zero => simpa using hy
          | succ i => simpa using ih i (by simpa using hi)
        · simp at hi
    exact this xs i hi
  · have hc : ∀ (ys : List Int) (hl : (ys.takeWhile fun x => decide (x < k)).length < ys.length), k ≤ ys.getD (ys.takeWhile fun x => decide (x < k)).length 0 := by
      intro ys
      induction ys with
      | nil => intro hl; simp at hl
      | cons y ys ih =>
        intro hl
        rw [List.takeWhile_cons] at hl ⊢
        split at hl
        · rename_i hy
          rw [if_pos hy]
          simpa using ih (by simpa using hl)
        · rename_i hy
          rw [if_neg hy]
          simp at hy
          simpa using hy
    have h1 := hc xs (by simp only [cntB] at hi; omega)
    have h2 := vk_mono' h hi hl
    exact Int.le_trans h1 h2

theorem getD_app {xs ys : List Int} (i : Nat) : (xs ++ ys).getD i 0 = if i < xs.length then xs.getD i 0 else ys.getD (i - xs.length) 0 := by
  split
  · rename_i h
    simp [List.getElem?_append_left h]
  · rename_i h
    simp [List.getElem?_append_right (Nat.le_of_not_lt h)]
theorem getD_take {xs : List Int} {k i : Nat} (h : i < k) : (xs.take k).getD i 0 = xs.getD i 0 := by simp [List.getElem?_take, h]
theorem getD_drop (xs : List Int) (k i : Nat) : (xs.drop k).getD i 0 = xs.getD (k + i) 0 := by simp [List.getElem?_drop]
theorem sub_rest (xs : List Int) (k : Nat) : sub xs k (xs.length - k) = xs.drop k := by
  unfold sub
  exact List.take_of_length_le (by rw [List.length_drop]; omega)
theorem toNat_k1 (k : Nat) : ((k : Int) + 1).toNat = k + 1 := by omega
theorem app_P {xs : List Pr} {k : Nat} {a b : Int} (h : xs.length = k) : (xs.flatMap ePr).take (k * 2) ++ [A.i .i64 a, A.i .i64 b] = (xs ++ [(a, b)]).flatMap ePr := by
  rw [List.take_of_length_le (by rw [flatPr_len]; omega)]
  simp [List.flatMap_append, ePr]
theorem app_PP {xs ys : List Pr} {k : Nat} (h : xs.length = k) : (xs.flatMap ePr).take (k * 2) ++ ys.flatMap ePr = (xs ++ ys).flatMap ePr := by
  rw [List.take_of_length_le (by rw [flatPr_len]; omega)]
  simp [List.flatMap_append]
theorem sub_restP (xs : List Pr) (k : Nat) : sub xs k (xs.length - k) = xs.drop k := by
  unfold sub
  exact List.take_of_length_le (by rw [List.length_drop]; omega)

theorem row_eq {n : Nat} {ys : List Pr} (h : n = ys.length) : some (A.s true 2 n (ys.flatMap ePr), ([] : List (List A))) = some (eRow true ys, []) := by subst h; rfl

def mCopyRow : Model := M1 .ro true (cRow false) fun xs => gd (xs.length ≤ 1099511627776) (eRow true xs, [])
theorem does_copyRow {G : Nat → Option FM}  : Does T G (fun id => match id with  | _ => []) Try.f152 mCopyRow := by
  refine does1 (rs := [.tmp 2]) rfl rfl fun xs ro h => ?_
  obtain ⟨hs, rfl⟩ := gd_some h
  refine ⟨fun _ => ⟨by simp [cleanA, clean_row], rfl⟩, ?_⟩
  simp (config := {maxSteps := 1000000}) (disch := omega) only [go_sem, ↓reduceIte, Nat.reduceEqDiff, Nat.reduceAdd, Nat.reduceMul, Nat.reduceSub, Nat.reduceLeDiff, Nat.reduceLT, Int.reduceToNat, Int.reduceLE, Int.reduceLT, Int.reduceNeg]
theorem fo_copyRow : FnOk Try.prog 152 := fnOk_of Try.func152 (by kernel_rfl)
theorem c_copyRow : Contract Try.prog 152 mCopyRow :=
  contract_of_does (DT := fun id => match id with  | _ => []) Try.checked.mixed tabOk gok_nil Try.func152 rfl (by kernel_rfl) (does_copyRow )



end Go.TM
