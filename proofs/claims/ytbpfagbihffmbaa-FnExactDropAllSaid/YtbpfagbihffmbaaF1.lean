/- Contracts, 1: numbers and lists of numbers. -/
import Derived.Test.YtbpfagbihffmbaaTab
namespace Go.TM
open Go.Proofs
set_option linter.unusedVariables false
set_option linter.unusedSimpArgs false
set_option maxRecDepth 100000

def iN : A → Nat
  | .i _ n => n.toNat
  | _ => 0
theorem iN_i (k : IntKind) (n : Int) : iN (.i k n) = n.toNat := rfl
attribute [go_sem] iN_i

/-! ### The functions -/

def inR (n a b : Int) : Bool := decide (a ≤ n) && decide (n ≤ b)
def allR (xs : List Int) (a b : Int) : Bool := xs.all fun n => inR n a b
/-- Keys that ascend, in 0..99. -/
def VK (xs : List Int) : Prop := (∀ i, i + 1 < xs.length → xs.getD i 0 < xs.getD (i + 1) 0) ∧ ∀ i, i < xs.length → 0 ≤ xs.getD i 0 ∧ xs.getD i 0 ≤ 99
open Classical in
noncomputable def vk (xs : List Int) : Bool := decide (VK xs)
theorem vk_t {xs : List Int} (h : VK xs) : vk xs = true := by simp [vk, h]
theorem vk_f {xs : List Int} (h : ¬ VK xs) : vk xs = false := by simp [vk, h]
theorem vk_iff {xs : List Int} : vk xs = true ↔ VK xs := by simp [vk]

/-- How many numbers at the beginning are less than one. -/
def cntB (xs : List Int) (k : Int) : Nat := (xs.takeWhile fun x => decide (x < k)).length
def cntU (xs : List Int) (k : Int) : Nat := (xs.takeWhile fun x => decide (x ≤ k)).length

theorem all_take {p : Int → Bool} {xs : List Int} {k : Nat} (h : k < xs.length) : (xs.take (k + 1)).all p = ((xs.take k).all p && p (xs.getD k 0)) := by
  rw [List.take_succ_eq_append_getElem h, List.all_append]; simp [h]
theorem getD_mem {xs : List Int} {k : Nat} (h : k < xs.length) : xs.getD k 0 ∈ xs := by simp [h]

theorem allR_get {xs : List Int} {a b : Int} : allR xs a b = true ↔ ∀ i, i < xs.length → a ≤ xs.getD i 0 ∧ xs.getD i 0 ≤ b := by
  simp only [allR, List.all_eq_true, inR, Bool.and_eq_true, decide_eq_true_eq]
  constructor
  · intro h i hi
    exact h _ (getD_mem hi)
  · intro h x hx
    obtain ⟨i, hi, rfl⟩ := List.getElem_of_mem hx
    have := h i hi
    simpa [hi] using this

theorem takeWhile_len {p : Int → Bool} : ∀ {xs : List Int} {n : Nat}, n ≤ xs.length → (∀ i, i < n → p (xs.getD i 0) = true) → (∀ _ : n < xs.length, p (xs.getD n 0) = false) → (xs.takeWhile p).length = n
  | [], n, h, _, _ => by simp at h; simp [h]
  | x :: xs, 0, _, _, h => by
    have := h (by simp)
    simp at this
    simp [List.takeWhile_cons, this]
  | x :: xs, n + 1, hn, h, h' => by
    have h0 := h 0 (by omega)
    simp at h0
    simp only [List.takeWhile_cons, h0, if_true, List.length_cons]
    rw [takeWhile_len (n := n) (by simpa using hn) (fun i hi => by simpa using h (i + 1) (by omega)) (fun hlt => by simpa using h' (by simpa using hlt))]

theorem clean_ints (xs : List Int) : cleanL (xs.map eI) = true := by
  induction xs with
  | nil => rfl
  | cons x xs ih => simp [cleanL, cleanA, ih]

theorem set_step {α : Type} {d : α} (f : Nat → α) {ys : List α} {k : Nat} (hk : k < ys.length) (h : ∀ i, i < k → ys.getD i d = f i) : ∀ i, i < k + 1 → (ys.set k (f k)).getD i d = f i := by
  intro i hi
  by_cases he : i = k
  · subst he; simp [List.getD_eq_getElem?_getD, hk]
  · have := h i (by omega)
    rw [List.getD_eq_getElem?_getD] at this ⊢
    rw [List.getElem?_set_ne (by omega)]
    exact this
theorem list_ext {α : Type} {d : α} {xs ys : List α} (hl : ys.length = xs.length) (h : ∀ i, i < xs.length → ys.getD i d = xs.getD i d) : ys = xs := by
  refine List.ext_getElem hl fun i h1 h2 => ?_
  have := h i h2
  simpa [h1, h2] using this

/-! ### Models -/

def mInRange : Model := M3 .ro .ro .ro true cI cI cI fun n a b => some (.b (inR n a b), [])
def mIsKey : Model := M1 .ro true cI fun n => some (.b (inR n 0 99), [])
def mIsValue : Model := M1 .ro true cI fun n => some (.b (inR n (-1000) 1000), [])
def mToInt : Model := M1 .ro true cB fun b => some (eI (if b then 1 else 0), [])
def mAllIn : Model := M3 .ro .ro .ro true (cIs false) cI cI fun xs a b => gd (xs.length ≤ 1099511627776) (.b (allR xs a b), [])
def mIsIn : Model := M2 .ro .ro true (cIs false) cI fun xs n => gd (xs.length ≤ 1099511627776) (.b (decide (n ∈ xs)), [])
noncomputable def mValidKeys : Model := M1 .ro true (cIs false) fun xs => gd (xs.length ≤ 1099511627776) (.b (vk xs), [])
def mBelow : Model := M2 .ro .ro true (cIs false) cI fun xs n => gd (xs.length ≤ 1099511627776) (eI (cntB xs n), [])
def mUpTo : Model := M2 .ro .ro true (cIs false) cI fun xs n => gd (xs.length ≤ 1099511627776) (eI (cntU xs n), [])
def mCopyInts : Model := M1 .ro true (cIs false) fun xs => gd (xs.length ≤ 1099511627776) (eIs true xs, [])
def mEqIntS : Model := M2 .ro .ro true (cIs false) (cIs false) fun xs ys => gd (xs.length ≤ 1099511627776 ∧ ys.length ≤ 1099511627776) (.b (decide (xs = ys)), [])
def mSzIntS : Model := M2 .ro .ro true (cIs false) cI fun xs n => gd (xs.length ≤ 9223372036854775807 ∧ 0 ≤ n ∧ n ≤ 1048576) (eI (if n < xs.length then -1 else n - xs.length), [])

def marks (n : Nat) (k : Int) : List Int := (List.range n).map fun (i : Nat) => k + (i : Int)
def mToIntS : Model := M1 .ro true (cIs false) fun xs => gd (xs.length ≤ 1099511627776) (eIs true xs, [])
def mMarkIntS : Model := M2 (.ln 1) .ro true (cIs true) cI fun xs k => gd (xs.length ≤ 1099511627776 ∧ 0 ≤ k ∧ k ≤ 1099511627776) (eI (k + xs.length), [(marks xs.length k).map eI])
def mHeldIntS : Model := M2 .ro .ro true (cIs false) cI fun xs k => gd (xs.length ≤ 1099511627776 ∧ 0 ≤ k ∧ k ≤ 1099511627776) (eI (if xs = marks xs.length k then k + xs.length else -1), [])

/-! ### The bodies -/

theorem does_inRange {G : Nat → Option FM}  : Does T G (fun id => match id with  | _ => []) Try.f83 mInRange := by
  refine does3 (rs := [.tmp 6]) rfl rfl fun n a b ro h => ?_
  cases h
  refine ⟨fun _ => ⟨rfl, rfl⟩, ?_⟩
  simp (config := {maxSteps := 1000000}) (disch := omega) only [go_sem, ↓reduceIte, Nat.reduceEqDiff, Nat.reduceAdd, Nat.reduceMul, Nat.reduceSub, Nat.reduceLeDiff, Nat.reduceLT, Int.reduceToNat, Int.reduceLE, Int.reduceLT, Int.reduceNeg]
  (first | refine runKS_split (fun h => ?_) (fun h => ?_) | refine cond_split (fun h => ?_) (fun h => ?_) | refine runK_split (fun h => ?_) (fun h => ?_))
  · simp (config := {maxSteps := 1000000}) (disch := omega) only [go_sem, ↓reduceIte, Nat.reduceEqDiff, Nat.reduceAdd, Nat.reduceMul, Nat.reduceSub, Nat.reduceLeDiff, Nat.reduceLT, Int.reduceToNat, Int.reduceLE, Int.reduceLT, Int.reduceNeg, h, inR, Bool.true_and]
  · simp (config := {maxSteps := 1000000}) (disch := omega) only [go_sem, ↓reduceIte, Nat.reduceEqDiff, Nat.reduceAdd, Nat.reduceMul, Nat.reduceSub, Nat.reduceLeDiff, Nat.reduceLT, Int.reduceToNat, Int.reduceLE, Int.reduceLT, Int.reduceNeg, h, inR, Bool.false_and]
theorem fo_inRange : FnOk Try.prog 83 := fnOk_of Try.func83 (by kernel_rfl)
theorem c_inRange : Contract Try.prog 83 mInRange :=
  contract_of_does (DT := fun id => match id with  | _ => []) Try.checked.mixed tabOk gok_nil Try.func83 rfl (by kernel_rfl) (does_inRange )


theorem does_isKey {G : Nat → Option FM}  : Does T G (fun id => match id with  | _ => []) Try.f85 mIsKey := by
  refine does1 (rs := [.tmp 2]) rfl rfl fun n ro h => ?_
  cases h
  refine ⟨fun _ => ⟨rfl, rfl⟩, ?_⟩
  simp (config := {maxSteps := 1000000}) (disch := omega) only [go_sem, ↓reduceIte, Nat.reduceEqDiff, Nat.reduceAdd, Nat.reduceMul, Nat.reduceSub, Nat.reduceLeDiff, Nat.reduceLT, Int.reduceToNat, Int.reduceLE, Int.reduceLT, Int.reduceNeg]
  (first | refine runKS_split (fun h => ?_) (fun h => ?_) | refine cond_split (fun h => ?_) (fun h => ?_) | refine runK_split (fun h => ?_) (fun h => ?_))
  · simp (config := {maxSteps := 1000000}) (disch := omega) only [go_sem, ↓reduceIte, Nat.reduceEqDiff, Nat.reduceAdd, Nat.reduceMul, Nat.reduceSub, Nat.reduceLeDiff, Nat.reduceLT, Int.reduceToNat, Int.reduceLE, Int.reduceLT, Int.reduceNeg, h, inR, Bool.true_and]
  · simp (config := {maxSteps := 1000000}) (disch := omega) only [go_sem, ↓reduceIte, Nat.reduceEqDiff, Nat.reduceAdd, Nat.reduceMul, Nat.reduceSub, Nat.reduceLeDiff, Nat.reduceLT, Int.reduceToNat, Int.reduceLE, Int.reduceLT, Int.reduceNeg, h, inR, Bool.false_and]
theorem fo_isKey : FnOk Try.prog 85 := fnOk_of Try.func85 (by kernel_rfl)
theorem c_isKey : Contract Try.prog 85 mIsKey :=
  contract_of_does (DT := fun id => match id with  | _ => []) Try.checked.mixed tabOk gok_nil Try.func85 rfl (by kernel_rfl) (does_isKey )


theorem does_isValue {G : Nat → Option FM}  : Does T G (fun id => match id with  | _ => []) Try.f125 mIsValue := by
  refine does1 (rs := [.tmp 2]) rfl rfl fun n ro h => ?_
  cases h
  refine ⟨fun _ => ⟨rfl, rfl⟩, ?_⟩
  simp (config := {maxSteps := 1000000}) (disch := omega) only [go_sem, ↓reduceIte, Nat.reduceEqDiff, Nat.reduceAdd, Nat.reduceMul, Nat.reduceSub, Nat.reduceLeDiff, Nat.reduceLT, Int.reduceToNat, Int.reduceLE, Int.reduceLT, Int.reduceNeg]
  (first | refine runKS_split (fun h => ?_) (fun h => ?_) | refine cond_split (fun h => ?_) (fun h => ?_) | refine runK_split (fun h => ?_) (fun h => ?_))
  · simp (config := {maxSteps := 1000000}) (disch := omega) only [go_sem, ↓reduceIte, Nat.reduceEqDiff, Nat.reduceAdd, Nat.reduceMul, Nat.reduceSub, Nat.reduceLeDiff, Nat.reduceLT, Int.reduceToNat, Int.reduceLE, Int.reduceLT, Int.reduceNeg, h, inR, Bool.true_and]
  · simp (config := {maxSteps := 1000000}) (disch := omega) only [go_sem, ↓reduceIte, Nat.reduceEqDiff, Nat.reduceAdd, Nat.reduceMul, Nat.reduceSub, Nat.reduceLeDiff, Nat.reduceLT, Int.reduceToNat, Int.reduceLE, Int.reduceLT, Int.reduceNeg, h, inR, Bool.false_and]
theorem fo_isValue : FnOk Try.prog 125 := fnOk_of Try.func125 (by kernel_rfl)
theorem c_isValue : Contract Try.prog 125 mIsValue :=
  contract_of_does (DT := fun id => match id with  | _ => []) Try.checked.mixed tabOk gok_nil Try.func125 rfl (by kernel_rfl) (does_isValue )



theorem does_toInt {G : Nat → Option FM}  : Does T G (fun id => match id with  | _ => []) Try.f84 mToInt := by
  refine does1 (rs := [.tmp 2]) rfl rfl fun n ro h => ?_
  cases h
  refine ⟨fun _ => ⟨rfl, rfl⟩, ?_⟩
  simp (config := {maxSteps := 1000000}) (disch := omega) only [go_sem, ↓reduceIte, Nat.reduceEqDiff, Nat.reduceAdd, Nat.reduceMul, Nat.reduceSub, Nat.reduceLeDiff, Nat.reduceLT, Int.reduceToNat, Int.reduceLE, Int.reduceLT, Int.reduceNeg]
  (first | refine runKS_split (fun h => ?_) (fun h => ?_) | refine cond_split (fun h => ?_) (fun h => ?_) | refine runK_split (fun h => ?_) (fun h => ?_))
  · simp (config := {maxSteps := 1000000}) (disch := omega) only [go_sem, ↓reduceIte, Nat.reduceEqDiff, Nat.reduceAdd, Nat.reduceMul, Nat.reduceSub, Nat.reduceLeDiff, Nat.reduceLT, Int.reduceToNat, Int.reduceLE, Int.reduceLT, Int.reduceNeg, h]
  · simp (config := {maxSteps := 1000000}) (disch := omega) only [go_sem, ↓reduceIte, Nat.reduceEqDiff, Nat.reduceAdd, Nat.reduceMul, Nat.reduceSub, Nat.reduceLeDiff, Nat.reduceLT, Int.reduceToNat, Int.reduceLE, Int.reduceLT, Int.reduceNeg, h]
    rfl
theorem fo_toInt : FnOk Try.prog 84 := fnOk_of Try.func84 (by kernel_rfl)
theorem c_toInt : Contract Try.prog 84 mToInt :=
  contract_of_does (DT := fun id => match id with  | _ => []) Try.checked.mixed tabOk gok_nil Try.func84 rfl (by kernel_rfl) (does_toInt )


theorem does_allIn {G : Nat → Option FM} (h_inRange : G 83 = some (.model mInRange)) : Does T G (fun id => match id with  | _ => []) Try.f150 mAllIn := by
  refine does3 (rs := [.tmp 6]) rfl rfl fun xs a b ro h => ?_
  obtain ⟨hs, rfl⟩ := gd_some h
  refine ⟨fun _ => ⟨rfl, rfl⟩, ?_⟩
  simp (config := {maxSteps := 1000000}) (disch := omega) only [go_sem, ↓reduceIte, Nat.reduceEqDiff, Nat.reduceAdd, Nat.reduceMul, Nat.reduceSub, Nat.reduceLeDiff, Nat.reduceLT, Int.reduceToNat, Int.reduceLE, Int.reduceLT, Int.reduceNeg, h_inRange, mInRange]
  refine W_loop_i (fun s => s.sl 0 = eIs false xs ∧ s.sl 1 = eI a ∧ s.sl 2 = eI b ∧ ∃ k : Nat, k ≤ xs.length ∧ s.sl 7 = eI k ∧ allR (xs.take k) a b = true) (fun s => xs.length - iN (s.sl 7)) ?_ ?_
  · exact ⟨rfl, rfl, rfl, 0, Nat.zero_le _, rfl, rfl⟩
  · rintro sl hp n ⟨h0, h1, h2, k, hk, h7, hall⟩
    dsimp only at h0 h1 h2 h7
    simp (config := {maxSteps := 1000000}) (disch := omega) only [go_sem, ↓reduceIte, Nat.reduceEqDiff, Nat.reduceAdd, Nat.reduceMul, Nat.reduceSub, Nat.reduceLeDiff, Nat.reduceLT, Int.reduceToNat, Int.reduceLE, Int.reduceLT, Int.reduceNeg, h_inRange, mInRange, h0, h1, h2, h7]
    (first | refine runKS_split (fun h => ?_) (fun h => ?_) | refine cond_split (fun h => ?_) (fun h => ?_) | refine runK_split (fun h => ?_) (fun h => ?_))
    · have hlt := of_decide_eq_true h
      have hst := all_take (p := fun n => inR n a b) (xs := xs) (k := k) (by omega)
      simp (config := {maxSteps := 1000000}) (disch := omega) only [go_sem, ↓reduceIte, Nat.reduceEqDiff, Nat.reduceAdd, Nat.reduceMul, Nat.reduceSub, Nat.reduceLeDiff, Nat.reduceLT, Int.reduceToNat, Int.reduceLE, Int.reduceLT, Int.reduceNeg, h_inRange, mInRange, h0, h1, h2, h7, h]
      (first | refine runKS_split (fun h' => ?_) (fun h' => ?_) | refine cond_split (fun h' => ?_) (fun h' => ?_) | refine runK_split (fun h' => ?_) (fun h' => ?_))
      · simp (config := {maxSteps := 1000000}) (disch := omega) only [go_sem, ↓reduceIte, Nat.reduceEqDiff, Nat.reduceAdd, Nat.reduceMul, Nat.reduceSub, Nat.reduceLeDiff, Nat.reduceLT, Int.reduceToNat, Int.reduceLE, Int.reduceLT, Int.reduceNeg, h_inRange, mInRange]
        have : allR xs a b = false := by
          rw [Bool.eq_false_iff]
          intro hh
          rw [allR, List.all_eq_true] at hh
          have := hh _ (getD_mem (k := k) (by omega))
          rw [this] at h'
          simp at h'
        rw [this]
      · simp (config := {maxSteps := 1000000}) (disch := omega) only [go_sem, ↓reduceIte, Nat.reduceEqDiff, Nat.reduceAdd, Nat.reduceMul, Nat.reduceSub, Nat.reduceLeDiff, Nat.reduceLT, Int.reduceToNat, Int.reduceLE, Int.reduceLT, Int.reduceNeg, h_inRange, mInRange, h0, h1, h2, h7]
        refine ⟨⟨k + 1, by omega, rfl, ?_⟩, by omega⟩
        rw [allR, hst]
        rw [allR] at hall
        rw [hall, Bool.true_and]
        simpa using h'
    · have hge := of_decide_eq_false h
      simp (config := {maxSteps := 1000000}) (disch := omega) only [go_sem, ↓reduceIte, Nat.reduceEqDiff, Nat.reduceAdd, Nat.reduceMul, Nat.reduceSub, Nat.reduceLeDiff, Nat.reduceLT, Int.reduceToNat, Int.reduceLE, Int.reduceLT, Int.reduceNeg, h_inRange, mInRange]
      rw [List.take_of_length_le (by omega)] at hall
      rw [hall]
theorem fo_allIn : FnOk Try.prog 150 := fnOk_of Try.func150 (by kernel_rfl)
theorem c_allIn : Contract Try.prog 150 mAllIn :=
  contract_of_does (DT := fun id => match id with  | _ => []) Try.checked.mixed tabOk (gok_model fo_inRange c_inRange gok_nil) Try.func150 rfl (by kernel_rfl) (does_allIn rfl)


theorem does_isIn {G : Nat → Option FM}  : Does T G (fun id => match id with  | _ => []) Try.f103 mIsIn := by
  refine does2 (rs := [.tmp 4]) rfl rfl fun xs a ro h => ?_
  obtain ⟨hs, rfl⟩ := gd_some h
  refine ⟨fun _ => ⟨rfl, rfl⟩, ?_⟩
  simp (config := {maxSteps := 1000000}) (disch := omega) only [go_sem, ↓reduceIte, Nat.reduceEqDiff, Nat.reduceAdd, Nat.reduceMul, Nat.reduceSub, Nat.reduceLeDiff, Nat.reduceLT, Int.reduceToNat, Int.reduceLE, Int.reduceLT, Int.reduceNeg]
  refine W_loop_i (fun s => s.sl 0 = eIs false xs ∧ s.sl 1 = eI a ∧ ∃ k : Nat, k ≤ xs.length ∧ s.sl 5 = eI k ∧ ∀ i, i < k → xs.getD i 0 ≠ a) (fun s => xs.length - iN (s.sl 5)) ?_ ?_
  · exact ⟨rfl, rfl, 0, Nat.zero_le _, rfl, fun i hi => by omega⟩
  · rintro sl hp n ⟨h0, h1, k, hk, h5, hall⟩
    dsimp only at h0 h1 h5
    simp (config := {maxSteps := 1000000}) (disch := omega) only [go_sem, ↓reduceIte, Nat.reduceEqDiff, Nat.reduceAdd, Nat.reduceMul, Nat.reduceSub, Nat.reduceLeDiff, Nat.reduceLT, Int.reduceToNat, Int.reduceLE, Int.reduceLT, Int.reduceNeg, h0, h1, h5]
    (first | refine runKS_split (fun h => ?_) (fun h => ?_) | refine cond_split (fun h => ?_) (fun h => ?_) | refine runK_split (fun h => ?_) (fun h => ?_))
    · have hlt := of_decide_eq_true h
      simp (config := {maxSteps := 1000000}) (disch := omega) only [go_sem, ↓reduceIte, Nat.reduceEqDiff, Nat.reduceAdd, Nat.reduceMul, Nat.reduceSub, Nat.reduceLeDiff, Nat.reduceLT, Int.reduceToNat, Int.reduceLE, Int.reduceLT, Int.reduceNeg, h0, h1, h5, h]
      (first | refine runKS_split (fun h' => ?_) (fun h' => ?_) | refine cond_split (fun h' => ?_) (fun h' => ?_) | refine runK_split (fun h' => ?_) (fun h' => ?_))
      · have h' := of_decide_eq_true h'
        simp (config := {maxSteps := 1000000}) (disch := omega) only [go_sem, ↓reduceIte, Nat.reduceEqDiff, Nat.reduceAdd, Nat.reduceMul, Nat.reduceSub, Nat.reduceLeDiff, Nat.reduceLT, Int.reduceToNat, Int.reduceLE, Int.reduceLT, Int.reduceNeg]
        have : a ∈ xs := by rw [← h']; exact getD_mem (by omega)
        simp [this]
      · have h' := of_decide_eq_false h'
        simp (config := {maxSteps := 1000000}) (disch := omega) only [go_sem, ↓reduceIte, Nat.reduceEqDiff, Nat.reduceAdd, Nat.reduceMul, Nat.reduceSub, Nat.reduceLeDiff, Nat.reduceLT, Int.reduceToNat, Int.reduceLE, Int.reduceLT, Int.reduceNeg, h0, h1, h5]
        refine ⟨⟨k + 1, by omega, rfl, fun i hi => ?_⟩, by omega⟩
        by_cases he : i = k
        · rw [he]; exact h'
        · exact hall i (by omega)
    · have hge := of_decide_eq_false h
      simp (config := {maxSteps := 1000000}) (disch := omega) only [go_sem, ↓reduceIte, Nat.reduceEqDiff, Nat.reduceAdd, Nat.reduceMul, Nat.reduceSub, Nat.reduceLeDiff, Nat.reduceLT, Int.reduceToNat, Int.reduceLE, Int.reduceLT, Int.reduceNeg]
      have : a ∉ xs := by
        intro hm
        obtain ⟨i, hi, he⟩ := List.getElem_of_mem hm
        exact hall i (by omega) (by simpa [hi] using he)
      simp [this]
theorem fo_isIn : FnOk Try.prog 103 := fnOk_of Try.func103 (by kernel_rfl)
theorem c_isIn : Contract Try.prog 103 mIsIn :=
  contract_of_does (DT := fun id => match id with  | _ => []) Try.checked.mixed tabOk gok_nil Try.func103 rfl (by kernel_rfl) (does_isIn )


theorem does_validKeys {G : Nat → Option FM} (h_allIn : G 150 = some (.model mAllIn)) : Does T G (fun id => match id with  | _ => []) Try.f118 mValidKeys := by
  refine does1 (rs := [.tmp 2]) rfl rfl fun xs ro h => ?_
  obtain ⟨hs, rfl⟩ := gd_some h
  refine ⟨fun _ => ⟨rfl, rfl⟩, ?_⟩
  simp (config := {maxSteps := 1000000}) (disch := omega) only [go_sem, ↓reduceIte, Nat.reduceEqDiff, Nat.reduceAdd, Nat.reduceMul, Nat.reduceSub, Nat.reduceLeDiff, Nat.reduceLT, Int.reduceToNat, Int.reduceLE, Int.reduceLT, Int.reduceNeg, h_allIn, mAllIn]
  refine W_loop_i (fun s => s.sl 0 = eIs false xs ∧ ∃ k : Nat, 1 ≤ k ∧ (k ≤ xs.length ∨ k = 1) ∧ s.sl 3 = eI k ∧ ∀ i, i + 1 < k → xs.getD i 0 < xs.getD (i + 1) 0) (fun s => xs.length - iN (s.sl 3)) ?_ ?_
  · exact ⟨rfl, 1, by omega, .inr rfl, rfl, fun i hi => by omega⟩
  · rintro sl hp n ⟨h0, k, hk1, hk, h3, hall⟩
    dsimp only at h0 h3
    simp (config := {maxSteps := 1000000}) (disch := omega) only [go_sem, ↓reduceIte, Nat.reduceEqDiff, Nat.reduceAdd, Nat.reduceMul, Nat.reduceSub, Nat.reduceLeDiff, Nat.reduceLT, Int.reduceToNat, Int.reduceLE, Int.reduceLT, Int.reduceNeg, h_allIn, mAllIn, h0, h3]
    (first | refine runKS_split (fun h => ?_) (fun h => ?_) | refine cond_split (fun h => ?_) (fun h => ?_) | refine runK_split (fun h => ?_) (fun h => ?_))
    · have hlt := of_decide_eq_true h
      have e1 : ((k : Int) - 1).toNat = k - 1 := by omega
      simp (config := {maxSteps := 1000000}) (disch := omega) only [go_sem, ↓reduceIte, Nat.reduceEqDiff, Nat.reduceAdd, Nat.reduceMul, Nat.reduceSub, Nat.reduceLeDiff, Nat.reduceLT, Int.reduceToNat, Int.reduceLE, Int.reduceLT, Int.reduceNeg, h_allIn, mAllIn, h0, h3, h, e1]
      (first | refine runKS_split (fun h' => ?_) (fun h' => ?_) | refine cond_split (fun h' => ?_) (fun h' => ?_) | refine runK_split (fun h' => ?_) (fun h' => ?_))
      · have h' := of_decide_eq_true h'
        simp (config := {maxSteps := 1000000}) (disch := omega) only [go_sem, ↓reduceIte, Nat.reduceEqDiff, Nat.reduceAdd, Nat.reduceMul, Nat.reduceSub, Nat.reduceLeDiff, Nat.reduceLT, Int.reduceToNat, Int.reduceLE, Int.reduceLT, Int.reduceNeg, h_allIn, mAllIn]
        rw [vk_f]
        intro hv
        have := hv.1 (k - 1) (by omega)
        rw [show k - 1 + 1 = k from by omega] at this
        omega
      · have h' := of_decide_eq_false h'
        simp (config := {maxSteps := 1000000}) (disch := omega) only [go_sem, ↓reduceIte, Nat.reduceEqDiff, Nat.reduceAdd, Nat.reduceMul, Nat.reduceSub, Nat.reduceLeDiff, Nat.reduceLT, Int.reduceToNat, Int.reduceLE, Int.reduceLT, Int.reduceNeg, h_allIn, mAllIn, h0, h3]
        refine ⟨⟨k + 1, by omega, .inl (by omega), rfl, fun i hi => ?_⟩, by omega⟩
        by_cases he : i + 1 = k
        · have : i = k - 1 := by omega
          subst this
          rw [show k - 1 + 1 = k from by omega]
          omega
        · exact hall i (by omega)
    · have hge := of_decide_eq_false h
      simp (config := {maxSteps := 1000000}) (disch := omega) only [go_sem, ↓reduceIte, Nat.reduceEqDiff, Nat.reduceAdd, Nat.reduceMul, Nat.reduceSub, Nat.reduceLeDiff, Nat.reduceLT, Int.reduceToNat, Int.reduceLE, Int.reduceLT, Int.reduceNeg, h_allIn, mAllIn, h0]
      have : allR xs 0 99 = vk xs := by
        rw [Bool.eq_iff_iff, allR_get, vk_iff]
        exact ⟨fun h => ⟨fun i hi => hall i (by omega), h⟩, fun h => h.2⟩
      rw [this]
theorem fo_validKeys : FnOk Try.prog 118 := fnOk_of Try.func118 (by kernel_rfl)
theorem c_validKeys : Contract Try.prog 118 mValidKeys :=
  contract_of_does (DT := fun id => match id with  | _ => []) Try.checked.mixed tabOk (gok_model fo_allIn c_allIn gok_nil) Try.func118 rfl (by kernel_rfl) (does_validKeys rfl)


theorem does_below {G : Nat → Option FM}  : Does T G (fun id => match id with  | _ => []) Try.f147 mBelow := by
  refine does2 (rs := [.tmp 4]) rfl rfl fun xs a ro h => ?_
  obtain ⟨hs, rfl⟩ := gd_some h
  refine ⟨fun _ => ⟨rfl, rfl⟩, ?_⟩
  simp (config := {maxSteps := 1000000}) (disch := omega) only [go_sem, ↓reduceIte, Nat.reduceEqDiff, Nat.reduceAdd, Nat.reduceMul, Nat.reduceSub, Nat.reduceLeDiff, Nat.reduceLT, Int.reduceToNat, Int.reduceLE, Int.reduceLT, Int.reduceNeg]
  refine W_loop_i (fun s => s.sl 0 = eIs false xs ∧ s.sl 1 = eI a ∧ ∃ k : Nat, k ≤ xs.length ∧ s.sl 5 = eI k ∧ ∀ i, i < k → xs.getD i 0 < a) (fun s => xs.length - iN (s.sl 5)) ?_ ?_
  · exact ⟨rfl, rfl, 0, Nat.zero_le _, rfl, fun i hi => by omega⟩
  · rintro sl hp n ⟨h0, h1, k, hk, h5, hall⟩
    dsimp only at h0 h1 h5
    simp (config := {maxSteps := 1000000}) (disch := omega) only [go_sem, ↓reduceIte, Nat.reduceEqDiff, Nat.reduceAdd, Nat.reduceMul, Nat.reduceSub, Nat.reduceLeDiff, Nat.reduceLT, Int.reduceToNat, Int.reduceLE, Int.reduceLT, Int.reduceNeg, h0, h1, h5]
    (first | refine runKS_split (fun h => ?_) (fun h => ?_) | refine cond_split (fun h => ?_) (fun h => ?_) | refine runK_split (fun h => ?_) (fun h => ?_))
    · have hlt := of_decide_eq_true h
      simp (config := {maxSteps := 1000000}) (disch := omega) only [go_sem, ↓reduceIte, Nat.reduceEqDiff, Nat.reduceAdd, Nat.reduceMul, Nat.reduceSub, Nat.reduceLeDiff, Nat.reduceLT, Int.reduceToNat, Int.reduceLE, Int.reduceLT, Int.reduceNeg, h0, h1, h5, h]
      (first | refine runKS_split (fun h' => ?_) (fun h' => ?_) | refine cond_split (fun h' => ?_) (fun h' => ?_) | refine runK_split (fun h' => ?_) (fun h' => ?_))
      · have h' := of_decide_eq_true h'
        simp (config := {maxSteps := 1000000}) (disch := omega) only [go_sem, ↓reduceIte, Nat.reduceEqDiff, Nat.reduceAdd, Nat.reduceMul, Nat.reduceSub, Nat.reduceLeDiff, Nat.reduceLT, Int.reduceToNat, Int.reduceLE, Int.reduceLT, Int.reduceNeg, h0, h1, h5]
        refine ⟨⟨k + 1, by omega, rfl, fun i hi => ?_⟩, by omega⟩
        by_cases he : i = k
        · rw [he]; exact h'
        · exact hall i (by omega)
      · have h' := of_decide_eq_false h'
        simp (config := {maxSteps := 1000000}) (disch := omega) only [go_sem, ↓reduceIte, Nat.reduceEqDiff, Nat.reduceAdd, Nat.reduceMul, Nat.reduceSub, Nat.reduceLeDiff, Nat.reduceLT, Int.reduceToNat, Int.reduceLE, Int.reduceLT, Int.reduceNeg, h0, h1, h5]
        rw [cntB, takeWhile_len hk (fun i hi => by simpa using hall i hi) (fun _ => by simpa using h')]
    · have hge := of_decide_eq_false h
      simp (config := {maxSteps := 1000000}) (disch := omega) only [go_sem, ↓reduceIte, Nat.reduceEqDiff, Nat.reduceAdd, Nat.reduceMul, Nat.reduceSub, Nat.reduceLeDiff, Nat.reduceLT, Int.reduceToNat, Int.reduceLE, Int.reduceLT, Int.reduceNeg, h0, h1, h5, h]
      rw [cntB, takeWhile_len hk (fun i hi => by simpa using hall i hi) (fun hh => by omega)]
theorem fo_below : FnOk Try.prog 147 := fnOk_of Try.func147 (by kernel_rfl)
theorem c_below : Contract Try.prog 147 mBelow :=
  contract_of_does (DT := fun id => match id with  | _ => []) Try.checked.mixed tabOk gok_nil Try.func147 rfl (by kernel_rfl) (does_below )


theorem does_upTo {G : Nat → Option FM}  : Does T G (fun id => match id with  | _ => []) Try.f138 mUpTo := by
  refine does2 (rs := [.tmp 4]) rfl rfl fun xs a ro h => ?_
  obtain ⟨hs, rfl⟩ := gd_some h
  refine ⟨fun _ => ⟨rfl, rfl⟩, ?_⟩
  simp (config := {maxSteps := 1000000}) (disch := omega) only [go_sem, ↓reduceIte, Nat.reduceEqDiff, Nat.reduceAdd, Nat.reduceMul, Nat.reduceSub, Nat.reduceLeDiff, Nat.reduceLT, Int.reduceToNat, Int.reduceLE, Int.reduceLT, Int.reduceNeg]
  refine W_loop_i (fun s => s.sl 0 = eIs false xs ∧ s.sl 1 = eI a ∧ ∃ k : Nat, k ≤ xs.length ∧ s.sl 5 = eI k ∧ ∀ i, i < k → xs.getD i 0 ≤ a) (fun s => xs.length - iN (s.sl 5)) ?_ ?_
  · exact ⟨rfl, rfl, 0, Nat.zero_le _, rfl, fun i hi => by omega⟩
  · rintro sl hp n ⟨h0, h1, k, hk, h5, hall⟩
    dsimp only at h0 h1 h5
    simp (config := {maxSteps := 1000000}) (disch := omega) only [go_sem, ↓reduceIte, Nat.reduceEqDiff, Nat.reduceAdd, Nat.reduceMul, Nat.reduceSub, Nat.reduceLeDiff, Nat.reduceLT, Int.reduceToNat, Int.reduceLE, Int.reduceLT, Int.reduceNeg, h0, h1, h5]
    (first | refine runKS_split (fun h => ?_) (fun h => ?_) | refine cond_split (fun h => ?_) (fun h => ?_) | refine runK_split (fun h => ?_) (fun h => ?_))
    · have hlt := of_decide_eq_true h
      simp (config := {maxSteps := 1000000}) (disch := omega) only [go_sem, ↓reduceIte, Nat.reduceEqDiff, Nat.reduceAdd, Nat.reduceMul, Nat.reduceSub, Nat.reduceLeDiff, Nat.reduceLT, Int.reduceToNat, Int.reduceLE, Int.reduceLT, Int.reduceNeg, h0, h1, h5, h]
      (first | refine runKS_split (fun h' => ?_) (fun h' => ?_) | refine cond_split (fun h' => ?_) (fun h' => ?_) | refine runK_split (fun h' => ?_) (fun h' => ?_))
      · have h' := of_decide_eq_true h'
        simp (config := {maxSteps := 1000000}) (disch := omega) only [go_sem, ↓reduceIte, Nat.reduceEqDiff, Nat.reduceAdd, Nat.reduceMul, Nat.reduceSub, Nat.reduceLeDiff, Nat.reduceLT, Int.reduceToNat, Int.reduceLE, Int.reduceLT, Int.reduceNeg, h0, h1, h5]
        refine ⟨⟨k + 1, by omega, rfl, fun i hi => ?_⟩, by omega⟩
        by_cases he : i = k
        · rw [he]; exact h'
        · exact hall i (by omega)
      · have h' := of_decide_eq_false h'
        simp (config := {maxSteps := 1000000}) (disch := omega) only [go_sem, ↓reduceIte, Nat.reduceEqDiff, Nat.reduceAdd, Nat.reduceMul, Nat.reduceSub, Nat.reduceLeDiff, Nat.reduceLT, Int.reduceToNat, Int.reduceLE, Int.reduceLT, Int.reduceNeg, h0, h1, h5]
        rw [cntU, takeWhile_len hk (fun i hi => by simpa using hall i hi) (fun _ => by simpa using h')]
    · have hge := of_decide_eq_false h
      simp (config := {maxSteps := 1000000}) (disch := omega) only [go_sem, ↓reduceIte, Nat.reduceEqDiff, Nat.reduceAdd, Nat.reduceMul, Nat.reduceSub, Nat.reduceLeDiff, Nat.reduceLT, Int.reduceToNat, Int.reduceLE, Int.reduceLT, Int.reduceNeg, h0, h1, h5, h]
      rw [cntU, takeWhile_len hk (fun i hi => by simpa using hall i hi) (fun hh => by omega)]
theorem fo_upTo : FnOk Try.prog 138 := fnOk_of Try.func138 (by kernel_rfl)
theorem c_upTo : Contract Try.prog 138 mUpTo :=
  contract_of_does (DT := fun id => match id with  | _ => []) Try.checked.mixed tabOk gok_nil Try.func138 rfl (by kernel_rfl) (does_upTo )


theorem does_szIntS {G : Nat → Option FM}  : Does T G (fun id => match id with  | _ => []) Try.f149 mSzIntS := by
  refine does2 (rs := [.tmp 4]) rfl rfl fun xs a ro h => ?_
  obtain ⟨hs, rfl⟩ := gd_some h
  refine ⟨fun _ => ⟨rfl, rfl⟩, ?_⟩
  simp (config := {maxSteps := 1000000}) (disch := omega) only [go_sem, ↓reduceIte, Nat.reduceEqDiff, Nat.reduceAdd, Nat.reduceMul, Nat.reduceSub, Nat.reduceLeDiff, Nat.reduceLT, Int.reduceToNat, Int.reduceLE, Int.reduceLT, Int.reduceNeg]
  (first | refine runKS_split (fun h => ?_) (fun h => ?_) | refine cond_split (fun h => ?_) (fun h => ?_) | refine runK_split (fun h => ?_) (fun h => ?_))
  · have h' := of_decide_eq_true h
    simp (config := {maxSteps := 1000000}) (disch := omega) only [go_sem, ↓reduceIte, Nat.reduceEqDiff, Nat.reduceAdd, Nat.reduceMul, Nat.reduceSub, Nat.reduceLeDiff, Nat.reduceLT, Int.reduceToNat, Int.reduceLE, Int.reduceLT, Int.reduceNeg, h]
    rw [if_pos (by omega)]
  · have h' := of_decide_eq_false h
    simp (config := {maxSteps := 1000000}) (disch := omega) only [go_sem, ↓reduceIte, Nat.reduceEqDiff, Nat.reduceAdd, Nat.reduceMul, Nat.reduceSub, Nat.reduceLeDiff, Nat.reduceLT, Int.reduceToNat, Int.reduceLE, Int.reduceLT, Int.reduceNeg, h]
    rw [if_neg (by omega)]
theorem fo_szIntS : FnOk Try.prog 149 := fnOk_of Try.func149 (by kernel_rfl)
theorem c_szIntS : Contract Try.prog 149 mSzIntS :=
  contract_of_does (DT := fun id => match id with  | _ => []) Try.checked.mixed tabOk gok_nil Try.func149 rfl (by kernel_rfl) (does_szIntS )


theorem does_copyInts {G : Nat → Option FM}  : Does T G (fun id => match id with  | _ => []) Try.f140 mCopyInts := by
  refine does1 (rs := [.tmp 2]) rfl rfl fun xs ro h => ?_
  obtain ⟨hs, rfl⟩ := gd_some h
  refine ⟨fun _ => ⟨by simp [cleanA, clean_ints], rfl⟩, ?_⟩
  simp (config := {maxSteps := 1000000}) (disch := omega) only [go_sem, ↓reduceIte, Nat.reduceEqDiff, Nat.reduceAdd, Nat.reduceMul, Nat.reduceSub, Nat.reduceLeDiff, Nat.reduceLT, Int.reduceToNat, Int.reduceLE, Int.reduceLT, Int.reduceNeg]
theorem fo_copyInts : FnOk Try.prog 140 := fnOk_of Try.func140 (by kernel_rfl)
theorem c_copyInts : Contract Try.prog 140 mCopyInts :=
  contract_of_does (DT := fun id => match id with  | _ => []) Try.checked.mixed tabOk gok_nil Try.func140 rfl (by kernel_rfl) (does_copyInts )


theorem does_eqIntS {G : Nat → Option FM}  : Does T G (fun id => match id with  | _ => []) Try.f25 mEqIntS := by
  refine does2 (rs := [.tmp 4]) rfl rfl fun xs ys ro h => ?_
  obtain ⟨hs, rfl⟩ := gd_some h
  refine ⟨fun _ => ⟨rfl, rfl⟩, ?_⟩
  simp (config := {maxSteps := 1000000}) (disch := omega) only [go_sem, ↓reduceIte, Nat.reduceEqDiff, Nat.reduceAdd, Nat.reduceMul, Nat.reduceSub, Nat.reduceLeDiff, Nat.reduceLT, Int.reduceToNat, Int.reduceLE, Int.reduceLT, Int.reduceNeg]
  (first | refine runKS_split (fun h => ?_) (fun h => ?_) | refine cond_split (fun h => ?_) (fun h => ?_) | refine runK_split (fun h => ?_) (fun h => ?_))
  · have h' : xs ≠ ys := by rintro rfl; simp at h
    simp (config := {maxSteps := 1000000}) (disch := omega) only [go_sem, ↓reduceIte, Nat.reduceEqDiff, Nat.reduceAdd, Nat.reduceMul, Nat.reduceSub, Nat.reduceLeDiff, Nat.reduceLT, Int.reduceToNat, Int.reduceLE, Int.reduceLT, Int.reduceNeg, h]
    simp [h']
  · have hl : xs.length = ys.length := by simp at h; omega
    simp (config := {maxSteps := 1000000}) (disch := omega) only [go_sem, ↓reduceIte, Nat.reduceEqDiff, Nat.reduceAdd, Nat.reduceMul, Nat.reduceSub, Nat.reduceLeDiff, Nat.reduceLT, Int.reduceToNat, Int.reduceLE, Int.reduceLT, Int.reduceNeg, h]
    refine W_loop_i (fun s => s.sl 0 = eIs false xs ∧ s.sl 1 = eIs false ys ∧ ∃ k : Nat, k ≤ xs.length ∧ s.sl 5 = eI k ∧ ∀ i, i < k → xs.getD i 0 = ys.getD i 0) (fun s => xs.length - iN (s.sl 5)) ?_ ?_
    · exact ⟨rfl, rfl, 0, Nat.zero_le _, rfl, fun i hi => by omega⟩
    · rintro sl hp n ⟨h0, h1, k, hk, h5, hall⟩
      dsimp only at h0 h1 h5
      simp (config := {maxSteps := 1000000}) (disch := omega) only [go_sem, ↓reduceIte, Nat.reduceEqDiff, Nat.reduceAdd, Nat.reduceMul, Nat.reduceSub, Nat.reduceLeDiff, Nat.reduceLT, Int.reduceToNat, Int.reduceLE, Int.reduceLT, Int.reduceNeg, h0, h1, h5]
      (first | refine runKS_split (fun h2 => ?_) (fun h2 => ?_) | refine cond_split (fun h2 => ?_) (fun h2 => ?_) | refine runK_split (fun h2 => ?_) (fun h2 => ?_))
      · have hlt := of_decide_eq_true h2
        simp (config := {maxSteps := 1000000}) (disch := omega) only [go_sem, ↓reduceIte, Nat.reduceEqDiff, Nat.reduceAdd, Nat.reduceMul, Nat.reduceSub, Nat.reduceLeDiff, Nat.reduceLT, Int.reduceToNat, Int.reduceLE, Int.reduceLT, Int.reduceNeg, h0, h1, h5, h2]
        (first | refine runKS_split (fun h' => ?_) (fun h' => ?_) | refine cond_split (fun h' => ?_) (fun h' => ?_) | refine runK_split (fun h' => ?_) (fun h' => ?_))
        · simp (config := {maxSteps := 1000000}) (disch := omega) only [go_sem, ↓reduceIte, Nat.reduceEqDiff, Nat.reduceAdd, Nat.reduceMul, Nat.reduceSub, Nat.reduceLeDiff, Nat.reduceLT, Int.reduceToNat, Int.reduceLE, Int.reduceLT, Int.reduceNeg]
          have : xs ≠ ys := by rintro rfl; simp at h'
          simp [this]
        · have h' : xs.getD k 0 = ys.getD k 0 := by simpa using h'
          simp (config := {maxSteps := 1000000}) (disch := omega) only [go_sem, ↓reduceIte, Nat.reduceEqDiff, Nat.reduceAdd, Nat.reduceMul, Nat.reduceSub, Nat.reduceLeDiff, Nat.reduceLT, Int.reduceToNat, Int.reduceLE, Int.reduceLT, Int.reduceNeg, h0, h1, h5]
          refine ⟨⟨k + 1, by omega, rfl, fun i hi => ?_⟩, by omega⟩
          by_cases he : i = k
          · rw [he]; exact h'
          · exact hall i (by omega)
      · have hge := of_decide_eq_false h2
        simp (config := {maxSteps := 1000000}) (disch := omega) only [go_sem, ↓reduceIte, Nat.reduceEqDiff, Nat.reduceAdd, Nat.reduceMul, Nat.reduceSub, Nat.reduceLeDiff, Nat.reduceLT, Int.reduceToNat, Int.reduceLE, Int.reduceLT, Int.reduceNeg]
        have : xs = ys := by
          refine List.ext_getElem hl fun i h1 h2 => ?_
          have := hall i (by omega)
          simpa [h1, h2] using this
        simp [this]
theorem fo_eqIntS : FnOk Try.prog 25 := fnOk_of Try.func25 (by kernel_rfl)
theorem c_eqIntS : Contract Try.prog 25 mEqIntS :=
  contract_of_does (DT := fun id => match id with  | _ => []) Try.checked.mixed tabOk gok_nil Try.func25 rfl (by kernel_rfl) (does_eqIntS )


theorem rep_eI (n : Nat) : (List.replicate n [eI 0]).flatten = (List.replicate n (0 : Int)).map eI := by
  induction n with
  | zero => rfl
  | succ n ih => simp [List.replicate_succ, ih]

theorem does_toIntS {G : Nat → Option FM}  : Does T G (fun id => match id with  | _ => []) Try.f23 mToIntS := by
  refine does1 (rs := [.tmp 2]) rfl rfl fun xs ro h => ?_
  obtain ⟨hs, rfl⟩ := gd_some h
  refine ⟨fun _ => ⟨by simp [cleanA, clean_ints], rfl⟩, ?_⟩
  simp (config := {maxSteps := 1000000}) (disch := omega) only [go_sem, ↓reduceIte, Nat.reduceEqDiff, Nat.reduceAdd, Nat.reduceMul, Nat.reduceSub, Nat.reduceLeDiff, Nat.reduceLT, Int.reduceToNat, Int.reduceLE, Int.reduceLT, Int.reduceNeg, rep_eI]
  refine W_loop_i (fun s => s.sl 0 = eIs false xs ∧ ∃ m, m < s.n ∧ s.sl 3 = .ref (m, 0) [] 0 0 1 xs.length ∧ ∃ k : Nat, k ≤ xs.length ∧ s.sl 4 = eI k ∧ ∃ ys : List Int, ys.length = xs.length ∧ (∀ i, i < k → ys.getD i 0 = xs.getD i 0) ∧ s.hp (m, 0) = some ⟨1, xs.length, ys.map eI, fun _ => 0⟩) (fun s => xs.length - iN (s.sl 4)) ?_ ?_
  · refine ⟨rfl, _, ?_, rfl, 0, Nat.zero_le _, rfl, List.replicate xs.length 0, by simp, fun i hi => by omega, ?_⟩
    · simp (config := {maxSteps := 1000000}) (disch := omega) only [go_sem, ↓reduceIte, Nat.reduceEqDiff, Nat.reduceAdd, Nat.reduceMul, Nat.reduceSub, Nat.reduceLeDiff, Nat.reduceLT, Int.reduceToNat, Int.reduceLE, Int.reduceLT, Int.reduceNeg]
    · simp (config := {maxSteps := 1000000}) (disch := omega) only [go_sem, ↓reduceIte, Nat.reduceEqDiff, Nat.reduceAdd, Nat.reduceMul, Nat.reduceSub, Nat.reduceLeDiff, Nat.reduceLT, Int.reduceToNat, Int.reduceLE, Int.reduceLT, Int.reduceNeg]
  · rintro sl hp n ⟨h0, m, hm, h3, k, hk, h4, ys, hy, hall, hh⟩
    dsimp only at h0 h3 h4 hh hm
    simp (config := {maxSteps := 1000000}) (disch := omega) only [go_sem, ↓reduceIte, Nat.reduceEqDiff, Nat.reduceAdd, Nat.reduceMul, Nat.reduceSub, Nat.reduceLeDiff, Nat.reduceLT, Int.reduceToNat, Int.reduceLE, Int.reduceLT, Int.reduceNeg, h0, h3, h4]
    (first | refine runKS_split (fun h => ?_) (fun h => ?_) | refine cond_split (fun h => ?_) (fun h => ?_) | refine runK_split (fun h => ?_) (fun h => ?_))
    · have hlt := of_decide_eq_true h
      simp (config := {maxSteps := 1000000}) (disch := omega) only [go_sem, ↓reduceIte, Nat.reduceEqDiff, Nat.reduceAdd, Nat.reduceMul, Nat.reduceSub, Nat.reduceLeDiff, Nat.reduceLT, Int.reduceToNat, Int.reduceLE, Int.reduceLT, Int.reduceNeg, h0, h3, h4, h, hh]
      exact ⟨⟨m, by omega, rfl, k + 1, by omega, rfl, ys.set k (xs.getD k 0), by simp [hy], set_step (fun i => xs.getD i 0) (by omega) hall, upd_same ..⟩, by omega⟩
    · have hge := of_decide_eq_false h
      simp (config := {maxSteps := 1000000}) (disch := omega) only [go_sem, ↓reduceIte, Nat.reduceEqDiff, Nat.reduceAdd, Nat.reduceMul, Nat.reduceSub, Nat.reduceLeDiff, Nat.reduceLT, Int.reduceToNat, Int.reduceLE, Int.reduceLT, Int.reduceNeg, h0, h3, h4, h, hh]
      rw [list_ext hy fun i hi => hall i (by omega)]
theorem fo_toIntS : FnOk Try.prog 23 := fnOk_of Try.func23 (by kernel_rfl)
theorem c_toIntS : Contract Try.prog 23 mToIntS :=
  contract_of_does (DT := fun id => match id with  | _ => []) Try.checked.mixed tabOk gok_nil Try.func23 rfl (by kernel_rfl) (does_toIntS )


end Go.TM
