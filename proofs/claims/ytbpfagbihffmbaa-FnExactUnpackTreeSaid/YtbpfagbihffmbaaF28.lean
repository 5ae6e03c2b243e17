/- Contracts, 28: pages as numbers. -/
import Derived.Test.YtbpfagbihffmbaaF29
namespace Go.TM
open Go.Proofs
set_option linter.unusedVariables false
set_option linter.unusedSimpArgs false
set_option maxRecDepth 100000

/-! ### The check -/

def chkF (n : Int) : List Int → Int
  | [] => n
  | x :: xs => chkF ((n * 41 + x).tmod 2003) xs
def smallB (xs : List Int) : Bool := xs.all fun x => decide (-1000000 ≤ x) && decide (x ≤ 1000000)
theorem smallB_get {xs : List Int} (h : smallB xs = true) {k : Nat} (hk : k < xs.length) : -1000000 ≤ xs.getD k 0 ∧ xs.getD k 0 ≤ 1000000 := by
  have := List.all_eq_true.1 h _ (getD_mem hk)
  simpa using this
theorem tmod_bd (a : Int) : -2003 < a.tmod 2003 ∧ a.tmod 2003 < 2003 := by
  have h1 := Int.tmod_lt_of_pos a (b := 2003) (by omega)
  have h2 := Int.tmod_lt_of_pos (-a) (b := 2003) (by omega)
  rw [Int.neg_tmod] at h2
  omega
theorem chkF_step {xs : List Int} {k : Nat} {n : Int} (h : k < xs.length) : chkF n (xs.drop k) = chkF ((n * 41 + xs.getD k 0).tmod 2003) (xs.drop (k + 1)) := by
  rw [List.drop_eq_getElem_cons h]
  simp [chkF, h]
def mCheck : Model := M1 .ro true (cIs false) fun xs => gd (smallB xs = true ∧ xs.length ≤ 1099511627776) (eI (chkF 23 xs), [])

/-! ### A page's numbers -/

def headN (p : Pg) : Int := 2 * (p.keys.length : Int) + if p.kids.length = 0 then 0 else 1
def bodyN (p : Pg) : List Int := headN p :: (p.keys ++ p.kids ++ p.vals.map (· + 1000))
def packN (p : Pg) : List Int := bodyN p ++ [chkF 23 (bodyN p)]
noncomputable def packV (p : Pg) : List Int := if vPage p = true then packN p else []

theorem vPage_iff {p : Pg} : vPage p = true ↔ vk p.keys = true ∧ p.keys.length ≤ 4 ∧ ((p.kids.length = 0 ∧ p.vals.length = p.keys.length ∧ allR p.vals (-1000) 1000 = true) ∨ (p.kids.length ≠ 0 ∧ p.vals.length = 0 ∧ vInn ⟨p.keys, p.kids⟩ = true)) := by
  unfold vPage
  by_cases h : p.kids.length = 0
  · simp only [if_pos h, Bool.and_eq_true, decide_eq_true_eq]
    constructor
    · rintro ⟨⟨h1, h2⟩, h3, h4⟩
      exact ⟨h1, h2, .inl ⟨h, h3, h4⟩⟩
    · rintro ⟨h1, h2, ⟨_, h3, h4⟩ | ⟨h5, _⟩⟩
      · exact ⟨⟨h1, h2⟩, h3, h4⟩
      · exact (h5 h).elim
  · simp only [if_neg h, Bool.and_eq_true, decide_eq_true_eq]
    constructor
    · rintro ⟨⟨h1, h2⟩, h3, h4⟩
      exact ⟨h1, h2, .inr ⟨h, h3, h4⟩⟩
    · rintro ⟨h1, h2, ⟨h5, _⟩ | ⟨_, h3, h4⟩⟩
      · exact (h h5).elim
      · exact ⟨⟨h1, h2⟩, h3, h4⟩

structure SmallPg (p : Pg) : Prop where
  keys : p.keys.length ≤ 4
  kids : p.kids.length ≤ 5
  vals : p.vals.length ≤ 4
  small : smallB (bodyN p) = true
  keysR : ∀ y ∈ p.keys, 0 ≤ y ∧ y ≤ 99
  kidsR : ∀ y ∈ p.kids, 0 ≤ y ∧ y ≤ 15
  valsR : ∀ y ∈ p.vals, -1000 ≤ y ∧ y ≤ 1000

theorem smallPg {p : Pg} (h : vPage p = true) : SmallPg p := by
  obtain ⟨h1, h2, h3⟩ := vPage_iff.1 h
  have hk : ∀ y ∈ p.keys, 0 ≤ y ∧ y ≤ 99 := by
    intro y hy
    obtain ⟨i, hi, rfl⟩ := mem_getD hy
    exact VK_bounds h1 hi
  have hd : ∀ y ∈ p.kids, 0 ≤ y ∧ y ≤ 15 := by
    rcases h3 with ⟨h0, _⟩ | ⟨_, _, h4⟩
    · rw [List.length_eq_zero_iff.1 h0]; intro y hy; cases hy
    · intro y hy
      have := (vInn_iff.1 h4).2.2.2.2.2
      exact inR_iff.1 (List.all_eq_true.1 this y hy)
  have hv : ∀ y ∈ p.vals, -1000 ≤ y ∧ y ≤ 1000 := by
    rcases h3 with ⟨_, _, h4⟩ | ⟨_, h0, _⟩
    · intro y hy
      exact inR_iff.1 (List.all_eq_true.1 h4 y hy)
    · rw [List.length_eq_zero_iff.1 h0]; intro y hy; cases hy
  refine ⟨h2, ?_, ?_, ?_, hk, hd, hv⟩
  · rcases h3 with ⟨h0, _⟩ | ⟨_, _, h4⟩
    · omega
    · have := (vInn_iff.1 h4).2.2.2.2.1
      dsimp only at this
      omega
  · rcases h3 with ⟨_, h0, _⟩ | ⟨_, h0, _⟩ <;> omega
  · rw [smallB, List.all_eq_true]
    intro x hx
    simp only [Bool.and_eq_true, decide_eq_true_eq]
    simp only [bodyN, List.mem_cons, List.mem_append, List.mem_map] at hx
    rcases hx with rfl | (hx | hx) | ⟨y, hy, rfl⟩
    · unfold headN
      split <;> omega
    · have := hk x hx; omega
    · have := hd x hx; omega
    · have := hv y hy; omega

noncomputable def mPackN : Model := M1 .ro true (cPage false) fun p => gd (vPage p = true) (eIs true (packN p), [])
noncomputable def mPackPage : Model := M1 .ro true (cPage false) fun p => gd (p.keys.length ≤ 1099511627776 ∧ p.kids.length ≤ 1099511627776 ∧ p.vals.length ≤ 1099511627776) (eIs true (packV p), [])
theorem packV_f {p : Pg} (h : vPage p = false) : packV p = [] := by unfold packV; rw [h]; rfl
theorem packV_t {p : Pg} (h : vPage p = true) : packV p = packN p := if_pos h

theorem does_checkOfI {G : Nat → Option FM}  : Does T G (fun id => match id with  | _ => []) Try.f146 mCheck := by
  refine does1 (rs := [.tmp 2]) rfl rfl fun xs ro h => ?_
  obtain ⟨⟨hsm, hs⟩, rfl⟩ := gd_some h
  refine ⟨fun _ => ⟨rfl, rfl⟩, ?_⟩
  simp (config := {maxSteps := 1000000}) (disch := omega) only [go_sem, ↓reduceIte, Nat.reduceEqDiff, Nat.reduceAdd, Nat.reduceMul, Nat.reduceSub, Nat.reduceLeDiff, Nat.reduceLT, Int.reduceToNat, Int.reduceLE, Int.reduceLT, Int.reduceNeg, drP_n, drP_c, logAt_n, logAt_c, disP_n, disP_c, notIn_n, notIn_c]
  refine W_loop_i (fun s => s.sl 6 = eIs false xs ∧ s.sl 7 = eI xs.length ∧ ∃ (k : Nat) (n : Int), k ≤ xs.length ∧ s.sl 8 = eI k ∧ s.sl 3 = eI n ∧ (-2003 < n ∧ n < 2003) ∧ chkF n (xs.drop k) = chkF 23 xs) (fun s => xs.length - iN (s.sl 8)) ?_ ?_
  · exact ⟨rfl, rfl, 0, 23, Nat.zero_le _, rfl, rfl, by omega, rfl⟩
  · rintro sl hp m ⟨h6, h7, k, n, hk, h8, h3, hb, hc⟩
    dsimp only at h6 h7 h8 h3
    simp (config := {maxSteps := 1000000}) (disch := omega) only [go_sem, ↓reduceIte, Nat.reduceEqDiff, Nat.reduceAdd, Nat.reduceMul, Nat.reduceSub, Nat.reduceLeDiff, Nat.reduceLT, Int.reduceToNat, Int.reduceLE, Int.reduceLT, Int.reduceNeg, drP_n, drP_c, logAt_n, logAt_c, disP_n, disP_c, notIn_n, notIn_c, h6, h7, h8, h3]
    (first | refine runKS_split (fun g1 => ?_) (fun g1 => ?_) | refine cond_split (fun g1 => ?_) (fun g1 => ?_) | refine runK_split (fun g1 => ?_) (fun g1 => ?_))
    · have g1' := of_decide_eq_true g1
      have hx := smallB_get hsm (k := k) (by omega)
      simp (config := {maxSteps := 1000000}) (disch := omega) only [go_sem, ↓reduceIte, Nat.reduceEqDiff, Nat.reduceAdd, Nat.reduceMul, Nat.reduceSub, Nat.reduceLeDiff, Nat.reduceLT, Int.reduceToNat, Int.reduceLE, Int.reduceLT, Int.reduceNeg, drP_n, drP_c, logAt_n, logAt_c, disP_n, disP_c, notIn_n, notIn_c, h6, h7, h8, h3, g1]
      refine ⟨⟨k + 1, (41 * n + xs.getD k 0).tmod 2003, by omega, rfl, rfl, tmod_bd _, ?_⟩, by omega⟩
      rw [Int.mul_comm 41 n, ← chkF_step (by omega)]
      exact hc
    · have g1' := of_decide_eq_false g1
      obtain rfl : k = xs.length := by omega
      rw [List.drop_length] at hc
      simp (config := {maxSteps := 1000000}) (disch := omega) only [go_sem, ↓reduceIte, Nat.reduceEqDiff, Nat.reduceAdd, Nat.reduceMul, Nat.reduceSub, Nat.reduceLeDiff, Nat.reduceLT, Int.reduceToNat, Int.reduceLE, Int.reduceLT, Int.reduceNeg, drP_n, drP_c, logAt_n, logAt_c, disP_n, disP_c, notIn_n, notIn_c, h6, h7, h8, h3, g1]
      rw [← hc]
      rfl
theorem fo_checkOfI : FnOk Try.prog 146 := fnOk_of Try.func146 (by kernel_rfl)
theorem c_checkOfI : Contract Try.prog 146 mCheck :=
  contract_of_does (DT := fun id => match id with  | _ => []) Try.checked.mixed tabOk gok_nil Try.func146 rfl (by kernel_rfl) (does_checkOfI )


theorem does_checkOfS {G : Nat → Option FM}  : Does T G (fun id => match id with  | _ => []) Try.f142 mCheck := by
  refine does1 (rs := [.tmp 2]) rfl rfl fun xs ro h => ?_
  obtain ⟨⟨hsm, hs⟩, rfl⟩ := gd_some h
  refine ⟨fun _ => ⟨rfl, rfl⟩, ?_⟩
  simp (config := {maxSteps := 1000000}) (disch := omega) only [go_sem, ↓reduceIte, Nat.reduceEqDiff, Nat.reduceAdd, Nat.reduceMul, Nat.reduceSub, Nat.reduceLeDiff, Nat.reduceLT, Int.reduceToNat, Int.reduceLE, Int.reduceLT, Int.reduceNeg, drP_n, drP_c, logAt_n, logAt_c, disP_n, disP_c, notIn_n, notIn_c]
  refine W_loop_i (fun s => s.sl 0 = eIs false xs ∧ ∃ (k : Nat) (n : Int), k ≤ xs.length ∧ s.sl 4 = eI k ∧ s.sl 3 = eI n ∧ (-2003 < n ∧ n < 2003) ∧ chkF n (xs.drop k) = chkF 23 xs) (fun s => xs.length - iN (s.sl 4)) ?_ ?_
  · exact ⟨rfl, 0, 23, Nat.zero_le _, rfl, rfl, by omega, rfl⟩
  · rintro sl hp m ⟨h0, k, n, hk, h4, h3, hb, hc⟩
    dsimp only at h0 h4 h3
    simp (config := {maxSteps := 1000000}) (disch := omega) only [go_sem, ↓reduceIte, Nat.reduceEqDiff, Nat.reduceAdd, Nat.reduceMul, Nat.reduceSub, Nat.reduceLeDiff, Nat.reduceLT, Int.reduceToNat, Int.reduceLE, Int.reduceLT, Int.reduceNeg, drP_n, drP_c, logAt_n, logAt_c, disP_n, disP_c, notIn_n, notIn_c, h0, h4, h3]
    (first | refine runKS_split (fun g1 => ?_) (fun g1 => ?_) | refine cond_split (fun g1 => ?_) (fun g1 => ?_) | refine runK_split (fun g1 => ?_) (fun g1 => ?_))
    · have g1' := of_decide_eq_true g1
      have hx := smallB_get hsm (k := k) (by omega)
      simp (config := {maxSteps := 1000000}) (disch := omega) only [go_sem, ↓reduceIte, Nat.reduceEqDiff, Nat.reduceAdd, Nat.reduceMul, Nat.reduceSub, Nat.reduceLeDiff, Nat.reduceLT, Int.reduceToNat, Int.reduceLE, Int.reduceLT, Int.reduceNeg, drP_n, drP_c, logAt_n, logAt_c, disP_n, disP_c, notIn_n, notIn_c, h0, h4, h3, g1]
      refine ⟨⟨k + 1, (n * 41 + xs.getD k 0).tmod 2003, by omega, rfl, rfl, tmod_bd _, ?_⟩, by omega⟩
      rw [← chkF_step (by omega)]
      exact hc
    · have g1' := of_decide_eq_false g1
      obtain rfl : k = xs.length := by omega
      rw [List.drop_length] at hc
      simp (config := {maxSteps := 1000000}) (disch := omega) only [go_sem, ↓reduceIte, Nat.reduceEqDiff, Nat.reduceAdd, Nat.reduceMul, Nat.reduceSub, Nat.reduceLeDiff, Nat.reduceLT, Int.reduceToNat, Int.reduceLE, Int.reduceLT, Int.reduceNeg, drP_n, drP_c, logAt_n, logAt_c, disP_n, disP_c, notIn_n, notIn_c, h0, h4, h3, g1]
      rw [← hc]
      rfl
theorem fo_checkOfS : FnOk Try.prog 142 := fnOk_of Try.func142 (by kernel_rfl)
theorem c_checkOfS : Contract Try.prog 142 mCheck :=
  contract_of_does (DT := fun id => match id with  | _ => []) Try.checked.mixed tabOk gok_nil Try.func142 rfl (by kernel_rfl) (does_checkOfS )


def preN (p : Pg) : List Int := headN p :: (p.keys ++ p.kids)
def bodK (p : Pg) (k : Nat) : List Int := preN p ++ (p.vals.take k).map (· + 1000)
theorem bodK_len {p : Pg} {k : Nat} (h : k ≤ p.vals.length) : (bodK p k).length = 1 + p.keys.length + p.kids.length + k := by
  simp only [bodK, preN, List.length_append, List.length_cons, List.length_map, List.length_take]
  omega
theorem bodK_succ {p : Pg} {k : Nat} (h : k < p.vals.length) : bodK p k ++ [p.vals.getD k 0 + 1000] = bodK p (k + 1) := by
  have e : p.vals.getD k 0 = p.vals[k] := by simp [h]
  unfold bodK
  rw [List.take_succ_eq_append_getElem h, List.map_append, e, List.append_assoc]
  rfl
theorem bodK_all (p : Pg) : bodK p p.vals.length = bodyN p := by
  unfold bodK bodyN preN
  rw [List.take_length]
  rfl
theorem bodK_zero (p : Pg) : bodK p 0 = headN p :: (p.keys ++ p.kids) := by simp [bodK, preN]
theorem headN_0 {p : Pg} (h : p.kids.length = 0) : headN p = 2 * (p.keys.length : Int) := by simp [headN, h]
theorem headN_1 {p : Pg} (h : p.kids.length ≠ 0) : headN p = 2 * (p.keys.length : Int) + 1 := by simp [headN, h]
theorem app_I' {xs : List Int} {k : Nat} {v : Int} (h : xs.length = k) : (xs.map eI).take k ++ [A.i .i64 v] = (xs ++ [v]).map eI := by
  rw [List.take_of_length_le (by simp; omega)]
  simp

theorem does_packPage {G : Nat → Option FM} (h_toInt : G 84 = some (.model mToInt)) (h_checkOfS : G 142 = some (.model mCheck)) : Does T G (fun id => match id with | 1 => [(8, 0), (8, 1), (8, 11), (10, 11), (8, 12), (10, 12)] | _ => []) Try.f144 mPackN := by
  refine does1 (rs := [.tmp 2]) rfl rfl fun p ro h => ?_
  obtain ⟨hv, rfl⟩ := gd_some h
  refine ⟨fun _ => ⟨by simp [cleanA, cleanL, clean_ints], rfl⟩, ?_⟩
  have sp := smallPg hv
  have s1 := sp.keys
  have s2 := sp.kids
  have s3 := sp.vals
  have sb := sp.small
  have bl := bodK_len (p := p) (Nat.le_refl p.vals.length)
  rw [bodK_all] at bl
  have hb0 : (if decide ((0 : Int) < (p.kids.length : Int)) = true then (1 : Int) else 0) = headN p - 2 * (p.keys.length : Int) := by
    unfold headN
    by_cases hk : p.kids.length = 0
    · rw [decide_eq_false (by omega), if_pos hk]; simp
    · rw [decide_eq_true (by omega), if_neg hk, if_pos rfl]; omega
  have hsum : 2 * (p.keys.length : Int) + (headN p - 2 * (p.keys.length : Int)) = headN p := by omega
  have hbd : 0 ≤ headN p ∧ headN p ≤ 9 := by
    unfold headN
    split <;> omega
  simp (config := {maxSteps := 1000000}) (disch := omega) only [go_sem, ↓reduceIte, Nat.reduceEqDiff, Nat.reduceAdd, Nat.reduceMul, Nat.reduceSub, Nat.reduceLeDiff, Nat.reduceLT, Int.reduceToNat, Int.reduceLE, Int.reduceLT, Int.reduceNeg, h_toInt, mToInt, h_checkOfS, mCheck, drP_n, drP_c, logAt_n, logAt_c, disP_n, disP_c, notIn_n, notIn_c, hb0, hsum]
  refine W_loop_i (fun s => s.sl 1 = .ptr (3, 0) [] 0 0 ∧ s.hp (3, 0) = some ⟨3, 1, [eIs false p.keys, eIs false p.kids, eIs false p.vals], fun _ => 0⟩ ∧ ∃ k m : Nat, k ≤ p.vals.length ∧ s.sl 4 = eI k ∧ 3 < m ∧ m < s.n ∧ s.sl 3 = .ref (m, 0) [] 0 0 1 (bodK p k).length ∧ s.hp (m, 0) = some ⟨1, (bodK p k).length, (bodK p k).map eI, fun _ => 0⟩) (fun s => p.vals.length - iN (s.sl 4)) ?_ ?_
  · have l0 := bodK_len (p := p) (k := 0) (Nat.zero_le _)
    refine ⟨rfl, rfl, 0, 23, Nat.zero_le _, rfl, by omega, by dsimp only [St.n]; omega, ?_, ?_⟩
    · simp (config := {maxSteps := 1000000}) (disch := omega) only [go_sem, ↓reduceIte, Nat.reduceEqDiff, Nat.reduceAdd, Nat.reduceMul, Nat.reduceSub, Nat.reduceLeDiff, Nat.reduceLT, Int.reduceToNat, Int.reduceLE, Int.reduceLT, Int.reduceNeg, h_toInt, mToInt, h_checkOfS, mCheck, drP_n, drP_c, logAt_n, logAt_c, disP_n, disP_c, notIn_n, notIn_c, l0]
    · simp (config := {maxSteps := 1000000}) (disch := omega) only [go_sem, ↓reduceIte, Nat.reduceEqDiff, Nat.reduceAdd, Nat.reduceMul, Nat.reduceSub, Nat.reduceLeDiff, Nat.reduceLT, Int.reduceToNat, Int.reduceLE, Int.reduceLT, Int.reduceNeg, h_toInt, mToInt, h_checkOfS, mCheck, drP_n, drP_c, logAt_n, logAt_c, disP_n, disP_c, notIn_n, notIn_c, l0, bodK_zero]
      rw [List.take_of_length_le (by simp; omega), show 1 + p.keys.length + p.kids.length = (headN p :: (p.keys ++ p.kids)).length from by simp; omega]
      simp
  · rintro sl hp n ⟨h1, hh3, k, m, hk, h4, hm3, hm, h3, hh⟩
    dsimp only at h1 hh3 h4 h3 hh hm
    have lk := bodK_len (p := p) hk
    simp (config := {maxSteps := 1000000}) (disch := omega) only [go_sem, ↓reduceIte, Nat.reduceEqDiff, Nat.reduceAdd, Nat.reduceMul, Nat.reduceSub, Nat.reduceLeDiff, Nat.reduceLT, Int.reduceToNat, Int.reduceLE, Int.reduceLT, Int.reduceNeg, h_toInt, mToInt, h_checkOfS, mCheck, drP_n, drP_c, logAt_n, logAt_c, disP_n, disP_c, notIn_n, notIn_c, h1, hh3, h4, h3, hh]
    (first | refine runKS_split (fun g1 => ?_) (fun g1 => ?_) | refine cond_split (fun g1 => ?_) (fun g1 => ?_) | refine runK_split (fun g1 => ?_) (fun g1 => ?_))
    · have g1' := of_decide_eq_true g1
      have lk1 := bodK_len (p := p) (k := k + 1) (by omega)
      have vb := sp.valsR (p.vals.getD k 0) (getD_mem (by omega))
      simp (config := {maxSteps := 1000000}) (disch := omega) only [go_sem, ↓reduceIte, Nat.reduceEqDiff, Nat.reduceAdd, Nat.reduceMul, Nat.reduceSub, Nat.reduceLeDiff, Nat.reduceLT, Int.reduceToNat, Int.reduceLE, Int.reduceLT, Int.reduceNeg, h_toInt, mToInt, h_checkOfS, mCheck, drP_n, drP_c, logAt_n, logAt_c, disP_n, disP_c, notIn_n, notIn_c, h1, hh3, h4, h3, hh, g1, app_I', bodK_succ]
      have el : (bodK p (k + 1)).length = (bodK p k).length + 1 := by omega
      exact ⟨⟨k + 1, n + 5 + 8, by omega, rfl, by omega, by omega, by rw [el], by rw [upd_same, el]⟩, by omega⟩
    · have g1' := of_decide_eq_false g1
      obtain rfl : k = p.vals.length := by omega
      rw [bodK_all] at h3 hh lk
      simp (config := {maxSteps := 1000000}) (disch := omega) only [go_sem, ↓reduceIte, Nat.reduceEqDiff, Nat.reduceAdd, Nat.reduceMul, Nat.reduceSub, Nat.reduceLeDiff, Nat.reduceLT, Int.reduceToNat, Int.reduceLE, Int.reduceLT, Int.reduceNeg, h_toInt, mToInt, h_checkOfS, mCheck, drP_n, drP_c, logAt_n, logAt_c, disP_n, disP_c, notIn_n, notIn_c, h1, hh3, h4, h3, hh, g1, sb, app_I']
      rw [show (bodyN p).length + 1 = (packN p).length from by simp [packN]]
      rfl
theorem fo_packPage : FnOk Try.prog 144 := fnOk_of Try.func144 (by kernel_rfl)
theorem c_packPage : Contract Try.prog 144 mPackN :=
  contract_of_does (DT := fun id => match id with | 1 => [(8, 0), (8, 1), (8, 11), (10, 11), (8, 12), (10, 12)] | _ => []) Try.checked.mixed tabOk (gok_model fo_toInt c_toInt (gok_model fo_checkOfS c_checkOfS gok_nil)) Try.func144 rfl (by kernel_rfl) (does_packPage rfl rfl)



theorem pack3 (p : Pg) : [[headN p], p.keys, p.kids].flatten = bodK p 0 := by simp [bodK_zero]
theorem cIss_3h (o : Bool) (k : Int) (a b : List Int) : (cS o (cS o cI)).d (.s o 1 3 [.s o 1 1 [.i .i64 k], eIs o a, eIs o b]) = some [[k], a, b] := (cS o (cS o cI)).de [[k], a, b]

theorem does_PackPageI {G : Nat → Option FM} (h_FitsPageI : G 143 = some (.model mFits)) (h_concatI : G 145 = some (.model mConcatI)) (h_checkOfI : G 146 = some (.model mCheck)) : Does T G (fun id => match id with  | _ => []) Try.f94 mPackPage := by
  refine does1 (rs := [.tmp 2]) rfl rfl fun p ro h => ?_
  obtain ⟨hs, rfl⟩ := gd_some h
  refine ⟨fun _ => ⟨by simp [cleanA, cleanL, clean_ints], rfl⟩, ?_⟩
  cases hv : vPage p
  · rw [packV_f hv]
    simp (config := {maxSteps := 1000000}) (disch := omega) only [go_sem, ↓reduceIte, Nat.reduceEqDiff, Nat.reduceAdd, Nat.reduceMul, Nat.reduceSub, Nat.reduceLeDiff, Nat.reduceLT, Int.reduceToNat, Int.reduceLE, Int.reduceLT, Int.reduceNeg, h_FitsPageI, mFits, h_concatI, mConcatI, h_checkOfI, mCheck, drP_n, drP_c, logAt_n, logAt_c, disP_n, disP_c, notIn_n, notIn_c, hv]
    try rfl
  · rw [packV_t hv]
    have sp := smallPg hv
    have s1 := sp.keys
    have s2 := sp.kids
    have s3 := sp.vals
    have sb := sp.small
    have bl := bodK_len (p := p) (Nat.le_refl p.vals.length)
    have l0 := bodK_len (p := p) (k := 0) (Nat.zero_le _)
    rw [bodK_all] at bl
    have d1 : decide (p.keys.length ≤ 68719476736) = true := decide_eq_true (by omega)
    have d2 : decide (p.kids.length ≤ 68719476736) = true := decide_eq_true (by omega)
    have d3 : decide ([headN p].length ≤ 68719476736) = true := by simp
    have hbd : 0 ≤ headN p ∧ headN p ≤ 9 := by
      unfold headN
      split <;> omega
    by_cases hk : p.kids.length = 0
    · have e0 : decide ((0 : Int) < (p.kids.length : Int)) = false := decide_eq_false (by omega)
      have hh := headN_0 hk
      simp (config := {maxSteps := 1000000}) (disch := omega) only [go_sem, ↓reduceIte, Nat.reduceEqDiff, Nat.reduceAdd, Nat.reduceMul, Nat.reduceSub, Nat.reduceLeDiff, Nat.reduceLT, Int.reduceToNat, Int.reduceLE, Int.reduceLT, Int.reduceNeg, h_FitsPageI, mFits, h_concatI, mConcatI, h_checkOfI, mCheck, drP_n, drP_c, logAt_n, logAt_c, disP_n, disP_c, notIn_n, notIn_c, hv, e0, ← hh, cIss_3h, pack3, d1, d2, d3, Bool.and_true, Bool.true_and]
      refine W_loop_i (fun s => s.sl 29 = eIs false p.vals ∧ s.sl 30 = eI p.vals.length ∧ ∃ k m : Nat, k ≤ p.vals.length ∧ s.sl 31 = eI k ∧ 3 < m ∧ m < s.n ∧ s.sl 4 = .ref (m, 0) [] 0 0 1 (bodK p k).length ∧ s.hp (m, 0) = some ⟨1, (bodK p k).length, (bodK p k).map eI, fun _ => 0⟩) (fun s => p.vals.length - iN (s.sl 31)) ?_ ?_
      · exact ⟨rfl, rfl, 0, 24, Nat.zero_le _, rfl, by omega, by dsimp only [St.n]; omega, rfl, rfl⟩
      · rintro sl hp n ⟨h29, h30, k, m, hk', h31, hm3, hm, h4, hh'⟩
        dsimp only at h29 h30 h31 h4 hh' hm
        have lk := bodK_len (p := p) hk'
        simp (config := {maxSteps := 1000000}) (disch := omega) only [go_sem, ↓reduceIte, Nat.reduceEqDiff, Nat.reduceAdd, Nat.reduceMul, Nat.reduceSub, Nat.reduceLeDiff, Nat.reduceLT, Int.reduceToNat, Int.reduceLE, Int.reduceLT, Int.reduceNeg, h_FitsPageI, mFits, h_concatI, mConcatI, h_checkOfI, mCheck, drP_n, drP_c, logAt_n, logAt_c, disP_n, disP_c, notIn_n, notIn_c, h29, h30, h31, h4, hh']
        (first | refine runKS_split (fun g1 => ?_) (fun g1 => ?_) | refine cond_split (fun g1 => ?_) (fun g1 => ?_) | refine runK_split (fun g1 => ?_) (fun g1 => ?_))
        · have g1' := of_decide_eq_true g1
          have lk1 := bodK_len (p := p) (k := k + 1) (by omega)
          have vb := sp.valsR (p.vals.getD k 0) (getD_mem (by omega))
          simp (config := {maxSteps := 1000000}) (disch := omega) only [go_sem, ↓reduceIte, Nat.reduceEqDiff, Nat.reduceAdd, Nat.reduceMul, Nat.reduceSub, Nat.reduceLeDiff, Nat.reduceLT, Int.reduceToNat, Int.reduceLE, Int.reduceLT, Int.reduceNeg, h_FitsPageI, mFits, h_concatI, mConcatI, h_checkOfI, mCheck, drP_n, drP_c, logAt_n, logAt_c, disP_n, disP_c, notIn_n, notIn_c, h29, h30, h31, h4, hh', g1, app_I', bodK_succ]
          have el : (bodK p (k + 1)).length = (bodK p k).length + 1 := by omega
          exact ⟨⟨k + 1, n + 1 + 3 + 4, by omega, rfl, by omega, by omega, by rw [el], by rw [upd_same, el]⟩, by omega⟩
        · have g1' := of_decide_eq_false g1
          obtain rfl : k = p.vals.length := by omega
          rw [bodK_all] at h4 hh' lk
          simp (config := {maxSteps := 1000000}) (disch := omega) only [go_sem, ↓reduceIte, Nat.reduceEqDiff, Nat.reduceAdd, Nat.reduceMul, Nat.reduceSub, Nat.reduceLeDiff, Nat.reduceLT, Int.reduceToNat, Int.reduceLE, Int.reduceLT, Int.reduceNeg, h_FitsPageI, mFits, h_concatI, mConcatI, h_checkOfI, mCheck, drP_n, drP_c, logAt_n, logAt_c, disP_n, disP_c, notIn_n, notIn_c, h29, h30, h31, h4, hh', g1, sb, app_I']
          rw [show (bodyN p).length + 1 = (packN p).length from by simp [packN]]
          rfl
    · have e0 : decide ((0 : Int) < (p.kids.length : Int)) = true := decide_eq_true (by omega)
      have hh := headN_1 hk
      simp (config := {maxSteps := 1000000}) (disch := omega) only [go_sem, ↓reduceIte, Nat.reduceEqDiff, Nat.reduceAdd, Nat.reduceMul, Nat.reduceSub, Nat.reduceLeDiff, Nat.reduceLT, Int.reduceToNat, Int.reduceLE, Int.reduceLT, Int.reduceNeg, h_FitsPageI, mFits, h_concatI, mConcatI, h_checkOfI, mCheck, drP_n, drP_c, logAt_n, logAt_c, disP_n, disP_c, notIn_n, notIn_c, hv, e0, ← hh, cIss_3h, pack3, d1, d2, d3, Bool.and_true, Bool.true_and]
      refine W_loop_i (fun s => s.sl 29 = eIs false p.vals ∧ s.sl 30 = eI p.vals.length ∧ ∃ k m : Nat, k ≤ p.vals.length ∧ s.sl 31 = eI k ∧ 3 < m ∧ m < s.n ∧ s.sl 4 = .ref (m, 0) [] 0 0 1 (bodK p k).length ∧ s.hp (m, 0) = some ⟨1, (bodK p k).length, (bodK p k).map eI, fun _ => 0⟩) (fun s => p.vals.length - iN (s.sl 31)) ?_ ?_
      · exact ⟨rfl, rfl, 0, 27, Nat.zero_le _, rfl, by omega, by dsimp only [St.n]; omega, rfl, rfl⟩
      · rintro sl hp n ⟨h29, h30, k, m, hk', h31, hm3, hm, h4, hh'⟩
        dsimp only at h29 h30 h31 h4 hh' hm
        have lk := bodK_len (p := p) hk'
        simp (config := {maxSteps := 1000000}) (disch := omega) only [go_sem, ↓reduceIte, Nat.reduceEqDiff, Nat.reduceAdd, Nat.reduceMul, Nat.reduceSub, Nat.reduceLeDiff, Nat.reduceLT, Int.reduceToNat, Int.reduceLE, Int.reduceLT, Int.reduceNeg, h_FitsPageI, mFits, h_concatI, mConcatI, h_checkOfI, mCheck, drP_n, drP_c, logAt_n, logAt_c, disP_n, disP_c, notIn_n, notIn_c, h29, h30, h31, h4, hh']
        (first | refine runKS_split (fun g1 => ?_) (fun g1 => ?_) | refine cond_split (fun g1 => ?_) (fun g1 => ?_) | refine runK_split (fun g1 => ?_) (fun g1 => ?_))
        · have g1' := of_decide_eq_true g1
          have lk1 := bodK_len (p := p) (k := k + 1) (by omega)
          have vb := sp.valsR (p.vals.getD k 0) (getD_mem (by omega))
          simp (config := {maxSteps := 1000000}) (disch := omega) only [go_sem, ↓reduceIte, Nat.reduceEqDiff, Nat.reduceAdd, Nat.reduceMul, Nat.reduceSub, Nat.reduceLeDiff, Nat.reduceLT, Int.reduceToNat, Int.reduceLE, Int.reduceLT, Int.reduceNeg, h_FitsPageI, mFits, h_concatI, mConcatI, h_checkOfI, mCheck, drP_n, drP_c, logAt_n, logAt_c, disP_n, disP_c, notIn_n, notIn_c, h29, h30, h31, h4, hh', g1, app_I', bodK_succ]
          have el : (bodK p (k + 1)).length = (bodK p k).length + 1 := by omega
          exact ⟨⟨k + 1, n + 1 + 3 + 4, by omega, rfl, by omega, by omega, by rw [el], by rw [upd_same, el]⟩, by omega⟩
        · have g1' := of_decide_eq_false g1
          obtain rfl : k = p.vals.length := by omega
          rw [bodK_all] at h4 hh' lk
          simp (config := {maxSteps := 1000000}) (disch := omega) only [go_sem, ↓reduceIte, Nat.reduceEqDiff, Nat.reduceAdd, Nat.reduceMul, Nat.reduceSub, Nat.reduceLeDiff, Nat.reduceLT, Int.reduceToNat, Int.reduceLE, Int.reduceLT, Int.reduceNeg, h_FitsPageI, mFits, h_concatI, mConcatI, h_checkOfI, mCheck, drP_n, drP_c, logAt_n, logAt_c, disP_n, disP_c, notIn_n, notIn_c, h29, h30, h31, h4, hh', g1, sb, app_I']
          rw [show (bodyN p).length + 1 = (packN p).length from by simp [packN]]
          rfl
theorem fo_PackPageI : FnOk Try.prog 94 := fnOk_of Try.func94 (by kernel_rfl)
theorem c_PackPageI : Contract Try.prog 94 mPackPage :=
  contract_of_does (DT := fun id => match id with  | _ => []) Try.checked.mixed tabOk (gok_model fo_FitsPageI c_FitsPageI (gok_model fo_concatI c_concatI (gok_model fo_checkOfI c_checkOfI gok_nil))) Try.func94 rfl (by kernel_rfl) (does_PackPageI rfl rfl rfl)



/-! ### Marks in pages -/



def mkPg (a b c : Nat) (k : Int) : Pg := ⟨marks a k, marks b (k + a), marks c (k + a + b)⟩
def mHeldPage : Model := M2 .ro .ro true (cPage false) cI fun x k => gd ((x.keys.length ≤ 549755813888 ∧ x.kids.length ≤ 549755813888 ∧ x.vals.length ≤ 549755813888) ∧ 0 ≤ k ∧ k ≤ 34359738368 ∧ x.keys.length ≤ 34359738368 ∧ x.kids.length ≤ 34359738368) (eI (if x = mkPg x.keys.length x.kids.length x.vals.length k then k + x.keys.length + x.kids.length + x.vals.length else -1), [])


theorem packV_len (p : Pg) : (packV p).length ≤ 2 + p.keys.length + p.kids.length + p.vals.length := by
  unfold packV
  split
  · simp only [packN, bodyN, List.length_append, List.length_cons, List.length_map, List.length_nil]; omega
  · simp

theorem fn_FnExactPackPage (x : Pg) (h : ((∀ y ∈ x.keys, intWf .i64 y) ∧ x.keys.length ≤ maxLen) ∧ ((∀ y ∈ x.kids, intWf .i64 y) ∧ x.kids.length ≤ maxLen) ∧ (∀ y ∈ x.vals, intWf .i64 y) ∧ x.vals.length ≤ maxLen) : mLawPage.fn [ePage false x] = some (.b true, []) := by
  have h2 : x.keys.length ≤ 9223372036854775807 := h.1.2
  have h3 : x.kids.length ≤ 9223372036854775807 := h.2.1.2
  have h4 : x.vals.length ≤ 9223372036854775807 := h.2.2.2
  simp (config := {maxSteps := 1000000}) (disch := omega) only [go_sem, ↓reduceIte, Nat.reduceEqDiff, Nat.reduceAdd, Nat.reduceMul, Nat.reduceSub, Nat.reduceLeDiff, Nat.reduceLT, Int.reduceToNat, Int.reduceLE, Int.reduceLT, Int.reduceNeg, mLawPage]

/-! ### The page at the beginning of numbers -/

/-- The part of some numbers that a page takes, and the page. -/
def hdN (xs : List Int) : Nat := (xs.getD 0 0).toNat
def szN (xs : List Int) : Nat := 2 * (hdN xs / 2) + 2 + hdN xs % 2
def pgN (xs : List Int) : Pg :=
  if hdN xs % 2 = 1 then ⟨sub xs 1 (hdN xs / 2), sub xs (hdN xs / 2 + 1) (hdN xs / 2 + 1), []⟩
  else ⟨sub xs 1 (hdN xs / 2), [], (sub xs (hdN xs / 2 + 1) (hdN xs / 2)).map (· - 1000)⟩
def goodN (xs : List Int) : Prop := xs.length ≠ 0 ∧ inR (xs.getD 0 0) 0 9 = true ∧ szN xs ≤ xs.length
structure Uv where
  p : Pg
  n : Int
  ok : Bool
open Classical in
noncomputable def unV (xs : List Int) : Uv := if goodN xs ∧ vPage (pgN xs) = true ∧ xs.getD (szN xs - 1) 0 = chkF 23 (xs.take (szN xs - 1)) then ⟨pgN xs, szN xs, true⟩ else ⟨⟨[], [], []⟩, 0, false⟩
theorem unV_f {xs : List Int} (h : ¬ (goodN xs ∧ vPage (pgN xs) = true ∧ xs.getD (szN xs - 1) 0 = chkF 23 (xs.take (szN xs - 1)))) : unV xs = ⟨⟨[], [], []⟩, 0, false⟩ := if_neg h
theorem unV_t {xs : List Int} (h : goodN xs ∧ vPage (pgN xs) = true ∧ xs.getD (szN xs - 1) 0 = chkF 23 (xs.take (szN xs - 1))) : unV xs = ⟨pgN xs, szN xs, true⟩ := if_pos h

/-- What is packed again is what was there, up to the check. -/
theorem body_pg {xs : List Int} (h : goodN xs) : bodyN (pgN xs) = xs.take (szN xs - 1) := by
  obtain ⟨h0, h1, h2⟩ := h
  have hr := inR_iff.1 h1
  have hd : (hdN xs : Int) = xs.getD 0 0 := by unfold hdN; omega
  have hm : hdN xs ≤ 9 := by omega
  have hs : szN xs = 2 * (hdN xs / 2) + 2 + hdN xs % 2 := rfl
  obtain ⟨m, hmm⟩ : ∃ m, m = hdN xs := ⟨_, rfl⟩
  rw [← hmm] at hd hm hs
  have hx : xs = xs.getD 0 0 :: xs.drop 1 := by
    cases xs with
    | nil => simp at h0
    | cons x xs => rfl
  have hpair : ∀ a b : Nat, sub xs (a + 1) b = ((xs.drop 1).drop a).take b := by
    intro a b
    unfold sub
    rw [List.drop_drop, Nat.add_comm]
  have l1 : (sub xs 1 (m / 2)).length = m / 2 := by unfold sub; rw [List.length_take, List.length_drop]; omega
  have e1 : sub xs 1 (m / 2) = (xs.drop 1).take (m / 2) := rfl
  have glue : ∀ k, (xs.drop 1).take (m / 2) ++ ((xs.drop 1).drop (m / 2)).take k = (xs.drop 1).take (m / 2 + k) := by
    intro k
    rw [List.take_add]
  have fin : ∀ k, m / 2 + k + 1 = szN xs - 1 → xs.getD 0 0 :: (xs.drop 1).take (m / 2 + k) = xs.take (szN xs - 1) := by
    intro k hk
    rw [← hk]
    conv => rhs; rw [hx]
    rw [List.take_succ_cons]
  unfold pgN
  rw [← hmm]
  split
  · rename_i h3
    have l2 : (sub xs (m / 2 + 1) (m / 2 + 1)).length = m / 2 + 1 := by unfold sub; rw [List.length_take, List.length_drop]; omega
    simp only [bodyN, headN, l1, l2, List.map_nil, List.append_nil]
    rw [if_neg (by omega), hpair (m / 2), e1, glue, show 2 * ((m / 2 : Nat) : Int) + 1 = xs.getD 0 0 from by omega]
    exact fin _ (by omega)
  · rename_i h3
    simp only [bodyN, headN, l1, List.length_nil, if_true, List.append_nil, List.map_map]
    have e2 : ((sub xs (m / 2 + 1) (m / 2)).map ((· + 1000) ∘ (· - 1000))) = sub xs (m / 2 + 1) (m / 2) := by
      refine (List.map_congr_left fun a _ => ?_).trans (List.map_id _)
      show a - 1000 + 1000 = a
      omega
    rw [e2, hpair (m / 2), e1, glue, show 2 * ((m / 2 : Nat) : Int) + 0 = xs.getD 0 0 from by omega]
    exact fin _ (by omega)

theorem pack_pg {xs : List Int} (h : goodN xs) : packN (pgN xs) = xs.take (szN xs) ↔ xs.getD (szN xs - 1) 0 = chkF 23 (xs.take (szN xs - 1)) := by
  have hb := body_pg h
  obtain ⟨h0, h1, h2⟩ := h
  have hs : 1 ≤ szN xs := by unfold szN; omega
  have e : xs.take (szN xs) = xs.take (szN xs - 1) ++ [xs.getD (szN xs - 1) 0] := by
    have := List.take_succ_eq_append_getElem (l := xs) (i := szN xs - 1) (by omega)
    rw [show szN xs - 1 + 1 = szN xs from by omega] at this
    rw [this]
    simp [show szN xs - 1 < xs.length by omega]
  unfold packN
  rw [hb, e, List.append_cancel_left_eq, List.cons.injEq]
  constructor
  · rintro ⟨h, _⟩; exact h.symm
  · intro h; exact ⟨h.symm, rfl⟩
end Go.TM
