/- Contracts, 28: pages as numbers. -/
import Derived.Test.YtbpfagbihffmbaaF29
namespace Go.TM
open Go.Proofs
set_option linter.unusedVariables false
set_option linter.unusedSimpArgs false
set_option maxRecDepth 100000

/-! ### The check -/

def chkF (n : Int) : List Int → Int
  | [] => n
  | x :: xs => chkF ((n * 41 + x).tmod 2003) xs
def smallB (xs : List Int) : Bool := xs.all fun x => decide (-1000000 ≤ x) && decide (x ≤ 1000000)
theorem smallB_get {xs : List Int} (h : smallB xs = true) {k : Nat} (hk : k < xs.length) : -1000000 ≤ xs.getD k 0 ∧ xs.getD k 0 ≤ 1000000 := by
  have := List.all_eq_true.1 h _ (getD_mem hk)
  simpa using this
theorem tmod_bd (a : Int) : -2003 < a.tmod 2003 ∧ a.tmod 2003 < 2003 := by
  have h1 := Int.tmod_lt_of_pos a (b := 2003) (by omega)
  have h2 := Int.tmod_lt_of_pos (-a) (b := 2003) (by omega)
  rw [Int.neg_tmod] at h2
  omega
theorem chkF_step {xs : List Int} {k : Nat} {n : Int} (h : k < xs.length) : chkF n (xs.drop k) = chkF ((n * 41 + xs.getD k 0).tmod 2003) (xs.drop (k + 1)) := by
  rw [List.drop_eq_getElem_cons h]
  simp [chkF, h]
def mCheck : Model := M1 .ro true (cIs false) fun xs => gd (smallB xs = true ∧ xs.length ≤ 1099511627776) (eI (chkF 23 xs), [])

/-! ### A page's numbers -/

def headN (p : Pg) : Int := 2 * (p.keys.length : Int) + if p.kids.length = 0 then 0 else 1
def bodyN (p : Pg) : List Int := headN p :: (p.keys ++ p.kids ++ p.vals.map (· + 1000))
def packN (p : Pg) : List Int := bodyN p ++ [chkF 23 (bodyN p)]
noncomputable def packV (p : Pg) : List Int := if vPage p = true then packN p else []

theorem vPage_iff {p : Pg} : vPage p = true ↔ vk p.keys = true ∧ p.keys.length ≤ 4 ∧ ((p.kids.length = 0 ∧ p.vals.length = p.keys.length ∧ allR p.vals (-1000) 1000 = true) ∨ (p.kids.length ≠ 0 ∧ p.vals.length = 0 ∧ vInn ⟨p.keys, p.kids⟩ = true)) := by
  unfold vPage
  by_cases h : p.kids.length = 0
  · simp only [if_pos h, Bool.and_eq_true, decide_eq_true_eq]
    constructor
    · rintro ⟨⟨h1, h2⟩, h3, h4⟩
      exact ⟨h1, h2, .inl ⟨h, h3, h4⟩⟩
    · rintro ⟨h1, h2, ⟨_, h3, h4⟩ | ⟨h5, _⟩⟩
      · exact ⟨⟨h1, h2⟩, h3, h4⟩
      · exact (h5 h).elim
  · simp only [if_neg h, Bool.and_eq_true, decide_eq_true_eq]
    constructor
    · rintro ⟨⟨h1, h2⟩, h3, h4⟩
      exact ⟨h1, h2, .inr ⟨h, h3, h4⟩⟩
    · rintro ⟨h1, h2, ⟨h5, _⟩ | ⟨_, h3, h4⟩⟩
      · exact (h h5).elim
      · exact ⟨⟨h1, h2⟩, h3, h4⟩

structure SmallPg (p : Pg) : Prop where
  keys : p.keys.length ≤ 4
  kids : p.kids.length ≤ 5
  vals : p.vals.length ≤ 4
  small : smallB (bodyN p) = true
  keysR : ∀ y ∈ p.keys, 0 ≤ y ∧ y ≤ 99
  kidsR : ∀ y ∈ p.kids, 0 ≤ y ∧ y ≤ 15
  valsR : ∀ y ∈ p.vals, -1000 ≤ y ∧ y ≤ 1000

theorem smallPg {p : Pg} (h : vPage p = true) : SmallPg p := by
  obtain ⟨h1, h2, h3⟩ := vPage_iff.1 h
  have hk : ∀ y ∈ p.keys, 0 ≤ y ∧ y ≤ 99 := by
    intro y hy
    obtain ⟨i, hi, rfl⟩ := mem_getD hy
    exact VK_bounds h1 hi
  have hd : ∀ y ∈ p.kids, 0 ≤ y ∧ y ≤ 15 := by
    rcases h3 with ⟨h0, _⟩ | ⟨_, _, h4⟩
    · rw [List.length_eq_zero_iff.1 h0]; intro y hy; cases hy
    · intro y hy
      have := (vInn_iff.1 h4).2.2.2.2.2
      exact inR_iff.1 (List.all_eq_true.1 this y hy)
  have hv : ∀ y ∈ p.vals, -1000 ≤ y ∧ y ≤ 1000 := by
    rcases h3 with ⟨_, _, h4⟩ | ⟨_, h0, _⟩
    · intro y hy
      exact inR_iff.1 (List.all_eq_true.1 h4 y hy)
    · rw [List.length_eq_zero_iff.1 h0]; intro y hy; cases hy
  refine ⟨h2, ?_, ?_, ?_, hk, hd, hv⟩
  · rcases h3 with ⟨h0, _⟩ | ⟨_, _, h4⟩
    · omega
    · have := (vInn_iff.1 h4).2.2.2.2.1
      dsimp only at this
      omega
  · rcases h3 with ⟨_, h0, _⟩ | ⟨_, h0, _⟩ <;> omega
  · rw [smallB, List.all_eq_true]
    intro x hx
    simp only [Bool.and_eq_true, decide_eq_true_eq]
    simp only [bodyN, List.mem_cons, List.mem_append, List.mem_map] at hx
    rcases hx with rfl | (hx | hx) | ⟨y, hy, rfl⟩
    · unfold headN
      split <;> omega
    · have := hk x hx; omega
    · have := hd x hx; omega
    · have := hv y hy; omega

noncomputable def mPackN : Model := M1 .ro true (cPage false) fun p => gd (vPage p = true) (eIs true (packN p), [])
noncomputable def mPackPage : Model := M1 .ro true (cPage false) fun p => gd (p.keys.length ≤ 1099511627776 ∧ p.kids.length ≤ 1099511627776 ∧ p.vals.length ≤ 1099511627776) (eIs true (packV p), [])
theorem packV_f {p : Pg} (h : vPage p = false) : packV p = [] := by unfold packV; rw [h]; rfl
theorem packV_t {p : Pg} (h : vPage p = true) : packV p = packN p := if_pos h



def preN (p : Pg) : List Int := headN p :: (p.keys ++ p.kids)
def bodK (p : Pg) (k : Nat) : List Int := preN p ++ (p.vals.take k).map (· + 1000)
theorem bodK_len {p : Pg} {k : Nat} (h : k ≤ p.vals.length) : (bodK p k).length = 1 + p.keys.length + p.kids.length + k := by
  simp only [bodK, preN, List.length_append, List.length_cons, List.length_map, List.length_take]
  omega
theorem bodK_succ {p : Pg} {k : Nat} (h : k < p.vals.length) : bodK p k ++ [p.vals.getD k 0 + 1000] = bodK p (k + 1) := by
  have e : p.vals.getD k 0 = p.vals[k] := by simp [h]
  unfold bodK
  rw [List.take_succ_eq_append_getElem h, List.map_append, e, List.append_assoc]
  rfl
theorem bodK_all (p : Pg) : bodK p p.vals.length = bodyN p := by
  unfold bodK bodyN preN
  rw [List.take_length]
  rfl
theorem bodK_zero (p : Pg) : bodK p 0 = headN p :: (p.keys ++ p.kids) := by simp [bodK, preN]
theorem headN_0 {p : Pg} (h : p.kids.length = 0) : headN p = 2 * (p.keys.length : Int) := by simp [headN, h]
theorem headN_1 {p : Pg} (h : p.kids.length ≠ 0) : headN p = 2 * (p.keys.length : Int) + 1 := by simp [headN, h]
theorem app_I' {xs : List Int} {k : Nat} {v : Int} (h : xs.length = k) : (xs.map eI).take k ++ [A.i .i64 v] = (xs ++ [v]).map eI := by
  rw [List.take_of_length_le (by simp; omega)]
  simp



theorem pack3 (p : Pg) : [[headN p], p.keys, p.kids].flatten = bodK p 0 := by simp [bodK_zero]
theorem cIss_3h (o : Bool) (k : Int) (a b : List Int) : (cS o (cS o cI)).d (.s o 1 3 [.s o 1 1 [.i .i64 k], eIs o a, eIs o b]) = some [[k], a, b] := (cS o (cS o cI)).de [[k], a, b]



/-! ### Marks in pages -/



def mkPg (a b c : Nat) (k : Int) : Pg := ⟨marks a k, marks b (k + a), marks c (k + a + b)⟩
def mHeldPage : Model := M2 .ro .ro true (cPage false) cI fun x k => gd ((x.keys.length ≤ 549755813888 ∧ x.kids.length ≤ 549755813888 ∧ x.vals.length ≤ 549755813888) ∧ 0 ≤ k ∧ k ≤ 34359738368 ∧ x.keys.length ≤ 34359738368 ∧ x.kids.length ≤ 34359738368) (eI (if x = mkPg x.keys.length x.kids.length x.vals.length k then k + x.keys.length + x.kids.length + x.vals.length else -1), [])


theorem packV_len (p : Pg) : (packV p).length ≤ 2 + p.keys.length + p.kids.length + p.vals.length := by
  unfold packV
  split
  · simp only [packN, bodyN, List.length_append, List.length_cons, List.length_map, List.length_nil]; omega
  · simp

theorem fn_FnExactPackPage (x : Pg) (h : ((∀ y ∈ x.keys, intWf .i64 y) ∧ x.keys.length ≤ maxLen) ∧ ((∀ y ∈ x.kids, intWf .i64 y) ∧ x.kids.length ≤ maxLen) ∧ (∀ y ∈ x.vals, intWf .i64 y) ∧ x.vals.length ≤ maxLen) : mLawPage.fn [ePage false x] = some (.b true, []) := by
  have h2 : x.keys.length ≤ 9223372036854775807 := h.1.2
  have h3 : x.kids.length ≤ 9223372036854775807 := h.2.1.2
  have h4 : x.vals.length ≤ 9223372036854775807 := h.2.2.2
  simp (config := {maxSteps := 1000000}) (disch := omega) only [go_sem, ↓reduceIte, Nat.reduceEqDiff, Nat.reduceAdd, Nat.reduceMul, Nat.reduceSub, Nat.reduceLeDiff, Nat.reduceLT, Int.reduceToNat, Int.reduceLE, Int.reduceLT, Int.reduceNeg, mLawPage]

/-! ### The page at the beginning of numbers -/

/-- The part of some numbers that a page takes, and the page. -/
def hdN (xs : List Int) : Nat := (xs.getD 0 0).toNat
def szN (xs : List Int) : Nat := 2 * (hdN xs / 2) + 2 + hdN xs % 2
def pgN (xs : List Int) : Pg :=
  if hdN xs % 2 = 1 then ⟨sub xs 1 (hdN xs / 2), sub xs (hdN xs / 2 + 1) (hdN xs / 2 + 1), []⟩
  else ⟨sub xs 1 (hdN xs / 2), [], (sub xs (hdN xs / 2 + 1) (hdN xs / 2)).map (· - 1000)⟩
def goodN (xs : List Int) : Prop := xs.length ≠ 0 ∧ inR (xs.getD 0 0) 0 9 = true ∧ szN xs ≤ xs.length
structure Uv where
  p : Pg
  n : Int
  ok : Bool
open Classical in
noncomputable def unV (xs : List Int) : Uv := if goodN xs ∧ vPage (pgN xs) = true ∧ xs.getD (szN xs - 1) 0 = chkF 23 (xs.take (szN xs - 1)) then ⟨pgN xs, szN xs, true⟩ else ⟨⟨[], [], []⟩, 0, false⟩
theorem unV_f {xs : List Int} (h : ¬ (goodN xs ∧ vPage (pgN xs) = true ∧ xs.getD (szN xs - 1) 0 = chkF 23 (xs.take (szN xs - 1)))) : unV xs = ⟨⟨[], [], []⟩, 0, false⟩ := if_neg h
theorem unV_t {xs : List Int} (h : goodN xs ∧ vPage (pgN xs) = true ∧ xs.getD (szN xs - 1) 0 = chkF 23 (xs.take (szN xs - 1))) : unV xs = ⟨pgN xs, szN xs, true⟩ := if_pos h

/-- What is packed again is what was there, up to the check. -/
theorem body_pg {xs : List Int} (h : goodN xs) : bodyN (pgN xs) = xs.take (szN xs - 1) := by
  obtain ⟨h0, h1, h2⟩ := h
  have hr := inR_iff.1 h1
  have hd : (hdN xs : Int) = xs.getD 0 0 := by unfold hdN; omega
  have hm : hdN xs ≤ 9 := by omega
  have hs : szN xs = 2 * (hdN xs / 2) + 2 + hdN xs % 2 := rfl
  obtain ⟨m, hmm⟩ : ∃ m, m = hdN xs := ⟨_, rfl⟩
  rw [← hmm] at hd hm hs
  have hx : xs = xs.getD 0 0 :: xs.drop 1 := by
    cases xs with
    | nil => simp at h0
    | cons x xs => rfl
  have hpair : ∀ a b : Nat, sub xs (a + 1) b = ((xs.drop 1).drop a).take b := by
    intro a b
    unfold sub
    rw [List.drop_drop, Nat.add_comm]
  have l1 : (sub xs 1 (m / 2)).length = m / 2 := by unfold sub; rw [List.length_take, List.length_drop]; omega
  have e1 : sub xs 1 (m / 2) = (xs.drop 1).take (m / 2) := rfl
  have glue : ∀ k, (xs.drop 1).take (m / 2) ++ ((xs.drop 1).drop (m / 2)).take k = (xs.drop 1).take (m / 2 + k) := by
    intro k
    rw [List.take_add]
  have fin : ∀ k, m / 2 + k + 1 = szN xs - 1 → xs.getD 0 0 :: (xs.drop 1).take (m / 2 + k) = xs.take (szN xs - 1) := by
    intro k hk
    rw [← hk]
    conv => rhs; rw [hx]
    rw [List.take_succ_cons]
  unfold pgN
  rw [← hmm]
  split
  · rename_i h3
    have l2 : (sub xs (m / 2 + 1) (m / 2 + 1)).length = m / 2 + 1 := by unfold sub; rw [List.length_take, List.length_drop]; omega
    simp only [bodyN, headN, l1, l2, List.map_nil, List.append_nil]
    rw [if_neg (by omega), hpair (m / 2), e1, glue, show 2 * ((m / 2 : Nat) : Int) + 1 = xs.getD 0 0 from by omega]
    exact fin _ (by omega)
  · rename_i h3
    simp only [bodyN, headN, l1, List.length_nil, if_true, List.append_nil, List.map_map]
    have e2 : ((sub xs (m / 2 + 1) (m / 2)).map ((· + 1000) ∘ (· - 1000))) = sub xs (m / 2 + 1) (m / 2) := by
      refine (List.map_congr_left fun a _ => ?_).trans (List.map_id _)
      show a - 1000 + 1000 = a
      omega
    rw [e2, hpair (m / 2), e1, glue, show 2 * ((m / 2 : Nat) : Int) + 0 = xs.getD 0 0 from by omega]
    exact fin _ (by omega)

theorem pack_pg {xs : List Int} (h : goodN xs) : packN (pgN xs) = xs.take (szN xs) ↔ xs.getD (szN xs - 1) 0 = chkF 23 (xs.take (szN xs - 1)) := by
  have hb := body_pg h
  obtain ⟨h0, h1, h2⟩ := h
  have hs : 1 ≤ szN xs := by unfold szN; omega
  have e : xs.take (szN xs) = xs.take (szN xs - 1) ++ [xs.getD (szN xs - 1) 0] := by
    have := List.take_succ_eq_append_getElem (l := xs) (i := szN xs - 1) (by omega)
    rw [show szN xs - 1 + 1 = szN xs from by omega] at this
    rw [this]
    simp [show szN xs - 1 < xs.length by omega]
  unfold packN
  rw [hb, e, List.append_cancel_left_eq, List.cons.injEq]
  constructor
  · rintro ⟨h, _⟩; exact h.symm
  · intro h; exact ⟨h.symm, rfl⟩
end Go.TM
