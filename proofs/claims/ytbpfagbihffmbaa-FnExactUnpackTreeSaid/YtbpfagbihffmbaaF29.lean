/- Contracts, 29: a key, a pair, a kid is put. -/
import Derived.Test.YtbpfagbihffmbaaF27
namespace Go.TM
open Go.Proofs
set_option linter.unusedVariables false
set_option linter.unusedSimpArgs false
set_option maxRecDepth 100000

def mInsertI : Model := M3 .mv .ro .mv true (cIs true) cI (cIs true) fun xs i vs => gd (vs.length = 1 ∧ 0 ≤ i ∧ i ≤ xs.length ∧ xs.length ≤ 4294967296) (eIs true (insN xs i.toNat vs), [])
def mInsertP : Model := M3 .mv .ro .mv true (cRow true) cI (cRow true) fun xs i vs => gd (vs.length = 1 ∧ 0 ≤ i ∧ i ≤ xs.length ∧ xs.length ≤ 4294967296) (eRow true (xs.take i.toNat ++ vs ++ xs.drop i.toNat), [])

/-! ### A key is put -/

noncomputable def insKV (xs : List Int) (k : Int) : List Int × Bool := if vk xs = true ∧ (0 ≤ k ∧ k ≤ 99) ∧ k ∉ xs then (xs.take (cntB xs k) ++ k :: xs.drop (cntB xs k), true) else ([], false)
theorem insKV_f {xs : List Int} {k : Int} (h : ¬ (vk xs = true ∧ (0 ≤ k ∧ k ≤ 99) ∧ k ∉ xs)) : insKV xs k = ([], false) := if_neg h
theorem insKV_t {xs : List Int} {k : Int} (h : vk xs = true) (h1 : 0 ≤ k ∧ k ≤ 99) (h2 : k ∉ xs) : insKV xs k = (xs.take (cntB xs k) ++ k :: xs.drop (cntB xs k), true) := if_pos ⟨h, h1, h2⟩
theorem insKV_len (xs : List Int) (k : Int) : (insKV xs k).1.length ≤ xs.length + 1 := by
  unfold insKV
  split
  · simp; omega
  · simp
noncomputable def mInsertKey : Model := M2 .ro .ro true (cIs false) cI fun xs k => gd (xs.length ≤ 4294967296) (.tup [eIs true (insKV xs k).1, .b (insKV xs k).2], [])
theorem inR_t {n a b : Int} (h : a ≤ n ∧ n ≤ b) : inR n a b = true := by simp [inR]; omega
theorem inR_f {n a b : Int} (h : ¬ (a ≤ n ∧ n ≤ b)) : inR n a b = false := by
  rw [Bool.eq_false_iff]
  intro h'
  simp [inR] at h'
  omega
theorem insN_one (xs : List Int) (c : Nat) (k : Int) : insN xs c [k] = xs.take c ++ k :: xs.drop c := by simp [insN]
theorem app_K2 {xs ys : List Int} {k : Int} {n : Nat} (h : xs.length + 1 = n) : (xs.map eI ++ [A.i .i64 k]).take n ++ ys.map eI = (xs ++ k :: ys).map eI := by
  rw [List.take_of_length_le (by simp; omega)]
  simp

theorem take_mapI' {xs : List Int} {k : Nat} (h : xs.length = k) : (xs.map eI).take k = xs.map eI := List.take_of_length_le (by simp; omega)



theorem fn_FnExactInsertKey (x : List Int) (h : (∀ y ∈ x, intWf .i64 y) ∧ x.length ≤ maxLen) (k : Int) (hk : intWf .i64 k) : mLaw2.fn [eIs false x, eI k] = some (.b true, []) := by
  simp (config := {maxSteps := 1000000}) (disch := omega) only [go_sem, ↓reduceIte, Nat.reduceEqDiff, Nat.reduceAdd, Nat.reduceMul, Nat.reduceSub, Nat.reduceLeDiff, Nat.reduceLT, Int.reduceToNat, Int.reduceLE, Int.reduceLT, Int.reduceNeg, mLaw2]

/-! ### A pair is put -/

noncomputable def mPutIn : Model := M2 .ro .ro true (cRow false) cPair fun xs x => gd (vk (keysP xs) = true ∧ xs.length ≤ 4294967296) (eRow true (putV xs x), [])
noncomputable def putPV (xs : List Pr) (x : Pr) : List Pr × Bool := if vRow xs = true ∧ (inR x.1 0 99 = true ∧ inR x.2 (-1000) 1000 = true) ∧ (putV xs x).length ≤ 24 then (putV xs x, true) else ([], false)
theorem putPV_f {xs : List Pr} {x : Pr} (h : ¬ (vRow xs = true ∧ (inR x.1 0 99 = true ∧ inR x.2 (-1000) 1000 = true) ∧ (putV xs x).length ≤ 24)) : putPV xs x = ([], false) := if_neg h
theorem putPV_t {xs : List Pr} {x : Pr} (h : vRow xs = true ∧ (inR x.1 0 99 = true ∧ inR x.2 (-1000) 1000 = true) ∧ (putV xs x).length ≤ 24) : putPV xs x = (putV xs x, true) := if_pos h
theorem putPV_len (xs : List Pr) (x : Pr) : (putPV xs x).1.length ≤ xs.length + 1 := by
  have := putV_len xs x
  unfold putPV
  split
  · exact this
  · simp
noncomputable def mPutPair : Model := M2 .ro .ro true (cRow false) cPair fun xs x => gd (xs.length ≤ 4294967296) (.tup [eRow true (putPV xs x).1, .b (putPV xs x).2], [])
theorem vRow_one (x : Pr) : vRow [x] = (inR x.1 0 99 && inR x.2 (-1000) 1000) := by
  rw [Bool.eq_iff_iff]
  simp only [vRow, keysP, List.all_cons, List.all_nil, Bool.and_true, Bool.and_eq_true, List.length_singleton, List.map_cons, List.map_nil, decide_eq_true_eq, vk_iff]
  constructor
  · rintro ⟨h1, _, h2⟩
    have := h2.2 0 (by simp)
    exact ⟨inR_t (by simpa using this), h1⟩
  · rintro ⟨h1, h2⟩
    refine ⟨h2, by omega, fun i hi => ?_, fun i hi => ?_⟩
    · simp at hi
    · simp at hi
      subst hi
      have := inR_iff.1 h1
      simpa using this

theorem cRow_one (o : Bool) (a b : Int) : (cRow o).d (.s o 2 1 [.i .i64 a, .i .i64 b]) = some [(a, b)] := (cRow o).de [(a, b)]




def mLawRowP : Model := M2 .ro .ro true (cRow false) cPair fun xs x => gd (xs.length ≤ 9223372036854775807) (.b true, [])
theorem fn_FnExactPutPair (x : List Pr) (h : (∀ y ∈ x, intWf .i64 y.1 ∧ intWf .i64 y.2) ∧ x.length ≤ maxLen) (k : Pr) (hk : intWf .i64 k.1 ∧ intWf .i64 k.2) : mLawRowP.fn [eRow false x, ePair k] = some (.b true, []) := by
  have h2 : x.length ≤ 9223372036854775807 := h.2
  simp (config := {maxSteps := 1000000}) (disch := omega) only [go_sem, ↓reduceIte, Nat.reduceEqDiff, Nat.reduceAdd, Nat.reduceMul, Nat.reduceSub, Nat.reduceLeDiff, Nat.reduceLT, Int.reduceToNat, Int.reduceLE, Int.reduceLT, Int.reduceNeg, mLawRowP]

/-! ### A kid is put -/

def addV (x : Inn) (p : Nat) (k kid : Int) : Inn := ⟨x.keys.take p ++ k :: x.keys.drop p, x.kids.take (p + 1) ++ kid :: x.kids.drop (p + 1)⟩
theorem addV_len {x : Inn} {p : Nat} {k kid : Int} (h : p ≤ x.keys.length) (h' : p + 1 ≤ x.kids.length) : (addV x p k kid).keys.length = x.keys.length + 1 ∧ (addV x p k kid).kids.length = x.kids.length + 1 := by
  simp only [addV, List.length_append, List.length_cons, List.length_take, List.length_drop]
  omega
def mAddAt : Model := M4 .ro .ro .ro .ro true (cInn false) cI cI cI fun x p k kid => gd ((0 ≤ p ∧ p ≤ x.keys.length) ∧ x.kids.length = x.keys.length + 1 ∧ x.keys.length ≤ 34359738368) (eInn true (addV x p.toNat k kid), [])


noncomputable def addKV (x : Inn) (p k kid : Int) : Inn × Bool := if vInn x = true ∧ (0 ≤ p ∧ p < x.kids.length) ∧ vInn (addV x p.toNat k kid) = true then (addV x p.toNat k kid, true) else (⟨[], []⟩, false)
theorem addKV_f {x : Inn} {p k kid : Int} (h : ¬ (vInn x = true ∧ (0 ≤ p ∧ p < x.kids.length) ∧ vInn (addV x p.toNat k kid) = true)) : addKV x p k kid = (⟨[], []⟩, false) := if_neg h
theorem addKV_t {x : Inn} {p k kid : Int} (h : vInn x = true ∧ (0 ≤ p ∧ p < x.kids.length) ∧ vInn (addV x p.toNat k kid) = true) : addKV x p k kid = (addV x p.toNat k kid, true) := if_pos h
theorem addKV_len (x : Inn) (p k kid : Int) : (addKV x p k kid).1.keys.length ≤ x.keys.length + 1 ∧ (addKV x p k kid).1.kids.length ≤ x.kids.length + 1 := by
  unfold addKV
  split
  · rename_i h
    have := (vInn_iff.1 h.1).2.2.2.2.1
    have := addV_len (x := x) (p := p.toNat) (k := k) (kid := kid) (by omega) (by omega)
    dsimp only
    omega
  · simp
noncomputable def mAddKid : Model := M4 .ro .ro .ro .ro true (cInn false) cI cI cI fun x p k kid => gd (x.keys.length ≤ 4294967296 ∧ x.kids.length ≤ 4294967296) (.tup [eInn true (addKV x p k kid).1, .b (addKV x p k kid).2], [])



def mLawInn4 : Model := M4 .ro .ro .ro .ro true (cInn false) cI cI cI fun x p k kid => gd (x.keys.length ≤ 9223372036854775807 ∧ x.kids.length ≤ 9223372036854775807) (.b true, [])
theorem fn_FnExactAddKid (x : Inn) (h : ((∀ y ∈ x.keys, intWf .i64 y) ∧ x.keys.length ≤ maxLen) ∧ (∀ y ∈ x.kids, intWf .i64 y) ∧ x.kids.length ≤ maxLen) (p : Int) (hp : intWf .i64 p) (k : Int) (hk : intWf .i64 k) (kid : Int) (hkid : intWf .i64 kid) : mLawInn4.fn [eInn false x, eI p, eI k, eI kid] = some (.b true, []) := by
  have h2 : x.keys.length ≤ 9223372036854775807 := h.1.2
  have h3 : x.kids.length ≤ 9223372036854775807 := h.2.2
  simp (config := {maxSteps := 1000000}) (disch := omega) only [go_sem, ↓reduceIte, Nat.reduceEqDiff, Nat.reduceAdd, Nat.reduceMul, Nat.reduceSub, Nat.reduceLeDiff, Nat.reduceLT, Int.reduceToNat, Int.reduceLE, Int.reduceLT, Int.reduceNeg, mLawInn4]
end Go.TM
