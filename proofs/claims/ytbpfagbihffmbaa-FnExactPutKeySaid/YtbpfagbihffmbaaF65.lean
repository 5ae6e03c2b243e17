/- Contracts, 65: a tree off numbers. -/
import Derived.Test.YtbpfagbihffmbaaF64
namespace Go.TM
open Go.Proofs
set_option linter.unusedVariables false
set_option linter.unusedSimpArgs false
set_option maxRecDepth 100000
set_option maxHeartbeats 4000000

noncomputable def upF : Nat → List Int → Option (List Pg × List Int)
  | 0, xs => some ([], xs)
  | n + 1, xs => if (unV xs).ok = true then (upF n (xs.drop (unV xs).n.toNat)).map fun r => ((unV xs).p :: r.1, r.2) else none
noncomputable def upR (x1 : Int) : Option (List Pg × List Int) → Tr × Bool
  | some (ps, []) => if vTr ⟨x1, ps⟩ = true then (⟨x1, ps⟩, true) else (⟨0, []⟩, false)
  | _ => (⟨0, []⟩, false)
noncomputable def upV (xs : List Int) : Tr × Bool := if xs.length < 2 ∨ inR (xs.getD 0 0) 1 16 = false then (⟨0, []⟩, false) else upR (xs.getD 1 0) (upF (xs.getD 0 0).toNat (xs.drop 2))
theorem upV_f {xs : List Int} (h : xs.length < 2 ∨ inR (xs.getD 0 0) 1 16 = false) : upV xs = (⟨0, []⟩, false) := if_pos h
theorem upV_t {xs : List Int} (h : ¬ (xs.length < 2 ∨ inR (xs.getD 0 0) 1 16 = false)) : upV xs = upR (xs.getD 1 0) (upF (xs.getD 0 0).toNat (xs.drop 2)) := if_neg h
theorem upR_none (x : Int) : upR x none = (⟨0, []⟩, false) := rfl
theorem upR_rest {x : Int} {ps : List Pg} {r : List Int} (h : r.length ≠ 0) : upR x (some (ps, r)) = (⟨0, []⟩, false) := by
  cases r with
  | nil => simp at h
  | cons a r => rfl
theorem upR_t {x : Int} {ps : List Pg} (h : vTr ⟨x, ps⟩ = true) : upR x (some (ps, [])) = (⟨x, ps⟩, true) := if_pos h
theorem upR_f {x : Int} {ps : List Pg} (h : vTr ⟨x, ps⟩ = false) : upR x (some (ps, [])) = (⟨0, []⟩, false) := if_neg (by rw [h]; simp)
noncomputable def mUnpackTree : Model := M1 .ro true (cIs false) fun xs => gd (xs.length ≤ 1099511627776 ∧ rngB xs = true) (.tup [eTr true (upV xs).1, .b (upV xs).2], [])
theorem rngB_drop {xs : List Int} (h : rngB xs = true) (k : Nat) : rngB (xs.drop k) = true := rngB_iff.2 fun x hx => rngB_iff.1 h x (List.mem_of_mem_drop hx)
theorem unV_len (xs : List Int) : (unV xs).n.toNat ≤ xs.length := by
  unfold unV
  split
  · rename_i h
    have := h.1.2.2
    show ((szN xs : Nat) : Int).toNat ≤ xs.length
    rw [Int.toNat_natCast]; exact this
  · exact Nat.zero_le _

/-- What has been read so far, and what is left. -/
structure UpI (n : Nat) (xs : List Int) (k : Nat) (ps : List Pg) (r : List Int) : Prop where
  le : k ≤ n
  len : ps.length = k
  rng : rngB r = true
  tot : ∀ p ∈ ps, totP p ≤ 14
  eq : upF n xs = (upF (n - k) r).map fun q => (ps ++ q.1, q.2)
theorem upI_zero {n : Nat} {xs : List Int} (h : rngB xs = true) : UpI n xs 0 [] xs := by
  refine ⟨Nat.zero_le _, rfl, h, fun p hp => (List.not_mem_nil hp).elim, ?_⟩
  rw [Nat.sub_zero]
  cases upF n xs <;> rfl
theorem UpI.step {n : Nat} {xs : List Int} {k : Nat} {ps : List Pg} {r : List Int} (h : UpI n xs k ps r) (hk : k < n) (ho : (unV r).ok = true) : UpI n xs (k + 1) (ps ++ [(unV r).p]) (r.drop (unV r).n.toNat) := by
  refine ⟨hk, by rw [List.length_append, h.len]; rfl, rngB_drop h.rng _, fun p hp => ?_, ?_⟩
  · rcases List.mem_append.1 hp with hp | hp
    · exact h.tot p hp
    · rw [List.mem_singleton] at hp
      subst hp
      have := unV_sm r
      unfold totP
      omega
  · rw [h.eq, show n - k = (n - (k + 1)) + 1 from by omega]
    simp only [upF, if_pos ho, Option.map_map]
    congr 1
    funext q
    simp
theorem UpI.fail {n : Nat} {xs : List Int} {k : Nat} {ps : List Pg} {r : List Int} (h : UpI n xs k ps r) (hk : k < n) (ho : (unV r).ok = false) : upF n xs = none := by
  rw [h.eq, show n - k = (n - (k + 1)) + 1 from by omega]
  simp only [upF, if_neg (show ¬ (unV r).ok = true by rw [ho]; simp), Option.map_none]
theorem UpI.done {n : Nat} {xs : List Int} {ps : List Pg} {r : List Int} (h : UpI n xs n ps r) : upF n xs = some (ps, r) := by
  rw [h.eq, Nat.sub_self]
  simp [upF]
theorem UpI.sm {n : Nat} {xs : List Int} {k : Nat} {ps : List Pg} {r : List Int} (h : UpI n xs k ps r) (hn : n ≤ 16) (x : Int) : SmTr ⟨x, ps⟩ := by
  have h1 := tot_le h.tot
  have h2 := h.len
  have h3 := h.le
  exact ⟨by show ps.length ≤ 1000; omega, by show Go.TM.tot ps ≤ 10000; omega⟩
theorem upV_sm (xs : List Int) : SmTr (upV xs).1 := by
  by_cases h : xs.length < 2 ∨ inR (xs.getD 0 0) 1 16 = false
  · rw [upV_f h]; exact smTr_nil 0
  · rw [upV_t h]
    cases hu : upF (xs.getD 0 0).toNat (xs.drop 2) with
    | none => exact smTr_nil 0
    | some q =>
      obtain ⟨ps, r⟩ := q
      by_cases hr : r.length = 0
      · rw [List.length_eq_zero_iff.1 hr]
        cases hv : vTr ⟨xs.getD 1 0, ps⟩
        · rw [upR_f hv]; exact smTr_nil 0
        · rw [upR_t hv]
          have tv := vTr_iff.1 hv
          have h1 := tot_le (m := 9) (ps := ps) fun p hp => by
            obtain ⟨i, hi, rfl⟩ := List.getElem_of_mem hp
            obtain ⟨h', pd⟩ := tv.pg (i := i) hi
            have := pd.tot
            rw [pgAt_nat] at this
            simpa [hi] using this
          have h2 := tv.len.2
          dsimp only at h2
          exact ⟨by show ps.length ≤ 1000; omega, by show Go.TM.tot ps ≤ 10000; omega⟩
      · rw [upR_rest hr]; exact smTr_nil 0
theorem app_pgp {R : List Pg} {k : Nat} {p : Pg} (h : R.length = k) : (R.flatMap (ePg true)).take (k * 3) ++ [A.s true 1 p.keys.length (p.keys.map eI), A.s true 1 p.kids.length (p.kids.map eI), A.s true 1 p.vals.length (p.vals.map eI)] = (R ++ [p]).flatMap (ePg true) := app_pg ⟨h, rfl, rfl, rfl⟩
theorem trL2_eq {n : Nat} {r : Int} {b : Bool} {ps : List Pg} (h : n = ps.length) : some (A.tup [.agg [eI r, .s true 3 n (ps.flatMap (ePg true))], .b b], ([] : List (List A))) = some (.tup [eTr true ⟨r, ps⟩, .b b], []) := by subst h; rfl



theorem fn_FnExactUnpackTree (x : List Int) (h : (∀ y ∈ x, intWf .i64 y) ∧ x.length ≤ maxLen) : mLawUn.fn [eIs false x] = some (.b true, []) := by
  have h2 : x.length ≤ 9223372036854775807 := h.2
  have h3 : rngB x = true := rngB_iff.2 fun y hy => by
    have h4 : (decide (IntKind.i64.min ≤ y) && decide (y ≤ IntKind.i64.max)) = true := h.1 y hy
    rw [Bool.and_eq_true, decide_eq_true_eq, decide_eq_true_eq] at h4
    exact h4
  simp (config := {maxSteps := 1000000}) (disch := omega) only [go_sem, ↓reduceIte, Nat.reduceEqDiff, Nat.reduceAdd, Nat.reduceMul, Nat.reduceSub, Nat.reduceLeDiff, Nat.reduceLT, Int.reduceToNat, Int.reduceLE, Int.reduceLT, Int.reduceNeg, mLawUn, h3]
end Go.TM
