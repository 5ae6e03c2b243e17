/- Contracts, 65: a tree off numbers. -/
import Derived.Test.YtbpfagbihffmbaaF64
namespace Go.TM
open Go.Proofs
set_option linter.unusedVariables false
set_option linter.unusedSimpArgs false
set_option maxRecDepth 100000
set_option maxHeartbeats 4000000

noncomputable def upF : Nat → List Int → Option (List Pg × List Int)
  | 0, xs => some ([], xs)
  | n + 1, xs => if (unV xs).ok = true then (upF n (xs.drop (unV xs).n.toNat)).map fun r => ((unV xs).p :: r.1, r.2) else none
noncomputable def upR (x1 : Int) : Option (List Pg × List Int) → Tr × Bool
  | some (ps, []) => if vTr ⟨x1, ps⟩ = true then (⟨x1, ps⟩, true) else (⟨0, []⟩, false)
  | _ => (⟨0, []⟩, false)
noncomputable def upV (xs : List Int) : Tr × Bool := if xs.length < 2 ∨ inR (xs.getD 0 0) 1 16 = false then (⟨0, []⟩, false) else upR (xs.getD 1 0) (upF (xs.getD 0 0).toNat (xs.drop 2))
theorem upV_f {xs : List Int} (h : xs.length < 2 ∨ inR (xs.getD 0 0) 1 16 = false) : upV xs = (⟨0, []⟩, false) := if_pos h
theorem upV_t {xs : List Int} (h : ¬ (xs.length < 2 ∨ inR (xs.getD 0 0) 1 16 = false)) : upV xs = upR (xs.getD 1 0) (upF (xs.getD 0 0).toNat (xs.drop 2)) := if_neg h
theorem upR_none (x : Int) : upR x none = (⟨0, []⟩, false) := rfl
theorem upR_rest {x : Int} {ps : List Pg} {r : List Int} (h : r.length ≠ 0) : upR x (some (ps, r)) = (⟨0, []⟩, false) := by
  cases r with
  | nil => simp at h
  | cons a r => rfl
theorem upR_t {x : Int} {ps : List Pg} (h : vTr ⟨x, ps⟩ = true) : upR x (some (ps, [])) = (⟨x, ps⟩, true) := if_pos h
theorem upR_f {x : Int} {ps : List Pg} (h : vTr ⟨x, ps⟩ = false) : upR x (some (ps, [])) = (⟨0, []⟩, false) := if_neg (by rw [h]; simp)
noncomputable def mUnpackTree : Model := M1 .ro true (cIs false) fun xs => gd (xs.length ≤ 1099511627776 ∧ rngB xs = true) (.tup [eTr true (upV xs).1, .b (upV xs).2], [])
theorem rngB_drop {xs : List Int} (h : rngB xs = true) (k : Nat) : rngB (xs.drop k) = true := rngB_iff.2 fun x hx => rngB_iff.1 h x (List.mem_of_mem_drop hx)
theorem unV_len (xs : List Int) : (unV xs).n.toNat ≤ xs.length := by
  unfold unV
  split
  · rename_i h
    have := h.1.2.2
    show ((szN xs : Nat) : Int).toNat ≤ xs.length
    rw [Int.toNat_natCast]; exact this
  · exact Nat.zero_le _

/-- What has been read so far, and what is left. -/
structure UpI (n : Nat) (xs : List Int) (k : Nat) (ps : List Pg) (r : List Int) : Prop where
  le : k ≤ n
  len : ps.length = k
  rng : rngB r = true
  tot : ∀ p ∈ ps, totP p ≤ 14
  eq : upF n xs = (upF (n - k) r).map fun q => (ps ++ q.1, q.2)
theorem upI_zero {n : Nat} {xs : List Int} (h : rngB xs = true) : UpI n xs 0 [] xs := by
  refine ⟨Nat.zero_le _, rfl, h, fun p hp => (List.not_mem_nil hp).elim, ?_⟩
  rw [Nat.sub_zero]
  cases upF n xs <;> rfl
theorem UpI.step {n : Nat} {xs : List Int} {k : Nat} {ps : List Pg} {r : List Int} (h : UpI n xs k ps r) (hk : k < n) (ho : (unV r).ok = true) : UpI n xs (k + 1) (ps ++ [(unV r).p]) (r.drop (unV r).n.toNat) := by
  refine ⟨hk, by rw [List.length_append, h.len]; rfl, rngB_drop h.rng _, fun p hp => ?_, ?_⟩
  · rcases List.mem_append.1 hp with hp | hp
    · exact h.tot p hp
    · rw [List.mem_singleton] at hp
      subst hp
      have := unV_sm r
      unfold totP
      omega
  · rw [h.eq, show n - k = (n - (k + 1)) + 1 from by omega]
    simp only [upF, if_pos ho, Option.map_map]
    congr 1
    funext q
    simp
theorem UpI.fail {n : Nat} {xs : List Int} {k : Nat} {ps : List Pg} {r : List Int} (h : UpI n xs k ps r) (hk : k < n) (ho : (unV r).ok = false) : upF n xs = none := by
  rw [h.eq, show n - k = (n - (k + 1)) + 1 from by omega]
  simp only [upF, if_neg (show ¬ (unV r).ok = true by rw [ho]; simp), Option.map_none]
theorem UpI.done {n : Nat} {xs : List Int} {ps : List Pg} {r : List Int} (h : UpI n xs n ps r) : upF n xs = some (ps, r) := by
  rw [h.eq, Nat.sub_self]
  simp [upF]
theorem UpI.sm {n : Nat} {xs : List Int} {k : Nat} {ps : List Pg} {r : List Int} (h : UpI n xs k ps r) (hn : n ≤ 16) (x : Int) : SmTr ⟨x, ps⟩ := by
  have h1 := tot_le h.tot
  have h2 := h.len
  have h3 := h.le
  exact ⟨by show ps.length ≤ 1000; omega, by show Go.TM.tot ps ≤ 10000; omega⟩
theorem upV_sm (xs : List Int) : SmTr (upV xs).1 := by
  by_cases h : xs.length < 2 ∨ inR (xs.getD 0 0) 1 16 = false
  · rw [upV_f h]; exact smTr_nil 0
  · rw [upV_t h]
    cases hu : upF (xs.getD 0 0).toNat (xs.drop 2) with
    | none => exact smTr_nil 0
    | some q =>
      obtain ⟨ps, r⟩ := q
      by_cases hr : r.length = 0
      · rw [List.length_eq_zero_iff.1 hr]
        cases hv : vTr ⟨xs.getD 1 0, ps⟩
        · rw [upR_f hv]; exact smTr_nil 0
        · rw [upR_t hv]
          have tv := vTr_iff.1 hv
          have h1 := tot_le (m := 9) (ps := ps) fun p hp => by
            obtain ⟨i, hi, rfl⟩ := List.getElem_of_mem hp
            obtain ⟨h', pd⟩ := tv.pg (i := i) hi
            have := pd.tot
            rw [pgAt_nat] at this
            simpa [hi] using this
          have h2 := tv.len.2
          dsimp only at h2
          exact ⟨by show ps.length ≤ 1000; omega, by show Go.TM.tot ps ≤ 10000; omega⟩
      · rw [upR_rest hr]; exact smTr_nil 0
theorem app_pgp {R : List Pg} {k : Nat} {p : Pg} (h : R.length = k) : (R.flatMap (ePg true)).take (k * 3) ++ [A.s true 1 p.keys.length (p.keys.map eI), A.s true 1 p.kids.length (p.kids.map eI), A.s true 1 p.vals.length (p.vals.map eI)] = (R ++ [p]).flatMap (ePg true) := app_pg ⟨h, rfl, rfl, rfl⟩
theorem trL2_eq {n : Nat} {r : Int} {b : Bool} {ps : List Pg} (h : n = ps.length) : some (A.tup [.agg [eI r, .s true 3 n (ps.flatMap (ePg true))], .b b], ([] : List (List A))) = some (.tup [eTr true ⟨r, ps⟩, .b b], []) := by subst h; rfl

theorem does_UnpackTreeI {G : Nat → Option FM} (h_UnpackPageI : G 92 = some (.model mUnpackPage)) (h_ValidTreeI : G 66 = some (.model mValidTree)) : Does T G (fun id => match id with  | _ => []) Try.f51 mUnpackTree := by
  refine does1 (rs := [.cell 2 28, .tmp 3]) rfl rfl fun xs ro h => ?_
  obtain ⟨⟨hs, hrg⟩, rfl⟩ := gd_some h
  refine ⟨fun _ => ⟨by simp only [cleanA, cleanL, clean_pgs, Bool.and_self], rfl⟩, ?_⟩
  clear h
  by_cases h0 : xs.length < 2
  · have e0 : decide ((xs.length : Int) < 2) = true := decide_eq_true (by omega)
    rw [upV_f (.inl h0)]
    simp (config := {maxSteps := 1000000}) (disch := omega) only [go_sem, ↓reduceIte, Nat.reduceEqDiff, Nat.reduceAdd, Nat.reduceMul, Nat.reduceSub, Nat.reduceLeDiff, Nat.reduceLT, Int.reduceToNat, Int.reduceLE, Int.reduceLT, Int.reduceNeg, h_UnpackPageI, mUnpackPage, h_ValidTreeI, mValidTree, drP_n, drP_c, logAt_n, logAt_c, disP_n, disP_c, notIn_n, notIn_c, e0]
    try rfl
  · have e0 : decide ((xs.length : Int) < 2) = false := decide_eq_false (by omega)
    by_cases h1 : xs.getD 0 0 < 1
    · have e1 : decide (xs.getD 0 0 < 1) = true := decide_eq_true h1
      rw [upV_f (.inr (inR_f (by omega)))]
      simp (config := {maxSteps := 1000000}) (disch := omega) only [go_sem, ↓reduceIte, Nat.reduceEqDiff, Nat.reduceAdd, Nat.reduceMul, Nat.reduceSub, Nat.reduceLeDiff, Nat.reduceLT, Int.reduceToNat, Int.reduceLE, Int.reduceLT, Int.reduceNeg, h_UnpackPageI, mUnpackPage, h_ValidTreeI, mValidTree, drP_n, drP_c, logAt_n, logAt_c, disP_n, disP_c, notIn_n, notIn_c, e0, e1]
      try rfl
    · have e1 : decide (xs.getD 0 0 < 1) = false := decide_eq_false h1
      by_cases h2 : 16 < xs.getD 0 0
      · have e2 : decide (16 < xs.getD 0 0) = true := decide_eq_true h2
        rw [upV_f (.inr (inR_f (by omega)))]
        simp (config := {maxSteps := 1000000}) (disch := omega) only [go_sem, ↓reduceIte, Nat.reduceEqDiff, Nat.reduceAdd, Nat.reduceMul, Nat.reduceSub, Nat.reduceLeDiff, Nat.reduceLT, Int.reduceToNat, Int.reduceLE, Int.reduceLT, Int.reduceNeg, h_UnpackPageI, mUnpackPage, h_ValidTreeI, mValidTree, drP_n, drP_c, logAt_n, logAt_c, disP_n, disP_c, notIn_n, notIn_c, e0, e1, e2]
        try rfl
      · have e2 : decide (16 < xs.getD 0 0) = false := decide_eq_false h2
        rw [upV_t (by rw [inR_t (by omega)]; rintro (h | h); exact h0 h; cases h)]
        obtain ⟨n, hn⟩ : ∃ n : Nat, xs.getD 0 0 = n := ⟨(xs.getD 0 0).toNat, by omega⟩
        rw [hn] at e1 e2 h1 h2 ⊢
        rw [Int.toNat_natCast]
        obtain ⟨x1, hx1⟩ : ∃ x1, xs.getD 1 0 = x1 := ⟨_, rfl⟩
        rw [hx1]
        have hdl : (xs.drop 2).length = xs.length - 2 := List.length_drop
        simp (config := {maxSteps := 1000000}) (disch := omega) only [go_sem, ↓reduceIte, Nat.reduceEqDiff, Nat.reduceAdd, Nat.reduceMul, Nat.reduceSub, Nat.reduceLeDiff, Nat.reduceLT, Int.reduceToNat, Int.reduceLE, Int.reduceLT, Int.reduceNeg, h_UnpackPageI, mUnpackPage, h_ValidTreeI, mValidTree, drP_n, drP_c, logAt_n, logAt_c, disP_n, disP_c, notIn_n, notIn_c, e0, e1, e2, hn, hx1, sub_rest]
        refine W_loop_i (fun s => s.sl 2 = .ptr (3, 0) [] 0 0 ∧ s.hp (3, 0) = some ⟨2, 1, [eI 0, .s true 3 0 []], fun _ => 0⟩ ∧ s.sl 4 = .ptr (24, 0) [] 0 0 ∧ s.sl 33 = eI n ∧ 24 < s.n ∧ ∃ (k : Nat) (ps : List Pg) (r : List Int), UpI n (xs.drop 2) k ps r ∧ r.length ≤ xs.length ∧ s.sl 34 = eI k ∧ s.sl 5 = .s false 1 r.length (r.map eI) ∧ ∃ v, s.hp (24, 0) = some ⟨2, 1, [eI x1, .s true 3 k (ps.flatMap (ePg true))], v⟩) (fun s => n - iN (s.sl 34)) ?_ ?_
        · exact ⟨rfl, rfl, rfl, rfl, by dsimp only [St.n]; omega, 0, [], xs.drop 2, upI_zero (rngB_drop hrg 2), by omega, rfl, by rw [hdl]; rfl, _, rfl⟩
        · rintro sl hp q ⟨j2, hh3, h4, h33, hq, k, ps, r, hI, hrl, h34, h5, v, hh⟩
          dsimp only at j2 hh3 h4 h33 hq h34 h5 hh
          have i1 := hI.le
          have i2 := hI.len
          have i3 := hI.rng
          by_cases g1' : k < n
          · have g1 : decide ((k : Int) < (n : Int)) = true := decide_eq_true (by omega)
            have ub := unV_bd r
            have ul := unV_len r
            have um := unV_sm r
            cases ho : (unV r).ok
            · rw [hI.fail g1' ho, upR_none]
              simp (config := {maxSteps := 1000000}) (disch := omega) only [go_sem, ↓reduceIte, Nat.reduceEqDiff, Nat.reduceAdd, Nat.reduceMul, Nat.reduceSub, Nat.reduceLeDiff, Nat.reduceLT, Int.reduceToNat, Int.reduceLE, Int.reduceLT, Int.reduceNeg, h_UnpackPageI, mUnpackPage, h_ValidTreeI, mValidTree, drP_n, drP_c, logAt_n, logAt_c, disP_n, disP_c, notIn_n, notIn_c, j2, hh3, h4, h33, h34, h5, hh, g1, i3, ho]
              try rfl
            · have st := hI.step g1' ho
              have rdl : (r.drop (unV r).n.toNat).length = r.length - (unV r).n.toNat := List.length_drop
              generalize hU : unV r = U at *
              simp (config := {maxSteps := 1000000}) (disch := omega) only [go_sem, ↓reduceIte, Nat.reduceEqDiff, Nat.reduceAdd, Nat.reduceMul, Nat.reduceSub, Nat.reduceLeDiff, Nat.reduceLT, Int.reduceToNat, Int.reduceLE, Int.reduceLT, Int.reduceNeg, h_UnpackPageI, mUnpackPage, h_ValidTreeI, mValidTree, drP_n, drP_c, logAt_n, logAt_c, disP_n, disP_c, notIn_n, notIn_c, j2, hh3, h4, h33, h34, h5, hh, g1, i3, hU, ho, app_pgp, sub_rest]
              exact ⟨⟨k + 1, _, _, st, by omega, rfl, by rw [rdl], _, rfl⟩, by omega⟩
          · have g1 : decide ((k : Int) < (n : Int)) = false := decide_eq_false (by omega)
            obtain rfl : k = n := by omega
            rw [hI.done]
            have sm := (hI.sm (by omega) x1).sm
            dsimp only at sm
            have hsb : sub ps 0 k = ps := by rw [← i2]; exact sub_all ps
            by_cases hr0 : r.length = 0
            · have e5 : decide ((0 : Int) < (r.length : Int)) = false := decide_eq_false (by omega)
              rw [List.length_eq_zero_iff.1 hr0]
              cases hv : vTr ⟨x1, ps⟩
              · rw [upR_f hv]
                simp (config := {maxSteps := 1000000}) (disch := omega) only [go_sem, ↓reduceIte, Nat.reduceEqDiff, Nat.reduceAdd, Nat.reduceMul, Nat.reduceSub, Nat.reduceLeDiff, Nat.reduceLT, Int.reduceToNat, Int.reduceLE, Int.reduceLT, Int.reduceNeg, h_UnpackPageI, mUnpackPage, h_ValidTreeI, mValidTree, drP_n, drP_c, logAt_n, logAt_c, disP_n, disP_c, notIn_n, notIn_c, j2, hh3, h4, h33, h34, h5, hh, g1, e5, sm, hv, hsb]
                try rfl
              · rw [upR_t hv]
                simp (config := {maxSteps := 1000000}) (disch := omega) only [go_sem, ↓reduceIte, Nat.reduceEqDiff, Nat.reduceAdd, Nat.reduceMul, Nat.reduceSub, Nat.reduceLeDiff, Nat.reduceLT, Int.reduceToNat, Int.reduceLE, Int.reduceLT, Int.reduceNeg, h_UnpackPageI, mUnpackPage, h_ValidTreeI, mValidTree, drP_n, drP_c, logAt_n, logAt_c, disP_n, disP_c, notIn_n, notIn_c, j2, hh3, h4, h33, h34, h5, hh, g1, e5, sm, hv, hsb]
                try exact trL2_eq i2.symm
            · have e5 : decide ((0 : Int) < (r.length : Int)) = true := decide_eq_true (by omega)
              rw [upR_rest hr0]
              simp (config := {maxSteps := 1000000}) (disch := omega) only [go_sem, ↓reduceIte, Nat.reduceEqDiff, Nat.reduceAdd, Nat.reduceMul, Nat.reduceSub, Nat.reduceLeDiff, Nat.reduceLT, Int.reduceToNat, Int.reduceLE, Int.reduceLT, Int.reduceNeg, h_UnpackPageI, mUnpackPage, h_ValidTreeI, mValidTree, drP_n, drP_c, logAt_n, logAt_c, disP_n, disP_c, notIn_n, notIn_c, j2, hh3, h4, h33, h34, h5, hh, g1, e5, hsb]
              try rfl
theorem fo_UnpackTreeI : FnOk Try.prog 51 := fnOk_of Try.func51 (by kernel_rfl)
theorem c_UnpackTreeI : Contract Try.prog 51 mUnpackTree :=
  contract_of_does (DT := fun id => match id with  | _ => []) Try.checked.mixed tabOk (gok_model fo_UnpackPageI c_UnpackPageI (gok_model fo_ValidTreeI c_ValidTreeI gok_nil)) Try.func51 rfl (by kernel_rfl) (does_UnpackTreeI rfl rfl)


theorem does_UnpackTreeS {G : Nat → Option FM} (h_inRange : G 83 = some (.model mInRange)) (h_UnpackN : G 91 = some (.model mUnpackN)) (h_validTree : G 57 = some (.model mValidTree)) : Does T G (fun id => match id with  | _ => []) Try.f50 mUnpackTree := by
  refine does1 (rs := [.cell 2 28, .tmp 3]) rfl rfl fun xs ro h => ?_
  obtain ⟨⟨hs, hrg⟩, rfl⟩ := gd_some h
  refine ⟨fun _ => ⟨by simp only [cleanA, cleanL, clean_pgs, Bool.and_self], rfl⟩, ?_⟩
  clear h
  by_cases h0 : xs.length < 2
  · have e0 : decide ((xs.length : Int) < 2) = true := decide_eq_true (by omega)
    rw [upV_f (.inl h0)]
    simp (config := {maxSteps := 1000000}) (disch := omega) only [go_sem, ↓reduceIte, Nat.reduceEqDiff, Nat.reduceAdd, Nat.reduceMul, Nat.reduceSub, Nat.reduceLeDiff, Nat.reduceLT, Int.reduceToNat, Int.reduceLE, Int.reduceLT, Int.reduceNeg, h_inRange, mInRange, h_UnpackN, mUnpackN, h_validTree, mValidTree, drP_n, drP_c, logAt_n, logAt_c, disP_n, disP_c, notIn_n, notIn_c, e0]
    try rfl
  · have e0 : decide ((xs.length : Int) < 2) = false := decide_eq_false (by omega)
    cases h1 : inR (xs.getD 0 0) 1 16
    · rw [upV_f (.inr h1)]
      simp (config := {maxSteps := 1000000}) (disch := omega) only [go_sem, ↓reduceIte, Nat.reduceEqDiff, Nat.reduceAdd, Nat.reduceMul, Nat.reduceSub, Nat.reduceLeDiff, Nat.reduceLT, Int.reduceToNat, Int.reduceLE, Int.reduceLT, Int.reduceNeg, h_inRange, mInRange, h_UnpackN, mUnpackN, h_validTree, mValidTree, drP_n, drP_c, logAt_n, logAt_c, disP_n, disP_c, notIn_n, notIn_c, e0, h1]
      try rfl
    · have h1' := inR_iff.1 h1
      rw [upV_t (by rw [h1]; rintro (h | h); exact h0 h; cases h)]
      obtain ⟨n, hn⟩ : ∃ n : Nat, xs.getD 0 0 = n := ⟨(xs.getD 0 0).toNat, by omega⟩
      rw [hn] at h1 h1' ⊢
      rw [Int.toNat_natCast]
      obtain ⟨x1, hx1⟩ : ∃ x1, xs.getD 1 0 = x1 := ⟨_, rfl⟩
      rw [hx1]
      simp (config := {maxSteps := 1000000}) (disch := omega) only [go_sem, ↓reduceIte, Nat.reduceEqDiff, Nat.reduceAdd, Nat.reduceMul, Nat.reduceSub, Nat.reduceLeDiff, Nat.reduceLT, Int.reduceToNat, Int.reduceLE, Int.reduceLT, Int.reduceNeg, h_inRange, mInRange, h_UnpackN, mUnpackN, h_validTree, mValidTree, drP_n, drP_c, logAt_n, logAt_c, disP_n, disP_c, notIn_n, notIn_c, e0, h1, hn, hx1]
      refine W_loop_i (fun s => s.sl 0 = eIs false xs ∧ s.sl 2 = .ptr (3, 0) [] 0 0 ∧ s.hp (3, 0) = some ⟨2, 1, [eI 0, .s true 3 0 []], fun _ => 0⟩ ∧ s.sl 4 = .ptr (20, 0) [] 0 0 ∧ 20 < s.n ∧ ∃ (k pa : Nat) (ps : List Pg), UpI n (xs.drop 2) k ps (xs.drop pa) ∧ pa ≤ xs.length ∧ s.sl 6 = eI k ∧ s.sl 5 = eI pa ∧ ∃ v, s.hp (20, 0) = some ⟨2, 1, [eI x1, .s true 3 k (ps.flatMap (ePg true))], v⟩) (fun s => n - iN (s.sl 6)) ?_ ?_
      · exact ⟨rfl, rfl, rfl, rfl, by dsimp only [St.n]; omega, 0, 2, [], upI_zero (rngB_drop hrg 2), by omega, rfl, rfl, _, rfl⟩
      · rintro sl hp q ⟨j0, j2, hh3, j4, hq, k, pa, ps, hI, hat, j6, j5, v, hh⟩
        dsimp only at j0 j2 hh3 j4 hq j6 j5 hh
        have i1 := hI.le
        have i2 := hI.len
        have i3 := hI.rng
        have rl : (xs.drop pa).length = xs.length - pa := List.length_drop
        by_cases g1' : k < n
        · have g1 : decide ((k : Int) < (n : Int)) = true := decide_eq_true (by omega)
          have ub := unV_bd (xs.drop pa)
          have ul := unV_len (xs.drop pa)
          have um := unV_sm (xs.drop pa)
          have ug := unV_gt (xs.drop pa)
          cases ho : (unV (xs.drop pa)).ok
          · rw [hI.fail g1' ho, upR_none]
            have e4 : decide ((unV (xs.drop pa)).n = 0) = true := by
              rw [ho] at ug
              have := of_decide_eq_false ug
              exact decide_eq_true (by omega)
            generalize hU : unV (xs.drop pa) = U at *
            simp (config := {maxSteps := 1000000}) (disch := omega) only [go_sem, ↓reduceIte, Nat.reduceEqDiff, Nat.reduceAdd, Nat.reduceMul, Nat.reduceSub, Nat.reduceLeDiff, Nat.reduceLT, Int.reduceToNat, Int.reduceLE, Int.reduceLT, Int.reduceNeg, h_inRange, mInRange, h_UnpackN, mUnpackN, h_validTree, mValidTree, drP_n, drP_c, logAt_n, logAt_c, disP_n, disP_c, notIn_n, notIn_c, j0, j2, hh3, j4, j6, j5, hh, hn, g1, i3, hU, rl, sub_rest, e4]
            try rfl
          · have st := hI.step g1' ho
            have e4 : decide ((unV (xs.drop pa)).n = 0) = false := by
              rw [ho] at ug
              have := of_decide_eq_true ug
              exact decide_eq_false (by omega)
            rw [List.drop_drop] at st
            generalize hU : unV (xs.drop pa) = U at *
            simp (config := {maxSteps := 1000000}) (disch := omega) only [go_sem, ↓reduceIte, Nat.reduceEqDiff, Nat.reduceAdd, Nat.reduceMul, Nat.reduceSub, Nat.reduceLeDiff, Nat.reduceLT, Int.reduceToNat, Int.reduceLE, Int.reduceLT, Int.reduceNeg, h_inRange, mInRange, h_UnpackN, mUnpackN, h_validTree, mValidTree, drP_n, drP_c, logAt_n, logAt_c, disP_n, disP_c, notIn_n, notIn_c, j0, j2, hh3, j4, j6, j5, hh, hn, g1, i3, hU, rl, sub_rest, e4, app_pgp]
            exact ⟨⟨k + 1, pa + U.n.toNat, _, st, by omega, rfl, congrArg (A.i .i64) (by omega), _, rfl⟩, by omega⟩
        · have g1 : decide ((k : Int) < (n : Int)) = false := decide_eq_false (by omega)
          obtain rfl : k = n := by omega
          rw [hI.done]
          have sm := (hI.sm (by omega) x1).sm
          dsimp only at sm
          have hsb : sub ps 0 k = ps := by rw [← i2]; exact sub_all ps
          by_cases hr0 : pa = xs.length
          · have e5 : decide ((pa : Int) ≠ (xs.length : Int)) = false := decide_eq_false (by omega)
            have e6 : decide ((pa : Int) = (xs.length : Int)) = true := decide_eq_true (by omega)
            rw [List.length_eq_zero_iff.1 (show (xs.drop pa).length = 0 by omega)]
            cases hv : vTr ⟨x1, ps⟩
            · rw [upR_f hv]
              simp (config := {maxSteps := 1000000}) (disch := omega) only [go_sem, ↓reduceIte, Nat.reduceEqDiff, Nat.reduceAdd, Nat.reduceMul, Nat.reduceSub, Nat.reduceLeDiff, Nat.reduceLT, Int.reduceToNat, Int.reduceLE, Int.reduceLT, Int.reduceNeg, h_inRange, mInRange, h_UnpackN, mUnpackN, h_validTree, mValidTree, drP_n, drP_c, logAt_n, logAt_c, disP_n, disP_c, notIn_n, notIn_c, j0, j2, hh3, j4, j6, j5, hh, hn, g1, e5, e6, sm, hv, hsb]
              try rfl
            · rw [upR_t hv]
              simp (config := {maxSteps := 1000000}) (disch := omega) only [go_sem, ↓reduceIte, Nat.reduceEqDiff, Nat.reduceAdd, Nat.reduceMul, Nat.reduceSub, Nat.reduceLeDiff, Nat.reduceLT, Int.reduceToNat, Int.reduceLE, Int.reduceLT, Int.reduceNeg, h_inRange, mInRange, h_UnpackN, mUnpackN, h_validTree, mValidTree, drP_n, drP_c, logAt_n, logAt_c, disP_n, disP_c, notIn_n, notIn_c, j0, j2, hh3, j4, j6, j5, hh, hn, g1, e5, e6, sm, hv, hsb]
              try exact trL2_eq i2.symm
          · have e5 : decide ((pa : Int) ≠ (xs.length : Int)) = true := decide_eq_true (by omega)
            have e6 : decide ((pa : Int) = (xs.length : Int)) = false := decide_eq_false (by omega)
            rw [upR_rest (show (xs.drop pa).length ≠ 0 by omega)]
            simp (config := {maxSteps := 1000000}) (disch := omega) only [go_sem, ↓reduceIte, Nat.reduceEqDiff, Nat.reduceAdd, Nat.reduceMul, Nat.reduceSub, Nat.reduceLeDiff, Nat.reduceLT, Int.reduceToNat, Int.reduceLE, Int.reduceLT, Int.reduceNeg, h_inRange, mInRange, h_UnpackN, mUnpackN, h_validTree, mValidTree, drP_n, drP_c, logAt_n, logAt_c, disP_n, disP_c, notIn_n, notIn_c, j0, j2, hh3, j4, j6, j5, hh, hn, g1, e5, e6, hsb]
            try rfl
theorem fo_UnpackTreeS : FnOk Try.prog 50 := fnOk_of Try.func50 (by kernel_rfl)
theorem c_UnpackTreeS : Contract Try.prog 50 mUnpackTree :=
  contract_of_does (DT := fun id => match id with  | _ => []) Try.checked.mixed tabOk (gok_model fo_inRange c_inRange (gok_model fo_UnpackN c_UnpackN (gok_model fo_validTree c_validTree gok_nil))) Try.func50 rfl (by kernel_rfl) (does_UnpackTreeS rfl rfl rfl)


theorem does_FnExactUnpackTree {G : Nat → Option FM} (h_toIntS : G 23 = some (.model mToIntS)) (h_UnpackTreeS : G 50 = some (.model mUnpackTree)) (h_UnpackTreeI : G 51 = some (.model mUnpackTree)) (h_eqTree : G 19 = some (.model mEqTree)) (h_eqIntS : G 25 = some (.model mEqIntS)) (h_markIntS : G 26 = some (.model mMarkIntS)) (h_markTree : G 20 = some (.each 2 [1] mMarkPageS)) (h_heldTree : G 21 = some (.model mHeldTree)) : Does T G (fun id => match id with  | _ => []) Try.f12 mLawUn := by
  refine does1 (rs := [.tmp 2]) rfl rfl fun xs ro h => ?_
  obtain ⟨⟨hs, hrg⟩, rfl⟩ := gd_some h
  refine ⟨fun _ => ⟨rfl, rfl⟩, ?_⟩
  clear h
  have la := upV_sm xs
  generalize ha : (upV xs).1 = a at la
  generalize hb' : (upV xs).2 = b
  by_cases h1 : 1048576 < (xs.length : Int)
  · have e1 : decide (1048576 < (xs.length : Int)) = true := decide_eq_true h1
    simp (config := {maxSteps := 1000000}) (disch := omega) only [go_sem, ↓reduceIte, Nat.reduceEqDiff, Nat.reduceAdd, Nat.reduceMul, Nat.reduceSub, Nat.reduceLeDiff, Nat.reduceLT, Int.reduceToNat, Int.reduceLE, Int.reduceLT, Int.reduceNeg, h_toIntS, mToIntS, h_UnpackTreeS, mUnpackTree, h_UnpackTreeI, mUnpackTree, h_eqTree, mEqTree, h_eqIntS, mEqIntS, h_markIntS, mMarkIntS, h_markTree, mMarkPageS, h_heldTree, mHeldTree, drP_n, drP_c, logAt_n, logAt_c, disP_n, disP_c, notIn_n, notIn_c, e1]
  · have e1 : decide (1048576 < (xs.length : Int)) = false := decide_eq_false h1
    have lb := la.sm
    have lc := (la.mark a.root 1).sm
    dsimp only at lc
    have l1 := la.tot
    have l2 := la.len
    have l3 := mkPs_len a.pages 1
    have m1 := marks_len xs.length 1
    have e2 : decide (1 + (xs.length : Int) < 0) = false := decide_eq_false (by omega)
    have e3 : decide (1 + (tot a.pages : Int) < 0) = false := decide_eq_false (by omega)
    have hfa := flat_mk a.pages 1
    simp (config := {maxSteps := 1000000}) (disch := omega) only [go_sem, ↓reduceIte, Nat.reduceEqDiff, Nat.reduceAdd, Nat.reduceMul, Nat.reduceSub, Nat.reduceLeDiff, Nat.reduceLT, Int.reduceToNat, Int.reduceLE, Int.reduceLT, Int.reduceNeg, h_toIntS, mToIntS, h_UnpackTreeS, mUnpackTree, h_UnpackTreeI, mUnpackTree, h_eqTree, mEqTree, h_eqIntS, mEqIntS, h_markIntS, mMarkIntS, h_markTree, mMarkPageS, h_heldTree, mHeldTree, drP_n, drP_c, logAt_n, logAt_c, disP_n, disP_c, notIn_n, notIn_c, e1, hrg, ha, hb', e2, e3, lb, lc, hfa, sub_mk, mkPs_idem, mkPs_tot, marks_len, List.length_map, sub_marks]
theorem fo_FnExactUnpackTree : FnOk Try.prog 12 := fnOk_of Try.func12 (by kernel_rfl)
theorem c_FnExactUnpackTree : Contract Try.prog 12 mLawUn :=
  contract_of_does (DT := fun id => match id with  | _ => []) Try.checked.mixed tabOk (gok_model fo_toIntS c_toIntS (gok_model fo_UnpackTreeS c_UnpackTreeS (gok_model fo_UnpackTreeI c_UnpackTreeI (gok_model fo_eqTree c_eqTree (gok_model fo_eqIntS c_eqIntS (gok_model fo_markIntS c_markIntS (gok_each fo_markTree c_markTree (gok_model fo_heldTree c_heldTree gok_nil)))))))) Try.func12 rfl (by kernel_rfl) (does_FnExactUnpackTree rfl rfl rfl rfl rfl rfl rfl rfl)

theorem fn_FnExactUnpackTree (x : List Int) (h : (∀ y ∈ x, intWf .i64 y) ∧ x.length ≤ maxLen) : mLawUn.fn [eIs false x] = some (.b true, []) := by
  have h2 : x.length ≤ 9223372036854775807 := h.2
  have h3 : rngB x = true := rngB_iff.2 fun y hy => by
    have h4 : (decide (IntKind.i64.min ≤ y) && decide (y ≤ IntKind.i64.max)) = true := h.1 y hy
    rw [Bool.and_eq_true, decide_eq_true_eq, decide_eq_true_eq] at h4
    exact h4
  simp (config := {maxSteps := 1000000}) (disch := omega) only [go_sem, ↓reduceIte, Nat.reduceEqDiff, Nat.reduceAdd, Nat.reduceMul, Nat.reduceSub, Nat.reduceLeDiff, Nat.reduceLT, Int.reduceToNat, Int.reduceLE, Int.reduceLT, Int.reduceNeg, mLawUn, h3]
end Go.TM
