/- Contracts, 29: a key, a pair, a kid is put. -/
import Derived.Test.YtbpfagbihffmbaaF27
namespace Go.TM
open Go.Proofs
set_option linter.unusedVariables false
set_option linter.unusedSimpArgs false
set_option maxRecDepth 100000

def mInsertI : Model := M3 .mv .ro .mv true (cIs true) cI (cIs true) fun xs i vs => gd (vs.length = 1 ∧ 0 ≤ i ∧ i ≤ xs.length ∧ xs.length ≤ 4294967296) (eIs true (insN xs i.toNat vs), [])
def mInsertP : Model := M3 .mv .ro .mv true (cRow true) cI (cRow true) fun xs i vs => gd (vs.length = 1 ∧ 0 ≤ i ∧ i ≤ xs.length ∧ xs.length ≤ 4294967296) (eRow true (xs.take i.toNat ++ vs ++ xs.drop i.toNat), [])
theorem c_insertI : Contract Try.prog 135 mInsertI := contract_ins (sz := 1) (Nat.le_refl _) rfl (fun args r outs hM => by
  obtain ⟨x, y, z, rfl⟩ : ∃ x y z, args = [x, y, z] := by
    match args, hM with
    | [x, y, z], _ => exact ⟨x, y, z, rfl⟩
    | [], h => simp [mInsertI, M3] at h
    | [_], h => simp [mInsertI, M3] at h
    | [_, _], h => simp [mInsertI, M3] at h
    | _ :: _ :: _ :: _ :: _, h => simp [mInsertI, M3] at h
  simp only [mInsertI] at hM
  rw [M3_fn] at hM
  simp only [Option.bind_eq_some_iff] at hM
  obtain ⟨xs, hx, i, hy, vs, hz, hM⟩ := hM
  obtain rfl := (cIs true).ed _ _ hx
  obtain rfl := cI.ed _ _ hy
  obtain rfl := (cIs true).ed _ _ hz
  obtain ⟨⟨h1, h2, h3, h4⟩, hM⟩ := gd_some hM
  cases hM
  obtain ⟨n, rfl⟩ : ∃ n : Nat, i = n := ⟨i.toNat, by omega⟩
  have hl := insN_len (zs := xs) (vs := vs) (k := n) (by omega)
  refine ⟨xs.length, n, xs, vs, ?_, by omega, h1, by omega, h4, ?_, rfl⟩
  · rw [cIs_e, cIs_e, h1]; rfl
  · rw [Nat.mul_one]
    show A.s true 1 (insN xs ((n : Int).toNat) vs).length _ = _
    rw [Int.toNat_natCast, hl, h1]) ins_rawI
theorem fo_insertI : FnOk Try.prog 135 := fnOk_of Try.func135 (by kernel_rfl)

theorem c_insertP : Contract Try.prog 131 mInsertP := contract_ins (sz := 2) (by decide) rfl (fun args r outs hM => by
  obtain ⟨x, y, z, rfl⟩ : ∃ x y z, args = [x, y, z] := by
    match args, hM with
    | [x, y, z], _ => exact ⟨x, y, z, rfl⟩
    | [], h => simp [mInsertP, M3] at h
    | [_], h => simp [mInsertP, M3] at h
    | [_, _], h => simp [mInsertP, M3] at h
    | _ :: _ :: _ :: _ :: _, h => simp [mInsertP, M3] at h
  simp only [mInsertP] at hM
  rw [M3_fn] at hM
  simp only [Option.bind_eq_some_iff] at hM
  obtain ⟨xs, hx, i, hy, vs, hz, hM⟩ := hM
  obtain rfl := (cRow true).ed _ _ hx
  obtain rfl := cI.ed _ _ hy
  obtain rfl := (cRow true).ed _ _ hz
  obtain ⟨⟨h1, h2, h3, h4⟩, hM⟩ := gd_some hM
  cases hM
  obtain ⟨n, rfl⟩ : ∃ n : Nat, i = n := ⟨i.toNat, by omega⟩
  have e : fl2 (xs.take n ++ vs ++ xs.drop n) = insN (fl2 xs) (n * 2) (fl2 vs) := by rw [fl2_app, fl2_app, fl2_take, fl2_drop]; rfl
  have hl : (xs.take n ++ vs ++ xs.drop n).length = xs.length + 1 := by simp only [List.length_append, List.length_take, List.length_drop]; omega
  refine ⟨xs.length, n, fl2 xs, fl2 vs, ?_, fl2_len xs, by rw [fl2_len, h1], by omega, h4, ?_, rfl⟩
  · rw [cRow_e, cRow_e, h1, fl2_e, fl2_e]; rfl
  · show A.s true 2 (xs.take ((n : Int).toNat) ++ vs ++ xs.drop ((n : Int).toNat)).length _ = _
    rw [Int.toNat_natCast, hl, fl2_e, e]) ins_rawP
theorem fo_insertP : FnOk Try.prog 131 := fnOk_of Try.func131 (by kernel_rfl)


/-! ### A key is put -/

noncomputable def insKV (xs : List Int) (k : Int) : List Int × Bool := if vk xs = true ∧ (0 ≤ k ∧ k ≤ 99) ∧ k ∉ xs then (xs.take (cntB xs k) ++ k :: xs.drop (cntB xs k), true) else ([], false)
theorem insKV_f {xs : List Int} {k : Int} (h : ¬ (vk xs = true ∧ (0 ≤ k ∧ k ≤ 99) ∧ k ∉ xs)) : insKV xs k = ([], false) := if_neg h
theorem insKV_t {xs : List Int} {k : Int} (h : vk xs = true) (h1 : 0 ≤ k ∧ k ≤ 99) (h2 : k ∉ xs) : insKV xs k = (xs.take (cntB xs k) ++ k :: xs.drop (cntB xs k), true) := if_pos ⟨h, h1, h2⟩
theorem insKV_len (xs : List Int) (k : Int) : (insKV xs k).1.length ≤ xs.length + 1 := by
  unfold insKV
  split
  · simp; omega
  · simp
noncomputable def mInsertKey : Model := M2 .ro .ro true (cIs false) cI fun xs k => gd (xs.length ≤ 4294967296) (.tup [eIs true (insKV xs k).1, .b (insKV xs k).2], [])
theorem inR_t {n a b : Int} (h : a ≤ n ∧ n ≤ b) : inR n a b = true := by simp [inR]; omega
theorem inR_f {n a b : Int} (h : ¬ (a ≤ n ∧ n ≤ b)) : inR n a b = false := by
  rw [Bool.eq_false_iff]
  intro h'
  simp [inR] at h'
  omega
theorem insN_one (xs : List Int) (c : Nat) (k : Int) : insN xs c [k] = xs.take c ++ k :: xs.drop c := by simp [insN]
theorem app_K2 {xs ys : List Int} {k : Int} {n : Nat} (h : xs.length + 1 = n) : (xs.map eI ++ [A.i .i64 k]).take n ++ ys.map eI = (xs ++ k :: ys).map eI := by
  rw [List.take_of_length_le (by simp; omega)]
  simp

theorem take_mapI' {xs : List Int} {k : Nat} (h : xs.length = k) : (xs.map eI).take k = xs.map eI := List.take_of_length_le (by simp; omega)



theorem fn_FnExactInsertKey (x : List Int) (h : (∀ y ∈ x, intWf .i64 y) ∧ x.length ≤ maxLen) (k : Int) (hk : intWf .i64 k) : mLaw2.fn [eIs false x, eI k] = some (.b true, []) := by
  simp (config := {maxSteps := 1000000}) (disch := omega) only [go_sem, ↓reduceIte, Nat.reduceEqDiff, Nat.reduceAdd, Nat.reduceMul, Nat.reduceSub, Nat.reduceLeDiff, Nat.reduceLT, Int.reduceToNat, Int.reduceLE, Int.reduceLT, Int.reduceNeg, mLaw2]

/-! ### A pair is put -/

noncomputable def mPutIn : Model := M2 .ro .ro true (cRow false) cPair fun xs x => gd (vk (keysP xs) = true ∧ xs.length ≤ 4294967296) (eRow true (putV xs x), [])
noncomputable def putPV (xs : List Pr) (x : Pr) : List Pr × Bool := if vRow xs = true ∧ (inR x.1 0 99 = true ∧ inR x.2 (-1000) 1000 = true) ∧ (putV xs x).length ≤ 24 then (putV xs x, true) else ([], false)
theorem putPV_f {xs : List Pr} {x : Pr} (h : ¬ (vRow xs = true ∧ (inR x.1 0 99 = true ∧ inR x.2 (-1000) 1000 = true) ∧ (putV xs x).length ≤ 24)) : putPV xs x = ([], false) := if_neg h
theorem putPV_t {xs : List Pr} {x : Pr} (h : vRow xs = true ∧ (inR x.1 0 99 = true ∧ inR x.2 (-1000) 1000 = true) ∧ (putV xs x).length ≤ 24) : putPV xs x = (putV xs x, true) := if_pos h
theorem putPV_len (xs : List Pr) (x : Pr) : (putPV xs x).1.length ≤ xs.length + 1 := by
  have := putV_len xs x
  unfold putPV
  split
  · exact this
  · simp
noncomputable def mPutPair : Model := M2 .ro .ro true (cRow false) cPair fun xs x => gd (xs.length ≤ 4294967296) (.tup [eRow true (putPV xs x).1, .b (putPV xs x).2], [])
theorem vRow_one (x : Pr) : vRow [x] = (inR x.1 0 99 && inR x.2 (-1000) 1000) := by
  rw [Bool.eq_iff_iff]
  simp only [vRow, keysP, List.all_cons, List.all_nil, Bool.and_true, Bool.and_eq_true, List.length_singleton, List.map_cons, List.map_nil, decide_eq_true_eq, vk_iff]
  constructor
  · rintro ⟨h1, _, h2⟩
    have := h2.2 0 (by simp)
    exact ⟨inR_t (by simpa using this), h1⟩
  · rintro ⟨h1, h2⟩
    refine ⟨h2, by omega, fun i hi => ?_, fun i hi => ?_⟩
    · simp at hi
    · simp at hi
      subst hi
      have := inR_iff.1 h1
      simpa using this

theorem cRow_one (o : Bool) (a b : Int) : (cRow o).d (.s o 2 1 [.i .i64 a, .i .i64 b]) = some [(a, b)] := (cRow o).de [(a, b)]

theorem does_isPair {G : Nat → Option FM} (h_isKey : G 85 = some (.model mIsKey)) (h_isValue : G 125 = some (.model mIsValue)) : Does T G (fun id => match id with  | _ => []) Try.f71 (M1 .ro true cPair fun x => gd True (.b (inR x.1 0 99 && inR x.2 (-1000) 1000), [])) := by
  refine does1 (rs := [.tmp 2]) rfl rfl fun x ro h => ?_
  obtain ⟨_, rfl⟩ := gd_some h
  refine ⟨fun _ => ⟨rfl, rfl⟩, ?_⟩
  cases h1 : inR x.1 0 99
  · simp (config := {maxSteps := 1000000}) (disch := omega) only [go_sem, ↓reduceIte, Nat.reduceEqDiff, Nat.reduceAdd, Nat.reduceMul, Nat.reduceSub, Nat.reduceLeDiff, Nat.reduceLT, Int.reduceToNat, Int.reduceLE, Int.reduceLT, Int.reduceNeg, h_isKey, mIsKey, h_isValue, mIsValue, drP_n, drP_c, logAt_n, logAt_c, disP_n, disP_c, notIn_n, notIn_c, h1]
    try simp
  · cases h2 : inR x.2 (-1000) 1000
    · simp (config := {maxSteps := 1000000}) (disch := omega) only [go_sem, ↓reduceIte, Nat.reduceEqDiff, Nat.reduceAdd, Nat.reduceMul, Nat.reduceSub, Nat.reduceLeDiff, Nat.reduceLT, Int.reduceToNat, Int.reduceLE, Int.reduceLT, Int.reduceNeg, h_isKey, mIsKey, h_isValue, mIsValue, drP_n, drP_c, logAt_n, logAt_c, disP_n, disP_c, notIn_n, notIn_c, h1, h2]
      try simp
    · simp (config := {maxSteps := 1000000}) (disch := omega) only [go_sem, ↓reduceIte, Nat.reduceEqDiff, Nat.reduceAdd, Nat.reduceMul, Nat.reduceSub, Nat.reduceLeDiff, Nat.reduceLT, Int.reduceToNat, Int.reduceLE, Int.reduceLT, Int.reduceNeg, h_isKey, mIsKey, h_isValue, mIsValue, drP_n, drP_c, logAt_n, logAt_c, disP_n, disP_c, notIn_n, notIn_c, h1, h2]
      try simp
theorem fo_isPair : FnOk Try.prog 71 := fnOk_of Try.func71 (by kernel_rfl)
theorem c_isPair : Contract Try.prog 71 (M1 .ro true cPair fun x => gd True (.b (inR x.1 0 99 && inR x.2 (-1000) 1000), [])) :=
  contract_of_does (DT := fun id => match id with  | _ => []) Try.checked.mixed tabOk (gok_model fo_isKey c_isKey (gok_model fo_isValue c_isValue gok_nil)) Try.func71 rfl (by kernel_rfl) (does_isPair rfl rfl)


theorem does_putInRow {G : Nat → Option FM} (h_placeInRow : G 129 = some (.model mPlace)) (h_cloneP : G 130 = some (.model mCopyRow)) (h_insertP : G 131 = some (.model mInsertP)) : Does T G (fun id => match id with  | _ => []) Try.f74 mPutIn := by
  refine does2 (rs := [.tmp 4]) rfl rfl fun xs x ro h => ?_
  obtain ⟨⟨hv, hs⟩, rfl⟩ := gd_some h
  refine ⟨fun _ => ⟨by simp [cleanA, cleanL, clean_row], rfl⟩, ?_⟩
  obtain ⟨a, b⟩ := x
  obtain ⟨p1, p2, p3, p4⟩ := place_ok (k := a) hv
  have hth := p3
  cases ht : thV xs a
  · have hn : ¬ (cntB (keysP xs) a < xs.length ∧ (xs.getD (cntB (keysP xs) a) default).1 = a) := by
      rintro ⟨h1, h2⟩
      have : thV xs a = true := by
        unfold thV
        rw [p1]
        simp only [Bool.and_eq_true, decide_eq_true_eq, Int.toNat_natCast]
        exact ⟨by omega, by omega, h2⟩
      rw [this] at ht; cases ht
    rw [putV_f hn]
    simp (config := {maxSteps := 1000000}) (disch := omega) only [go_sem, ↓reduceIte, Nat.reduceEqDiff, Nat.reduceAdd, Nat.reduceMul, Nat.reduceSub, Nat.reduceLeDiff, Nat.reduceLT, Int.reduceToNat, Int.reduceLE, Int.reduceLT, Int.reduceNeg, h_placeInRow, mPlace, h_cloneP, mCopyRow, h_insertP, mInsertP, drP_n, drP_c, logAt_n, logAt_c, disP_n, disP_c, notIn_n, notIn_c, p1, ht, cRow_one]
    try simp
  · have hlt := p4 (p3.1 ht)
    have h2 : (xs.getD (cntB (keysP xs) a) default).1 = a := by
      unfold thV at ht
      rw [p1] at ht
      simp only [Bool.and_eq_true, decide_eq_true_eq, Int.toNat_natCast] at ht
      exact ht.2.2
    have hset : xs.set (cntB (keysP xs) a) (a, b) = xs.take (cntB (keysP xs) a) ++ (a, b) :: xs.drop (cntB (keysP xs) a + 1) := by rw [List.set_eq_take_append_cons_drop, if_pos hlt]
    rw [putV_t hlt h2, ← hset]
    simp (config := {maxSteps := 1000000}) (disch := omega) only [go_sem, ↓reduceIte, Nat.reduceEqDiff, Nat.reduceAdd, Nat.reduceMul, Nat.reduceSub, Nat.reduceLeDiff, Nat.reduceLT, Int.reduceToNat, Int.reduceLE, Int.reduceLT, Int.reduceNeg, h_placeInRow, mPlace, h_cloneP, mCopyRow, h_insertP, mInsertP, drP_n, drP_c, logAt_n, logAt_c, disP_n, disP_c, notIn_n, notIn_c, p1, ht]
    try simp
theorem fo_putInRow : FnOk Try.prog 74 := fnOk_of Try.func74 (by kernel_rfl)
theorem c_putInRow : Contract Try.prog 74 mPutIn :=
  contract_of_does (DT := fun id => match id with  | _ => []) Try.checked.mixed tabOk (gok_model fo_placeInRow c_placeInRow (gok_model fo_cloneP c_cloneP (gok_model fo_insertP c_insertP gok_nil))) Try.func74 rfl (by kernel_rfl) (does_putInRow rfl rfl rfl)



def mLawRowP : Model := M2 .ro .ro true (cRow false) cPair fun xs x => gd (xs.length ≤ 9223372036854775807) (.b true, [])
theorem fn_FnExactPutPair (x : List Pr) (h : (∀ y ∈ x, intWf .i64 y.1 ∧ intWf .i64 y.2) ∧ x.length ≤ maxLen) (k : Pr) (hk : intWf .i64 k.1 ∧ intWf .i64 k.2) : mLawRowP.fn [eRow false x, ePair k] = some (.b true, []) := by
  have h2 : x.length ≤ 9223372036854775807 := h.2
  simp (config := {maxSteps := 1000000}) (disch := omega) only [go_sem, ↓reduceIte, Nat.reduceEqDiff, Nat.reduceAdd, Nat.reduceMul, Nat.reduceSub, Nat.reduceLeDiff, Nat.reduceLT, Int.reduceToNat, Int.reduceLE, Int.reduceLT, Int.reduceNeg, mLawRowP]

/-! ### A kid is put -/

def addV (x : Inn) (p : Nat) (k kid : Int) : Inn := ⟨x.keys.take p ++ k :: x.keys.drop p, x.kids.take (p + 1) ++ kid :: x.kids.drop (p + 1)⟩
theorem addV_len {x : Inn} {p : Nat} {k kid : Int} (h : p ≤ x.keys.length) (h' : p + 1 ≤ x.kids.length) : (addV x p k kid).keys.length = x.keys.length + 1 ∧ (addV x p k kid).kids.length = x.kids.length + 1 := by
  simp only [addV, List.length_append, List.length_cons, List.length_take, List.length_drop]
  omega
def mAddAt : Model := M4 .ro .ro .ro .ro true (cInn false) cI cI cI fun x p k kid => gd ((0 ≤ p ∧ p ≤ x.keys.length) ∧ x.kids.length = x.keys.length + 1 ∧ x.keys.length ≤ 34359738368) (eInn true (addV x p.toNat k kid), [])

theorem does_addKid {G : Nat → Option FM} (h_copyInts : G 140 = some (.model mCopyInts)) : Does T G (fun id => match id with | 3 => [(5, 7), (5, 8)] | _ => []) Try.f124 mAddAt := by
  refine does4 (rs := [.cell 8 93]) rfl rfl fun x p k kid ro h => ?_
  obtain ⟨⟨⟨h0, h1⟩, h2, h3⟩, rfl⟩ := gd_some h
  refine ⟨fun _ => ⟨by simp [cleanA, cleanL, clean_ints], rfl⟩, ?_⟩
  obtain ⟨n, rfl⟩ : ∃ n : Nat, p = n := ⟨p.toNat, by omega⟩
  obtain ⟨g1, g2⟩ := addV_len (x := x) (p := n) (k := k) (kid := kid) (by omega) (by omega)
  have l1 : (x.keys.take n).length = n := by rw [List.length_take]; omega
  have l2 : (x.kids.take (n + 1)).length = n + 1 := by rw [List.length_take]; omega
  simp (config := {maxSteps := 1000000}) (disch := omega) only [go_sem, ↓reduceIte, Nat.reduceEqDiff, Nat.reduceAdd, Nat.reduceMul, Nat.reduceSub, Nat.reduceLeDiff, Nat.reduceLT, Int.reduceToNat, Int.reduceLE, Int.reduceLT, Int.reduceNeg, h_copyInts, mCopyInts, drP_n, drP_c, logAt_n, logAt_c, disP_n, disP_c, notIn_n, notIn_c, Int.toNat_natCast, toNat_k1, Nat.sub_zero, sub_zero, take_mapI', sub_rest, app_K2, l1, l2]
  have e1 : n + 1 + (x.keys.length - n) = (addV x n k kid).keys.length := by omega
  have e2 : n + 1 + 1 + (x.kids.length - (n + 1)) = (addV x n k kid).kids.length := by omega
  rw [e1, e2]
  rfl
theorem fo_addKid : FnOk Try.prog 124 := fnOk_of Try.func124 (by kernel_rfl)
theorem c_addKid : Contract Try.prog 124 mAddAt :=
  contract_of_does (DT := fun id => match id with | 3 => [(5, 7), (5, 8)] | _ => []) Try.checked.mixed tabOk (gok_model fo_copyInts c_copyInts gok_nil) Try.func124 rfl (by kernel_rfl) (does_addKid rfl)


noncomputable def addKV (x : Inn) (p k kid : Int) : Inn × Bool := if vInn x = true ∧ (0 ≤ p ∧ p < x.kids.length) ∧ vInn (addV x p.toNat k kid) = true then (addV x p.toNat k kid, true) else (⟨[], []⟩, false)
theorem addKV_f {x : Inn} {p k kid : Int} (h : ¬ (vInn x = true ∧ (0 ≤ p ∧ p < x.kids.length) ∧ vInn (addV x p.toNat k kid) = true)) : addKV x p k kid = (⟨[], []⟩, false) := if_neg h
theorem addKV_t {x : Inn} {p k kid : Int} (h : vInn x = true ∧ (0 ≤ p ∧ p < x.kids.length) ∧ vInn (addV x p.toNat k kid) = true) : addKV x p k kid = (addV x p.toNat k kid, true) := if_pos h
theorem addKV_len (x : Inn) (p k kid : Int) : (addKV x p k kid).1.keys.length ≤ x.keys.length + 1 ∧ (addKV x p k kid).1.kids.length ≤ x.kids.length + 1 := by
  unfold addKV
  split
  · rename_i h
    have := (vInn_iff.1 h.1).2.2.2.2.1
    have := addV_len (x := x) (p := p.toNat) (k := k) (kid := kid) (by omega) (by omega)
    dsimp only
    omega
  · simp
noncomputable def mAddKid : Model := M4 .ro .ro .ro .ro true (cInn false) cI cI cI fun x p k kid => gd (x.keys.length ≤ 4294967296 ∧ x.kids.length ≤ 4294967296) (.tup [eInn true (addKV x p k kid).1, .b (addKV x p k kid).2], [])


theorem does_AddKidI {G : Nat → Option FM} (h_ValidInnerI : G 134 = some (.model mValidInner)) (h_cloneI : G 90 = some (.model mCopyInts)) (h_insertI : G 135 = some (.model mInsertI)) : Does T G (fun id => match id with | 3 => [(5, 0), (5, 1), (2, 5), (5, 2), (2, 7), (5, 7), (6, 7), (2, 8), (5, 8), (6, 8), (13, 0), (13, 1), (2, 13), (13, 2), (5, 13), (13, 5), (6, 13), (13, 6), (13, 7), (13, 8), (9, 13), (13, 9), (16, 0), (16, 1), (2, 16), (16, 2), (5, 16), (16, 5), (6, 16), (16, 6), (16, 7), (16, 8), (9, 16), (16, 9), (13, 16), (16, 13), (14, 16), (16, 14)] | _ => []) Try.f79 mAddKid := by
  refine does4 (rs := [.cell 8 93, .tmp 9]) rfl rfl fun x p k kid ro h => ?_
  obtain ⟨⟨h0, h1⟩, rfl⟩ := gd_some h
  refine ⟨fun _ => ⟨by simp [cleanA, cleanL, clean_ints], rfl⟩, ?_⟩
  cases hv : vInn x
  · rw [addKV_f (by rw [hv]; simp)]
    simp (config := {maxSteps := 1000000}) (disch := omega) only [go_sem, ↓reduceIte, Nat.reduceEqDiff, Nat.reduceAdd, Nat.reduceMul, Nat.reduceSub, Nat.reduceLeDiff, Nat.reduceLT, Int.reduceToNat, Int.reduceLE, Int.reduceLT, Int.reduceNeg, h_ValidInnerI, mValidInner, h_cloneI, mCopyInts, h_insertI, mInsertI, drP_n, drP_c, logAt_n, logAt_c, disP_n, disP_c, notIn_n, notIn_c, hv]
    rfl
  · have hk := vInn_iff.1 hv
    by_cases h2 : p < 0
    · have e2 : decide (p < 0) = true := decide_eq_true h2
      rw [addKV_f (fun h => by omega)]
      simp (config := {maxSteps := 1000000}) (disch := omega) only [go_sem, ↓reduceIte, Nat.reduceEqDiff, Nat.reduceAdd, Nat.reduceMul, Nat.reduceSub, Nat.reduceLeDiff, Nat.reduceLT, Int.reduceToNat, Int.reduceLE, Int.reduceLT, Int.reduceNeg, h_ValidInnerI, mValidInner, h_cloneI, mCopyInts, h_insertI, mInsertI, drP_n, drP_c, logAt_n, logAt_c, disP_n, disP_c, notIn_n, notIn_c, hv, e2]
      rfl
    · have e2 : decide (p < 0) = false := decide_eq_false h2
      by_cases h4 : (x.kids.length : Int) ≤ p
      · have e4 : decide ((x.kids.length : Int) ≤ p) = true := decide_eq_true h4
        rw [addKV_f (fun h => by omega)]
        simp (config := {maxSteps := 1000000}) (disch := omega) only [go_sem, ↓reduceIte, Nat.reduceEqDiff, Nat.reduceAdd, Nat.reduceMul, Nat.reduceSub, Nat.reduceLeDiff, Nat.reduceLT, Int.reduceToNat, Int.reduceLE, Int.reduceLT, Int.reduceNeg, h_ValidInnerI, mValidInner, h_cloneI, mCopyInts, h_insertI, mInsertI, drP_n, drP_c, logAt_n, logAt_c, disP_n, disP_c, notIn_n, notIn_c, hv, e2, e4]
        rfl
      · have e4 : decide ((x.kids.length : Int) ≤ p) = false := decide_eq_false h4
        obtain ⟨n, rfl⟩ : ∃ n : Nat, p = n := ⟨p.toNat, by omega⟩
        obtain ⟨g1, g2⟩ := addV_len (x := x) (p := n) (k := k) (kid := kid) (by omega) (by omega)
        have i1 : (x.keys.take n ++ k :: x.keys.drop n) = (addV x n k kid).keys := rfl
        have i2 : (x.kids.take (n + 1) ++ kid :: x.kids.drop (n + 1)) = (addV x n k kid).kids := rfl
        cases h3 : vInn (addV x n k kid)
        · rw [addKV_f (by rw [Int.toNat_natCast, h3]; simp)]
          simp (config := {maxSteps := 1000000}) (disch := omega) only [go_sem, ↓reduceIte, Nat.reduceEqDiff, Nat.reduceAdd, Nat.reduceMul, Nat.reduceSub, Nat.reduceLeDiff, Nat.reduceLT, Int.reduceToNat, Int.reduceLE, Int.reduceLT, Int.reduceNeg, h_ValidInnerI, mValidInner, h_cloneI, mCopyInts, h_insertI, mInsertI, drP_n, drP_c, logAt_n, logAt_c, disP_n, disP_c, notIn_n, notIn_c, hv, e2, e4, Int.toNat_natCast, toNat_k1, insN_one, i1, i2, h3]
          try rfl
        · rw [addKV_t ⟨hv, by omega, by rw [Int.toNat_natCast]; exact h3⟩]
          simp (config := {maxSteps := 1000000}) (disch := omega) only [go_sem, ↓reduceIte, Nat.reduceEqDiff, Nat.reduceAdd, Nat.reduceMul, Nat.reduceSub, Nat.reduceLeDiff, Nat.reduceLT, Int.reduceToNat, Int.reduceLE, Int.reduceLT, Int.reduceNeg, h_ValidInnerI, mValidInner, h_cloneI, mCopyInts, h_insertI, mInsertI, drP_n, drP_c, logAt_n, logAt_c, disP_n, disP_c, notIn_n, notIn_c, hv, e2, e4, Int.toNat_natCast, toNat_k1, insN_one, i1, i2, h3]
          try rfl
theorem fo_AddKidI : FnOk Try.prog 79 := fnOk_of Try.func79 (by kernel_rfl)
theorem c_AddKidI : Contract Try.prog 79 mAddKid :=
  contract_of_does (DT := fun id => match id with | 3 => [(5, 0), (5, 1), (2, 5), (5, 2), (2, 7), (5, 7), (6, 7), (2, 8), (5, 8), (6, 8), (13, 0), (13, 1), (2, 13), (13, 2), (5, 13), (13, 5), (6, 13), (13, 6), (13, 7), (13, 8), (9, 13), (13, 9), (16, 0), (16, 1), (2, 16), (16, 2), (5, 16), (16, 5), (6, 16), (16, 6), (16, 7), (16, 8), (9, 16), (16, 9), (13, 16), (16, 13), (14, 16), (16, 14)] | _ => []) Try.checked.mixed tabOk (gok_model fo_ValidInnerI c_ValidInnerI (gok_model fo_cloneI c_cloneI (gok_model fo_insertI c_insertI gok_nil))) Try.func79 rfl (by kernel_rfl) (does_AddKidI rfl rfl rfl)


def mLawInn4 : Model := M4 .ro .ro .ro .ro true (cInn false) cI cI cI fun x p k kid => gd (x.keys.length ≤ 9223372036854775807 ∧ x.kids.length ≤ 9223372036854775807) (.b true, [])
theorem fn_FnExactAddKid (x : Inn) (h : ((∀ y ∈ x.keys, intWf .i64 y) ∧ x.keys.length ≤ maxLen) ∧ (∀ y ∈ x.kids, intWf .i64 y) ∧ x.kids.length ≤ maxLen) (p : Int) (hp : intWf .i64 p) (k : Int) (hk : intWf .i64 k) (kid : Int) (hkid : intWf .i64 kid) : mLawInn4.fn [eInn false x, eI p, eI k, eI kid] = some (.b true, []) := by
  have h2 : x.keys.length ≤ 9223372036854775807 := h.1.2
  have h3 : x.kids.length ≤ 9223372036854775807 := h.2.2
  simp (config := {maxSteps := 1000000}) (disch := omega) only [go_sem, ↓reduceIte, Nat.reduceEqDiff, Nat.reduceAdd, Nat.reduceMul, Nat.reduceSub, Nat.reduceLeDiff, Nat.reduceLT, Int.reduceToNat, Int.reduceLE, Int.reduceLT, Int.reduceNeg, mLawInn4]
end Go.TM
