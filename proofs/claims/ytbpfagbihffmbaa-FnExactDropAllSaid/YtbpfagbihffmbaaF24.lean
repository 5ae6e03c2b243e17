/- Contracts, 23 24. -/
import Derived.Test.YtbpfagbihffmbaaF30
import Derived.Lib.AppendZeros
import Derived.Lib.SliceRun
import Derived.Deep.RegionLaw
import Derived.Laws.IdiomCopy
import Derived.Deep.MidRow
/- Contracts, 23: the value of a key; rows put together; slices.Concat, slices.Grow. -/
namespace Go.TM
open Go.Proofs
set_option linter.unusedVariables false
set_option linter.unusedSimpArgs false
set_option maxRecDepth 100000

/-! ### The place of a key in a row -/

noncomputable def plV (xs : List Pr) (k : Int) : Int := vKeysBelow (keysP xs) k
noncomputable def thV (xs : List Pr) (k : Int) : Bool := decide (0 ≤ plV xs k) && (decide (plV xs k < xs.length) && decide ((xs.getD (plV xs k).toNat default).1 = k))
noncomputable def mPlace : Model := M2 .ro .ro true (cRow false) cI fun xs k => gd (xs.length ≤ 1099511627776) (.tup [eI (plV xs k), .b (thV xs k)], [])
theorem vRow_vk {xs : List Pr} (h : vRow xs = true) : vk (keysP xs) = true ∧ xs.length ≤ 24 := by
  simp only [vRow, Bool.and_eq_true, decide_eq_true_eq] at h
  exact ⟨h.2.2, h.2.1⟩

theorem keysP_get {xs : List Pr} {i : Nat} (h : i < xs.length) : (keysP xs).getD i 0 = (xs.getD i default).1 := by simp [keysP, h]

/-- Where a key is, of a row with valid keys. -/
theorem place_ok {xs : List Pr} {k : Int} (h : vk (keysP xs) = true) : plV xs k = cntB (keysP xs) k ∧ cntB (keysP xs) k ≤ xs.length ∧
    (thV xs k = true ↔ k ∈ keysP xs) ∧ (k ∈ keysP xs → cntB (keysP xs) k < xs.length) := by
  have hp : plV xs k = cntB (keysP xs) k := by simp [plV, vKeysBelow, h]
  have hl : cntB (keysP xs) k ≤ (keysP xs).length := (List.takeWhile_prefix _).length_le
  have hkl : (keysP xs).length = xs.length := by simp [keysP]
  have hm := mem_at (k := k) (vk_iff.1 h)
  have hg : ∀ _ : cntB (keysP xs) k < xs.length, (keysP xs).getD (cntB (keysP xs) k) 0 = (xs.getD (cntB (keysP xs) k) default).1 := by
    intro hlt
    exact keysP_get hlt
  refine ⟨hp, by omega, ?_, fun h => by have := (hm.1 h).1; omega⟩
  unfold thV
  rw [hp, hm]
  simp only [Bool.and_eq_true, decide_eq_true_eq, Int.toNat_natCast]
  constructor
  · rintro ⟨_, h1, h2⟩
    have h1' : cntB (keysP xs) k < xs.length := by omega
    exact ⟨by omega, (hg h1').trans h2⟩
  · rintro ⟨h1, h2⟩
    have h1' : cntB (keysP xs) k < xs.length := by omega
    exact ⟨by omega, by omega, (hg h1').symm.trans h2⟩

theorem does_placeInRow {G : Nat → Option FM} (h_keysOfRow : G 127 = some (.model mKeysOf)) (h_KeysBelowI : G 160 = some (.model mKeysBelow)) : Does T G (fun id => match id with  | _ => []) Try.f129 mPlace := by
  refine does2 (rs := [.tmp 4, .tmp 5]) rfl rfl fun xs k ro h => ?_
  obtain ⟨hs, rfl⟩ := gd_some h
  refine ⟨fun _ => ⟨by simp [cleanA, cleanL], rfl⟩, ?_⟩
  have hkl : (keysP xs).length = xs.length := by simp [keysP]
  have hp : plV xs k = vKeysBelow (keysP xs) k := rfl
  have ht : thV xs k = (decide (0 ≤ vKeysBelow (keysP xs) k) && (decide (vKeysBelow (keysP xs) k < xs.length) && decide ((xs.getD (vKeysBelow (keysP xs) k).toNat default).1 = k))) := rfl
  generalize hg : vKeysBelow (keysP xs) k = p at *
  by_cases h0 : 0 ≤ p
  · obtain ⟨n, rfl⟩ : ∃ n : Nat, p = n := ⟨p.toNat, by omega⟩
    have e0 : decide (0 ≤ (n : Int)) = true := decide_eq_true (by omega)
    by_cases h1 : n < xs.length
    · have e1 : decide ((n : Int) < (xs.length : Int)) = true := decide_eq_true (by omega)
      simp (config := {maxSteps := 1000000}) (disch := omega) only [go_sem, ↓reduceIte, Nat.reduceEqDiff, Nat.reduceAdd, Nat.reduceMul, Nat.reduceSub, Nat.reduceLeDiff, Nat.reduceLT, Int.reduceToNat, Int.reduceLE, Int.reduceLT, Int.reduceNeg, h_keysOfRow, mKeysOf, h_KeysBelowI, mKeysBelow, hg, hp, ht, e0, e1]
      try simp
    · have e1 : decide ((n : Int) < (xs.length : Int)) = false := decide_eq_false (by omega)
      simp (config := {maxSteps := 1000000}) (disch := omega) only [go_sem, ↓reduceIte, Nat.reduceEqDiff, Nat.reduceAdd, Nat.reduceMul, Nat.reduceSub, Nat.reduceLeDiff, Nat.reduceLT, Int.reduceToNat, Int.reduceLE, Int.reduceLT, Int.reduceNeg, h_keysOfRow, mKeysOf, h_KeysBelowI, mKeysBelow, hg, hp, ht, e0, e1]
      try simp
  · have e0 : decide (0 ≤ p) = false := decide_eq_false h0
    simp (config := {maxSteps := 1000000}) (disch := omega) only [go_sem, ↓reduceIte, Nat.reduceEqDiff, Nat.reduceAdd, Nat.reduceMul, Nat.reduceSub, Nat.reduceLeDiff, Nat.reduceLT, Int.reduceToNat, Int.reduceLE, Int.reduceLT, Int.reduceNeg, h_keysOfRow, mKeysOf, h_KeysBelowI, mKeysBelow, hg, hp, ht, e0]
    try simp
theorem fo_placeInRow : FnOk Try.prog 129 := fnOk_of Try.func129 (by kernel_rfl)
theorem c_placeInRow : Contract Try.prog 129 mPlace :=
  contract_of_does (DT := fun id => match id with  | _ => []) Try.checked.mixed tabOk (gok_model fo_keysOfRow c_keysOfRow (gok_model fo_KeysBelowI c_KeysBelowI gok_nil)) Try.func129 rfl (by kernel_rfl) (does_placeInRow rfl rfl)




end Go.TM
/- Contracts, 24: slices.Grow of nil, slices.Concat. -/
namespace Go.Proofs
open Go.Shelf Go.RowKit Go.TM
set_option linter.unusedVariables false
set_option linter.unusedSimpArgs false

theorem zeroCells_size (z : Array Value) (m : Nat) : (Builtin.zeroCells z m).size = m * z.size := by
  simp [Builtin.zeroCells, size_madeCells]

theorem int_info2 : ∃ i z, Try.prog.info? 3 = some i ∧ i.size = 1 ∧ i.bytes = 8 ∧ i.zero = some z ∧ z.cells.size = 1 := by
  have h : (match Try.prog.info? 3 with
    | some i => decide (i.size = 1) && (decide (i.bytes = 8) && (match i.zero with
      | some z => decide (z.cells.size = 1)
      | none => false))
    | none => false) = true := by kernel_rfl
  split at h
  · rename_i i hi
    simp only [Bool.and_eq_true, decide_eq_true_eq] at h
    obtain ⟨h1, h2, h3⟩ := h
    split at h3
    · rename_i z hz
      exact ⟨i, z, hi, h1, h2, hz, by simpa using h3⟩
    · cases h3
  · cases h

set_option maxHeartbeats 4000000 in
set_option maxRecDepth 1000000 in
theorem growI_raw : GrowOk Try.prog 167 1 := by
  intro w n h0 h9
  obtain ⟨i0, z, hi0, hs, hb, hz, hzs⟩ := int_info2
  obtain ⟨k, rfl⟩ : ∃ k : Nat, n = k := ⟨n.toNat, by omega⟩
  have h1 : ¬ ((k : Int) < 0) := by omega
  by_cases hk : k = 0
  · subst hk
    go_enter Try.func167, Try.ntmps167
    go_wp2
    go_ret
    exact .inl ⟨rfl, rfl⟩
  · have h4 : (k : Int) > 0 := by omega
    have hw : wrap64 (k : Int) = k := by unfold wrap64; omega
    have hge := grownCap_ge w k 0 3
    have hle := grownCap_le_maxLen w k 0 3 (by unfold maxLen; omega)
    have hrz : ∀ ty, (Builtin.append_ #[35, 3] ty #[.slice none 0 0, .int .i64 (k : Int)]).run Try.prog w =
        .ok (.slice (some ⟨w.heap.size, 0, none⟩) k (grownCap w k 0 3)) (w.drew.alloc (.cells (Builtin.zeroCells z.cells k ++ Builtin.zeroCells z.cells (grownCap w k 0 3 - k)) 3)) := fun ty =>
      Lib.run_append_nil_zeros w 35 3 ty 3 i0 z .i64 .i64 Try.underlying35 Try.underlying3 hi0 hz k (by omega) (by omega) (by omega) (by rw [hb]; omega)
    obtain ⟨G, hG⟩ : ∃ G, G = grownCap w k 0 3 := ⟨_, rfl⟩
    obtain ⟨cur, hcur⟩ : ∃ cur, cur = Builtin.zeroCells z.cells k ++ Builtin.zeroCells z.cells (G - k) := ⟨_, rfl⟩
    obtain ⟨W1, hW1⟩ : ∃ W1, W1 = w.drew.alloc (.cells cur 3) := ⟨_, rfl⟩
    rw [← hG, ← hcur, ← hW1] at hrz
    rw [← hG] at hge hle
    have hmax : G ≤ 9223372036854775807 := hle
    have hfin : Hid (cur.size = G * 1) := by
      show cur.size = G * 1
      rw [hcur, Array.size_append, zeroCells_size, zeroCells_size, hzs]; omega
    have hW : Hid (W1 = w.drew.alloc (.cells cur 3)) := hW1
    have hL : Hid (G ≤ maxLen) := hle
    clear hG hcur hW1 hle hzs hz hi0 hs hb
    have hraw : Calls Try.prog 167 #[.slice none 0 0, .int .i64 (k : Int)] w fun e w' => e = .returned (.slice (some ⟨w.heap.size, 0, none⟩) 0 G) ∧ w' = W1 := by
      go_enter Try.func167, Try.ntmps167
      go_wp2_with (at_builtin; refine Lib.wpList_append_run _ rfl _ _ _ _ rfl _ _ rfl rfl _ _ (hrz _) ?_)
      all_goals (go_ret; exact ⟨rfl, rfl⟩)
    exact hraw.mono fun e w' h => .inr ⟨G, cur, _, h.1, hL.out, hfin.out, h.2.trans hW.out⟩
theorem pair_info2 : ∃ i z, Try.prog.info? 52 = some i ∧ i.size = 2 ∧ i.bytes = 16 ∧ i.zero = some z ∧ z.cells.size = 2 := by
  have h : (match Try.prog.info? 52 with
    | some i => decide (i.size = 2) && (decide (i.bytes = 16) && (match i.zero with
      | some z => decide (z.cells.size = 2)
      | none => false))
    | none => false) = true := by kernel_rfl
  split at h
  · rename_i i hi
    simp only [Bool.and_eq_true, decide_eq_true_eq] at h
    obtain ⟨h1, h2, h3⟩ := h
    split at h3
    · rename_i z hz
      exact ⟨i, z, hi, h1, h2, hz, by simpa using h3⟩
    · cases h3
  · cases h

set_option maxHeartbeats 4000000 in
set_option maxRecDepth 1000000 in
theorem growP_raw : GrowOk Try.prog 177 2 := by
  intro w n h0 h9
  obtain ⟨i0, z, hi0, hs, hb, hz, hzs⟩ := pair_info2
  obtain ⟨k, rfl⟩ : ∃ k : Nat, n = k := ⟨n.toNat, by omega⟩
  have h1 : ¬ ((k : Int) < 0) := by omega
  by_cases hk : k = 0
  · subst hk
    go_enter Try.func177, Try.ntmps177
    go_wp2
    go_ret
    exact .inl ⟨rfl, rfl⟩
  · have h4 : (k : Int) > 0 := by omega
    have hw : wrap64 (k : Int) = k := by unfold wrap64; omega
    have hge := grownCap_ge w k 0 52
    have hle := grownCap_le_maxLen w k 0 52 (by unfold maxLen; omega)
    have hrz : ∀ ty, (Builtin.append_ #[44, 3] ty #[.slice none 0 0, .int .i64 (k : Int)]).run Try.prog w =
        .ok (.slice (some ⟨w.heap.size, 0, none⟩) k (grownCap w k 0 52)) (w.drew.alloc (.cells (Builtin.zeroCells z.cells k ++ Builtin.zeroCells z.cells (grownCap w k 0 52 - k)) 52)) := fun ty =>
      Lib.run_append_nil_zeros w 44 3 ty 52 i0 z .i64 .i64 Try.underlying44 Try.underlying3 hi0 hz k (by omega) (by omega) (by omega) (by rw [hb]; omega)
    obtain ⟨G, hG⟩ : ∃ G, G = grownCap w k 0 52 := ⟨_, rfl⟩
    obtain ⟨cur, hcur⟩ : ∃ cur, cur = Builtin.zeroCells z.cells k ++ Builtin.zeroCells z.cells (G - k) := ⟨_, rfl⟩
    obtain ⟨W1, hW1⟩ : ∃ W1, W1 = w.drew.alloc (.cells cur 52) := ⟨_, rfl⟩
    rw [← hG, ← hcur, ← hW1] at hrz
    rw [← hG] at hge hle
    have hmax : G ≤ 9223372036854775807 := hle
    have hfin : Hid (cur.size = G * 2) := by
      show cur.size = G * 2
      rw [hcur, Array.size_append, zeroCells_size, zeroCells_size, hzs]; omega
    have hW : Hid (W1 = w.drew.alloc (.cells cur 52)) := hW1
    have hL : Hid (G ≤ maxLen) := hle
    clear hG hcur hW1 hle hzs hz hi0 hs hb
    have hraw : Calls Try.prog 177 #[.slice none 0 0, .int .i64 (k : Int)] w fun e w' => e = .returned (.slice (some ⟨w.heap.size, 0, none⟩) 0 G) ∧ w' = W1 := by
      go_enter Try.func177, Try.ntmps177
      go_wp2_with (at_builtin; refine Lib.wpList_append_run _ rfl _ _ _ _ rfl _ _ rfl rfl _ _ (hrz _) ?_)
      all_goals (go_ret; exact ⟨rfl, rfl⟩)
    exact hraw.mono fun e w' h => .inr ⟨G, cur, _, h.1, hL.out, hfin.out, h.2.trans hW.out⟩
end Go.Proofs
namespace Go.TM
open Go.Proofs
set_option linter.unusedVariables false
set_option linter.unusedSimpArgs false
set_option maxRecDepth 100000

theorem c_growI : GrowOk Try.prog 167 1 := growI_raw
theorem fo_growI : FnOk Try.prog 167 := fnOk_of Try.func167 (by kernel_rfl)

theorem c_growP : GrowOk Try.prog 177 2 := growP_raw
theorem fo_growP : FnOk Try.prog 177 := fnOk_of Try.func177 (by kernel_rfl)


abbrev eRows (o : Bool) (xs : List (List Pr)) : A := .s o 1 xs.length (xs.map (eRow o))
theorem cRows_e (o : Bool) (xs : List (List Pr)) : (cS o (cRow o)).e xs = .s o 1 xs.length (xs.map (eRow o)) := rfl
theorem cRows_d (o : Bool) (xs : List (List Pr)) : (cS o (cRow o)).d (.s o 1 xs.length (xs.map (eRow o))) = some xs := (cS o (cRow o)).de xs
theorem cRows_2 (o : Bool) (a b : List Pr) : (cS o (cRow o)).d (.s o 1 2 [eRow o a, eRow o b]) = some [a, b] := (cS o (cRow o)).de [a, b]
theorem cIss_2 (o : Bool) (a b : List Int) : (cS o (cS o cI)).d (.s o 1 2 [eIs o a, eIs o b]) = some [a, b] := (cS o (cS o cI)).de [a, b]
theorem cIss_3 (o : Bool) (a b c : List Int) : (cS o (cS o cI)).d (.s o 1 3 [eIs o a, eIs o b, eIs o c]) = some [a, b, c] := (cS o (cS o cI)).de [a, b, c]
theorem get_Rs {o : Bool} {xs : List (List Pr)} {k : Nat} (h : k < xs.length) : (xs.map (eRow o))[k]? = some (eRow o (xs.getD k [])) := by
  rw [List.getElem?_map, List.getElem?_eq_getElem h]; simp [h]
theorem imm_rows (o : Bool) (xs : List (List Pr)) : (xs.map (eRow o)).map imm1 = xs.map (eRow false) := by
  induction xs with
  | nil => rfl
  | cons x xs ih => simp only [List.map_cons, ih]; rfl
theorem normL_k (c : A) (cs : List A) : normL (c :: cs) = norm c :: normL cs := rfl
theorem norm_s (o : Bool) (sz len : Nat) (cs : List A) : norm (.s o sz len cs) = .s false sz len (normL cs) := rfl
theorem norm_i (k : IntKind) (n : Int) : norm (.i k n) = .i k n := rfl
attribute [go_sem] normL_k norm_s norm_i cRows_e cRows_d cRows_2 cIss_2 cIss_3 get_Rs imm_rows

theorem app_II {xs ys : List Int} {k : Nat} (h : xs.length = k) : (xs.map eI).take k ++ ys.map eI = (xs ++ ys).map eI := by
  rw [List.take_of_length_le (by rw [List.length_map]; omega), List.map_append]

theorem flat_step {α : Type} {xs : List (List α)} {k : Nat} (h : k < xs.length) : (xs.take (k + 1)).flatten = (xs.take k).flatten ++ xs.getD k [] := by
  rw [List.take_succ_eq_append_getElem h, List.flatten_append]
  simp [h]
theorem flat_bound {α : Type} {n : Nat} : ∀ {xs : List (List α)} {k : Nat}, (xs.all fun x => decide (x.length ≤ n)) = true → ((xs.take k).flatten).length ≤ xs.length * n
  | [], _, _ => by simp
  | x :: xs, 0, _ => by simp
  | x :: xs, k + 1, h => by
    simp only [List.all_cons, Bool.and_eq_true, decide_eq_true_eq] at h
    have := flat_bound (k := k) h.2
    simp only [List.take_succ_cons, List.flatten_cons, List.length_append, List.length_cons, Nat.add_mul]
    omega
def mConcatP : Model := M1 .ro true (cS false (cRow false)) fun xss => gd (xss.length ≤ 16 ∧ (xss.all fun x => decide (x.length ≤ 68719476736)) = true) (eRow true xss.flatten, [])
def mConcatI : Model := M1 .ro true (cS false (cS false cI)) fun xss => gd (xss.length ≤ 16 ∧ (xss.all fun x => decide (x.length ≤ 68719476736)) = true) (eIs true xss.flatten, [])

theorem does_concatP {G : Nat → Option FM} (h_growP : G 177 = some (.grow 2)) : Does T G (fun id => match id with  | _ => []) Try.f169 mConcatP := by
  refine does1 (rs := [.tmp 2]) rfl rfl fun xss ro h => ?_
  obtain ⟨⟨hs, hall⟩, rfl⟩ := gd_some h
  refine ⟨fun _ => ⟨by simp only [cleanA, clean_row], rfl⟩, ?_⟩
  simp (config := {maxSteps := 1000000}) (disch := omega) only [go_sem, ↓reduceIte, Nat.reduceEqDiff, Nat.reduceAdd, Nat.reduceMul, Nat.reduceSub, Nat.reduceLeDiff, Nat.reduceLT, Int.reduceToNat, Int.reduceLE, Int.reduceLT, Int.reduceNeg, h_growP]
  refine W_loop_i (fun s => s.sl 0 = eRows false xss ∧ s.sl 9 = eRows false xss ∧ s.sl 10 = eI xss.length ∧ ∃ k : Nat, k ≤ xss.length ∧ s.sl 11 = eI k ∧ s.sl 3 = eI ((xss.take k).flatten.length : Nat)) (fun s => xss.length - iN (s.sl 11)) ?_ ?_
  · exact ⟨rfl, rfl, rfl, 0, Nat.zero_le _, rfl, by rw [List.take_zero, List.flatten_nil]; rfl⟩
  · rintro sl hp n ⟨h0, h9, h10, k, hk, h11, h3⟩
    dsimp only at h0 h9 h10 h11 h3
    have hb := flat_bound (k := k) hall
    have hb1 := flat_bound (k := k + 1) hall
    simp (config := {maxSteps := 1000000}) (disch := omega) only [go_sem, ↓reduceIte, Nat.reduceEqDiff, Nat.reduceAdd, Nat.reduceMul, Nat.reduceSub, Nat.reduceLeDiff, Nat.reduceLT, Int.reduceToNat, Int.reduceLE, Int.reduceLT, Int.reduceNeg, h_growP, h0, h9, h10, h11, h3]
    (first | refine runKS_split (fun g1 => ?_) (fun g1 => ?_) | refine cond_split (fun g1 => ?_) (fun g1 => ?_) | refine runK_split (fun g1 => ?_) (fun g1 => ?_))
    · have g1' := of_decide_eq_true g1
      have hst := congrArg List.length (flat_step (show k < xss.length by omega))
      rw [List.length_append] at hst
      have e0 : decide (((xss.take k).flatten.length : Int) + ((xss.getD k []).length : Int) < 0) = false := decide_eq_false (by omega)
      simp (config := {maxSteps := 1000000}) (disch := omega) only [go_sem, ↓reduceIte, Nat.reduceEqDiff, Nat.reduceAdd, Nat.reduceMul, Nat.reduceSub, Nat.reduceLeDiff, Nat.reduceLT, Int.reduceToNat, Int.reduceLE, Int.reduceLT, Int.reduceNeg, h_growP, h0, h9, h10, h11, h3, g1, e0]
      exact ⟨⟨k + 1, by omega, rfl, by rw [hst, Int.natCast_add]⟩, by omega⟩
    · have g1' := of_decide_eq_false g1
      obtain rfl : k = xss.length := by omega
      rw [List.take_length] at hb h3
      simp (config := {maxSteps := 1000000}) (disch := omega) only [go_sem, ↓reduceIte, Nat.reduceEqDiff, Nat.reduceAdd, Nat.reduceMul, Nat.reduceSub, Nat.reduceLeDiff, Nat.reduceLT, Int.reduceToNat, Int.reduceLE, Int.reduceLT, Int.reduceNeg, h_growP, h0, h9, h10, h11, h3, g1]
      refine W_loop_i (fun s => s.sl 25 = eRows false xss ∧ s.sl 26 = eI xss.length ∧ ∃ k : Nat, k ≤ xss.length ∧ s.sl 27 = eI k ∧ ∃ m, m < s.n ∧ s.sl 6 = .ref (m, 0) [] 0 0 2 (xss.take k).flatten.length ∧ s.hp (m, 0) = some ⟨2, (xss.take k).flatten.length, (xss.take k).flatten.flatMap ePr, fun _ => 0⟩) (fun s => xss.length - iN (s.sl 27)) ?_ ?_
      · refine ⟨rfl, rfl, 0, Nat.zero_le _, rfl, n + 1 + 1, by show n + 1 + 1 < n + 1 + 3 + 3; omega, rfl, upd_same ..⟩
      · rintro sl hp n ⟨h25, h26, k, hk, h27, m, hm, h6, hh⟩
        dsimp only at h25 h26 h27 h6 hh hm
        have hb := flat_bound (k := k) hall
        have hb1 := flat_bound (k := k + 1) hall
        simp (config := {maxSteps := 1000000}) (disch := omega) only [go_sem, ↓reduceIte, Nat.reduceEqDiff, Nat.reduceAdd, Nat.reduceMul, Nat.reduceSub, Nat.reduceLeDiff, Nat.reduceLT, Int.reduceToNat, Int.reduceLE, Int.reduceLT, Int.reduceNeg, h_growP, h25, h26, h27, h6, hh]
        (first | refine runKS_split (fun g1 => ?_) (fun g1 => ?_) | refine cond_split (fun g1 => ?_) (fun g1 => ?_) | refine runK_split (fun g1 => ?_) (fun g1 => ?_))
        · have g1' := of_decide_eq_true g1
          have hst := flat_step (show k < xss.length by omega)
          have hsl := congrArg List.length hst
          rw [List.length_append] at hsl
          simp (config := {maxSteps := 1000000}) (disch := omega) only [go_sem, ↓reduceIte, Nat.reduceEqDiff, Nat.reduceAdd, Nat.reduceMul, Nat.reduceSub, Nat.reduceLeDiff, Nat.reduceLT, Int.reduceToNat, Int.reduceLE, Int.reduceLT, Int.reduceNeg, h_growP, h25, h26, h27, h6, hh, g1, app_PP]
          exact ⟨⟨k + 1, by omega, rfl, n + 1 + 3 + 2, by omega, by rw [hsl], by rw [upd_same, hst, List.length_append]⟩, by omega⟩
        · have g1' := of_decide_eq_false g1
          obtain rfl : k = xss.length := by omega
          rw [List.take_length] at h6 hh
          simp (config := {maxSteps := 1000000}) (disch := omega) only [go_sem, ↓reduceIte, Nat.reduceEqDiff, Nat.reduceAdd, Nat.reduceMul, Nat.reduceSub, Nat.reduceLeDiff, Nat.reduceLT, Int.reduceToNat, Int.reduceLE, Int.reduceLT, Int.reduceNeg, h_growP, h25, h26, h27, h6, hh, g1]
theorem fo_concatP : FnOk Try.prog 169 := fnOk_of Try.func169 (by kernel_rfl)
theorem c_concatP : Contract Try.prog 169 mConcatP :=
  contract_of_does (DT := fun id => match id with  | _ => []) Try.checked.mixed tabOk (gok_grow fo_growP c_growP gok_nil) Try.func169 rfl (by kernel_rfl) (does_concatP rfl)


theorem does_concatI {G : Nat → Option FM} (h_growI : G 167 = some (.grow 1)) : Does T G (fun id => match id with  | _ => []) Try.f145 mConcatI := by
  refine does1 (rs := [.tmp 2]) rfl rfl fun xss ro h => ?_
  obtain ⟨⟨hs, hall⟩, rfl⟩ := gd_some h
  refine ⟨fun _ => ⟨by simp only [cleanA, clean_ints], rfl⟩, ?_⟩
  simp (config := {maxSteps := 1000000}) (disch := omega) only [go_sem, ↓reduceIte, Nat.reduceEqDiff, Nat.reduceAdd, Nat.reduceMul, Nat.reduceSub, Nat.reduceLeDiff, Nat.reduceLT, Int.reduceToNat, Int.reduceLE, Int.reduceLT, Int.reduceNeg, h_growI]
  refine W_loop_i (fun s => s.sl 0 = eIss false xss ∧ s.sl 9 = eIss false xss ∧ s.sl 10 = eI xss.length ∧ ∃ k : Nat, k ≤ xss.length ∧ s.sl 11 = eI k ∧ s.sl 3 = eI ((xss.take k).flatten.length : Nat)) (fun s => xss.length - iN (s.sl 11)) ?_ ?_
  · exact ⟨rfl, rfl, rfl, 0, Nat.zero_le _, rfl, by rw [List.take_zero, List.flatten_nil]; rfl⟩
  · rintro sl hp n ⟨h0, h9, h10, k, hk, h11, h3⟩
    dsimp only at h0 h9 h10 h11 h3
    have hb := flat_bound (k := k) hall
    have hb1 := flat_bound (k := k + 1) hall
    simp (config := {maxSteps := 1000000}) (disch := omega) only [go_sem, ↓reduceIte, Nat.reduceEqDiff, Nat.reduceAdd, Nat.reduceMul, Nat.reduceSub, Nat.reduceLeDiff, Nat.reduceLT, Int.reduceToNat, Int.reduceLE, Int.reduceLT, Int.reduceNeg, h_growI, h0, h9, h10, h11, h3]
    (first | refine runKS_split (fun g1 => ?_) (fun g1 => ?_) | refine cond_split (fun g1 => ?_) (fun g1 => ?_) | refine runK_split (fun g1 => ?_) (fun g1 => ?_))
    · have g1' := of_decide_eq_true g1
      have hst := congrArg List.length (flat_step (show k < xss.length by omega))
      rw [List.length_append] at hst
      have e0 : decide (((xss.take k).flatten.length : Int) + ((xss.getD k []).length : Int) < 0) = false := decide_eq_false (by omega)
      simp (config := {maxSteps := 1000000}) (disch := omega) only [go_sem, ↓reduceIte, Nat.reduceEqDiff, Nat.reduceAdd, Nat.reduceMul, Nat.reduceSub, Nat.reduceLeDiff, Nat.reduceLT, Int.reduceToNat, Int.reduceLE, Int.reduceLT, Int.reduceNeg, h_growI, h0, h9, h10, h11, h3, g1, e0]
      exact ⟨⟨k + 1, by omega, rfl, by rw [hst, Int.natCast_add]⟩, by omega⟩
    · have g1' := of_decide_eq_false g1
      obtain rfl : k = xss.length := by omega
      rw [List.take_length] at hb h3
      simp (config := {maxSteps := 1000000}) (disch := omega) only [go_sem, ↓reduceIte, Nat.reduceEqDiff, Nat.reduceAdd, Nat.reduceMul, Nat.reduceSub, Nat.reduceLeDiff, Nat.reduceLT, Int.reduceToNat, Int.reduceLE, Int.reduceLT, Int.reduceNeg, h_growI, h0, h9, h10, h11, h3, g1]
      refine W_loop_i (fun s => s.sl 25 = eIss false xss ∧ s.sl 26 = eI xss.length ∧ ∃ k : Nat, k ≤ xss.length ∧ s.sl 27 = eI k ∧ ∃ m, m < s.n ∧ s.sl 6 = .ref (m, 0) [] 0 0 1 (xss.take k).flatten.length ∧ s.hp (m, 0) = some ⟨1, (xss.take k).flatten.length, (xss.take k).flatten.map eI, fun _ => 0⟩) (fun s => xss.length - iN (s.sl 27)) ?_ ?_
      · refine ⟨rfl, rfl, 0, Nat.zero_le _, rfl, n + 1 + 1, by show n + 1 + 1 < n + 1 + 3 + 3; omega, rfl, upd_same ..⟩
      · rintro sl hp n ⟨h25, h26, k, hk, h27, m, hm, h6, hh⟩
        dsimp only at h25 h26 h27 h6 hh hm
        have hb := flat_bound (k := k) hall
        have hb1 := flat_bound (k := k + 1) hall
        simp (config := {maxSteps := 1000000}) (disch := omega) only [go_sem, ↓reduceIte, Nat.reduceEqDiff, Nat.reduceAdd, Nat.reduceMul, Nat.reduceSub, Nat.reduceLeDiff, Nat.reduceLT, Int.reduceToNat, Int.reduceLE, Int.reduceLT, Int.reduceNeg, h_growI, h25, h26, h27, h6, hh]
        (first | refine runKS_split (fun g1 => ?_) (fun g1 => ?_) | refine cond_split (fun g1 => ?_) (fun g1 => ?_) | refine runK_split (fun g1 => ?_) (fun g1 => ?_))
        · have g1' := of_decide_eq_true g1
          have hst := flat_step (show k < xss.length by omega)
          have hsl := congrArg List.length hst
          rw [List.length_append] at hsl
          simp (config := {maxSteps := 1000000}) (disch := omega) only [go_sem, ↓reduceIte, Nat.reduceEqDiff, Nat.reduceAdd, Nat.reduceMul, Nat.reduceSub, Nat.reduceLeDiff, Nat.reduceLT, Int.reduceToNat, Int.reduceLE, Int.reduceLT, Int.reduceNeg, h_growI, h25, h26, h27, h6, hh, g1, app_II]
          exact ⟨⟨k + 1, by omega, rfl, n + 1 + 3 + 2, by omega, by rw [hsl], by rw [upd_same, hst, List.length_append]⟩, by omega⟩
        · have g1' := of_decide_eq_false g1
          obtain rfl : k = xss.length := by omega
          rw [List.take_length] at h6 hh
          simp (config := {maxSteps := 1000000}) (disch := omega) only [go_sem, ↓reduceIte, Nat.reduceEqDiff, Nat.reduceAdd, Nat.reduceMul, Nat.reduceSub, Nat.reduceLeDiff, Nat.reduceLT, Int.reduceToNat, Int.reduceLE, Int.reduceLT, Int.reduceNeg, h_growI, h25, h26, h27, h6, hh, g1]
theorem fo_concatI : FnOk Try.prog 145 := fnOk_of Try.func145 (by kernel_rfl)
theorem c_concatI : Contract Try.prog 145 mConcatI :=
  contract_of_does (DT := fun id => match id with  | _ => []) Try.checked.mixed tabOk (gok_grow fo_growI c_growI gok_nil) Try.func145 rfl (by kernel_rfl) (does_concatI rfl)

end Go.TM
