/- Contracts, 35: trees as the laws hold them. -/
import Derived.Test.YtbpfagbihffmbaaF28
namespace Go.TM
open Go.Proofs
set_option linter.unusedVariables false
set_option linter.unusedSimpArgs false
set_option maxRecDepth 100000

/-! ### Sizes -/

def totP (p : Pg) : Nat := p.keys.length + p.kids.length + p.vals.length
def tot : List Pg → Nat
  | [] => 0
  | p :: ps => totP p + tot ps
theorem tot_app : ∀ a b : List Pg, tot (a ++ b) = tot a + tot b
  | [], b => by simp [tot]
  | p :: a, b => by simp only [List.cons_append, tot, tot_app a b]; omega
theorem tot_take_succ {ps : List Pg} {k : Nat} (h : k < ps.length) : tot (ps.take (k + 1)) = tot (ps.take k) + totP (ps.getD k default) := by
  rw [List.take_succ_eq_append_getElem h, tot_app]
  simp [tot, h]
theorem tot_split (ps : List Pg) (k : Nat) : tot (ps.take k) + tot (ps.drop k) = tot ps := by
  rw [← tot_app, List.take_append_drop]
theorem tot_get {ps : List Pg} {k : Nat} (h : k < ps.length) : tot (ps.take k) + totP (ps.getD k default) ≤ tot ps := by
  have h1 := tot_split ps (k + 1)
  rw [tot_take_succ h] at h1
  omega
theorem szPg_eq {p : Pg} {n : Int} (h : 0 ≤ n) : szPg p n = if n < (totP p : Int) then -1 else n - totP p := by
  unfold szPg totP
  split
  · rw [if_pos (by omega)]
  · split
    · rw [if_pos (by omega)]
    · split
      · rw [if_pos (by omega)]
      · rw [if_neg (by omega)]; omega

def bigP (p : Pg) : Bool := decide (p.keys.length ≤ 9223372036854775807) && (decide (p.kids.length ≤ 9223372036854775807) && decide (p.vals.length ≤ 9223372036854775807))
theorem bigP_get {ps : List Pg} (h : ps.all bigP = true) (k : Nat) : (ps.getD k default).keys.length ≤ 9223372036854775807 ∧ (ps.getD k default).kids.length ≤ 9223372036854775807 ∧ (ps.getD k default).vals.length ≤ 9223372036854775807 := by
  by_cases hk : k < ps.length
  · have := List.all_eq_true.1 h (ps.getD k default) (by simp [hk])
    simpa [bigP] using this
  · rw [List.getD_eq_getElem?_getD, List.getElem?_eq_none (by omega)]
    exact ⟨by decide, by decide, by decide⟩
def szPs (ps : List Pg) (n : Int) : Int := if n < ((ps.length + tot ps : Nat) : Int) then -1 else n - ((ps.length + tot ps : Nat) : Int)
def mSzPageS : Model := M2 .ro .ro true (cPgs false) cI fun ps n => gd (ps.length ≤ 9223372036854775807 ∧ ps.all bigP = true ∧ 0 ≤ n ∧ n ≤ 1048576) (eI (szPs ps n), [])

theorem does_szPageS {G : Nat → Option FM} (h_szPage : G 99 = some (.model mSzPage)) : Does T G (fun id => match id with  | _ => []) Try.f56 mSzPageS := by
  refine does2 (rs := [.tmp 4]) rfl rfl fun ps n0 ro h => ?_
  obtain ⟨⟨hs, hb, h0, h1⟩, rfl⟩ := gd_some h
  refine ⟨fun _ => ⟨rfl, rfl⟩, ?_⟩
  simp (config := {maxSteps := 1000000}) (disch := omega) only [go_sem, ↓reduceIte, Nat.reduceEqDiff, Nat.reduceAdd, Nat.reduceMul, Nat.reduceSub, Nat.reduceLeDiff, Nat.reduceLT, Int.reduceToNat, Int.reduceLE, Int.reduceLT, Int.reduceNeg, h_szPage, mSzPage, drP_n, drP_c, logAt_n, logAt_c, disP_n, disP_c, notIn_n, notIn_c]
  by_cases g0 : n0 - (ps.length : Int) < 0
  · have e0 : decide (n0 - (ps.length : Int) < 0) = true := decide_eq_true g0
    simp (config := {maxSteps := 1000000}) (disch := omega) only [go_sem, ↓reduceIte, Nat.reduceEqDiff, Nat.reduceAdd, Nat.reduceMul, Nat.reduceSub, Nat.reduceLeDiff, Nat.reduceLT, Int.reduceToNat, Int.reduceLE, Int.reduceLT, Int.reduceNeg, h_szPage, mSzPage, drP_n, drP_c, logAt_n, logAt_c, disP_n, disP_c, notIn_n, notIn_c, e0]
    rw [szPs, if_pos (by omega)]
  · have e0 : decide (n0 - (ps.length : Int) < 0) = false := decide_eq_false g0
    simp (config := {maxSteps := 1000000}) (disch := omega) only [go_sem, ↓reduceIte, Nat.reduceEqDiff, Nat.reduceAdd, Nat.reduceMul, Nat.reduceSub, Nat.reduceLeDiff, Nat.reduceLT, Int.reduceToNat, Int.reduceLE, Int.reduceLT, Int.reduceNeg, h_szPage, mSzPage, drP_n, drP_c, logAt_n, logAt_c, disP_n, disP_c, notIn_n, notIn_c, e0]
    refine W_loop_i (fun s => s.sl 0 = ePgs false ps ∧ ∃ k : Nat, k ≤ ps.length ∧ s.sl 5 = eI k ∧ s.sl 1 = eI (n0 - ps.length - tot (ps.take k)) ∧ 0 ≤ n0 - ps.length - (tot (ps.take k) : Int)) (fun s => ps.length - iN (s.sl 5)) ?_ ?_
    · refine ⟨rfl, 0, Nat.zero_le _, rfl, ?_, ?_⟩
      · show A.i .i64 _ = eI _
        rw [List.take_zero, tot]; simp
      · rw [List.take_zero, tot]; simp; omega
    · rintro sl hp m ⟨hl0, k, hk, h5, hl1, hn⟩
      dsimp only at hl0 h5 hl1
      simp (config := {maxSteps := 1000000}) (disch := omega) only [go_sem, ↓reduceIte, Nat.reduceEqDiff, Nat.reduceAdd, Nat.reduceMul, Nat.reduceSub, Nat.reduceLeDiff, Nat.reduceLT, Int.reduceToNat, Int.reduceLE, Int.reduceLT, Int.reduceNeg, h_szPage, mSzPage, drP_n, drP_c, logAt_n, logAt_c, disP_n, disP_c, notIn_n, notIn_c, hl0, h5, hl1]
      (first | refine runKS_split (fun g1 => ?_) (fun g1 => ?_) | refine cond_split (fun g1 => ?_) (fun g1 => ?_) | refine runK_split (fun g1 => ?_) (fun g1 => ?_))
      · have g1' := of_decide_eq_true g1
        have hbk := bigP_get hb k
        have ht := tot_get (ps := ps) (k := k) (by omega)
        have hsz := szPg_eq (p := ps.getD k default) hn
        simp (config := {maxSteps := 1000000}) (disch := omega) only [go_sem, ↓reduceIte, Nat.reduceEqDiff, Nat.reduceAdd, Nat.reduceMul, Nat.reduceSub, Nat.reduceLeDiff, Nat.reduceLT, Int.reduceToNat, Int.reduceLE, Int.reduceLT, Int.reduceNeg, h_szPage, mSzPage, drP_n, drP_c, logAt_n, logAt_c, disP_n, disP_c, notIn_n, notIn_c, hl0, h5, hl1, g1, ePg]
        by_cases g2 : n0 - ps.length - (tot (ps.take k) : Int) < (totP (ps.getD k default) : Int)
        · rw [if_pos g2] at hsz
          simp (config := {maxSteps := 1000000}) (disch := omega) only [go_sem, ↓reduceIte, Nat.reduceEqDiff, Nat.reduceAdd, Nat.reduceMul, Nat.reduceSub, Nat.reduceLeDiff, Nat.reduceLT, Int.reduceToNat, Int.reduceLE, Int.reduceLT, Int.reduceNeg, h_szPage, mSzPage, drP_n, drP_c, logAt_n, logAt_c, disP_n, disP_c, notIn_n, notIn_c, hsz]
          rw [szPs, if_pos (by omega)]
        · rw [if_neg g2] at hsz
          have e2 : decide (n0 - (ps.length : Int) - (tot (ps.take k) : Int) - (totP (ps.getD k default) : Int) < 0) = false := decide_eq_false (by omega)
          simp (config := {maxSteps := 1000000}) (disch := omega) only [go_sem, ↓reduceIte, Nat.reduceEqDiff, Nat.reduceAdd, Nat.reduceMul, Nat.reduceSub, Nat.reduceLeDiff, Nat.reduceLT, Int.reduceToNat, Int.reduceLE, Int.reduceLT, Int.reduceNeg, h_szPage, mSzPage, drP_n, drP_c, logAt_n, logAt_c, disP_n, disP_c, notIn_n, notIn_c, hsz, e2, hl0, h5]
          have ets := tot_take_succ (ps := ps) (k := k) (by omega)
          exact ⟨⟨k + 1, by omega, rfl, by rw [ets, Int.natCast_add, ← Int.sub_sub], by rw [ets]; omega⟩, by omega⟩
      · have g1' := of_decide_eq_false g1
        obtain rfl : k = ps.length := by omega
        rw [List.take_length] at hl1 hn
        simp (config := {maxSteps := 1000000}) (disch := omega) only [go_sem, ↓reduceIte, Nat.reduceEqDiff, Nat.reduceAdd, Nat.reduceMul, Nat.reduceSub, Nat.reduceLeDiff, Nat.reduceLT, Int.reduceToNat, Int.reduceLE, Int.reduceLT, Int.reduceNeg, h_szPage, mSzPage, drP_n, drP_c, logAt_n, logAt_c, disP_n, disP_c, notIn_n, notIn_c, hl0, h5, hl1, g1]
        rw [szPs, if_neg (by omega), Int.natCast_add, ← Int.sub_sub]
theorem fo_szPageS : FnOk Try.prog 56 := fnOk_of Try.func56 (by kernel_rfl)
theorem c_szPageS : Contract Try.prog 56 mSzPageS :=
  contract_of_does (DT := fun id => match id with  | _ => []) Try.checked.mixed tabOk (gok_model fo_szPage c_szPage gok_nil) Try.func56 rfl (by kernel_rfl) (does_szPageS rfl)


def mSzTree : Model := M2 .ro .ro true (cTr false) cI fun t n => gd (t.pages.length ≤ 9223372036854775807 ∧ t.pages.all bigP = true ∧ 0 ≤ n ∧ n ≤ 1048576) (eI (szPs t.pages n), [])
theorem does_szTree {G : Nat → Option FM} (h_szPageS : G 56 = some (.model mSzPageS)) : Does T G (fun id => match id with  | _ => []) Try.f15 mSzTree := by
  refine does2 (rs := [.tmp 4]) rfl rfl fun t n ro h => ?_
  obtain ⟨⟨hs, hb, h0, h1⟩, rfl⟩ := gd_some h
  refine ⟨fun _ => ⟨rfl, rfl⟩, ?_⟩
  by_cases g : n < ((t.pages.length + tot t.pages : Nat) : Int)
  · have e : szPs t.pages n = -1 := if_pos g
    simp (config := {maxSteps := 1000000}) (disch := omega) only [go_sem, ↓reduceIte, Nat.reduceEqDiff, Nat.reduceAdd, Nat.reduceMul, Nat.reduceSub, Nat.reduceLeDiff, Nat.reduceLT, Int.reduceToNat, Int.reduceLE, Int.reduceLT, Int.reduceNeg, h_szPageS, mSzPageS, drP_n, drP_c, logAt_n, logAt_c, disP_n, disP_c, notIn_n, notIn_c, hb, e]
  · have e : szPs t.pages n = n - ((t.pages.length + tot t.pages : Nat) : Int) := if_neg g
    have e0 : decide (n - ((t.pages.length + tot t.pages : Nat) : Int) < 0) = false := decide_eq_false (by omega)
    simp (config := {maxSteps := 1000000}) (disch := omega) only [go_sem, ↓reduceIte, Nat.reduceEqDiff, Nat.reduceAdd, Nat.reduceMul, Nat.reduceSub, Nat.reduceLeDiff, Nat.reduceLT, Int.reduceToNat, Int.reduceLE, Int.reduceLT, Int.reduceNeg, h_szPageS, mSzPageS, drP_n, drP_c, logAt_n, logAt_c, disP_n, disP_c, notIn_n, notIn_c, hb, e, e0]
theorem fo_szTree : FnOk Try.prog 15 := fnOk_of Try.func15 (by kernel_rfl)
theorem c_szTree : Contract Try.prog 15 mSzTree :=
  contract_of_does (DT := fun id => match id with  | _ => []) Try.checked.mixed tabOk (gok_model fo_szPageS c_szPageS gok_nil) Try.func15 rfl (by kernel_rfl) (does_szTree rfl)


/-! ### Copies -/

def smT (ps : List Pg) : Bool := decide (ps.length + tot ps ≤ 16777216)
theorem smT_iff {ps : List Pg} : smT ps = true ↔ ps.length + tot ps ≤ 16777216 := by simp [smT]
def mToPageS : Model := M1 .ro true (cPgs false) fun ps => gd (smT ps = true) (ePgs true ps, [])
def mToTree : Model := M1 .ro true (cTr false) fun t => gd (smT t.pages = true) (eTr true t, [])
theorem clean_pgs (ps : List Pg) : cleanL (ps.flatMap (ePg true)) = true := by
  induction ps with
  | nil => rfl
  | cons p ps ih =>
    rw [List.flatMap_cons]
    simp only [ePg, List.cons_append, List.nil_append, cleanL, cleanA, clean_ints, ih, Bool.and_self]
theorem rep_pgs (n : Nat) : (List.replicate n [A.s true 1 0 [], A.s true 1 0 [], A.s true 1 0 []]).flatten = (List.replicate n (⟨[], [], []⟩ : Pg)).flatMap (ePg true) := by
  induction n with
  | zero => rfl
  | succ n ih => rw [List.replicate_succ, List.replicate_succ, List.flatten_cons, List.flatMap_cons, ih]; rfl

theorem does_toPageS {G : Nat → Option FM} (h_toPage : G 111 = some (.model mToPage)) : Does T G (fun id => match id with  | _ => []) Try.f60 mToPageS := by
  refine does1 (rs := [.tmp 2]) rfl rfl fun ps ro h => ?_
  obtain ⟨hs, rfl⟩ := gd_some h
  have hs := smT_iff.1 hs
  refine ⟨fun _ => ⟨by simp only [cleanA]; exact clean_pgs _, rfl⟩, ?_⟩
  simp (config := {maxSteps := 1000000}) (disch := omega) only [go_sem, ↓reduceIte, Nat.reduceEqDiff, Nat.reduceAdd, Nat.reduceMul, Nat.reduceSub, Nat.reduceLeDiff, Nat.reduceLT, Int.reduceToNat, Int.reduceLE, Int.reduceLT, Int.reduceNeg, h_toPage, mToPage, drP_n, drP_c, logAt_n, logAt_c, disP_n, disP_c, notIn_n, notIn_c, rep_pgs]
  refine W_loop_i (fun s => s.sl 0 = ePgs false ps ∧ ∃ m, 2 < m ∧ m < s.n ∧ s.sl 3 = .ref (m, 0) [] 0 0 3 ps.length ∧ ∃ k : Nat, k ≤ ps.length ∧ s.sl 4 = eI k ∧ ∃ (ys : List Pg) (v : Nat → Nat), ys.length = ps.length ∧ (∀ i, i < k → ys.getD i default = ps.getD i default) ∧ s.hp (m, 0) = some ⟨3, ps.length, ys.flatMap (ePg true), v⟩) (fun s => ps.length - iN (s.sl 4)) ?_ ?_
  · refine ⟨rfl, 6, by omega, by dsimp only [St.n]; omega, rfl, 0, Nat.zero_le _, rfl, List.replicate ps.length ⟨[], [], []⟩, fun _ => 0, by simp, fun i hi => by omega, ?_⟩
    simp (config := {maxSteps := 1000000}) (disch := omega) only [go_sem, ↓reduceIte, Nat.reduceEqDiff, Nat.reduceAdd, Nat.reduceMul, Nat.reduceSub, Nat.reduceLeDiff, Nat.reduceLT, Int.reduceToNat, Int.reduceLE, Int.reduceLT, Int.reduceNeg, h_toPage, mToPage, drP_n, drP_c, logAt_n, logAt_c, disP_n, disP_c, notIn_n, notIn_c]
  · rintro sl hp n ⟨h0, m, hm2, hm, h3, k, hk, h4, ys, v, hy, hall, hh⟩
    dsimp only at h0 h3 h4 hh hm
    simp (config := {maxSteps := 1000000}) (disch := omega) only [go_sem, ↓reduceIte, Nat.reduceEqDiff, Nat.reduceAdd, Nat.reduceMul, Nat.reduceSub, Nat.reduceLeDiff, Nat.reduceLT, Int.reduceToNat, Int.reduceLE, Int.reduceLT, Int.reduceNeg, h_toPage, mToPage, drP_n, drP_c, logAt_n, logAt_c, disP_n, disP_c, notIn_n, notIn_c, h0, h3, h4]
    (first | refine runKS_split (fun g1 => ?_) (fun g1 => ?_) | refine cond_split (fun g1 => ?_) (fun g1 => ?_) | refine runK_split (fun g1 => ?_) (fun g1 => ?_))
    · have g1' := of_decide_eq_true g1
      have ht := tot_get (ps := ps) (k := k) (by omega)
      have htp : totP (ps.getD k default) = (ps.getD k default).keys.length + (ps.getD k default).kids.length + (ps.getD k default).vals.length := rfl
      simp (config := {maxSteps := 1000000}) (disch := omega) only [go_sem, ↓reduceIte, Nat.reduceEqDiff, Nat.reduceAdd, Nat.reduceMul, Nat.reduceSub, Nat.reduceLeDiff, Nat.reduceLT, Int.reduceToNat, Int.reduceLE, Int.reduceLT, Int.reduceNeg, h_toPage, mToPage, drP_n, drP_c, logAt_n, logAt_c, disP_n, disP_c, notIn_n, notIn_c, h0, h3, h4, g1, hh, ePg]
      exact ⟨⟨m, hm2, by omega, rfl, k + 1, by omega, rfl, ys.set k (ps.getD k default), _, by simp [hy], set_step (fun i => ps.getD i default) (by omega) hall, upd_same ..⟩, by omega⟩
    · have g1' := of_decide_eq_false g1
      obtain rfl : k = ps.length := by omega
      simp (config := {maxSteps := 1000000}) (disch := omega) only [go_sem, ↓reduceIte, Nat.reduceEqDiff, Nat.reduceAdd, Nat.reduceMul, Nat.reduceSub, Nat.reduceLeDiff, Nat.reduceLT, Int.reduceToNat, Int.reduceLE, Int.reduceLT, Int.reduceNeg, h_toPage, mToPage, drP_n, drP_c, logAt_n, logAt_c, disP_n, disP_c, notIn_n, notIn_c, h0, h3, h4, g1, hh]
      rw [show ys = ps from list_ext (d := default) hy fun i hi => hall i (by omega)]
theorem fo_toPageS : FnOk Try.prog 60 := fnOk_of Try.func60 (by kernel_rfl)
theorem c_toPageS : Contract Try.prog 60 mToPageS :=
  contract_of_does (DT := fun id => match id with  | _ => []) Try.checked.mixed tabOk (gok_model fo_toPage c_toPage gok_nil) Try.func60 rfl (by kernel_rfl) (does_toPageS rfl)


theorem does_toTree {G : Nat → Option FM} (h_toPageS : G 60 = some (.model mToPageS)) : Does T G (fun id => match id with  | _ => []) Try.f17 mToTree := by
  refine does1 (rs := [.cell 2 28]) rfl rfl fun t ro h => ?_
  obtain ⟨hs, rfl⟩ := gd_some h
  refine ⟨fun _ => ⟨by simp only [cleanA, cleanL, clean_pgs, Bool.and_self], rfl⟩, ?_⟩
  simp (config := {maxSteps := 1000000}) (disch := omega) only [go_sem, ↓reduceIte, Nat.reduceEqDiff, Nat.reduceAdd, Nat.reduceMul, Nat.reduceSub, Nat.reduceLeDiff, Nat.reduceLT, Int.reduceToNat, Int.reduceLE, Int.reduceLT, Int.reduceNeg, h_toPageS, mToPageS, drP_n, drP_c, logAt_n, logAt_c, disP_n, disP_c, notIn_n, notIn_c, hs]
theorem fo_toTree : FnOk Try.prog 17 := fnOk_of Try.func17 (by kernel_rfl)
theorem c_toTree : Contract Try.prog 17 mToTree :=
  contract_of_does (DT := fun id => match id with  | _ => []) Try.checked.mixed tabOk (gok_model fo_toPageS c_toPageS gok_nil) Try.func17 rfl (by kernel_rfl) (does_toTree rfl)


/-! ### Comparisons -/

def mEqPageS : Model := M2 .ro .ro true (cPgs false) (cPgs false) fun a b => gd (smT a = true ∧ smT b = true) (.b (decide (a = b)), [])
def mEqTree : Model := M2 .ro .ro true (cTr false) (cTr false) fun a b => gd (smT a.pages = true ∧ smT b.pages = true) (.b (decide (a = b)), [])

theorem does_eqPageS {G : Nat → Option FM} (h_eqPage : G 115 = some (.model mEqPage)) : Does T G (fun id => match id with  | _ => []) Try.f62 mEqPageS := by
  refine does2 (rs := [.tmp 4]) rfl rfl fun a b ro h => ?_
  obtain ⟨⟨ha, hb⟩, rfl⟩ := gd_some h
  have ha := smT_iff.1 ha
  have hb := smT_iff.1 hb
  refine ⟨fun _ => ⟨rfl, rfl⟩, ?_⟩
  by_cases hl : a.length = b.length
  · have e0 : decide ((a.length : Int) = (b.length : Int)) = true := decide_eq_true (by omega)
    simp (config := {maxSteps := 1000000}) (disch := omega) only [go_sem, ↓reduceIte, Nat.reduceEqDiff, Nat.reduceAdd, Nat.reduceMul, Nat.reduceSub, Nat.reduceLeDiff, Nat.reduceLT, Int.reduceToNat, Int.reduceLE, Int.reduceLT, Int.reduceNeg, h_eqPage, mEqPage, drP_n, drP_c, logAt_n, logAt_c, disP_n, disP_c, notIn_n, notIn_c, e0]
    refine W_loop_i (fun s => s.sl 0 = ePgs false a ∧ s.sl 1 = ePgs false b ∧ ∃ k : Nat, k ≤ a.length ∧ s.sl 5 = eI k ∧ ∀ i, i < k → a.getD i default = b.getD i default) (fun s => a.length - iN (s.sl 5)) ?_ ?_
    · exact ⟨rfl, rfl, 0, Nat.zero_le _, rfl, fun i hi => by omega⟩
    · rintro sl hp n ⟨h0, h1, k, hk, h5, hall⟩
      dsimp only at h0 h1 h5
      simp (config := {maxSteps := 1000000}) (disch := omega) only [go_sem, ↓reduceIte, Nat.reduceEqDiff, Nat.reduceAdd, Nat.reduceMul, Nat.reduceSub, Nat.reduceLeDiff, Nat.reduceLT, Int.reduceToNat, Int.reduceLE, Int.reduceLT, Int.reduceNeg, h_eqPage, mEqPage, drP_n, drP_c, logAt_n, logAt_c, disP_n, disP_c, notIn_n, notIn_c, h0, h1, h5]
      (first | refine runKS_split (fun g1 => ?_) (fun g1 => ?_) | refine cond_split (fun g1 => ?_) (fun g1 => ?_) | refine runK_split (fun g1 => ?_) (fun g1 => ?_))
      · have g1' := of_decide_eq_true g1
        have ta := tot_get (ps := a) (k := k) (by omega)
        have tb := tot_get (ps := b) (k := k) (by omega)
        have tpa : totP (a.getD k default) = (a.getD k default).keys.length + (a.getD k default).kids.length + (a.getD k default).vals.length := rfl
        have tpb : totP (b.getD k default) = (b.getD k default).keys.length + (b.getD k default).kids.length + (b.getD k default).vals.length := rfl
        by_cases he : a.getD k default = b.getD k default
        · have e1 : decide (a.getD k default = b.getD k default) = true := decide_eq_true he
          simp (config := {maxSteps := 1000000}) (disch := omega) only [go_sem, ↓reduceIte, Nat.reduceEqDiff, Nat.reduceAdd, Nat.reduceMul, Nat.reduceSub, Nat.reduceLeDiff, Nat.reduceLT, Int.reduceToNat, Int.reduceLE, Int.reduceLT, Int.reduceNeg, h_eqPage, mEqPage, drP_n, drP_c, logAt_n, logAt_c, disP_n, disP_c, notIn_n, notIn_c, h0, h1, h5, g1, ePg, e1]
          refine ⟨⟨k + 1, by omega, rfl, fun i hi => ?_⟩, by omega⟩
          by_cases hik : i = k
          · rw [hik]; exact he
          · exact hall i (by omega)
        · have e1 : decide (a.getD k default = b.getD k default) = false := decide_eq_false he
          simp (config := {maxSteps := 1000000}) (disch := omega) only [go_sem, ↓reduceIte, Nat.reduceEqDiff, Nat.reduceAdd, Nat.reduceMul, Nat.reduceSub, Nat.reduceLeDiff, Nat.reduceLT, Int.reduceToNat, Int.reduceLE, Int.reduceLT, Int.reduceNeg, h_eqPage, mEqPage, drP_n, drP_c, logAt_n, logAt_c, disP_n, disP_c, notIn_n, notIn_c, h0, h1, h5, g1, ePg, e1]
          rw [decide_eq_false]
          rintro rfl
          exact he rfl
      · have g1' := of_decide_eq_false g1
        obtain rfl : k = a.length := by omega
        simp (config := {maxSteps := 1000000}) (disch := omega) only [go_sem, ↓reduceIte, Nat.reduceEqDiff, Nat.reduceAdd, Nat.reduceMul, Nat.reduceSub, Nat.reduceLeDiff, Nat.reduceLT, Int.reduceToNat, Int.reduceLE, Int.reduceLT, Int.reduceNeg, h_eqPage, mEqPage, drP_n, drP_c, logAt_n, logAt_c, disP_n, disP_c, notIn_n, notIn_c, h0, h1, h5, g1]
        rw [decide_eq_true (list_ext (d := default) hl fun i hi => hall i (by omega))]
  · have e0 : decide ((a.length : Int) = (b.length : Int)) = false := decide_eq_false (by omega)
    simp (config := {maxSteps := 1000000}) (disch := omega) only [go_sem, ↓reduceIte, Nat.reduceEqDiff, Nat.reduceAdd, Nat.reduceMul, Nat.reduceSub, Nat.reduceLeDiff, Nat.reduceLT, Int.reduceToNat, Int.reduceLE, Int.reduceLT, Int.reduceNeg, h_eqPage, mEqPage, drP_n, drP_c, logAt_n, logAt_c, disP_n, disP_c, notIn_n, notIn_c, e0]
    rw [decide_eq_false]
    rintro rfl
    exact hl rfl
theorem fo_eqPageS : FnOk Try.prog 62 := fnOk_of Try.func62 (by kernel_rfl)
theorem c_eqPageS : Contract Try.prog 62 mEqPageS :=
  contract_of_does (DT := fun id => match id with  | _ => []) Try.checked.mixed tabOk (gok_model fo_eqPage c_eqPage gok_nil) Try.func62 rfl (by kernel_rfl) (does_eqPageS rfl)


theorem does_eqTree {G : Nat → Option FM} (h_eqPageS : G 62 = some (.model mEqPageS)) : Does T G (fun id => match id with  | _ => []) Try.f19 mEqTree := by
  refine does2 (rs := [.tmp 4]) rfl rfl fun x y ro h => ?_
  obtain ⟨⟨ha, hb⟩, rfl⟩ := gd_some h
  refine ⟨fun _ => ⟨rfl, rfl⟩, ?_⟩
  obtain ⟨r, a⟩ := x
  obtain ⟨q, b⟩ := y
  dsimp only at ha hb
  by_cases h1 : r = q
  · subst h1
    have e1 : decide (r = r) = true := decide_eq_true rfl
    by_cases h2 : a = b
    · have e2 : decide (a = b) = true := decide_eq_true h2
      simp (config := {maxSteps := 1000000}) (disch := omega) only [go_sem, ↓reduceIte, Nat.reduceEqDiff, Nat.reduceAdd, Nat.reduceMul, Nat.reduceSub, Nat.reduceLeDiff, Nat.reduceLT, Int.reduceToNat, Int.reduceLE, Int.reduceLT, Int.reduceNeg, h_eqPageS, mEqPageS, drP_n, drP_c, logAt_n, logAt_c, disP_n, disP_c, notIn_n, notIn_c, e1, ha, hb, e2]
      subst h2
      try simp
    · have e2 : decide (a = b) = false := decide_eq_false h2
      simp (config := {maxSteps := 1000000}) (disch := omega) only [go_sem, ↓reduceIte, Nat.reduceEqDiff, Nat.reduceAdd, Nat.reduceMul, Nat.reduceSub, Nat.reduceLeDiff, Nat.reduceLT, Int.reduceToNat, Int.reduceLE, Int.reduceLT, Int.reduceNeg, h_eqPageS, mEqPageS, drP_n, drP_c, logAt_n, logAt_c, disP_n, disP_c, notIn_n, notIn_c, e1, ha, hb, e2]
      try simp [h2]
  · have e1 : decide (r = q) = false := decide_eq_false h1
    simp (config := {maxSteps := 1000000}) (disch := omega) only [go_sem, ↓reduceIte, Nat.reduceEqDiff, Nat.reduceAdd, Nat.reduceMul, Nat.reduceSub, Nat.reduceLeDiff, Nat.reduceLT, Int.reduceToNat, Int.reduceLE, Int.reduceLT, Int.reduceNeg, h_eqPageS, mEqPageS, drP_n, drP_c, logAt_n, logAt_c, disP_n, disP_c, notIn_n, notIn_c, e1]
    try simp [h1]
theorem fo_eqTree : FnOk Try.prog 19 := fnOk_of Try.func19 (by kernel_rfl)
theorem c_eqTree : Contract Try.prog 19 mEqTree :=
  contract_of_does (DT := fun id => match id with  | _ => []) Try.checked.mixed tabOk (gok_model fo_eqPageS c_eqPageS gok_nil) Try.func19 rfl (by kernel_rfl) (does_eqTree rfl)


/-! ### Marks -/

def mkPs : List Pg → Int → List Pg
  | [], _ => []
  | p :: ps, k => mkPg p.keys.length p.kids.length p.vals.length k :: mkPs ps (k + totP p)
theorem mkPs_len : ∀ (ps : List Pg) (k : Int), (mkPs ps k).length = ps.length
  | [], _ => rfl
  | p :: ps, k => by simp [mkPs, mkPs_len ps]
theorem mkPg_tot (a b c : Nat) (k : Int) : totP (mkPg a b c k) = a + b + c := by simp [mkPg, totP, marks_len]
theorem mkPs_tot : ∀ (ps : List Pg) (k : Int), tot (mkPs ps k) = tot ps
  | [], _ => rfl
  | p :: ps, k => by simp only [mkPs, tot, mkPg_tot, mkPs_tot ps]; rfl
theorem mkPs_app : ∀ (a b : List Pg) (k : Int), mkPs (a ++ b) k = mkPs a k ++ mkPs b (k + tot a)
  | [], b, k => by simp [mkPs, tot]
  | p :: a, b, k => by simp only [List.cons_append, mkPs, mkPs_app a b, tot, Int.natCast_add, Int.add_assoc]
theorem mkPs_get {ps : List Pg} {k : Nat} (h : k < ps.length) (n : Int) : (mkPs ps n).getD k default = mkPg (ps.getD k default).keys.length (ps.getD k default).kids.length (ps.getD k default).vals.length (n + tot (ps.take k)) := by
  have e : ps = ps.take k ++ ps.getD k default :: ps.drop (k + 1) := by
    rw [show ps.getD k default = ps[k] from by simp [h], ← List.drop_eq_getElem_cons h, List.take_append_drop]
  conv => lhs; rw [e]
  rw [mkPs_app, mkPs, List.getD_eq_getElem?_getD, List.getElem?_append_right (by rw [mkPs_len, List.length_take]; omega), mkPs_len, List.length_take, Nat.min_eq_left (by omega), Nat.sub_self]
  rfl

def mHeldPageS : Model := M2 .ro .ro true (cPgs false) cI fun ps k => gd (smT ps = true ∧ 0 ≤ k ∧ k ≤ 1073741824) (eI (if ps = mkPs ps k then k + tot ps else -1), [])
theorem does_heldPageS {G : Nat → Option FM} (h_heldIntS : G 40 = some (.model mHeldIntS)) : Does T G (fun id => match id with  | _ => []) Try.f64 mHeldPageS := by
  refine does2 (rs := [.tmp 4]) rfl rfl fun ps k0 ro h => ?_
  obtain ⟨⟨hs, hk0, hk1⟩, rfl⟩ := gd_some h
  have hs := smT_iff.1 hs
  refine ⟨fun _ => ⟨rfl, rfl⟩, ?_⟩
  have no : ∀ k, k < ps.length → ps.getD k default ≠ mkPg (ps.getD k default).keys.length (ps.getD k default).kids.length (ps.getD k default).vals.length (k0 + tot (ps.take k)) → ps ≠ mkPs ps k0 := by
    intro k hk hne he
    apply hne
    have : ps.getD k default = (mkPs ps k0).getD k default := congrArg (fun l => l.getD k default) he
    rw [mkPs_get hk] at this
    exact this
  simp (config := {maxSteps := 1000000}) (disch := omega) only [go_sem, ↓reduceIte, Nat.reduceEqDiff, Nat.reduceAdd, Nat.reduceMul, Nat.reduceSub, Nat.reduceLeDiff, Nat.reduceLT, Int.reduceToNat, Int.reduceLE, Int.reduceLT, Int.reduceNeg, h_heldIntS, mHeldIntS, drP_n, drP_c, logAt_n, logAt_c, disP_n, disP_c, notIn_n, notIn_c]
  refine W_loop_i (fun s => s.sl 0 = ePgs false ps ∧ ∃ k : Nat, k ≤ ps.length ∧ s.sl 5 = eI k ∧ s.sl 1 = eI (k0 + tot (ps.take k)) ∧ ∀ i, i < k → ps.getD i default = (mkPs ps k0).getD i default) (fun s => ps.length - iN (s.sl 5)) ?_ ?_
  · refine ⟨rfl, 0, Nat.zero_le _, rfl, ?_, fun i hi => by omega⟩
    show A.i .i64 k0 = eI _
    rw [List.take_zero, tot]; simp
  · rintro sl hp n ⟨h0, k, hk, h5, h1, hall⟩
    dsimp only at h0 h5 h1
    simp (config := {maxSteps := 1000000}) (disch := omega) only [go_sem, ↓reduceIte, Nat.reduceEqDiff, Nat.reduceAdd, Nat.reduceMul, Nat.reduceSub, Nat.reduceLeDiff, Nat.reduceLT, Int.reduceToNat, Int.reduceLE, Int.reduceLT, Int.reduceNeg, h_heldIntS, mHeldIntS, drP_n, drP_c, logAt_n, logAt_c, disP_n, disP_c, notIn_n, notIn_c, h0, h1, h5]
    (first | refine runKS_split (fun g1 => ?_) (fun g1 => ?_) | refine cond_split (fun g1 => ?_) (fun g1 => ?_) | refine runK_split (fun g1 => ?_) (fun g1 => ?_))
    · have g1' := of_decide_eq_true g1
      have ta := tot_get (ps := ps) (k := k) (by omega)
      have ets := tot_take_succ (ps := ps) (k := k) (by omega)
      have no := no k (by omega)
      have mg := mkPs_get (ps := ps) (k := k) (by omega) k0
      generalize hx : ps.getD k default = x at *
      generalize hn : k0 + (tot (ps.take k) : Int) = q at *
      obtain ⟨a, b, c⟩ := x
      have tpa : totP ⟨a, b, c⟩ = a.length + b.length + c.length := rfl
      by_cases c1 : a = marks a.length q
      · have e1 : decide (q + (a.length : Int) < 0) = false := decide_eq_false (by omega)
        by_cases c2 : b = marks b.length (q + a.length)
        · have e2 : decide (q + (a.length : Int) + (b.length : Int) < 0) = false := decide_eq_false (by omega)
          by_cases c3 : c = marks c.length (q + a.length + b.length)
          · have e3 : decide (q + (a.length : Int) + (b.length : Int) + (c.length : Int) < 0) = false := decide_eq_false (by omega)
            simp (config := {maxSteps := 1000000}) (disch := omega) only [go_sem, ↓reduceIte, Nat.reduceEqDiff, Nat.reduceAdd, Nat.reduceMul, Nat.reduceSub, Nat.reduceLeDiff, Nat.reduceLT, Int.reduceToNat, Int.reduceLE, Int.reduceLT, Int.reduceNeg, h_heldIntS, mHeldIntS, drP_n, drP_c, logAt_n, logAt_c, disP_n, disP_c, notIn_n, notIn_c, h0, h1, h5, g1, hx, if_pos c1, if_pos c2, if_pos c3, e1, e2, e3]
            refine ⟨⟨k + 1, by omega, rfl, ?_, fun i hi => ?_⟩, by omega⟩
            · rw [ets, tpa]
              show A.i .i64 _ = A.i .i64 _
              congr 1
              omega
            · by_cases hik : i = k
              · rw [hik, hx, mg]
                simp only [mkPg, ← c1, ← c2, ← c3]
              · exact hall i (by omega)
          · simp (config := {maxSteps := 1000000}) (disch := omega) only [go_sem, ↓reduceIte, Nat.reduceEqDiff, Nat.reduceAdd, Nat.reduceMul, Nat.reduceSub, Nat.reduceLeDiff, Nat.reduceLT, Int.reduceToNat, Int.reduceLE, Int.reduceLT, Int.reduceNeg, h_heldIntS, mHeldIntS, drP_n, drP_c, logAt_n, logAt_c, disP_n, disP_c, notIn_n, notIn_c, h0, h1, h5, g1, hx, if_pos c1, if_pos c2, if_neg c3, e1, e2]
            rw [if_neg (no fun he => c3 (congrArg Pg.vals he))]
        · simp (config := {maxSteps := 1000000}) (disch := omega) only [go_sem, ↓reduceIte, Nat.reduceEqDiff, Nat.reduceAdd, Nat.reduceMul, Nat.reduceSub, Nat.reduceLeDiff, Nat.reduceLT, Int.reduceToNat, Int.reduceLE, Int.reduceLT, Int.reduceNeg, h_heldIntS, mHeldIntS, drP_n, drP_c, logAt_n, logAt_c, disP_n, disP_c, notIn_n, notIn_c, h0, h1, h5, g1, hx, if_pos c1, if_neg c2, e1]
          rw [if_neg (no fun he => c2 (congrArg Pg.kids he))]
      · simp (config := {maxSteps := 1000000}) (disch := omega) only [go_sem, ↓reduceIte, Nat.reduceEqDiff, Nat.reduceAdd, Nat.reduceMul, Nat.reduceSub, Nat.reduceLeDiff, Nat.reduceLT, Int.reduceToNat, Int.reduceLE, Int.reduceLT, Int.reduceNeg, h_heldIntS, mHeldIntS, drP_n, drP_c, logAt_n, logAt_c, disP_n, disP_c, notIn_n, notIn_c, h0, h1, h5, g1, hx, if_neg c1]
        rw [if_neg (no fun he => c1 (congrArg Pg.keys he))]
    · have g1' := of_decide_eq_false g1
      obtain rfl : k = ps.length := by omega
      rw [List.take_length] at h1
      simp (config := {maxSteps := 1000000}) (disch := omega) only [go_sem, ↓reduceIte, Nat.reduceEqDiff, Nat.reduceAdd, Nat.reduceMul, Nat.reduceSub, Nat.reduceLeDiff, Nat.reduceLT, Int.reduceToNat, Int.reduceLE, Int.reduceLT, Int.reduceNeg, h_heldIntS, mHeldIntS, drP_n, drP_c, logAt_n, logAt_c, disP_n, disP_c, notIn_n, notIn_c, h0, h1, h5, g1]
      rw [if_pos (list_ext (d := default) (mkPs_len _ _).symm fun i hi => hall i (by rw [mkPs_len] at hi; omega))]
theorem fo_heldPageS : FnOk Try.prog 64 := fnOk_of Try.func64 (by kernel_rfl)
theorem c_heldPageS : Contract Try.prog 64 mHeldPageS :=
  contract_of_does (DT := fun id => match id with  | _ => []) Try.checked.mixed tabOk (gok_model fo_heldIntS c_heldIntS gok_nil) Try.func64 rfl (by kernel_rfl) (does_heldPageS rfl)


def mHeldTree : Model := M2 .ro .ro true (cTr false) cI fun t k => gd (smT t.pages = true ∧ 0 ≤ k ∧ k ≤ 1073741824) (eI (if t.pages = mkPs t.pages k then k + tot t.pages else -1), [])
theorem does_heldTree {G : Nat → Option FM} (h_heldPageS : G 64 = some (.model mHeldPageS)) : Does T G (fun id => match id with  | _ => []) Try.f21 mHeldTree := by
  refine does2 (rs := [.tmp 4]) rfl rfl fun t k ro h => ?_
  obtain ⟨⟨hs, hk0, hk1⟩, rfl⟩ := gd_some h
  have hs' := smT_iff.1 hs
  refine ⟨fun _ => ⟨rfl, rfl⟩, ?_⟩
  by_cases c1 : t.pages = mkPs t.pages k
  · have e1 : decide (k + (tot t.pages : Int) < 0) = false := decide_eq_false (by omega)
    simp (config := {maxSteps := 1000000}) (disch := omega) only [go_sem, ↓reduceIte, Nat.reduceEqDiff, Nat.reduceAdd, Nat.reduceMul, Nat.reduceSub, Nat.reduceLeDiff, Nat.reduceLT, Int.reduceToNat, Int.reduceLE, Int.reduceLT, Int.reduceNeg, h_heldPageS, mHeldPageS, drP_n, drP_c, logAt_n, logAt_c, disP_n, disP_c, notIn_n, notIn_c, hs, if_pos c1, e1]
  · simp (config := {maxSteps := 1000000}) (disch := omega) only [go_sem, ↓reduceIte, Nat.reduceEqDiff, Nat.reduceAdd, Nat.reduceMul, Nat.reduceSub, Nat.reduceLeDiff, Nat.reduceLT, Int.reduceToNat, Int.reduceLE, Int.reduceLT, Int.reduceNeg, h_heldPageS, mHeldPageS, drP_n, drP_c, logAt_n, logAt_c, disP_n, disP_c, notIn_n, notIn_c, hs, if_neg c1]
theorem fo_heldTree : FnOk Try.prog 21 := fnOk_of Try.func21 (by kernel_rfl)
theorem c_heldTree : Contract Try.prog 21 mHeldTree :=
  contract_of_does (DT := fun id => match id with  | _ => []) Try.checked.mixed tabOk (gok_model fo_heldPageS c_heldPageS gok_nil) Try.func21 rfl (by kernel_rfl) (does_heldTree rfl)


theorem set_pg0 {xs : List Int} {n : Nat} (hn : n = xs.length) : ∀ {ps : List Pg} {k : Nat}, k < ps.length → (ps.flatMap (ePg true)).set (k * 3) (.s true 1 n (xs.map eI)) = (ps.set k ⟨xs, (ps.getD k default).kids, (ps.getD k default).vals⟩).flatMap (ePg true)
  | [], _, h => by simp at h
  | x :: ps, 0, _ => by subst hn; simp [ePg]
  | x :: ps, k + 1, h => by
    have ih := set_pg0 hn (ps := ps) (k := k) (by simpa using h)
    rw [show (k + 1) * 3 = k * 3 + 1 + 1 + 1 from by omega, List.flatMap_cons]
    simp only [ePg, List.cons_append, List.nil_append, List.set_cons_succ, List.flatMap_cons, List.getD_cons_succ]
    rw [ih]
theorem set_pg1 {xs : List Int} {n : Nat} (hn : n = xs.length) : ∀ {ps : List Pg} {k : Nat}, k < ps.length → (ps.flatMap (ePg true)).set (k * 3 + 1) (.s true 1 n (xs.map eI)) = (ps.set k ⟨(ps.getD k default).keys, xs, (ps.getD k default).vals⟩).flatMap (ePg true)
  | [], _, h => by simp at h
  | x :: ps, 0, _ => by subst hn; simp [ePg]
  | x :: ps, k + 1, h => by
    have ih := set_pg1 hn (ps := ps) (k := k) (by simpa using h)
    rw [show (k + 1) * 3 + 1 = k * 3 + 1 + 1 + 1 + 1 from by omega, List.flatMap_cons]
    simp only [ePg, List.cons_append, List.nil_append, List.set_cons_succ, List.flatMap_cons, List.getD_cons_succ]
    rw [ih]
theorem set_pg2 {xs : List Int} {n : Nat} (hn : n = xs.length) : ∀ {ps : List Pg} {k : Nat}, k < ps.length → (ps.flatMap (ePg true)).set (k * 3 + 2) (.s true 1 n (xs.map eI)) = (ps.set k ⟨(ps.getD k default).keys, (ps.getD k default).kids, xs⟩).flatMap (ePg true)
  | [], _, h => by simp at h
  | x :: ps, 0, _ => by subst hn; simp [ePg]
  | x :: ps, k + 1, h => by
    have ih := set_pg2 hn (ps := ps) (k := k) (by simpa using h)
    rw [show (k + 1) * 3 + 2 = k * 3 + 2 + 1 + 1 + 1 from by omega, List.flatMap_cons]
    simp only [ePg, List.cons_append, List.nil_append, List.set_cons_succ, List.flatMap_cons, List.getD_cons_succ]
    rw [ih]

theorem get_set (ps : List Pg) {k : Nat} (h : k < ps.length) (p : Pg) : (ps.set k p).getD k default = p := by simp [h]
theorem gps0 {o : Bool} {ps : List Pg} {k : Nat} {p : Pg} (h : k < ps.length) : ((ps.set k p).flatMap (ePg o))[k * 3]? = some (eIs o p.keys) := by
  rw [get_pg0 (by rw [List.length_set]; exact h), get_set ps h]
theorem gps1 {o : Bool} {ps : List Pg} {k : Nat} {p : Pg} (h : k < ps.length) : ((ps.set k p).flatMap (ePg o))[k * 3 + 1]? = some (eIs o p.kids) := by
  rw [get_pg1 (by rw [List.length_set]; exact h), get_set ps h]
theorem gps2 {o : Bool} {ps : List Pg} {k : Nat} {p : Pg} (h : k < ps.length) : ((ps.set k p).flatMap (ePg o))[k * 3 + 2]? = some (eIs o p.vals) := by
  rw [get_pg2 (by rw [List.length_set]; exact h), get_set ps h]
theorem sps1 {xs : List Int} {n : Nat} {ps : List Pg} {k : Nat} {p : Pg} (h : n = xs.length ∧ k < ps.length) : ((ps.set k p).flatMap (ePg true)).set (k * 3 + 1) (.s true 1 n (xs.map eI)) = (ps.set k ⟨p.keys, xs, p.vals⟩).flatMap (ePg true) := by
  rw [set_pg1 h.1 (by rw [List.length_set]; exact h.2), get_set ps h.2, List.set_set]
theorem sps2 {xs : List Int} {n : Nat} {ps : List Pg} {k : Nat} {p : Pg} (h : n = xs.length ∧ k < ps.length) : ((ps.set k p).flatMap (ePg true)).set (k * 3 + 2) (.s true 1 n (xs.map eI)) = (ps.set k ⟨p.keys, p.kids, xs⟩).flatMap (ePg true) := by
  rw [set_pg2 h.1 (by rw [List.length_set]; exact h.2), get_set ps h.2, List.set_set]
def mMarkPageS : Model := M2 (.ln 1) .ro true (cPgs true) cI fun ps k => gd (smT ps = true ∧ 0 ≤ k ∧ k ≤ 1073741824) (eI (k + tot ps), [(mkPs ps k).flatMap (ePg true)])
theorem mkPs_step {ps : List Pg} {k : Nat} (h : k < ps.length) (n : Int) (f : Pg → Pg) (hf : f (ps.getD k default) = mkPg (ps.getD k default).keys.length (ps.getD k default).kids.length (ps.getD k default).vals.length (n + tot (ps.take k))) :
    (mkPs (ps.take k) n ++ ps.drop k).set k (f (ps.getD k default)) = mkPs (ps.take (k + 1)) n ++ ps.drop (k + 1) := by
  have hl : (mkPs (ps.take k) n).length = k := by rw [mkPs_len, List.length_take]; omega
  have hd : ps.drop k = ps.getD k default :: ps.drop (k + 1) := by
    rw [List.drop_eq_getElem_cons h]; simp [h]
  have ht : ps.take (k + 1) = ps.take k ++ [ps.getD k default] := by rw [List.take_succ_eq_append_getElem h]; simp [h]
  rw [ht, mkPs_app, hd, hf]
  simp only [mkPs]
  rw [List.set_append_right _ _ (by omega), hl, Nat.sub_self]
  simp

theorem does_markPageS {G : Nat → Option FM} (h_markIntS : G 26 = some (.model mMarkIntS)) : Does T G (fun id => match id with  | _ => []) Try.f63 mMarkPageS := by
  refine does2 (rs := [.tmp 4]) rfl rfl fun ps k0 ro h => ?_
  obtain ⟨⟨hs, hk0, hk1⟩, rfl⟩ := gd_some h
  have hs := smT_iff.1 hs
  refine ⟨fun _ => ⟨rfl, by simp [clean_pgs]⟩, ?_⟩
  simp (config := {maxSteps := 1000000}) (disch := omega) only [go_sem, ↓reduceIte, Nat.reduceEqDiff, Nat.reduceAdd, Nat.reduceMul, Nat.reduceSub, Nat.reduceLeDiff, Nat.reduceLT, Int.reduceToNat, Int.reduceLE, Int.reduceLT, Int.reduceNeg, h_markIntS, mMarkIntS, drP_n, drP_c, logAt_n, logAt_c, disP_n, disP_c, notIn_n, notIn_c]
  refine W_loop_i (fun s => s.sl 0 = .ref (2, 0) [] 0 0 3 ps.length ∧ ∃ k : Nat, k ≤ ps.length ∧ s.sl 5 = eI k ∧ s.sl 1 = eI (k0 + tot (ps.take k)) ∧ ∃ v, s.hp (2, 0) = some ⟨3, ps.length, (mkPs (ps.take k) k0 ++ ps.drop k).flatMap (ePg true), v⟩) (fun s => ps.length - iN (s.sl 5)) ?_ ?_
  · refine ⟨rfl, 0, Nat.zero_le _, rfl, ?_, fun _ => 0, ?_⟩
    · show A.i .i64 k0 = eI _
      rw [List.take_zero, tot]; simp
    · simp (config := {maxSteps := 1000000}) (disch := omega) only [go_sem, ↓reduceIte, Nat.reduceEqDiff, Nat.reduceAdd, Nat.reduceMul, Nat.reduceSub, Nat.reduceLeDiff, Nat.reduceLT, Int.reduceToNat, Int.reduceLE, Int.reduceLT, Int.reduceNeg, h_markIntS, mMarkIntS, drP_n, drP_c, logAt_n, logAt_c, disP_n, disP_c, notIn_n, notIn_c]
      rfl
  · rintro sl hp n ⟨h0, k, hk, h5, h1, v, hh⟩
    dsimp only at h0 h5 h1 hh
    have hcl : (mkPs (ps.take k) k0 ++ ps.drop k).length = ps.length := by rw [List.length_append, mkPs_len, List.length_take, List.length_drop]; omega
    simp (config := {maxSteps := 1000000}) (disch := omega) only [go_sem, ↓reduceIte, Nat.reduceEqDiff, Nat.reduceAdd, Nat.reduceMul, Nat.reduceSub, Nat.reduceLeDiff, Nat.reduceLT, Int.reduceToNat, Int.reduceLE, Int.reduceLT, Int.reduceNeg, h_markIntS, mMarkIntS, drP_n, drP_c, logAt_n, logAt_c, disP_n, disP_c, notIn_n, notIn_c, h0, h1, h5]
    (first | refine runKS_split (fun g1 => ?_) (fun g1 => ?_) | refine cond_split (fun g1 => ?_) (fun g1 => ?_) | refine runK_split (fun g1 => ?_) (fun g1 => ?_))
    · have g1' := of_decide_eq_true g1
      have ta := tot_get (ps := ps) (k := k) (by omega)
      have ets := tot_take_succ (ps := ps) (k := k) (by omega)
      have tpa : totP (ps.getD k default) = (ps.getD k default).keys.length + (ps.getD k default).kids.length + (ps.getD k default).vals.length := rfl
      have hgk : (mkPs (ps.take k) k0 ++ ps.drop k).getD k default = ps.getD k default := by
        rw [List.getD_eq_getElem?_getD, List.getElem?_append_right (by rw [mkPs_len, List.length_take]; omega), mkPs_len, List.length_take, Nat.min_eq_left (by omega), Nat.sub_self, List.getElem?_drop]
        simp
      have stp := mkPs_step (ps := ps) (k := k) (by omega) k0
      generalize hcur : mkPs (ps.take k) k0 ++ ps.drop k = cur at *
      have hgs : ∀ p : Pg, (cur.set k p).getD k default = p := fun p => by simp [show k < cur.length by omega]
      have hst : cur.set k (mkPg (ps.getD k default).keys.length (ps.getD k default).kids.length (ps.getD k default).vals.length (k0 + tot (ps.take k))) = mkPs (ps.take (k + 1)) k0 ++ ps.drop (k + 1) := stp (fun _ => mkPg (ps.getD k default).keys.length (ps.getD k default).kids.length (ps.getD k default).vals.length (k0 + tot (ps.take k))) rfl
      generalize ps.getD k default = x at *
      generalize hq : k0 + (tot (ps.take k) : Int) = q at *
      have m0 := marks_len x.keys.length q
      have m1 := marks_len x.kids.length (q + x.keys.length)
      have m2 := marks_len x.vals.length (q + x.keys.length + x.kids.length)
      simp (config := {maxSteps := 1000000}) (disch := omega) only [go_sem, ↓reduceIte, Nat.reduceEqDiff, Nat.reduceAdd, Nat.reduceMul, Nat.reduceSub, Nat.reduceLeDiff, Nat.reduceLT, Int.reduceToNat, Int.reduceLE, Int.reduceLT, Int.reduceNeg, h_markIntS, mMarkIntS, drP_n, drP_c, logAt_n, logAt_c, disP_n, disP_c, notIn_n, notIn_c, h0, h1, h5, g1, hh, hgk, marks_len, List.length_map, set_pg0, gps0, gps1, gps2, sps1, sps2, hgs, List.set_set, List.length_set]
      refine ⟨⟨k + 1, by omega, rfl, ?_, ?_⟩, by omega⟩
      · rw [ets, tpa]
        show A.i .i64 _ = A.i .i64 _
        congr 1
        omega
      · rw [← hst]
        exact ⟨_, rfl⟩
    · have g1' := of_decide_eq_false g1
      obtain rfl : k = ps.length := by omega
      rw [List.take_length, List.drop_length, List.append_nil] at hh
      rw [List.take_length] at h1
      simp (config := {maxSteps := 1000000}) (disch := omega) only [go_sem, ↓reduceIte, Nat.reduceEqDiff, Nat.reduceAdd, Nat.reduceMul, Nat.reduceSub, Nat.reduceLeDiff, Nat.reduceLT, Int.reduceToNat, Int.reduceLE, Int.reduceLT, Int.reduceNeg, h_markIntS, mMarkIntS, drP_n, drP_c, logAt_n, logAt_c, disP_n, disP_c, notIn_n, notIn_c, h0, h1, h5, g1, hh]
theorem fo_markPageS : FnOk Try.prog 63 := fnOk_of Try.func63 (by kernel_rfl)
theorem c_markPageS : Contract Try.prog 63 mMarkPageS :=
  contract_of_does (DT := fun id => match id with  | _ => []) Try.checked.mixed tabOk (gok_model fo_markIntS c_markIntS gok_nil) Try.func63 rfl (by kernel_rfl) (does_markPageS rfl)


set_option maxHeartbeats 2000000 in
theorem c_markTree : EachOk Try.prog 20 2 [1] mMarkPageS := by
  intro B w0 L0 U hp w L vs us m e hh hr hm he
  letI := B
  obtain ⟨xs, k, rfl, hx, he⟩ := eachC_args he
  obtain ⟨ua, rfl, hxu, hkw⟩ := each_vals hr
  obtain ⟨r1, v1, id1, rt1, e1, hr1, hl1, he1, rfl⟩ := eachA_inv he
  clear he
  cases he1
  obtain ⟨u0, u1, rfl⟩ : ∃ u0 u1, ua = #[u0, u1] := by
    have hl := repL_len hxu
    obtain ⟨l, rfl⟩ : ∃ l : List Value, ua = l.toArray := ⟨ua.toList, by simp⟩
    have hl' : l.length = 2 := by simpa [hx] using hl.symm
    match l, hl' with
    | [u, v1], _ => exact ⟨u, v1, rfl⟩
  obtain ⟨q, f1, q1⟩ := repL_at hxu hr1
  cases f1
  obtain ⟨W0, hW0⟩ : ∃ W0, W0 = w.alloc (.cells #[u0, u1] 28) := ⟨_, rfl⟩
  have k0 : Kept w W0 := by rw [hW0]; exact Kept.alloc _ _ _
  have hsz0 : W0.heap.size = w.heap.size + 1 := by rw [hW0, World.size_alloc]
  obtain ⟨h1, h2⟩ := HRel.keptProt hh k0 (b := w.heap.size) (Nat.le_refl _) (by omega)
  have ca0 : W0.cell? ⟨w.heap.size, 0, none⟩ = some u0 := by rw [hW0]; exact cell_box _ _ _ _ _ rfl
  have ca1 : W0.cell? ⟨w.heap.size, 1, none⟩ = some u1 := by rw [hW0]; exact cell_box _ _ _ _ _ rfl
  have c1 : Calls Try.prog 63 #[u1, .int .i64 k] W0 fun e w' => e = .returned (.int .i64 v1) ∧ (Lit.int .i64 v1).wf = true ∧ ∃ L', HRel w0 L0 U (upd hp id1 (some rt1)) w' L' ∧ Keeps U w L hp U w' L' (upd hp id1 (some rt1)) := by
    refine (lend_step fo_markPageS c_markPageS h1 hm (Rep.mono h2 _ _ q1) hkw hl1).mono fun e w' hp' => ?_
    obtain ⟨rfl, gw2, L3, f1, f2⟩ := hp'
    exact ⟨rfl, gw2, L3, f1, h2.trans f2⟩
  unfold CallOk
  clear hr hxu hr1 hl1 q1
  go_enter Try.func20, Try.ntmps20
  go_wp2_with (go_at_call 63; rw [← hW0]; refine c1.mono ?_; rintro e w2 ⟨rfl, gw, L2, g1, g2⟩)
  go_ret
  exact each_end g1 g2 gw rfl
theorem fo_markTree : FnOk Try.prog 20 := fnOk_of Try.func20 (by kernel_rfl)


/-! ### The law of a tree that is looked at -/

theorem lawT_small {t : Tr} {n : Int} (h : szPs t.pages 1048576 = n) (hn : ¬ n < 0) : t.pages.length + tot t.pages ≤ 1048576 ∧ smT t.pages = true := by
  unfold szPs at h
  split at h
  · omega
  · refine ⟨by omega, smT_iff.2 (by omega)⟩
theorem bigP_of {t : Tr} (h : TrW t) : t.pages.length ≤ 9223372036854775807 ∧ t.pages.all bigP = true := by
  refine ⟨h.2.2, List.all_eq_true.2 fun p hp => ?_⟩
  have := h.2.1 p hp
  simp only [bigP, Bool.and_eq_true, decide_eq_true_eq]
  exact ⟨this.1.2, this.2.1.2, this.2.2.2⟩
end Go.TM
