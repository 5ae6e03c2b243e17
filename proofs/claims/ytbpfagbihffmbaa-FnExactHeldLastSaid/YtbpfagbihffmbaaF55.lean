/- Contracts, 55: the page at the beginning of numbers. -/
import Derived.Test.YtbpfagbihffmbaaF59
namespace Go.TM
open Go.Proofs
set_option linter.unusedVariables false
set_option linter.unusedSimpArgs false
set_option maxRecDepth 100000
set_option maxHeartbeats 4000000

def mEqualI : Model := M2 .ro .ro true (cIs false) (cIs false) fun a b => gd (a.length ≤ 1099511627776 ∧ b.length ≤ 1099511627776) (.b (decide (a = b)), [])

theorem does_equalI {G : Nat → Option FM}  : Does T G (fun id => match id with  | _ => []) Try.f137 mEqualI := by
  refine does2 (rs := [.tmp 4]) rfl rfl fun xs ys ro h => ?_
  obtain ⟨⟨hs, hs2⟩, rfl⟩ := gd_some h
  refine ⟨fun _ => ⟨rfl, rfl⟩, ?_⟩
  clear h
  by_cases hl : xs.length = ys.length
  · have e0 : decide ((xs.length : Int) = (ys.length : Int)) = true := decide_eq_true (by omega)
    simp (config := {maxSteps := 1000000}) (disch := omega) only [go_sem, ↓reduceIte, Nat.reduceEqDiff, Nat.reduceAdd, Nat.reduceMul, Nat.reduceSub, Nat.reduceLeDiff, Nat.reduceLT, Int.reduceToNat, Int.reduceLE, Int.reduceLT, Int.reduceNeg, drP_n, drP_c, logAt_n, logAt_c, disP_n, disP_c, notIn_n, notIn_c, e0]
    refine W_loop_i (fun s => s.sl 0 = eIs false xs ∧ s.sl 1 = eIs false ys ∧ s.sl 12 = eI xs.length ∧ ∃ k : Nat, k ≤ xs.length ∧ s.sl 13 = eI k ∧ ∀ i, i < k → xs.getD i 0 = ys.getD i 0) (fun s => xs.length - iN (s.sl 13)) ?_ ?_
    · exact ⟨rfl, rfl, rfl, 0, Nat.zero_le _, rfl, fun i hi => by omega⟩
    · rintro sl hp q ⟨h0, h1, h12, k, hk, h13, hall⟩
      dsimp only at h0 h1 h12 h13
      simp (config := {maxSteps := 1000000}) (disch := omega) only [go_sem, ↓reduceIte, Nat.reduceEqDiff, Nat.reduceAdd, Nat.reduceMul, Nat.reduceSub, Nat.reduceLeDiff, Nat.reduceLT, Int.reduceToNat, Int.reduceLE, Int.reduceLT, Int.reduceNeg, drP_n, drP_c, logAt_n, logAt_c, disP_n, disP_c, notIn_n, notIn_c, h0, h1, h12, h13]
      (first | refine runKS_split (fun g1 => ?_) (fun g1 => ?_) | refine cond_split (fun g1 => ?_) (fun g1 => ?_) | refine runK_split (fun g1 => ?_) (fun g1 => ?_))
      · have g1' := of_decide_eq_true g1
        by_cases hc : xs.getD k 0 = ys.getD k 0
        · have e1 : decide (xs.getD k 0 = ys.getD k 0) = true := decide_eq_true hc
          simp (config := {maxSteps := 1000000}) (disch := omega) only [go_sem, ↓reduceIte, Nat.reduceEqDiff, Nat.reduceAdd, Nat.reduceMul, Nat.reduceSub, Nat.reduceLeDiff, Nat.reduceLT, Int.reduceToNat, Int.reduceLE, Int.reduceLT, Int.reduceNeg, drP_n, drP_c, logAt_n, logAt_c, disP_n, disP_c, notIn_n, notIn_c, h0, h1, h12, h13, g1, e1]
          refine ⟨⟨k + 1, by omega, rfl, fun i hi => ?_⟩, by omega⟩
          by_cases hik : i = k
          · rw [hik]; exact hc
          · exact hall i (by omega)
        · have e1 : decide (xs.getD k 0 = ys.getD k 0) = false := decide_eq_false hc
          simp (config := {maxSteps := 1000000}) (disch := omega) only [go_sem, ↓reduceIte, Nat.reduceEqDiff, Nat.reduceAdd, Nat.reduceMul, Nat.reduceSub, Nat.reduceLeDiff, Nat.reduceLT, Int.reduceToNat, Int.reduceLE, Int.reduceLT, Int.reduceNeg, drP_n, drP_c, logAt_n, logAt_c, disP_n, disP_c, notIn_n, notIn_c, h0, h1, h12, h13, g1, e1]
          rw [decide_eq_false]
          rintro rfl
          exact hc rfl
      · have g1' := of_decide_eq_false g1
        obtain rfl : k = xs.length := by omega
        simp (config := {maxSteps := 1000000}) (disch := omega) only [go_sem, ↓reduceIte, Nat.reduceEqDiff, Nat.reduceAdd, Nat.reduceMul, Nat.reduceSub, Nat.reduceLeDiff, Nat.reduceLT, Int.reduceToNat, Int.reduceLE, Int.reduceLT, Int.reduceNeg, drP_n, drP_c, logAt_n, logAt_c, disP_n, disP_c, notIn_n, notIn_c, h0, h1, h12, h13, g1]
        rw [decide_eq_true (list_ext (d := 0) hl fun i hi => hall i (by omega))]
  · have e0 : decide ((xs.length : Int) = (ys.length : Int)) = false := decide_eq_false (by omega)
    simp (config := {maxSteps := 1000000}) (disch := omega) only [go_sem, ↓reduceIte, Nat.reduceEqDiff, Nat.reduceAdd, Nat.reduceMul, Nat.reduceSub, Nat.reduceLeDiff, Nat.reduceLT, Int.reduceToNat, Int.reduceLE, Int.reduceLT, Int.reduceNeg, drP_n, drP_c, logAt_n, logAt_c, disP_n, disP_c, notIn_n, notIn_c, e0]
    rw [decide_eq_false]
    rintro rfl
    exact hl rfl
theorem fo_equalI : FnOk Try.prog 137 := fnOk_of Try.func137 (by kernel_rfl)
theorem c_equalI : Contract Try.prog 137 mEqualI :=
  contract_of_does (DT := fun id => match id with  | _ => []) Try.checked.mixed tabOk gok_nil Try.func137 rfl (by kernel_rfl) (does_equalI )


def rngB (xs : List Int) : Bool := xs.all fun x => decide (-9223372036854775808 ≤ x) && decide (x ≤ 9223372036854775807)
theorem rngB_iff {xs : List Int} : rngB xs = true ↔ ∀ x ∈ xs, -9223372036854775808 ≤ x ∧ x ≤ 9223372036854775807 := by simp [rngB]
noncomputable def mUnpackN : Model := M1 .ro true (cIs false) fun xs => gd (xs.length ≤ 1099511627776 ∧ rngB xs = true) (.tup [ePage true (unV xs).p, eI (unV xs).n], [])
noncomputable def mUnpackPage : Model := M1 .ro true (cIs false) fun xs => gd (xs.length ≤ 1099511627776 ∧ rngB xs = true) (.tup [ePage true (unV xs).p, eI (unV xs).n, .b (unV xs).ok], [])
/-- A value, as it is computed. -/
def w1000 (x : Int) : Int := IntKind.i64.wrap (x - 1000)
theorem w1000_rng {x : Int} (h : -9223372036854775808 ≤ x ∧ x ≤ 9223372036854775807) : inR (w1000 x) (-1000) 1000 = inR (x - 1000) (-1000) 1000 ∧ (inR (x - 1000) (-1000) 1000 = true → w1000 x = x - 1000) := by
  by_cases h1 : -9223372036854775808 ≤ x - 1000
  · have e : w1000 x = x - 1000 := wrap_id (by omega)
    exact ⟨by rw [e], fun _ => e⟩
  · have e : w1000 x = x - 1000 + 18446744073709551616 := by
      unfold w1000
      simp only [IntKind.wrap, IntKind.bits, IntKind.signed]
      simp
      omega
    have f1 : inR (x - 1000) (-1000) 1000 = false := by
      rw [Bool.eq_false_iff]; intro hh; have := inR_iff.1 hh; omega
    have f2 : inR (w1000 x) (-1000) 1000 = false := by
      rw [Bool.eq_false_iff, e]; intro hh; have := inR_iff.1 hh; omega
    exact ⟨by rw [f1, f2], fun hh => by rw [f1] at hh; cases hh⟩
theorem w1000_all {xs : List Int} (h : ∀ x ∈ xs, -9223372036854775808 ≤ x ∧ x ≤ 9223372036854775807) : allR (xs.map w1000) (-1000) 1000 = allR (xs.map (· - 1000)) (-1000) 1000 ∧ (allR (xs.map (· - 1000)) (-1000) 1000 = true → xs.map w1000 = xs.map (· - 1000)) := by
  induction xs with
  | nil => exact ⟨rfl, fun _ => rfl⟩
  | cons x xs ih =>
    obtain ⟨i1, i2⟩ := ih fun y hy => h y (List.mem_cons_of_mem _ hy)
    obtain ⟨j1, j2⟩ := w1000_rng (h x List.mem_cons_self)
    unfold allR at i1 i2 ⊢
    simp only [List.map_cons, List.all_cons]
    refine ⟨by rw [j1, i1], fun hh => ?_⟩
    rw [Bool.and_eq_true] at hh
    rw [j2 hh.1, i2 hh.2]
def pgW (xs : List Int) : Pg :=
  if hdN xs % 2 = 1 then ⟨sub xs 1 (hdN xs / 2), sub xs (hdN xs / 2 + 1) (hdN xs / 2 + 1), []⟩
  else ⟨sub xs 1 (hdN xs / 2), [], (sub xs (hdN xs / 2 + 1) (hdN xs / 2)).map w1000⟩
theorem pgW_ok {xs : List Int} (h : rngB xs = true) : vPage (pgW xs) = vPage (pgN xs) ∧ (vPage (pgN xs) = true → pgW xs = pgN xs) := by
  unfold pgW pgN
  split
  · exact ⟨rfl, fun _ => rfl⟩
  · obtain ⟨a1, a2⟩ := w1000_all (xs := sub xs (hdN xs / 2 + 1) (hdN xs / 2)) fun x hx => rngB_iff.1 h x (List.mem_of_mem_drop (List.mem_of_mem_take hx))
    refine ⟨?_, fun hv => ?_⟩
    · unfold vPage
      simp only [List.length_map, a1]
    · rcases (vPage_iff.1 hv).2.2 with ⟨_, _, h3⟩ | ⟨h3, _⟩
      · rw [a2 h3]
      · exact (h3 rfl).elim
theorem cPage_n2 {o : Bool} {a b : Nat} {x y : List Int} (h : a = x.length ∧ b = y.length) : (cPage o).d (.agg [.s o 1 a (x.map eI), .s o 1 b (y.map eI), .s o 1 0 []]) = some ⟨x, y, []⟩ := by
  obtain ⟨rfl, rfl⟩ := h
  exact (cPage o).de ⟨x, y, []⟩
theorem cPage_n1 {o : Bool} {a b : Nat} {x y : List Int} (h : a = x.length ∧ b = y.length) : (cPage o).d (.agg [.s o 1 a (x.map eI), .s o 1 0 [], .s o 1 b (y.map eI)]) = some ⟨x, [], y⟩ := by
  obtain ⟨rfl, rfl⟩ := h
  exact (cPage o).de ⟨x, [], y⟩
theorem pageT_eq {a b c : Nat} {n : Int} {x y z : List Int} (ha : a = x.length) (hb : b = y.length) (hc : c = z.length) : some (A.tup [.agg [.s true 1 a (x.map eI), .s true 1 b (y.map eI), .s true 1 c (z.map eI)], .i .i64 n], ([] : List (List A))) = some (.tup [ePage true ⟨x, y, z⟩, eI n], []) := by subst ha; subst hb; subst hc; rfl
theorem unV_gt (xs : List Int) : decide (0 < (unV xs).n) = (unV xs).ok := by
  unfold unV
  split
  · have : 1 ≤ szN xs := by unfold szN; omega
    exact decide_eq_true (by show (0 : Int) < (szN xs : Int); omega)
  · rfl
theorem unV_bd (xs : List Int) : 0 ≤ (unV xs).n ∧ (unV xs).n ≤ 20 := by
  unfold unV
  split
  · rename_i h
    have h2 := inR_iff.1 h.1.2.1
    have : szN xs ≤ 20 := by unfold szN hdN; omega
    exact ⟨by show (0 : Int) ≤ (szN xs : Int); omega, by show (szN xs : Int) ≤ 20; omega⟩
  · exact ⟨by decide, by decide⟩

/-- What holds of numbers at whose beginning a page may lie. -/
theorem good_facts {xs : List Int} (h0 : xs.length ≠ 0) (h1 : inR (xs.getD 0 0) 0 9 = true) : ∃ m : Nat, hdN xs = m ∧ xs.getD 0 0 = m ∧ m ≤ 9 ∧ (xs.getD 0 0).tdiv 2 = (m / 2 : Nat) ∧ (xs.getD 0 0).tmod 2 = (m % 2 : Nat) ∧ szN xs = 2 * (m / 2) + 2 + m % 2 ∧ 2 * ((m / 2 : Nat) : Int) + 2 + ((m % 2 : Nat) : Int) = (szN xs : Nat) := by
  have hr := inR_iff.1 h1
  refine ⟨hdN xs, rfl, by unfold hdN; omega, by unfold hdN; omega, ?_, ?_, rfl, ?_⟩
  · have : xs.getD 0 0 = ((hdN xs : Nat) : Int) := by unfold hdN; omega
    rw [this]; rfl
  · have : xs.getD 0 0 = ((hdN xs : Nat) : Int) := by unfold hdN; omega
    rw [this]; rfl
  · unfold szN; omega
theorem sub_len' {xs : List Int} {a n : Nat} (h : a + n ≤ xs.length) : (sub xs a n).length = n := by unfold sub; rw [List.length_take, List.length_drop]; omega
theorem sub_get {xs : List Int} {a n i : Nat} (h : i < n) : (sub xs a n).getD i 0 = xs.getD (a + i) 0 := by
  unfold sub
  rw [getD_take h, getD_drop]
theorem sub_succ {xs : List Int} {a n : Nat} (h : a + n < xs.length) : sub xs a n ++ [xs.getD (a + n) 0] = sub xs a (n + 1) := by
  unfold sub
  rw [List.take_succ_eq_append_getElem (by rw [List.length_drop]; omega)]
  simp [h]

end Go.TM
