/- Contracts, 58: the program's LoadTree. -/
import Derived.Test.YtbdiacopffnnbaaF54
namespace Go.TM
open Go.Proofs
set_option linter.unusedVariables false
set_option linter.unusedSimpArgs false
set_option maxRecDepth 100000
set_option maxHeartbeats 4000000

def nLd (L : Nat) : Nat := max 1 ((L + 3) / 4)
def partL (xs : List Pr) (n i : Nat) : List Pr := sub xs (i * xs.length / n) ((i + 1) * xs.length / n - i * xs.length / n)
def partsL (xs : List Pr) (n : Nat) (k : Nat) : List (List Pr) := (List.range k).map (partL xs n)
def loadP (ps : List (List Pr)) (n : Nat) : List Pg :=
  if n = 1 then ps.map leafP else if n ≤ 5 then innL ps 1 :: ps.map leafP
  else ⟨[key0 (ps.getD (n / 2) [])], [1, 2 + ((n / 2 : Nat) : Int)], []⟩ :: (innL (ps.take (n / 2)) 2 :: (ps.take (n / 2)).map leafP ++ innL (ps.drop (n / 2)) (3 + ((n / 2 : Nat) : Int)) :: (ps.drop (n / 2)).map leafP)
def loadT (xs : List Pr) : Tr := ⟨0, loadP (partsL xs (nLd xs.length) (nLd xs.length)) (nLd xs.length)⟩
noncomputable def loadV (xs : List Pr) : Tr × Bool := if vRow xs = true then (loadT xs, true) else (⟨0, []⟩, false)
theorem loadV_f {xs : List Pr} (h : vRow xs = false) : loadV xs = (⟨0, []⟩, false) := if_neg (by rw [h]; simp)
theorem loadV_t {xs : List Pr} (h : vRow xs = true) : loadV xs = (loadT xs, true) := if_pos h
noncomputable def mLoadTree : Model := M1 .ro true (cRow false) fun xs => gd (xs.length ≤ 1099511627776) (.tup [eTr true (loadV xs).1, .b (loadV xs).2], [])
def mLoaded : Model := M1 .ro true cI fun m => gd (0 ≤ m ∧ m ≤ 1000) (eI (nLd m.toNat), [])

theorem quo_nat (a b : Nat) : ((a : Int)).tdiv (b : Int) = ((a / b : Nat) : Int) := rfl
theorem nLd_int {m : Nat} (h : m ≤ 1000) : (if ((m : Int) + 4 - 1).tdiv 4 > 1 then ((m : Int) + 4 - 1).tdiv 4 else 1) = (nLd m : Int) := by
  have e : ((m : Int) + 4 - 1).tdiv 4 = (((m + 3) / 4 : Nat) : Int) := by
    rw [show (m : Int) + 4 - 1 = ((m + 3 : Nat) : Int) from by omega]
    rfl
  rw [e]
  unfold nLd
  split <;> omega

theorem does_loaded {G : Nat → Option FM}  : Does T G (fun id => match id with  | _ => []) Try.f146 mLoaded := by
  refine does1 (rs := [.tmp 2]) rfl rfl fun m0 ro h => ?_
  obtain ⟨⟨h0, h1⟩, rfl⟩ := gd_some h
  refine ⟨fun _ => ⟨rfl, rfl⟩, ?_⟩
  clear h
  obtain ⟨m, rfl⟩ : ∃ m : Nat, m0 = m := ⟨m0.toNat, by omega⟩
  have e := nLd_int (m := m) (by omega)
  have e4 : ((m : Int) + 4 - 1).tdiv 4 = (((m + 3) / 4 : Nat) : Int) := by
    rw [show (m : Int) + 4 - 1 = ((m + 3 : Nat) : Int) from by omega]
    rfl
  rw [e4] at e
  simp (config := {maxSteps := 1000000}) (disch := omega) only [go_sem, ↓reduceIte, Nat.reduceEqDiff, Nat.reduceAdd, Nat.reduceMul, Nat.reduceSub, Nat.reduceLeDiff, Nat.reduceLT, Int.reduceToNat, Int.reduceLE, Int.reduceLT, Int.reduceNeg, drP_n, drP_c, logAt_n, logAt_c, disP_n, disP_c, notIn_n, notIn_c, e4, e]
theorem fo_loaded : FnOk Try.prog 146 := fnOk_of Try.func146 (by kernel_rfl)
theorem c_loaded : Contract Try.prog 146 mLoaded :=
  contract_of_does (DT := fun id => match id with  | _ => []) Try.checked.mixed tabOk gok_nil Try.func146 rfl (by kernel_rfl) (does_loaded )


theorem vRow_24 {xs : List Pr} (h : vRow xs = true) : xs.length ≤ 24 := by
  simp only [vRow, Bool.and_eq_true, decide_eq_true_eq] at h
  exact h.2.1
theorem nLd_bd {m : Nat} (h : m ≤ 24) : 1 ≤ nLd m ∧ nLd m ≤ 6 ∧ (1 < nLd m → nLd m ≤ m) := by unfold nLd; omega
theorem part_le {L n k : Nat} (hk : k < n) : k * L / n ≤ (k + 1) * L / n ∧ (k + 1) * L / n ≤ L := by
  have hn : 0 < n := by omega
  refine ⟨Nat.div_le_div_right (Nat.mul_le_mul_right _ (by omega)), ?_⟩
  have := Nat.div_le_div_right (c := n) (Nat.mul_le_mul_right L (show k + 1 ≤ n by omega))
  rwa [Nat.mul_div_cancel_left _ hn] at this
theorem partL_len {xs : List Pr} {n k : Nat} (hk : k < n) : (partL xs n k).length = (k + 1) * xs.length / n - k * xs.length / n := by
  have := part_le (L := xs.length) hk
  unfold partL sub
  rw [List.length_take, List.length_drop]
  omega
/-- A part is not empty, if there are no more parts than pairs. -/
theorem partL_pos {xs : List Pr} {n k : Nat} (hk : k < n) (h : n ≤ xs.length) : 0 < (partL xs n k).length := by
  rw [partL_len hk]
  have h1 : (k + 1) * xs.length = k * xs.length + xs.length := by rw [Nat.add_mul, Nat.one_mul]
  have h2 : k * xs.length / n + 1 ≤ (k + 1) * xs.length / n := by
    rw [h1, ← Nat.add_div_right _ (show 0 < n by omega)]
    exact Nat.div_le_div_right (by omega)
  omega
theorem partsL_len (xs : List Pr) (n k : Nat) : (partsL xs n k).length = k := by simp [partsL]
theorem partsL_succ (xs : List Pr) (n k : Nat) : partsL xs n k ++ [partL xs n k] = partsL xs n (k + 1) := by simp [partsL, List.range_succ]
theorem app_part {ps : List (List Pr)} {k m : Nat} {r : List Pr} (h : ps.length = k ∧ m = r.length) : (ps.map (eRow false)).take k ++ [A.s false 2 m (r.flatMap ePr)] = (ps ++ [r]).map (eRow false) := by
  obtain ⟨h, rfl⟩ := h
  rw [List.take_of_length_le (by simp; omega), List.map_append]
  rfl
theorem parts_mem {xs : List Pr} {n : Nat} (h24 : xs.length ≤ 24) : (∀ p ∈ partsL xs n n, p.length ≤ 100) ∧ (n ≤ xs.length → ∀ p ∈ partsL xs n n, p ≠ []) := by
  refine ⟨fun p hp => ?_, fun hn p hp => ?_⟩
  · obtain ⟨i, hi, rfl⟩ := List.mem_map.1 hp
    have hi := List.mem_range.1 hi
    rw [partL_len hi]
    exact Nat.le_trans (Nat.sub_le _ _) (Nat.le_trans (part_le (L := xs.length) hi).2 (by omega))
  · obtain ⟨i, hi, rfl⟩ := List.mem_map.1 hp
    have hi := List.mem_range.1 hi
    have := partL_pos hi hn
    exact List.length_pos_iff.1 this

theorem cLd_d0 {a : Nat} {ps : List (List Pr)} (h : a = ps.length) : cLd.d (.agg [.s true 1 a (ps.map (eRow false)), .s true 3 0 []]) = some ⟨ps, []⟩ := cLd_d (gs := []) ⟨h, rfl⟩
theorem cLd_d1 {a : Nat} {ps : List (List Pr)} (h : a = ps.length) : cLd.d (.agg [.s true 1 a (ps.map (eRow false)), .s true 3 1 [.s true 1 0 [], .s true 1 0 [], .s true 1 0 []]]) = some ⟨ps, [⟨[], [], []⟩]⟩ := cLd_d (gs := [⟨[], [], []⟩]) ⟨h, rfl⟩
theorem set_pgz {xs : List Pg} {a b c : Int} (h : 0 < xs.length) : setR 0 [.s true 1 1 [.i .i64 a], .s true 1 2 [.i .i64 b, .i .i64 c], .s true 1 0 []] (xs.flatMap (ePg true)) = (xs.set 0 ⟨[a], [b, c], []⟩).flatMap (ePg true) :=
  set_pgn2 (k := 0) (x := [a]) (y := [b, c]) ⟨h, rfl, rfl⟩
theorem inK_len {l : Ld} {a n : Nat} (h : a + n ≤ l.parts.length) : (inK l a n).length = l.pages.length + 1 + n := by
  unfold inK
  rw [List.length_append, List.length_cons, List.length_map, List.length_take, List.length_drop]
  omega
theorem load_two {P : List (List Pr)} {h : Nat} {X : Pg} (hh : h ≤ P.length) : (inK ⟨P, inK ⟨P, [⟨[], [], []⟩]⟩ 0 h⟩ h (P.length - h)).set 0 X = X :: (innL (P.take h) 2 :: (P.take h).map leafP ++ innL (P.drop h) (3 + (h : Int)) :: (P.drop h).map leafP) := by
  have hl : (inK ⟨P, [⟨[], [], []⟩]⟩ 0 h).length = 2 + h := by rw [inK_len (by show 0 + h ≤ P.length; omega)]; show 1 + 1 + h = 2 + h; omega
  have e : (P.drop h).take (P.length - h) = P.drop h := List.take_of_length_le (by rw [List.length_drop]; exact Nat.le_refl _)
  have e1 : inK ⟨P, inK ⟨P, [⟨[], [], []⟩]⟩ 0 h⟩ h (P.length - h) = inK ⟨P, [⟨[], [], []⟩]⟩ 0 h ++ innL (P.drop h) (((inK ⟨P, [⟨[], [], []⟩]⟩ 0 h).length : Int) + 1) :: (P.drop h).map leafP := by
    show inK ⟨P, [⟨[], [], []⟩]⟩ 0 h ++ innL ((P.drop h).take (P.length - h)) (((inK ⟨P, [⟨[], [], []⟩]⟩ 0 h).length : Int) + 1) :: ((P.drop h).take (P.length - h)).map leafP = _
    rw [e]
  rw [e1, hl]
  show (_ :: (innL (P.take h) _ :: _) ++ _ : List Pg).set 0 X = _
  rw [show (((2 + h : Nat) : Int) + 1) = 3 + (h : Int) from by omega]
  rfl

theorem does_LoadTreeI {G : Nat → Option FM} (h_ValidRowI : G 104 = some (.model mValidRow)) (h_loaded : G 146 = some (.model mLoaded)) (h_ldLeaves : G 147 = some (.model mLvs)) (h_ldInner : G 148 = some (.model mInnerL)) : Does T G (fun id => match id with | 8 => [(17, 0), (17, 1)] | 14 => [(10, 0), (10, 1), (13, 0), (13, 1), (13, 2), (13, 3), (13, 5), (13, 6), (13, 7), (13, 8), (13, 9), (10, 13), (13, 10)] | _ => []) Try.f79 mLoadTree := by
  refine does1 (rs := [.cell 2 73, .tmp 3]) rfl rfl fun xs ro h => ?_
  obtain ⟨hs, rfl⟩ := gd_some h
  refine ⟨fun _ => ⟨by simp only [cleanA, cleanL, clean_pgs, Bool.and_self], rfl⟩, ?_⟩
  clear h
  cases hv : vRow xs
  · rw [loadV_f hv]
    simp (config := {maxSteps := 1000000}) (disch := omega) only [go_sem, ↓reduceIte, Nat.reduceEqDiff, Nat.reduceAdd, Nat.reduceMul, Nat.reduceSub, Nat.reduceLeDiff, Nat.reduceLT, Int.reduceToNat, Int.reduceLE, Int.reduceLT, Int.reduceNeg, h_ValidRowI, mValidRow, h_loaded, mLoaded, h_ldLeaves, mLvs, h_ldInner, mInnerL, drP_n, drP_c, logAt_n, logAt_c, disP_n, disP_c, notIn_n, notIn_c, hv]
    try rfl
  · rw [loadV_t hv]
    have h24 := vRow_24 hv
    obtain ⟨n, hn⟩ : ∃ n, nLd xs.length = n := ⟨_, rfl⟩
    obtain ⟨n1, n6, nl⟩ := nLd_bd h24
    unfold loadT
    rw [hn] at n1 n6 nl ⊢
    simp (config := {maxSteps := 1000000}) (disch := omega) only [go_sem, ↓reduceIte, Nat.reduceEqDiff, Nat.reduceAdd, Nat.reduceMul, Nat.reduceSub, Nat.reduceLeDiff, Nat.reduceLT, Int.reduceToNat, Int.reduceLE, Int.reduceLT, Int.reduceNeg, h_ValidRowI, mValidRow, h_loaded, mLoaded, h_ldLeaves, mLvs, h_ldInner, mInnerL, drP_n, drP_c, logAt_n, logAt_c, disP_n, disP_c, notIn_n, notIn_c, hv, hn]
    refine W_loop_i (fun s => s.sl 0 = eRow false xs ∧ s.sl 2 = .ptr (3, 0) [] 0 0 ∧ s.hp (3, 0) = some ⟨2, 1, [eI 0, .s true 3 0 []], fun _ => 0⟩ ∧ s.sl 4 = eI n ∧ s.sl 5 = .ptr (13, 0) [] 0 0 ∧ s.sl 18 = eI n ∧ 13 < s.n ∧ ∃ k : Nat, k ≤ n ∧ s.sl 19 = eI k ∧ ∃ v, s.hp (13, 0) = some ⟨2, 1, [.s true 1 k ((partsL xs n k).map (eRow false)), .s true 3 0 []], v⟩) (fun s => n - iN (s.sl 19)) ?_ ?_
    · exact ⟨rfl, rfl, rfl, rfl, rfl, rfl, by dsimp only [St.n]; omega, 0, Nat.zero_le _, rfl, _, rfl⟩
    · rintro sl hp q ⟨h0, h2, hh3, h4, h5, h18, hq, k, hk, h19, v, hh⟩
      dsimp only at h0 h2 hh3 h4 h5 h18 hq h19 hh
      simp (config := {maxSteps := 1000000}) (disch := omega) only [go_sem, ↓reduceIte, Nat.reduceEqDiff, Nat.reduceAdd, Nat.reduceMul, Nat.reduceSub, Nat.reduceLeDiff, Nat.reduceLT, Int.reduceToNat, Int.reduceLE, Int.reduceLT, Int.reduceNeg, h_ValidRowI, mValidRow, h_loaded, mLoaded, h_ldLeaves, mLvs, h_ldInner, mInnerL, drP_n, drP_c, logAt_n, logAt_c, disP_n, disP_c, notIn_n, notIn_c, h0, h2, hh3, h4, h5, h18, h19]
      (first | refine runKS_split (fun g1 => ?_) (fun g1 => ?_) | refine cond_split (fun g1 => ?_) (fun g1 => ?_) | refine runK_split (fun g1 => ?_) (fun g1 => ?_))
      · have g1' := of_decide_eq_true g1
        have hkn : k < n := by omega
        obtain ⟨p1, p2⟩ := part_le (L := xs.length) hkn
        have pl := partL_len (xs := xs) hkn
        have pk := partsL_len xs n k
        have ps := partsL_succ xs n k
        have b1 : (k : Int) * (xs.length : Int) = ((k * xs.length : Nat) : Int) := by push_cast; rfl
        have b2 : ((k : Int) + 1) * (xs.length : Int) = (((k + 1) * xs.length : Nat) : Int) := by push_cast; rfl
        have b3 : k * xs.length ≤ 6 * 24 := Nat.mul_le_mul (by omega) h24
        have b4 : (k + 1) * xs.length ≤ 7 * 24 := Nat.mul_le_mul (by omega) h24
        have q1 : ((k * xs.length : Nat) : Int).tdiv (n : Int) = ((k * xs.length / n : Nat) : Int) := rfl
        have q2 : (((k + 1) * xs.length : Nat) : Int).tdiv (n : Int) = (((k + 1) * xs.length / n : Nat) : Int) := rfl
        have hsub : sub xs (k * xs.length / n) ((k + 1) * xs.length / n - k * xs.length / n) = partL xs n k := rfl
        generalize hA : k * xs.length = A1 at *
        generalize hB : (k + 1) * xs.length = B1 at *
        generalize hC : A1 / n = C1 at *
        generalize hD : B1 / n = D1 at *
        simp (config := {maxSteps := 1000000}) (disch := omega) only [go_sem, ↓reduceIte, Nat.reduceEqDiff, Nat.reduceAdd, Nat.reduceMul, Nat.reduceSub, Nat.reduceLeDiff, Nat.reduceLT, Int.reduceToNat, Int.reduceLE, Int.reduceLT, Int.reduceNeg, h_ValidRowI, mValidRow, h_loaded, mLoaded, h_ldLeaves, mLvs, h_ldInner, mInnerL, drP_n, drP_c, logAt_n, logAt_c, disP_n, disP_c, notIn_n, notIn_c, h0, h2, hh3, h4, h5, h18, h19, g1, hh, b1, b2, q1, q2, hsub, app_part, ps]
        exact ⟨⟨k + 1, by omega, rfl, _, rfl⟩, by omega⟩
      · have g1' := of_decide_eq_false g1
        obtain rfl : k = n := by omega
        obtain ⟨pm1, pm2⟩ := parts_mem (xs := xs) (n := k) h24
        have pl := partsL_len xs k k
        generalize hP : partsL xs k k = P at *
        unfold loadP
        by_cases c1 : k = 1
        · have e1 : decide ((k : Int) = 1) = true := decide_eq_true (by omega)
          have hok : ldOk ⟨P, []⟩ := ⟨by show P.length ≤ 100; omega, by simp, pm1⟩
          rw [if_pos c1]
          have e10 : ((1 : Int) - 0).toNat = 1 := rfl
          have hP1 : lvK ⟨P, []⟩ 0 1 = P.map leafP := by
            show [] ++ ((P.drop 0).take 1).map leafP = _
            rw [List.drop_zero, List.take_of_length_le (by omega)]
            rfl
          simp (config := {maxSteps := 1000000}) (disch := omega) only [go_sem, ↓reduceIte, Nat.reduceEqDiff, Nat.reduceAdd, Nat.reduceMul, Nat.reduceSub, Nat.reduceLeDiff, Nat.reduceLT, Int.reduceToNat, Int.reduceLE, Int.reduceLT, Int.reduceNeg, h_ValidRowI, mValidRow, h_loaded, mLoaded, h_ldLeaves, mLvs, h_ldInner, mInnerL, drP_n, drP_c, logAt_n, logAt_c, disP_n, disP_c, notIn_n, notIn_c, h0, h2, hh3, h4, h5, h18, h19, g1, hh, e1, hok, csLd, cLd_d0, e10, hP1]
          exact tr2_eq (by simp)
        · have e1 : decide ((k : Int) = 1) = false := decide_eq_false (by omega)
          have pn := pm2 (nl (by omega))
          rw [if_neg c1]
          by_cases c2 : k ≤ 5
          · have e2 : decide ((k : Int) ≤ 5) = true := decide_eq_true (by omega)
            have hok : ldOk ⟨P, []⟩ := ⟨by show P.length ≤ 100; omega, by simp, pm1⟩
            rw [if_pos c2]
            have e10 : ((k : Int) - 0).toNat = k := by omega
            have hP1 : inK ⟨P, []⟩ 0 k = innL P 1 :: P.map leafP := by
              show [] ++ innL ((P.drop 0).take k) _ :: ((P.drop 0).take k).map leafP = _
              rw [List.drop_zero, List.take_of_length_le (by omega)]
              rfl
            have pn' : allNe P := pn
            simp (config := {maxSteps := 1000000}) (disch := omega) only [go_sem, ↓reduceIte, Nat.reduceEqDiff, Nat.reduceAdd, Nat.reduceMul, Nat.reduceSub, Nat.reduceLeDiff, Nat.reduceLT, Int.reduceToNat, Int.reduceLE, Int.reduceLT, Int.reduceNeg, h_ValidRowI, mValidRow, h_loaded, mLoaded, h_ldLeaves, mLvs, h_ldInner, mInnerL, drP_n, drP_c, logAt_n, logAt_c, disP_n, disP_c, notIn_n, notIn_c, h0, h2, hh3, h4, h5, h18, h19, g1, hh, e1, e2, hok, csLd, cLd_d0, e10, hP1, pn']
            exact tr2_eq (by simp)
          · have e2 : decide ((k : Int) ≤ 5) = false := decide_eq_false (by omega)
            rw [if_neg c2]
            have pn' : allNe P := pn
            obtain ⟨h, hh2⟩ : ∃ h, k / 2 = h := ⟨_, rfl⟩
            have ht2 : (k : Int).tdiv 2 = (h : Int) := by rw [← hh2]; rfl
            have hb : 3 ≤ h ∧ h + 3 ≤ k := by omega
            have e10 : ((h : Int) - 0).toNat = h := by omega
            have e11 : ((k : Int) - (h : Int)).toNat = k - h := by omega
            have l1 := inK_len (l := ⟨P, [⟨[], [], []⟩]⟩) (a := 0) (n := h) (by show 0 + h ≤ P.length; omega)
            have l2 := inK_len (l := ⟨P, inK ⟨P, [⟨[], [], []⟩]⟩ 0 h⟩) (a := h) (n := k - h) (by show h + (k - h) ≤ P.length; omega)
            dsimp only [List.length_singleton] at l1 l2
            have hok1 : ldOk ⟨P, [⟨[], [], []⟩]⟩ := ⟨by show P.length ≤ 100; omega, by simp, pm1⟩
            have hok2 : ldOk ⟨P, inK ⟨P, [⟨[], [], []⟩]⟩ 0 h⟩ := ⟨by show P.length ≤ 100; omega, by show (inK _ _ _).length ≤ 100; rw [l1]; omega, pm1⟩
            have hm : P.getD h [] ∈ P := by rw [List.getD_eq_getElem?_getD, List.getElem?_eq_getElem (by omega)]; exact List.getElem_mem _
            have hpk := pm1 _ hm
            have hpn : 0 < (P.getD h []).length := List.length_pos_iff.2 (pn _ hm)
            have lt := load_two (P := P) (h := h) (X := ⟨[((P.getD h []).getD 0 default).1], [1, 2 + (h : Int)], []⟩) (by omega)
            rw [hh2]
            rw [pl] at lt
            simp (config := {maxSteps := 1000000}) (disch := omega) only [go_sem, ↓reduceIte, Nat.reduceEqDiff, Nat.reduceAdd, Nat.reduceMul, Nat.reduceSub, Nat.reduceLeDiff, Nat.reduceLT, Int.reduceToNat, Int.reduceLE, Int.reduceLT, Int.reduceNeg, h_ValidRowI, mValidRow, h_loaded, mLoaded, h_ldLeaves, mLvs, h_ldInner, mInnerL, drP_n, drP_c, logAt_n, logAt_c, disP_n, disP_c, notIn_n, notIn_c, h0, h2, hh3, h4, h5, h18, h19, g1, hh, e1, e2, csLd, cLd_d1, hok1, hok2, pn', ht2, e10, e11, get_Rs, get_r0, set_pgz]
            refine ⟨by omega, ?_⟩
            have l1' : ((inK ⟨P, [⟨[], [], []⟩]⟩ 0 h).length : Int) = 2 + (h : Int) := by rw [l1]; omega
            rw [l1', show ((1 : Nat) : Int) = 1 from rfl, lt]
            exact tr2_eq (by rw [← lt, List.length_set])
theorem fo_LoadTreeI : FnOk Try.prog 79 := fnOk_of Try.func79 (by kernel_rfl)
theorem c_LoadTreeI : Contract Try.prog 79 mLoadTree :=
  contract_of_does (DT := fun id => match id with | 8 => [(17, 0), (17, 1)] | 14 => [(10, 0), (10, 1), (13, 0), (13, 1), (13, 2), (13, 3), (13, 5), (13, 6), (13, 7), (13, 8), (13, 9), (10, 13), (13, 10)] | _ => []) Try.checked.mixed tabOk (gok_model fo_ValidRowI c_ValidRowI (gok_model fo_loaded c_loaded (gok_model fo_ldLeaves c_ldLeaves (gok_model fo_ldInner c_ldInner gok_nil)))) Try.func79 rfl (by kernel_rfl) (does_LoadTreeI rfl rfl rfl rfl)

end Go.TM
