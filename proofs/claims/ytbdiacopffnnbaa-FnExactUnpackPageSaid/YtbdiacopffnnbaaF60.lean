/- Contracts, 60: the reference's tree of pairs. -/
import Derived.Test.YtbdiacopffnnbaaF59
namespace Go.TM
open Go.Proofs
set_option linter.unusedVariables false
set_option linter.unusedSimpArgs false
set_option maxRecDepth 100000
set_option maxHeartbeats 4000000

def mShare : Model := M3 .ro .ro .ro true cI cI cI fun a p i => gd ((0 ≤ a ∧ a ≤ 1000) ∧ (1 ≤ p ∧ p ≤ 1000) ∧ 0 ≤ i ∧ i ≤ 1000) (eI ((a * (i + 1)).tdiv p - (a * i).tdiv p), [])
theorem div_rng {x p : Int} (hx : 0 ≤ x ∧ x ≤ 10000000) (hp : 1 ≤ p) : 0 ≤ x.tdiv p ∧ x.tdiv p ≤ 10000000 := by
  rw [Int.tdiv_eq_ediv_of_nonneg hx.1]
  refine ⟨Int.ediv_nonneg hx.1 (by omega), ?_⟩
  have := Int.ediv_le_self p hx.1
  omega

theorem does_share {G : Nat → Option FM}  : Does T G (fun id => match id with  | _ => []) Try.f183 mShare := by
  refine does3 (rs := [.tmp 6]) rfl rfl fun a p i ro h => ?_
  obtain ⟨⟨⟨a0, a1⟩, ⟨p0, p1⟩, i0, i1⟩, rfl⟩ := gd_some h
  refine ⟨fun _ => ⟨rfl, rfl⟩, ?_⟩
  clear h
  have m1 : 0 ≤ a * (i + 1) ∧ a * (i + 1) ≤ 10000000 := ⟨Int.mul_nonneg a0 (by omega), Int.le_trans (Int.mul_le_mul_of_nonneg_right a1 (show 0 ≤ i + 1 by omega)) (by omega)⟩
  have m2 : 0 ≤ a * i ∧ a * i ≤ 10000000 := ⟨Int.mul_nonneg a0 i0, Int.le_trans (Int.mul_le_mul_of_nonneg_right a1 i0) (by omega)⟩
  have d1 := div_rng m1 p0
  have d2 := div_rng m2 p0
  have pn : p ≠ 0 := by omega
  obtain ⟨x, hx⟩ : ∃ x, a * (i + 1) = x := ⟨_, rfl⟩
  obtain ⟨y, hy⟩ : ∃ y, a * i = y := ⟨_, rfl⟩
  rw [hx] at m1 d1 ⊢
  rw [hy] at m2 d2 ⊢
  obtain ⟨u, hu⟩ : ∃ u, x.tdiv p = u := ⟨_, rfl⟩
  obtain ⟨v, hv⟩ : ∃ v, y.tdiv p = v := ⟨_, rfl⟩
  rw [hu] at d1 ⊢
  rw [hv] at d2 ⊢
  simp (config := {maxSteps := 1000000}) (disch := omega) only [go_sem, ↓reduceIte, Nat.reduceEqDiff, Nat.reduceAdd, Nat.reduceMul, Nat.reduceSub, Nat.reduceLeDiff, Nat.reduceLT, Int.reduceToNat, Int.reduceLE, Int.reduceLT, Int.reduceNeg, drP_n, drP_c, logAt_n, logAt_c, disP_n, disP_c, notIn_n, notIn_c, hx, hy, hu, hv]
theorem fo_share : FnOk Try.prog 183 := fnOk_of Try.func183 (by kernel_rfl)
theorem c_share : Contract Try.prog 183 mShare :=
  contract_of_does (DT := fun id => match id with  | _ => []) Try.checked.mixed tabOk gok_nil Try.func183 rfl (by kernel_rfl) (does_share )


/-- The keys between some parts. -/
def kz (Q : List (List Pr)) (j : Nat) : List Int := ((Q.take j).drop 1).map key0
theorem kz_len {Q : List (List Pr)} {j : Nat} (h : j ≤ Q.length) : (kz Q j).length = j - 1 := by
  unfold kz
  rw [List.length_map, List.length_drop, List.length_take]
  omega
theorem kz_one (Q : List (List Pr)) {j : Nat} (h : j ≤ 1) : kz Q j = [] := by
  unfold kz
  rw [List.drop_eq_nil_of_le (by rw [List.length_take]; omega)]
  rfl
theorem kz_succ {Q : List (List Pr)} {j : Nat} (h0 : 0 < j) (h : j < Q.length) : kz Q j ++ [key0 (Q.getD j [])] = kz Q (j + 1) := by
  unfold kz
  rw [List.take_succ_eq_append_getElem h, List.drop_append_of_le_length (by rw [List.length_take]; omega), List.map_append]
  simp [h]
theorem inn_kz (Q : List (List Pr)) (b : Int) : innL Q b = ⟨kz Q Q.length, nmK b Q.length, []⟩ := by
  unfold innL kz
  rw [List.take_length]
  rfl
theorem nm_one {b : Int} (k : Nat) {c : Int} (h : c = b + (k : Int)) : nmK b k ++ [c] = nmK b (k + 1) := by rw [h]; exact nmK_succ b k
theorem rng_all3 {R : List Pg} {n : Nat} (h : R.length = n) : rng (R.flatMap (ePg true)) 0 (n * 3) = R.flatMap (ePg true) := by
  unfold rng
  rw [List.drop_zero, take_all3 h]
theorem gone_pg (p : Pg) : (ePg true p).map gone1 = [.und, .und, .und] := rfl
theorem rng_fst {R : List Pg} {n : Nat} : rng (R.flatMap (ePg true)) 0 (n * 3) = (R.take n).flatMap (ePg true) := by
  unfold rng
  rw [List.drop_zero, take_pgs]
theorem rng_gone {R : List Pg} {n m : Nat} (h : R.length = n + m) : rng (goneR (R.flatMap (ePg true)) 0 (n * 3)) (n * 3) (m * 3) = (R.drop n).flatMap (ePg true) := by
  unfold goneR
  rw [List.take_zero, List.nil_append, Nat.zero_add]
  have hl : ((rng (R.flatMap (ePg true)) 0 (n * 3)).map gone1).length = n * 3 := by
    rw [List.length_map, rng_fst, flatPg_len, List.length_take]; omega
  unfold rng at hl ⊢
  rw [List.drop_append_of_le_length (by omega), List.drop_eq_nil_of_le (by omega), List.nil_append, drop_pgs]
  rw [List.take_of_length_le (by rw [flatPg_len, List.length_drop]; omega)]
theorem gone_len {R : List Pg} {n : Nat} (h : n ≤ R.length) : (goneR (R.flatMap (ePg true)) 0 (n * 3)).length = R.length * 3 := by
  unfold goneR
  simp only [List.length_append, List.length_map]
  unfold rng
  simp only [List.length_take, List.length_drop, flatPg_len]
  omega

theorem tr_page {a b c : Nat} {x y : List Int} (ha : a = x.length) (hb : b = y.length) (hc : c = 0) : ([A.s true 1 a (x.map eI), A.s true 1 b (y.map eI), A.s true 1 c []] : List A) = ePg true ⟨x, y, []⟩ := by subst ha; subst hb; subst hc; rfl
theorem tr_eq' {n : Nat} {r : Int} {p : Pg} {ps : List Pg} {a b c : A} (e : [a, b, c] = ePg true p) (h : n = (p :: ps).length) : some (A.agg [.i .i64 r, .s true 3 n (a :: b :: c :: ps.flatMap (ePg true))], ([] : List (List A))) = some (eTr true ⟨r, p :: ps⟩, []) := by
  subst h
  have e2 : a :: b :: c :: ps.flatMap (ePg true) = (p :: ps).flatMap (ePg true) := by
    rw [List.flatMap_cons, ← e]; rfl
  rw [e2]
theorem load_cells {X A' B : Pg} {L1 L2 : List Pg} {h : Nat} {x1 x2 x3 a1 a2 a3 b1 b2 b3 : A} (hl : L1.length = h) (ex : [x1, x2, x3] = ePg true X) (ea : [a1, a2, a3] = ePg true A') (eb : [b1, b2, b3] = ePg true B) :
    List.take ((2 + h + 1) * 3) (List.take ((2 + h) * 3) (x1 :: x2 :: x3 :: a1 :: a2 :: a3 :: L1.flatMap (ePg true)) ++ [b1, b2, b3]) ++ L2.flatMap (ePg true) = (X :: (A' :: (L1 ++ B :: L2))).flatMap (ePg true) := by
  have e1 : x1 :: x2 :: x3 :: a1 :: a2 :: a3 :: L1.flatMap (ePg true) = (X :: A' :: L1).flatMap (ePg true) := by
    rw [List.flatMap_cons, List.flatMap_cons, ← ex, ← ea]; rfl
  rw [e1, take_all3 (by rw [List.length_cons, List.length_cons]; omega), eb]
  have e2 : (X :: A' :: L1).flatMap (ePg true) ++ ePg true B = (X :: A' :: L1 ++ [B]).flatMap (ePg true) := by
    rw [List.flatMap_append]; simp
  rw [e2, take_all3 (by rw [List.length_append, List.length_cons, List.length_cons, List.length_singleton]; omega), ← List.flatMap_append]
  simp
theorem inn_take {P : List (List Pr)} {h : Nat} (hh : h ≤ P.length) (b : Int) : innL (P.take h) b = ⟨kz P h, nmK b h, []⟩ := by
  unfold innL kz nmK
  rw [List.length_take, Nat.min_eq_left hh]
theorem trL_eq {n : Nat} {r : Int} {ps : List Pg} {cs : List A} (e : cs = ps.flatMap (ePg true)) (h : n = ps.length) : some (A.agg [.i .i64 r, .s true 3 n cs], ([] : List (List A))) = some (eTr true ⟨r, ps⟩, []) := by subst e; subst h; rfl
noncomputable def mLoad : Model := M1 .ro true (cRow false) fun xs => gd (vRow xs = true) (eTr true (loadT xs), [])

theorem does_load {G : Nat → Option FM} (h_share : G 183 = some (.model mShare)) (h_leafOfS : G 184 = some (.model mLeafOf)) (h_innerOfS : G 185 = some (.alias [2] [.arg 0 0, .arg 0 1, .empty 1])) : Does T G (fun id => match id with | 18 => [(9, 0), (9, 1)] | 31 => [(9, 0), (9, 1)] | 33 => [(9, 0), (9, 1)] | 35 => [(1, 2)] | _ => []) Try.f145 mLoad := by
  refine does1 (rs := [.cell 2 73]) rfl rfl fun xs ro h => ?_
  obtain ⟨hv, rfl⟩ := gd_some h
  refine ⟨fun _ => ⟨clean_tr _, rfl⟩, ?_⟩
  clear h
  have h24 := vRow_24 hv
  obtain ⟨n, hn⟩ : ∃ n, nLd xs.length = n := ⟨_, rfl⟩
  obtain ⟨n1, n6, nl⟩ := nLd_bd h24
  have e := nLd_int (m := xs.length) (by omega)
  have e4 : ((xs.length : Int) + 4 - 1).tdiv 4 = (((xs.length + 3) / 4 : Nat) : Int) := by
    rw [show (xs.length : Int) + 4 - 1 = ((xs.length + 3 : Nat) : Int) from by omega]
    rfl
  rw [e4] at e
  unfold loadT
  rw [hn] at n1 n6 nl e ⊢
  simp (config := {maxSteps := 1000000}) (disch := omega) only [go_sem, ↓reduceIte, Nat.reduceEqDiff, Nat.reduceAdd, Nat.reduceMul, Nat.reduceSub, Nat.reduceLeDiff, Nat.reduceLT, Int.reduceToNat, Int.reduceLE, Int.reduceLT, Int.reduceNeg, h_share, mShare, h_leafOfS, mLeafOf, h_innerOfS, drP_n, drP_c, logAt_n, logAt_c, disP_n, disP_c, notIn_n, notIn_c, e4, e]
  refine W_loop_i (fun s => s.sl 0 = eRow false xs ∧ s.sl 2 = .ptr (3, 0) [] 0 0 ∧ s.hp (3, 0) = some ⟨2, 1, [eI 0, .s true 3 0 []], fun _ => 0⟩ ∧ s.sl 3 = eI n ∧ 11 < s.n ∧ ∃ k m : Nat, k ≤ n ∧ s.sl 6 = eI k ∧ s.sl 5 = eI ((k * xs.length / n : Nat) : Int) ∧ 3 < m ∧ m < s.n ∧ s.sl 4 = .ref (m, 0) [] 0 0 3 k ∧ s.hp (m, 0) = some ⟨3, k, ((partsL xs n k).map leafP).flatMap (ePg true), fun _ => 0⟩) (fun s => n - iN (s.sl 6)) ?_ ?_
  · exact ⟨rfl, rfl, rfl, rfl, by dsimp only [St.n]; omega, 0, 11, Nat.zero_le _, rfl, by rw [Nat.zero_mul, Nat.zero_div]; rfl, by omega, by dsimp only [St.n]; omega, rfl, rfl⟩
  · rintro sl hp q ⟨h0, h2, hh3, h3, hq, k, m, hk, h6, h5, hm3, hm, h4, hhm⟩
    dsimp only at h0 h2 hh3 h3 hq h6 h5 hm h4 hhm
    by_cases g1' : k < n
    · have g1 : decide ((k : Int) < (n : Int)) = true := decide_eq_true (by omega)
      obtain ⟨p1, p2⟩ := part_le (L := xs.length) g1'
      have pl := partL_len (xs := xs) g1'
      have pk := partsL_len xs n k
      have pm : ((partsL xs n k).map leafP).length = k := by rw [List.length_map, pk]
      have ps : (partsL xs n k).map leafP ++ [⟨(leafP (partL xs n k)).keys, (leafP (partL xs n k)).kids, (leafP (partL xs n k)).vals⟩] = (partsL xs n (k + 1)).map leafP := by
        rw [← partsL_succ, List.map_append]; rfl
      have b1 : (xs.length : Int) * (k : Int) = ((k * xs.length : Nat) : Int) := by rw [Int.mul_comm]; push_cast; rfl
      have b2 : (xs.length : Int) * ((k : Int) + 1) = (((k + 1) * xs.length : Nat) : Int) := by rw [Int.mul_comm]; push_cast; rfl
      have q1 : ((k * xs.length : Nat) : Int).tdiv (n : Int) = ((k * xs.length / n : Nat) : Int) := rfl
      have q2 : (((k + 1) * xs.length : Nat) : Int).tdiv (n : Int) = (((k + 1) * xs.length / n : Nat) : Int) := rfl
      have hsub : sub xs (k * xs.length / n) ((k + 1) * xs.length / n - k * xs.length / n) = partL xs n k := rfl
      generalize hA : k * xs.length = A1 at *
      generalize hB : (k + 1) * xs.length = B1 at *
      generalize hC : A1 / n = C1 at *
      generalize hD : B1 / n = D1 at *
      have hcd : (C1 : Int) + ((D1 : Int) - (C1 : Int)) = (D1 : Int) := by omega
      simp (config := {maxSteps := 1000000}) (disch := omega) only [go_sem, ↓reduceIte, Nat.reduceEqDiff, Nat.reduceAdd, Nat.reduceMul, Nat.reduceSub, Nat.reduceLeDiff, Nat.reduceLT, Int.reduceToNat, Int.reduceLE, Int.reduceLT, Int.reduceNeg, h_share, mShare, h_leafOfS, mLeafOf, h_innerOfS, drP_n, drP_c, logAt_n, logAt_c, disP_n, disP_c, notIn_n, notIn_c, h0, h2, hh3, h3, h6, h5, h4, hhm, g1, b1, b2, q1, q2, hcd, hsub, app_pg, ps]
      refine ⟨⟨k + 1, q + 3 + 6 + 9, by omega, rfl, by rw [hB, hD], by omega, by omega, rfl, ?_⟩, by omega⟩
      simp (config := {maxSteps := 1000000}) (disch := omega) only [go_sem, ↓reduceIte, Nat.reduceEqDiff, Nat.reduceAdd, Nat.reduceMul, Nat.reduceSub, Nat.reduceLeDiff, Nat.reduceLT, Int.reduceToNat, Int.reduceLE, Int.reduceLT, Int.reduceNeg, h_share, mShare, h_leafOfS, mLeafOf, h_innerOfS, drP_n, drP_c, logAt_n, logAt_c, disP_n, disP_c, notIn_n, notIn_c]
    · have g1 : decide ((k : Int) < (n : Int)) = false := decide_eq_false (by omega)
      obtain rfl : k = n := by omega
      clear h5
      obtain ⟨pm1, pm2⟩ := parts_mem (xs := xs) (n := k) h24
      have pl := partsL_len xs k k
      generalize hP : partsL xs k k = P at *
      have pm : (P.map leafP).length = k := by rw [List.length_map, pl]
      unfold loadP
      by_cases c1 : k = 1
      · have e1 : decide ((k : Int) = 1) = true := decide_eq_true (by omega)
        rw [if_pos c1]
        simp (config := {maxSteps := 1000000}) (disch := omega) only [go_sem, ↓reduceIte, Nat.reduceEqDiff, Nat.reduceAdd, Nat.reduceMul, Nat.reduceSub, Nat.reduceLeDiff, Nat.reduceLT, Int.reduceToNat, Int.reduceLE, Int.reduceLT, Int.reduceNeg, h_share, mShare, h_leafOfS, mLeafOf, h_innerOfS, drP_n, drP_c, logAt_n, logAt_c, disP_n, disP_c, notIn_n, notIn_c, h0, h2, hh3, h3, h6, h4, hhm, g1, e1]
        exact tr_eq pm.symm
      · have e1 : decide ((k : Int) = 1) = false := decide_eq_false (by omega)
        have pn := pm2 (nl (by omega))
        have key : ∀ j, j < k → ((P.map leafP).getD j default).keys.getD 0 0 = key0 (P.getD j []) ∧ 0 < ((P.map leafP).getD j default).keys.length ∧ ((P.map leafP).getD j default).keys.length ≤ 100 := by
          intro j hj
          have hm : P.getD j [] ∈ P := by rw [List.getD_eq_getElem?_getD, List.getElem?_eq_getElem (by omega)]; exact List.getElem_mem _
          have h1 := pm1 _ hm
          have h2 := List.length_pos_iff.2 (pn _ hm)
          have e : (P.map leafP).getD j default = leafP (P.getD j []) := by simp [show j < P.length by omega]
          rw [e]
          have kl : (leafP (P.getD j [])).keys.length = (P.getD j []).length := keysP_len _
          refine ⟨?_, by omega, by omega⟩
          show (keysP _).getD 0 0 = _
          rw [keysP_get h2]
          rfl
        rw [if_neg c1]
        generalize hLv : P.map leafP = Lv at *
        by_cases c2 : k ≤ 5
        · have e2 : decide ((k : Int) ≤ 5) = true := decide_eq_true (by omega)
          rw [if_pos c2]
          simp (config := {maxSteps := 1000000}) (disch := omega) only [go_sem, ↓reduceIte, Nat.reduceEqDiff, Nat.reduceAdd, Nat.reduceMul, Nat.reduceSub, Nat.reduceLeDiff, Nat.reduceLT, Int.reduceToNat, Int.reduceLE, Int.reduceLT, Int.reduceNeg, h_share, mShare, h_leafOfS, mLeafOf, h_innerOfS, drP_n, drP_c, logAt_n, logAt_c, disP_n, disP_c, notIn_n, notIn_c, h0, h2, hh3, h3, h6, h4, hhm, g1, e1, e2]
          refine W_loop_i (fun s => s.sl 2 = .ptr (3, 0) [] 0 0 ∧ s.hp (3, 0) = some ⟨2, 1, [eI 0, .s true 3 0 []], fun _ => 0⟩ ∧ s.sl 3 = eI k ∧ s.sl 4 = .ref (m, 0) [] 0 0 3 k ∧ s.hp (m, 0) = some ⟨3, k, Lv.flatMap (ePg true), fun _ => 0⟩ ∧ q + 10 < s.n ∧ s.sl 8 = .ptr (q + 10, 0) [] 0 0 ∧ ∃ j : Nat, j ≤ k ∧ s.sl 9 = eI j ∧
            ∃ v, s.hp (q + 10, 0) = some ⟨2, 1, [.s true 1 (j - 1) ((kz P j).map eI), .s true 1 j ((nmK 1 j).map eI)], v⟩) (fun s => k - iN (s.sl 9)) ?_ ?_
          · simp (config := {maxSteps := 1000000}) (disch := omega) only [go_sem, ↓reduceIte, Nat.reduceEqDiff, Nat.reduceAdd, Nat.reduceMul, Nat.reduceSub, Nat.reduceLeDiff, Nat.reduceLT, Int.reduceToNat, Int.reduceLE, Int.reduceLT, Int.reduceNeg, h_share, mShare, h_leafOfS, mLeafOf, h_innerOfS, drP_n, drP_c, logAt_n, logAt_c, disP_n, disP_c, notIn_n, notIn_c, h2, hh3, h3, h4, hhm]
            exact ⟨0, Nat.zero_le _, rfl, _, by rw [kz_one P (by omega)]; rfl⟩
          · rintro sl hp q2 ⟨h2, hh3, h3, h4, hhm, hq2, h8, j, hj, h9, v, hh8⟩
            dsimp only at h2 hh3 h3 h4 hhm hq2 h8 h9 hh8
            by_cases g2' : j < k
            · have g2 : decide ((j : Int) < (k : Int)) = true := decide_eq_true (by omega)
              obtain ⟨ky1, ky2, ky3⟩ := key j g2'
              have kl := kz_len (Q := P) (j := j) (by omega)
              have nl' := nmK_len 1 j
              have ns := nm_one (b := 1) j (c := (j : Int) + 1) (by omega)
              by_cases j0 : j = 0
              · have e5 : decide ((0 : Int) < (j : Int)) = false := decide_eq_false (by omega)
                simp (config := {maxSteps := 1000000}) (disch := omega) only [go_sem, ↓reduceIte, Nat.reduceEqDiff, Nat.reduceAdd, Nat.reduceMul, Nat.reduceSub, Nat.reduceLeDiff, Nat.reduceLT, Int.reduceToNat, Int.reduceLE, Int.reduceLT, Int.reduceNeg, h_share, mShare, h_leafOfS, mLeafOf, h_innerOfS, drP_n, drP_c, logAt_n, logAt_c, disP_n, disP_c, notIn_n, notIn_c, h2, hh3, h3, h4, hhm, h8, h9, hh8, g2, e5, app_I', ns]
                exact ⟨⟨j + 1, by omega, rfl, _, by rw [kz_one P (show j ≤ 1 by omega), kz_one P (show j + 1 ≤ 1 by omega), show j - 1 = 0 from by omega, show j + 1 - 1 = 0 from by omega]⟩, by omega⟩
              · have e5 : decide ((0 : Int) < (j : Int)) = true := decide_eq_true (by omega)
                have ks := kz_succ (Q := P) (j := j) (by omega) (by omega)
                simp (config := {maxSteps := 1000000}) (disch := omega) only [go_sem, ↓reduceIte, Nat.reduceEqDiff, Nat.reduceAdd, Nat.reduceMul, Nat.reduceSub, Nat.reduceLeDiff, Nat.reduceLT, Int.reduceToNat, Int.reduceLE, Int.reduceLT, Int.reduceNeg, h_share, mShare, h_leafOfS, mLeafOf, h_innerOfS, drP_n, drP_c, logAt_n, logAt_c, disP_n, disP_c, notIn_n, notIn_c, h2, hh3, h3, h4, hhm, h8, h9, hh8, g2, e5, ky1, ks, app_I', ns]
                exact ⟨by omega, ⟨j + 1, by omega, rfl, _, by rw [show j - 1 + 1 = j + 1 - 1 from by omega]⟩, by omega⟩
            · have g2 : decide ((j : Int) < (k : Int)) = false := decide_eq_false (by omega)
              obtain rfl : j = k := by omega
              have ra := rng_all3 pm
              simp (config := {maxSteps := 1000000}) (disch := omega) only [go_sem, ↓reduceIte, Nat.reduceEqDiff, Nat.reduceAdd, Nat.reduceMul, Nat.reduceSub, Nat.reduceLeDiff, Nat.reduceLT, Int.reduceToNat, Int.reduceLE, Int.reduceLT, Int.reduceNeg, h_share, mShare, h_leafOfS, mLeafOf, h_innerOfS, drP_n, drP_c, logAt_n, logAt_c, disP_n, disP_c, notIn_n, notIn_c, h2, hh3, h3, h4, hhm, h8, h9, hh8, g2, ra]
              rw [inn_kz, pl]
              have kl := kz_len (Q := P) (j := j) (by omega)
              have nl' := nmK_len 1 j
              exact tr_eq' (tr_page kl.symm nl'.symm rfl) (by rw [List.length_cons, pm]; omega)
        · have e2 : decide ((k : Int) ≤ 5) = false := decide_eq_false (by omega)
          rw [if_neg c2]
          obtain ⟨h, hh2⟩ : ∃ h, k / 2 = h := ⟨_, rfl⟩
          have ht2 : (k : Int).tdiv 2 = (h : Int) := by rw [← hh2]; rfl
          have hb : 3 ≤ h ∧ h + 3 ≤ k := by omega
          have hdl : (P.drop h).length = k - h := by rw [List.length_drop, pl]
          have hdg : ∀ j, (P.drop h).getD j [] = P.getD (h + j) [] := fun j => by simp [List.getElem?_drop]
          simp (config := {maxSteps := 1000000}) (disch := omega) only [go_sem, ↓reduceIte, Nat.reduceEqDiff, Nat.reduceAdd, Nat.reduceMul, Nat.reduceSub, Nat.reduceLeDiff, Nat.reduceLT, Int.reduceToNat, Int.reduceLE, Int.reduceLT, Int.reduceNeg, h_share, mShare, h_leafOfS, mLeafOf, h_innerOfS, drP_n, drP_c, logAt_n, logAt_c, disP_n, disP_c, notIn_n, notIn_c, h0, h2, hh3, h3, h6, h4, hhm, g1, e1, e2, ht2]
          refine W_loop_i (fun s => s.sl 2 = .ptr (3, 0) [] 0 0 ∧ s.hp (3, 0) = some ⟨2, 1, [eI 0, .s true 3 0 []], fun _ => 0⟩ ∧ s.sl 3 = eI k ∧ s.sl 4 = .ref (m, 0) [] 0 0 3 k ∧ s.hp (m, 0) = some ⟨3, k, Lv.flatMap (ePg true), fun _ => 0⟩ ∧ q + 18 < s.n ∧ s.sl 10 = eI h ∧ s.sl 11 = .ptr (q + 13, 0) [] 0 0 ∧ s.sl 12 = .ptr (q + 18, 0) [] 0 0 ∧ ∃ j : Nat, j ≤ k ∧ s.sl 13 = eI j ∧
            (∃ v, s.hp (q + 13, 0) = some ⟨2, 1, [.s true 1 (min j h - 1) ((kz P (min j h)).map eI), .s true 1 (min j h) ((nmK 2 (min j h)).map eI)], v⟩) ∧
            ∃ v, s.hp (q + 18, 0) = some ⟨2, 1, [.s true 1 (j - h - 1) ((kz (P.drop h) (j - h)).map eI), .s true 1 (j - h) ((nmK (3 + (h : Int)) (j - h)).map eI)], v⟩) (fun s => k - iN (s.sl 13)) ?_ ?_
          · simp (config := {maxSteps := 1000000}) (disch := omega) only [go_sem, ↓reduceIte, Nat.reduceEqDiff, Nat.reduceAdd, Nat.reduceMul, Nat.reduceSub, Nat.reduceLeDiff, Nat.reduceLT, Int.reduceToNat, Int.reduceLE, Int.reduceLT, Int.reduceNeg, h_share, mShare, h_leafOfS, mLeafOf, h_innerOfS, drP_n, drP_c, logAt_n, logAt_c, disP_n, disP_c, notIn_n, notIn_c, h2, hh3, h3, h4, hhm]
            refine ⟨0, Nat.zero_le _, rfl, ?_, ?_⟩
            · rw [Nat.zero_min, kz_one P (by omega)]; exact ⟨_, rfl⟩
            · rw [Nat.zero_sub, kz_one _ (by omega)]; exact ⟨_, rfl⟩
          · rintro sl hp q2 ⟨h2, hh3, h3, h4, hhm, hq2, h10, h11, h12, j, hj, h13, ⟨v, hhA⟩, v', hhB⟩
            dsimp only at h2 hh3 h3 h4 hhm hq2 h10 h11 h12 h13 hhA hhB
            by_cases g2' : j < k
            · have g2 : decide ((j : Int) < (k : Int)) = true := decide_eq_true (by omega)
              obtain ⟨ky1, ky2, ky3⟩ := key j g2'
              by_cases jh : j < h
              · rw [Nat.min_eq_left (by omega)] at hhA
                rw [show j - h = 0 from by omega] at hhB
                have e3 : decide ((j : Int) < (h : Int)) = true := decide_eq_true (by omega)
                have e6 : decide ((h : Int) < (j : Int)) = false := decide_eq_false (by omega)
                have kl := kz_len (Q := P) (j := j) (by omega)
                have nl' := nmK_len 2 j
                have ns := nm_one (b := 2) j (c := 2 + (j : Int)) rfl
                by_cases j0 : j = 0
                · have e5 : decide ((0 : Int) < (j : Int)) = false := decide_eq_false (by omega)
                  simp (config := {maxSteps := 1000000}) (disch := omega) only [go_sem, ↓reduceIte, Nat.reduceEqDiff, Nat.reduceAdd, Nat.reduceMul, Nat.reduceSub, Nat.reduceLeDiff, Nat.reduceLT, Int.reduceToNat, Int.reduceLE, Int.reduceLT, Int.reduceNeg, h_share, mShare, h_leafOfS, mLeafOf, h_innerOfS, drP_n, drP_c, logAt_n, logAt_c, disP_n, disP_c, notIn_n, notIn_c, h2, hh3, h3, h4, hhm, h10, h11, h12, h13, hhA, hhB, g2, e3, e5, e6, app_I', ns]
                  refine ⟨⟨j + 1, by omega, rfl, ?_, ?_⟩, by omega⟩
                  · rw [Nat.min_eq_left (show j + 1 ≤ h by omega), kz_one P (show j ≤ 1 by omega), kz_one P (show j + 1 ≤ 1 by omega), show j - 1 = 0 from by omega, show j + 1 - 1 = 0 from by omega]
                    exact ⟨_, rfl⟩
                  · rw [show j + 1 - h = 0 from by omega]
                    exact ⟨_, rfl⟩
                · have e5 : decide ((0 : Int) < (j : Int)) = true := decide_eq_true (by omega)
                  have ks := kz_succ (Q := P) (j := j) (by omega) (by omega)
                  simp (config := {maxSteps := 1000000}) (disch := omega) only [go_sem, ↓reduceIte, Nat.reduceEqDiff, Nat.reduceAdd, Nat.reduceMul, Nat.reduceSub, Nat.reduceLeDiff, Nat.reduceLT, Int.reduceToNat, Int.reduceLE, Int.reduceLT, Int.reduceNeg, h_share, mShare, h_leafOfS, mLeafOf, h_innerOfS, drP_n, drP_c, logAt_n, logAt_c, disP_n, disP_c, notIn_n, notIn_c, h2, hh3, h3, h4, hhm, h10, h11, h12, h13, hhA, hhB, g2, e3, e5, e6, ky1, ks, app_I', ns]
                  refine ⟨by omega, ⟨j + 1, by omega, rfl, ?_, ?_⟩, by omega⟩
                  · rw [Nat.min_eq_left (show j + 1 ≤ h by omega), show j - 1 + 1 = j + 1 - 1 from by omega]
                    exact ⟨_, rfl⟩
                  · rw [show j + 1 - h = 0 from by omega]
                    exact ⟨_, rfl⟩
              · rw [Nat.min_eq_right (by omega)] at hhA
                have e3 : decide ((j : Int) < (h : Int)) = false := decide_eq_false (by omega)
                have e5 : decide ((0 : Int) < (j : Int)) = true := decide_eq_true (by omega)
                obtain ⟨i, rfl⟩ : ∃ i, j = h + i := ⟨j - h, by omega⟩
                rw [show h + i - h = i from by omega] at hhB
                have hdi := hdg i
                have kl := kz_len (Q := P.drop h) (j := i) (by omega)
                have nl' := nmK_len (3 + (h : Int)) i
                have ns := nm_one (b := 3 + (h : Int)) i (c := 3 + ((h + i : Nat) : Int)) (by omega)
                by_cases j0 : i = 0
                · have e6 : decide ((h : Int) < ((h + i : Nat) : Int)) = false := decide_eq_false (by omega)
                  simp (config := {maxSteps := 1000000}) (disch := omega) only [go_sem, ↓reduceIte, Nat.reduceEqDiff, Nat.reduceAdd, Nat.reduceMul, Nat.reduceSub, Nat.reduceLeDiff, Nat.reduceLT, Int.reduceToNat, Int.reduceLE, Int.reduceLT, Int.reduceNeg, h_share, mShare, h_leafOfS, mLeafOf, h_innerOfS, drP_n, drP_c, logAt_n, logAt_c, disP_n, disP_c, notIn_n, notIn_c, h2, hh3, h3, h4, hhm, h10, h11, h12, h13, hhA, hhB, g2, e3, e5, e6, app_I', ns]
                  refine ⟨⟨h + i + 1, by omega, rfl, ?_, ?_⟩, by omega⟩
                  · rw [Nat.min_eq_right (by omega)]
                    exact ⟨_, rfl⟩
                  · rw [show h + i + 1 - h = i + 1 from by omega, kz_one (P.drop h) (show i ≤ 1 by omega), kz_one (P.drop h) (show i + 1 ≤ 1 by omega), show i - 1 = 0 from by omega, show i + 1 - 1 = 0 from by omega]
                    exact ⟨_, rfl⟩
                · have e6 : decide ((h : Int) < ((h + i : Nat) : Int)) = true := decide_eq_true (by omega)
                  have ks := kz_succ (Q := P.drop h) (j := i) (by omega) (by omega)
                  rw [hdi] at ks
                  simp (config := {maxSteps := 1000000}) (disch := omega) only [go_sem, ↓reduceIte, Nat.reduceEqDiff, Nat.reduceAdd, Nat.reduceMul, Nat.reduceSub, Nat.reduceLeDiff, Nat.reduceLT, Int.reduceToNat, Int.reduceLE, Int.reduceLT, Int.reduceNeg, h_share, mShare, h_leafOfS, mLeafOf, h_innerOfS, drP_n, drP_c, logAt_n, logAt_c, disP_n, disP_c, notIn_n, notIn_c, h2, hh3, h3, h4, hhm, h10, h11, h12, h13, hhA, hhB, g2, e3, e5, e6, ky1, ks, app_I', ns]
                  refine ⟨by omega, ⟨h + i + 1, by omega, rfl, ?_, ?_⟩, by omega⟩
                  · rw [Nat.min_eq_right (by omega)]
                    exact ⟨_, rfl⟩
                  · rw [show h + i + 1 - h = i + 1 from by omega, show i - 1 + 1 = i + 1 - 1 from by omega]
                    exact ⟨_, rfl⟩
            · have g2 : decide ((j : Int) < (k : Int)) = false := decide_eq_false (by omega)
              obtain rfl : j = k := by omega
              rw [Nat.min_eq_right (by omega)] at hhA
              obtain ⟨ky1, ky2, ky3⟩ := key h (by omega)
              have en2 : j - h - 0 = j - h := by omega
              have rf := rng_fst (R := Lv) (n := h)
              have rg := rng_gone (R := Lv) (n := h) (m := j - h) (by omega)
              have gl := gone_len (R := Lv) (n := h) (by omega)
              have hh0 : ¬ h = 0 := by omega
              have hh1 : ¬ j - h = 0 := by omega
              simp (config := {maxSteps := 1000000}) (disch := omega) only [go_sem, ↓reduceIte, Nat.reduceEqDiff, Nat.reduceAdd, Nat.reduceMul, Nat.reduceSub, Nat.reduceLeDiff, Nat.reduceLT, Int.reduceToNat, Int.reduceLE, Int.reduceLT, Int.reduceNeg, h_share, mShare, h_leafOfS, mLeafOf, h_innerOfS, drP_n, drP_c, logAt_n, logAt_c, disP_n, disP_c, notIn_n, notIn_c, h2, hh3, h3, h4, hhm, h10, h11, h12, h13, hhA, hhB, g2, ky1, rf, rg, hh0, hh1, Nat.sub_zero]
              have kl1 := kz_len (Q := P) (j := h) (by omega)
              have kl2 := kz_len (Q := P.drop h) (j := j - h) (by omega)
              have nl1 := nmK_len 2 h
              have nl2 := nmK_len (3 + (h : Int)) (j - h)
              rw [hh2, inn_take (by omega), inn_kz (P.drop h), hdl, List.map_take, List.map_drop, hLv]
              refine trL_eq (load_cells (by rw [List.length_take]; omega) (tr_page (x := [key0 (P.getD h [])]) (y := [1, 2 + (h : Int)]) rfl rfl rfl) (tr_page kl1.symm nl1.symm rfl) (tr_page kl2.symm nl2.symm rfl)) ?_
              simp only [List.length_cons, List.length_append, List.length_take, List.length_drop]
              omega
theorem fo_load : FnOk Try.prog 145 := fnOk_of Try.func145 (by kernel_rfl)
theorem c_load : Contract Try.prog 145 mLoad :=
  contract_of_does (DT := fun id => match id with | 18 => [(9, 0), (9, 1)] | 31 => [(9, 0), (9, 1)] | 33 => [(9, 0), (9, 1)] | 35 => [(1, 2)] | _ => []) Try.checked.mixed tabOk (gok_model fo_share c_share (gok_model fo_leafOfS c_leafOfS (gok_alias fo_innerOfS c_innerOfS gok_nil))) Try.func145 rfl (by kernel_rfl) (does_load rfl rfl rfl)


theorem does_LoadTreeS {G : Nat → Option FM} (h_validRow : G 100 = some (.model mValidRow)) (h_load : G 145 = some (.model mLoad)) : Does T G (fun id => match id with  | _ => []) Try.f78 mLoadTree := by
  refine does1 (rs := [.cell 2 73, .tmp 3]) rfl rfl fun xs ro h => ?_
  obtain ⟨hs, rfl⟩ := gd_some h
  refine ⟨fun _ => ⟨by simp only [cleanA, cleanL, clean_pgs, Bool.and_self], rfl⟩, ?_⟩
  clear h
  cases hv : vRow xs
  · rw [loadV_f hv]
    simp (config := {maxSteps := 1000000}) (disch := omega) only [go_sem, ↓reduceIte, Nat.reduceEqDiff, Nat.reduceAdd, Nat.reduceMul, Nat.reduceSub, Nat.reduceLeDiff, Nat.reduceLT, Int.reduceToNat, Int.reduceLE, Int.reduceLT, Int.reduceNeg, h_validRow, mValidRow, h_load, mLoad, drP_n, drP_c, logAt_n, logAt_c, disP_n, disP_c, notIn_n, notIn_c, hv]
    try rfl
  · rw [loadV_t hv]
    simp (config := {maxSteps := 1000000}) (disch := omega) only [go_sem, ↓reduceIte, Nat.reduceEqDiff, Nat.reduceAdd, Nat.reduceMul, Nat.reduceSub, Nat.reduceLeDiff, Nat.reduceLT, Int.reduceToNat, Int.reduceLE, Int.reduceLT, Int.reduceNeg, h_validRow, mValidRow, h_load, mLoad, drP_n, drP_c, logAt_n, logAt_c, disP_n, disP_c, notIn_n, notIn_c, hv]
    try rfl
theorem fo_LoadTreeS : FnOk Try.prog 78 := fnOk_of Try.func78 (by kernel_rfl)
theorem c_LoadTreeS : Contract Try.prog 78 mLoadTree :=
  contract_of_does (DT := fun id => match id with  | _ => []) Try.checked.mixed tabOk (gok_model fo_validRow c_validRow (gok_model fo_load c_load gok_nil)) Try.func78 rfl (by kernel_rfl) (does_LoadTreeS rfl rfl)


theorem leafP_tot (r : List Pr) : totP (leafP r) = 2 * r.length := by
  unfold totP leafP
  rw [keysP_len]
  simp
  omega
theorem innL_tot (Q : List (List Pr)) (b : Int) : totP (innL Q b) ≤ 2 * Q.length := by
  unfold totP innL
  simp
  omega
theorem loadV_sm (xs : List Pr) : SmTr (loadV xs).1 := by
  cases hv : vRow xs
  · rw [loadV_f hv]; exact smTr_nil 0
  · rw [loadV_t hv]
    have h24 := vRow_24 hv
    obtain ⟨n1, n6, _⟩ := nLd_bd h24
    have pl := partsL_len xs (nLd xs.length) (nLd xs.length)
    obtain ⟨pm1, _⟩ := parts_mem (xs := xs) (n := nLd xs.length) h24
    show SmTr ⟨0, loadP (partsL xs (nLd xs.length) (nLd xs.length)) (nLd xs.length)⟩
    generalize partsL xs (nLd xs.length) (nLd xs.length) = P at *
    generalize nLd xs.length = n at *
    have hl : (loadP P n).length ≤ 20 := by
      unfold loadP
      split
      · simp; omega
      · split
        · simp; omega
        · simp; omega
    have ht : ∀ p ∈ loadP P n, totP p ≤ 200 := by
      have hleaf : ∀ r ∈ P, totP (leafP r) ≤ 200 := fun r hr => by rw [leafP_tot]; have := pm1 r hr; omega
      have hmap : ∀ Q : List (List Pr), (∀ r ∈ Q, r ∈ P) → ∀ p ∈ Q.map leafP, totP p ≤ 200 := fun Q hQ p hp => by
        obtain ⟨r, hr, rfl⟩ := List.mem_map.1 hp
        exact hleaf r (hQ r hr)
      have hin : ∀ (Q : List (List Pr)) (b : Int), Q.length ≤ 10 → totP (innL Q b) ≤ 200 := fun Q b hQ => by have := innL_tot Q b; omega
      intro p hp
      unfold loadP at hp
      split at hp
      · exact hmap P (fun r hr => hr) p hp
      · split at hp
        · rcases List.mem_cons.1 hp with rfl | hp
          · exact hin P 1 (by omega)
          · exact hmap P (fun r hr => hr) p hp
        · rcases List.mem_cons.1 hp with rfl | hp
          · show 1 + 2 + 0 ≤ 200; omega
          · rcases List.mem_append.1 hp with hp | hp
            · rcases List.mem_cons.1 hp with rfl | hp
              · exact hin _ _ (by rw [List.length_take]; omega)
              · exact hmap _ (fun r hr => List.mem_of_mem_take hr) p hp
            · rcases List.mem_cons.1 hp with rfl | hp
              · exact hin _ _ (by rw [List.length_drop]; omega)
              · exact hmap _ (fun r hr => List.mem_of_mem_drop hr) p hp
    refine ⟨by show (loadP P n).length ≤ 1000; omega, ?_⟩
    have := tot_le ht
    show Go.TM.tot (loadP P n) ≤ 10000
    omega

theorem does_FnExactLoadTree {G : Nat → Option FM} (h_szPairS : G 27 = some (.model mSzPairS)) (h_toPairS : G 29 = some (.model mToPairS)) (h_LoadTreeS : G 78 = some (.model mLoadTree)) (h_LoadTreeI : G 79 = some (.model mLoadTree)) (h_eqTree : G 65 = some (.model mEqTree)) (h_eqPairS : G 31 = some (.model mEqPairS)) (h_markTree : G 80 = some (.each 2 [1] mMarkPageS)) (h_markPairS : G 34 = some (.model mMarkPairS)) (h_heldTree : G 81 = some (.model mHeldTree)) : Does T G (fun id => match id with  | _ => []) Try.f17 mLawRow := by
  refine does1 (rs := [.tmp 2]) rfl rfl fun xs ro h => ?_
  obtain ⟨hs, rfl⟩ := gd_some h
  refine ⟨fun _ => ⟨rfl, rfl⟩, ?_⟩
  have la := loadV_sm xs
  generalize ha : (loadV xs).1 = a at la
  generalize hb' : (loadV xs).2 = b
  simp (config := {maxSteps := 1000000}) (disch := omega) only [go_sem, ↓reduceIte, Nat.reduceEqDiff, Nat.reduceAdd, Nat.reduceMul, Nat.reduceSub, Nat.reduceLeDiff, Nat.reduceLT, Int.reduceToNat, Int.reduceLE, Int.reduceLT, Int.reduceNeg, h_szPairS, mSzPairS, h_toPairS, mToPairS, h_LoadTreeS, mLoadTree, h_LoadTreeI, mLoadTree, h_eqTree, mEqTree, h_eqPairS, mEqPairS, h_markTree, mMarkPageS, h_markPairS, mMarkPairS, h_heldTree, mHeldTree, drP_n, drP_c, logAt_n, logAt_c, disP_n, disP_c, notIn_n, notIn_c]
  by_cases h1 : 1048576 < (xs.length : Int)
  · simp (config := {maxSteps := 1000000}) (disch := omega) only [go_sem, ↓reduceIte, Nat.reduceEqDiff, Nat.reduceAdd, Nat.reduceMul, Nat.reduceSub, Nat.reduceLeDiff, Nat.reduceLT, Int.reduceToNat, Int.reduceLE, Int.reduceLT, Int.reduceNeg, h_szPairS, mSzPairS, h_toPairS, mToPairS, h_LoadTreeS, mLoadTree, h_LoadTreeI, mLoadTree, h_eqTree, mEqTree, h_eqPairS, mEqPairS, h_markTree, mMarkPageS, h_markPairS, mMarkPairS, h_heldTree, mHeldTree, drP_n, drP_c, logAt_n, logAt_c, disP_n, disP_c, notIn_n, notIn_c, h1]
  · have e : ¬ (1048576 - (xs.length : Int)) < 0 := by omega
    have lb := la.sm
    have lc := (la.mark a.root 1).sm
    dsimp only at lc
    have l1 := la.tot
    have l2 := la.len
    have l3 := mkPs_len a.pages 1
    have m0 := marksP_len xs.length 1
    have e1 : decide (1 + 2 * (xs.length : Int) < 0) = false := decide_eq_false (by omega)
    have e3 : decide (1 + (tot a.pages : Int) < 0) = false := decide_eq_false (by omega)
    have hfa := flat_mk a.pages 1
    simp (config := {maxSteps := 1000000}) (disch := omega) only [go_sem, ↓reduceIte, Nat.reduceEqDiff, Nat.reduceAdd, Nat.reduceMul, Nat.reduceSub, Nat.reduceLeDiff, Nat.reduceLT, Int.reduceToNat, Int.reduceLE, Int.reduceLT, Int.reduceNeg, h_szPairS, mSzPairS, h_toPairS, mToPairS, h_LoadTreeS, mLoadTree, h_LoadTreeI, mLoadTree, h_eqTree, mEqTree, h_eqPairS, mEqPairS, h_markTree, mMarkPageS, h_markPairS, mMarkPairS, h_heldTree, mHeldTree, drP_n, drP_c, logAt_n, logAt_c, disP_n, disP_c, notIn_n, notIn_c, h1, e, ha, hb', e1, e3, lb, lc, hfa, sub_mk, mkPs_idem, mkPs_tot, marksP_len, flatPr_len, sub_marksP]
theorem fo_FnExactLoadTree : FnOk Try.prog 17 := fnOk_of Try.func17 (by kernel_rfl)
theorem c_FnExactLoadTree : Contract Try.prog 17 mLawRow :=
  contract_of_does (DT := fun id => match id with  | _ => []) Try.checked.mixed tabOk (gok_model fo_szPairS c_szPairS (gok_model fo_toPairS c_toPairS (gok_model fo_LoadTreeS c_LoadTreeS (gok_model fo_LoadTreeI c_LoadTreeI (gok_model fo_eqTree c_eqTree (gok_model fo_eqPairS c_eqPairS (gok_each fo_markTree c_markTree (gok_model fo_markPairS c_markPairS (gok_model fo_heldTree c_heldTree gok_nil))))))))) Try.func17 rfl (by kernel_rfl) (does_FnExactLoadTree rfl rfl rfl rfl rfl rfl rfl rfl rfl)

theorem fn_FnExactLoadTree (x : List Pr) (h : (∀ y ∈ x, intWf .i64 y.1 ∧ intWf .i64 y.2) ∧ x.length ≤ maxLen) : mLawRow.fn [eRow false x] = some (.b true, []) := by
  have h2 : x.length ≤ 9223372036854775807 := h.2
  simp (config := {maxSteps := 1000000}) (disch := omega) only [go_sem, ↓reduceIte, Nat.reduceEqDiff, Nat.reduceAdd, Nat.reduceMul, Nat.reduceSub, Nat.reduceLeDiff, Nat.reduceLT, Int.reduceToNat, Int.reduceLE, Int.reduceLT, Int.reduceNeg, mLawRow]
end Go.TM
