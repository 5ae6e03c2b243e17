/- Contracts, 60: the reference's tree of pairs. -/
import Derived.Test.YtbpfagbihffmbaaF59
namespace Go.TM
open Go.Proofs
set_option linter.unusedVariables false
set_option linter.unusedSimpArgs false
set_option maxRecDepth 100000
set_option maxHeartbeats 4000000

def mShare : Model := M3 .ro .ro .ro true cI cI cI fun a p i => gd ((0 ≤ a ∧ a ≤ 1000) ∧ (1 ≤ p ∧ p ≤ 1000) ∧ 0 ≤ i ∧ i ≤ 1000) (eI ((a * (i + 1)).tdiv p - (a * i).tdiv p), [])
theorem div_rng {x p : Int} (hx : 0 ≤ x ∧ x ≤ 10000000) (hp : 1 ≤ p) : 0 ≤ x.tdiv p ∧ x.tdiv p ≤ 10000000 := by
  rw [Int.tdiv_eq_ediv_of_nonneg hx.1]
  refine ⟨Int.ediv_nonneg hx.1 (by omega), ?_⟩
  have := Int.ediv_le_self p hx.1
  omega


/-- The keys between some parts. -/
def kz (Q : List (List Pr)) (j : Nat) : List Int := ((Q.take j).drop 1).map key0
theorem kz_len {Q : List (List Pr)} {j : Nat} (h : j ≤ Q.length) : (kz Q j).length = j - 1 := by
  unfold kz
  rw [List.length_map, List.length_drop, List.length_take]
  omega
theorem kz_one (Q : List (List Pr)) {j : Nat} (h : j ≤ 1) : kz Q j = [] := by
  unfold kz
  rw [List.drop_eq_nil_of_le (by rw [List.length_take]; omega)]
  rfl
theorem kz_succ {Q : List (List Pr)} {j : Nat} (h0 : 0 < j) (h : j < Q.length) : kz Q j ++ [key0 (Q.getD j [])] = kz Q (j + 1) := by
  unfold kz
  rw [List.take_succ_eq_append_getElem h, List.drop_append_of_le_length (by rw [List.length_take]; omega), List.map_append]
  simp [h]
theorem inn_kz (Q : List (List Pr)) (b : Int) : innL Q b = ⟨kz Q Q.length, nmK b Q.length, []⟩ := by
  unfold innL kz
  rw [List.take_length]
  rfl
theorem nm_one {b : Int} (k : Nat) {c : Int} (h : c = b + (k : Int)) : nmK b k ++ [c] = nmK b (k + 1) := by rw [h]; exact nmK_succ b k
theorem rng_all3 {R : List Pg} {n : Nat} (h : R.length = n) : rng (R.flatMap (ePg true)) 0 (n * 3) = R.flatMap (ePg true) := by
  unfold rng
  rw [List.drop_zero, take_all3 h]
theorem gone_pg (p : Pg) : (ePg true p).map gone1 = [.und, .und, .und] := rfl
theorem rng_fst {R : List Pg} {n : Nat} : rng (R.flatMap (ePg true)) 0 (n * 3) = (R.take n).flatMap (ePg true) := by
  unfold rng
  rw [List.drop_zero, take_pgs]
theorem rng_gone {R : List Pg} {n m : Nat} (h : R.length = n + m) : rng (goneR (R.flatMap (ePg true)) 0 (n * 3)) (n * 3) (m * 3) = (R.drop n).flatMap (ePg true) := by
  unfold goneR
  rw [List.take_zero, List.nil_append, Nat.zero_add]
  have hl : ((rng (R.flatMap (ePg true)) 0 (n * 3)).map gone1).length = n * 3 := by
    rw [List.length_map, rng_fst, flatPg_len, List.length_take]; omega
  unfold rng at hl ⊢
  rw [List.drop_append_of_le_length (by omega), List.drop_eq_nil_of_le (by omega), List.nil_append, drop_pgs]
  rw [List.take_of_length_le (by rw [flatPg_len, List.length_drop]; omega)]
theorem gone_len {R : List Pg} {n : Nat} (h : n ≤ R.length) : (goneR (R.flatMap (ePg true)) 0 (n * 3)).length = R.length * 3 := by
  unfold goneR
  simp only [List.length_append, List.length_map]
  unfold rng
  simp only [List.length_take, List.length_drop, flatPg_len]
  omega

theorem tr_page {a b c : Nat} {x y : List Int} (ha : a = x.length) (hb : b = y.length) (hc : c = 0) : ([A.s true 1 a (x.map eI), A.s true 1 b (y.map eI), A.s true 1 c []] : List A) = ePg true ⟨x, y, []⟩ := by subst ha; subst hb; subst hc; rfl
theorem tr_eq' {n : Nat} {r : Int} {p : Pg} {ps : List Pg} {a b c : A} (e : [a, b, c] = ePg true p) (h : n = (p :: ps).length) : some (A.agg [.i .i64 r, .s true 3 n (a :: b :: c :: ps.flatMap (ePg true))], ([] : List (List A))) = some (eTr true ⟨r, p :: ps⟩, []) := by
  subst h
  have e2 : a :: b :: c :: ps.flatMap (ePg true) = (p :: ps).flatMap (ePg true) := by
    rw [List.flatMap_cons, ← e]; rfl
  rw [e2]
theorem load_cells {X A' B : Pg} {L1 L2 : List Pg} {h : Nat} {x1 x2 x3 a1 a2 a3 b1 b2 b3 : A} (hl : L1.length = h) (ex : [x1, x2, x3] = ePg true X) (ea : [a1, a2, a3] = ePg true A') (eb : [b1, b2, b3] = ePg true B) :
    List.take ((2 + h + 1) * 3) (List.take ((2 + h) * 3) (x1 :: x2 :: x3 :: a1 :: a2 :: a3 :: L1.flatMap (ePg true)) ++ [b1, b2, b3]) ++ L2.flatMap (ePg true) = (X :: (A' :: (L1 ++ B :: L2))).flatMap (ePg true) := by
  have e1 : x1 :: x2 :: x3 :: a1 :: a2 :: a3 :: L1.flatMap (ePg true) = (X :: A' :: L1).flatMap (ePg true) := by
    rw [List.flatMap_cons, List.flatMap_cons, ← ex, ← ea]; rfl
  rw [e1, take_all3 (by rw [List.length_cons, List.length_cons]; omega), eb]
  have e2 : (X :: A' :: L1).flatMap (ePg true) ++ ePg true B = (X :: A' :: L1 ++ [B]).flatMap (ePg true) := by
    rw [List.flatMap_append]; simp
  rw [e2, take_all3 (by rw [List.length_append, List.length_cons, List.length_cons, List.length_singleton]; omega), ← List.flatMap_append]
  simp
theorem inn_take {P : List (List Pr)} {h : Nat} (hh : h ≤ P.length) (b : Int) : innL (P.take h) b = ⟨kz P h, nmK b h, []⟩ := by
  unfold innL kz nmK
  rw [List.length_take, Nat.min_eq_left hh]
theorem trL_eq {n : Nat} {r : Int} {ps : List Pg} {cs : List A} (e : cs = ps.flatMap (ePg true)) (h : n = ps.length) : some (A.agg [.i .i64 r, .s true 3 n cs], ([] : List (List A))) = some (eTr true ⟨r, ps⟩, []) := by subst e; subst h; rfl
noncomputable def mLoad : Model := M1 .ro true (cRow false) fun xs => gd (vRow xs = true) (eTr true (loadT xs), [])



theorem leafP_tot (r : List Pr) : totP (leafP r) = 2 * r.length := by
  unfold totP leafP
  rw [keysP_len]
  simp
  omega
theorem innL_tot (Q : List (List Pr)) (b : Int) : totP (innL Q b) ≤ 2 * Q.length := by
  unfold totP innL
  simp
  omega
theorem loadV_sm (xs : List Pr) : SmTr (loadV xs).1 := by
  cases hv : vRow xs
  · rw [loadV_f hv]; exact smTr_nil 0
  · rw [loadV_t hv]
    have h24 := vRow_24 hv
    obtain ⟨n1, n6, _⟩ := nLd_bd h24
    have pl := partsL_len xs (nLd xs.length) (nLd xs.length)
    obtain ⟨pm1, _⟩ := parts_mem (xs := xs) (n := nLd xs.length) h24
    show SmTr ⟨0, loadP (partsL xs (nLd xs.length) (nLd xs.length)) (nLd xs.length)⟩
    generalize partsL xs (nLd xs.length) (nLd xs.length) = P at *
    generalize nLd xs.length = n at *
    have hl : (loadP P n).length ≤ 20 := by
      unfold loadP
      split
      · simp; omega
      · split
        · simp; omega
        · simp; omega
    have ht : ∀ p ∈ loadP P n, totP p ≤ 200 := by
      have hleaf : ∀ r ∈ P, totP (leafP r) ≤ 200 := fun r hr => by rw [leafP_tot]; have := pm1 r hr; omega
      have hmap : ∀ Q : List (List Pr), (∀ r ∈ Q, r ∈ P) → ∀ p ∈ Q.map leafP, totP p ≤ 200 := fun Q hQ p hp => by
        obtain ⟨r, hr, rfl⟩ := List.mem_map.1 hp
        exact hleaf r (hQ r hr)
      have hin : ∀ (Q : List (List Pr)) (b : Int), Q.length ≤ 10 → totP (innL Q b) ≤ 200 := fun Q b hQ => by have := innL_tot Q b; omega
      intro p hp
      unfold loadP at hp
      split at hp
      · exact hmap P (fun r hr => hr) p hp
      · split at hp
        · rcases List.mem_cons.1 hp with rfl | hp
          · exact hin P 1 (by omega)
          · exact hmap P (fun r hr => hr) p hp
        · rcases List.mem_cons.1 hp with rfl | hp
          · show 1 + 2 + 0 ≤ 200; omega
          · rcases List.mem_append.1 hp with hp | hp
            · rcases List.mem_cons.1 hp with rfl | hp
              · exact hin _ _ (by rw [List.length_take]; omega)
              · exact hmap _ (fun r hr => List.mem_of_mem_take hr) p hp
            · rcases List.mem_cons.1 hp with rfl | hp
              · exact hin _ _ (by rw [List.length_drop]; omega)
              · exact hmap _ (fun r hr => List.mem_of_mem_drop hr) p hp
    refine ⟨by show (loadP P n).length ≤ 1000; omega, ?_⟩
    have := tot_le ht
    show Go.TM.tot (loadP P n) ≤ 10000
    omega

theorem fn_FnExactLoadTree (x : List Pr) (h : (∀ y ∈ x, intWf .i64 y.1 ∧ intWf .i64 y.2) ∧ x.length ≤ maxLen) : mLawRow.fn [eRow false x] = some (.b true, []) := by
  have h2 : x.length ≤ 9223372036854775807 := h.2
  simp (config := {maxSteps := 1000000}) (disch := omega) only [go_sem, ↓reduceIte, Nat.reduceEqDiff, Nat.reduceAdd, Nat.reduceMul, Nat.reduceSub, Nat.reduceLeDiff, Nat.reduceLT, Int.reduceToNat, Int.reduceLE, Int.reduceLT, Int.reduceNeg, mLawRow]
end Go.TM
