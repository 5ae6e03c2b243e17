/- Contracts, 89: a key is dropped (the program). -/
import Derived.Test.YtbpfagbihffmbaaF92
namespace Go.TM
open Go.Proofs
set_option linter.unusedVariables false
set_option linter.unusedSimpArgs false
set_option maxRecDepth 100000
set_option maxHeartbeats 8000000

noncomputable def dmV (t : Tr) (key : Int) : Tr × Int × Bool := if vTr t = true ∧ key ∈ (pgAt t (leafT t key)).keys then (dropT t key, ((dropM t key).2.length : Nat), true) else (⟨0, []⟩, 0, false)
theorem dmV_t {t : Tr} {key : Int} (h : vTr t = true ∧ key ∈ (pgAt t (leafT t key)).keys) : dmV t key = (dropT t key, (((dropM t key).2.length : Nat) : Int), true) := if_pos h
theorem dmV_f {t : Tr} {key : Int} (h : ¬ (vTr t = true ∧ key ∈ (pgAt t (leafT t key)).keys)) : dmV t key = (⟨0, []⟩, 0, false) := if_neg h
noncomputable def mDropMend : Model := M2 .ro .ro true (cTr false) cI fun t key => gd (smT t.pages = true) (.tup [eTr true (dmV t key).1, eI (dmV t key).2.1, .b (dmV t key).2.2], [])

theorem set18 {x y : A} {gn : List Bool} (h : gn = List.replicate 16 false) : setR 0 [x, .b false, .b false, .b false, .b false, .b false, .b false, .b false, .b false, .b false, .b false, .b false, .b false, .b false, .b false, .b false, .b false, .i .i64 0] [y, .b false, .b false, .b false, .b false, .b false, .b false, .b false, .b false, .b false, .b false, .b false, .b false, .b false, .b false, .b false, .b false, .i .i64 0] = x :: tlPc gn 0 := by
  subst h
  rfl

theorem does_dropMend {G : Nat → Option FM} (h_ValidTreeI : G 66 = some (.model mValidTree)) (h_PathToI : G 72 = some (.model mPathTo)) (h_pairsOfLeaf : G 75 = some (.model mRowOf)) (h_DropPairI : G 112 = some (.model mDropPair)) (h_copyTreeI : G 67 = some (.model mCopyTree)) (h_leafOfI : G 73 = some (.model mLeafOf)) (h_mend : G 113 = some (.model mMend)) (h_wog : G 114 = some (.model mWog)) : Does2 T G (fun id => match id with | 9 => [(4, 0), (4, 1)] | 18 => [(1, 2), (1, 3), (4, 2), (4, 3)] | _ => []) 18 Try.f61 mDropMend := by
  refine does2X (rs := [.cell 4 28, .tmp 5, .tmp 6]) rfl rfl fun t key ro h => ?_
  obtain ⟨hs, rfl⟩ := gd_some h
  refine ⟨fun _ => ⟨by simp only [cleanA, cleanL, clean_pgs, Bool.and_self], rfl⟩, ?_⟩
  clear h
  cases hv : vTr t
  · rw [dmV_f (by rw [hv]; simp)]
    simp (config := {maxSteps := 1000000}) (disch := omega) only [go_sem, ↓reduceIte, Nat.reduceEqDiff, Nat.reduceAdd, Nat.reduceMul, Nat.reduceSub, Nat.reduceLeDiff, Nat.reduceLT, Int.reduceToNat, Int.reduceLE, Int.reduceLT, Int.reduceNeg, h_ValidTreeI, mValidTree, h_PathToI, mPathTo, h_pairsOfLeaf, mRowOf, h_DropPairI, mDropPair, h_copyTreeI, mCopyTree, h_leafOfI, mLeafOf, h_mend, mMend, h_wog, mWog, drP_n, drP_c, logAt_n, logAt_c, disP_n, disP_c, notIn_n, notIn_c, hs, hv]
    try rfl
  · have tv := vTr_iff.1 hv
    have ep := ptV_t (key := key) hv
    have pl := pathF_len t key (htT t) t.root
    have hl := pathF_last t key (htT t) t.root
    have h2 := tv.ht
    have pd := leafF_pd (key := key) tv.pd
    have lf := pd.leaf
    have hJ0 := dropJ_start tv key
    have e0 : ((htT t + 1 : Nat) : Int) - 1 = htT t := by omega
    have hvr := leaf_vR lf
    obtain ⟨y0, hy0⟩ : ∃ y0 : Nat, leafF t key (htT t) t.root = y0 := ⟨(leafF t key (htT t) t.root).toNat, by have := pd.rng; omega⟩
    rw [hy0, pgAt_nat] at hvr
    have hu0 : (dropL t key).pages = t.pages.set y0 (leafP (remP (prP (t.pages.getD y0 default)) key)) := by
      show t.pages.set (leafF t key (htT t) t.root).toNat (leafP (remP (prP (pgAt t (leafF t key (htT t) t.root))) key)) = _
      rw [hy0, pgAt_nat, Int.toNat_natCast]
    have hlast : (pathF t key (htT t) t.root).getD (htT t) 0 = y0 := by rw [hl, hy0]
    have hlt : leafT t key = y0 := hy0
    rw [hy0] at pd lf
    have hr0 := pd.rng
    have ll0 := lf.len
    have lv0 := lf.vals
    rw [pgAt_nat] at ll0 lv0
    have hpl0 := prP_len (t.pages.getD y0 default)
    have hts := tr_small hs y0
    rw [pgAt_nat] at hts
    by_cases hk : key ∈ (pgAt t (leafT t key)).keys
    · rw [dmV_t ⟨hv, hk⟩]
      rw [hlt, pgAt_nat] at hk
      have hdv : dropV (prP (t.pages.getD y0 default)) key = (remP (prP (t.pages.getD y0 default)) key, true) := dropV_t hvr (by rw [prP_keys]; exact hk)
      have hrl := (remP_sub (prP (t.pages.getD y0 default)) key).length_le
      generalize hP : t.pages.getD y0 default = P at *
      generalize hw : pathF t key (htT t) t.root = w at *
      generalize hR : remP (prP P) key = R at *
      generalize hL : leafP R = L at *
      have hgoal : dropUp w (htT t) (dropL t key) [] = dropM t key := by unfold dropM; rw [hw]
      obtain ⟨gn0, hgn0⟩ : ∃ gn, gn = List.replicate 16 false := ⟨_, rfl⟩
      have h18 := fun x y => set18 (x := x) (y := y) hgn0
      have hgl0 : gn0.length = 16 := by rw [hgn0]; rfl
      have tlc := tlPc_len (ld := 0) hgl0
      simp (config := {maxSteps := 1000000}) (disch := omega) only [go_sem, ↓reduceIte, Nat.reduceEqDiff, Nat.reduceAdd, Nat.reduceMul, Nat.reduceSub, Nat.reduceLeDiff, Nat.reduceLT, Int.reduceToNat, Int.reduceLE, Int.reduceLT, Int.reduceNeg, h_ValidTreeI, mValidTree, h_PathToI, mPathTo, h_pairsOfLeaf, mRowOf, h_DropPairI, mDropPair, h_copyTreeI, mCopyTree, h_leafOfI, mLeafOf, h_mend, mMend, h_wog, mWog, drP_n, drP_c, logAt_n, logAt_c, disP_n, disP_c, notIn_n, notIn_c, hs, hv, ep, pl, e0, hlast, hw, hP, hdv, hL, ePg, set_pgp, h18, tlc]
      refine W_cutF (fun s => s.sl 2 = .ptr (3, 0) [] 0 0 ∧ s.hp (3, 0) = some ⟨2, 1, [eI t.root, ePgs false t.pages], fun _ => 0⟩ ∧ s.sl 4 = .ptr (4, 0) [] 0 0 ∧ s.hp (4, 0) = some ⟨2, 1, [eI 0, .s true 3 0 []], fun _ => 0⟩ ∧ s.sl 11 = .ptr (40, 0) [] 0 0 ∧ 40 < s.n ∧ ∃ (i : Nat) (u : Tr) (g : List Int) (gn : List Bool), DropJ t key i u g ∧ dropM t key = (u, g) ∧ gn.length = 16 ∧ MarkOf gn g u.pages.length ∧ ∃ v, s.hp (40, 0) = some ⟨18, 1, .s true 3 u.pages.length (u.pages.flatMap (ePg true)) :: tlPc gn g.length, v⟩) ?_ ?_
      · refine W_loop_i (fun s => s.sl 2 = .ptr (3, 0) [] 0 0 ∧ s.hp (3, 0) = some ⟨2, 1, [eI t.root, ePgs false t.pages], fun _ => 0⟩ ∧ s.sl 4 = .ptr (4, 0) [] 0 0 ∧ s.hp (4, 0) = some ⟨2, 1, [eI 0, .s true 3 0 []], fun _ => 0⟩ ∧ s.sl 11 = .ptr (40, 0) [] 0 0 ∧ 40 < s.n ∧ s.sl 7 = .ref (12, 0) [] 0 0 1 (htT t + 1) ∧ s.hp (12, 0) = some ⟨1, htT t + 1, w.map eI, fun _ => 0⟩ ∧ ∃ (i : Nat) (u : Tr) (g : List Int) (gn : List Bool), DropJ t key i u g ∧ dropUp w i u g = dropM t key ∧ s.sl 12 = eI i ∧ gn.length = 16 ∧ MarkOf gn g u.pages.length ∧ ∃ v, s.hp (40, 0) = some ⟨18, 1, .s true 3 u.pages.length (u.pages.flatMap (ePg true)) :: tlPc gn g.length, v⟩) (fun s => iN (s.sl 12)) ?_ ?_
        · refine ⟨rfl, rfl, rfl, rfl, rfl, by dsimp only [St.n]; omega, rfl, rfl, htT t, dropL t key, [], gn0, hJ0, hgoal, rfl, hgl0, by rw [hgn0]; exact MarkOf.nil _, ?_⟩
          rw [hu0, show (t.pages.set y0 L).length = t.pages.length from List.length_set]
          exact ⟨_, rfl⟩
        · rintro sl hp q ⟨j2, jh3, j4, jh4, j11, jq, j7, jh12, i, u, g, gn, hJ, heq, j12, hgl, hmk, v, jhm⟩
          dsimp only at j2 jh3 j4 jh4 j11 jq j7 jh12 j12 jhm
          have hil := hJ.inv.il
          have hsm := (hJ.smT tv).sm
          have hlen := hJ.inv.len
          have htl := tv.len
          have tlc := tlPc_len (sn := gn) (ld := (g.length : Nat)) hgl
          cases i with
          | zero =>
            have g1 : decide ((0 : Int) < ((0 : Nat) : Int)) = false := rfl
            simp (config := {maxSteps := 1000000}) (disch := omega) only [go_sem, ↓reduceIte, Nat.reduceEqDiff, Nat.reduceAdd, Nat.reduceMul, Nat.reduceSub, Nat.reduceLeDiff, Nat.reduceLT, Int.reduceToNat, Int.reduceLE, Int.reduceLT, Int.reduceNeg, h_ValidTreeI, mValidTree, h_PathToI, mPathTo, h_pairsOfLeaf, mRowOf, h_DropPairI, mDropPair, h_copyTreeI, mCopyTree, h_leafOfI, mLeafOf, h_mend, mMend, h_wog, mWog, drP_n, drP_c, logAt_n, logAt_c, disP_n, disP_c, notIn_n, notIn_c, j2, jh3, j4, jh4, j11, j7, jh12, j12, jhm, g1, tlc]
            exact ⟨0, u, g, gn, hJ, heq.symm, hgl, hmk, v, rfl⟩
          | succ i =>
            have g1 : decide ((0 : Int) < ((i + 1 : Nat) : Int)) = true := decide_eq_true (by omega)
            have e10 : ((i + 1 : Nat) : Int) - 1 = i := by omega
            have hxr := (pathF_pd (key := key) tv.pd (i + 1) hil).rng
            rw [hw] at hxr
            obtain ⟨x, hx⟩ : ∃ x : Nat, w.getD (i + 1) 0 = x := ⟨(w.getD (i + 1) 0).toNat, by omega⟩
            rw [hx] at hxr
            have hpx := pgAt_nat u x
            by_cases h4 : 2 ≤ (u.pages.getD x default).keys.length
            · have e4 : decide (((u.pages.getD x default).keys.length : Int) < 2) = false := decide_eq_false (by omega)
              have heq' : dropM t key = (u, g) := by
                rw [← heq]
                simp only [dropUp]
                rw [hx, hpx, if_pos h4]
              generalize hQ : u.pages.getD x default = Q at *
              simp (config := {maxSteps := 1000000}) (disch := omega) only [go_sem, ↓reduceIte, Nat.reduceEqDiff, Nat.reduceAdd, Nat.reduceMul, Nat.reduceSub, Nat.reduceLeDiff, Nat.reduceLT, Int.reduceToNat, Int.reduceLE, Int.reduceLT, Int.reduceNeg, h_ValidTreeI, mValidTree, h_PathToI, mPathTo, h_pairsOfLeaf, mRowOf, h_DropPairI, mDropPair, h_copyTreeI, mCopyTree, h_leafOfI, mLeafOf, h_mend, mMend, h_wog, mWog, drP_n, drP_c, logAt_n, logAt_c, disP_n, disP_c, notIn_n, notIn_c, j2, jh3, j4, jh4, j11, j7, jh12, j12, jhm, g1, hx, hQ, ePg, e4, tlc]
              exact ⟨i + 1, u, g, gn, hJ, heq', hgl, hmk, v, rfl⟩
            · have e4 : decide (((u.pages.getD x default).keys.length : Int) < 2) = true := decide_eq_true (by omega)
              obtain ⟨⟨y0', y1'⟩, hix, ⟨n1, n2, n3⟩, htw, hnx⟩ := drop_step tv hJ.inv _ _ _ _ _ _ rfl rfl rfl rfl rfl rfl
              rw [hw, hx] at hix n1 n2 n3 htw hnx
              rw [hw] at y0' y1'
              obtain ⟨y, hy⟩ : ∃ y : Nat, w.getD i 0 = y := ⟨(w.getD i 0).toNat, by omega⟩
              rw [hy] at hix n1 n2 n3 htw hnx y0' y1'
              have hgb := hJ.inv.gl tv
              have hsmy : SmQ (pgAt u (y : Int)) := hJ.sm _ (by
                unfold pgAt
                rw [List.getD_eq_getElem?_getD, List.getElem?_eq_getElem (by omega)]
                exact List.getElem_mem _)
              have hsmn := mendF_smQ hJ.sm hsmy htw
              obtain ⟨ur, us⟩ := u
              have hmo : MdOk ⟨us, gn, (g.length : Nat)⟩ (y : Int) (x : Int) := ⟨hsm, hgl, by show us.length ≤ 16; dsimp only at hlen; omega, ⟨y0', y1'⟩, hix, ⟨n1, n2, n3⟩, ⟨_, Two.r htw⟩, by dsimp only; omega⟩
              dsimp only at hsm hlen hxr y1' hmk jhm hpx h4 e4
              have hdu : dropUp w (i + 1) ⟨ur, us⟩ g = dropUp w i (mendF ⟨ur, us⟩ y ((pgAt ⟨ur, us⟩ (y : Int)).kids.idxOf (x : Int) - 1)).1 (g ++ (mendF ⟨ur, us⟩ y ((pgAt ⟨ur, us⟩ (y : Int)).kids.idxOf (x : Int) - 1)).2.toList) := by
                simp only [dropUp]
                rw [hx, hpx, if_neg h4, hy]
              rw [hdu] at heq
              rw [mendF_r] at heq hnx hsmn
              obtain ⟨c, hc⟩ : ∃ c, (pgAt ⟨ur, us⟩ (y : Int)).kids.idxOf (x : Int) - 1 = c := ⟨_, rfl⟩
              have hc0 : (pgAt ⟨0, us⟩ (y : Int)).kids.idxOf (x : Int) - 1 = c := hc
              rw [hc] at heq hnx hsmn
              obtain ⟨M, hM⟩ : ∃ M, mendF ⟨0, us⟩ (y : Int) c = M := ⟨_, rfl⟩
              rw [hM] at heq hnx hsmn
              obtain ⟨⟨mr, mp⟩, mo⟩ := M
              dsimp only at heq hnx hsmn
              have hnl := hnx.len
              dsimp only at hnl
              generalize hQ : us.getD x default = Q at *
              cases mo with
              | none =>
                have hmv : mdV ⟨us, gn, (g.length : Nat)⟩ (y : Int) c = ⟨mp, gn, (g.length : Nat)⟩ := by unfold mdV; rw [hM]
                rw [show (none : Option Int).toList = [] from rfl, List.append_nil] at heq hnx
                simp (config := {maxSteps := 1000000}) (disch := omega) only [go_sem, ↓reduceIte, Nat.reduceEqDiff, Nat.reduceAdd, Nat.reduceMul, Nat.reduceSub, Nat.reduceLeDiff, Nat.reduceLT, Int.reduceToNat, Int.reduceLE, Int.reduceLT, Int.reduceNeg, h_ValidTreeI, mValidTree, h_PathToI, mPathTo, h_pairsOfLeaf, mRowOf, h_DropPairI, mDropPair, h_copyTreeI, mCopyTree, h_leafOfI, mLeafOf, h_mend, mMend, h_wog, mWog, drP_n, drP_c, logAt_n, logAt_c, disP_n, disP_c, notIn_n, notIn_c, j2, jh3, j4, jh4, j11, j7, jh12, j12, jhm, g1, e10, hx, hy, hQ, ePg, e4, tlc, hmo, hc0, hmv, csMd]
                exact ⟨⟨i, ⟨ur, mp⟩, g, gn, ⟨hnx, hsmn⟩, heq, rfl, hgl, by show MarkOf gn g mp.length; rw [hnl, ← hlen]; exact hmk, _, rfl⟩, by omega⟩
              | some z =>
                have hz : 0 ≤ z ∧ z < t.pages.length := by
                  obtain ⟨j, _, j2, j3⟩ := hnx.gm z (by simp)
                  exact tv.kids _ z j3
                have hmv : mdV ⟨us, gn, (g.length : Nat)⟩ (y : Int) c = ⟨mp, gn.set z.toNat true, (g.length : Nat) + 1⟩ := by unfold mdV; rw [hM]
                have hgl2 : (gn.set z.toNat true).length = 16 := by rw [List.length_set, hgl]
                have hmk2 := hmk.add (b := z) hz.1 (by omega)
                have tlc2 := tlPc_len (sn := gn.set z.toNat true) (ld := (g.length : Nat) + 1) hgl2
                have hga : (g ++ [z]).length = g.length + 1 := List.length_append
                rw [show (some z : Option Int).toList = [z] from rfl] at heq hnx
                generalize gn.set z.toNat true = gn2 at *
                simp (config := {maxSteps := 1000000}) (disch := omega) only [go_sem, ↓reduceIte, Nat.reduceEqDiff, Nat.reduceAdd, Nat.reduceMul, Nat.reduceSub, Nat.reduceLeDiff, Nat.reduceLT, Int.reduceToNat, Int.reduceLE, Int.reduceLT, Int.reduceNeg, h_ValidTreeI, mValidTree, h_PathToI, mPathTo, h_pairsOfLeaf, mRowOf, h_DropPairI, mDropPair, h_copyTreeI, mCopyTree, h_leafOfI, mLeafOf, h_mend, mMend, h_wog, mWog, drP_n, drP_c, logAt_n, logAt_c, disP_n, disP_c, notIn_n, notIn_c, j2, jh3, j4, jh4, j11, j7, jh12, j12, jhm, g1, e10, hx, hy, hQ, ePg, e4, tlc, hmo, hc0, hmv, csMd, tlc2]
                exact ⟨⟨i, ⟨ur, mp⟩, g ++ [z], gn2, ⟨hnx, hsmn⟩, heq, rfl, hgl2, by show MarkOf gn2 (g ++ [z]) mp.length; rw [hnl, ← hlen]; exact hmk2, _, by rw [hga]; rfl⟩, by omega⟩
      · rintro sl hp q ⟨j2, jh3, j4, jh4, j11, jq, i, u, g, gn, hJ, heq, hgl, hmk, v, jhm⟩
        dsimp only at j2 jh3 j4 jh4 j11 jq jhm
        refine W2_cut2 (fun s => s.sl 4 = .ptr (4, 0) [] 0 0 ∧ s.hp (4, 0) = some ⟨2, 1, [eI 0, .s true 3 0 []], fun _ => 0⟩ ∧ s.sl 11 = .ptr (40, 0) [] 0 0 ∧ 40 < s.n ∧ ∃ (r : Nat) (us : List Pg) (gn : List Bool), s.sl 13 = eI r ∧ (smT us = true ∧ gn.length = 16 ∧ us.length ≤ 16 ∧ r < us.length ∧ kidsN us = true) ∧ (⟨numM gn r, wogP us gn us.length⟩ : Tr) = dropT t key ∧ ∃ v, s.hp (40, 0) = some ⟨18, 1, .s true 3 us.length (us.flatMap (ePg true)) :: tlPc gn (dropM t key).2.length, v⟩) ?_ ?_
        · have hro := root_one tv hJ.inv
          have hdT : dropT t key = wog (dropR (u, g)).1 (dropR (u, g)).2 := by unfold dropT; rw [heq]
          have hdm : (dropM t key).2 = g := by rw [heq]
          have hlen := hJ.inv.len
          have hroot := hJ.inv.root
          have hkd := hJ.inv.kids
          have htr := tv.root
          have htl := tv.len
          have hgb := hJ.inv.gl tv
          have hsm := (hJ.smT tv).sm
          obtain ⟨ur, us⟩ := u
          dsimp only at hlen hroot jhm hsm hmk hkd
          obtain ⟨rn, rfl⟩ : ∃ n : Nat, ur = n := ⟨ur.toNat, by omega⟩
          have hkn : kidsN us = true := by
            unfold kidsN
            rw [List.all_eq_true]
            intro p hp
            rw [List.all_eq_true]
            intro k hk
            obtain ⟨n, hn, rfl⟩ := List.getElem_of_mem hp
            have := hkd n k (by simpa [pgAt, hn] using hk)
            exact inR_iff.2 (by omega)
          have hpu : pgAt ⟨rn, us⟩ (rn : Int) = us.getD rn default := pgAt_nat _ rn
          have hsr := tr_small (t := ⟨rn, us⟩) hsm rn
          have hkr := hkd rn
          dsimp only at hro
          rw [hpu] at hsr hro hkr
          dsimp only at hsr
          have tlc := tlPc_len (sn := gn) (ld := (g.length : Nat)) hgl
          have hrn : t.root = rn := hroot.symm
          rw [hdm, hdT]
          by_cases h1 : (us.getD rn default).kids.length = 1
          · obtain ⟨h3, h4⟩ := hro.1.1 h1
            have hd : dropR (⟨rn, us⟩, g) = (⟨(us.getD rn default).kids.getD 0 0, us⟩, g ++ [(rn : Int)]) := by
              rw [← hpu] at h1 ⊢
              exact if_pos h1
            have e1 : decide (0 < ((us.getD rn default).kids.length : Int)) = true := decide_eq_true (by omega)
            have e2 : decide (((us.getD rn default).keys.length : Int) = 0) = true := decide_eq_true (by omega)
            have hk0 := hkr _ (getD_mem h3)
            have hgl2 : (gn.set rn true).length = 16 := by rw [List.length_set, hgl]
            have hmk2 := hmk.add (b := rn) (by omega) (by rw [Int.toNat_natCast]; omega)
            rw [Int.toNat_natCast] at hmk2
            have hms := md_set (x := .s true 3 us.length (us.flatMap (ePg true))) (gn := gn) (js := (g.length : Nat)) (y := rn) (v := true) (by omega)
            have hwq := wogP_eq (u := ⟨(us.getD rn default).kids.getD 0 0, us⟩) hmk2 (by dsimp only; omega) (fun y k hk => by have := hkd y k hk; dsimp only; omega)
            rw [hd, ← hwq]
            dsimp only
            generalize gn.set rn true = gn2 at *
            obtain ⟨kn, hkn0⟩ : ∃ n : Nat, (us.getD rn default).kids.getD 0 0 = n := ⟨((us.getD rn default).kids.getD 0 0).toNat, by omega⟩
            rw [hkn0] at hk0 ⊢
            have tlc2 := tlPc_len (sn := gn2) (ld := (g.length : Nat)) hgl2
            generalize hU : us.getD rn default = U at *
            simp (config := {maxSteps := 1000000}) (disch := omega) only [go_sem, ↓reduceIte, Nat.reduceEqDiff, Nat.reduceAdd, Nat.reduceMul, Nat.reduceSub, Nat.reduceLeDiff, Nat.reduceLT, Int.reduceToNat, Int.reduceLE, Int.reduceLT, Int.reduceNeg, h_ValidTreeI, mValidTree, h_PathToI, mPathTo, h_pairsOfLeaf, mRowOf, h_DropPairI, mDropPair, h_copyTreeI, mCopyTree, h_leafOfI, mLeafOf, h_mend, mMend, h_wog, mWog, drP_n, drP_c, logAt_n, logAt_c, disP_n, disP_c, notIn_n, notIn_c, j2, jh3, j4, jh4, j11, jhm, hU, ePg, e1, e2, hrn, tlc, tlc2, hms, hkn0]
            exact ⟨kn, us, gn2, rfl, ⟨hsm, hgl2, by omega, by omega, hkn⟩, rfl, v, rfl⟩
          · have hd : dropR (⟨rn, us⟩, g) = (⟨rn, us⟩, g) := by
              rw [← hpu] at h1
              exact if_neg h1
            have hwq := wogP_eq (u := ⟨rn, us⟩) hmk (by dsimp only; omega) (fun y k hk => by have := hkd y k hk; dsimp only; omega)
            rw [hd, ← hwq]
            dsimp only
            by_cases h3 : 0 < (us.getD rn default).kids.length
            · have h4 : ¬ (us.getD rn default).keys.length = 0 := fun h => h1 (hro.1.2 ⟨h3, h⟩)
              have e1 : decide (0 < ((us.getD rn default).kids.length : Int)) = true := decide_eq_true (by omega)
              have e2 : decide (((us.getD rn default).keys.length : Int) = 0) = false := decide_eq_false (by omega)
              generalize hU : us.getD rn default = U at *
              simp (config := {maxSteps := 1000000}) (disch := omega) only [go_sem, ↓reduceIte, Nat.reduceEqDiff, Nat.reduceAdd, Nat.reduceMul, Nat.reduceSub, Nat.reduceLeDiff, Nat.reduceLT, Int.reduceToNat, Int.reduceLE, Int.reduceLT, Int.reduceNeg, h_ValidTreeI, mValidTree, h_PathToI, mPathTo, h_pairsOfLeaf, mRowOf, h_DropPairI, mDropPair, h_copyTreeI, mCopyTree, h_leafOfI, mLeafOf, h_mend, mMend, h_wog, mWog, drP_n, drP_c, logAt_n, logAt_c, disP_n, disP_c, notIn_n, notIn_c, j2, jh3, j4, jh4, j11, jhm, hU, ePg, e1, e2, hrn, tlc]
              exact ⟨rn, us, gn, rfl, ⟨hsm, hgl, by omega, by omega, hkn⟩, rfl, v, rfl⟩
            · have e1 : decide (0 < ((us.getD rn default).kids.length : Int)) = false := decide_eq_false (by omega)
              generalize hU : us.getD rn default = U at *
              simp (config := {maxSteps := 1000000}) (disch := omega) only [go_sem, ↓reduceIte, Nat.reduceEqDiff, Nat.reduceAdd, Nat.reduceMul, Nat.reduceSub, Nat.reduceLeDiff, Nat.reduceLT, Int.reduceToNat, Int.reduceLE, Int.reduceLT, Int.reduceNeg, h_ValidTreeI, mValidTree, h_PathToI, mPathTo, h_pairsOfLeaf, mRowOf, h_DropPairI, mDropPair, h_copyTreeI, mCopyTree, h_leafOfI, mLeafOf, h_mend, mMend, h_wog, mWog, drP_n, drP_c, logAt_n, logAt_c, disP_n, disP_c, notIn_n, notIn_c, j2, jh3, j4, jh4, j11, jhm, hU, ePg, e1, hrn, tlc]
              exact ⟨rn, us, gn, rfl, ⟨hsm, hgl, by omega, by omega, hkn⟩, rfl, v, rfl⟩
        · clear hJ heq j2 jh3 j4 jh4 j11 jq hgl hmk jhm
          clear v gn g u i sl hp q
          rintro sl hp q ⟨j4, jh4, j11, jq, r, us, gn, j13, ⟨hsm, hgl, hul, hrl, hkn⟩, hF, v, jhm⟩
          dsimp only at j4 jh4 j11 jq j13 jhm
          generalize (dropM t key).2.length = jn at *
          have tlc := tlPc_len (sn := gn) (ld := (jn : Nat)) hgl
          have m17 := fun x => md_get17 (x := x) (js := (jn : Nat)) hgl
          rw [← hF, W2_seq, WX_reg_x]
          refine AnyO_of (L := [[0, 1, 2, 3, 4, 5, 6], [0, 1, 2, 4, 3, 5, 6], [0, 1, 4, 2, 3, 5, 6], [0, 2, 1, 3, 4, 5, 6], [0, 2, 1, 4, 3, 5, 6], [0, 2, 3, 1, 4, 5, 6], [2, 0, 1, 3, 4, 5, 6], [2, 0, 1, 4, 3, 5, 6], [2, 0, 3, 1, 4, 5, 6], [2, 3, 0, 1, 4, 5, 6]]) (by kernel_rfl) ?_
          intro o ho
          simp only [List.mem_cons, List.not_mem_nil, or_false] at ho
          rcases ho with rfl | rfl | rfl | rfl | rfl | rfl | rfl | rfl | rfl | rfl
          all_goals simp only [numd, List.map_cons, List.map_nil, List.getD_cons_succ, List.getD_cons_zero]
          all_goals simp (config := {maxSteps := 1000000}) (disch := omega) only [go_sem, ↓reduceIte, Nat.reduceEqDiff, Nat.reduceAdd, Nat.reduceMul, Nat.reduceSub, Nat.reduceLeDiff, Nat.reduceLT, Int.reduceToNat, Int.reduceLE, Int.reduceLT, Int.reduceNeg, h_ValidTreeI, mValidTree, h_PathToI, mPathTo, h_pairsOfLeaf, mRowOf, h_DropPairI, mDropPair, h_copyTreeI, mCopyTree, h_leafOfI, mLeafOf, h_mend, mMend, h_wog, mWog, drP_n, drP_c, logAt_n, logAt_c, disP_n, disP_c, notIn_n, notIn_c, j4, jh4, j11, jhm, j13, tlc, hsm, hkn, csMd, m17]
    · rw [dmV_f (fun h => hk h.2)]
      rw [hlt, pgAt_nat] at hk
      have hdv : dropV (prP (t.pages.getD y0 default)) key = ([], false) := dropV_f (fun h => hk (by rw [prP_keys] at h; exact h.2))
      generalize hP : t.pages.getD y0 default = P at *
      generalize hw : pathF t key (htT t) t.root = w at *
      simp (config := {maxSteps := 1000000}) (disch := omega) only [go_sem, ↓reduceIte, Nat.reduceEqDiff, Nat.reduceAdd, Nat.reduceMul, Nat.reduceSub, Nat.reduceLeDiff, Nat.reduceLT, Int.reduceToNat, Int.reduceLE, Int.reduceLT, Int.reduceNeg, h_ValidTreeI, mValidTree, h_PathToI, mPathTo, h_pairsOfLeaf, mRowOf, h_DropPairI, mDropPair, h_copyTreeI, mCopyTree, h_leafOfI, mLeafOf, h_mend, mMend, h_wog, mWog, drP_n, drP_c, logAt_n, logAt_c, disP_n, disP_c, notIn_n, notIn_c, hs, hv, ep, pl, e0, hlast, hw, hP, hdv, ePg, set_pgp]
      try rfl
theorem fo_dropMend : FnOk Try.prog 61 := fnOk_of Try.func61 (by kernel_rfl)
theorem c_dropMend : Contract Try.prog 61 mDropMend :=
  contract_of_does2 (DT := fun id => match id with | 9 => [(4, 0), (4, 1)] | 18 => [(1, 2), (1, 3), (4, 2), (4, 3)] | _ => []) (X := 18) Try.checked.mixed tabOk (gok_model fo_ValidTreeI c_ValidTreeI (gok_model fo_PathToI c_PathToI (gok_model fo_pairsOfLeaf c_pairsOfLeaf (gok_model fo_DropPairI c_DropPairI (gok_model fo_copyTreeI c_copyTreeI (gok_model fo_leafOfI c_leafOfI (gok_model fo_mend c_mend (gok_model fo_wog c_wog gok_nil)))))))) Try.func61 rfl (by kernel_rfl) (does_dropMend rfl rfl rfl rfl rfl rfl rfl rfl)

end Go.TM
