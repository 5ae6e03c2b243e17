/- Contracts, 68: a pair is put into a tree: the reference's side. -/
import Derived.Test.YtbpfagbihffmbaaF67
namespace Go.TM
open Go.Proofs
set_option linter.unusedVariables false
set_option linter.unusedSimpArgs false
set_option maxRecDepth 100000
set_option maxHeartbeats 8000000

theorem app_pgB {R : List Pg} {k : Nat} {x y : List Int} (h : R.length = k) : (R.flatMap (ePg true)).take (k * 3) ++ [A.s true 1 x.length (x.map eI), A.s true 1 y.length (y.map eI), A.s true 1 0 []] = (R ++ [(⟨x, y, []⟩ : Pg)]).flatMap (ePg true) :=
  app_pg (x := x) (y := y) (z := []) ⟨h, rfl, rfl, rfl⟩
theorem set_pgB {ps : List Pg} {k : Nat} {x y : List Int} (h : k < ps.length) : setR (k * 3) [.s true 1 x.length (x.map eI), .s true 1 y.length (y.map eI), .s true 1 0 []] (ps.flatMap (ePg true)) = (ps.set k ⟨x, y, []⟩).flatMap (ePg true) := set_pg' (z := []) h rfl rfl rfl
theorem trP_eq {m : Nat} {x r : Int} {ps : List Pg} (h1 : x = r) (h2 : m = ps.length) : some (A.agg [A.i .i64 x, A.s true 3 m (ps.flatMap (ePg true))], ([] : List (List A))) = some (eTr true ⟨r, ps⟩, []) := by subst h1; subst h2; rfl
noncomputable def mPutTree : Model := M2 .ro .ro true (cTr false) cPair fun t x => gd (smT t.pages = true ∧ vTr t = true ∧ inR x.1 0 99 = true ∧ inR x.2 (-1000) 1000 = true) (eTr true (putT t x), [])

theorem does_putTree {G : Nat → Option FM} (h_copyTreeS : G 65 = some (.model mCopyTree)) (h_pathTo : G 87 = some (.model mPath)) (h_rowOf : G 96 = some (.model mRowOf)) (h_put : G 119 = some (.model mPut)) (h_leafOfS : G 107 = some (.model mLeafOf)) (h_SplitRowS : G 120 = some (.model mSplitRow)) (h_insideSA : G 122 = some (.alias [3] [.arg 0 0, .arg 0 1])) (h_splitInner : G 121 = some (.model mHalf)) (h_innerOfS : G 123 = some (.alias [2] [.arg 0 0, .arg 0 1, .empty 1])) (h_placeOf : G 109 = some (.model mPlaceOf)) (h_addKid : G 124 = some (.model mAddAt)) : Does T G (fun id => match id with | 4 => [(8, 9)] | 5 => [(7, 0), (7, 1), (7, 4), (7, 5)] | 12 => [(7, 0), (7, 1), (7, 4), (7, 5)] | 13 => [(3, 0), (3, 1), (4, 0), (4, 1)] | 14 => [(14, 0), (14, 1), (14, 4), (14, 5), (14, 6), (14, 7), (8, 14), (14, 8), (9, 14), (14, 9), (15, 0), (15, 1), (15, 4), (15, 5), (15, 6), (15, 7), (8, 15), (15, 8), (9, 15), (15, 9), (14, 15), (15, 14)] | 16 => [(7, 0), (7, 1), (7, 4), (7, 5)] | 17 => [(3, 0), (3, 1), (4, 0), (4, 1)] | 19 => [(3, 0), (3, 1), (3, 5), (3, 6), (8, 0), (8, 1), (3, 8), (8, 3), (10, 0), (10, 1), (11, 0), (11, 1)] | 23 => [(8, 0), (8, 1), (8, 9), (8, 10), (8, 12), (8, 13), (8, 14), (8, 17), (8, 18), (19, 0), (19, 1), (22, 0), (22, 1), (23, 0), (23, 1)] | _ => []) Try.f70 mPutTree := by
  refine does2 (rs := [.cell 4 28]) rfl rfl fun t x ro h => ?_
  obtain ⟨⟨hs, hv, ha, hb⟩, rfl⟩ := gd_some h
  refine ⟨fun _ => ⟨by simp only [cleanA, cleanL, clean_pgs, Bool.and_self], rfl⟩, ?_⟩
  clear h
  obtain ⟨a, b⟩ := x
  have ha' := inR_iff.1 ha
  have hb' := inR_iff.1 hb
  have tv := vTr_iff.1 hv
  have ep := ptV_t (key := a) hv
  have pl := pathF_len t a (htT t) t.root
  have hl := pathF_last t a (htT t) t.root
  have h2 := tv.ht
  have pd := leafF_pd (key := a) tv.pd
  have lf := pd.leaf
  have hI0 := putJ_start tv ha' hb'
  have e0 : ((htT t + 1 : Nat) : Int) - 1 = htT t := by omega
  obtain ⟨y0, hy0⟩ : ∃ y0 : Nat, leafF t a (htT t) t.root = y0 := ⟨(leafF t a (htT t) t.root).toNat, by have := pd.rng; omega⟩
  have hu0 : (putL t (a, b)).pages = t.pages.set y0 (leafP (putV (prP (t.pages.getD y0 default)) (a, b))) := by
    show t.pages.set (leafF t a (htT t) t.root).toNat (leafP (putV (prP (pgAt t (leafF t a (htT t) t.root))) (a, b))) = _
    rw [hy0, pgAt_nat, Int.toNat_natCast]
  have hlast : (pathF t a (htT t) t.root).getD (htT t) 0 = y0 := by rw [hl, hy0]
  rw [hy0] at pd lf
  have hr0 := pd.rng
  have lk0 := lf.vk
  have ll0 := lf.len
  have lv0 := lf.vals
  rw [pgAt_nat] at lk0 ll0 lv0
  have hpl0 := prP_len (t.pages.getD y0 default)
  have hpv0 := putV_len (prP (t.pages.getD y0 default)) (a, b)
  have hts := tr_small hs y0
  have hputT : putUp (pathF t a (htT t) t.root) (htT t) (putL t (a, b)) = putT t (a, b) := rfl
  generalize hP : t.pages.getD y0 default = P at *
  generalize hw : pathF t a (htT t) t.root = w at *
  generalize hL : leafP (putV (prP P) (a, b)) = L at *
  simp (config := {maxSteps := 1000000}) (disch := omega) only [go_sem, ↓reduceIte, Nat.reduceEqDiff, Nat.reduceAdd, Nat.reduceMul, Nat.reduceSub, Nat.reduceLeDiff, Nat.reduceLT, Int.reduceToNat, Int.reduceLE, Int.reduceLT, Int.reduceNeg, h_copyTreeS, mCopyTree, h_pathTo, mPath, h_rowOf, mRowOf, h_put, mPut, h_leafOfS, mLeafOf, h_SplitRowS, mSplitRow, h_insideSA, h_splitInner, mHalf, h_innerOfS, h_placeOf, mPlaceOf, h_addKid, mAddAt, drP_n, drP_c, logAt_n, logAt_c, disP_n, disP_c, notIn_n, notIn_c, hs, hv, ep, pl, e0, hlast, hw, hP, hL, ePg, set_pgp]
  refine W_loop_i (fun s => s.sl 4 = .ptr (5, 0) [] 0 0 ∧ s.hp (5, 0) = some ⟨2, 1, [eI 0, .s true 3 0 []], fun _ => 0⟩ ∧ s.sl 6 = .ref (13, 0) [] 0 0 1 (htT t + 1) ∧ s.hp (13, 0) = some ⟨1, htT t + 1, w.map eI, fun _ => 0⟩ ∧ s.sl 5 = .ptr (8, 0) [] 0 0 ∧ 13 < s.n ∧ ∃ (i : Nat) (u : Tr), PutJ t a i u ∧ putUp w i u = putT t (a, b) ∧ s.sl 7 = eI i ∧ ∃ v, s.hp (8, 0) = some ⟨2, 1, [eI u.root, .s true 3 u.pages.length (u.pages.flatMap (ePg true))], v⟩) (fun s => iN (s.sl 7)) ?_ ?_
  · refine ⟨rfl, rfl, rfl, rfl, rfl, by dsimp only [St.n]; omega, htT t, putL t (a, b), hI0, hputT, rfl, ?_⟩
    rw [hu0, show (putL t (a, b)).root = t.root from rfl]
    rw [show (t.pages.set y0 L).length = t.pages.length from List.length_set]
    exact ⟨_, rfl⟩
  · rintro sl hp q ⟨j4, j5, j6, j18, j7, jq, i, u, hJ, heq, j9, v, j22⟩
    dsimp only at j4 j5 j6 j18 j7 jq j9 j22
    have hil := hJ.inv.il
    have hsm := (hJ.smT tv).sm
    have hlen := hJ.inv.len
    have htl := tv.len
    have hpg := hJ.page tv
    rw [hw] at hpg
    obtain ⟨y, hy⟩ : ∃ y : Nat, w.getD i 0 = y := ⟨(w.getD i 0).toNat, by omega⟩
    rw [hy] at hpg
    have hpa : pgAt u (w.getD i 0) = u.pages.getD y default := by rw [hy]; exact pgAt_nat u y
    have hmem : u.pages.getD y default ∈ u.pages := by
      rw [List.getD_eq_getElem?_getD, List.getElem?_eq_getElem (by omega)]
      exact List.getElem_mem _
    have hsmQ := hJ.sm _ hmem
    have q1 := hsmQ.keys
    have q2 := hsmQ.kids
    have q3 := hsmQ.vals
    have e8 : decide ((0 : Int) ≤ (i : Int)) = true := decide_eq_true (by omega)
    generalize hQ : u.pages.getD y default = Q at *
    have hsb : sub u.pages 0 u.pages.length = u.pages := sub_all _
    by_cases h4 : Q.keys.length ≤ 4
    · have e4 : decide (4 < (Q.keys.length : Int)) = false := decide_eq_false (by omega)
      rw [putUp_le (by rw [hpa]; exact h4)] at heq
      rw [← heq]
      simp (config := {maxSteps := 1000000}) (disch := omega) only [go_sem, ↓reduceIte, Nat.reduceEqDiff, Nat.reduceAdd, Nat.reduceMul, Nat.reduceSub, Nat.reduceLeDiff, Nat.reduceLT, Int.reduceToNat, Int.reduceLE, Int.reduceLT, Int.reduceNeg, h_copyTreeS, mCopyTree, h_pathTo, mPath, h_rowOf, mRowOf, h_put, mPut, h_leafOfS, mLeafOf, h_SplitRowS, mSplitRow, h_insideSA, h_splitInner, mHalf, h_innerOfS, h_placeOf, mPlaceOf, h_addKid, mAddAt, drP_n, drP_c, logAt_n, logAt_c, disP_n, disP_c, notIn_n, notIn_c, j4, j5, j6, j18, j7, j9, j22, hy, hQ, ePg, e8, e4, hsb]
      try rfl
    · have e4 : decide (4 < (Q.keys.length : Int)) = true := decide_eq_true (by omega)
      have hsp := hJ.spP tv (by rw [hw, hpa]; exact h4)
      rw [hw, hpa] at hsp
      obtain ⟨sa, sb⟩ := splP_sm hsmQ
      have hS0 : splP Q = splP Q := rfl
      cases i with
      | zero =>
        have e9 : decide (((0 : Nat) : Int) = 0) = true := rfl
        have hw0 : w.getD 0 0 = y := hy
        by_cases hk : Q.kids.length = 0
        · -- a leaf
          have e7 : decide ((Q.kids.length : Int) = 0) = true := decide_eq_true (by omega)
          obtain ⟨hv1, hv2⟩ := hsp.leaf hk
          have pl2 := prP_len Q
          have sa2 := splitA_t hv1
          rw [pl2] at sa2
          have la : ((prP Q).take ((Q.keys.length + 1) / 2)).length = (Q.keys.length + 1) / 2 := by rw [List.length_take]; omega
          have lb : ((prP Q).drop ((Q.keys.length + 1) / 2)).length = Q.keys.length - (Q.keys.length + 1) / 2 := by rw [List.length_drop, pl2]
          have hS := splP_leaf hk
          generalize (prP Q).take ((Q.keys.length + 1) / 2) = ra at *
          generalize (prP Q).drop ((Q.keys.length + 1) / 2) = rb at *
          generalize hpa1 : leafP ra = pa at *
          generalize hpb1 : leafP rb = pb at *
          generalize hsk1 : (rb.getD 0 default).1 = sk at *
          rw [hS] at sa sb hS0
          have a1 := sa.keys
          have a2 := sa.kids
          have a3 := sa.vals
          have b1 := sb.keys
          have b2 := sb.kids
          have b3 := sb.vals
          dsimp only at a1 a2 a3 b1 b2 b3
          have hls : (u.pages.set y pa).length = u.pages.length := List.length_set
          have hls1 : (u.pages.set y pa ++ [pb]).length = u.pages.length + 1 := by rw [List.length_append, hls]; rfl
          rw [putUp_0 (by rw [hpa]; exact h4)] at heq
          simp only [adU, sqU, hpa, setPg, addPg, hS] at heq
          rw [hy, Int.toNat_natCast] at heq
          generalize hA1 : u.pages.set y pa ++ [pb] = A1 at *
          have hls2 : (A1 ++ [(⟨[sk], [(y : Int), u.pages.length], []⟩ : Pg)]).length = u.pages.length + 1 + 1 := by rw [List.length_append, hls1]; rfl
          simp (config := {maxSteps := 1000000}) (disch := omega) only [go_sem, ↓reduceIte, Nat.reduceEqDiff, Nat.reduceAdd, Nat.reduceMul, Nat.reduceSub, Nat.reduceLeDiff, Nat.reduceLT, Int.reduceToNat, Int.reduceLE, Int.reduceLT, Int.reduceNeg, h_copyTreeS, mCopyTree, h_pathTo, mPath, h_rowOf, mRowOf, h_put, mPut, h_leafOfS, mLeafOf, h_SplitRowS, mSplitRow, h_insideSA, h_splitInner, mHalf, h_innerOfS, h_placeOf, mPlaceOf, h_addKid, mAddAt, drP_n, drP_c, logAt_n, logAt_c, disP_n, disP_c, notIn_n, notIn_c, j4, j5, j6, j18, j7, j9, j22, hy, hQ, ePg, e8, e4, e9, hsb, hls, hA1, hls1, set_pgp, app_pgp, set_pgB, app_pgB, app_pgz, hw0, e7, sa2, get_r0, hpa1, hpb1, hsk1]
          rw [show putT t (a, b) = (⟨(u.pages.length : Int) + 1, A1 ++ [(⟨[sk], [(y : Int), u.pages.length], []⟩ : Pg)]⟩ : Tr) from heq.symm]
          refine ⟨by omega, ?_⟩
          exact trP_eq (by omega) hls2.symm
        · -- an inside
          have e7 : decide ((Q.kids.length : Int) = 0) = false := decide_eq_false (by omega)
          have hi2 := hsp.inn hk
          have hS := splP_inn hk
          generalize hH : halfV ⟨Q.keys, Q.kids⟩ = H at *
          obtain ⟨⟨hak, hai⟩, sk, ⟨hbk, hbi⟩⟩ := H
          dsimp only at hS
          generalize hpa1 : (⟨hak, hai, []⟩ : Pg) = pa at *
          generalize hpb1 : (⟨hbk, hbi, []⟩ : Pg) = pb at *
          have pk1 : pa.keys = hak := by rw [← hpa1]
          have pk2 : pa.kids = hai := by rw [← hpa1]
          have pk3 : pb.keys = hbk := by rw [← hpb1]
          have pk4 : pb.kids = hbi := by rw [← hpb1]
          rw [hS] at sa sb hS0
          have a1 := sa.keys
          have a2 := sa.kids
          have a3 := sa.vals
          have b1 := sb.keys
          have b2 := sb.kids
          have b3 := sb.vals
          dsimp only at a1 a2 a3 b1 b2 b3
          have hls : (u.pages.set y pa).length = u.pages.length := List.length_set
          have hls1 : (u.pages.set y pa ++ [pb]).length = u.pages.length + 1 := by rw [List.length_append, hls]; rfl
          rw [pk1] at a1
          rw [pk2] at a2
          rw [pk3] at b1
          rw [pk4] at b2
          rw [putUp_0 (by rw [hpa]; exact h4)] at heq
          simp only [adU, sqU, hpa, setPg, addPg, hS] at heq
          rw [hy, Int.toNat_natCast] at heq
          generalize hA1 : u.pages.set y pa ++ [pb] = A1 at *
          have hls2 : (A1 ++ [(⟨[sk], [(y : Int), u.pages.length], []⟩ : Pg)]).length = u.pages.length + 1 + 1 := by rw [List.length_append, hls1]; rfl
          simp (config := {maxSteps := 1000000}) (disch := omega) only [go_sem, ↓reduceIte, Nat.reduceEqDiff, Nat.reduceAdd, Nat.reduceMul, Nat.reduceSub, Nat.reduceLeDiff, Nat.reduceLT, Int.reduceToNat, Int.reduceLE, Int.reduceLT, Int.reduceNeg, h_copyTreeS, mCopyTree, h_pathTo, mPath, h_rowOf, mRowOf, h_put, mPut, h_leafOfS, mLeafOf, h_SplitRowS, mSplitRow, h_insideSA, h_splitInner, mHalf, h_innerOfS, h_placeOf, mPlaceOf, h_addKid, mAddAt, drP_n, drP_c, logAt_n, logAt_c, disP_n, disP_c, notIn_n, notIn_c, j4, j5, j6, j18, j7, j9, j22, hy, hQ, ePg, e8, e4, e9, hsb, hls, hA1, hls1, set_pgp, app_pgp, set_pgB, app_pgB, app_pgz, hw0, e7, hH, hpa1, hpb1]
          rw [show putT t (a, b) = (⟨(u.pages.length : Int) + 1, A1 ++ [(⟨[sk], [(y : Int), u.pages.length], []⟩ : Pg)]⟩ : Tr) from heq.symm]
          refine ⟨by omega, by omega, ?_⟩
          exact trP_eq (by omega) hls2.symm
      | succ i =>
        have e9 : decide (((i + 1 : Nat) : Int) = 0) = false := decide_eq_false (by omega)
        have e10 : ((i + 1 : Nat) : Int) - 1 = i := by omega
        have hpd := pathF_pd (key := a) tv.pd i (by omega)
        rw [hw] at hpd
        obtain ⟨h', hh'⟩ : ∃ h', htT t - i = h' + 1 := ⟨htT t - i - 1, by omega⟩
        rw [hh'] at hpd
        have hin := hpd.inn
        have hr' := hpd.rng
        obtain ⟨y', hy'⟩ : ∃ y' : Nat, w.getD i 0 = y' := ⟨(w.getD i 0).toNat, by omega⟩
        have hin1 := hin.len
        have hin2 := hin.kids
        by_cases hk : Q.kids.length = 0
        · -- a leaf
          have e7 : decide ((Q.kids.length : Int) = 0) = true := decide_eq_true (by omega)
          obtain ⟨hv1, hv2⟩ := hsp.leaf hk
          have pl2 := prP_len Q
          have sa2 := splitA_t hv1
          rw [pl2] at sa2
          have la : ((prP Q).take ((Q.keys.length + 1) / 2)).length = (Q.keys.length + 1) / 2 := by rw [List.length_take]; omega
          have lb : ((prP Q).drop ((Q.keys.length + 1) / 2)).length = Q.keys.length - (Q.keys.length + 1) / 2 := by rw [List.length_drop, pl2]
          have hS := splP_leaf hk
          generalize (prP Q).take ((Q.keys.length + 1) / 2) = ra at *
          generalize (prP Q).drop ((Q.keys.length + 1) / 2) = rb at *
          generalize hpa1 : leafP ra = pa at *
          generalize hpb1 : leafP rb = pb at *
          generalize hsk1 : (rb.getD 0 default).1 = sk at *
          rw [hS] at sa sb hS0
          have a1 := sa.keys
          have a2 := sa.kids
          have a3 := sa.vals
          have b1 := sb.keys
          have b2 := sb.kids
          have b3 := sb.vals
          dsimp only at a1 a2 a3 b1 b2 b3
          have hls : (u.pages.set y pa).length = u.pages.length := List.length_set
          have hls1 : (u.pages.set y pa ++ [pb]).length = u.pages.length + 1 := by rw [List.length_append, hls]; rfl
          generalize hA1 : u.pages.set y pa ++ [pb] = A1 at *
          obtain ⟨s1, s2, s3, _, _, _, _⟩ := put_step tv ha' hJ.inv (by rw [hw, hpa]; omega) _ _ _ _ _ rfl rfl rfl rfl rfl
          have hup := hJ.up tv ha' (by rw [hw, hpa]; exact h4)
          rw [hw] at s1 s2 s3 hup
          have hadU : addPg (setPg u (w.getD (i + 1) 0) pa) pb = ⟨u.root, A1⟩ := by rw [← hA1, hy]; rfl
          have hus := putUp_s (path := w) (t := u) (i := i) (by rw [hpa]; exact h4)
          have hQ' : pgAt ⟨u.root, A1⟩ (w.getD i 0) = A1.getD y' default := by rw [hy']; exact pgAt_nat _ y'
          simp only [uqU, adU, sqU, hpa, hS, hadU, hQ'] at s1 s2 s3 hup hus
          rw [← s1] at hin1 hin2
          rw [hy'] at hr' hup hus
          rw [hy] at s3 hup hus
          generalize hQd : A1.getD y' default = Q' at *
          have hpl : placeV Q'.kids (y : Int) = (Q'.kids.idxOf (y : Int) : Int) := if_pos (List.idxOf_lt_length_iff.1 s3)
          generalize Q'.kids.idxOf (y : Int) = c at *
          have hcc : (c : Int).toNat = c := Int.toNat_natCast c
          have hXl := addV_len (x := ⟨Q'.keys, Q'.kids⟩) (p := c) (k := sk) (kid := u.pages.length) (by show c ≤ Q'.keys.length; omega) (by show c + 1 ≤ Q'.kids.length; omega)
          rw [hus] at heq
          have hAK : addK Q' c sk u.pages.length = ⟨(addV ⟨Q'.keys, Q'.kids⟩ c sk u.pages.length).keys, (addV ⟨Q'.keys, Q'.kids⟩ c sk u.pages.length).kids, []⟩ := rfl
          rw [hAK] at hup heq
          generalize hXd : addV ⟨Q'.keys, Q'.kids⟩ c sk u.pages.length = X at *
          simp only [setPg, Int.toNat_natCast] at hup heq
          have hset : (A1.set y' (⟨X.keys, X.kids, []⟩ : Pg)).length = u.pages.length + 1 := by rw [List.length_set, hls1]
          simp (config := {maxSteps := 1000000}) (disch := omega) only [go_sem, ↓reduceIte, Nat.reduceEqDiff, Nat.reduceAdd, Nat.reduceMul, Nat.reduceSub, Nat.reduceLeDiff, Nat.reduceLT, Int.reduceToNat, Int.reduceLE, Int.reduceLT, Int.reduceNeg, h_copyTreeS, mCopyTree, h_pathTo, mPath, h_rowOf, mRowOf, h_put, mPut, h_leafOfS, mLeafOf, h_SplitRowS, mSplitRow, h_insideSA, h_splitInner, mHalf, h_innerOfS, h_placeOf, mPlaceOf, h_addKid, mAddAt, drP_n, drP_c, logAt_n, logAt_c, disP_n, disP_c, notIn_n, notIn_c, j4, j5, j6, j18, j7, j9, j22, hy, hQ, ePg, e8, e4, e9, hsb, hls, hA1, hls1, set_pgp, app_pgp, set_pgB, app_pgB, app_pgz, e10, hy', hQd, hpl, hcc, e7, sa2, get_r0, hpa1, hpb1, hsk1, hXd]
          refine ⟨⟨i, ⟨u.root, A1.set y' ⟨X.keys, X.kids, []⟩⟩, hup, heq, rfl, ?_⟩, by omega⟩
          dsimp only
          rw [hset]
          exact ⟨_, rfl⟩
        · -- an inside
          have e7 : decide ((Q.kids.length : Int) = 0) = false := decide_eq_false (by omega)
          have hi2 := hsp.inn hk
          have hS := splP_inn hk
          generalize hH : halfV ⟨Q.keys, Q.kids⟩ = H at *
          obtain ⟨⟨hak, hai⟩, sk, ⟨hbk, hbi⟩⟩ := H
          dsimp only at hS
          generalize hpa1 : (⟨hak, hai, []⟩ : Pg) = pa at *
          generalize hpb1 : (⟨hbk, hbi, []⟩ : Pg) = pb at *
          have pk1 : pa.keys = hak := by rw [← hpa1]
          have pk2 : pa.kids = hai := by rw [← hpa1]
          have pk3 : pb.keys = hbk := by rw [← hpb1]
          have pk4 : pb.kids = hbi := by rw [← hpb1]
          rw [hS] at sa sb hS0
          have a1 := sa.keys
          have a2 := sa.kids
          have a3 := sa.vals
          have b1 := sb.keys
          have b2 := sb.kids
          have b3 := sb.vals
          dsimp only at a1 a2 a3 b1 b2 b3
          have hls : (u.pages.set y pa).length = u.pages.length := List.length_set
          have hls1 : (u.pages.set y pa ++ [pb]).length = u.pages.length + 1 := by rw [List.length_append, hls]; rfl
          rw [pk1] at a1
          rw [pk2] at a2
          rw [pk3] at b1
          rw [pk4] at b2
          generalize hA1 : u.pages.set y pa ++ [pb] = A1 at *
          obtain ⟨s1, s2, s3, _, _, _, _⟩ := put_step tv ha' hJ.inv (by rw [hw, hpa]; omega) _ _ _ _ _ rfl rfl rfl rfl rfl
          have hup := hJ.up tv ha' (by rw [hw, hpa]; exact h4)
          rw [hw] at s1 s2 s3 hup
          have hadU : addPg (setPg u (w.getD (i + 1) 0) pa) pb = ⟨u.root, A1⟩ := by rw [← hA1, hy]; rfl
          have hus := putUp_s (path := w) (t := u) (i := i) (by rw [hpa]; exact h4)
          have hQ' : pgAt ⟨u.root, A1⟩ (w.getD i 0) = A1.getD y' default := by rw [hy']; exact pgAt_nat _ y'
          simp only [uqU, adU, sqU, hpa, hS, hadU, hQ'] at s1 s2 s3 hup hus
          rw [← s1] at hin1 hin2
          rw [hy'] at hr' hup hus
          rw [hy] at s3 hup hus
          generalize hQd : A1.getD y' default = Q' at *
          have hpl : placeV Q'.kids (y : Int) = (Q'.kids.idxOf (y : Int) : Int) := if_pos (List.idxOf_lt_length_iff.1 s3)
          generalize Q'.kids.idxOf (y : Int) = c at *
          have hcc : (c : Int).toNat = c := Int.toNat_natCast c
          have hXl := addV_len (x := ⟨Q'.keys, Q'.kids⟩) (p := c) (k := sk) (kid := u.pages.length) (by show c ≤ Q'.keys.length; omega) (by show c + 1 ≤ Q'.kids.length; omega)
          rw [hus] at heq
          have hAK : addK Q' c sk u.pages.length = ⟨(addV ⟨Q'.keys, Q'.kids⟩ c sk u.pages.length).keys, (addV ⟨Q'.keys, Q'.kids⟩ c sk u.pages.length).kids, []⟩ := rfl
          rw [hAK] at hup heq
          generalize hXd : addV ⟨Q'.keys, Q'.kids⟩ c sk u.pages.length = X at *
          simp only [setPg, Int.toNat_natCast] at hup heq
          have hset : (A1.set y' (⟨X.keys, X.kids, []⟩ : Pg)).length = u.pages.length + 1 := by rw [List.length_set, hls1]
          simp (config := {maxSteps := 1000000}) (disch := omega) only [go_sem, ↓reduceIte, Nat.reduceEqDiff, Nat.reduceAdd, Nat.reduceMul, Nat.reduceSub, Nat.reduceLeDiff, Nat.reduceLT, Int.reduceToNat, Int.reduceLE, Int.reduceLT, Int.reduceNeg, h_copyTreeS, mCopyTree, h_pathTo, mPath, h_rowOf, mRowOf, h_put, mPut, h_leafOfS, mLeafOf, h_SplitRowS, mSplitRow, h_insideSA, h_splitInner, mHalf, h_innerOfS, h_placeOf, mPlaceOf, h_addKid, mAddAt, drP_n, drP_c, logAt_n, logAt_c, disP_n, disP_c, notIn_n, notIn_c, j4, j5, j6, j18, j7, j9, j22, hy, hQ, ePg, e8, e4, e9, hsb, hls, hA1, hls1, set_pgp, app_pgp, set_pgB, app_pgB, app_pgz, e10, hy', hQd, hpl, hcc, e7, hH, hpa1, hpb1, hXd]
          refine ⟨by omega, ?_⟩
          refine ⟨⟨i, ⟨u.root, A1.set y' ⟨X.keys, X.kids, []⟩⟩, hup, heq, rfl, ?_⟩, by omega⟩
          dsimp only
          rw [hset]
          exact ⟨_, rfl⟩
theorem fo_putTree : FnOk Try.prog 70 := fnOk_of Try.func70 (by kernel_rfl)
theorem c_putTree : Contract Try.prog 70 mPutTree :=
  contract_of_does (DT := fun id => match id with | 4 => [(8, 9)] | 5 => [(7, 0), (7, 1), (7, 4), (7, 5)] | 12 => [(7, 0), (7, 1), (7, 4), (7, 5)] | 13 => [(3, 0), (3, 1), (4, 0), (4, 1)] | 14 => [(14, 0), (14, 1), (14, 4), (14, 5), (14, 6), (14, 7), (8, 14), (14, 8), (9, 14), (14, 9), (15, 0), (15, 1), (15, 4), (15, 5), (15, 6), (15, 7), (8, 15), (15, 8), (9, 15), (15, 9), (14, 15), (15, 14)] | 16 => [(7, 0), (7, 1), (7, 4), (7, 5)] | 17 => [(3, 0), (3, 1), (4, 0), (4, 1)] | 19 => [(3, 0), (3, 1), (3, 5), (3, 6), (8, 0), (8, 1), (3, 8), (8, 3), (10, 0), (10, 1), (11, 0), (11, 1)] | 23 => [(8, 0), (8, 1), (8, 9), (8, 10), (8, 12), (8, 13), (8, 14), (8, 17), (8, 18), (19, 0), (19, 1), (22, 0), (22, 1), (23, 0), (23, 1)] | _ => []) Try.checked.mixed tabOk (gok_model fo_copyTreeS c_copyTreeS (gok_model fo_pathTo c_pathTo (gok_model fo_rowOf c_rowOf (gok_model fo_put c_put (gok_model fo_leafOfS c_leafOfS (gok_model fo_SplitRowS c_SplitRowS (gok_alias fo_insideSA c_insideSA (gok_model fo_splitInner c_splitInner (gok_alias fo_innerOfS c_innerOfS (gok_model fo_placeOf c_placeOf (gok_model fo_addKid c_addKid gok_nil))))))))))) Try.func70 rfl (by kernel_rfl) (does_putTree rfl rfl rfl rfl rfl rfl rfl rfl rfl rfl rfl)

end Go.TM
