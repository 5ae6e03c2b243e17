/- Contracts, 84: two kids are mended (the reference). -/
import Derived.Test.YtbpfagbihffmbaaF83
namespace Go.TM
open Go.Proofs
set_option linter.unusedVariables false
set_option linter.unusedSimpArgs false
set_option maxRecDepth 100000
set_option maxHeartbeats 8000000

structure MsOk (t : Tr) (up : Int) (f : Nat) : Prop where
  sm : smT t.pages = true
  pl : t.pages.length ≤ 1000
  ru : 0 ≤ up ∧ up < t.pages.length
  ne : (pgAt t up).kids.getD f 0 ≠ (pgAt t up).kids.getD (f + 1) 0 ∧ (pgAt t up).kids.getD f 0 ≠ up ∧ (pgAt t up).kids.getD (f + 1) 0 ≠ up
  two : ∃ lf, Two t lf (pgAt t up) f ((pgAt t up).kids.getD f 0) ((pgAt t up).kids.getD (f + 1) 0)
noncomputable instance (t : Tr) (up : Int) (f : Nat) : Decidable (MsOk t up f) := Classical.propDecidable _
def optI : Option Int → Int
  | some b => b
  | none => -1
theorem set_pgC {ps : List Pg} {k n m : Nat} {x y : List Int} (h : k < ps.length ∧ n = x.length ∧ m = y.length) : setR (k * 3) [.s true 1 n (x.map eI), .s true 1 m (y.map eI), .s true 1 0 []] (ps.flatMap (ePg true)) = (ps.set k ⟨x, y, []⟩).flatMap (ePg true) := set_pg' (z := []) h.1 h.2.1 h.2.2 rfl
theorem trI_eq {n : Nat} {r x : Int} {ps : List Pg} (h : n = ps.length) : some (A.tup [.agg [.i .i64 r, .s true 3 n (ps.flatMap (ePg true))], .i .i64 x], ([] : List (List A))) = some (.tup [eTr true ⟨r, ps⟩, eI x], []) := by subst h; rfl
noncomputable def mMendS : Model := M3 .ro .ro .ro true (cTr false) cI cI fun t up pl => gd (MsOk t up (pl.toNat - 1) ∧ 0 ≤ pl ∧ pl ≤ 1000) (.tup [eTr true (mendF t up (pl.toNat - 1)).1, eI (optI (mendF t up (pl.toNat - 1)).2)], [])

theorem does_mendS {G : Nat → Option FM} (h_copyTreeS : G 65 = some (.model mCopyTree)) (h_rowOf : G 96 = some (.model mRowOf)) (h_leafOfS : G 107 = some (.model mLeafOf)) (h_insideSA : G 122 = some (.alias [3] [.arg 0 0, .arg 0 1])) (h_cutKidS : G 153 = some (.model mCutAt)) (h_innerOfS : G 123 = some (.alias [2] [.arg 0 0, .arg 0 1, .empty 1])) (h_copyInts : G 140 = some (.model mCopyInts)) (h_splitInner : G 121 = some (.model mHalf)) : Does T G (fun id => match id with | 6 => [(5, 6), (5, 7), (5, 9), (5, 10)] | 8 => [(4, 0), (4, 1)] | 9 => [(8, 0), (8, 1), (11, 0), (11, 1), (12, 0), (12, 1)] | 12 => [(6, 0), (6, 1)] | 13 => [(6, 0), (6, 1)] | 18 => [(2, 3), (2, 4), (2, 6), (2, 7), (2, 8), (2, 10), (2, 11), (12, 0), (12, 1), (2, 12), (12, 2), (2, 14), (12, 14), (13, 14), (2, 15), (12, 15), (13, 15)] | 19 => [(3, 4), (3, 5), (8, 1), (8, 2), (3, 8), (8, 3), (8, 4), (8, 5), (6, 8), (8, 6)] | 21 => [(4, 0), (4, 1)] | 22 => [(8, 0), (8, 1), (11, 0), (11, 1), (12, 0), (12, 1)] | 25 => [(4, 0), (4, 1)] | 26 => [(4, 0), (4, 1)] | _ => []) Try.f108 mMendS := by
  refine does3 (rs := [.cell 6 28, .tmp 7]) rfl rfl fun t up pl ro h => ?_
  obtain ⟨⟨⟨hs, htl, ⟨u0, u1⟩, ⟨n1, n2, n3⟩, ⟨lf, htw⟩⟩, p0, p1⟩, rfl⟩ := gd_some h
  refine ⟨fun _ => ⟨by simp only [cleanA, cleanL, clean_pgs, Bool.and_self], rfl⟩, ?_⟩
  clear h
  obtain ⟨rt, ps⟩ := t
  obtain ⟨un, rfl⟩ : ∃ n : Nat, up = n := ⟨up.toNat, by omega⟩
  obtain ⟨pn, rfl⟩ : ∃ n : Nat, pl = n := ⟨pl.toNat, by omega⟩
  rw [Int.toNat_natCast] at *
  have hmx : (if ((pn : Int) - 1) > 0 then ((pn : Int) - 1) else 0) = ((pn - 1 : Nat) : Int) := by split <;> omega
  generalize pn - 1 = f at *
  have hpU : pgAt ⟨rt, ps⟩ (un : Int) = ps.getD un default := pgAt_nat _ un
  rw [hpU] at n1 n2 n3 htw
  dsimp only at hs htl u1
  have hsu := tr_small (t := ⟨rt, ps⟩) hs un
  rw [hpU] at hsu
  dsimp only at hsu
  generalize hP : ps.getD un default = P at *
  have tf := htw.f
  have tk := htw.kids
  have tkl := htw.kl
  obtain ⟨ra0, ra1⟩ := htw.ra
  obtain ⟨rb0, rb1⟩ := htw.rb
  obtain ⟨an, ha⟩ : ∃ n : Nat, P.kids.getD f 0 = n := ⟨(P.kids.getD f 0).toNat, by omega⟩
  obtain ⟨bn, hb⟩ : ∃ n : Nat, P.kids.getD (f + 1) 0 = n := ⟨(P.kids.getD (f + 1) 0).toNat, by omega⟩
  rw [ha, hb] at n1 htw
  rw [ha] at n2 ra0 ra1
  rw [hb] at n3 rb0 rb1
  dsimp only at ra1 rb1
  have hpA : pgAt ⟨rt, ps⟩ (an : Int) = ps.getD an default := pgAt_nat _ an
  have hpB : pgAt ⟨rt, ps⟩ (bn : Int) = ps.getD bn default := pgAt_nat _ bn
  have ta := htw.ka
  have tb := htw.kb
  have tl := htw.leaf1
  have ti := htw.inn
  rw [hpA] at ta tl ti
  rw [hpB] at tb tl ti
  have ef : (f : Int) + 1 = ((f + 1 : Nat) : Int) := by omega
  have hml : mlP ps an bn = prP (ps.getD an default) ++ prP (ps.getD bn default) := rfl
  have hmi : ∀ k, miX ps an k bn = bothV ⟨(ps.getD an default).keys, (ps.getD an default).kids⟩ k ⟨(ps.getD bn default).keys, (ps.getD bn default).kids⟩ := fun _ => rfl
  have pla := prP_len (ps.getD an default)
  have plb := prP_len (ps.getD bn default)
  generalize hPa : ps.getD an default = Pa at *
  generalize hPb : ps.getD bn default = Pb at *
  cases lf
  · obtain ⟨va, vb, ka, kb⟩ := ti rfl
    have e7 : decide ((Pa.kids.length : Int) = 0) = false := decide_eq_false (by omega)
    have e7' : decide (((Pa.keys.length + 1 : Nat) : Int) = 0) = false := decide_eq_false (by omega)
    obtain ⟨kk, hkk⟩ : ∃ kk, P.keys.getD f 0 = kk := ⟨_, rfl⟩
    have hq : joinP (pgAt ⟨rt, ps⟩ (an : Int)) (P.keys.getD f 0) (pgAt ⟨rt, ps⟩ (bn : Int)) = ⟨(miX ps an kk bn).keys, (miX ps an kk bn).kids, []⟩ := by
      rw [hpA, hpB, hmi, hkk]
      exact if_neg (by omega)
    have hx1 : (miX ps an kk bn).keys = Pa.keys ++ kk :: Pb.keys := by rw [hmi]; rfl
    have hx2 : (miX ps an kk bn).kids = Pa.kids ++ Pb.kids := by rw [hmi]; rfl
    have hx3 : (Pa.keys ++ kk :: Pb.keys).length = Pa.keys.length + 1 + Pb.keys.length := by rw [List.length_append, List.length_cons]; omega
    have hx4 : (Pa.kids ++ Pb.kids).length = Pa.kids.length + Pb.kids.length := List.length_append
    have hx5 : ((miX ps an kk bn).keys.length : Int) = ((Pa.keys.length + 1 + Pb.keys.length : Nat) : Int) := by rw [hx1, hx3]
    by_cases h4 : (miX ps an kk bn).keys.length ≤ 4
    · have hmt := mend_t (t := ⟨rt, ps⟩) (up := un) (f := f) hpU ha hb hq h4
      have e4 : decide (((Pa.keys.length + 1 + Pb.keys.length : Nat) : Int) ≤ 4) = true := decide_eq_true (by omega)
      rw [hmt]
      simp only [setPg, Int.toNat_natCast, optI]
      rw [hx1, hx2]
      have hls : (ps.set an (⟨Pa.keys ++ kk :: Pb.keys, Pa.kids ++ Pb.kids, []⟩ : Pg)).length = ps.length := List.length_set
      simp (config := {maxSteps := 1000000}) (disch := omega) only [go_sem, ↓reduceIte, Nat.reduceEqDiff, Nat.reduceAdd, Nat.reduceMul, Nat.reduceSub, Nat.reduceLeDiff, Nat.reduceLT, Int.reduceToNat, Int.reduceLE, Int.reduceLT, Int.reduceNeg, h_copyTreeS, mCopyTree, h_rowOf, mRowOf, h_leafOfS, mLeafOf, h_insideSA, h_cutKidS, mCutAt, h_innerOfS, h_copyInts, mCopyInts, h_splitInner, mHalf, drP_n, drP_c, logAt_n, logAt_c, disP_n, disP_c, notIn_n, notIn_c, hs, hP, ePg, hmx, ef, ha, hb, hkk, hPa, hPb, e7, e7', va, vb, e4, app_I', app_K, app_II, hls, set_pgC]
      exact trI_eq (ps := (ps.set an ⟨Pa.keys ++ kk :: Pb.keys, Pa.kids ++ Pb.kids, []⟩).set un (cutK P (f + 1))) (by rw [List.length_set, hls])
    · have hmf := mend_f (t := ⟨rt, ps⟩) (up := un) (f := f) hpU ha hb hq h4
      have e4 : decide (((Pa.keys.length + 1 + Pb.keys.length : Nat) : Int) ≤ 4) = false := decide_eq_false (by omega)
      have hsp := splP_inn (p := ⟨(miX ps an kk bn).keys, (miX ps an kk bn).kids, []⟩) (by show (miX ps an kk bn).kids.length ≠ 0; rw [hx2, hx4]; omega)
      dsimp only at hsp
      rw [hx1, hx2] at hsp hmf
      rw [hmf, hsp]
      simp only [setPg, Int.toNat_natCast, optI]
      have hsb1 : sub (Pa.keys ++ kk :: Pb.keys) 0 (Pa.keys.length + 1 + Pb.keys.length) = Pa.keys ++ kk :: Pb.keys := by rw [← hx3]; exact sub_all _
      have hsb2 : sub (Pa.kids ++ Pb.kids) 0 (Pa.keys.length + 1 + (Pb.keys.length + 1)) = Pa.kids ++ Pb.kids := by rw [← va, ← vb, ← hx4]; exact sub_all _
      generalize hH : halfV ⟨Pa.keys ++ kk :: Pb.keys, Pa.kids ++ Pb.kids⟩ = H at *
      generalize hLA : (⟨H.a.keys, H.a.kids, []⟩ : Pg) = LA at *
      generalize hLB : (⟨H.b.keys, H.b.kids, []⟩ : Pg) = LB at *
      have hls : ((ps.set an LA).set bn LB).length = ps.length := by rw [List.length_set, List.length_set]
      have hls0 : (ps.set an LA).length = ps.length := List.length_set
      have hP2 : ((ps.set an LA).set bn LB).getD un default = P := by
        rw [← hP, List.getD_eq_getElem?_getD, List.getElem?_set_ne (by omega), List.getElem?_set_ne (by omega), List.getD_eq_getElem?_getD]
      simp (config := {maxSteps := 1000000}) (disch := omega) only [go_sem, ↓reduceIte, Nat.reduceEqDiff, Nat.reduceAdd, Nat.reduceMul, Nat.reduceSub, Nat.reduceLeDiff, Nat.reduceLT, Int.reduceToNat, Int.reduceLE, Int.reduceLT, Int.reduceNeg, h_copyTreeS, mCopyTree, h_rowOf, mRowOf, h_leafOfS, mLeafOf, h_insideSA, h_cutKidS, mCutAt, h_innerOfS, h_copyInts, mCopyInts, h_splitInner, mHalf, drP_n, drP_c, logAt_n, logAt_c, disP_n, disP_c, notIn_n, notIn_c, hs, hP, ePg, hmx, ef, ha, hb, hkk, hPa, hPb, e7, e7', va, vb, e4, app_I', app_K, app_II, hsb1, hsb2, hH, hls, hls0, hP2, set_pgB, hLA, hLB]
      have hfin := set_pg0 (xs := P.keys.set f H.key) (n := P.keys.length) (by rw [List.length_set]) (ps := (ps.set an LA).set bn LB) (k := un) (by omega)
      rw [hfin, hP2]
      exact trI_eq (by rw [List.length_set, hls])
  · obtain ⟨⟨ka, va⟩, ⟨kb, vb⟩, hvr⟩ := tl rfl
    rw [← hml] at hvr
    have e7 : decide ((Pa.kids.length : Int) = 0) = true := decide_eq_true (by rw [ka]; rfl)
    have hq : joinP (pgAt ⟨rt, ps⟩ (an : Int)) (P.keys.getD f 0) (pgAt ⟨rt, ps⟩ (bn : Int)) = leafP (mlP ps an bn) := by
      rw [hpA, hpB, hml]
      exact if_pos (by rw [ka]; rfl)
    have hql : (leafP (mlP ps an bn)).keys.length = (mlP ps an bn).length := keysP_len _
    have hll : (mlP ps an bn).length = (prP Pa).length + (prP Pb).length := by rw [hml]; exact List.length_append
    have hsb : sub (mlP ps an bn) 0 ((prP Pa).length + (prP Pb).length) = mlP ps an bn := by rw [← hll]; exact sub_all _
    have hv24 := hvr
    unfold vRow at hv24
    rw [Bool.and_eq_true, Bool.and_eq_true, decide_eq_true_eq] at hv24
    have hv24 := hv24.2.1
    by_cases h4 : (mlP ps an bn).length ≤ 4
    · have hmt := mend_t (t := ⟨rt, ps⟩) (up := un) (f := f) hpU ha hb hq (by rw [hql]; exact h4)
      have e4 : decide (((prP Pa).length + (prP Pb).length : Int) ≤ 4) = true := decide_eq_true (by omega)
      have e4' : decide ((((prP Pa).length + (prP Pb).length : Nat) : Int) ≤ 4) = true := decide_eq_true (by omega)
      rw [hmt]
      simp only [setPg, Int.toNat_natCast, optI]
      generalize hLA : leafP (mlP ps an bn) = LA at *
      have hls : (ps.set an LA).length = ps.length := List.length_set
      simp (config := {maxSteps := 1000000}) (disch := omega) only [go_sem, ↓reduceIte, Nat.reduceEqDiff, Nat.reduceAdd, Nat.reduceMul, Nat.reduceSub, Nat.reduceLeDiff, Nat.reduceLT, Int.reduceToNat, Int.reduceLE, Int.reduceLT, Int.reduceNeg, h_copyTreeS, mCopyTree, h_rowOf, mRowOf, h_leafOfS, mLeafOf, h_insideSA, h_cutKidS, mCutAt, h_innerOfS, h_copyInts, mCopyInts, h_splitInner, mHalf, drP_n, drP_c, logAt_n, logAt_c, disP_n, disP_c, notIn_n, notIn_c, hs, hP, ePg, hmx, ef, ha, hb, hPa, hPb, e7, va, vb, e4, e4', app_PP, ← hml, hsb, hLA, hls, set_pgp, set_pgB]
      exact trI_eq (ps := (ps.set an LA).set un (cutK P (f + 1))) (by rw [List.length_set, hls])
    · have hmf := mend_f (t := ⟨rt, ps⟩) (up := un) (f := f) hpU ha hb hq (by rw [hql]; exact h4)
      have e4 : decide (((prP Pa).length + (prP Pb).length : Int) ≤ 4) = false := decide_eq_false (by omega)
      have e4' : decide ((((prP Pa).length + (prP Pb).length : Nat) : Int) ≤ 4) = false := decide_eq_false (by omega)
      have hsp := splP_leaf (p := leafP (mlP ps an bn)) rfl
      rw [prP_leafP, hql] at hsp
      rw [hmf, hsp]
      simp only [setPg, Int.toNat_natCast, optI]
      have hmid : ((((prP Pa).length + (prP Pb).length : Nat) : Int) + 1).tdiv 2 = ((((mlP ps an bn).length + 1) / 2 : Nat) : Int) := by rw [Int.tdiv_eq_ediv_of_nonneg (by omega)]; omega
      generalize hM : ((mlP ps an bn).length + 1) / 2 = M at *
      have hM1 : 0 < M ∧ M < (mlP ps an bn).length := by omega
      have hM0 : ¬ M = 0 := by omega
      have hM9 : ¬ (prP Pa).length + (prP Pb).length - M = 0 := by omega
      have hsz : sub (mlP ps an bn) 0 M = (mlP ps an bn).take M := sub_zero _ _
      have hsr : sub (mlP ps an bn) M ((prP Pa).length + (prP Pb).length - M) = (mlP ps an bn).drop M := by rw [← hll]; exact sub_restP _ _
      have hlt : ((mlP ps an bn).take M).length = M := by rw [List.length_take]; omega
      have hld : ((mlP ps an bn).drop M).length = (prP Pa).length + (prP Pb).length - M := by rw [List.length_drop, hll]
      have hgm : ((mlP ps an bn).drop M).getD 0 default = (mlP ps an bn).getD M default := by simp
      rw [hgm] at hsp ⊢
      generalize hLA : leafP ((mlP ps an bn).take M) = LA at *
      generalize hLB : leafP ((mlP ps an bn).drop M) = LB at *
      have hls : ((ps.set an LA).set bn LB).length = ps.length := by rw [List.length_set, List.length_set]
      have hls0 : (ps.set an LA).length = ps.length := List.length_set
      have hP2 : ((ps.set an LA).set bn LB).getD un default = P := by
        rw [← hP, List.getD_eq_getElem?_getD, List.getElem?_set_ne (by omega), List.getElem?_set_ne (by omega), List.getD_eq_getElem?_getD]
      simp (config := {maxSteps := 1000000}) (disch := omega) only [go_sem, ↓reduceIte, Nat.reduceEqDiff, Nat.reduceAdd, Nat.reduceMul, Nat.reduceSub, Nat.reduceLeDiff, Nat.reduceLT, Int.reduceToNat, Int.reduceLE, Int.reduceLT, Int.reduceNeg, h_copyTreeS, mCopyTree, h_rowOf, mRowOf, h_leafOfS, mLeafOf, h_insideSA, h_cutKidS, mCutAt, h_innerOfS, h_copyInts, mCopyInts, h_splitInner, mHalf, drP_n, drP_c, logAt_n, logAt_c, disP_n, disP_c, notIn_n, notIn_c, hs, hP, ePg, hmx, ef, ha, hb, hPa, hPb, e7, va, vb, e4, e4', app_PP, ← hml, hsb, hmid, Nat.sub_zero, hM0, hM9, hsz, hsr, hLA, hLB, hls, hls0, hP2, set_pgp, set_pgB]
      have hfin := set_pg0 (xs := P.keys.set f ((mlP ps an bn).getD M default).1) (n := P.keys.length) (by rw [List.length_set]) (ps := (ps.set an LA).set bn LB) (k := un) (by omega)
      rw [hfin, hP2]
      exact trI_eq (by rw [List.length_set, hls])
theorem fo_mendS : FnOk Try.prog 108 := fnOk_of Try.func108 (by kernel_rfl)
theorem c_mendS : Contract Try.prog 108 mMendS :=
  contract_of_does (DT := fun id => match id with | 6 => [(5, 6), (5, 7), (5, 9), (5, 10)] | 8 => [(4, 0), (4, 1)] | 9 => [(8, 0), (8, 1), (11, 0), (11, 1), (12, 0), (12, 1)] | 12 => [(6, 0), (6, 1)] | 13 => [(6, 0), (6, 1)] | 18 => [(2, 3), (2, 4), (2, 6), (2, 7), (2, 8), (2, 10), (2, 11), (12, 0), (12, 1), (2, 12), (12, 2), (2, 14), (12, 14), (13, 14), (2, 15), (12, 15), (13, 15)] | 19 => [(3, 4), (3, 5), (8, 1), (8, 2), (3, 8), (8, 3), (8, 4), (8, 5), (6, 8), (8, 6)] | 21 => [(4, 0), (4, 1)] | 22 => [(8, 0), (8, 1), (11, 0), (11, 1), (12, 0), (12, 1)] | 25 => [(4, 0), (4, 1)] | 26 => [(4, 0), (4, 1)] | _ => []) Try.checked.mixed tabOk (gok_model fo_copyTreeS c_copyTreeS (gok_model fo_rowOf c_rowOf (gok_model fo_leafOfS c_leafOfS (gok_alias fo_insideSA c_insideSA (gok_model fo_cutKidS c_cutKidS (gok_alias fo_innerOfS c_innerOfS (gok_model fo_copyInts c_copyInts (gok_model fo_splitInner c_splitInner gok_nil)))))))) Try.func108 rfl (by kernel_rfl) (does_mendS rfl rfl rfl rfl rfl rfl rfl rfl)

end Go.TM
