/- Contracts, 81 82. -/
import Derived.Test.YtbpfagbihffmbaaF34
/- Contracts, 81: the mender. -/
namespace Go.TM
open Go.Proofs
set_option linter.unusedVariables false
set_option linter.unusedSimpArgs false
set_option maxRecDepth 100000
set_option maxHeartbeats 8000000

structure Md where
  pages : List Pg
  gn : List Bool
  js : Int
def csMd (m : Md) : List A := .s true 3 m.pages.length (m.pages.flatMap (ePg true)) :: tlPc m.gn m.js
def cMd : Cod Md where
  e m := .agg (csMd m)
  d
    | .agg (b :: xs) => ((cPgs true).d b).bind fun ps => (dTl xs).map fun q => ⟨ps, q.1, q.2⟩
    | _ => none
  de m := by
    show (((cPgs true).d (ePgs true m.pages)).bind fun ps => (dTl (tlPc m.gn m.js)).map fun q => (⟨ps, q.1, q.2⟩ : Md)) = some m
    rw [show (cPgs true).d (ePgs true m.pages) = some m.pages from (cPgs true).de _, dTl_e]
    rfl
  ed a m h := by
    split at h
    · rename_i b xs
      simp only [Option.bind_eq_some_iff, Option.map_eq_some_iff] at h
      obtain ⟨ps, h2, q, h3, rfl⟩ := h
      have e2 : b = ePgs true ps := (cPgs true).ed _ _ h2
      rw [e2, dTl_d _ _ h3]
      rfl
    · cases h
theorem cMd_e (m : Md) : cMd.e m = .agg (csMd m) := rfl
theorem cMd_d {n : Nat} {ps : List Pg} {gn : List Bool} {js : Int} (h : n = ps.length) : cMd.d (.agg (.s true 3 n (ps.flatMap (ePg true)) :: tlPc gn js)) = some ⟨ps, gn, js⟩ := by
  subst h
  exact cMd.de ⟨ps, gn, js⟩
attribute [go_sem] cMd_e cMd_d

/-- Two leaves put together, or parted anew. -/
def mlP (ps : List Pg) (a b : Nat) : List Pr := prP (ps.getD a default) ++ prP (ps.getD b default)
def mlV (ps : List Pg) (a b : Nat) : List Pg × Bool × Int := if (mlP ps a b).length ≤ 4 then (ps.set a (leafP (mlP ps a b)), true, 0)
  else ((ps.set a (leafP ((mlP ps a b).take (((mlP ps a b).length + 1) / 2)))).set b (leafP ((mlP ps a b).drop (((mlP ps a b).length + 1) / 2))), false, (((mlP ps a b).drop (((mlP ps a b).length + 1) / 2)).getD 0 default).1)
theorem mlV_t {ps : List Pg} {a b : Nat} (h : (mlP ps a b).length ≤ 4) : mlV ps a b = (ps.set a (leafP (mlP ps a b)), true, 0) := if_pos h
theorem mlV_f {ps : List Pg} {a b : Nat} (h : ¬ (mlP ps a b).length ≤ 4) : mlV ps a b = ((ps.set a (leafP ((mlP ps a b).take (((mlP ps a b).length + 1) / 2)))).set b (leafP ((mlP ps a b).drop (((mlP ps a b).length + 1) / 2))), false, (((mlP ps a b).drop (((mlP ps a b).length + 1) / 2)).getD 0 default).1) := if_neg h
noncomputable def mMendLeaves : Model := M3 .io .ro .ro false cMd cI cI fun m a b => gd (smT m.pages = true ∧ m.gn.length = 16 ∧ (0 ≤ a ∧ a < m.pages.length ∧ 0 ≤ b ∧ b < m.pages.length) ∧ vRow (mlP m.pages a.toNat b.toNat) = true ∧ (m.pages.getD a.toNat default).vals.length = (m.pages.getD a.toNat default).keys.length ∧ (m.pages.getD b.toNat default).vals.length = (m.pages.getD b.toNat default).keys.length)
  (.tup [.b (mlV m.pages a.toNat b.toNat).2.1, eI (mlV m.pages a.toNat b.toNat).2.2], [csMd ⟨(mlV m.pages a.toNat b.toNat).1, m.gn, m.js⟩])

theorem does_mendLeaves {G : Nat → Option FM} (h_pairsOfLeaf : G 75 = some (.model mRowOf)) (h_concatP : G 169 = some (.model mConcatP)) (h_leafOfI : G 73 = some (.model mLeafOf)) (h_SplitRowI : G 132 = some (.model mSplitRow)) : Does T G (fun id => match id with | 1 => [(7, 9), (7, 10), (7, 11), (7, 13), (7, 14)] | 3 => [(6, 1), (6, 2), (6, 3)] | 6 => [(6, 1), (6, 2), (6, 3)] | 7 => [(6, 1), (6, 2), (6, 3)] | _ => []) Try.f155 mMendLeaves := by
  refine does3 (rs := [.tmp 6, .tmp 7]) rfl rfl fun m a b ro h => ?_
  obtain ⟨⟨hs, hgl, ⟨a0, a1, b0, b1⟩, hvr, va, vb⟩, rfl⟩ := gd_some h
  refine ⟨fun hc => (by cases hc), ?_⟩
  clear h
  obtain ⟨a, rfl⟩ : ∃ n : Nat, a = n := ⟨a.toNat, by omega⟩
  obtain ⟨b, rfl⟩ : ∃ n : Nat, b = n := ⟨b.toNat, by omega⟩
  rw [Int.toNat_natCast, Int.toNat_natCast] at *
  obtain ⟨ps, gn, js⟩ := m
  dsimp only at hs hgl a1 b1 hvr va vb ⊢
  have hsa := tr_small (t := ⟨0, ps⟩) hs a
  have hsb := tr_small (t := ⟨0, ps⟩) hs b
  rw [pgAt_nat] at hsa hsb
  dsimp only at hsa hsb
  have hv24 := hvr
  unfold vRow at hv24
  rw [Bool.and_eq_true, Bool.and_eq_true, decide_eq_true_eq] at hv24
  have hv24 := hv24.2.1
  have hpa := prP_len (ps.getD a default)
  have hpb := prP_len (ps.getD b default)
  have hml : mlP ps a b = prP (ps.getD a default) ++ prP (ps.getD b default) := rfl
  have hll : (mlP ps a b).length = (prP (ps.getD a default)).length + (prP (ps.getD b default)).length := List.length_append
  generalize hPa : ps.getD a default = Pa at *
  generalize hPb : ps.getD b default = Pb at *
  have hf : [prP Pa, prP Pb].flatten = mlP ps a b := by rw [hml]; simp
  have d1 : decide ((prP Pa).length ≤ 68719476736) = true := decide_eq_true (by omega)
  have d2 : decide ((prP Pb).length ≤ 68719476736) = true := decide_eq_true (by omega)
  have sa2 := splitA_t hvr
  by_cases h4 : (mlP ps a b).length ≤ 4
  · have e4 : decide (((mlP ps a b).length : Int) ≤ 4) = true := decide_eq_true (by omega)
    rw [mlV_t h4]
    generalize mlP ps a b = R at *
    have hls : (ps.set a (leafP R)).length = ps.length := List.length_set
    simp (config := {maxSteps := 1000000}) (disch := omega) only [go_sem, ↓reduceIte, Nat.reduceEqDiff, Nat.reduceAdd, Nat.reduceMul, Nat.reduceSub, Nat.reduceLeDiff, Nat.reduceLT, Int.reduceToNat, Int.reduceLE, Int.reduceLT, Int.reduceNeg, h_pairsOfLeaf, mRowOf, h_concatP, mConcatP, h_leafOfI, mLeafOf, h_SplitRowI, mSplitRow, drP_n, drP_c, logAt_n, logAt_c, disP_n, disP_c, notIn_n, notIn_c, csMd, hPa, hPb, ePg, hf, e4, cRows_2, d1, d2, Bool.and_true, set_pgp, hls]
  · have e4 : decide (((mlP ps a b).length : Int) ≤ 4) = false := decide_eq_false (by omega)
    rw [mlV_f h4]
    generalize mlP ps a b = R at *
    have la : (R.take ((R.length + 1) / 2)).length = (R.length + 1) / 2 := by rw [List.length_take]; omega
    have lb : (R.drop ((R.length + 1) / 2)).length = R.length - (R.length + 1) / 2 := List.length_drop
    generalize R.take ((R.length + 1) / 2) = ra at *
    generalize R.drop ((R.length + 1) / 2) = rb at *
    have hls : (ps.set a (leafP ra)).length = ps.length := List.length_set
    have hls2 : ((ps.set a (leafP ra)).set b (leafP rb)).length = ps.length := by rw [List.length_set, hls]
    simp (config := {maxSteps := 1000000}) (disch := omega) only [go_sem, ↓reduceIte, Nat.reduceEqDiff, Nat.reduceAdd, Nat.reduceMul, Nat.reduceSub, Nat.reduceLeDiff, Nat.reduceLT, Int.reduceToNat, Int.reduceLE, Int.reduceLT, Int.reduceNeg, h_pairsOfLeaf, mRowOf, h_concatP, mConcatP, h_leafOfI, mLeafOf, h_SplitRowI, mSplitRow, drP_n, drP_c, logAt_n, logAt_c, disP_n, disP_c, notIn_n, notIn_c, csMd, hPa, hPb, ePg, hf, e4, cRows_2, d1, d2, Bool.and_true, sa2, get_r0, set_pgp, hls, hls2]
theorem fo_mendLeaves : FnOk Try.prog 155 := fnOk_of Try.func155 (by kernel_rfl)
theorem c_mendLeaves : Contract Try.prog 155 mMendLeaves :=
  contract_of_does (DT := fun id => match id with | 1 => [(7, 9), (7, 10), (7, 11), (7, 13), (7, 14)] | 3 => [(6, 1), (6, 2), (6, 3)] | 6 => [(6, 1), (6, 2), (6, 3)] | 7 => [(6, 1), (6, 2), (6, 3)] | _ => []) Try.checked.mixed tabOk (gok_model fo_pairsOfLeaf c_pairsOfLeaf (gok_model fo_concatP c_concatP (gok_model fo_leafOfI c_leafOfI (gok_model fo_SplitRowI c_SplitRowI gok_nil)))) Try.func155 rfl (by kernel_rfl) (does_mendLeaves rfl rfl rfl rfl)


/-- Two insides put together, or parted anew. -/
def miX (ps : List Pg) (a : Nat) (k : Int) (b : Nat) : Inn := bothV ⟨(ps.getD a default).keys, (ps.getD a default).kids⟩ k ⟨(ps.getD b default).keys, (ps.getD b default).kids⟩
def miV (ps : List Pg) (a : Nat) (k : Int) (b : Nat) : List Pg × Bool × Int := if (miX ps a k b).keys.length ≤ 4 then (ps.set a ⟨(miX ps a k b).keys, (miX ps a k b).kids, []⟩, true, 0)
  else ((ps.set a ⟨(halfV (miX ps a k b)).a.keys, (halfV (miX ps a k b)).a.kids, []⟩).set b ⟨(halfV (miX ps a k b)).b.keys, (halfV (miX ps a k b)).b.kids, []⟩, false, (halfV (miX ps a k b)).key)
theorem miV_t {ps : List Pg} {a b : Nat} {k : Int} (h : (miX ps a k b).keys.length ≤ 4) : miV ps a k b = (ps.set a ⟨(miX ps a k b).keys, (miX ps a k b).kids, []⟩, true, 0) := if_pos h
theorem miV_f {ps : List Pg} {a b : Nat} {k : Int} (h : ¬ (miX ps a k b).keys.length ≤ 4) : miV ps a k b = ((ps.set a ⟨(halfV (miX ps a k b)).a.keys, (halfV (miX ps a k b)).a.kids, []⟩).set b ⟨(halfV (miX ps a k b)).b.keys, (halfV (miX ps a k b)).b.kids, []⟩, false, (halfV (miX ps a k b)).key) := if_neg h
noncomputable def mMendInners : Model := M4 .io .ro .ro .ro false cMd cI cI cI fun m a k b => gd (smT m.pages = true ∧ m.gn.length = 16 ∧ (0 ≤ a ∧ a < m.pages.length ∧ 0 ≤ b ∧ b < m.pages.length) ∧ (m.pages.getD a.toNat default).kids.length = (m.pages.getD a.toNat default).keys.length + 1 ∧ (m.pages.getD b.toNat default).kids.length = (m.pages.getD b.toNat default).keys.length + 1)
  (.tup [.b (miV m.pages a.toNat k b.toNat).2.1, eI (miV m.pages a.toNat k b.toNat).2.2], [csMd ⟨(miV m.pages a.toNat k b.toNat).1, m.gn, m.js⟩])

theorem does_mendInners {G : Nat → Option FM} (h_insideIA : G 80 = some (.alias [3] [.arg 0 0, .arg 0 1])) (h_bothOf : G 170 = some (.model mBoth)) (h_innerPage : G 77 = some (.alias [2] [.arg 0 0, .arg 0 1, .nil 1])) (h_halvesOf : G 133 = some (.model mHalf)) : Does T G (fun id => match id with | 1 => [(7, 10), (7, 11), (7, 12), (7, 14), (7, 15), (18, 1), (18, 2), (18, 3), (18, 5), (18, 6), (7, 18), (18, 7), (18, 10), (18, 11), (18, 12), (18, 14), (18, 15), (16, 18), (18, 16), (17, 18), (18, 17)] | 3 => [(6, 1), (6, 2), (6, 3)] | 6 => [(6, 1), (6, 2), (6, 3)] | 7 => [(6, 1), (6, 2), (6, 3)] | _ => []) Try.f156 mMendInners := by
  refine does4 (rs := [.tmp 8, .tmp 9]) rfl rfl fun m a k b ro h => ?_
  obtain ⟨⟨hs, hgl, ⟨a0, a1, b0, b1⟩, va, vb⟩, rfl⟩ := gd_some h
  refine ⟨fun hc => (by cases hc), ?_⟩
  clear h
  obtain ⟨a, rfl⟩ : ∃ n : Nat, a = n := ⟨a.toNat, by omega⟩
  obtain ⟨b, rfl⟩ : ∃ n : Nat, b = n := ⟨b.toNat, by omega⟩
  rw [Int.toNat_natCast, Int.toNat_natCast] at *
  obtain ⟨ps, gn, js⟩ := m
  dsimp only at hs hgl a1 b1 va vb ⊢
  have hsa := tr_small (t := ⟨0, ps⟩) hs a
  have hsb := tr_small (t := ⟨0, ps⟩) hs b
  rw [pgAt_nat] at hsa hsb
  dsimp only at hsa hsb
  have hml : miX ps a k b = bothV ⟨(ps.getD a default).keys, (ps.getD a default).kids⟩ k ⟨(ps.getD b default).keys, (ps.getD b default).kids⟩ := rfl
  have hx1 : (miX ps a k b).keys.length = (ps.getD a default).keys.length + 1 + (ps.getD b default).keys.length := by
    show (_ ++ _ :: _ : List Int).length = _
    rw [List.length_append, List.length_cons]; dsimp only; omega
  have hx2 : (miX ps a k b).kids.length = (ps.getD a default).kids.length + (ps.getD b default).kids.length := List.length_append
  generalize hPa : ps.getD a default = Pa at *
  generalize hPb : ps.getD b default = Pb at *
  by_cases h4 : (miX ps a k b).keys.length ≤ 4
  · have e4 : decide (((miX ps a k b).keys.length : Int) ≤ 4) = true := decide_eq_true (by omega)
    rw [miV_t h4]
    generalize miX ps a k b = X at *
    have hls : (ps.set a (⟨X.keys, X.kids, []⟩ : Pg)).length = ps.length := List.length_set
    simp (config := {maxSteps := 1000000}) (disch := omega) only [go_sem, ↓reduceIte, Nat.reduceEqDiff, Nat.reduceAdd, Nat.reduceMul, Nat.reduceSub, Nat.reduceLeDiff, Nat.reduceLT, Int.reduceToNat, Int.reduceLE, Int.reduceLT, Int.reduceNeg, h_insideIA, h_bothOf, mBoth, h_innerPage, h_halvesOf, mHalf, drP_n, drP_c, logAt_n, logAt_c, disP_n, disP_c, notIn_n, notIn_c, csMd, hPa, hPb, ePg, ← hml, e4, set_pgB, hls]
  · have e4 : decide (((miX ps a k b).keys.length : Int) ≤ 4) = false := decide_eq_false (by omega)
    rw [miV_f h4]
    generalize miX ps a k b = X at *
    generalize hH : halfV X = H at *
    have hls : (ps.set a (⟨H.a.keys, H.a.kids, []⟩ : Pg)).length = ps.length := List.length_set
    have hls2 : ((ps.set a (⟨H.a.keys, H.a.kids, []⟩ : Pg)).set b (⟨H.b.keys, H.b.kids, []⟩ : Pg)).length = ps.length := by rw [List.length_set, hls]
    have l1 : H.a.keys.length ≤ 16777216 * 3 ∧ H.a.kids.length ≤ 16777216 * 3 ∧ H.b.keys.length ≤ 16777216 * 3 ∧ H.b.kids.length ≤ 16777216 * 3 := by
      rw [← hH]
      simp only [halfV, List.length_take, List.length_drop]
      omega
    simp (config := {maxSteps := 1000000}) (disch := omega) only [go_sem, ↓reduceIte, Nat.reduceEqDiff, Nat.reduceAdd, Nat.reduceMul, Nat.reduceSub, Nat.reduceLeDiff, Nat.reduceLT, Int.reduceToNat, Int.reduceLE, Int.reduceLT, Int.reduceNeg, h_insideIA, h_bothOf, mBoth, h_innerPage, h_halvesOf, mHalf, drP_n, drP_c, logAt_n, logAt_c, disP_n, disP_c, notIn_n, notIn_c, csMd, hPa, hPb, ePg, ← hml, e4, hH, set_pgB, hls, hls2]
theorem fo_mendInners : FnOk Try.prog 156 := fnOk_of Try.func156 (by kernel_rfl)
theorem c_mendInners : Contract Try.prog 156 mMendInners :=
  contract_of_does (DT := fun id => match id with | 1 => [(7, 10), (7, 11), (7, 12), (7, 14), (7, 15), (18, 1), (18, 2), (18, 3), (18, 5), (18, 6), (7, 18), (18, 7), (18, 10), (18, 11), (18, 12), (18, 14), (18, 15), (16, 18), (18, 16), (17, 18), (18, 17)] | 3 => [(6, 1), (6, 2), (6, 3)] | 6 => [(6, 1), (6, 2), (6, 3)] | 7 => [(6, 1), (6, 2), (6, 3)] | _ => []) Try.checked.mixed tabOk (gok_alias fo_insideIA c_insideIA (gok_model fo_bothOf c_bothOf (gok_alias fo_innerPage c_innerPage (gok_model fo_halvesOf c_halvesOf gok_nil)))) Try.func156 rfl (by kernel_rfl) (does_mendInners rfl rfl rfl rfl)

end Go.TM
/- Contracts, 82: two kids are mended. -/
namespace Go.TM
open Go.Proofs
set_option linter.unusedVariables false
set_option linter.unusedSimpArgs false
set_option maxRecDepth 100000
set_option maxHeartbeats 8000000

def mdV (m : Md) (up : Int) (f : Nat) : Md := ⟨(mendF ⟨0, m.pages⟩ up f).1.pages, match (mendF ⟨0, m.pages⟩ up f).2 with | some b => m.gn.set b.toNat true | none => m.gn, match (mendF ⟨0, m.pages⟩ up f).2 with | some _ => m.js + 1 | none => m.js⟩
structure MdOk (m : Md) (up x : Int) : Prop where
  sm : smT m.pages = true
  gl : m.gn.length = 16
  pl : m.pages.length ≤ 16
  ru : 0 ≤ up ∧ up < m.pages.length
  ix : (pgAt ⟨0, m.pages⟩ up).kids.idxOf x < (pgAt ⟨0, m.pages⟩ up).kids.length
  ne : (pgAt ⟨0, m.pages⟩ up).kids.getD ((pgAt ⟨0, m.pages⟩ up).kids.idxOf x - 1) 0 ≠ (pgAt ⟨0, m.pages⟩ up).kids.getD ((pgAt ⟨0, m.pages⟩ up).kids.idxOf x - 1 + 1) 0 ∧ (pgAt ⟨0, m.pages⟩ up).kids.getD ((pgAt ⟨0, m.pages⟩ up).kids.idxOf x - 1) 0 ≠ up ∧ (pgAt ⟨0, m.pages⟩ up).kids.getD ((pgAt ⟨0, m.pages⟩ up).kids.idxOf x - 1 + 1) 0 ≠ up
  two : ∃ lf, Two ⟨0, m.pages⟩ lf (pgAt ⟨0, m.pages⟩ up) ((pgAt ⟨0, m.pages⟩ up).kids.idxOf x - 1) ((pgAt ⟨0, m.pages⟩ up).kids.getD ((pgAt ⟨0, m.pages⟩ up).kids.idxOf x - 1) 0) ((pgAt ⟨0, m.pages⟩ up).kids.getD ((pgAt ⟨0, m.pages⟩ up).kids.idxOf x - 1 + 1) 0)
  js : 0 ≤ m.js ∧ m.js ≤ 1000
noncomputable instance (m : Md) (up x : Int) : Decidable (MdOk m up x) := Classical.propDecidable _
noncomputable def mMend : Model := M3 .io .ro .ro false cMd cI cI fun m up x => gd (MdOk m up x) (.tup [], [csMd (mdV m up ((pgAt ⟨0, m.pages⟩ up).kids.idxOf x - 1))])
theorem mend_t {t : Tr} {up : Int} {f : Nat} {p : Pg} {a b : Int} {q : Pg} (hp : pgAt t up = p) (ha : p.kids.getD f 0 = a) (hb : p.kids.getD (f + 1) 0 = b) (hq : joinP (pgAt t a) (p.keys.getD f 0) (pgAt t b) = q) (h : q.keys.length ≤ 4) :
    mendF t up f = (setPg (setPg t a q) up (cutK p (f + 1)), some b) := by
  subst hp ha hb hq
  exact if_pos h
theorem mend_f {t : Tr} {up : Int} {f : Nat} {p : Pg} {a b : Int} {q : Pg} (hp : pgAt t up = p) (ha : p.kids.getD f 0 = a) (hb : p.kids.getD (f + 1) 0 = b) (hq : joinP (pgAt t a) (p.keys.getD f 0) (pgAt t b) = q) (h : ¬ q.keys.length ≤ 4) :
    mendF t up f = (setPg (setPg (setPg t a (splP q).a) b (splP q).b) up ⟨p.keys.set f (splP q).key, p.kids, p.vals⟩, none) := by
  subst hp ha hb hq
  exact if_neg h

theorem md_set {x : A} {gn : List Bool} {js : Int} {y : Nat} {v : Bool} (h : y < gn.length) : (x :: tlPc gn js).set (1 + y) (.b v) = x :: tlPc (gn.set y v) js := by
  rw [Nat.add_comm, List.set_cons_succ, tl_set h]
theorem md_get17 {x : A} {gn : List Bool} {js : Int} (h : gn.length = 16) : (x :: tlPc gn js)[17]? = some (.i .i64 js) := by
  rw [List.getElem?_cons_succ, tl_get16 h]
theorem md_set17 {x : A} {gn : List Bool} {js v : Int} (h : gn.length = 16) : (x :: tlPc gn js).set 17 (.i .i64 v) = x :: tlPc gn v := by
  rw [List.set_cons_succ, tl_set16 h]

theorem does_mend {G : Nat → Option FM} (h_placeOfKid : G 78 = some (.model mPlaceKid)) (h_mendLeaves : G 155 = some (.model mMendLeaves)) (h_mendInners : G 156 = some (.model mMendInners)) (h_insideIA : G 80 = some (.alias [3] [.arg 0 0, .arg 0 1])) (h_cutAt : G 157 = some (.model mCutAt)) (h_innerPage : G 77 = some (.alias [2] [.arg 0 0, .arg 0 1, .nil 1])) : Does T G (fun id => match id with | 9 => [(12, 1), (12, 2), (12, 3), (14, 1), (14, 2), (14, 3), (15, 1), (15, 2), (15, 3)] | _ => []) Try.f113 mMend := by
  refine does3 (rs := []) rfl rfl fun m up x ro h => ?_
  obtain ⟨hok, rfl⟩ := gd_some h
  refine ⟨fun hc => (by cases hc), ?_⟩
  clear h
  obtain ⟨hs, hgl, hpl, ⟨u0, u1⟩, hix, ⟨n1, n2, n3⟩, ⟨lf, htw⟩, ⟨js0, js1⟩⟩ := hok
  obtain ⟨ps, gn, js⟩ := m
  obtain ⟨un, rfl⟩ : ∃ n : Nat, up = n := ⟨up.toNat, by omega⟩
  rw [pgAt_nat] at *
  dsimp only at *
  have hsu := tr_small (t := ⟨0, ps⟩) hs un
  rw [pgAt_nat] at hsu
  dsimp only at hsu
  have hpU : pgAt ⟨0, ps⟩ (un : Int) = ps.getD un default := pgAt_nat _ un
  have hplc : placeV (ps.getD un default).kids x = ((ps.getD un default).kids.idxOf x : Int) := if_pos (List.idxOf_lt_length_iff.1 hix)
  generalize hP : ps.getD un default = P at *
  have tf := htw.f
  have tk := htw.kids
  have tkl := htw.kl
  obtain ⟨ra0, ra1⟩ := htw.ra
  obtain ⟨rb0, rb1⟩ := htw.rb
  have hmx : (if (1 : Int) > (P.kids.idxOf x : Int) then (1 : Int) else (P.kids.idxOf x : Int)) = ((P.kids.idxOf x - 1 + 1 : Nat) : Int) := by split <;> omega
  generalize P.kids.idxOf x - 1 = f at *
  obtain ⟨an, ha⟩ : ∃ n : Nat, P.kids.getD f 0 = n := ⟨(P.kids.getD f 0).toNat, by omega⟩
  obtain ⟨bn, hb⟩ : ∃ n : Nat, P.kids.getD (f + 1) 0 = n := ⟨(P.kids.getD (f + 1) 0).toNat, by omega⟩
  rw [ha, hb] at n1 htw
  rw [ha] at n2 ra0 ra1
  rw [hb] at n3 rb0 rb1
  dsimp only at ra1 rb1
  have hpA : pgAt ⟨0, ps⟩ (an : Int) = ps.getD an default := pgAt_nat _ an
  have hpB : pgAt ⟨0, ps⟩ (bn : Int) = ps.getD bn default := pgAt_nat _ bn
  have ta := htw.ka
  have tb := htw.kb
  have tl := htw.leaf1
  have ti := htw.inn
  rw [hpA] at ta tl ti
  rw [hpB] at tb tl ti
  have e1 : ((f + 1 : Nat) : Int) - 1 = f := by omega
  have hml : mlP ps an bn = prP (ps.getD an default) ++ prP (ps.getD bn default) := rfl
  have hmi : ∀ k, miX ps an k bn = bothV ⟨(ps.getD an default).keys, (ps.getD an default).kids⟩ k ⟨(ps.getD bn default).keys, (ps.getD bn default).kids⟩ := fun _ => rfl
  have tlc := tlPc_len (ld := js) hgl
  have hgs : (gn.set bn true).length = 16 := by rw [List.length_set, hgl]
  generalize hPa : ps.getD an default = Pa at *
  generalize hPb : ps.getD bn default = Pb at *
  cases lf
  · obtain ⟨va, vb, ka, kb⟩ := ti rfl
    have e7 : decide ((Pa.kids.length : Int) = 0) = false := decide_eq_false (by omega)
    have e7' : decide (((Pa.keys.length + 1 : Nat) : Int) = 0) = false := decide_eq_false (by omega)
    obtain ⟨kk, hkk⟩ : ∃ kk, P.keys.getD f 0 = kk := ⟨_, rfl⟩
    have hq : joinP (pgAt ⟨0, ps⟩ (an : Int)) (P.keys.getD f 0) (pgAt ⟨0, ps⟩ (bn : Int)) = ⟨(miX ps an kk bn).keys, (miX ps an kk bn).kids, []⟩ := by
      rw [hpA, hpB, hmi, hkk]
      exact if_neg (by omega)
    by_cases h4 : (miX ps an kk bn).keys.length ≤ 4
    · have hmt := mend_t (t := ⟨0, ps⟩) (up := un) (f := f) hpU ha hb hq h4
      have hv := miV_t h4
      generalize hLA : (⟨(miX ps an kk bn).keys, (miX ps an kk bn).kids, []⟩ : Pg) = LA at *
      have hP2 : (ps.set an LA).getD un default = P := by
        rw [← hP, List.getD_eq_getElem?_getD, List.getElem?_set_ne (by omega), List.getD_eq_getElem?_getD]
      have hls : (ps.set an LA).length = ps.length := List.length_set
      unfold mdV
      dsimp only
      rw [hmt]
      simp only [setPg, Int.toNat_natCast]
      simp (config := {maxSteps := 1000000}) (disch := omega) only [go_sem, ↓reduceIte, Nat.reduceEqDiff, Nat.reduceAdd, Nat.reduceMul, Nat.reduceSub, Nat.reduceLeDiff, Nat.reduceLT, Int.reduceToNat, Int.reduceLE, Int.reduceLT, Int.reduceNeg, h_placeOfKid, mPlaceKid, h_mendLeaves, mMendLeaves, h_mendInners, mMendInners, h_insideIA, h_cutAt, mCutAt, h_innerPage, drP_n, drP_c, logAt_n, logAt_c, disP_n, disP_c, notIn_n, notIn_c, csMd, tlc, hP, ePg, hplc, hmx, e1, ha, hb, hkk, hs, hgl, hPa, hPb, e7, e7', va, vb, hv, hP2, hls, set_pgB, md_set, md_get17, md_set17]
      rw [List.length_set, List.length_set]
      rfl
    · have hmf := mend_f (t := ⟨0, ps⟩) (up := un) (f := f) hpU ha hb hq h4
      have hv := miV_f h4
      have hsp := splP_inn (p := ⟨(miX ps an kk bn).keys, (miX ps an kk bn).kids, []⟩) (by show (miX ps an kk bn).kids.length ≠ 0; rw [hmi]; show (_ ++ _ : List Int).length ≠ 0; rw [List.length_append]; dsimp only; omega)
      dsimp only at hsp
      rw [show (⟨(miX ps an kk bn).keys, (miX ps an kk bn).kids⟩ : Inn) = miX ps an kk bn from rfl] at hsp
      generalize hLA : (⟨(halfV (miX ps an kk bn)).a.keys, (halfV (miX ps an kk bn)).a.kids, []⟩ : Pg) = LA at *
      generalize hLB : (⟨(halfV (miX ps an kk bn)).b.keys, (halfV (miX ps an kk bn)).b.kids, []⟩ : Pg) = LB at *
      generalize (halfV (miX ps an kk bn)).key = sk at *
      have hls : ((ps.set an LA).set bn LB).length = ps.length := by rw [List.length_set, List.length_set]
      have hP2 : ((ps.set an LA).set bn LB).getD un default = P := by
        rw [← hP, List.getD_eq_getElem?_getD, List.getElem?_set_ne (by omega), List.getElem?_set_ne (by omega), List.getD_eq_getElem?_getD]
      unfold mdV
      dsimp only
      rw [hmf, hsp]
      simp only [setPg, Int.toNat_natCast]
      generalize hG : (ps.set an LA).set bn LB = G at *
      simp (config := {maxSteps := 1000000}) (disch := omega) only [go_sem, ↓reduceIte, Nat.reduceEqDiff, Nat.reduceAdd, Nat.reduceMul, Nat.reduceSub, Nat.reduceLeDiff, Nat.reduceLT, Int.reduceToNat, Int.reduceLE, Int.reduceLT, Int.reduceNeg, h_placeOfKid, mPlaceKid, h_mendLeaves, mMendLeaves, h_mendInners, mMendInners, h_insideIA, h_cutAt, mCutAt, h_innerPage, drP_n, drP_c, logAt_n, logAt_c, disP_n, disP_c, notIn_n, notIn_c, csMd, tlc, hP, ePg, hplc, hmx, e1, ha, hb, hkk, hs, hgl, hPa, hPb, e7, e7', va, vb, hv, hP2, hls, hG]
      have hfin := set_pg0 (xs := P.keys.set f sk) (n := P.keys.length) (by rw [List.length_set]) (ps := G) (k := un) (by omega)
      rw [hfin, hP2, List.length_set, hls]
  · obtain ⟨⟨ka, va⟩, ⟨kb, vb⟩, hvr⟩ := tl rfl
    rw [← hml] at hvr
    have e7 : decide ((Pa.kids.length : Int) = 0) = true := decide_eq_true (by rw [ka]; rfl)
    have hq : joinP (pgAt ⟨0, ps⟩ (an : Int)) (P.keys.getD f 0) (pgAt ⟨0, ps⟩ (bn : Int)) = leafP (mlP ps an bn) := by
      rw [hpA, hpB, hml]
      exact if_pos (by rw [ka]; rfl)
    have hql : (leafP (mlP ps an bn)).keys.length = (mlP ps an bn).length := keysP_len _
    by_cases h4 : (mlP ps an bn).length ≤ 4
    · have hmt := mend_t (t := ⟨0, ps⟩) (up := un) (f := f) hpU ha hb hq (by rw [hql]; exact h4)
      have hv := mlV_t h4
      generalize hLA : leafP (mlP ps an bn) = LA at *
      have hP2 : (ps.set an LA).getD un default = P := by
        rw [← hP, List.getD_eq_getElem?_getD, List.getElem?_set_ne (by omega), List.getD_eq_getElem?_getD]
      have hls : (ps.set an LA).length = ps.length := List.length_set
      unfold mdV
      dsimp only
      rw [hmt]
      simp only [setPg, Int.toNat_natCast]
      simp (config := {maxSteps := 1000000}) (disch := omega) only [go_sem, ↓reduceIte, Nat.reduceEqDiff, Nat.reduceAdd, Nat.reduceMul, Nat.reduceSub, Nat.reduceLeDiff, Nat.reduceLT, Int.reduceToNat, Int.reduceLE, Int.reduceLT, Int.reduceNeg, h_placeOfKid, mPlaceKid, h_mendLeaves, mMendLeaves, h_mendInners, mMendInners, h_insideIA, h_cutAt, mCutAt, h_innerPage, drP_n, drP_c, logAt_n, logAt_c, disP_n, disP_c, notIn_n, notIn_c, csMd, tlc, hP, ePg, hplc, hmx, e1, ha, hb, hs, hgl, hPa, hPb, e7, hvr, va, vb, hv, hP2, hls, set_pgB, md_set, md_get17, md_set17]
      rw [List.length_set, List.length_set]
      rfl
    · have hmf := mend_f (t := ⟨0, ps⟩) (up := un) (f := f) hpU ha hb hq (by rw [hql]; exact h4)
      have hv := mlV_f h4
      have hsp := splP_leaf (p := leafP (mlP ps an bn)) rfl
      rw [prP_leafP, hql] at hsp
      generalize hLA : leafP ((mlP ps an bn).take (((mlP ps an bn).length + 1) / 2)) = LA at *
      generalize hLB : leafP ((mlP ps an bn).drop (((mlP ps an bn).length + 1) / 2)) = LB at *
      generalize (((mlP ps an bn).drop (((mlP ps an bn).length + 1) / 2)).getD 0 default).1 = sk at *
      have hls : ((ps.set an LA).set bn LB).length = ps.length := by rw [List.length_set, List.length_set]
      have hP2 : ((ps.set an LA).set bn LB).getD un default = P := by
        rw [← hP, List.getD_eq_getElem?_getD, List.getElem?_set_ne (by omega), List.getElem?_set_ne (by omega), List.getD_eq_getElem?_getD]
      unfold mdV
      dsimp only
      rw [hmf, hsp]
      simp only [setPg, Int.toNat_natCast]
      generalize hG : (ps.set an LA).set bn LB = G at *
      simp (config := {maxSteps := 1000000}) (disch := omega) only [go_sem, ↓reduceIte, Nat.reduceEqDiff, Nat.reduceAdd, Nat.reduceMul, Nat.reduceSub, Nat.reduceLeDiff, Nat.reduceLT, Int.reduceToNat, Int.reduceLE, Int.reduceLT, Int.reduceNeg, h_placeOfKid, mPlaceKid, h_mendLeaves, mMendLeaves, h_mendInners, mMendInners, h_insideIA, h_cutAt, mCutAt, h_innerPage, drP_n, drP_c, logAt_n, logAt_c, disP_n, disP_c, notIn_n, notIn_c, csMd, tlc, hP, ePg, hplc, hmx, e1, ha, hb, hs, hgl, hPa, hPb, e7, hvr, va, vb, hv, hP2, hls, hG]
      have hfin := set_pg0 (xs := P.keys.set f sk) (n := P.keys.length) (by rw [List.length_set]) (ps := G) (k := un) (by omega)
      rw [hfin, hP2, List.length_set, hls]
theorem fo_mend : FnOk Try.prog 113 := fnOk_of Try.func113 (by kernel_rfl)
theorem c_mend : Contract Try.prog 113 mMend :=
  contract_of_does (DT := fun id => match id with | 9 => [(12, 1), (12, 2), (12, 3), (14, 1), (14, 2), (14, 3), (15, 1), (15, 2), (15, 3)] | _ => []) Try.checked.mixed tabOk (gok_model fo_placeOfKid c_placeOfKid (gok_model fo_mendLeaves c_mendLeaves (gok_model fo_mendInners c_mendInners (gok_alias fo_insideIA c_insideIA (gok_model fo_cutAt c_cutAt (gok_alias fo_innerPage c_innerPage gok_nil)))))) Try.func113 rfl (by kernel_rfl) (does_mend rfl rfl rfl rfl rfl rfl)

end Go.TM
