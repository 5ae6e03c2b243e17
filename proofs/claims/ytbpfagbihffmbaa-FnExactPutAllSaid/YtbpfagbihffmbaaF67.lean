/- Contracts, 67: a pair is put into a tree: the program's side. -/
import Derived.Test.YtbpfagbihffmbaaF66
namespace Go.TM
open Go.Proofs
set_option linter.unusedVariables false
set_option linter.unusedSimpArgs false
set_option maxRecDepth 100000
set_option maxHeartbeats 8000000

/-! ### What holds at each level -/

theorem splP_sm {p : Pg} (h : SmP p) : SmP (splP p).a ∧ SmP (splP p).b := by
  have h1 := h.keys; have h2 := h.kids; have h3 := h.vals
  have hl := prP_len p
  by_cases hk : p.kids.length = 0
  · rw [splP_leaf hk]
    have k1 : ∀ r : List Pr, r.length ≤ 5 → SmP (leafP r) := fun r hr => ⟨by show (keysP r).length ≤ 5; rw [keysP_len]; exact hr, by show 0 ≤ 6; omega, by show (r.map (·.2)).length ≤ 5; rw [List.length_map]; exact hr⟩
    exact ⟨k1 _ (by rw [List.length_take]; omega), k1 _ (by rw [List.length_drop]; omega)⟩
  · rw [splP_inn hk]
    refine ⟨⟨?_, ?_, ?_⟩, ⟨?_, ?_, ?_⟩⟩
    · show (p.keys.take _).length ≤ 5; rw [List.length_take]; omega
    · show (p.kids.take _).length ≤ 6; rw [List.length_take]; omega
    · show 0 ≤ 5; omega
    · show (p.keys.drop _).length ≤ 5; rw [List.length_drop]; omega
    · show (p.kids.drop _).length ≤ 6; rw [List.length_drop]; omega
    · show 0 ≤ 5; omega
theorem PD.smP {t : Tr} : ∀ {h : Nat} {x : Int}, PD t h x → SmP (pgAt t x)
  | 0, x, p => by
    have l := p.leaf
    have := l.len; have := l.vals
    exact ⟨by omega, by rw [l.kids]; exact Nat.zero_le _, by omega⟩
  | h + 1, x, p => by
    have l := p.inn
    have := l.len; have := l.kids
    exact ⟨by omega, by omega, by rw [l.vals]; exact Nat.zero_le _⟩
structure PutJ (t : Tr) (key : Int) (i : Nat) (u : Tr) : Prop where
  inv : PutInv t key i u
  sm : ∀ p ∈ u.pages, SmP p
theorem TV.smAll {t : Tr} (h : TV t) : ∀ p ∈ t.pages, SmP p := fun p hp => by
  obtain ⟨i, hi, rfl⟩ := List.getElem_of_mem hp
  obtain ⟨h', pd⟩ := h.pg hi
  have := pd.smP
  rw [pgAt_nat] at this
  simpa [hi] using this
theorem putJ_start {t : Tr} (hv : TV t) {a b : Int} (ha : 0 ≤ a ∧ a ≤ 99) (hb : -1000 ≤ b ∧ b ≤ 1000) : PutJ t a (htT t) (putL t (a, b)) := by
  refine ⟨put_start hv ha hb, fun p hp => ?_⟩
  rcases List.mem_or_eq_of_mem_set hp with hp | rfl
  · exact hv.smAll p hp
  · have h1 := putV_len (prP (pgAt t (leafT t a))) (a, b)
    have h2 := (leafF_pd (key := a) hv.pd).leaf.len
    rw [prP_len] at h1
    have h3 : (putV (prP (pgAt t (leafT t a))) (a, b)).length ≤ 5 := by
      have h2' : (pgAt t (leafT t a)).keys.length ≤ 4 := h2
      omega
    exact ⟨by show (keysP _).length ≤ 5; rw [keysP_len]; exact h3, by show 0 ≤ 6; omega, by show (List.map _ _).length ≤ 5; rw [List.length_map]; exact h3⟩
theorem PutJ.smT {t : Tr} {key : Int} {i : Nat} {u : Tr} (hv : TV t) (h : PutJ t key i u) : SmTr u := by
  have h1 := h.inv.len
  have h2 := hv.len.2
  have h3 := hv.ht
  have h4 := tot_le (m := 16) fun p hp => (h.sm p hp).tot
  exact ⟨by omega, by omega⟩
theorem PutJ.page {t : Tr} {key : Int} {i : Nat} {u : Tr} (hv : TV t) (h : PutJ t key i u) : 0 ≤ (pathF t key (htT t) t.root).getD i 0 ∧ (pathF t key (htT t) t.root).getD i 0 < u.pages.length := by
  have h1 := (pathF_pd (key := key) hv.pd i h.inv.il).rng
  have h2 := h.inv.len
  omega
/-- A page that must be split can be. -/
theorem PutJ.spP {t : Tr} {key : Int} {i : Nat} {u : Tr} (hv : TV t) (h : PutJ t key i u) (h4 : ¬ (pgAt u ((pathF t key (htT t) t.root).getD i 0)).keys.length ≤ 4) : SpP (pgAt u ((pathF t key (htT t) t.root).getD i 0)) := by
  have hp := h.page hv
  have hI := h.inv
  have hm : pgAt u ((pathF t key (htT t) t.root).getD i 0) ∈ u.pages := by
    unfold pgAt
    rw [List.getD_eq_getElem?_getD, List.getElem?_eq_getElem (by omega)]
    exact List.getElem_mem _
  have hsm := h.sm _ hm
  refine ⟨hsm, by omega, fun hk => ?_, fun hk => ?_⟩
  · rcases Nat.lt_or_ge i (htT t) with hi | hi
    · have := (hI.inn hi).2.1
      omega
    · obtain ⟨l1, l2, l3⟩ := hI.leaf (by have := hI.il; omega)
      refine ⟨?_, l2⟩
      have hkl := hsm.keys
      unfold vRow
      rw [prP_keys, hI.vk, Bool.and_true, Bool.and_eq_true]
      refine ⟨List.all_eq_true.2 fun p hp => ?_, decide_eq_true (by rw [prP_len]; omega)⟩
      obtain ⟨j, hj, rfl⟩ := List.mem_map.1 hp
      rw [List.mem_range] at hj
      exact List.all_eq_true.1 l3 _ (getD_mem (by omega))
  · rcases Nat.lt_or_ge i (htT t) with hi | hi
    · exact (hI.inn hi).2.1
    · obtain ⟨l1, _⟩ := hI.leaf (by have := hI.il; omega)
      rw [l1] at hk
      exact (hk rfl).elim
theorem mem_app_set {ps : List Pg} {k : Nat} {a b : Pg} {P : Pg → Prop} (h : ∀ p ∈ ps, P p) (ha : P a) (hb : P b) : ∀ p ∈ ps.set k a ++ [b], P p := by
  intro p hp
  rcases List.mem_append.1 hp with hp | hp
  · rcases List.mem_or_eq_of_mem_set hp with hp | rfl
    · exact h p hp
    · exact ha
  · rw [List.mem_singleton] at hp
    rw [hp]; exact hb
theorem adU_sm {t : Tr} {key : Int} {i : Nat} {u : Tr} (hv : TV t) (h : PutJ t key i u) : ∀ p ∈ (adU (pathF t key (htT t) t.root) i u).pages, SmP p := by
  have hp := h.page hv
  have hm : pgAt u ((pathF t key (htT t) t.root).getD i 0) ∈ u.pages := by
    unfold pgAt
    rw [List.getD_eq_getElem?_getD, List.getElem?_eq_getElem (by omega)]
    exact List.getElem_mem _
  obtain ⟨s1, s2⟩ := splP_sm (h.sm _ hm)
  exact mem_app_set h.sm s1 s2
theorem PutJ.up {t : Tr} {key : Int} {i : Nat} {u : Tr} (hv : TV t) (hk : 0 ≤ key ∧ key ≤ 99) (h : PutJ t key (i + 1) u) (h4 : ¬ (pgAt u ((pathF t key (htT t) t.root).getD (i + 1) 0)).keys.length ≤ 4) :
    PutJ t key i (setPg (adU (pathF t key (htT t) t.root) (i + 1) u) ((pathF t key (htT t) t.root).getD i 0) (uqU (pathF t key (htT t) t.root) i u)) := by
  obtain ⟨s1, s2, s3, s4, s7, s8, s5⟩ := put_step hv hk h.inv (by omega) _ _ _ _ _ rfl rfl rfl rfl rfl
  refine ⟨s7, fun p hp => ?_⟩
  rcases List.mem_or_eq_of_mem_set hp with hp | rfl
  · exact adU_sm hv h p hp
  · have hpd := pathF_pd (key := key) hv.pd i (by have := h.inv.il; omega)
    obtain ⟨h', hh'⟩ : ∃ h', htT t - i = h' + 1 := ⟨htT t - i - 1, by have := h.inv.il; omega⟩
    rw [hh'] at hpd
    have hin := hpd.inn
    have q1 := hin.len
    have q2 := hin.kids
    rw [s1] at s3
    have e : uqU (pathF t key (htT t) t.root) i u = addK (pgAt t ((pathF t key (htT t) t.root).getD i 0)) ((pgAt t ((pathF t key (htT t) t.root).getD i 0)).kids.idxOf ((pathF t key (htT t) t.root).getD (i + 1) 0)) (sqU (pathF t key (htT t) t.root) (i + 1) u).key u.pages.length := by
      show addK (pgAt _ _) _ _ _ = _
      rw [s1]
    rw [e]
    refine ⟨?_, ?_, ?_⟩
    · show (insL _ _ _).length ≤ 5
      rw [insL_len (by omega)]; omega
    · show (insL _ _ _).length ≤ 6
      rw [insL_len (by omega)]; omega
    · show 0 ≤ 5; omega

theorem app_pgz {R : List Pg} {k : Nat} {a b c : Int} (h : R.length = k) : (R.flatMap (ePg true)).take (k * 3) ++ [A.s true 1 1 [.i .i64 a], A.s true 1 2 [.i .i64 b, .i .i64 c], A.s true 1 0 []] = (R ++ [(⟨[a], [b, c], []⟩ : Pg)]).flatMap (ePg true) :=
  app_pg (x := [a]) (y := [b, c]) (z := []) ⟨h, rfl, rfl, rfl⟩
theorem set_pgp {ps : List Pg} {k : Nat} {p : Pg} (h : k < ps.length) : setR (k * 3) [.s true 1 p.keys.length (p.keys.map eI), .s true 1 p.kids.length (p.kids.map eI), .s true 1 p.vals.length (p.vals.map eI)] (ps.flatMap (ePg true)) = (ps.set k p).flatMap (ePg true) := set_pg' h rfl rfl rfl

theorem set_pgA {ps : List Pg} {k : Nat} {x : Inn} (h : k < ps.length) : setR (k * 3) [.s true 1 x.keys.length (x.keys.map eI), .s true 1 x.kids.length (x.kids.map eI), .s true 1 0 []] (ps.flatMap (ePg true)) = (ps.set k ⟨x.keys, x.kids, []⟩).flatMap (ePg true) := set_pg' (z := []) h rfl rfl rfl
noncomputable def mPutKey : Model := M2 .ro .ro true (cTr false) cPair fun t x => gd (smT t.pages = true) (.tup [eTr true (putKV t x).1, .b (putKV t x).2], [])
theorem putKV_f {t : Tr} {x : Pr} (h : ¬ (vTr t = true ∧ (inR x.1 0 99 = true ∧ inR x.2 (-1000) 1000 = true) ∧ vTr (putT t x) = true)) : putKV t x = (⟨0, []⟩, false) := if_neg h
theorem putKV_t {t : Tr} {x : Pr} (h : vTr t = true ∧ (inR x.1 0 99 = true ∧ inR x.2 (-1000) 1000 = true) ∧ vTr (putT t x) = true) : putKV t x = (putT t x, true) := if_pos h

theorem does_PutKeyI {G : Nat → Option FM} (h_ValidTreeI : G 66 = some (.model mValidTree)) (h_isPair : G 71 = some (.model (M1 .ro true cPair fun x => gd True (.b (inR x.1 0 99 && inR x.2 (-1000) 1000), [])))) (h_PathToI : G 72 = some (.model mPathTo)) (h_copyTreeI : G 67 = some (.model mCopyTree)) (h_pairsOfLeaf : G 75 = some (.model mRowOf)) (h_putInRow : G 74 = some (.model mPutIn)) (h_leafOfI : G 73 = some (.model mLeafOf)) (h_splitOne : G 76 = some (.model mSplitOne)) (h_innerPage : G 77 = some (.alias [2] [.arg 0 0, .arg 0 1, .nil 1])) (h_placeOfKid : G 78 = some (.model mPlaceKid)) (h_insideIA : G 80 = some (.alias [3] [.arg 0 0, .arg 0 1])) (h_AddKidI : G 79 = some (.model mAddKid)) : Does T G (fun id => match id with | 6 => [(8, 0), (8, 1), (8, 9), (10, 0), (10, 1), (11, 0), (11, 1)] | 25 => [(4, 0), (4, 1)] | _ => []) Try.f37 mPutKey := by
  refine does2 (rs := [.cell 4 28, .tmp 5]) rfl rfl fun t x ro h => ?_
  obtain ⟨hs, rfl⟩ := gd_some h
  refine ⟨fun _ => ⟨by simp only [cleanA, cleanL, clean_pgs, Bool.and_self], rfl⟩, ?_⟩
  clear h
  obtain ⟨a, b⟩ := x
  cases hv : vTr t
  · rw [putKV_f (by rw [hv]; simp)]
    simp (config := {maxSteps := 1000000}) (disch := omega) only [go_sem, ↓reduceIte, Nat.reduceEqDiff, Nat.reduceAdd, Nat.reduceMul, Nat.reduceSub, Nat.reduceLeDiff, Nat.reduceLT, Int.reduceToNat, Int.reduceLE, Int.reduceLT, Int.reduceNeg, h_ValidTreeI, mValidTree, h_isPair, M1, h_PathToI, mPathTo, h_copyTreeI, mCopyTree, h_pairsOfLeaf, mRowOf, h_putInRow, mPutIn, h_leafOfI, mLeafOf, h_splitOne, mSplitOne, h_innerPage, h_placeOfKid, mPlaceKid, h_insideIA, h_AddKidI, mAddKid, drP_n, drP_c, logAt_n, logAt_c, disP_n, disP_c, notIn_n, notIn_c, hs, hv]
    try rfl
  · by_cases hab : inR a 0 99 = true ∧ inR b (-1000) 1000 = true
    · obtain ⟨ha, hb⟩ := hab
      have ha' := inR_iff.1 ha
      have hb' := inR_iff.1 hb
      have eab : (inR a 0 99 && inR b (-1000) 1000) = true := by rw [ha, hb]; rfl
      have tv := vTr_iff.1 hv
      have ep := ptV_t (key := a) hv
      have pl := pathF_len t a (htT t) t.root
      have hl := pathF_last t a (htT t) t.root
      have h2 := tv.ht
      have pd := leafF_pd (key := a) tv.pd
      have lf := pd.leaf
      have hI0 := putJ_start tv ha' hb'
      have hfin := putI_eq tv ha' hb'
      have e0 : ((htT t + 1 : Nat) : Int) - 1 = htT t := by omega
      obtain ⟨y0, hy0⟩ : ∃ y0 : Nat, leafF t a (htT t) t.root = y0 := ⟨(leafF t a (htT t) t.root).toNat, by have := pd.rng; omega⟩
      have hu0 : (putL t (a, b)).pages = t.pages.set y0 (leafP (putV (prP (t.pages.getD y0 default)) (a, b))) := by
        show t.pages.set (leafF t a (htT t) t.root).toNat (leafP (putV (prP (pgAt t (leafF t a (htT t) t.root))) (a, b))) = _
        rw [hy0, pgAt_nat, Int.toNat_natCast]
      have hlast : (pathF t a (htT t) t.root).getD (htT t) 0 = y0 := by rw [hl, hy0]
      rw [hy0] at pd lf
      have hr0 := pd.rng
      have lk0 := lf.vk
      have ll0 := lf.len
      have lv0 := lf.vals
      rw [pgAt_nat] at lk0 ll0 lv0
      have hpl0 := prP_len (t.pages.getD y0 default)
      have hpk0 := prP_keys (t.pages.getD y0 default)
      have hpv0 := putV_len (prP (t.pages.getD y0 default)) (a, b)
      have hvk0 : vk (keysP (prP (t.pages.getD y0 default))) = true := by rw [hpk0]; exact lk0
      generalize hP : t.pages.getD y0 default = P at *
      generalize hw : pathF t a (htT t) t.root = w at *
      generalize hL : leafP (putV (prP P) (a, b)) = L at *
      simp (config := {maxSteps := 1000000}) (disch := omega) only [go_sem, ↓reduceIte, Nat.reduceEqDiff, Nat.reduceAdd, Nat.reduceMul, Nat.reduceSub, Nat.reduceLeDiff, Nat.reduceLT, Int.reduceToNat, Int.reduceLE, Int.reduceLT, Int.reduceNeg, h_ValidTreeI, mValidTree, h_isPair, M1, h_PathToI, mPathTo, h_copyTreeI, mCopyTree, h_pairsOfLeaf, mRowOf, h_putInRow, mPutIn, h_leafOfI, mLeafOf, h_splitOne, mSplitOne, h_innerPage, h_placeOfKid, mPlaceKid, h_insideIA, h_AddKidI, mAddKid, drP_n, drP_c, logAt_n, logAt_c, disP_n, disP_c, notIn_n, notIn_c, hs, hv, eab, ep, pl, e0, hlast, hvk0, hw, hP, hL, ePg, set_pgp]
      refine W_loop_i (fun s => s.sl 4 = .ptr (5, 0) [] 0 0 ∧ s.hp (5, 0) = some ⟨2, 1, [eI 0, .s true 3 0 []], fun _ => 0⟩ ∧ s.sl 6 = .ref (18, 0) [] 0 0 1 (htT t + 1) ∧ s.hp (18, 0) = some ⟨1, htT t + 1, w.map eI, fun _ => 0⟩ ∧ s.sl 7 = .ptr (22, 0) [] 0 0 ∧ 22 < s.n ∧ ∃ (i : Nat) (u : Tr), PutJ t a i u ∧ putUpI w i u = putUpI w (htT t) (putL t (a, b)) ∧ s.sl 9 = eI i ∧ ∃ v, s.hp (22, 0) = some ⟨2, 1, [eI u.root, .s true 3 u.pages.length (u.pages.flatMap (ePg true))], v⟩) (fun s => iN (s.sl 9)) ?_ ?_
      · refine ⟨rfl, rfl, rfl, rfl, rfl, by dsimp only [St.n]; omega, htT t, putL t (a, b), hI0, rfl, rfl, ?_⟩
        rw [hu0, show (putL t (a, b)).root = t.root from rfl]
        rw [show (t.pages.set y0 L).length = t.pages.length from List.length_set]
        exact ⟨_, rfl⟩
      · rintro sl hp q ⟨j4, j5, j6, j18, j7, jq, i, u, hJ, heq, j9, v, j22⟩
        dsimp only at j4 j5 j6 j18 j7 jq j9 j22
        have hil := hJ.inv.il
        have hsm := (hJ.smT tv).sm
        have hlen := hJ.inv.len
        have htl := tv.len
        have hpg := hJ.page tv
        rw [hw] at hpg
        obtain ⟨y, hy⟩ : ∃ y : Nat, w.getD i 0 = y := ⟨(w.getD i 0).toNat, by omega⟩
        rw [hy] at hpg
        have hpa : pgAt u (w.getD i 0) = u.pages.getD y default := by rw [hy]; exact pgAt_nat u y
        have hmem : u.pages.getD y default ∈ u.pages := by
          rw [List.getD_eq_getElem?_getD, List.getElem?_eq_getElem (by omega)]
          exact List.getElem_mem _
        have hsmQ := hJ.sm _ hmem
        have q1 := hsmQ.keys
        have q2 := hsmQ.kids
        have q3 := hsmQ.vals
        have e8 : decide ((0 : Int) ≤ (i : Int)) = true := decide_eq_true (by omega)
        generalize hQ : u.pages.getD y default = Q at *
        have hsb : sub u.pages 0 u.pages.length = u.pages := sub_all _
        by_cases h4 : Q.keys.length ≤ 4
        · have e4 : decide ((Q.keys.length : Int) ≤ 4) = true := decide_eq_true (by omega)
          rw [putUpI_le (by rw [hpa]; exact h4)] at heq
          have hu : u = putT t (a, b) := by
            rcases hfin with hf | ⟨hf, _⟩
            · rw [hf] at heq; exact Option.some.inj heq
            · rw [hf] at heq; cases heq
          cases hvu : vTr u
          · have hvu' : vTr ⟨u.root, u.pages⟩ = false := hvu
            rw [putKV_f (by rw [← hu, hvu]; simp)]
            simp (config := {maxSteps := 1000000}) (disch := omega) only [go_sem, ↓reduceIte, Nat.reduceEqDiff, Nat.reduceAdd, Nat.reduceMul, Nat.reduceSub, Nat.reduceLeDiff, Nat.reduceLT, Int.reduceToNat, Int.reduceLE, Int.reduceLT, Int.reduceNeg, h_ValidTreeI, mValidTree, h_isPair, M1, h_PathToI, mPathTo, h_copyTreeI, mCopyTree, h_pairsOfLeaf, mRowOf, h_putInRow, mPutIn, h_leafOfI, mLeafOf, h_splitOne, mSplitOne, h_innerPage, h_placeOfKid, mPlaceKid, h_insideIA, h_AddKidI, mAddKid, drP_n, drP_c, logAt_n, logAt_c, disP_n, disP_c, notIn_n, notIn_c, j4, j5, j6, j18, j7, j9, j22, hy, hQ, ePg, e8, e4, hsb, hsm, hvu, hvu']
            try rfl
          · have hvu' : vTr ⟨u.root, u.pages⟩ = true := hvu
            rw [putKV_t ⟨hv, ⟨ha, hb⟩, by rw [← hu, hvu]⟩, ← hu]
            simp (config := {maxSteps := 1000000}) (disch := omega) only [go_sem, ↓reduceIte, Nat.reduceEqDiff, Nat.reduceAdd, Nat.reduceMul, Nat.reduceSub, Nat.reduceLeDiff, Nat.reduceLT, Int.reduceToNat, Int.reduceLE, Int.reduceLT, Int.reduceNeg, h_ValidTreeI, mValidTree, h_isPair, M1, h_PathToI, mPathTo, h_copyTreeI, mCopyTree, h_pairsOfLeaf, mRowOf, h_putInRow, mPutIn, h_leafOfI, mLeafOf, h_splitOne, mSplitOne, h_innerPage, h_placeOfKid, mPlaceKid, h_insideIA, h_AddKidI, mAddKid, drP_n, drP_c, logAt_n, logAt_c, disP_n, disP_c, notIn_n, notIn_c, j4, j5, j6, j18, j7, j9, j22, hy, hQ, ePg, e8, e4, hsb, hsm, hvu, hvu']
            try exact trL2_eq rfl
        · have e4 : decide ((Q.keys.length : Int) ≤ 4) = false := decide_eq_false (by omega)
          have hsp := hJ.spP tv (by rw [hw, hpa]; exact h4)
          rw [hw, hpa] at hsp
          have hls : (u.pages.set y (splP Q).a).length = u.pages.length := List.length_set
          obtain ⟨sa, sb⟩ := splP_sm hsmQ
          have a1 := sa.keys
          have a2 := sa.kids
          have a3 := sa.vals
          have b1 := sb.keys
          have b2 := sb.kids
          have b3 := sb.vals
          cases i with
          | zero =>
            rw [putUpI_0 (by rw [hpa]; exact h4)] at heq
            have e9 : decide (((0 : Nat) : Int) = 0) = true := rfl
            simp only [adU, sqU, hpa, setPg, addPg] at heq
            rw [hy, Int.toNat_natCast] at heq
            generalize hS : splP Q = S at *
            have hls1 : (u.pages.set y S.a ++ [S.b]).length = u.pages.length + 1 := by rw [List.length_append, hls]; rfl
            generalize hA1 : u.pages.set y S.a ++ [S.b] = A1 at *
            have hls2 : (A1 ++ [(⟨[S.key], [(y : Int), u.pages.length], []⟩ : Pg)]).length = u.pages.length + 1 + 1 := by rw [List.length_append, hls1]; rfl
            have hA2s : ∀ p ∈ A1 ++ [(⟨[S.key], [(y : Int), u.pages.length], []⟩ : Pg)], SmP p := by
              intro p hp
              rcases List.mem_append.1 hp with hp | hp
              · rw [← hA1] at hp
                exact mem_app_set hJ.sm sa sb p hp
              · rw [List.mem_singleton] at hp
                rw [hp]
                exact ⟨by show 1 ≤ 5; omega, by show 2 ≤ 6; omega, by show 0 ≤ 5; omega⟩
            generalize hA2 : A1 ++ [(⟨[S.key], [(y : Int), u.pages.length], []⟩ : Pg)] = A2 at *
            have hA2t := tot_le (m := 16) (ps := A2) fun p hp => (hA2s p hp).tot
            have hth := tv.ht
            have hsm2 : smT A2 = true := SmTr.sm (t := ⟨0, A2⟩) ⟨by show A2.length ≤ 1000; omega, by show tot A2 ≤ 10000; omega⟩
            have hsb2 : sub A2 0 (u.pages.length + 1 + 1) = A2 := by rw [← hls2]; exact sub_all _
            have hu : (⟨(u.pages.length : Int) + 1, A2⟩ : Tr) = putT t (a, b) := by
              rcases hfin with hf | ⟨hf, _⟩
              · rw [hf] at heq; exact Option.some.inj heq
              · rw [hf] at heq; cases heq
            cases hvu : vTr ⟨(u.pages.length : Int) + 1, A2⟩
            · rw [putKV_f (by rw [← hu, hvu]; simp)]
              simp (config := {maxSteps := 1000000}) (disch := omega) only [go_sem, ↓reduceIte, Nat.reduceEqDiff, Nat.reduceAdd, Nat.reduceMul, Nat.reduceSub, Nat.reduceLeDiff, Nat.reduceLT, Int.reduceToNat, Int.reduceLE, Int.reduceLT, Int.reduceNeg, h_ValidTreeI, mValidTree, h_isPair, M1, h_PathToI, mPathTo, h_copyTreeI, mCopyTree, h_pairsOfLeaf, mRowOf, h_putInRow, mPutIn, h_leafOfI, mLeafOf, h_splitOne, mSplitOne, h_innerPage, h_placeOfKid, mPlaceKid, h_insideIA, h_AddKidI, mAddKid, drP_n, drP_c, logAt_n, logAt_c, disP_n, disP_c, notIn_n, notIn_c, j4, j5, j6, j18, j7, j9, j22, hy, hQ, ePg, e8, e4, e9, hsb, hsm, hsp, hS, set_pgp, app_pgp, hls, hA1, hls1, app_pgz, hA2, hsb2, hsm2, hvu]
              try rfl
            · rw [putKV_t ⟨hv, ⟨ha, hb⟩, by rw [← hu, hvu]⟩, ← hu]
              simp (config := {maxSteps := 1000000}) (disch := omega) only [go_sem, ↓reduceIte, Nat.reduceEqDiff, Nat.reduceAdd, Nat.reduceMul, Nat.reduceSub, Nat.reduceLeDiff, Nat.reduceLT, Int.reduceToNat, Int.reduceLE, Int.reduceLT, Int.reduceNeg, h_ValidTreeI, mValidTree, h_isPair, M1, h_PathToI, mPathTo, h_copyTreeI, mCopyTree, h_pairsOfLeaf, mRowOf, h_putInRow, mPutIn, h_leafOfI, mLeafOf, h_splitOne, mSplitOne, h_innerPage, h_placeOfKid, mPlaceKid, h_insideIA, h_AddKidI, mAddKid, drP_n, drP_c, logAt_n, logAt_c, disP_n, disP_c, notIn_n, notIn_c, j4, j5, j6, j18, j7, j9, j22, hy, hQ, ePg, e8, e4, e9, hsb, hsm, hsp, hS, set_pgp, app_pgp, hls, hA1, hls1, app_pgz, hA2, hsb2, hsm2, hvu]
              try exact trL2_eq hls2.symm
          | succ i =>
            have e9 : decide (((i + 1 : Nat) : Int) = 0) = false := decide_eq_false (by omega)
            have e10 : ((i + 1 : Nat) : Int) - 1 = i := by omega
            generalize hS : splP Q = S at *
            have hls1 : (u.pages.set y S.a ++ [S.b]).length = u.pages.length + 1 := by rw [List.length_append, hls]; rfl
            generalize hA1 : u.pages.set y S.a ++ [S.b] = A1 at *
            have hpd := pathF_pd (key := a) tv.pd i (by omega)
            rw [hw] at hpd
            obtain ⟨h', hh'⟩ : ∃ h', htT t - i = h' + 1 := ⟨htT t - i - 1, by omega⟩
            rw [hh'] at hpd
            have hin := hpd.inn
            have hr' := hpd.rng
            obtain ⟨y', hy'⟩ : ∃ y' : Nat, w.getD i 0 = y' := ⟨(w.getD i 0).toNat, by omega⟩
            have hin1 := hin.len
            have hin2 := hin.kids
            obtain ⟨s1, s2, s3, _, _, _, _⟩ := put_step tv ha' hJ.inv (by rw [hw, hpa]; omega) _ _ _ _ _ rfl rfl rfl rfl rfl
            have hup := hJ.up tv ha' (by rw [hw, hpa]; exact h4)
            rw [hw] at s1 s2 s3 hup
            have hadU : addPg (setPg u (w.getD (i + 1) 0) S.a) S.b = ⟨u.root, A1⟩ := by rw [← hA1, hy]; rfl
            have hus := fun hc => putUpI_s (path := w) (t := u) (i := i) (by rw [hpa]; exact h4) hc
            have hun := fun hc => putUpI_n (path := w) (t := u) (i := i) (by rw [hpa]; exact h4) hc
            have hQ' : pgAt ⟨u.root, A1⟩ (w.getD i 0) = A1.getD y' default := by rw [hy']; exact pgAt_nat _ y'
            simp only [uqU, adU, sqU, hpa, hS, hadU, hQ'] at s1 s2 s3 hup hus hun
            rw [← s1] at hin1 hin2
            rw [hy'] at hr' hup hus
            rw [hy] at s3 hup hus hun
            generalize hQd : A1.getD y' default = Q' at *
            have hpl : placeV Q'.kids (y : Int) = (Q'.kids.idxOf (y : Int) : Int) := if_pos (List.idxOf_lt_length_iff.1 s3)
            generalize Q'.kids.idxOf (y : Int) = c at *
            have s2' : vInn ⟨Q'.keys, Q'.kids⟩ = true := s2
            have hXl := addV_len (x := ⟨Q'.keys, Q'.kids⟩) (p := c) (k := S.key) (kid := u.pages.length) (by show c ≤ Q'.keys.length; omega) (by show c + 1 ≤ Q'.kids.length; omega)
            by_cases hX : vInn (addV ⟨Q'.keys, Q'.kids⟩ c S.key u.pages.length) = true
            · have eX : addKV ⟨Q'.keys, Q'.kids⟩ c S.key u.pages.length = (addV ⟨Q'.keys, Q'.kids⟩ c S.key u.pages.length, true) := addKV_t ⟨s2', ⟨by omega, by show (c : Int) < (Q'.kids.length : Int); omega⟩, hX⟩
              rw [hus ⟨s2, s3, hX⟩] at heq
              have hAK : addK Q' c S.key u.pages.length = ⟨(addV ⟨Q'.keys, Q'.kids⟩ c S.key u.pages.length).keys, (addV ⟨Q'.keys, Q'.kids⟩ c S.key u.pages.length).kids, []⟩ := rfl
              rw [hAK] at hup heq
              generalize addV ⟨Q'.keys, Q'.kids⟩ c S.key u.pages.length = X at *
              simp only [setPg, Int.toNat_natCast] at hup heq
              have hset : (A1.set y' (⟨X.keys, X.kids, []⟩ : Pg)).length = u.pages.length + 1 := by rw [List.length_set, hls1]
              simp (config := {maxSteps := 1000000}) (disch := omega) only [go_sem, ↓reduceIte, Nat.reduceEqDiff, Nat.reduceAdd, Nat.reduceMul, Nat.reduceSub, Nat.reduceLeDiff, Nat.reduceLT, Int.reduceToNat, Int.reduceLE, Int.reduceLT, Int.reduceNeg, h_ValidTreeI, mValidTree, h_isPair, M1, h_PathToI, mPathTo, h_copyTreeI, mCopyTree, h_pairsOfLeaf, mRowOf, h_putInRow, mPutIn, h_leafOfI, mLeafOf, h_splitOne, mSplitOne, h_innerPage, h_placeOfKid, mPlaceKid, h_insideIA, h_AddKidI, mAddKid, drP_n, drP_c, logAt_n, logAt_c, disP_n, disP_c, notIn_n, notIn_c, j4, j5, j6, j18, j7, j9, j22, hy, hy', hQ, ePg, e8, e4, e9, e10, hsb, hsm, hsp, hS, set_pgp, app_pgp, hls, hA1, hls1, hQd, hpl, eX, set_pgA]
              refine ⟨⟨i, ⟨u.root, A1.set y' ⟨X.keys, X.kids, []⟩⟩, hup, heq, rfl, ?_⟩, by omega⟩
              dsimp only
              rw [hset]
              exact ⟨_, rfl⟩
            · have eX : addKV ⟨Q'.keys, Q'.kids⟩ c S.key u.pages.length = (⟨[], []⟩, false) := addKV_f fun h => hX h.2.2
              rw [hun fun h => hX h.2.2] at heq
              have hnv : vTr (putT t (a, b)) = false := by
                rcases hfin with hf | ⟨_, hf⟩
                · rw [hf] at heq; cases heq
                · exact hf
              rw [putKV_f (by rw [hnv]; simp)]
              simp (config := {maxSteps := 1000000}) (disch := omega) only [go_sem, ↓reduceIte, Nat.reduceEqDiff, Nat.reduceAdd, Nat.reduceMul, Nat.reduceSub, Nat.reduceLeDiff, Nat.reduceLT, Int.reduceToNat, Int.reduceLE, Int.reduceLT, Int.reduceNeg, h_ValidTreeI, mValidTree, h_isPair, M1, h_PathToI, mPathTo, h_copyTreeI, mCopyTree, h_pairsOfLeaf, mRowOf, h_putInRow, mPutIn, h_leafOfI, mLeafOf, h_splitOne, mSplitOne, h_innerPage, h_placeOfKid, mPlaceKid, h_insideIA, h_AddKidI, mAddKid, drP_n, drP_c, logAt_n, logAt_c, disP_n, disP_c, notIn_n, notIn_c, j4, j5, j6, j18, j7, j9, j22, hy, hy', hQ, ePg, e8, e4, e9, e10, hsb, hsm, hsp, hS, set_pgp, app_pgp, hls, hA1, hls1, hQd, hpl, eX]
              try rfl
    · have eab : (inR a 0 99 && inR b (-1000) 1000) = false := by
        rw [Bool.eq_false_iff]; intro hh; rw [Bool.and_eq_true] at hh; exact hab hh
      rw [putKV_f (fun h => hab h.2.1)]
      simp (config := {maxSteps := 1000000}) (disch := omega) only [go_sem, ↓reduceIte, Nat.reduceEqDiff, Nat.reduceAdd, Nat.reduceMul, Nat.reduceSub, Nat.reduceLeDiff, Nat.reduceLT, Int.reduceToNat, Int.reduceLE, Int.reduceLT, Int.reduceNeg, h_ValidTreeI, mValidTree, h_isPair, M1, h_PathToI, mPathTo, h_copyTreeI, mCopyTree, h_pairsOfLeaf, mRowOf, h_putInRow, mPutIn, h_leafOfI, mLeafOf, h_splitOne, mSplitOne, h_innerPage, h_placeOfKid, mPlaceKid, h_insideIA, h_AddKidI, mAddKid, drP_n, drP_c, logAt_n, logAt_c, disP_n, disP_c, notIn_n, notIn_c, hs, hv, eab]
      try rfl
theorem fo_PutKeyI : FnOk Try.prog 37 := fnOk_of Try.func37 (by kernel_rfl)
theorem c_PutKeyI : Contract Try.prog 37 mPutKey :=
  contract_of_does (DT := fun id => match id with | 6 => [(8, 0), (8, 1), (8, 9), (10, 0), (10, 1), (11, 0), (11, 1)] | 25 => [(4, 0), (4, 1)] | _ => []) Try.checked.mixed tabOk (gok_model fo_ValidTreeI c_ValidTreeI (gok_model fo_isPair c_isPair (gok_model fo_PathToI c_PathToI (gok_model fo_copyTreeI c_copyTreeI (gok_model fo_pairsOfLeaf c_pairsOfLeaf (gok_model fo_putInRow c_putInRow (gok_model fo_leafOfI c_leafOfI (gok_model fo_splitOne c_splitOne (gok_alias fo_innerPage c_innerPage (gok_model fo_placeOfKid c_placeOfKid (gok_alias fo_insideIA c_insideIA (gok_model fo_AddKidI c_AddKidI gok_nil)))))))))))) Try.func37 rfl (by kernel_rfl) (does_PutKeyI rfl rfl rfl rfl rfl rfl rfl rfl rfl rfl rfl rfl)

end Go.TM
