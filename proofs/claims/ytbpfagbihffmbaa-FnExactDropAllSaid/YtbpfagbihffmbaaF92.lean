/- Contracts, 88 92. -/
import Derived.Test.YtbpfagbihffmbaaF87
/- Contracts, 88: the pages that are not gone. -/
namespace Go.TM
open Go.Proofs
set_option linter.unusedVariables false
set_option linter.unusedSimpArgs false
set_option maxRecDepth 100000
set_option maxHeartbeats 4000000

/-- How many numbers below one are not marked. -/
def cntM (gn : List Bool) (k : Nat) : Nat := ((List.range k).filter fun i => !gn.getD i false).length
theorem cntM_t {gn : List Bool} {k : Nat} (h : gn.getD k false = true) : cntM gn (k + 1) = cntM gn k := by
  unfold cntM
  rw [List.range_succ, List.filter_append, List.filter_cons, h]
  simp
theorem cntM_f {gn : List Bool} {k : Nat} (h : gn.getD k false = false) : cntM gn (k + 1) = cntM gn k + 1 := by
  unfold cntM
  rw [List.range_succ, List.filter_append, List.filter_cons, h]
  simp
theorem cntM_le (gn : List Bool) (k : Nat) : cntM gn k ≤ k := by
  unfold cntM
  have := List.length_filter_le (fun i => !gn.getD i false) (List.range k)
  rwa [List.length_range] at this
def numM (gn : List Bool) (z : Int) : Int := cntM gn z.toNat
def wogP (ps : List Pg) (gn : List Bool) (k : Nat) : List Pg := ((List.range k).filter fun i => !gn.getD i false).map fun i => renP (numM gn) (ps.getD i default)
theorem wogP_len (ps : List Pg) (gn : List Bool) (k : Nat) : (wogP ps gn k).length = cntM gn k := List.length_map _
theorem wogP_t {ps : List Pg} {gn : List Bool} {k : Nat} (h : gn.getD k false = true) : wogP ps gn (k + 1) = wogP ps gn k := by
  unfold wogP
  rw [List.range_succ, List.filter_append, List.filter_cons, h]
  simp
theorem wogP_f {ps : List Pg} {gn : List Bool} {k : Nat} (h : gn.getD k false = false) : wogP ps gn (k + 1) = wogP ps gn k ++ [renP (numM gn) (ps.getD k default)] := by
  unfold wogP
  rw [List.range_succ, List.filter_append, List.filter_cons, h]
  simp
/-- The pages that are still there, when those below k have been taken away. -/
def osA (ps : List Pg) (k : Nat) : List (Option Pg) := (List.range ps.length).map fun i => if i < k then none else some (ps.getD i default)
theorem osA_len (ps : List Pg) (k : Nat) : (osA ps k).length = ps.length := by simp [osA]
theorem osA_zero (ps : List Pg) : osA ps 0 = ps.map some := by
  refine list_ext (d := none) (by simp [osA]) fun i hi => ?_
  rw [List.length_map] at hi
  simp [osA, hi]
theorem osA_get {ps : List Pg} {k : Nat} (h : k < ps.length) : (osA ps k).getD k none = some (ps.getD k default) := by simp [osA, h]
theorem osA_set {ps : List Pg} {k : Nat} (h : k < ps.length) : (osA ps k).set k none = osA ps (k + 1) := by
  refine list_ext (d := none) (by rw [List.length_set, osA_len, osA_len]) fun i hi => ?_
  rw [osA_len] at hi
  rw [List.getD_eq_getElem?_getD, List.getD_eq_getElem?_getD, List.getElem?_set, osA_len]
  by_cases e : k = i
  · subst e
    simp [osA, hi]
  · rw [if_neg e]
    simp only [osA, List.getElem?_map, List.getElem?_range hi, Option.map_some, Option.getD_some]
    by_cases h1 : i < k
    · rw [if_pos h1, if_pos (by omega)]
    · rw [if_neg h1, if_neg (by omega)]

/-- The marks stand for a list of numbers. -/
def MarkOf (gn : List Bool) (g : List Int) (n : Nat) : Prop := ∀ i : Nat, i < n → gn.getD i false = decide ((i : Int) ∈ g)
theorem MarkOf.cnt {gn : List Bool} {g : List Int} {n : Nat} (h : MarkOf gn g n) {z : Int} (hz : z ≤ n) : numM gn z = cntK g z := by
  unfold numM cntM cntK
  congr 2
  refine List.filter_congr fun i hi => ?_
  rw [List.mem_range] at hi
  rw [h i (by omega)]
theorem MarkOf.nil (n : Nat) : MarkOf (List.replicate 16 false) [] n := by
  intro i hi
  rw [show decide ((i : Int) ∈ ([] : List Int)) = false from decide_eq_false (by simp)]
  have hm : ∀ x ∈ List.replicate 16 false, x = false := fun x hx => List.eq_of_mem_replicate hx
  by_cases h : i < (List.replicate 16 false).length
  · rw [List.getD_eq_getElem?_getD, List.getElem?_eq_getElem h]
    exact hm _ (List.getElem_mem h)
  · rw [List.getD_eq_getElem?_getD, List.getElem?_eq_none (by omega)]
    rfl
theorem MarkOf.add {gn : List Bool} {g : List Int} {n : Nat} {b : Int} (h : MarkOf gn g n) (hb : 0 ≤ b) (hl : b.toNat < gn.length) : MarkOf (gn.set b.toNat true) (g ++ [b]) n := by
  intro i hi
  have h1 := h i hi
  by_cases e : b.toNat = i
  · subst e
    have hm : ((b.toNat : Nat) : Int) ∈ g ++ [b] := by
      rw [show ((b.toNat : Nat) : Int) = b by omega]
      simp
    rw [decide_eq_true hm]
    simp [hl]
  · rw [List.getD_eq_getElem?_getD, List.getElem?_set_ne e, ← List.getD_eq_getElem?_getD, h1, decide_eq_decide, List.mem_append, List.mem_singleton]
    constructor
    · exact .inl
    · rintro (h2 | h2)
      · exact h2
      · omega
theorem mendF_r (r : Int) (ps : List Pg) (up : Int) (f : Nat) : mendF ⟨r, ps⟩ up f = (⟨r, (mendF ⟨0, ps⟩ up f).1.pages⟩, (mendF ⟨0, ps⟩ up f).2) := by
  unfold mendF
  dsimp only [pgAt]
  split <;> rfl
theorem Two.r {r : Int} {ps : List Pg} {lf : Bool} {p : Pg} {f : Nat} {a b : Int} (h : Two ⟨r, ps⟩ lf p f a b) : Two ⟨0, ps⟩ lf p f a b :=
  ⟨h.f, h.kids, h.kl, h.ra, h.rb, h.ka, h.kb, h.leaf1, h.inn⟩
theorem wogP_eq {u : Tr} {gn : List Bool} {g : List Int} (h : MarkOf gn g u.pages.length) (hr : u.root ≤ u.pages.length) (hk : ∀ y : Int, ∀ k ∈ (pgAt u y).kids, k ≤ u.pages.length) :
    (⟨numM gn u.root, wogP u.pages gn u.pages.length⟩ : Tr) = wog u g := by
  unfold wogP wog
  rw [h.cnt hr]
  congr 1
  have e : (List.range u.pages.length).filter (fun i => !gn.getD i false) = (List.range u.pages.length).filter (fun (i : Nat) => !decide ((i : Int) ∈ g)) := by
    refine List.filter_congr fun i hi => ?_
    rw [List.mem_range] at hi
    rw [h i hi]
  rw [e]
  refine List.map_congr_left fun i hi => ?_
  have hk' := hk i
  rw [pgAt_nat] at hk'
  unfold renP
  congr 1
  exact List.map_congr_left fun k hkk => h.cnt (hk' k hkk)

def kidsN (ps : List Pg) : Bool := ps.all fun p => p.kids.all fun k => inR k 0 ((ps.length : Int) - 1)
theorem kidsN_get {ps : List Pg} (h : kidsN ps = true) {i j : Nat} (hi : i < ps.length) (hj : j < (ps.getD i default).kids.length) : 0 ≤ (ps.getD i default).kids.getD j 0 ∧ (ps.getD i default).kids.getD j 0 < ps.length := by
  have h1 := List.all_eq_true.1 h (ps.getD i default) (by simp [hi])
  have := inR_iff.1 (List.all_eq_true.1 h1 _ (getD_mem hj))
  omega
theorem md_get {x : A} {gn : List Bool} {js : Int} {y : Nat} (h : y < gn.length) : (x :: tlPc gn js)[1 + y]? = some (.b (gn.getD y false)) := by
  rw [Nat.add_comm, List.getElem?_cons_succ, tl_get h]
noncomputable def mWog : Model := M2 .io .ro false cMd cI fun m r => gd (smT m.pages = true ∧ m.gn.length = 16 ∧ m.pages.length ≤ 16 ∧ (0 ≤ r ∧ r < m.pages.length) ∧ kidsN m.pages = true)
  (eTr true ⟨numM m.gn r, wogP m.pages m.gn m.pages.length⟩, [.s true 3 m.pages.length ((osA m.pages m.pages.length).flatMap ePo) :: tlPc m.gn m.js])

theorem does_wog {G : Nat → Option FM}  : Does T G (fun id => match id with  | _ => []) Try.f114 mWog := by
  refine does2 (rs := [.cell 4 28]) rfl rfl fun m r ro h => ?_
  obtain ⟨⟨hs, hgl, hpl, ⟨r0, r1⟩, hkd⟩, rfl⟩ := gd_some h
  refine ⟨fun hc => (by cases hc), ?_⟩
  clear h
  obtain ⟨r, rfl⟩ : ∃ n : Nat, r = n := ⟨r.toNat, by omega⟩
  obtain ⟨ps, gn, js⟩ := m
  dsimp only at *
  have tlc := tlPc_len (ld := js) hgl
  simp (config := {maxSteps := 1000000}) (disch := omega) only [go_sem, ↓reduceIte, Nat.reduceEqDiff, Nat.reduceAdd, Nat.reduceMul, Nat.reduceSub, Nat.reduceLeDiff, Nat.reduceLT, Int.reduceToNat, Int.reduceLE, Int.reduceLT, Int.reduceNeg, drP_n, drP_c, logAt_n, logAt_c, disP_n, disP_c, notIn_n, notIn_c, csMd, tlc]
  refine W_loop_i (fun s => s.sl 0 = .ptr (2, 0) [] 0 0 ∧ s.sl 1 = eI r ∧ s.sl 4 = .ptr (3, 0) [] 0 0 ∧ s.sl 5 = .ptr (4, 0) [] 0 0 ∧ s.hp (2, 0) = some ⟨18, 1, .s true 3 ps.length (ps.flatMap (ePg true)) :: tlPc gn js, fun _ => 0⟩ ∧ s.hp (3, 0) = some ⟨2, 1, [eI 0, .s true 3 0 []], fun _ => 0⟩ ∧ 4 < s.n ∧ s.sl 17 = eI ps.length ∧ ∃ k : Nat, k ≤ ps.length ∧ s.sl 18 = eI k ∧ s.sl 6 = eI (cntM gn k) ∧ ∃ ns : List Int, ns.length = 16 ∧ (∀ i, i < k → ns.getD i 0 = cntM gn i) ∧ s.hp (4, 0) = some ⟨16, 1, ns.map eI, fun _ => 0⟩) (fun s => ps.length - iN (s.sl 18)) ?_ ?_
  · exact ⟨rfl, rfl, rfl, rfl, rfl, rfl, by dsimp only [St.n]; omega, rfl, 0, Nat.zero_le _, rfl, rfl, List.replicate 16 0, rfl, fun i hi => by omega, rfl⟩
  · rintro sl hp q ⟨j0, j1, j4, j5, jh2, jh3, jq, j17, k, hk, j18, j6, ns, hnl, hns, jh4⟩
    dsimp only at j0 j1 j4 j5 jh2 jh3 jq j17 j18 j6 jh4
    have hcl := cntM_le gn k
    by_cases g1' : k < ps.length
    · have g1 : decide ((k : Int) < (ps.length : Int)) = true := decide_eq_true (by omega)
      have hmg := md_get (x := .s true 3 ps.length (ps.flatMap (ePg true))) (gn := gn) (js := js) (y := k) (by omega)
      have hns2 : ∀ i, i < k + 1 → (ns.set k (cntM gn k : Int)).getD i 0 = cntM gn i := by
        intro i hi
        by_cases e : i = k
        · subst e; simp [hnl, show i < 16 by omega]
        · rw [List.getD_eq_getElem?_getD, List.getElem?_set_ne (fun h => e h.symm), ← List.getD_eq_getElem?_getD]
          exact hns i (by omega)
      have hnl2 : (ns.set k (cntM gn k : Int)).length = 16 := by rw [List.length_set, hnl]
      cases hg : gn.getD k false
      · have ct := cntM_f hg
        rw [hg] at hmg
        simp (config := {maxSteps := 1000000}) (disch := omega) only [go_sem, ↓reduceIte, Nat.reduceEqDiff, Nat.reduceAdd, Nat.reduceMul, Nat.reduceSub, Nat.reduceLeDiff, Nat.reduceLT, Int.reduceToNat, Int.reduceLE, Int.reduceLT, Int.reduceNeg, drP_n, drP_c, logAt_n, logAt_c, disP_n, disP_c, notIn_n, notIn_c, j0, j1, j4, j5, jh2, jh3, j17, j18, j6, jh4, g1, tlc, hmg]
        exact ⟨⟨k + 1, by omega, rfl, by rw [ct]; rfl, _, hnl2, hns2, rfl⟩, by omega⟩
      · have ct := cntM_t hg
        rw [hg] at hmg
        simp (config := {maxSteps := 1000000}) (disch := omega) only [go_sem, ↓reduceIte, Nat.reduceEqDiff, Nat.reduceAdd, Nat.reduceMul, Nat.reduceSub, Nat.reduceLeDiff, Nat.reduceLT, Int.reduceToNat, Int.reduceLE, Int.reduceLT, Int.reduceNeg, drP_n, drP_c, logAt_n, logAt_c, disP_n, disP_c, notIn_n, notIn_c, j0, j1, j4, j5, jh2, jh3, j17, j18, j6, jh4, g1, tlc, hmg]
        exact ⟨⟨k + 1, by omega, rfl, by rw [ct], _, hnl2, hns2, rfl⟩, by omega⟩
    · have g1 : decide ((k : Int) < (ps.length : Int)) = false := decide_eq_false (by omega)
      obtain rfl : k = ps.length := by omega
      have hnr := hns r (by omega)
      simp (config := {maxSteps := 1000000}) (disch := omega) only [go_sem, ↓reduceIte, Nat.reduceEqDiff, Nat.reduceAdd, Nat.reduceMul, Nat.reduceSub, Nat.reduceLeDiff, Nat.reduceLT, Int.reduceToNat, Int.reduceLE, Int.reduceLT, Int.reduceNeg, drP_n, drP_c, logAt_n, logAt_c, disP_n, disP_c, notIn_n, notIn_c, j0, j1, j4, j5, jh2, jh3, j17, j18, j6, jh4, g1, tlc, hnr]
      refine W_loop_i (fun s => s.sl 0 = .ptr (2, 0) [] 0 0 ∧ s.sl 4 = .ptr (3, 0) [] 0 0 ∧ s.hp (3, 0) = some ⟨2, 1, [eI 0, .s true 3 0 []], fun _ => 0⟩ ∧ s.sl 5 = .ptr (4, 0) [] 0 0 ∧ s.hp (4, 0) = some ⟨16, 1, ns.map eI, fun _ => 0⟩ ∧ s.sl 8 = .ptr (q + 1 + 4, 0) [] 0 0 ∧ s.sl 41 = .ref (2, 0) [0] 0 0 3 ps.length ∧ s.sl 42 = eI ps.length ∧ q + 1 + 4 < s.n ∧ ∃ k : Nat, k ≤ ps.length ∧ s.sl 43 = eI k ∧ (∃ v, v 0 = 0 ∧ s.hp (2, 0) = some ⟨18, 1, .s true 3 ps.length ((osA ps k).flatMap ePo) :: tlPc gn js, v⟩) ∧ ∃ v, s.hp (q + 1 + 4, 0) = some ⟨2, 1, [eI (numM gn r), .s true 3 (wogP ps gn k).length ((wogP ps gn k).flatMap (ePg true))], v⟩) (fun s => ps.length - iN (s.sl 43)) ?_ ?_
      · simp (config := {maxSteps := 1000000}) (disch := omega) only [go_sem, ↓reduceIte, Nat.reduceEqDiff, Nat.reduceAdd, Nat.reduceMul, Nat.reduceSub, Nat.reduceLeDiff, Nat.reduceLT, Int.reduceToNat, Int.reduceLE, Int.reduceLT, Int.reduceNeg, drP_n, drP_c, logAt_n, logAt_c, disP_n, disP_c, notIn_n, notIn_c, j0, j4, j5, jh2, jh3, jh4]
        exact ⟨0, Nat.zero_le _, rfl, ⟨fun _ => 0, rfl, by rw [osA_zero, ← po_all]⟩, _, rfl⟩
      · clear j0 j1 j4 j5 jh2 jh3 j17 j18 j6 jh4
        rintro sl hp q2 ⟨j0, j4, jh3, j5, jh4, j8, j41, j42, jq2, k, hk, j43, ⟨v, hv0, jh2⟩, v', jhr⟩
        dsimp only at j0 j4 jh3 j5 jh4 j8 j41 j42 jq2 j43 jh2 jhr
        have ol := osA_len ps k
        have wl := wogP_len ps gn k
        have cl := cntM_le gn k
        by_cases g2' : k < ps.length
        · have g2 : decide ((k : Int) < (ps.length : Int)) = true := decide_eq_true (by omega)
          have hok := osA_get (ps := ps) (k := k) g2'
          have hts := tr_small (t := ⟨0, ps⟩) hs k
          rw [pgAt_nat] at hts
          have hkg := fun j hj => kidsN_get hkd (i := k) (j := j) g2' hj
          have hmg := md_get (x := .s true 3 ps.length ((osA ps (k + 1)).flatMap ePo)) (gn := gn) (js := js) (y := k) (by omega)
          have c3 := po_set (xs := osA ps k) (k := k) (by omega)
          rw [osA_set g2'] at c3
          have wt := fun h => wogP_t (ps := ps) (gn := gn) (k := k) h
          have wf := fun h => wogP_f (ps := ps) (gn := gn) (k := k) h
          generalize hP : ps.getD k default = P at *
          dsimp only at hts
          have r3 := po_rng (xs := osA ps k) (by omega) hok
          have c0 : ((osA ps k).flatMap ePo)[k * 3]? = some (eIs true P.keys) := po_get (j := 0) (by omega) hok (by omega)
          have c1 : (((osA ps k).flatMap ePo).set (k * 3) .und)[k * 3 + 1]? = some (eIs true P.kids) := by rw [List.getElem?_set_ne (by omega)]; exact po_get (j := 1) (by omega) hok (by omega)
          have c2 : ((((osA ps k).flatMap ePo).set (k * 3) .und).set (k * 3 + 1) .und)[k * 3 + 2]? = some (eIs true P.vals) := by rw [List.getElem?_set_ne (by omega), List.getElem?_set_ne (by omega)]; exact po_get (j := 2) (by omega) hok (by omega)
          cases hg : gn.getD k false
          · have wf := wf hg
            rw [hg] at hmg
            simp (config := {maxSteps := 1000000}) (disch := omega) only [go_sem, ↓reduceIte, Nat.reduceEqDiff, Nat.reduceAdd, Nat.reduceMul, Nat.reduceSub, Nat.reduceLeDiff, Nat.reduceLT, Int.reduceToNat, Int.reduceLE, Int.reduceLT, Int.reduceNeg, drP_n, drP_c, logAt_n, logAt_c, disP_n, disP_c, notIn_n, notIn_c, j0, j4, jh3, j5, jh4, j8, j41, j42, j43, jh2, hv0, jhr, g2, tlc, hmg, r3, c0, c1, c2, c3]
            clear c0 c1 c2 c3 r3
            refine W_loop_i (fun s => s.sl 0 = .ptr (2, 0) [] 0 0 ∧ s.sl 4 = .ptr (3, 0) [] 0 0 ∧ s.hp (3, 0) = some ⟨2, 1, [eI 0, .s true 3 0 []], fun _ => 0⟩ ∧ s.sl 5 = .ptr (4, 0) [] 0 0 ∧ s.hp (4, 0) = some ⟨16, 1, ns.map eI, fun _ => 0⟩ ∧ s.sl 8 = .ptr (q + 1 + 4, 0) [] 0 0 ∧ s.sl 41 = .ref (2, 0) [0] 0 0 3 ps.length ∧ s.sl 42 = eI ps.length ∧ q2 + 4 < s.n ∧ s.sl 43 = eI k ∧ s.hp (2, 0) = some ⟨18, 1, .s true 3 ps.length ((osA ps (k + 1)).flatMap ePo) :: tlPc gn js, v⟩ ∧ s.hp (q + 1 + 4, 0) = some ⟨2, 1, [eI (numM gn r), .s true 3 (wogP ps gn k).length ((wogP ps gn k).flatMap (ePg true))], v'⟩ ∧ s.sl 10 = .ptr (q2 + 1 + 3, 0) [] 0 0 ∧ s.sl 56 = eI P.kids.length ∧ ∃ j : Nat, j ≤ P.kids.length ∧ s.sl 57 = eI j ∧ ∃ v2 : Nat → Nat, s.sl 55 = .ref (q2 + 1 + 3, 0) [1] (v2 1) 0 1 P.kids.length ∧ s.hp (q2 + 1 + 3, 0) = some ⟨3, 1, [eIs true P.keys, .s true 1 P.kids.length ((mixL (numM gn) P.kids j).map eI), eIs true P.vals], v2⟩) (fun s => P.kids.length - iN (s.sl 57)) ?_ ?_
            · simp (config := {maxSteps := 1000000}) (disch := omega) only [go_sem, ↓reduceIte, Nat.reduceEqDiff, Nat.reduceAdd, Nat.reduceMul, Nat.reduceSub, Nat.reduceLeDiff, Nat.reduceLT, Int.reduceToNat, Int.reduceLE, Int.reduceLT, Int.reduceNeg, drP_n, drP_c, logAt_n, logAt_c, disP_n, disP_c, notIn_n, notIn_c, j0, j4, jh3, j5, jh4, j8, j41, j42, j43, jhr]
              exact ⟨0, Nat.zero_le _, rfl, verS [eIs true P.keys, eIs true P.kids, eIs true P.vals] (fun _ => 0) [] 0, rfl, by rw [mixL_zero]⟩
            · clear j0 j4 jh3 j5 jh4 j8 j41 j42 j43 jh2 jhr
              rintro sl hp q3 ⟨j0, j4, jh3, j5, jh4, j8, j41, j42, jq3, j43, jh2, jhr, j10, j56, j, hj, j57, v2, j55, jhp⟩
              dsimp only at j0 j4 jh3 j5 jh4 j8 j41 j42 jq3 j43 jh2 jhr j10 j56 j57 j55 jhp
              have ml := mixL_len (numM gn) P.kids j
              by_cases g3' : j < P.kids.length
              · have g3 : decide ((j : Int) < (P.kids.length : Int)) = true := decide_eq_true (by omega)
                have mg := mixL_get (f := numM gn) (xs := P.kids) (j := j) g3'
                have ms := mixL_set (f := numM gn) (xs := P.kids) (j := j) g3'
                have rz := hkg j g3'
                obtain ⟨z, hz⟩ : ∃ z : Nat, P.kids.getD j 0 = z := ⟨(P.kids.getD j 0).toNat, by omega⟩
                rw [hz] at mg ms rz
                have nz : ns.getD z 0 = numM gn z := hns z (by omega)
                simp (config := {maxSteps := 1000000}) (disch := omega) only [go_sem, ↓reduceIte, Nat.reduceEqDiff, Nat.reduceAdd, Nat.reduceMul, Nat.reduceSub, Nat.reduceLeDiff, Nat.reduceLT, Int.reduceToNat, Int.reduceLE, Int.reduceLT, Int.reduceNeg, drP_n, drP_c, logAt_n, logAt_c, disP_n, disP_c, notIn_n, notIn_c, j0, j4, jh3, j5, jh4, j8, j41, j42, j43, jh2, jhr, j10, j56, j57, j55, jhp, g3, mg, ms, nz]
                exact ⟨⟨j + 1, by omega, rfl, v2, rfl, rfl⟩, by omega⟩
              · have g3 : decide ((j : Int) < (P.kids.length : Int)) = false := decide_eq_false (by omega)
                obtain rfl : j = P.kids.length := by omega
                rw [mixL_all] at jhp
                have hml : (P.kids.map (numM gn)).length = P.kids.length := List.length_map _
                simp (config := {maxSteps := 1000000}) (disch := omega) only [go_sem, ↓reduceIte, Nat.reduceEqDiff, Nat.reduceAdd, Nat.reduceMul, Nat.reduceSub, Nat.reduceLeDiff, Nat.reduceLT, Int.reduceToNat, Int.reduceLE, Int.reduceLT, Int.reduceNeg, drP_n, drP_c, logAt_n, logAt_c, disP_n, disP_c, notIn_n, notIn_c, j0, j4, jh3, j5, jh4, j8, j41, j42, j43, jh2, jhr, j10, j56, j57, j55, jhp, g3, app_pg]
                refine ⟨⟨k + 1, by omega, rfl, ⟨v, hv0, rfl⟩, ?_⟩, by omega⟩
                rw [wf, List.length_append]
                exact ⟨_, rfl⟩
          · have wt := wt hg
            rw [hg] at hmg
            simp (config := {maxSteps := 1000000}) (disch := omega) only [go_sem, ↓reduceIte, Nat.reduceEqDiff, Nat.reduceAdd, Nat.reduceMul, Nat.reduceSub, Nat.reduceLeDiff, Nat.reduceLT, Int.reduceToNat, Int.reduceLE, Int.reduceLT, Int.reduceNeg, drP_n, drP_c, logAt_n, logAt_c, disP_n, disP_c, notIn_n, notIn_c, j0, j4, jh3, j5, jh4, j8, j41, j42, j43, jh2, hv0, jhr, g2, tlc, hmg, r3, c0, c1, c2, c3]
            exact ⟨⟨k + 1, by omega, rfl, ⟨v, hv0, rfl⟩, by rw [wt]; exact ⟨_, rfl⟩⟩, by omega⟩
        · have g2 : decide ((k : Int) < (ps.length : Int)) = false := decide_eq_false (by omega)
          obtain rfl : k = ps.length := by omega
          simp (config := {maxSteps := 1000000}) (disch := omega) only [go_sem, ↓reduceIte, Nat.reduceEqDiff, Nat.reduceAdd, Nat.reduceMul, Nat.reduceSub, Nat.reduceLeDiff, Nat.reduceLT, Int.reduceToNat, Int.reduceLE, Int.reduceLT, Int.reduceNeg, drP_n, drP_c, logAt_n, logAt_c, disP_n, disP_c, notIn_n, notIn_c, j0, j4, jh3, j5, jh4, j8, j41, j42, j43, jh2, jhr, g2, tlc]
theorem fo_wog : FnOk Try.prog 114 := fnOk_of Try.func114 (by kernel_rfl)
theorem c_wog : Contract Try.prog 114 mWog :=
  contract_of_does (DT := fun id => match id with  | _ => []) Try.checked.mixed tabOk gok_nil Try.func114 rfl (by kernel_rfl) (does_wog )

end Go.TM
/- Contracts, 92: a region that draws its order, each order looked at. -/
namespace Go.TM
set_option linter.unusedVariables false
set_option linter.unusedSimpArgs false

/-- All orders in which a region's operations may come, from where some have been. -/
def ordN (ops : Array Oper) : Nat → Array Bool → List (List Nat)
  | 0, _ => [[]]
  | f + 1, listed => match Region.ready .any ops listed with
    | [] => [[]]
    | j :: js => (j :: js).flatMap fun k => (ordN ops f (listed.setIfInBounds k true)).map fun o => k :: o

theorem ordN_ne (ops : Array Oper) : ∀ (f : Nat) (listed : Array Bool), ordN ops f listed ≠ []
  | 0, _ => by simp [ordN]
  | f + 1, listed => by
    unfold ordN
    split
    · simp
    · rename_i j js h
      intro he
      rw [List.flatMap_cons] at he
      have h1 := (List.append_eq_nil_iff.1 he).1
      rw [List.map_eq_nil_iff] at h1
      exact ordN_ne ops f _ h1

section
variable {T : Nat → Option TI} {G : Nat → Option FM} {DT : Nat → List (Nat × Nat)}

/-- Some operations of a region, one after the other. -/
def runO (T : Nat → Option TI) (G : Nat → Option FM) (ops : List Oper) (n : Nat) (Q : (Nat → A) → Hp → Prop) : List (Nat × Oper) → (Nat → A) → Hp → Prop
  | [], sl, hp => Q sl hp
  | (j, o) :: rest, sl, hp => match opA T G ops n j o sl hp with
    | none => False
    | some e => runO T G ops n Q rest (setDst sl o.dst e.val) (applyH hp e.ups)
def runOK (T : Nat → Option TI) (G : Nat → Option FM) (ops : List Oper) (n : Nat) (o : Option Eff) (d : Option Nat) (rest : List (Nat × Oper)) (Q : (Nat → A) → Hp → Prop) (sl : Nat → A) (hp : Hp) : Prop := match o with
  | none => False
  | some e => runO T G ops n Q rest (setDst sl d e.val) (applyH hp e.ups)
def numd (ops : List Oper) (o : List Nat) : List (Nat × Oper) := o.map fun j => (j, ops.getD j default)
/-- In each order that may be, the region leads to Q. -/
def AnyO (T : Nat → Option TI) (G : Nat → Option FM) (ops : List Oper) (n : Nat) (Q : Exit → St → Prop) (sl : Nat → A) (hp : Hp) : Prop :=
  ∀ o ∈ ordN ops.toArray ops.length (Array.replicate ops.length false), runO T G ops n (fun sl hp => Q .normal ⟨sl, hp, n + ops.length⟩) (numd ops o) sl hp

theorem runO_nil (ops : List Oper) (n : Nat) (Q : (Nat → A) → Hp → Prop) (sl : Nat → A) (hp : Hp) : runO T G ops n Q [] sl hp = Q sl hp := rfl
theorem runO_cons (ops : List Oper) (n j : Nat) (Q : (Nat → A) → Hp → Prop) (d : Option Nat) (op : Op) (ty : Nat) (pos : String) (after : Array Edge) (rest : List (Nat × Oper)) (sl : Nat → A) (hp : Hp) :
    runO T G ops n Q ((j, ⟨d, op, ty, pos, after, none⟩) :: rest) sl hp = runOK T G ops n (eff T G (n + j) ty op sl hp) d rest Q sl hp := by
  unfold runO runOK
  rw [opA_plain]
theorem runOK_some (ops : List Oper) (n : Nat) (v : A) (us : List (Id × Option Root)) (rd : List Id) (d : Option Nat) (rest : List (Nat × Oper)) (Q : (Nat → A) → Hp → Prop) (sl : Nat → A) (hp : Hp) :
    runOK T G ops n (some ⟨v, us, rd⟩) d rest Q sl hp = runO T G ops n Q rest (setDst sl d v) (applyH hp us) := rfl
theorem runOK_pure (ops : List Oper) (n : Nat) (v : A) (d : Option Nat) (rest : List (Nat × Oper)) (Q : (Nat → A) → Hp → Prop) (sl : Nat → A) (hp : Hp) :
    runOK T G ops n (some (.pure v)) d rest Q sl hp = runO T G ops n Q rest (setDst sl d v) hp := rfl

/-- A piece of code; the region X in each order. -/
def WX (T : Nat → Option TI) (G : Nat → Option FM) (DT : Nat → List (Nat × Nat)) (X : Nat) : Code → (Exit → St → Prop) → St → Prop
  | .region id ops true, Q, st => if id = X then AnyO T G ops.toList st.n Q st.sl st.hp else W T G DT (.region id ops true) Q st
  | c, Q, st => W T G DT c Q st
/-- Code whose last pieces may be the region X. -/
def W2 (T : Nat → Option TI) (G : Nat → Option FM) (DT : Nat → List (Nat × Nat)) (X : Nat) : Code → (Exit → St → Prop) → St → Prop
  | .seq x y, Q, st => WX T G DT X x (thenA (W2 T G DT X y Q) Q) st
  | c, Q, st => W T G DT c Q st

variable {X : Nat} {Q : Exit → St → Prop}
theorem W2_seq (x y : Code) (st : St) : W2 T G DT X (.seq x y) Q st = WX T G DT X x (thenA (W2 T G DT X y Q) Q) st := rfl
theorem W2_ret (st : St) : W2 T G DT X .ret Q st = Q .ret st := rfl
theorem WX_seq (x y : Code) (st : St) : WX T G DT X (.seq x y) Q st = W T G DT (.seq x y) Q st := rfl
theorem WX_block (id : Nat) (c : Code) (st : St) : WX T G DT X (.block id c) Q st = W T G DT (.block id c) Q st := rfl
theorem WX_loop (c : Code) (st : St) : WX T G DT X (.loop c) Q st = W T G DT (.loop c) Q st := rfl
theorem WX_cond (c : Operand) (x y : Code) (st : St) : WX T G DT X (.cond c x y) Q st = W T G DT (.cond c x y) Q st := rfl
theorem WX_reg_f (id : Nat) (ops : Array Oper) (st : St) : WX T G DT X (.region id ops false) Q st = W T G DT (.region id ops false) Q st := rfl
theorem WX_reg_t (id : Nat) (ops : Array Oper) (st : St) (h : id ≠ X) : WX T G DT X (.region id ops true) Q st = W T G DT (.region id ops true) Q st := if_neg h
theorem WX_reg_x (ops : List Oper) (sl : Nat → A) (hp : Hp) (n : Nat) : WX T G DT X (.region X ops.toArray true) Q ⟨sl, hp, n⟩ = AnyO T G ops n Q sl hp := if_pos rfl
end

section
variable {P : Program} {T : Nat → Option TI} {G : Nat → Option FM} {N : Nat} {w0 : World} {L0 : Lab} {hpB : Hp} {ops : Array Oper}

theorem any2_ok [B : Use] (hT : TabOk P T) (hG : GOk P G) {n : Nat} {Q : Exit → Act → World → Prop} {R : (Nat → A) → Hp → Prop}
    (hN : ∀ o ∈ ops, ∀ t, o.dst = some t → t < N) (hQ : ∀ sl hp a w L, R sl hp → Mid w0 L0 hpB N (ltN (n + ops.size)) (sl, hp) a w L → Q .normal a w) :
    ∀ (fuel : Nat) (listed : Array Bool) (sl : Nat → A) (hp : Hp) (a : Act) (w : World) (L : Lab), listed.size = ops.size → listed.toList.count false ≤ fuel → (∀ o ∈ ordN ops fuel listed, runO T G ops.toList n R (numd ops.toList o) sl hp) →
      Mid w0 L0 hpB N (usedU n listed) (sl, hp) a w L → wpAny P .any ops Q fuel listed a w := by
  intro fuel
  have hle : ∀ (listed : Array Bool), listed.size = ops.size → ∀ k, usedU n listed k → ltN (n + ops.size) k := by
    rintro listed hz k (h | ⟨i, h1, h2⟩)
    · simp only [ltN]; omega
    · rcases Nat.lt_or_ge i listed.size with h' | h'
      · simp only [ltN]; omega
      · simp [Array.getD, show ¬ i < listed.size from by omega] at h2
  have hend : ∀ (listed : Array Bool) (sl : Nat → A) (hp : Hp) (a : Act) (w : World) (L : Lab), listed.size = ops.size → R sl hp → Mid w0 L0 hpB N (usedU n listed) (sl, hp) a w L → Q .normal a w := by
    intro listed sl hp a w L hz hr hm
    refine hQ sl hp a w L hr ⟨hm.h.mono (hle listed hz), fun t => Rep.mono (keeps_ups [] (by simp) (hle listed hz)) _ _ (hm.s t), hm.size, hm.defers, hm.keeps.trans (keeps_ups [] (by simp) (hle listed hz))⟩
  induction fuel with
  | zero =>
    intro listed sl hp a w L hz hcnt ho hm
    have hall : ∀ j, j < ops.size → listed.getD j false = true := by
      intro j hj
      have hj' : j < listed.size := by omega
      have h0 := List.count_eq_zero.1 (Nat.le_zero.1 hcnt)
      cases hl : listed.getD j false with
      | true => rfl
      | false =>
        exfalso
        refine h0 ?_
        rw [Array.getD_eq_getD_getElem?, Array.getElem?_eq_getElem hj'] at hl
        simp at hl
        rw [← hl]
        simp
    have hr : Region.ready .any ops listed = [] := by
      rw [List.eq_nil_iff_forall_not_mem]
      intro j hj
      rw [mem_ready] at hj
      obtain ⟨h0, o, ho, _⟩ := hj
      have hlt := (Array.getElem?_eq_some_iff.1 ho).1
      have := hall j hlt
      have hj' : j < listed.size := by omega
      simp only [Array.getD, hj', dif_pos] at h0 this
      rw [this] at h0; cases h0
    exact ⟨hr, hend listed sl hp a w L hz (ho [] (by simp [ordN])) hm⟩
  | succ fuel ih =>
    intro listed sl hp a w L hz hcnt hor hm
    refine ⟨fun hr => ?_, fun j hj => ?_⟩
    · refine hend listed sl hp a w L hz (hor [] ?_) hm
      unfold ordN
      rw [hr]
      simp
    · obtain ⟨hun, o, ho, hall⟩ := mem_ready.1 hj
      have hlt : j < ops.size := (Array.getElem?_eq_some_iff.1 ho).1
      have hj' : j < listed.size := by omega
      have hun' : listed.getD j false = false := by
        simp only [Array.getD, hj', dif_pos] at hun ⊢
        exact hun
      have hop : ops.toList.getD j default = o := by
        rw [List.getD_eq_getElem?_getD, Array.getElem?_toList, ho]; rfl
      have hor' : ∀ o' ∈ ordN ops fuel (listed.setIfInBounds j true), runO T G ops.toList n R ((j, o) :: numd ops.toList o') sl hp := by
        intro o' ho'
        have h1 := hor (j :: o') (by
          unfold ordN
          split
          · rename_i hr; rw [hr] at hj; cases hj
          · rename_i j0 js hr
            rw [← hr]
            exact List.mem_flatMap.2 ⟨j, hj, List.mem_map.2 ⟨o', ho', rfl⟩⟩)
        unfold numd at h1 ⊢
        rw [List.map_cons, hop] at h1
        exact h1
      obtain ⟨e, h2⟩ : ∃ e, opA T G ops.toList n j o sl hp = some e := by
        obtain ⟨o', ho'⟩ := List.exists_mem_of_ne_nil _ (ordN_ne ops fuel (listed.setIfInBounds j true))
        have h1 := hor' o' ho'
        unfold runO at h1
        split at h1
        · exact h1.elim
        · rename_i e he; exact ⟨e, he⟩
      have hor2 : ∀ o' ∈ ordN ops fuel (listed.setIfInBounds j true), runO T G ops.toList n R (numd ops.toList o') (setDst sl o.dst e.val) (applyH hp e.ups) := by
        intro o' ho'
        have h1 := hor' o' ho'
        unfold runO at h1
        rw [h2] at h1
        exact h1
      have hset : ∀ q, (listed.setIfInBounds j true).getD q false = if q = j then true else listed.getD q false := by
        intro q
        by_cases hq : q = j
        · subst hq; simp [Array.getD_eq_getD_getElem?, Array.getElem?_setIfInBounds_self_of_lt hj']
        · rw [if_neg hq]; exact getD_set_ne false fun e => hq e.symm
      have hU : usedU n (listed.setIfInBounds j true) = addU (usedU n listed) (n + j) := by
        funext k
        simp only [usedU, addU, eq_iff_iff]
        constructor
        · rintro (h | ⟨i, h4, h5⟩)
          · exact .inl (.inl h)
          · rw [hset] at h5
            by_cases hij : i = j
            · subst hij; exact .inr h4
            · rw [if_neg hij] at h5; exact .inl (.inr ⟨i, h4, h5⟩)
        · rintro ((h | ⟨i, h4, h5⟩) | h)
          · exact .inl h
          · refine .inr ⟨i, h4, ?_⟩
            rw [hset]
            split
            · rfl
            · exact h5
          · exact .inr ⟨j, h, by rw [hset, if_pos rfl]⟩
      have hmN : ¬ usedU n listed (n + j) := by
        rintro (h | ⟨i, h4, h5⟩)
        · omega
        · have : i = j := by omega
          subst this
          rw [hun'] at h5; cases h5
      have hcnt' : (listed.setIfInBounds j true).toList.count false ≤ fuel := by
        have := count_set_true listed.toList j (by
          rw [Array.getElem?_toList, Array.getElem?_eq_getElem hj']
          simp [Array.getD, hj'] at hun'
          rw [hun'])
        rw [Array.toList_setIfInBounds]
        omega
      have hdt : ∀ t, o.dst = some t → t < a.tmps.size := fun t ht => by rw [hm.size]; exact hN o (Array.mem_of_getElem? ho) t ht
      have next : ∀ v w' L', HRel w0 L0 (addU (usedU n listed) (n + j)) (applyH hp e.ups) w' L' →
          Keeps (usedU n listed) w L hp (addU (usedU n listed) (n + j)) w' L' (applyH hp e.ups) →
          Rep (addU (usedU n listed) (n + j)) w' L' (applyH hp e.ups) e.val v →
          wpAny P .any ops Q fuel (listed.setIfInBounds j true) (a.put o.dst v) w' := by
        intro v w' L' g1 g2 g3
        refine ih (listed.setIfInBounds j true) _ _ (a.put o.dst v) w' L' (by simp [hz]) hcnt' hor2 ?_
        rw [hU]
        exact ⟨g1, slots_put (fun t => Rep.mono g2 _ _ (hm.s t)) o.dst hdt g3, by rw [put_size, hm.size], by rw [put_defers, hm.defers], hm.keeps.trans g2⟩
      unfold wpOp
      rw [ho]
      simp only
      unfold opA at h2
      split at h2
      · rename_i hw
        have hwant := wanted_ok hm.s hw
        rw [if_pos hwant]
        exact .inl (eff_ok hT hG hm.h hm.s hmN h2 _ _ next)
      · rename_i hw
        have hwant := wanted_ok hm.s hw
        cases h2
        rw [if_neg (by simp [hwant])]
        refine next undef w L (hm.h.mono fun k hk' => .inl hk') (keeps_ups [] (by simp) fun k hk => .inl hk) ?_
        simp only [Eff.pure, Rep]
        exact ⟨#[], rfl, by simp [RepL]⟩
      · cases h2
end

section
variable {P : Program} {T : Nat → Option TI} {G : Nat → Option FM} {DT : Nat → List (Nat × Nat)} {X N : Nat} {w0 : World} {L0 : Lab} {hpB : Hp}

/-- What is checked: the region X is not asked for its pairs. -/
def chk2 (DT : Nat → List (Nat × Nat)) (X : Nat) (id : Nat) (ops : Array Oper) : Bool := decide (id = X) || chkD (DT id) ops
/-- .. and it is one of the last pieces, and nowhere else. -/
def noX (X : Nat) : Code → Bool
  | .region id _ draw => !draw || decide (id ≠ X)
  | .seq x y => noX X x && noX X y
  | .cond _ x y => noX X x && noX X y
  | .block _ c => noX X c
  | .loop c => noX X c
  | _ => true
def lastX (X : Nat) : Code → Bool
  | .seq (.region _ _ true) y => lastX X y
  | .seq x y => noX X x && lastX X y
  | c => noX X c

theorem okC_noX : ∀ (c : Code), noX X c = true → okC (chk2 DT X) N c = true → okC (fun id ops => chkD (DT id) ops) N c = true := by
  intro c
  induction c with
  | region id ops draw =>
    intro h1 h2
    simp only [okC, noX, chk2, Bool.and_eq_true, Bool.or_eq_true, Bool.not_eq_true', decide_eq_true_eq] at h1 h2 ⊢
    refine ⟨h2.1, ?_⟩
    rcases h2.2 with h | h | h
    · exact .inl h
    · rcases h1 with h' | h'
      · exact .inl h'
      · exact (h' h).elim
    · exact .inr h
  | seq x y ihx ihy => intro h1 h2; simp only [okC, noX, Bool.and_eq_true] at h1 h2 ⊢; exact ⟨ihx h1.1 h2.1, ihy h1.2 h2.2⟩
  | cond _ x y ihx ihy => intro h1 h2; simp only [okC, noX, Bool.and_eq_true] at h1 h2 ⊢; exact ⟨ihx h1.1 h2.1, ihy h1.2 h2.2⟩
  | block _ c ih => intro h1 h2; simp only [okC, noX] at h1 h2 ⊢; exact ih h1 h2
  | loop c ih => intro h1 h2; simp only [okC, noX] at h1 h2 ⊢; exact ih h1 h2
  | _ => intro h1 h2; rfl

theorem regX_ok [B : Use] (hmx : P.follows .mixedOrders = true) (hT : TabOk P T) (hG : GOk P G) {id : Nat} {ops : Array Oper} {Q : Exit → St → Prop} {Qc : Exit → Act → World → Prop} {st : St} {a : Act} {w : World} {L : Lab}
    (hk : ∀ o ∈ ops, ∀ t, o.dst = some t → t < N) (hw : AnyO T G ops.toList st.n Q st.sl st.hp) (hat : At w0 L0 hpB N st a w L) (hq : ∀ st' a' w' L', Q .normal st' → At w0 L0 hpB N st' a' w' L' → Qc .normal a' w') : (Code.region id ops true).wp P Qc a w := by
  refine wp_region_any hmx ?_
  have hlist : ∀ q, (Array.replicate ops.size false).getD q false = false := by
    intro q
    simp only [Array.getD]
    split <;> simp
  unfold AnyO at hw
  rw [Array.length_toList, Array.toArray_toList] at hw
  refine any2_ok (N := N) (w0 := w0) (L0 := L0) (hpB := hpB) (n := st.n) (R := fun sl hp => Q .normal ⟨sl, hp, st.n + ops.size⟩) hT hG hk (fun sl hp a' w' L' hr hm' => ?_) ops.size _ st.sl st.hp a _ L (by simp) (by simp) hw ?_
  · exact hq _ a' w' L' hr ⟨hm'.h, hm'.s, hm'.size, hm'.defers, hm'.keeps⟩
  · have e1 : usedU st.n (Array.replicate ops.size false) = ltN st.n := by
      funext k
      simp only [usedU, ltN, eq_iff_iff]
      constructor
      · rintro (h | ⟨i, _, h⟩)
        · exact h
        · rw [hlist] at h; cases h
      · exact .inl
    rw [e1]
    exact ⟨hrel_drawn hat.h, fun t => Rep.mono keeps_drawn _ _ (hat.s t), hat.size, hat.defers, hat.keeps.trans keeps_drawn⟩

theorem WX_ok [B : Use] (hmx : P.follows .mixedOrders = true) (hT : TabOk P T) (hG : GOk P G) (c : Code) (hl : (∃ id ops, c = .region id ops true) ∨ noX X c = true) (Q : Exit → St → Prop) (Qc : Exit → Act → World → Prop) (st : St) (a : Act) (w : World) (L : Lab) (hk : okC (chk2 DT X) N c = true)
    (hw : WX T G DT X c Q st) (hat : At w0 L0 hpB N st a w L) (hq : ∀ e st' a' w' L', Q e st' → At w0 L0 hpB N st' a' w' L' → Qc e a' w') : c.wp P Qc a w := by
  have hplain : noX X c = true → W T G DT c Q st → c.wp P Qc a w := fun h1 h2 => W_ok (P := P) hT hG (draw_ok hmx hT hG) c Q Qc st a w L (okC_noX c h1 hk) h2 hat hq
  by_cases hx : ∃ ops, c = .region X ops true
  · obtain ⟨ops, rfl⟩ := hx
    have hw : AnyO T G ops.toList st.n Q st.sl st.hp := by
      have h1 : (if X = X then AnyO T G ops.toList st.n Q st.sl st.hp else W T G DT (.region X ops true) Q st) := hw
      rwa [if_pos rfl] at h1
    simp only [okC, Bool.and_eq_true, List.all_eq_true] at hk
    exact regX_ok hmx hT hG (fun o ho t ht => by
      have := hk.1 o (by simpa using ho)
      rw [ht] at this
      simpa using this) hw hat fun st' a' w' L' h1 h2 => hq _ st' a' w' L' h1 h2
  · have hno : noX X c = true := by
      rcases hl with ⟨id, ops, rfl⟩ | h
      · simp only [noX, Bool.not_true, Bool.false_or, decide_eq_true_eq]
        exact fun e => hx ⟨ops, by rw [e]⟩
      · exact h
    refine hplain hno ?_
    cases c with
    | region id ops draw =>
      cases draw with
      | false => exact hw
      | true =>
        have h1 : (if id = X then AnyO T G ops.toList st.n Q st.sl st.hp else W T G DT (.region id ops true) Q st) := hw
        rwa [if_neg (fun e => hx ⟨ops, by rw [e]⟩)] at h1
    | _ => exact hw

theorem W2_ok [B : Use] (hmx : P.follows .mixedOrders = true) (hT : TabOk P T) (hG : GOk P G) : ∀ (c : Code), lastX X c = true → ∀ (Q : Exit → St → Prop) (Qc : Exit → Act → World → Prop) (st : St) (a : Act) (w : World) (L : Lab), okC (chk2 DT X) N c = true →
    W2 T G DT X c Q st → At w0 L0 hpB N st a w L → (∀ e st' a' w' L', Q e st' → At w0 L0 hpB N st' a' w' L' → Qc e a' w') → c.wp P Qc a w := by
  intro c
  have hplain : ∀ (c : Code), noX X c = true → ∀ (Q : Exit → St → Prop) (Qc : Exit → Act → World → Prop) (st : St) (a : Act) (w : World) (L : Lab), okC (chk2 DT X) N c = true →
    W T G DT c Q st → At w0 L0 hpB N st a w L → (∀ e st' a' w' L', Q e st' → At w0 L0 hpB N st' a' w' L' → Qc e a' w') → c.wp P Qc a w :=
    fun c h1 Q Qc st a w L hk h2 hat hq => W_ok (P := P) hT hG (draw_ok hmx hT hG) c Q Qc st a w L (okC_noX c h1 hk) h2 hat hq
  induction c with
  | seq x y ihx ihy =>
    intro hl Q Qc st a w L hk hw hat hq
    simp only [okC, Bool.and_eq_true] at hk
    have hxy : ((∃ id ops, x = .region id ops true) ∨ noX X x = true) ∧ lastX X y = true := by
      unfold lastX at hl
      split at hl
      · rename_i id ops y' he
        cases he
        exact ⟨.inl ⟨id, ops, rfl⟩, hl⟩
      · rename_i x' y' _ he
        cases he
        rw [Bool.and_eq_true] at hl
        exact ⟨.inr hl.1, hl.2⟩
      · rename_i h1 h2
        exact (h2 x y rfl).elim
    refine wp_seq (WX_ok hmx hT hG x hxy.1 (thenA (W2 T G DT X y Q) Q) _ st a w L hk.1 hw hat fun e st' a' w' L' h1 h2 => ?_)
    cases e with
    | normal => exact ihy hxy.2 Q Qc st' a' w' L' hk.2 h1 h2 hq
    | _ => exact hq _ st' a' w' L' h1 h2
  | _ => intro hl Q Qc st a w L hk hw hat hq; exact hplain _ (by simpa only [lastX] using hl) Q Qc st a w L hk hw hat hq

def Does2 (T : Nat → Option TI) (G : Nat → Option FM) (DT : Nat → List (Nat × Nat)) (X : Nat) (fn : Func) (M : Model) : Prop :=
  ∀ c, fn.body = some c → ∀ args r outs, M.fn args = some (r, outs) → (M.clean = true → cleanA r = true ∧ outs.all cleanL = true) ∧
    W2 T G DT X c (fun e st => (e = .normal ∨ e = .ret) ∧ finalA T fn.results.toList (shsOf M.kinds args) st = some (r, outs)) (initSt M.kinds args)
end

theorem okC_mono2 {DT : Nat → List (Nat × Nat)} {X N N' : Nat} (hN : N ≤ N') (c : Code) (h : okC (chk2 DT X) N c = true) : okC (chk2 DT X) N' c = true := okC_mono hN c h

theorem contract_of_does2 {P : Program} {T : Nat → Option TI} {G : Nat → Option FM} {DT : Nat → List (Nat × Nat)} {X : Nat} {f : Nat} {fn : Func} {c : Code} {M : Model} (hmx : P.follows .mixedOrders = true) (hT : TabOk P T) (hG : GOk P G)
    (hf : P.funcs[f]? = some fn) (hb : fn.body = some c) (hok : (okC (chk2 DT X) fn.ntmps c && lastX X c) = true) (hd : Does2 T G DT X fn M) : Contract P f M := by
  rw [Bool.and_eq_true] at hok
  refine ⟨fun B w L vals args r outs hM h hs _ => ?_, fun hcl args r outs hM => (hd c hb args r outs hM).1 hcl⟩
  refine calls_of_wp hf hb ?_
  obtain ⟨_, hw⟩ := hd c hb args r outs hM
  have hN : (vals ++ Array.replicate (fn.ntmps - vals.size) undef).size = vals.size + (fn.ntmps - vals.size) := by simp
  have hat : At w L (initHp 0 0 M.kinds args) (vals.size + (fn.ntmps - vals.size)) (initSt M.kinds args) { tmps := vals ++ Array.replicate (fn.ntmps - vals.size) undef, defers := [] } w L := by
    refine ⟨h, fun t => ?_, hN, rfl, Keeps.rfl'⟩
    have := hs t
    have e : (vals ++ Array.replicate (fn.ntmps - vals.size) undef).getD t undef = vals.getD t undef := by
      simp only [Array.getD_eq_getD_getElem?, Array.getElem?_append]
      split
      · rfl
      · rename_i hlt
        rw [Array.getElem?_eq_none (show vals.size ≤ t from by omega)]
        simp [Array.getElem?_replicate]
        split <;> rfl
    rw [e]
    exact this
  refine W2_ok (P := P) hmx hT hG c hok.2 _ _ _ _ w L (okC_mono2 (by omega) c hok.1) hw hat fun e st' a' w' L' he h' => ?_
  obtain ⟨he, hfin⟩ := he
  obtain ⟨us, hres, hpost⟩ := body_end (P := P) hT h' hfin
  rcases he with rfl | rfl <;> exact ⟨h'.defers, _, results_run rfl hres, hpost⟩

section
variable {α β : Type} {k l : Kind} {cl : Bool} {a : Cod α} {b : Cod β} {T : Nat → Option TI} {G : Nat → Option FM} {DT : Nat → List (Nat × Nat)} {X : Nat} {fn : Func} {co : Code} {rs : List ResultVar} {Q : Exit → St → Prop} {st : St}
def Owes2 (T : Nat → Option TI) (G : Nat → Option FM) (DT : Nat → List (Nat × Nat)) (X : Nat) (c : Code) (rs : List ResultVar) (cl : Bool) (ks : List Kind) (args : List A) (ro : A × List (List A)) : Prop :=
  (cl = true → cleanA ro.1 = true ∧ ro.2.all cleanL = true) ∧ W2 T G DT X c (endP T rs (shsOf ks args) ro) ⟨initSl 0 0 0 ks args, initHp 0 0 ks args, 3⟩
theorem does2X {f : α → β → Out1} (hb : fn.body = some co) (hr : fn.results.toList = rs) (h : ∀ x y ro, f x y = some ro → Owes2 T G DT X co rs cl [k, l] [a.e x, b.e y] ro) : Does2 T G DT X fn (M2 k l cl a b f) := by
  intro c hc args r outs hM
  match args, hM with
  | [x, y], hM =>
    simp only [M2_fn, Option.bind_eq_some_iff] at hM
    obtain ⟨u, h1, v, h2, h3⟩ := hM
    rw [a.ed _ _ h1, b.ed _ _ h2]
    have h := h u v (r, outs) h3
    rw [hb] at hc
    cases hc
    rw [hr]
    refine ⟨h.1, ?_⟩
    have e : (fun e st => (e = Exit.normal ∨ e = .ret) ∧ finalA T rs (shsOf [k, l] [a.e u, b.e v]) st = some (r, outs)) = endP T rs (shsOf [k, l] [a.e u, b.e v]) (r, outs) := by
      funext e st
      cases e <;> simp [endP]
    show W2 T G DT X co (fun e st => (e = Exit.normal ∨ e = .ret) ∧ finalA T rs (shsOf [k, l] [a.e u, b.e v]) st = some (r, outs)) _
    rw [e]
    exact h.2
theorem AnyO_of {ops : List Oper} {n : Nat} {sl : Nat → A} {hp : Hp} {L : List (List Nat)} (h : ordN ops.toArray ops.length (Array.replicate ops.length false) = L) (h2 : ∀ o ∈ L, runO T G ops n (fun sl hp => Q .normal ⟨sl, hp, n + ops.length⟩) (numd ops o) sl hp) : AnyO T G ops n Q sl hp := by
  intro o ho
  rw [h] at ho
  exact h2 o ho
/-- Cuts. -/
theorem W_cutF {x : Code} {id : Nat} {F : St → Prop} (I : St → Prop) (h1 : W T G DT x (inBlockA id (thenA I fun _ _ => False)) st) (h2 : ∀ sl hp n, I ⟨sl, hp, n⟩ → F ⟨sl, hp, n⟩) : W T G DT x (inBlockA id (thenA F Q)) st := by
  refine W_mono (.block id x) (Q := thenA I fun _ _ => False) (Q' := thenA F Q) (fun e s hs => ?_) h1
  cases e with
  | normal => exact h2 s.sl s.hp s.n hs
  | _ => exact hs.elim
theorem W2_cut2 {x y z : Code} {id : Nat} {ops : Array Oper} (I : St → Prop) (h1 : W T G DT (.seq (.region id ops false) (.seq x z)) (thenA I fun _ _ => False) st) (h2 : ∀ sl hp n, I ⟨sl, hp, n⟩ → W2 T G DT X y Q ⟨sl, hp, n⟩) : W2 T G DT X (.seq (.region id ops false) (.seq (.seq x z) y)) Q st := by
  refine W_mono (.region id ops false) (Q' := thenA (W2 T G DT X (.seq (.seq x z) y) Q) Q) (fun e s hs => ?_) h1
  cases e with
  | normal =>
    refine W_mono (.seq x z) (Q' := thenA (W2 T G DT X y Q) Q) (fun e s hs => ?_) hs
    cases e with
    | normal => exact h2 s.sl s.hp s.n hs
    | _ => exact hs.elim
  | _ => exact hs.elim
end
attribute [go_sem] runO_nil runO_cons runOK_some runOK_pure W2_seq W2_ret WX_seq WX_block WX_loop WX_cond WX_reg_f WX_reg_t
end Go.TM
