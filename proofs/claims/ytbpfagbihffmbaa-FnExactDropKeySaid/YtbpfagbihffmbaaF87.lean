/- Contracts, 87: a key is dropped (the reference). -/
import Derived.Test.YtbpfagbihffmbaaF86
namespace Go.TM
open Go.Proofs
set_option linter.unusedVariables false
set_option linter.unusedSimpArgs false
set_option maxRecDepth 100000
set_option maxHeartbeats 8000000

/-! ### A cut in a piece of code -/

section
variable {T : Nat → Option TI} {G : Nat → Option FM} {DT : Nat → List (Nat × Nat)}
theorem W_mono : ∀ (c : Code) {Q Q' : Exit → St → Prop} {st : St}, (∀ e s, Q e s → Q' e s) → W T G DT c Q st → W T G DT c Q' st
  | .skip, Q, Q', st, h, hw => h _ _ hw
  | .region id ops draw, Q, Q', st, h, hw => by
    simp only [W] at hw ⊢
    split
    · rename_i sl hp log he
      rw [he] at hw
      exact ⟨hw.1, h _ _ hw.2⟩
    · rename_i he
      rw [he] at hw
      exact hw
  | .seq x y, Q, Q', st, h, hw => by
    refine W_mono x (fun e s hs => ?_) hw
    cases e with
    | normal => exact W_mono y h hs
    | _ => exact h _ _ hs
  | .cond c x y, Q, Q', st, h, hw => by
    simp only [W] at hw ⊢
    split
    · rename_i v he
      rw [he] at hw
      exact ⟨fun hv => W_mono x h (hw.1 hv), fun hv => W_mono y h (hw.2 hv)⟩
    · rename_i he
      rw [he] at hw
      exact ⟨W_mono x h hw.1, W_mono y h hw.2⟩
    · rename_i h1 h2
      split at hw
      · rename_i v he; exact (h1 _ he).elim
      · rename_i he; exact (h2 he).elim
      · exact hw
  | .block id c, Q, Q', st, h, hw => by
    refine W_mono c (fun e s hs => ?_) hw
    cases e with
    | exit id' =>
      simp only [inBlockA] at hs ⊢
      split at hs
      · rename_i e; rw [if_pos e]; exact h _ _ hs
      · rename_i e; rw [if_neg e]; exact h _ _ hs
    | _ => exact h _ _ hs
  | .loop c, Q, Q', st, h, hw => by
    obtain ⟨I, μ, h0, hi⟩ := hw
    refine ⟨I, μ, h0, fun s hs => W_mono c (fun e s' hs' => ?_) (hi s hs)⟩
    cases e with
    | normal => exact hs'
    | _ => exact h _ _ hs'
  | .exit id, Q, Q', st, h, hw => h _ _ hw
  | .ret, Q, Q', st, h, hw => h _ _ hw
/-- A cut: what holds behind a piece of code is named. -/
theorem W_cut {x y : Code} {Q : Exit → St → Prop} {st : St} (I : St → Prop) (h1 : W T G DT x (thenA I fun _ _ => False) st) (h2 : ∀ sl hp n, I ⟨sl, hp, n⟩ → W T G DT y Q ⟨sl, hp, n⟩) : W T G DT x (thenA (W T G DT y Q) Q) st := by
  refine W_mono x (fun e s hs => ?_) h1
  cases e with
  | normal => exact h2 s.sl s.hp s.n hs
  | _ => exact hs.elim
theorem W_cut2 {a x y : Code} {Q : Exit → St → Prop} {st : St} (I : St → Prop) (h1 : W T G DT (.seq a x) (thenA I fun _ _ => False) st) (h2 : ∀ sl hp n, I ⟨sl, hp, n⟩ → W T G DT y Q ⟨sl, hp, n⟩) : W T G DT (.seq a (.seq x y)) Q st := by
  refine W_mono a (fun e s hs => ?_) h1
  cases e with
  | normal =>
    refine W_mono x (fun e s hs => ?_) hs
    cases e with
    | normal => exact h2 s.sl s.hp s.n hs
    | _ => exact hs.elim
  | _ => exact hs.elim
theorem W_cutB {x y : Code} {id : Nat} {Q : Exit → St → Prop} {st : St} (I : St → Prop) (h1 : W T G DT x (inBlockA id (thenA I fun _ _ => False)) st) (h2 : ∀ sl hp n, I ⟨sl, hp, n⟩ → W T G DT y Q ⟨sl, hp, n⟩) : W T G DT x (inBlockA id (thenA (W T G DT y Q) Q)) st := W_cut (x := .block id x) I h1 h2
end

/-! ### Pages that are taken out one after the other -/

theorem renP_smQ {f : Int → Int} {p : Pg} (h : SmQ p) : SmQ (renP f p) := ⟨h.keys, by show (p.kids.map f).length ≤ 10; rw [List.length_map]; exact h.kids, h.vals⟩
structure CutOk (u : Tr) (g : List Int) : Prop where
  len : u.pages.length ≤ 16
  sm : ∀ p ∈ u.pages, SmQ p
  kids : kidsB u.pages = true
  root : 0 ≤ u.root ∧ u.root ≤ 1000
  g : ∀ x ∈ g, 0 ≤ x ∧ x ≤ 1000
theorem dec_rng {x k : Int} (hx : 0 ≤ x) (hk : 0 ≤ k ∧ k ≤ 1000) : 0 ≤ decK x k ∧ decK x k ≤ 1000 := by
  unfold decK
  split <;> omega
theorem CutOk.smT {u : Tr} {g : List Int} (h : CutOk u g) : smT u.pages = true := by
  have h1 := tot_le (m := 28) fun p hp => (h.sm p hp).tot
  have h2 := h.len
  exact smT_iff.2 (by omega)
theorem CutOk.step {u : Tr} {x : Int} {g : List Int} (h : CutOk u (x :: g)) : CutOk (cut1 u x) (g.map (decK x)) := by
  have hx := h.g x List.mem_cons_self
  have hpg : ∀ p ∈ (cut1 u x).pages, ∃ q ∈ u.pages, p = renP (decK x) q := by
    intro p hp
    obtain ⟨i, hi, rfl⟩ := List.mem_map.1 hp
    have hi := List.mem_range.1 (List.mem_filter.1 hi).1
    exact ⟨_, by rw [List.getD_eq_getElem?_getD, List.getElem?_eq_getElem hi]; exact List.getElem_mem _, rfl⟩
  refine ⟨?_, fun p hp => ?_, ?_, dec_rng hx.1 h.root, fun y hy => ?_⟩
  · show (List.map _ _).length ≤ 16
    rw [List.length_map]
    have h1 := List.length_filter_le (fun (i : Nat) => !decide ((i : Int) = x)) (List.range u.pages.length)
    rw [List.length_range] at h1
    have := h.len
    omega
  · obtain ⟨q, hq, rfl⟩ := hpg p hp
    exact renP_smQ (h.sm q hq)
  · unfold kidsB
    rw [List.all_eq_true]
    intro p hp
    obtain ⟨q, hq, rfl⟩ := hpg p hp
    rw [List.all_eq_true]
    intro k hk
    obtain ⟨k0, hk0, rfl⟩ := List.mem_map.1 hk
    have := inR_iff.1 (List.all_eq_true.1 (List.all_eq_true.1 h.kids q hq) k0 hk0)
    exact inR_iff.2 (dec_rng hx.1 this)
  · obtain ⟨y0, hy0, rfl⟩ := List.mem_map.1 hy
    exact dec_rng hx.1 (h.g y0 (List.mem_cons_of_mem _ hy0))
theorem DropJ.cutOk {t : Tr} {key : Int} (hv : TV t) {i : Nat} {d : Tr × List Int} (h : DropJ t key i d.1 d.2) : CutOk (dropR d).1 (dropR d).2 := by
  obtain ⟨u, g⟩ := d
  dsimp only at h
  have h1 := h.inv.len
  have h2 := hv.len.2
  have h3 := h.inv.root
  have h4 := hv.root
  have hk : kidsB u.pages = true := by
    unfold kidsB
    rw [List.all_eq_true]
    intro p hp
    rw [List.all_eq_true]
    intro k hk
    obtain ⟨n, hn, rfl⟩ := List.getElem_of_mem hp
    have := h.inv.kids n k (by simpa [pgAt, hn] using hk)
    exact inR_iff.2 (by omega)
  have hg : ∀ x ∈ g, 0 ≤ x ∧ x ≤ 1000 := by
    intro x hx
    obtain ⟨j, _, j2, j3⟩ := h.inv.gm x hx
    have := hv.kids _ x j3
    omega
  unfold dropR
  split
  · rename_i h5
    refine ⟨by show u.pages.length ≤ 16; omega, h.sm, hk, ?_, fun x hx => ?_⟩
    · have := h.inv.kids u.root _ (getD_mem (by dsimp only at h5; omega : 0 < (pgAt u u.root).kids.length))
      exact ⟨this.1, by show (pgAt u u.root).kids.getD 0 0 ≤ 1000; omega⟩
    · rcases List.mem_append.1 hx with hx | hx
      · exact hg x hx
      · rw [List.mem_singleton] at hx
        rw [hx]
        dsimp only
        omega
  · exact ⟨by show u.pages.length ≤ 16; omega, h.sm, hk, by dsimp only; omega, hg⟩
/-- The list of the numbers, of which some behind the k-th one have been lowered. -/
def cutL (x : Int) (L : List Int) (k j : Nat) : List Int := L.take (k + 1) ++ mixL (decK x) (L.drop (k + 1)) (j - (k + 1))
theorem cutL_len {x : Int} {L : List Int} {k j : Nat} (h : k < L.length) : (cutL x L k j).length = L.length := by
  unfold cutL
  rw [List.length_append, mixL_len, List.length_take, List.length_drop]; omega
theorem cutL_zero {x : Int} {L : List Int} {k : Nat} : cutL x L k (k + 1) = L := by
  unfold cutL
  rw [Nat.sub_self, mixL_zero, List.take_append_drop]
theorem cutL_x {x : Int} {L : List Int} {k j : Nat} (h : k < L.length) : (cutL x L k j).getD k 0 = L.getD k 0 := by
  unfold cutL
  rw [List.getD_eq_getElem?_getD, List.getElem?_append_left (by rw [List.length_take]; omega), List.getElem?_take, if_pos (by omega), List.getD_eq_getElem?_getD]
theorem cutL_get {x : Int} {L : List Int} {k j : Nat} (h : k < j) (h2 : j < L.length) : (cutL x L k j).getD j 0 = L.getD j 0 := by
  unfold cutL
  have hl : (L.take (k + 1)).length = k + 1 := by rw [List.length_take]; omega
  rw [List.getD_eq_getElem?_getD, List.getElem?_append_right (by omega), hl, ← List.getD_eq_getElem?_getD, mixL_get (by rw [List.length_drop]; omega)]
  rw [List.getD_eq_getElem?_getD, List.getElem?_drop, List.getD_eq_getElem?_getD, show k + 1 + (j - (k + 1)) = j by omega]
theorem cutL_set {x : Int} {L : List Int} {k j : Nat} (h : k < j) (h2 : j < L.length) : (cutL x L k j).set j (decK x (L.getD j 0)) = cutL x L k (j + 1) := by
  unfold cutL
  have hl : (L.take (k + 1)).length = k + 1 := by rw [List.length_take]; omega
  have hg : L.getD j 0 = (L.drop (k + 1)).getD (j - (k + 1)) 0 := by
    rw [List.getD_eq_getElem?_getD, List.getD_eq_getElem?_getD, List.getElem?_drop, show k + 1 + (j - (k + 1)) = j by omega]
  rw [List.set_append_right _ _ (by omega), hl, hg, mixL_set (by rw [List.length_drop]; omega), show j - (k + 1) + 1 = j + 1 - (k + 1) by omega]
theorem cutL_drop {x : Int} {L : List Int} {k : Nat} (h : k < L.length) : (cutL x L k L.length).drop (k + 1) = (L.drop (k + 1)).map (decK x) := by
  unfold cutL
  have hl : (L.take (k + 1)).length = k + 1 := by rw [List.length_take]; omega
  rw [show L.length - (k + 1) = (L.drop (k + 1)).length from by rw [List.length_drop], mixL_all]
  rw [List.drop_append_of_le_length (by omega)]
  rw [List.drop_eq_nil_of_le (by omega), List.nil_append]

theorem leaf_vR {t : Tr} {x : Int} (h : PLeaf t x) : vRow (prP (pgAt t x)) = true := by
  have h1 := h.len
  unfold vRow
  rw [prP_keys, h.vk, Bool.and_true, Bool.and_eq_true]
  refine ⟨List.all_eq_true.2 fun p hp => ?_, decide_eq_true (by rw [prP_len]; omega)⟩
  obtain ⟨j, hj, rfl⟩ := List.mem_map.1 hp
  rw [List.mem_range] at hj
  exact List.all_eq_true.1 h.vrng _ (getD_mem (by have := h.vals; omega))
noncomputable def mDropTree : Model := M2 .ro .ro true (cTr false) cI fun t key => gd (smT t.pages = true ∧ vTr t = true ∧ key ∈ (pgAt t (leafT t key)).keys) (.tup [eTr true (dropT t key), eI ((dropM t key).2.length : Nat)], [])

theorem does_dropTree {G : Nat → Option FM} (h_copyTreeS : G 65 = some (.model mCopyTree)) (h_pathTo : G 87 = some (.model mPath)) (h_rowOf : G 96 = some (.model mRowOf)) (h_DropPairS : G 106 = some (.model mDropPair)) (h_leafOfS : G 107 = some (.model mLeafOf)) (h_placeOf : G 109 = some (.model mPlaceOf)) (h_mendS : G 108 = some (.model mMendS)) (h_cutPage : G 110 = some (.model mCutPage)) (h_toInt : G 84 = some (.model mToInt)) : Does T G (fun id => match id with | 5 => [(7, 0), (7, 1), (7, 4), (7, 5)] | 9 => [(12, 0), (17, 0), (17, 2), (17, 3), (17, 5), (17, 6), (17, 7), (17, 10), (17, 11), (12, 17), (17, 12), (13, 17), (17, 13)] | 25 => [(15, 4), (15, 5)] | _ => []) Try.f59 mDropTree := by
  refine does2 (rs := [.cell 4 28, .tmp 5]) rfl rfl fun t key ro h => ?_
  obtain ⟨⟨hs, hv, hk⟩, rfl⟩ := gd_some h
  refine ⟨fun _ => ⟨by simp only [cleanA, cleanL, clean_pgs, Bool.and_self], rfl⟩, ?_⟩
  clear h
  have tv := vTr_iff.1 hv
  have ep := ptV_t (key := key) hv
  have pl := pathF_len t key (htT t) t.root
  have hl := pathF_last t key (htT t) t.root
  have h2 := tv.ht
  have pd := leafF_pd (key := key) tv.pd
  have lf := pd.leaf
  have hJ0 := dropJ_start tv key
  have e0 : ((htT t + 1 : Nat) : Int) - 1 = htT t := by omega
  have hvr := leaf_vR lf
  obtain ⟨y0, hy0⟩ : ∃ y0 : Nat, leafF t key (htT t) t.root = y0 := ⟨(leafF t key (htT t) t.root).toNat, by have := pd.rng; omega⟩
  have hk' : key ∈ (pgAt t (leafF t key (htT t) t.root)).keys := hk
  rw [hy0, pgAt_nat] at hk' hvr
  have hu0 : (dropL t key).pages = t.pages.set y0 (leafP (remP (prP (t.pages.getD y0 default)) key)) := by
    show t.pages.set (leafF t key (htT t) t.root).toNat (leafP (remP (prP (pgAt t (leafF t key (htT t) t.root))) key)) = _
    rw [hy0, pgAt_nat, Int.toNat_natCast]
  have hlast : (pathF t key (htT t) t.root).getD (htT t) 0 = y0 := by rw [hl, hy0]
  rw [hy0] at pd lf
  have hr0 := pd.rng
  have ll0 := lf.len
  have lv0 := lf.vals
  rw [pgAt_nat] at ll0 lv0
  have hpl0 := prP_len (t.pages.getD y0 default)
  have hts := tr_small hs y0
  have hdv : dropV (prP (t.pages.getD y0 default)) key = (remP (prP (t.pages.getD y0 default)) key, true) := dropV_t hvr (by rw [prP_keys]; exact hk')
  have hrl := (remP_sub (prP (t.pages.getD y0 default)) key).length_le
  generalize hP : t.pages.getD y0 default = P at *
  generalize hw : pathF t key (htT t) t.root = w at *
  generalize hR : remP (prP P) key = R at *
  generalize hL : leafP R = L at *
  simp (config := {maxSteps := 1000000}) (disch := omega) only [go_sem, ↓reduceIte, Nat.reduceEqDiff, Nat.reduceAdd, Nat.reduceMul, Nat.reduceSub, Nat.reduceLeDiff, Nat.reduceLT, Int.reduceToNat, Int.reduceLE, Int.reduceLT, Int.reduceNeg, h_copyTreeS, mCopyTree, h_pathTo, mPath, h_rowOf, mRowOf, h_DropPairS, mDropPair, h_leafOfS, mLeafOf, h_placeOf, mPlaceOf, h_mendS, mMendS, h_cutPage, mCutPage, h_toInt, mToInt, drP_n, drP_c, logAt_n, logAt_c, disP_n, disP_c, notIn_n, notIn_c, hs, hv, ep, pl, e0, hlast, hw, hP, hdv, hL, ePg, set_pgp]
  have hgoal : dropUp w (htT t) (dropL t key) [] = dropM t key := by unfold dropM; rw [hw]
  refine W_cutB (fun s => s.sl 4 = .ptr (4, 0) [] 0 0 ∧ s.hp (4, 0) = some ⟨2, 1, [eI 0, .s true 3 0 []], fun _ => 0⟩ ∧ s.sl 6 = .ptr (8, 0) [] 0 0 ∧ 44 < s.n ∧ ∃ (i : Nat) (u : Tr) (g : List Int) (m : Nat), DropJ t key i u g ∧ dropM t key = (u, g) ∧ m ≠ 4 ∧ m ≠ 8 ∧ m < s.n ∧ s.sl 11 = .ref (m, 0) [] 0 0 1 g.length ∧ s.hp (m, 0) = some ⟨1, g.length, g.map eI, fun _ => 0⟩ ∧ ∃ v, s.hp (8, 0) = some ⟨2, 1, [eI u.root, .s true 3 u.pages.length (u.pages.flatMap (ePg true))], v⟩) ?_ ?_
  · refine W_loop_i (fun s => s.sl 4 = .ptr (4, 0) [] 0 0 ∧ s.hp (4, 0) = some ⟨2, 1, [eI 0, .s true 3 0 []], fun _ => 0⟩ ∧ s.sl 6 = .ptr (8, 0) [] 0 0 ∧ s.sl 7 = .ref (12, 0) [] 0 0 1 (htT t + 1) ∧ s.hp (12, 0) = some ⟨1, htT t + 1, w.map eI, fun _ => 0⟩ ∧ 44 < s.n ∧ ∃ (i : Nat) (u : Tr) (g : List Int) (m : Nat), DropJ t key i u g ∧ dropUp w i u g = dropM t key ∧ s.sl 8 = eI i ∧ m ≠ 4 ∧ m ≠ 8 ∧ m ≠ 12 ∧ m < s.n ∧ s.sl 11 = .ref (m, 0) [] 0 0 1 g.length ∧ s.hp (m, 0) = some ⟨1, g.length, g.map eI, fun _ => 0⟩ ∧ ∃ v, s.hp (8, 0) = some ⟨2, 1, [eI u.root, .s true 3 u.pages.length (u.pages.flatMap (ePg true))], v⟩) (fun s => iN (s.sl 8)) ?_ ?_
    · refine ⟨rfl, rfl, rfl, rfl, rfl, by dsimp only [St.n]; omega, htT t, dropL t key, [], 44, hJ0, hgoal, rfl, by omega, by omega, by omega, by dsimp only [St.n]; omega, rfl, rfl, ?_⟩
      rw [hu0, show (dropL t key).root = t.root from rfl, show (t.pages.set y0 L).length = t.pages.length from List.length_set]
      exact ⟨_, rfl⟩
    · rintro sl hp q ⟨j4, jh4, j6, j7, j12, jq, i, u, g, m, hJ, heq, j8, hm4, hm8, hm12, hmq, j11, jm, v, jh8⟩
      dsimp only at j4 jh4 j6 j7 j12 jq j8 hmq j11 jm jh8
      have hil := hJ.inv.il
      have hsm := (hJ.smT tv).sm
      have hlen := hJ.inv.len
      have htl := tv.len
      have hsb : sub u.pages 0 u.pages.length = u.pages := sub_all _
      cases i with
      | zero =>
        have g1 : decide ((0 : Int) < ((0 : Nat) : Int)) = false := rfl
        simp (config := {maxSteps := 1000000}) (disch := omega) only [go_sem, ↓reduceIte, Nat.reduceEqDiff, Nat.reduceAdd, Nat.reduceMul, Nat.reduceSub, Nat.reduceLeDiff, Nat.reduceLT, Int.reduceToNat, Int.reduceLE, Int.reduceLT, Int.reduceNeg, h_copyTreeS, mCopyTree, h_pathTo, mPath, h_rowOf, mRowOf, h_DropPairS, mDropPair, h_leafOfS, mLeafOf, h_placeOf, mPlaceOf, h_mendS, mMendS, h_cutPage, mCutPage, h_toInt, mToInt, drP_n, drP_c, logAt_n, logAt_c, disP_n, disP_c, notIn_n, notIn_c, j4, jh4, j6, j7, j12, j8, j11, jm, jh8, g1]
        exact ⟨0, u, g, m, hJ, heq.symm, hm4, hm8, by omega, rfl, jm, v, rfl⟩
      | succ i =>
        have g1 : decide ((0 : Int) < ((i + 1 : Nat) : Int)) = true := decide_eq_true (by omega)
        have e10 : ((i + 1 : Nat) : Int) - 1 = i := by omega
        have hxr := (pathF_pd (key := key) tv.pd (i + 1) hil).rng
        rw [hw] at hxr
        obtain ⟨x, hx⟩ : ∃ x : Nat, w.getD (i + 1) 0 = x := ⟨(w.getD (i + 1) 0).toNat, by omega⟩
        rw [hx] at hxr
        have hpx := pgAt_nat u x
        by_cases h4 : 2 ≤ (u.pages.getD x default).keys.length
        · have e4 : decide (((u.pages.getD x default).keys.length : Int) < 2) = false := decide_eq_false (by omega)
          have heq' : dropM t key = (u, g) := by
            rw [← heq]
            simp only [dropUp]
            rw [hx, hpx, if_pos h4]
          generalize hQ : u.pages.getD x default = Q at *
          simp (config := {maxSteps := 1000000}) (disch := omega) only [go_sem, ↓reduceIte, Nat.reduceEqDiff, Nat.reduceAdd, Nat.reduceMul, Nat.reduceSub, Nat.reduceLeDiff, Nat.reduceLT, Int.reduceToNat, Int.reduceLE, Int.reduceLT, Int.reduceNeg, h_copyTreeS, mCopyTree, h_pathTo, mPath, h_rowOf, mRowOf, h_DropPairS, mDropPair, h_leafOfS, mLeafOf, h_placeOf, mPlaceOf, h_mendS, mMendS, h_cutPage, mCutPage, h_toInt, mToInt, drP_n, drP_c, logAt_n, logAt_c, disP_n, disP_c, notIn_n, notIn_c, j4, jh4, j6, j7, j12, j8, j11, jm, jh8, g1, hx, hQ, ePg, e4]
          exact ⟨i + 1, u, g, m, hJ, heq', hm4, hm8, by omega, rfl, jm, v, rfl⟩
        · have e4 : decide (((u.pages.getD x default).keys.length : Int) < 2) = true := decide_eq_true (by omega)
          obtain ⟨⟨y0', y1'⟩, hix, ⟨n1, n2, n3⟩, htw, hnx⟩ := drop_step tv hJ.inv _ _ _ _ _ _ rfl rfl rfl rfl rfl rfl
          rw [hw, hx] at hix n1 n2 n3 htw hnx
          rw [hw] at y0' y1'
          obtain ⟨y, hy⟩ : ∃ y : Nat, w.getD i 0 = y := ⟨(w.getD i 0).toNat, by omega⟩
          rw [hy] at hix n1 n2 n3 htw hnx y0' y1'
          have hms : MsOk u (y : Int) ((pgAt u (y : Int)).kids.idxOf (x : Int) - 1) := ⟨hsm, by omega, ⟨y0', y1'⟩, ⟨n1, n2, n3⟩, _, htw⟩
          have hpl : placeV (pgAt u (y : Int)).kids (x : Int) = ((pgAt u (y : Int)).kids.idxOf (x : Int) : Int) := if_pos (List.idxOf_lt_length_iff.1 hix)
          have hsmy : SmQ (pgAt u (y : Int)) := hJ.sm _ (by
            unfold pgAt
            rw [List.getD_eq_getElem?_getD, List.getElem?_eq_getElem (by omega)]
            exact List.getElem_mem _)
          have hsmn := mendF_smQ hJ.sm hsmy htw
          obtain ⟨ur, us⟩ := u
          dsimp only at *
          have hpy : pgAt ⟨ur, us⟩ (y : Int) = us.getD y default := pgAt_nat _ y
          rw [hpy] at hix hpl hms hnx hsmn
          have hsy := tr_small (t := ⟨ur, us⟩) hsm y
          rw [hpy] at hsy
          dsimp only at hsy
          have hdu : dropUp w (i + 1) ⟨ur, us⟩ g = dropUp w i (mendF ⟨ur, us⟩ y ((us.getD y default).kids.idxOf (x : Int) - 1)).1 (g ++ (mendF ⟨ur, us⟩ y ((us.getD y default).kids.idxOf (x : Int) - 1)).2.toList) := by
            simp only [dropUp]
            rw [hx, hpx, if_neg (by exact h4), hy, hpy]
          rw [hdu] at heq
          have hcl : (us.getD y default).kids.idxOf (x : Int) ≤ 16777216 := by omega
          have hms' : MsOk ⟨ur, us⟩ (y : Int) ((us.getD y default).kids.idxOf (x : Int) - 1) ∧ 0 ≤ ((us.getD y default).kids.idxOf (x : Int) : Int) ∧ ((us.getD y default).kids.idxOf (x : Int) : Int) ≤ 1000 := ⟨hms, by omega, by
            have := hms.two
            obtain ⟨lf', tw'⟩ := this
            have h5 := tw'.kl
            have h6 := tw'.kids
            rw [hpy] at h5 h6
            omega⟩
          generalize hQ : us.getD x default = Q at *
          generalize hQy : us.getD y default = Qy at *
          generalize hc : Qy.kids.idxOf (x : Int) = c at *
          have hct : (c : Int).toNat = c := Int.toNat_natCast c
          obtain ⟨hs1, hs2, hs3⟩ := hms'
          generalize hM : mendF ⟨ur, us⟩ (y : Int) (c - 1) = M at *
          obtain ⟨⟨mr, mp⟩, mo⟩ := M
          simp (config := {maxSteps := 1000000}) (disch := omega) only [go_sem, ↓reduceIte, Nat.reduceEqDiff, Nat.reduceAdd, Nat.reduceMul, Nat.reduceSub, Nat.reduceLeDiff, Nat.reduceLT, Int.reduceToNat, Int.reduceLE, Int.reduceLT, Int.reduceNeg, h_copyTreeS, mCopyTree, h_pathTo, mPath, h_rowOf, mRowOf, h_DropPairS, mDropPair, h_leafOfS, mLeafOf, h_placeOf, mPlaceOf, h_mendS, mMendS, h_cutPage, mCutPage, h_toInt, mToInt, drP_n, drP_c, logAt_n, logAt_c, disP_n, disP_c, notIn_n, notIn_c, j4, jh4, j6, j7, j12, j8, j11, jm, jh8, g1, e10, hx, hy, hQ, hQy, ePg, e4, hsb, hpl, hct, hs1, hs2, hs3, hM]
          dsimp only at heq hnx hsmn
          cases mo with
          | none =>
            have hzo : optI none = -1 := rfl
            have e5 : decide ((0 : Int) ≤ -1) = false := rfl
            rw [show (none : Option Int).toList = [] from rfl, List.append_nil] at heq hnx
            simp (config := {maxSteps := 1000000}) (disch := omega) only [go_sem, ↓reduceIte, Nat.reduceEqDiff, Nat.reduceAdd, Nat.reduceMul, Nat.reduceSub, Nat.reduceLeDiff, Nat.reduceLT, Int.reduceToNat, Int.reduceLE, Int.reduceLT, Int.reduceNeg, h_copyTreeS, mCopyTree, h_pathTo, mPath, h_rowOf, mRowOf, h_DropPairS, mDropPair, h_leafOfS, mLeafOf, h_placeOf, mPlaceOf, h_mendS, mMendS, h_cutPage, mCutPage, h_toInt, mToInt, drP_n, drP_c, logAt_n, logAt_c, disP_n, disP_c, notIn_n, notIn_c, hzo, e5, j11, jm, j4, j6, j7, j8, jh4, j12]
            refine ⟨⟨i, ⟨mr, mp⟩, g, m, ⟨hnx, hsmn⟩, heq, congrArg (A.i .i64) e10, hm4, hm8, hm12, by omega, rfl, ?_, ?_⟩, by omega⟩
            · simp (config := {maxSteps := 1000000}) (disch := omega) only [go_sem, ↓reduceIte, Nat.reduceEqDiff, Nat.reduceAdd, Nat.reduceMul, Nat.reduceSub, Nat.reduceLeDiff, Nat.reduceLT, Int.reduceToNat, Int.reduceLE, Int.reduceLT, Int.reduceNeg, h_copyTreeS, mCopyTree, h_pathTo, mPath, h_rowOf, mRowOf, h_DropPairS, mDropPair, h_leafOfS, mLeafOf, h_placeOf, mPlaceOf, h_mendS, mMendS, h_cutPage, mCutPage, h_toInt, mToInt, drP_n, drP_c, logAt_n, logAt_c, disP_n, disP_c, notIn_n, notIn_c, jm]
            · exact ⟨_, rfl⟩
          | some z =>
            have hz0 : 0 ≤ z := by
              obtain ⟨j, _, j2, j3⟩ := hnx.gm z (by simp)
              exact (tv.kids _ z j3).1
            have e5 : decide ((0 : Int) ≤ z) = true := decide_eq_true hz0
            have hzo : optI (some z) = z := rfl
            have hgl : (g ++ [z]).length = g.length + 1 := List.length_append
            have hgb := hJ.inv.gl tv
            rw [show (some z : Option Int).toList = [z] from rfl] at heq hnx
            simp (config := {maxSteps := 1000000}) (disch := omega) only [go_sem, ↓reduceIte, Nat.reduceEqDiff, Nat.reduceAdd, Nat.reduceMul, Nat.reduceSub, Nat.reduceLeDiff, Nat.reduceLT, Int.reduceToNat, Int.reduceLE, Int.reduceLT, Int.reduceNeg, h_copyTreeS, mCopyTree, h_pathTo, mPath, h_rowOf, mRowOf, h_DropPairS, mDropPair, h_leafOfS, mLeafOf, h_placeOf, mPlaceOf, h_mendS, mMendS, h_cutPage, mCutPage, h_toInt, mToInt, drP_n, drP_c, logAt_n, logAt_c, disP_n, disP_c, notIn_n, notIn_c, hzo, e5, j11, jm, j4, j6, j7, j8, jh4, j12, app_I']
            refine ⟨⟨i, ⟨mr, mp⟩, g ++ [z], q + 15 + 6 + 20 + 2 + 2 + 3, ⟨hnx, hsmn⟩, heq, congrArg (A.i .i64) e10, by omega, by omega, by omega, by omega, by rw [hgl], ?_, ?_⟩, by omega⟩
            · simp (config := {maxSteps := 1000000}) (disch := omega) only [go_sem, ↓reduceIte, Nat.reduceEqDiff, Nat.reduceAdd, Nat.reduceMul, Nat.reduceSub, Nat.reduceLeDiff, Nat.reduceLT, Int.reduceToNat, Int.reduceLE, Int.reduceLT, Int.reduceNeg, h_copyTreeS, mCopyTree, h_pathTo, mPath, h_rowOf, mRowOf, h_DropPairS, mDropPair, h_leafOfS, mLeafOf, h_placeOf, mPlaceOf, h_mendS, mMendS, h_cutPage, mCutPage, h_toInt, mToInt, drP_n, drP_c, logAt_n, logAt_c, disP_n, disP_c, notIn_n, notIn_c, hgl]
            · exact ⟨_, rfl⟩
  · rintro sl hp q ⟨j4, jh4, j6, jq, i, u, g, m, hJ, heq, hm4, hm8, hmq, j11, jm, v, jh8⟩
    dsimp only at j4 jh4 j6 jq hmq j11 jm jh8
    refine W_cut2 (fun s => s.sl 4 = .ptr (4, 0) [] 0 0 ∧ s.hp (4, 0) = some ⟨2, 1, [eI 0, .s true 3 0 []], fun _ => 0⟩ ∧ s.sl 6 = .ptr (8, 0) [] 0 0 ∧ 44 < s.n ∧ s.sl 15 = eI ((dropM t key).2.length : Nat) ∧ ∃ (u : Tr) (g : List Int) (m : Nat), g.length ≤ 100 ∧ CutOk u g ∧ cutAll g u = dropT t key ∧ m ≠ 4 ∧ m ≠ 8 ∧ m < s.n ∧ s.sl 11 = .ref (m, 0) [] 0 0 1 g.length ∧ s.hp (m, 0) = some ⟨1, g.length, g.map eI, fun _ => 0⟩ ∧ ∃ v, s.hp (8, 0) = some ⟨2, 1, [eI u.root, .s true 3 u.pages.length (u.pages.flatMap (ePg true))], v⟩) ?_ ?_
    · have hC := DropJ.cutOk (d := (u, g)) tv hJ
      have hF := drop_eq tv key
      rw [heq] at hF
      have hlen := hJ.inv.len
      have hroot := hJ.inv.root
      have htr := tv.root
      have htl := tv.len
      have hgl := hJ.inv.gl tv
      have hsm := (hJ.smT tv).sm
      obtain ⟨ur, us⟩ := u
      dsimp only at hlen hroot jh8 hsm
      obtain ⟨rn, rfl⟩ : ∃ n : Nat, ur = n := ⟨ur.toNat, by omega⟩
      have hpu : pgAt ⟨rn, us⟩ (rn : Int) = us.getD rn default := pgAt_nat _ rn
      have hsr := tr_small (t := ⟨rn, us⟩) hsm rn
      rw [hpu] at hsr
      dsimp only at hsr
      have hdm : (dropM t key).2 = g := by rw [heq]
      by_cases h1 : (us.getD rn default).kids.length = 1
      · have hd : dropR (⟨rn, us⟩, g) = (⟨(us.getD rn default).kids.getD 0 0, us⟩, g ++ [(rn : Int)]) := by
          rw [← hpu] at h1 ⊢
          exact if_pos h1
        rw [hd] at hC hF
        have e1 : decide (((us.getD rn default).kids.length : Int) = 1) = true := decide_eq_true (by omega)
        have hgl2 : (g ++ [(rn : Int)]).length = g.length + 1 := List.length_append
        generalize hU : us.getD rn default = U at *
        simp (config := {maxSteps := 1000000}) (disch := omega) only [go_sem, ↓reduceIte, Nat.reduceEqDiff, Nat.reduceAdd, Nat.reduceMul, Nat.reduceSub, Nat.reduceLeDiff, Nat.reduceLT, Int.reduceToNat, Int.reduceLE, Int.reduceLT, Int.reduceNeg, h_copyTreeS, mCopyTree, h_pathTo, mPath, h_rowOf, mRowOf, h_DropPairS, mDropPair, h_leafOfS, mLeafOf, h_placeOf, mPlaceOf, h_mendS, mMendS, h_cutPage, mCutPage, h_toInt, mToInt, drP_n, drP_c, logAt_n, logAt_c, disP_n, disP_c, notIn_n, notIn_c, j4, jh4, j6, j11, jm, jh8, hU, ePg, e1, app_I']
        exact ⟨by rw [hdm], _, g ++ [(rn : Int)], q + 3 + 9 + 4, by omega, hC, hF, by omega, by omega, by omega, by rw [hgl2], by simp (config := {maxSteps := 1000000}) (disch := omega) only [go_sem, ↓reduceIte, Nat.reduceEqDiff, Nat.reduceAdd, Nat.reduceMul, Nat.reduceSub, Nat.reduceLeDiff, Nat.reduceLT, Int.reduceToNat, Int.reduceLE, Int.reduceLT, Int.reduceNeg, h_copyTreeS, mCopyTree, h_pathTo, mPath, h_rowOf, mRowOf, h_DropPairS, mDropPair, h_leafOfS, mLeafOf, h_placeOf, mPlaceOf, h_mendS, mMendS, h_cutPage, mCutPage, h_toInt, mToInt, drP_n, drP_c, logAt_n, logAt_c, disP_n, disP_c, notIn_n, notIn_c, hgl2], v, rfl⟩
      · have hd : dropR (⟨rn, us⟩, g) = (⟨rn, us⟩, g) := by
          rw [← hpu] at h1
          exact if_neg h1
        rw [hd] at hC hF
        have e1 : decide (((us.getD rn default).kids.length : Int) = 1) = false := decide_eq_false (by omega)
        generalize hU : us.getD rn default = U at *
        simp (config := {maxSteps := 1000000}) (disch := omega) only [go_sem, ↓reduceIte, Nat.reduceEqDiff, Nat.reduceAdd, Nat.reduceMul, Nat.reduceSub, Nat.reduceLeDiff, Nat.reduceLT, Int.reduceToNat, Int.reduceLE, Int.reduceLT, Int.reduceNeg, h_copyTreeS, mCopyTree, h_pathTo, mPath, h_rowOf, mRowOf, h_DropPairS, mDropPair, h_leafOfS, mLeafOf, h_placeOf, mPlaceOf, h_mendS, mMendS, h_cutPage, mCutPage, h_toInt, mToInt, drP_n, drP_c, logAt_n, logAt_c, disP_n, disP_c, notIn_n, notIn_c, j4, jh4, j6, j11, jm, jh8, hU, ePg, e1]
        exact ⟨by rw [hdm], _, g, m, by omega, hC, hF, hm4, hm8, by omega, rfl, jm, v, rfl⟩
    · clear hJ heq j4 jh4 j6 jq hm4 hm8 hmq j11 jm jh8
      clear v m g u i sl hp q
      rintro sl hp q ⟨j4, jh4, j6, jq, j15, u, g, m, hgb, hC, hF, hm4, hm8, hmq, j11, jm, v, jh8⟩
      dsimp only at j4 jh4 j6 jq j15 hmq j11 jm jh8
      simp (config := {maxSteps := 1000000}) (disch := omega) only [go_sem, ↓reduceIte, Nat.reduceEqDiff, Nat.reduceAdd, Nat.reduceMul, Nat.reduceSub, Nat.reduceLeDiff, Nat.reduceLT, Int.reduceToNat, Int.reduceLE, Int.reduceLT, Int.reduceNeg, h_copyTreeS, mCopyTree, h_pathTo, mPath, h_rowOf, mRowOf, h_DropPairS, mDropPair, h_leafOfS, mLeafOf, h_placeOf, mPlaceOf, h_mendS, mMendS, h_cutPage, mCutPage, h_toInt, mToInt, drP_n, drP_c, logAt_n, logAt_c, disP_n, disP_c, notIn_n, notIn_c, j4, jh4, j6, j15, j11, jm, jh8]
      refine W_loop_i (fun s => s.sl 4 = .ptr (4, 0) [] 0 0 ∧ s.hp (4, 0) = some ⟨2, 1, [eI 0, .s true 3 0 []], fun _ => 0⟩ ∧ s.sl 6 = .ptr (8, 0) [] 0 0 ∧ 44 < s.n ∧ s.sl 15 = eI ((dropM t key).2.length : Nat) ∧ m < s.n ∧ s.sl 11 = .ref (m, 0) [] 0 0 1 g.length ∧ ∃ (k : Nat) (L : List Int) (u : Tr), k ≤ g.length ∧ L.length = g.length ∧ s.sl 16 = eI k ∧ CutOk u (L.drop k) ∧ cutAll (L.drop k) u = dropT t key ∧ s.hp (m, 0) = some ⟨1, g.length, L.map eI, fun _ => 0⟩ ∧ ∃ v, s.hp (8, 0) = some ⟨2, 1, [eI u.root, .s true 3 u.pages.length (u.pages.flatMap (ePg true))], v⟩) (fun s => g.length - iN (s.sl 16)) ?_ ?_
      · exact ⟨by simp (config := {maxSteps := 1000000}) (disch := omega) only [go_sem, ↓reduceIte, Nat.reduceEqDiff, Nat.reduceAdd, Nat.reduceMul, Nat.reduceSub, Nat.reduceLeDiff, Nat.reduceLT, Int.reduceToNat, Int.reduceLE, Int.reduceLT, Int.reduceNeg, h_copyTreeS, mCopyTree, h_pathTo, mPath, h_rowOf, mRowOf, h_DropPairS, mDropPair, h_leafOfS, mLeafOf, h_placeOf, mPlaceOf, h_mendS, mMendS, h_cutPage, mCutPage, h_toInt, mToInt, drP_n, drP_c, logAt_n, logAt_c, disP_n, disP_c, notIn_n, notIn_c, j4], by simp (config := {maxSteps := 1000000}) (disch := omega) only [go_sem, ↓reduceIte, Nat.reduceEqDiff, Nat.reduceAdd, Nat.reduceMul, Nat.reduceSub, Nat.reduceLeDiff, Nat.reduceLT, Int.reduceToNat, Int.reduceLE, Int.reduceLT, Int.reduceNeg, h_copyTreeS, mCopyTree, h_pathTo, mPath, h_rowOf, mRowOf, h_DropPairS, mDropPair, h_leafOfS, mLeafOf, h_placeOf, mPlaceOf, h_mendS, mMendS, h_cutPage, mCutPage, h_toInt, mToInt, drP_n, drP_c, logAt_n, logAt_c, disP_n, disP_c, notIn_n, notIn_c, jh4], by simp (config := {maxSteps := 1000000}) (disch := omega) only [go_sem, ↓reduceIte, Nat.reduceEqDiff, Nat.reduceAdd, Nat.reduceMul, Nat.reduceSub, Nat.reduceLeDiff, Nat.reduceLT, Int.reduceToNat, Int.reduceLE, Int.reduceLT, Int.reduceNeg, h_copyTreeS, mCopyTree, h_pathTo, mPath, h_rowOf, mRowOf, h_DropPairS, mDropPair, h_leafOfS, mLeafOf, h_placeOf, mPlaceOf, h_mendS, mMendS, h_cutPage, mCutPage, h_toInt, mToInt, drP_n, drP_c, logAt_n, logAt_c, disP_n, disP_c, notIn_n, notIn_c, j6], by dsimp only [St.n]; omega, by simp (config := {maxSteps := 1000000}) (disch := omega) only [go_sem, ↓reduceIte, Nat.reduceEqDiff, Nat.reduceAdd, Nat.reduceMul, Nat.reduceSub, Nat.reduceLeDiff, Nat.reduceLT, Int.reduceToNat, Int.reduceLE, Int.reduceLT, Int.reduceNeg, h_copyTreeS, mCopyTree, h_pathTo, mPath, h_rowOf, mRowOf, h_DropPairS, mDropPair, h_leafOfS, mLeafOf, h_placeOf, mPlaceOf, h_mendS, mMendS, h_cutPage, mCutPage, h_toInt, mToInt, drP_n, drP_c, logAt_n, logAt_c, disP_n, disP_c, notIn_n, notIn_c, j15], by dsimp only [St.n]; omega, by simp (config := {maxSteps := 1000000}) (disch := omega) only [go_sem, ↓reduceIte, Nat.reduceEqDiff, Nat.reduceAdd, Nat.reduceMul, Nat.reduceSub, Nat.reduceLeDiff, Nat.reduceLT, Int.reduceToNat, Int.reduceLE, Int.reduceLT, Int.reduceNeg, h_copyTreeS, mCopyTree, h_pathTo, mPath, h_rowOf, mRowOf, h_DropPairS, mDropPair, h_leafOfS, mLeafOf, h_placeOf, mPlaceOf, h_mendS, mMendS, h_cutPage, mCutPage, h_toInt, mToInt, drP_n, drP_c, logAt_n, logAt_c, disP_n, disP_c, notIn_n, notIn_c, j11], 0, g, u, Nat.zero_le _, rfl, rfl, hC, hF, by simp (config := {maxSteps := 1000000}) (disch := omega) only [go_sem, ↓reduceIte, Nat.reduceEqDiff, Nat.reduceAdd, Nat.reduceMul, Nat.reduceSub, Nat.reduceLeDiff, Nat.reduceLT, Int.reduceToNat, Int.reduceLE, Int.reduceLT, Int.reduceNeg, h_copyTreeS, mCopyTree, h_pathTo, mPath, h_rowOf, mRowOf, h_DropPairS, mDropPair, h_leafOfS, mLeafOf, h_placeOf, mPlaceOf, h_mendS, mMendS, h_cutPage, mCutPage, h_toInt, mToInt, drP_n, drP_c, logAt_n, logAt_c, disP_n, disP_c, notIn_n, notIn_c, jm], v, by simp (config := {maxSteps := 1000000}) (disch := omega) only [go_sem, ↓reduceIte, Nat.reduceEqDiff, Nat.reduceAdd, Nat.reduceMul, Nat.reduceSub, Nat.reduceLeDiff, Nat.reduceLT, Int.reduceToNat, Int.reduceLE, Int.reduceLT, Int.reduceNeg, h_copyTreeS, mCopyTree, h_pathTo, mPath, h_rowOf, mRowOf, h_DropPairS, mDropPair, h_leafOfS, mLeafOf, h_placeOf, mPlaceOf, h_mendS, mMendS, h_cutPage, mCutPage, h_toInt, mToInt, drP_n, drP_c, logAt_n, logAt_c, disP_n, disP_c, notIn_n, notIn_c, jh8]⟩
      · clear jm jh8 j4 jh4 j6 jq j15 j11 hmq hC hF
        clear v u sl hp q
        rintro sl hp q ⟨j4, jh4, j6, jq, j15, hmq, j11, k, L, u, hk, hL, j16, hC, hF, jm, v, jh8⟩
        dsimp only at j4 jh4 j6 jq j15 hmq j11 j16 jm jh8
        by_cases g1' : k < g.length
        · have g1 : decide ((k : Int) < (g.length : Int)) = true := decide_eq_true (by omega)
          have hdc : L.drop k = L.getD k 0 :: L.drop (k + 1) := by
            rw [List.drop_eq_getElem_cons (by omega)]
            simp [show k < L.length by omega]
          obtain ⟨x, hx⟩ : ∃ x, L.getD k 0 = x := ⟨_, rfl⟩
          rw [hdc, hx] at hC hF
          rw [cutAll_cons] at hF
          have hCs := hC.step
          have hxr := hC.g x List.mem_cons_self
          have hsm := hC.smT
          have hul := hC.len
          have hkb := hC.kids
          have hrr := hC.root
          have hsb : sub u.pages 0 u.pages.length = u.pages := sub_all _
          obtain ⟨ur, us⟩ := u
          dsimp only at hsm hul hkb hrr hsb jh8
          simp (config := {maxSteps := 1000000}) (disch := omega) only [go_sem, ↓reduceIte, Nat.reduceEqDiff, Nat.reduceAdd, Nat.reduceMul, Nat.reduceSub, Nat.reduceLeDiff, Nat.reduceLT, Int.reduceToNat, Int.reduceLE, Int.reduceLT, Int.reduceNeg, h_copyTreeS, mCopyTree, h_pathTo, mPath, h_rowOf, mRowOf, h_DropPairS, mDropPair, h_leafOfS, mLeafOf, h_placeOf, mPlaceOf, h_mendS, mMendS, h_cutPage, mCutPage, h_toInt, mToInt, drP_n, drP_c, logAt_n, logAt_c, disP_n, disP_c, notIn_n, notIn_c, j4, jh4, j6, j15, j11, j16, jm, jh8, g1, hx, hsb, hsm, hkb]
          refine W_loop_i (fun s => s.sl 4 = .ptr (4, 0) [] 0 0 ∧ s.hp (4, 0) = some ⟨2, 1, [eI 0, .s true 3 0 []], fun _ => 0⟩ ∧ s.sl 6 = .ptr (8, 0) [] 0 0 ∧ 44 < s.n ∧ s.sl 15 = eI ((dropM t key).2.length : Nat) ∧ m < s.n ∧ s.sl 11 = .ref (m, 0) [] 0 0 1 g.length ∧ s.sl 16 = eI k ∧ (∃ v, s.hp (8, 0) = some ⟨2, 1, [eI (cut1 ⟨ur, us⟩ x).root, .s true 3 (cut1 ⟨ur, us⟩ x).pages.length ((cut1 ⟨ur, us⟩ x).pages.flatMap (ePg true))], v⟩) ∧ ∃ j : Nat, k < j ∧ j ≤ g.length ∧ s.sl 17 = eI j ∧ s.hp (m, 0) = some ⟨1, g.length, (cutL x L k j).map eI, fun _ => 0⟩) (fun s => g.length - iN (s.sl 17)) ?_ ?_
          · refine ⟨by simp (config := {maxSteps := 1000000}) (disch := omega) only [go_sem, ↓reduceIte, Nat.reduceEqDiff, Nat.reduceAdd, Nat.reduceMul, Nat.reduceSub, Nat.reduceLeDiff, Nat.reduceLT, Int.reduceToNat, Int.reduceLE, Int.reduceLT, Int.reduceNeg, h_copyTreeS, mCopyTree, h_pathTo, mPath, h_rowOf, mRowOf, h_DropPairS, mDropPair, h_leafOfS, mLeafOf, h_placeOf, mPlaceOf, h_mendS, mMendS, h_cutPage, mCutPage, h_toInt, mToInt, drP_n, drP_c, logAt_n, logAt_c, disP_n, disP_c, notIn_n, notIn_c, j4], by simp (config := {maxSteps := 1000000}) (disch := omega) only [go_sem, ↓reduceIte, Nat.reduceEqDiff, Nat.reduceAdd, Nat.reduceMul, Nat.reduceSub, Nat.reduceLeDiff, Nat.reduceLT, Int.reduceToNat, Int.reduceLE, Int.reduceLT, Int.reduceNeg, h_copyTreeS, mCopyTree, h_pathTo, mPath, h_rowOf, mRowOf, h_DropPairS, mDropPair, h_leafOfS, mLeafOf, h_placeOf, mPlaceOf, h_mendS, mMendS, h_cutPage, mCutPage, h_toInt, mToInt, drP_n, drP_c, logAt_n, logAt_c, disP_n, disP_c, notIn_n, notIn_c, jh4], by simp (config := {maxSteps := 1000000}) (disch := omega) only [go_sem, ↓reduceIte, Nat.reduceEqDiff, Nat.reduceAdd, Nat.reduceMul, Nat.reduceSub, Nat.reduceLeDiff, Nat.reduceLT, Int.reduceToNat, Int.reduceLE, Int.reduceLT, Int.reduceNeg, h_copyTreeS, mCopyTree, h_pathTo, mPath, h_rowOf, mRowOf, h_DropPairS, mDropPair, h_leafOfS, mLeafOf, h_placeOf, mPlaceOf, h_mendS, mMendS, h_cutPage, mCutPage, h_toInt, mToInt, drP_n, drP_c, logAt_n, logAt_c, disP_n, disP_c, notIn_n, notIn_c, j6], by dsimp only [St.n]; omega, by simp (config := {maxSteps := 1000000}) (disch := omega) only [go_sem, ↓reduceIte, Nat.reduceEqDiff, Nat.reduceAdd, Nat.reduceMul, Nat.reduceSub, Nat.reduceLeDiff, Nat.reduceLT, Int.reduceToNat, Int.reduceLE, Int.reduceLT, Int.reduceNeg, h_copyTreeS, mCopyTree, h_pathTo, mPath, h_rowOf, mRowOf, h_DropPairS, mDropPair, h_leafOfS, mLeafOf, h_placeOf, mPlaceOf, h_mendS, mMendS, h_cutPage, mCutPage, h_toInt, mToInt, drP_n, drP_c, logAt_n, logAt_c, disP_n, disP_c, notIn_n, notIn_c, j15], by dsimp only [St.n]; omega, by simp (config := {maxSteps := 1000000}) (disch := omega) only [go_sem, ↓reduceIte, Nat.reduceEqDiff, Nat.reduceAdd, Nat.reduceMul, Nat.reduceSub, Nat.reduceLeDiff, Nat.reduceLT, Int.reduceToNat, Int.reduceLE, Int.reduceLT, Int.reduceNeg, h_copyTreeS, mCopyTree, h_pathTo, mPath, h_rowOf, mRowOf, h_DropPairS, mDropPair, h_leafOfS, mLeafOf, h_placeOf, mPlaceOf, h_mendS, mMendS, h_cutPage, mCutPage, h_toInt, mToInt, drP_n, drP_c, logAt_n, logAt_c, disP_n, disP_c, notIn_n, notIn_c, j11], by simp (config := {maxSteps := 1000000}) (disch := omega) only [go_sem, ↓reduceIte, Nat.reduceEqDiff, Nat.reduceAdd, Nat.reduceMul, Nat.reduceSub, Nat.reduceLeDiff, Nat.reduceLT, Int.reduceToNat, Int.reduceLE, Int.reduceLT, Int.reduceNeg, h_copyTreeS, mCopyTree, h_pathTo, mPath, h_rowOf, mRowOf, h_DropPairS, mDropPair, h_leafOfS, mLeafOf, h_placeOf, mPlaceOf, h_mendS, mMendS, h_cutPage, mCutPage, h_toInt, mToInt, drP_n, drP_c, logAt_n, logAt_c, disP_n, disP_c, notIn_n, notIn_c, j16], ?_, k + 1, by omega, by omega, rfl, ?_⟩
            · simp (config := {maxSteps := 1000000}) (disch := omega) only [go_sem, ↓reduceIte, Nat.reduceEqDiff, Nat.reduceAdd, Nat.reduceMul, Nat.reduceSub, Nat.reduceLeDiff, Nat.reduceLT, Int.reduceToNat, Int.reduceLE, Int.reduceLT, Int.reduceNeg, h_copyTreeS, mCopyTree, h_pathTo, mPath, h_rowOf, mRowOf, h_DropPairS, mDropPair, h_leafOfS, mLeafOf, h_placeOf, mPlaceOf, h_mendS, mMendS, h_cutPage, mCutPage, h_toInt, mToInt, drP_n, drP_c, logAt_n, logAt_c, disP_n, disP_c, notIn_n, notIn_c]
              exact ⟨_, rfl⟩
            · rw [cutL_zero]
              simp (config := {maxSteps := 1000000}) (disch := omega) only [go_sem, ↓reduceIte, Nat.reduceEqDiff, Nat.reduceAdd, Nat.reduceMul, Nat.reduceSub, Nat.reduceLeDiff, Nat.reduceLT, Int.reduceToNat, Int.reduceLE, Int.reduceLT, Int.reduceNeg, h_copyTreeS, mCopyTree, h_pathTo, mPath, h_rowOf, mRowOf, h_DropPairS, mDropPair, h_leafOfS, mLeafOf, h_placeOf, mPlaceOf, h_mendS, mMendS, h_cutPage, mCutPage, h_toInt, mToInt, drP_n, drP_c, logAt_n, logAt_c, disP_n, disP_c, notIn_n, notIn_c, jm]
          · clear jm jh8 j4 jh4 j6 jq j15 j11 j16 hmq hC
            clear v sl hp q
            rintro sl hp q ⟨j4, jh4, j6, jq, j15, hmq, j11, j16, ⟨v, jh8⟩, j, hkj, hj, j17, jm⟩
            dsimp only at j4 jh4 j6 jq j15 hmq j11 j16 j17 jm jh8
            have hll := cutL_len (x := x) (L := L) (k := k) (j := j) (by omega)
            by_cases g2' : j < g.length
            · have g2 : decide ((j : Int) < (g.length : Int)) = true := decide_eq_true (by omega)
              have hgx := cutL_x (x := x) (L := L) (k := k) (j := j) (by omega)
              have hgj := cutL_get (x := x) (L := L) (k := k) (j := j) hkj (by omega)
              have hst := cutL_set (x := x) (L := L) (k := k) (j := j) hkj (by omega)
              have hyr := hCs.g (decK x (L.getD j 0)) (by
                refine List.mem_map.2 ⟨_, ?_, rfl⟩
                have h := getD_mem (xs := L.drop (k + 1)) (k := j - (k + 1)) (by rw [List.length_drop]; omega)
                rwa [getD_drop, show k + 1 + (j - (k + 1)) = j by omega] at h)
              rw [hx] at hgx
              obtain ⟨y, hy⟩ : ∃ y, L.getD j 0 = y := ⟨_, rfl⟩
              rw [hy] at hgj hst hyr
              have hdk : y - (if decide (x < y) = true then 1 else 0) = decK x y := by
                unfold decK
                simp [gt_iff_lt]
              have hyb : -1 ≤ y ∧ y ≤ 1001 := by
                unfold decK at hyr
                split at hyr <;> omega
              simp (config := {maxSteps := 1000000}) (disch := omega) only [go_sem, ↓reduceIte, Nat.reduceEqDiff, Nat.reduceAdd, Nat.reduceMul, Nat.reduceSub, Nat.reduceLeDiff, Nat.reduceLT, Int.reduceToNat, Int.reduceLE, Int.reduceLT, Int.reduceNeg, h_copyTreeS, mCopyTree, h_pathTo, mPath, h_rowOf, mRowOf, h_DropPairS, mDropPair, h_leafOfS, mLeafOf, h_placeOf, mPlaceOf, h_mendS, mMendS, h_cutPage, mCutPage, h_toInt, mToInt, drP_n, drP_c, logAt_n, logAt_c, disP_n, disP_c, notIn_n, notIn_c, j4, jh4, j6, j15, j11, j16, j17, jm, jh8, g2, hgx, hgj, hdk, hst, hll, hL]
              exact ⟨⟨⟨_, rfl⟩, j + 1, by omega, by omega, rfl, rfl⟩, by omega⟩
            · have g2 : decide ((j : Int) < (g.length : Int)) = false := decide_eq_false (by omega)
              obtain rfl : j = g.length := by omega
              have hdr := cutL_drop (x := x) (L := L) (k := k) (by omega)
              rw [hL] at hdr
              simp (config := {maxSteps := 1000000}) (disch := omega) only [go_sem, ↓reduceIte, Nat.reduceEqDiff, Nat.reduceAdd, Nat.reduceMul, Nat.reduceSub, Nat.reduceLeDiff, Nat.reduceLT, Int.reduceToNat, Int.reduceLE, Int.reduceLT, Int.reduceNeg, h_copyTreeS, mCopyTree, h_pathTo, mPath, h_rowOf, mRowOf, h_DropPairS, mDropPair, h_leafOfS, mLeafOf, h_placeOf, mPlaceOf, h_mendS, mMendS, h_cutPage, mCutPage, h_toInt, mToInt, drP_n, drP_c, logAt_n, logAt_c, disP_n, disP_c, notIn_n, notIn_c, j4, jh4, j6, j15, j11, j16, j17, jm, jh8, g2]
              refine ⟨⟨k + 1, cutL x L k g.length, cut1 ⟨ur, us⟩ x, by omega, by omega, rfl, ?_, ?_, rfl, v, rfl⟩, by omega⟩
              · rw [hdr]; exact hCs
              · rw [hdr]; exact hF
        · have g1 : decide ((k : Int) < (g.length : Int)) = false := decide_eq_false (by omega)
          have hdn : L.drop k = [] := List.drop_eq_nil_of_le (by omega)
          rw [hdn, cutAll_nil] at hF
          rw [← hF]
          simp (config := {maxSteps := 1000000}) (disch := omega) only [go_sem, ↓reduceIte, Nat.reduceEqDiff, Nat.reduceAdd, Nat.reduceMul, Nat.reduceSub, Nat.reduceLeDiff, Nat.reduceLT, Int.reduceToNat, Int.reduceLE, Int.reduceLT, Int.reduceNeg, h_copyTreeS, mCopyTree, h_pathTo, mPath, h_rowOf, mRowOf, h_DropPairS, mDropPair, h_leafOfS, mLeafOf, h_placeOf, mPlaceOf, h_mendS, mMendS, h_cutPage, mCutPage, h_toInt, mToInt, drP_n, drP_c, logAt_n, logAt_c, disP_n, disP_c, notIn_n, notIn_c, j4, jh4, j6, j15, j11, j16, jm, jh8, g1]
          skip
theorem fo_dropTree : FnOk Try.prog 59 := fnOk_of Try.func59 (by kernel_rfl)
theorem c_dropTree : Contract Try.prog 59 mDropTree :=
  contract_of_does (DT := fun id => match id with | 5 => [(7, 0), (7, 1), (7, 4), (7, 5)] | 9 => [(12, 0), (17, 0), (17, 2), (17, 3), (17, 5), (17, 6), (17, 7), (17, 10), (17, 11), (12, 17), (17, 12), (13, 17), (17, 13)] | 25 => [(15, 4), (15, 5)] | _ => []) Try.checked.mixed tabOk (gok_model fo_copyTreeS c_copyTreeS (gok_model fo_pathTo c_pathTo (gok_model fo_rowOf c_rowOf (gok_model fo_DropPairS c_DropPairS (gok_model fo_leafOfS c_leafOfS (gok_model fo_placeOf c_placeOf (gok_model fo_mendS c_mendS (gok_model fo_cutPage c_cutPage (gok_model fo_toInt c_toInt gok_nil))))))))) Try.func59 rfl (by kernel_rfl) (does_dropTree rfl rfl rfl rfl rfl rfl rfl rfl rfl)

end Go.TM
