/- Contracts, 56: the program's renumbering. -/
import Derived.Test.YtbdiacopffnnbaaF52
namespace Go.TM
open Go.Proofs
set_option linter.unusedVariables false
set_option linter.unusedSimpArgs false
set_option maxRecDepth 100000
set_option maxHeartbeats 4000000

/-! ### Pages of which some have been taken away -/

def ePo : Option Pg → List A
  | some p => ePg true p
  | none => [.und, .und, .und]
theorem ePo_len (o : Option Pg) : (ePo o).length = 3 := by cases o <;> rfl
theorem drop_po : ∀ (xs : List (Option Pg)) (k : Nat), (xs.flatMap ePo).drop (k * 3) = (xs.drop k).flatMap ePo
  | [], k => by simp
  | x :: xs, 0 => by simp
  | x :: xs, k + 1 => by
    have := drop_po xs k
    rw [show (k + 1) * 3 = 3 + k * 3 from by omega, List.flatMap_cons, ← List.drop_drop]
    rw [show 3 = (ePo x).length from (ePo_len x).symm, List.drop_left]
    rw [ePo_len]
    simpa using this
theorem po_len (xs : List (Option Pg)) : (xs.flatMap ePo).length = xs.length * 3 := by
  induction xs with
  | nil => rfl
  | cons x xs ih => rw [List.flatMap_cons, List.length_append, ePo_len, ih, List.length_cons]; omega
theorem po_get {xs : List (Option Pg)} {k j : Nat} {p : Pg} (h : k < xs.length) (hp : xs.getD k none = some p) (hj : j < 3) : (xs.flatMap ePo)[k * 3 + j]? = (ePg true p)[j]? := by
  rw [← List.getElem?_drop, drop_po, List.drop_eq_getElem_cons h, List.flatMap_cons, List.getElem?_append_left (by rw [ePo_len]; exact hj)]
  rw [show xs[k] = some p from by rw [← hp]; simp [h]]
  rfl
theorem po_rng {xs : List (Option Pg)} {k : Nat} {p : Pg} (h : k < xs.length) (hp : xs.getD k none = some p) : rng (xs.flatMap ePo) (k * 3) 3 = [eIs true p.keys, eIs true p.kids, eIs true p.vals] := by
  unfold rng
  rw [drop_po, List.drop_eq_getElem_cons h, List.flatMap_cons, show xs[k] = some p from by rw [← hp]; simp [h]]
  rfl
theorem po_set {xs : List (Option Pg)} {k : Nat} (h : k < xs.length) : (((xs.flatMap ePo).set (k * 3) .und).set (k * 3 + 1) .und).set (k * 3 + 2) .und = (xs.set k none).flatMap ePo := by
  rw [← set_flat ePo 3 ePo_len xs k none h]
  have hl := po_len xs
  show _ = List.take (k * 3) (xs.flatMap ePo) ++ [A.und, A.und, A.und] ++ List.drop (k * 3 + 3) (xs.flatMap ePo)
  rw [show [A.und, A.und, A.und] = [A.und, A.und, A.und] from rfl]
  have e := setR_eq [A.und, A.und, A.und] (k * 3) (xs.flatMap ePo) (by rw [hl]; simp; omega)
  rw [List.length_cons, List.length_cons, List.length_singleton] at e
  rw [← e]
  rfl
theorem po_all (ps : List Pg) : ps.flatMap (ePg true) = (ps.map some).flatMap ePo := by
  induction ps with
  | nil => rfl
  | cons p ps ih => rw [List.flatMap_cons, ih]; rfl

/-- The numbers of the pages that have been numbered. -/
def Numd (ns w : List Int) (k : Nat) : Prop := ns.length = 16 ∧ ∀ i, i < k → ns.getD (w.getD i 0).toNat 0 = i
theorem Numd.step {ns w : List Int} {k : Nat} {y : Nat} (h : Numd ns w k) (hk : k < w.length) (hy : w.getD k 0 = y) (hw : ∀ z ∈ w, 0 ≤ z ∧ z < 16) (hn : w.Nodup) : Numd (ns.set y k) w (k + 1) := by
  refine ⟨by rw [List.length_set]; exact h.1, fun i hi => ?_⟩
  have hwk := hw _ (getD_mem hk)
  rw [hy] at hwk
  by_cases e : i = k
  · subst e
    rw [hy]
    have hl := h.1
    simp [show y < ns.length from by omega]
  · have hik : i < k := by omega
    have h1 := h.2 i hik
    have hne : (w.getD i 0).toNat ≠ y := by
      intro hh
      have hwi := hw _ (getD_mem (show i < w.length by omega))
      have : w.getD i 0 = w.getD k 0 := by rw [hy]; omega
      have h2 := (List.nodup_iff_pairwise_ne.1 hn)
      rw [List.pairwise_iff_getElem] at h2
      have h3 := h2 i k (by omega) hk hik
      apply h3
      have e1 : w.getD i 0 = w[i] := by simp [show i < w.length from by omega]
      have e2 : w.getD k 0 = w[k] := by simp [hk]
      rw [← e1, ← e2, this]
    rw [List.getD_eq_getElem?_getD, List.getElem?_set_ne (Ne.symm hne), ← List.getD_eq_getElem?_getD]
    exact h1
theorem Numd.at {ns w : List Int} (h : Numd ns w w.length) {z : Int} (hz : z ∈ w) (hn : w.Nodup) : ns.getD z.toNat 0 = placeV w z := by
  obtain ⟨i, hi, e⟩ := mem_getD hz
  rw [← e, h.2 i hi]
  refine (place_at hi rfl fun j hj hh => ?_).symm
  have h2 := (List.nodup_iff_pairwise_ne.1 hn)
  rw [List.pairwise_iff_getElem] at h2
  apply h2 j i (by omega) hi hj
  have e1 : w.getD j 0 = w[j] := by simp [show j < w.length from by omega]
  have e2 : w.getD i 0 = w[i] := by simp [hi]
  rw [← e1, ← e2, hh]

theorem tr2_eq {n : Nat} {r : Int} {b : Bool} {ps : List Pg} (h : n = ps.length) : some (A.tup [.agg [eI r, .s true 3 n (ps.flatMap (ePg true))], .b b], ([] : List (List A))) = some (.tup [eTr true ⟨r, ps⟩, .b b], []) := by subst h; rfl

theorem does_RenumberI {G : Nat → Option FM} (h_ValidTreeI : G 64 = some (.model mValidTree)) (h_orderBelow : G 163 = some (.model (mOrder 3))) (h_copyTreeI : G 164 = some (.model mCopyTree)) : Does T G (fun id => match id with  | _ => []) Try.f97 mRenumber := by
  refine does1 (rs := [.cell 2 73, .tmp 3]) rfl rfl fun t ro h => ?_
  obtain ⟨hs, rfl⟩ := gd_some h
  refine ⟨fun _ => ⟨by simp only [cleanA, cleanL, clean_pgs, Bool.and_self], rfl⟩, ?_⟩
  clear h
  cases hv : vTr t
  · rw [rnV_f hv]
    simp (config := {maxSteps := 1000000}) (disch := omega) only [go_sem, ↓reduceIte, Nat.reduceEqDiff, Nat.reduceAdd, Nat.reduceMul, Nat.reduceSub, Nat.reduceLeDiff, Nat.reduceLT, Int.reduceToNat, Int.reduceLE, Int.reduceLT, Int.reduceNeg, h_ValidTreeI, mValidTree, h_orderBelow, mOrder, h_copyTreeI, mCopyTree, drP_n, drP_c, logAt_n, logAt_c, disP_n, disP_c, notIn_n, notIn_c, hs, hv]
    try rfl
  · rw [rnV_t hv]
    have tv := vTr_iff.1 hv
    have pd := tv.pd
    have h3a : htF t 3 t.root ≤ 2 := tv.ht
    have h3b : htF t 3 t.root < 3 := by omega
    have lw := pd.wlen
    have wr := pd.wrng
    have wn := pd.nd
    have wk' := pd.kids_mem
    have ln := tv.len.2
    have lw3 : (wk t (htF t 3 t.root) t.root).length ≤ 1000 := Nat.le_trans lw (by decide)
    have d0 : (cIs true).d (.s true 1 0 []) = some [] := rfl
    simp (config := {maxSteps := 1000000}) (disch := omega) only [go_sem, ↓reduceIte, Nat.reduceEqDiff, Nat.reduceAdd, Nat.reduceMul, Nat.reduceSub, Nat.reduceLeDiff, Nat.reduceLT, Int.reduceToNat, Int.reduceLE, Int.reduceLT, Int.reduceNeg, h_ValidTreeI, mValidTree, h_orderBelow, mOrder, h_copyTreeI, mCopyTree, drP_n, drP_c, logAt_n, logAt_c, disP_n, disP_c, notIn_n, notIn_c, hs, hv, pd, h3a, h3b, d0, List.nil_append]
    unfold rnT
    generalize hw : wk t (htT t) t.root = w at *
    have w16 : ∀ z ∈ w, 0 ≤ z ∧ z < 16 := fun z hz => by have := wr z hz; omega
    refine W_loop_i (fun s => s.sl 1 = .ptr (3, 0) [] 0 0 ∧ s.sl 2 = .ptr (4, 0) [] 0 0 ∧ s.sl 4 = .ref (12, 0) [] 0 0 1 w.length ∧ s.sl 5 = .ptr (14, 0) [] 0 0 ∧ s.hp (3, 0) = some ⟨2, 1, [eI t.root, ePgs false t.pages], fun _ => 0⟩ ∧ s.hp (4, 0) = some ⟨2, 1, [eI 0, .s true 3 0 []], fun _ => 0⟩ ∧ 14 < s.n ∧
      s.hp (12, 0) = some ⟨1, w.length, w.map eI, fun _ => 0⟩ ∧ s.sl 23 = .ref (12, 0) [] 0 0 1 w.length ∧ s.sl 24 = eI w.length ∧ ∃ k : Nat, k ≤ w.length ∧ s.sl 25 = eI k ∧ ∃ ns : List Int, Numd ns w k ∧ s.hp (14, 0) = some ⟨16, 1, ns.map eI, fun _ => 0⟩) (fun s => w.length - iN (s.sl 25)) ?_ ?_
    · exact ⟨rfl, rfl, rfl, rfl, rfl, rfl, by dsimp only [St.n]; omega, rfl, rfl, rfl, 0, Nat.zero_le _, rfl, List.replicate 16 0, ⟨rfl, fun i hi => by omega⟩, rfl⟩
    · rintro sl hp q ⟨h1, h2, h4, h5, hh3, hh4, hq, hhw, h23, h24, k, hk, h25, ns, hns, hhn⟩
      dsimp only at h1 h2 h4 h5 hh3 hh4 hq hhw h23 h24 h25 hhn
      simp (config := {maxSteps := 1000000}) (disch := omega) only [go_sem, ↓reduceIte, Nat.reduceEqDiff, Nat.reduceAdd, Nat.reduceMul, Nat.reduceSub, Nat.reduceLeDiff, Nat.reduceLT, Int.reduceToNat, Int.reduceLE, Int.reduceLT, Int.reduceNeg, h_ValidTreeI, mValidTree, h_orderBelow, mOrder, h_copyTreeI, mCopyTree, drP_n, drP_c, logAt_n, logAt_c, disP_n, disP_c, notIn_n, notIn_c, h1, h2, h4, h5, hh3, hh4, hhw, h23, h24, h25, hhn]
      (first | refine runKS_split (fun g1 => ?_) (fun g1 => ?_) | refine cond_split (fun g1 => ?_) (fun g1 => ?_) | refine runK_split (fun g1 => ?_) (fun g1 => ?_))
      · have g1' := of_decide_eq_true g1
        have hx := w16 (w.getD k 0) (getD_mem (by omega))
        obtain ⟨y, hy⟩ : ∃ y : Nat, w.getD k 0 = y := ⟨(w.getD k 0).toNat, by omega⟩
        have st := hns.step (by omega) hy w16 wn
        have nl := hns.1
        rw [hy] at hx
        simp (config := {maxSteps := 1000000}) (disch := omega) only [go_sem, ↓reduceIte, Nat.reduceEqDiff, Nat.reduceAdd, Nat.reduceMul, Nat.reduceSub, Nat.reduceLeDiff, Nat.reduceLT, Int.reduceToNat, Int.reduceLE, Int.reduceLT, Int.reduceNeg, h_ValidTreeI, mValidTree, h_orderBelow, mOrder, h_copyTreeI, mCopyTree, drP_n, drP_c, logAt_n, logAt_c, disP_n, disP_c, notIn_n, notIn_c, h1, h2, h4, h5, hh3, hh4, hhw, h23, h24, h25, hhn, g1, hy]
        exact ⟨⟨k + 1, by omega, rfl, ns.set y k, st, rfl⟩, by omega⟩
      · have g1' := of_decide_eq_false g1
        obtain rfl : k = w.length := by omega
        have nat' : ∀ z ∈ w, ns.getD z.toNat 0 = placeV w z := fun z hz => hns.at hz wn
        have nl := hns.1
        simp (config := {maxSteps := 1000000}) (disch := omega) only [go_sem, ↓reduceIte, Nat.reduceEqDiff, Nat.reduceAdd, Nat.reduceMul, Nat.reduceSub, Nat.reduceLeDiff, Nat.reduceLT, Int.reduceToNat, Int.reduceLE, Int.reduceLT, Int.reduceNeg, h_ValidTreeI, mValidTree, h_orderBelow, mOrder, h_copyTreeI, mCopyTree, drP_n, drP_c, logAt_n, logAt_c, disP_n, disP_c, notIn_n, notIn_c, h1, h2, h4, h5, hh3, hh4, hhw, h23, h24, h25, hhn, g1, hs]
        refine W_loop_i (fun s => s.sl 2 = .ptr (4, 0) [] 0 0 ∧ s.sl 4 = .ref (12, 0) [] 0 0 1 w.length ∧ s.sl 5 = .ptr (14, 0) [] 0 0 ∧ s.hp (4, 0) = some ⟨2, 1, [eI 0, .s true 3 0 []], fun _ => 0⟩ ∧ q + 8 < s.n ∧ s.hp (14, 0) = some ⟨16, 1, ns.map eI, fun _ => 0⟩ ∧
          s.hp (12, 0) = some ⟨1, w.length, w.map eI, fun _ => 0⟩ ∧ s.sl 37 = .ref (12, 0) [] 0 0 1 w.length ∧ s.sl 38 = eI w.length ∧ s.sl 8 = .ptr (q + 1 + 2, 0) [] 0 0 ∧ s.sl 9 = .ptr (q + 1 + 4 + 1, 0) [] 0 0 ∧ ∃ k : Nat, k ≤ w.length ∧ s.sl 39 = eI k ∧
          (∃ (os : List (Option Pg)) (v : Nat → Nat), os.length = t.pages.length ∧ (∀ y : Nat, y < t.pages.length → (y : Int) ∉ w.take k → os.getD y none = some (t.pages.getD y default)) ∧ s.hp (q + 1 + 2, 0) = some ⟨2, 1, [eI t.root, .s true 3 t.pages.length (os.flatMap ePo)], v⟩) ∧
          ∃ v, s.hp (q + 1 + 4 + 1, 0) = some ⟨2, 1, [eI 0, .s true 3 k (((w.take k).map fun x => rnP w (pgAt t x)).flatMap (ePg true))], v⟩) (fun s => w.length - iN (s.sl 39)) ?_ ?_
        · simp (config := {maxSteps := 1000000}) (disch := omega) only [go_sem, ↓reduceIte, Nat.reduceEqDiff, Nat.reduceAdd, Nat.reduceMul, Nat.reduceSub, Nat.reduceLeDiff, Nat.reduceLT, Int.reduceToNat, Int.reduceLE, Int.reduceLT, Int.reduceNeg, h_ValidTreeI, mValidTree, h_orderBelow, mOrder, h_copyTreeI, mCopyTree, drP_n, drP_c, logAt_n, logAt_c, disP_n, disP_c, notIn_n, notIn_c, h2, h4, h5, hh4, hhw, hhn]
          refine ⟨0, Nat.zero_le _, rfl, ⟨t.pages.map some, ?_⟩, _, rfl⟩
          rw [← po_all]
          exact ⟨_, by simp, fun y hy _ => by simp [hy], rfl⟩
        · rintro sl hp q2 ⟨h2, h4, h5, hh4, hq2, hhn, hhw, h37, h38, h8, h9, k, hk, h39, ⟨os, v, hol, hos, hho⟩, v', hhr⟩
          dsimp only at h2 h4 h5 hh4 hq2 hhn hhw h37 h38 h8 h9 h39 hho hhr
          simp (config := {maxSteps := 1000000}) (disch := omega) only [go_sem, ↓reduceIte, Nat.reduceEqDiff, Nat.reduceAdd, Nat.reduceMul, Nat.reduceSub, Nat.reduceLeDiff, Nat.reduceLT, Int.reduceToNat, Int.reduceLE, Int.reduceLT, Int.reduceNeg, h_ValidTreeI, mValidTree, h_orderBelow, mOrder, h_copyTreeI, mCopyTree, drP_n, drP_c, logAt_n, logAt_c, disP_n, disP_c, notIn_n, notIn_c, h2, h4, h5, hh4, hhn, hhw, h37, h38, h8, h9, h39]
          (first | refine runKS_split (fun g2 => ?_) (fun g2 => ?_) | refine cond_split (fun g2 => ?_) (fun g2 => ?_) | refine runK_split (fun g2 => ?_) (fun g2 => ?_))
          · have g2' := of_decide_eq_true g2
            have hmem := getD_mem (show k < w.length by omega)
            have hx := wr (w.getD k 0) hmem
            have hkm := wk' _ hmem
            have rs := rn_succ (t := t) (w := w) (w' := w) (k := k) (by omega)
            have rl : ((w.take k).map fun x => rnP w (pgAt t x)).length = k := by rw [List.length_map, List.length_take]; omega
            have hnk : w.getD k 0 ∉ w.take k := (nodup_take (by omega) (wn.sublist (List.take_sublist _ _))).2
            obtain ⟨y, hy⟩ : ∃ y : Nat, w.getD k 0 = y := ⟨(w.getD k 0).toNat, by omega⟩
            rw [hy] at hx rs hnk hkm
            have hoy := hos y (by omega) hnk
            have hts := tr_small hs y
            have hpa := pgAt_nat t y
            rw [hpa] at hts rs hkm
            generalize hP : t.pages.getD y default = P at *
            have r3 := po_rng (xs := os) (by omega) hoy
            have c0 : (os.flatMap ePo)[y * 3]? = some (eIs true P.keys) := po_get (j := 0) (by omega) hoy (by omega)
            have c1 : ((os.flatMap ePo).set (y * 3) .und)[y * 3 + 1]? = some (eIs true P.kids) := by rw [List.getElem?_set_ne (by omega)]; exact po_get (j := 1) (by omega) hoy (by omega)
            have c2 : (((os.flatMap ePo).set (y * 3) .und).set (y * 3 + 1) .und)[y * 3 + 2]? = some (eIs true P.vals) := by rw [List.getElem?_set_ne (by omega), List.getElem?_set_ne (by omega)]; exact po_get (j := 2) (by omega) hoy (by omega)
            have c3 := po_set (xs := os) (k := y) (by omega)
            generalize hR : (w.take k).map (fun x => rnP w (pgAt t x)) = R at *
            simp (config := {maxSteps := 1000000}) (disch := omega) only [go_sem, ↓reduceIte, Nat.reduceEqDiff, Nat.reduceAdd, Nat.reduceMul, Nat.reduceSub, Nat.reduceLeDiff, Nat.reduceLT, Int.reduceToNat, Int.reduceLE, Int.reduceLT, Int.reduceNeg, h_ValidTreeI, mValidTree, h_orderBelow, mOrder, h_copyTreeI, mCopyTree, drP_n, drP_c, logAt_n, logAt_c, disP_n, disP_c, notIn_n, notIn_c, h2, h4, h5, hh4, hhn, hhw, h37, h38, h8, h9, h39, hho, hhr, g2, hy, r3, c0, c1, c2, c3]
            have hon : (os.set y none).length = t.pages.length := by rw [List.length_set]; exact hol
            have hos2 : ∀ z : Nat, z < t.pages.length → (z : Int) ∉ w.take (k + 1) → (os.set y none).getD z none = some (t.pages.getD z default) := by
              intro z hz hnz
              rw [take_app1 (by omega), hy] at hnz
              have hne : z ≠ y := fun h => hnz (by rw [h]; simp)
              have h1 := hos z hz fun h => hnz (List.mem_append_left _ h)
              rw [List.getD_eq_getElem?_getD, List.getElem?_set_ne (Ne.symm hne), ← List.getD_eq_getElem?_getD]
              exact h1
            generalize hO : os.set y none = O at *
            have hkm2 : ∀ j, j < P.kids.length → P.kids.getD j 0 ∈ w := fun j hj => hkm _ (getD_mem hj)
            clear hos hoy hho hns r3 c0 c1 c2 c3 hol hO
            refine W_loop_i (fun s => s.sl 2 = .ptr (4, 0) [] 0 0 ∧ s.sl 4 = .ref (12, 0) [] 0 0 1 w.length ∧ s.sl 5 = .ptr (14, 0) [] 0 0 ∧ s.hp (4, 0) = some ⟨2, 1, [eI 0, .s true 3 0 []], fun _ => 0⟩ ∧ q2 + 9 < s.n ∧ s.hp (14, 0) = some ⟨16, 1, ns.map eI, fun _ => 0⟩ ∧
              s.hp (12, 0) = some ⟨1, w.length, w.map eI, fun _ => 0⟩ ∧ s.sl 37 = .ref (12, 0) [] 0 0 1 w.length ∧ s.sl 38 = eI w.length ∧ s.sl 8 = .ptr (q + 1 + 2, 0) [] 0 0 ∧ s.sl 9 = .ptr (q + 1 + 4 + 1, 0) [] 0 0 ∧ s.sl 39 = eI k ∧
              (∃ v, s.hp (q + 1 + 2, 0) = some ⟨2, 1, [eI t.root, .s true 3 t.pages.length (O.flatMap ePo)], v⟩) ∧
              (∃ v, s.hp (q + 1 + 4 + 1, 0) = some ⟨2, 1, [eI 0, .s true 3 k (R.flatMap (ePg true))], v⟩) ∧
              s.sl 12 = .ptr (q2 + 9, 0) [] 0 0 ∧ s.sl 50 = eI P.kids.length ∧ ∃ j : Nat, j ≤ P.kids.length ∧ s.sl 51 = eI j ∧ ∃ v2 : Nat → Nat, s.sl 49 = .ref (q2 + 9, 0) [1] (v2 1) 0 1 P.kids.length ∧ s.hp (q2 + 9, 0) = some ⟨3, 1, [eIs true P.keys, .s true 1 P.kids.length ((mixL (placeV w) P.kids j).map eI), eIs true P.vals], v2⟩) (fun s => P.kids.length - iN (s.sl 51)) ?_ ?_
            · simp (config := {maxSteps := 1000000}) (disch := omega) only [go_sem, ↓reduceIte, Nat.reduceEqDiff, Nat.reduceAdd, Nat.reduceMul, Nat.reduceSub, Nat.reduceLeDiff, Nat.reduceLT, Int.reduceToNat, Int.reduceLE, Int.reduceLT, Int.reduceNeg, h_ValidTreeI, mValidTree, h_orderBelow, mOrder, h_copyTreeI, mCopyTree, drP_n, drP_c, logAt_n, logAt_c, disP_n, disP_c, notIn_n, notIn_c, h2, h4, h5, hh4, hhn, hhw, hhr, h37, h38, h8, h9, h39]
              exact ⟨⟨_, rfl⟩, ⟨_, rfl⟩, 0, Nat.zero_le _, rfl, verS [eIs true P.keys, eIs true P.kids, eIs true P.vals] (fun _ => 0) [] 0, rfl, by rw [mixL_zero]⟩
            · rintro sl hp q3 ⟨h2, h4, h5, hh4, hq3, hhn, hhw, h37, h38, h8, h9, h39, ⟨v, hho⟩, ⟨v', hhr⟩, h12, h50, j, hj, h51, v2, h49, hhp⟩
              dsimp only at h2 h4 h5 hh4 hq3 hhn hhw h37 h38 h8 h9 h39 hho hhr h12 h50 h51 h49 hhp
              have ml := mixL_len (placeV w) P.kids j
              simp (config := {maxSteps := 1000000}) (disch := omega) only [go_sem, ↓reduceIte, Nat.reduceEqDiff, Nat.reduceAdd, Nat.reduceMul, Nat.reduceSub, Nat.reduceLeDiff, Nat.reduceLT, Int.reduceToNat, Int.reduceLE, Int.reduceLT, Int.reduceNeg, h_ValidTreeI, mValidTree, h_orderBelow, mOrder, h_copyTreeI, mCopyTree, drP_n, drP_c, logAt_n, logAt_c, disP_n, disP_c, notIn_n, notIn_c, h2, h4, h5, hh4, hhn, hhw, h37, h38, h8, h9, h39, hho, hhr, h12, h50, h51, h49, hhp]
              (first | refine runKS_split (fun g3 => ?_) (fun g3 => ?_) | refine cond_split (fun g3 => ?_) (fun g3 => ?_) | refine runK_split (fun g3 => ?_) (fun g3 => ?_))
              · have g3' := of_decide_eq_true g3
                have mg := mixL_get (f := placeV w) (xs := P.kids) (j := j) (by omega)
                have ms := mixL_set (f := placeV w) (xs := P.kids) (j := j) (by omega)
                have mz := hkm2 j (by omega)
                have nz := nat' _ mz
                have rz := w16 _ mz
                obtain ⟨z, hz⟩ : ∃ z : Nat, P.kids.getD j 0 = z := ⟨(P.kids.getD j 0).toNat, by omega⟩
                rw [hz] at mg ms nz rz
                rw [Int.toNat_natCast] at nz
                simp (config := {maxSteps := 1000000}) (disch := omega) only [go_sem, ↓reduceIte, Nat.reduceEqDiff, Nat.reduceAdd, Nat.reduceMul, Nat.reduceSub, Nat.reduceLeDiff, Nat.reduceLT, Int.reduceToNat, Int.reduceLE, Int.reduceLT, Int.reduceNeg, h_ValidTreeI, mValidTree, h_orderBelow, mOrder, h_copyTreeI, mCopyTree, drP_n, drP_c, logAt_n, logAt_c, disP_n, disP_c, notIn_n, notIn_c, h2, h4, h5, hh4, hhn, hhw, h37, h38, h8, h9, h39, hho, hhr, h12, h50, h51, h49, hhp, g3, mg, ms, nz]
                exact ⟨⟨⟨_, rfl⟩, ⟨_, rfl⟩, j + 1, by omega, rfl, v2, rfl, rfl⟩, by omega⟩
              · have g3' := of_decide_eq_false g3
                obtain rfl : j = P.kids.length := by omega
                rw [mixL_all] at hhp
                have hml : (P.kids.map (placeV w)).length = P.kids.length := List.length_map _
                simp (config := {maxSteps := 1000000}) (disch := omega) only [go_sem, ↓reduceIte, Nat.reduceEqDiff, Nat.reduceAdd, Nat.reduceMul, Nat.reduceSub, Nat.reduceLeDiff, Nat.reduceLT, Int.reduceToNat, Int.reduceLE, Int.reduceLT, Int.reduceNeg, h_ValidTreeI, mValidTree, h_orderBelow, mOrder, h_copyTreeI, mCopyTree, drP_n, drP_c, logAt_n, logAt_c, disP_n, disP_c, notIn_n, notIn_c, h2, h4, h5, hh4, hhn, hhw, h37, h38, h8, h9, h39, hho, hhr, h12, h50, h51, h49, hhp, g3, app_pg]
                refine ⟨⟨k + 1, by omega, rfl, ⟨O, _, hon, hos2, rfl⟩, ?_⟩, by omega⟩
                rw [rs]
                exact ⟨_, rfl⟩
          · have g2' := of_decide_eq_false g2
            obtain rfl : k = w.length := by omega
            rw [List.take_length] at hhr
            simp (config := {maxSteps := 1000000}) (disch := omega) only [go_sem, ↓reduceIte, Nat.reduceEqDiff, Nat.reduceAdd, Nat.reduceMul, Nat.reduceSub, Nat.reduceLeDiff, Nat.reduceLT, Int.reduceToNat, Int.reduceLE, Int.reduceLT, Int.reduceNeg, h_ValidTreeI, mValidTree, h_orderBelow, mOrder, h_copyTreeI, mCopyTree, drP_n, drP_c, logAt_n, logAt_c, disP_n, disP_c, notIn_n, notIn_c, h2, h4, h5, hh4, hhn, hhw, h37, h38, h8, h9, h39, hhr, g2]
            exact tr2_eq (by rw [List.length_map])
theorem fo_RenumberI : FnOk Try.prog 97 := fnOk_of Try.func97 (by kernel_rfl)
theorem c_RenumberI : Contract Try.prog 97 mRenumber :=
  contract_of_does (DT := fun id => match id with  | _ => []) Try.checked.mixed tabOk (gok_model fo_ValidTreeI c_ValidTreeI (gok_model fo_orderBelow (c_orderBelow 3) (gok_model fo_copyTreeI c_copyTreeI gok_nil))) Try.func97 rfl (by kernel_rfl) (does_RenumberI rfl rfl rfl)

end Go.TM
