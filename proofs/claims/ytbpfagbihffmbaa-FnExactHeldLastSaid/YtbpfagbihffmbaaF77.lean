/- Contracts, joined. -/
import Derived.Test.YtbpfagbihffmbaaF62
namespace Go.TM
open Go.Proofs Go.RowKit
set_option linter.unusedVariables false
set_option linter.unusedSimpArgs false
set_option maxRecDepth 100000
set_option maxHeartbeats 4000000

theorem three_slc {us : Array Value} (hu : us.size = 3) (hs : ∀ k ∈ [0, 1], ∃ ao l cp, us.getD k undef = Value.slice ao l cp) : ∃ a0 l0 c0 a1 l1 c1 u2, us = #[.slice a0 l0 c0, .slice a1 l1 c1, u2] := by
  obtain ⟨l, rfl⟩ : ∃ l : List Value, us = l.toArray := ⟨us.toList, by simp⟩
  match l, hu with
  | [u0, u1, u2], _ =>
    obtain ⟨a0, l0, c0, e0⟩ := hs 0 (by simp)
    obtain ⟨a1, l1, c1, e1⟩ := hs 1 (by simp)
    have e0' : u0 = .slice a0 l0 c0 := e0
    have e1' : u1 = .slice a1 l1 c1 := e1
    exact ⟨a0, l0, c0, a1, l1, c1, u2, by rw [e0', e1']⟩

theorem c_insideIA : AliasOk Try.prog 80 [3] [.arg 0 0, .arg 0 1] := by
  refine alias_of_kept (ks := [0, 1]) (by omega) fun w us hu hs => ?_
  obtain ⟨a0, l0, c0, a1, l1, c1, u2, rfl⟩ := three_slc hu hs
  go_enter Try.func80, Try.ntmps80
  go_wp2
  (try simp only [Exit.inBlock, Exit.then])
  refine bodyPost_ret (v := .agg #[.slice a0 l0 c0, .slice a1 l1 c1]) (by simp [results, Try.results80, go_sem]) rfl ?_
  exact ⟨rfl, (Kept.alloc _ _ _).trans (Kept.alloc _ _ _)⟩
theorem fo_insideIA : FnOk Try.prog 80 := fnOk_of Try.func80 (by kernel_rfl)


theorem c_insideSA : AliasOk Try.prog 122 [3] [.arg 0 0, .arg 0 1] := by
  refine alias_of_kept (ks := [0, 1]) (by omega) fun w us hu hs => ?_
  obtain ⟨a0, l0, c0, a1, l1, c1, u2, rfl⟩ := three_slc hu hs
  go_enter Try.func122, Try.ntmps122
  go_wp2
  (try simp only [Exit.inBlock, Exit.then])
  refine bodyPost_ret (v := .agg #[.slice a0 l0 c0, .slice a1 l1 c1]) (by simp [results, Try.results122, go_sem]) rfl ?_
  exact ⟨rfl, (Kept.alloc _ _ _).trans (Kept.alloc _ _ _)⟩
theorem fo_insideSA : FnOk Try.prog 122 := fnOk_of Try.func122 (by kernel_rfl)


theorem c_innerPage : AliasOk Try.prog 77 [2] [.arg 0 0, .arg 0 1, .nil 1] := by
  refine alias_of_kept_nil (ks := [0, 1]) (Nat.le_refl _) fun w us hu hs => ?_
  obtain ⟨a0, l0, c0, a1, l1, c1, rfl⟩ := two_slc hu hs
  go_enter Try.func77, Try.ntmps77
  go_wp2
  (try simp only [Exit.inBlock, Exit.then])
  refine bodyPost_ret (v := .agg #[.slice a0 l0 c0, .slice a1 l1 c1, .slice none 0 0]) (by simp [results, Try.results77, go_sem]) rfl ?_
  exact ⟨rfl, (Kept.alloc _ _ _).trans (Kept.alloc _ _ _)⟩
theorem fo_innerPage : FnOk Try.prog 77 := fnOk_of Try.func77 (by kernel_rfl)



set_option linter.unusedVariables false
set_option linter.unusedSimpArgs false
set_option maxRecDepth 100000
set_option maxHeartbeats 4000000

noncomputable def mLeafFor : Model := M2 .ro .ro true (cTr false) cI fun t key => gd (smT t.pages = true ∧ vTr t = true) (eI (leafF t key (htT t) t.root), [])
noncomputable def getV (t : Tr) (key : Int) : Int × Bool := if vTr t = true then valV (prP (pgAt t (leafF t key (htT t) t.root))) key else (0, false)
theorem getV_f {t : Tr} {key : Int} (h : vTr t = false) : getV t key = (0, false) := if_neg (by rw [h]; simp)
theorem getV_t {t : Tr} {key : Int} (h : vTr t = true) : getV t key = valV (prP (pgAt t (leafF t key (htT t) t.root))) key := if_pos h
noncomputable def mGetKey : Model := M2 .ro .ro true (cTr false) cI fun t key => gd (smT t.pages = true) (.tup [eI (getV t key).1, .b (getV t key).2], [])

theorem does_leafFor {G : Nat → Option FM} (h_PathToI : G 72 = some (.model mPathTo)) : Does T G (fun id => match id with  | _ => []) Try.f98 mLeafFor := by
  refine does2 (rs := [.tmp 4]) rfl rfl fun t key ro h => ?_
  obtain ⟨⟨hs, hv⟩, rfl⟩ := gd_some h
  refine ⟨fun _ => ⟨rfl, rfl⟩, ?_⟩
  clear h
  have e := ptV_t (key := key) hv
  have pl := pathF_len t key (htT t) t.root
  have hl := pathF_last t key (htT t) t.root
  have h2 := (vTr_iff.1 hv).ht
  rw [← hl]
  generalize pathF t key (htT t) t.root = w at *
  have e0 : ((htT t + 1 : Nat) : Int) - 1 = htT t := by omega
  simp (config := {maxSteps := 1000000}) (disch := omega) only [go_sem, ↓reduceIte, Nat.reduceEqDiff, Nat.reduceAdd, Nat.reduceMul, Nat.reduceSub, Nat.reduceLeDiff, Nat.reduceLT, Int.reduceToNat, Int.reduceLE, Int.reduceLT, Int.reduceNeg, h_PathToI, mPathTo, drP_n, drP_c, logAt_n, logAt_c, disP_n, disP_c, notIn_n, notIn_c, hs, e, pl, e0]
theorem fo_leafFor : FnOk Try.prog 98 := fnOk_of Try.func98 (by kernel_rfl)
theorem c_leafFor : Contract Try.prog 98 mLeafFor :=
  contract_of_does (DT := fun id => match id with  | _ => []) Try.checked.mixed tabOk (gok_model fo_PathToI c_PathToI gok_nil) Try.func98 rfl (by kernel_rfl) (does_leafFor rfl)


theorem does_GetKeyI {G : Nat → Option FM} (h_ValidTreeI : G 66 = some (.model mValidTree)) (h_leafFor : G 98 = some (.model mLeafFor)) (h_pairsOfLeaf : G 75 = some (.model mRowOf)) (h_ValueInI : G 97 = some (.model mValueIn)) : Does T G (fun id => match id with | 3 => [(4, 0), (4, 1)] | _ => []) Try.f55 mGetKey := by
  refine does2 (rs := [.tmp 4, .tmp 5]) rfl rfl fun t key ro h => ?_
  obtain ⟨hs, rfl⟩ := gd_some h
  refine ⟨fun _ => ⟨rfl, rfl⟩, ?_⟩
  clear h
  cases hv : vTr t
  · rw [getV_f hv]
    simp (config := {maxSteps := 1000000}) (disch := omega) only [go_sem, ↓reduceIte, Nat.reduceEqDiff, Nat.reduceAdd, Nat.reduceMul, Nat.reduceSub, Nat.reduceLeDiff, Nat.reduceLT, Int.reduceToNat, Int.reduceLE, Int.reduceLT, Int.reduceNeg, h_ValidTreeI, mValidTree, h_leafFor, mLeafFor, h_pairsOfLeaf, mRowOf, h_ValueInI, mValueIn, drP_n, drP_c, logAt_n, logAt_c, disP_n, disP_c, notIn_n, notIn_c, hs, hv]
    try rfl
  · rw [getV_t hv]
    have pd := leafF_pd (key := key) (vTr_iff.1 hv).pd
    generalize hx : leafF t key (htT t) t.root = x at *
    have hr := pd.rng
    have lf := pd.leaf
    have h1 := lf.len
    have h2 := lf.vals
    obtain ⟨y, rfl⟩ : ∃ y : Nat, x = y := ⟨x.toNat, by omega⟩
    have hts := tr_small hs y
    have hpa := pgAt_nat t y
    rw [hpa] at hts h1 h2 ⊢
    generalize hP : t.pages.getD y default = P at *
    have pl := prP_len P
    simp (config := {maxSteps := 1000000}) (disch := omega) only [go_sem, ↓reduceIte, Nat.reduceEqDiff, Nat.reduceAdd, Nat.reduceMul, Nat.reduceSub, Nat.reduceLeDiff, Nat.reduceLT, Int.reduceToNat, Int.reduceLE, Int.reduceLT, Int.reduceNeg, h_ValidTreeI, mValidTree, h_leafFor, mLeafFor, h_pairsOfLeaf, mRowOf, h_ValueInI, mValueIn, drP_n, drP_c, logAt_n, logAt_c, disP_n, disP_c, notIn_n, notIn_c, hs, hv, hx, ePg, hP]
theorem fo_GetKeyI : FnOk Try.prog 55 := fnOk_of Try.func55 (by kernel_rfl)
theorem c_GetKeyI : Contract Try.prog 55 mGetKey :=
  contract_of_does (DT := fun id => match id with | 3 => [(4, 0), (4, 1)] | _ => []) Try.checked.mixed tabOk (gok_model fo_ValidTreeI c_ValidTreeI (gok_model fo_leafFor c_leafFor (gok_model fo_pairsOfLeaf c_pairsOfLeaf (gok_model fo_ValueInI c_ValueInI gok_nil)))) Try.func55 rfl (by kernel_rfl) (does_GetKeyI rfl rfl rfl rfl)



theorem fn_FnExactGetKey (t : Tr) (h : TrW t) (x : Int) (hx : intWf .i64 x) : mLawTree2.fn [eTr false t, eI x] = some (.b true, []) := by
  obtain ⟨h1, h2⟩ := bigP_of h
  simp (config := {maxSteps := 1000000}) (disch := omega) only [go_sem, ↓reduceIte, Nat.reduceEqDiff, Nat.reduceAdd, Nat.reduceMul, Nat.reduceSub, Nat.reduceLeDiff, Nat.reduceLT, Int.reduceToNat, Int.reduceLE, Int.reduceLT, Int.reduceNeg, mLawTree2, h2]

/-! ### A tree as numbers -/

theorem leaf_vPage {t : Tr} {x : Int} (h : PLeaf t x) : vPage (pgAt t x) = true := vPage_iff.2 ⟨h.vk, h.len, .inl ⟨by rw [h.kids]; rfl, h.vals, h.vrng⟩⟩
theorem PD.vPage {t : Tr} : ∀ {h : Nat} {x : Int}, PD t h x → Go.TM.vPage (pgAt t x) = true
  | 0, x, p => leaf_vPage p.leaf
  | h + 1, x, p => by
    have i := p.inn
    refine vPage_iff.2 ⟨i.vk, i.len.2, .inr ⟨by have := i.kids; have := i.len; omega, by rw [i.vals]; rfl, i.inn⟩⟩
theorem TV.pg {t : Tr} (h : TV t) {i : Nat} (hi : i < t.pages.length) : ∃ h', PD t h' i := by
  obtain ⟨y, hy, e⟩ := (all_iff_len h.nd h.pd.wrng).1 h.all i hi
  obtain ⟨h', hp⟩ := wk_pd' h.pd y hy
  have hr := h.pd.wrng y hy
  rw [show (i : Int) = y from by omega]
  exact ⟨h', hp⟩
theorem TV.vp {t : Tr} (h : TV t) {i : Nat} (hi : i < t.pages.length) : vPage (t.pages.getD i default) = true := by
  obtain ⟨h', hp⟩ := h.pg hi
  have := hp.vPage
  rwa [pgAt_nat] at this
def packT (t : Tr) (k : Nat) : List Int := (t.pages.length : Int) :: t.root :: (t.pages.take k).flatMap packN
theorem packT_succ {t : Tr} {k : Nat} (h : k < t.pages.length) : packT t k ++ packN (t.pages.getD k default) = packT t (k + 1) := by
  unfold packT
  rw [List.take_succ_eq_append_getElem h, List.flatMap_append]
  simp [h]
theorem flatP_len {m : Nat} {f : Pg → List Int} : ∀ {ps : List Pg}, (∀ p ∈ ps, (f p).length ≤ m) → (ps.flatMap f).length ≤ ps.length * m
  | [], _ => by simp
  | p :: ps, h => by
    have h1 := h p (by simp)
    have h2 := flatP_len (ps := ps) (f := f) (m := m) fun q hq => h q (by simp [hq])
    rw [List.flatMap_cons, List.length_append, List.length_cons, Nat.add_one_mul]
    omega
theorem packN_len {p : Pg} (h : vPage p = true) : (packN p).length ≤ 20 := by
  have h1 := packV_len p
  rw [packV_t h] at h1
  have s := smallPg h
  have := s.keys; have := s.kids; have := s.vals
  omega
theorem packT_len {t : Tr} (h : TV t) (k : Nat) : (packT t k).length ≤ 400 := by
  have h1 := flatP_len (m := 20) (f := packN) (ps := t.pages.take k) fun p hp => by
    obtain ⟨i, hi, rfl⟩ := List.getElem_of_mem (List.mem_of_mem_take hp)
    have := h.vp hi
    rw [show t.pages.getD i default = t.pages[i] from by simp [hi]] at this
    exact packN_len this
  have h2 := h.len.2
  rw [List.length_take] at h1
  unfold packT
  rw [List.length_cons, List.length_cons]
  have : min k t.pages.length * 20 ≤ 16 * 20 := Nat.mul_le_mul_right _ (by omega)
  omega
noncomputable def pkT (t : Tr) : List Int := if vTr t = true then packT t t.pages.length else []
theorem pkT_f {t : Tr} (h : vTr t = false) : pkT t = [] := if_neg (by rw [h]; simp)
theorem pkT_t {t : Tr} (h : vTr t = true) : pkT t = packT t t.pages.length := if_pos h
theorem pkT_len (t : Tr) : (pkT t).length ≤ 400 := by
  cases h : vTr t
  · rw [pkT_f h]; simp
  · rw [pkT_t h]; exact packT_len (vTr_iff.1 h) _
noncomputable def mPackT : Model := M1 .ro true (cTr false) fun t => gd (smT t.pages = true ∧ vTr t = true) (eIs true (packT t t.pages.length), [])
noncomputable def mPackTree : Model := M1 .ro true (cTr false) fun t => gd (smT t.pages = true) (eIs true (pkT t), [])




theorem fn_FnExactPackTree (t : Tr) (h : TrW t) : mLawTree.fn [eTr false t] = some (.b true, []) := by
  obtain ⟨h1, h2⟩ := bigP_of h
  simp (config := {maxSteps := 1000000}) (disch := omega) only [go_sem, ↓reduceIte, Nat.reduceEqDiff, Nat.reduceAdd, Nat.reduceMul, Nat.reduceSub, Nat.reduceLeDiff, Nat.reduceLT, Int.reduceToNat, Int.reduceLE, Int.reduceLT, Int.reduceNeg, mLawTree, h2]

set_option linter.unusedVariables false
set_option linter.unusedSimpArgs false
set_option maxRecDepth 100000
set_option maxHeartbeats 4000000

noncomputable def upF : Nat → List Int → Option (List Pg × List Int)
  | 0, xs => some ([], xs)
  | n + 1, xs => if (unV xs).ok = true then (upF n (xs.drop (unV xs).n.toNat)).map fun r => ((unV xs).p :: r.1, r.2) else none
noncomputable def upR (x1 : Int) : Option (List Pg × List Int) → Tr × Bool
  | some (ps, []) => if vTr ⟨x1, ps⟩ = true then (⟨x1, ps⟩, true) else (⟨0, []⟩, false)
  | _ => (⟨0, []⟩, false)
noncomputable def upV (xs : List Int) : Tr × Bool := if xs.length < 2 ∨ inR (xs.getD 0 0) 1 16 = false then (⟨0, []⟩, false) else upR (xs.getD 1 0) (upF (xs.getD 0 0).toNat (xs.drop 2))
theorem upV_f {xs : List Int} (h : xs.length < 2 ∨ inR (xs.getD 0 0) 1 16 = false) : upV xs = (⟨0, []⟩, false) := if_pos h
theorem upV_t {xs : List Int} (h : ¬ (xs.length < 2 ∨ inR (xs.getD 0 0) 1 16 = false)) : upV xs = upR (xs.getD 1 0) (upF (xs.getD 0 0).toNat (xs.drop 2)) := if_neg h
theorem upR_none (x : Int) : upR x none = (⟨0, []⟩, false) := rfl
theorem upR_rest {x : Int} {ps : List Pg} {r : List Int} (h : r.length ≠ 0) : upR x (some (ps, r)) = (⟨0, []⟩, false) := by
  cases r with
  | nil => simp at h
  | cons a r => rfl
theorem upR_t {x : Int} {ps : List Pg} (h : vTr ⟨x, ps⟩ = true) : upR x (some (ps, [])) = (⟨x, ps⟩, true) := if_pos h
theorem upR_f {x : Int} {ps : List Pg} (h : vTr ⟨x, ps⟩ = false) : upR x (some (ps, [])) = (⟨0, []⟩, false) := if_neg (by rw [h]; simp)
noncomputable def mUnpackTree : Model := M1 .ro true (cIs false) fun xs => gd (xs.length ≤ 1099511627776 ∧ rngB xs = true) (.tup [eTr true (upV xs).1, .b (upV xs).2], [])
theorem rngB_drop {xs : List Int} (h : rngB xs = true) (k : Nat) : rngB (xs.drop k) = true := rngB_iff.2 fun x hx => rngB_iff.1 h x (List.mem_of_mem_drop hx)
theorem unV_len (xs : List Int) : (unV xs).n.toNat ≤ xs.length := by
  unfold unV
  split
  · rename_i h
    have := h.1.2.2
    show ((szN xs : Nat) : Int).toNat ≤ xs.length
    rw [Int.toNat_natCast]; exact this
  · exact Nat.zero_le _

/-- What has been read so far, and what is left. -/
structure UpI (n : Nat) (xs : List Int) (k : Nat) (ps : List Pg) (r : List Int) : Prop where
  le : k ≤ n
  len : ps.length = k
  rng : rngB r = true
  tot : ∀ p ∈ ps, totP p ≤ 14
  eq : upF n xs = (upF (n - k) r).map fun q => (ps ++ q.1, q.2)
theorem upI_zero {n : Nat} {xs : List Int} (h : rngB xs = true) : UpI n xs 0 [] xs := by
  refine ⟨Nat.zero_le _, rfl, h, fun p hp => (List.not_mem_nil hp).elim, ?_⟩
  rw [Nat.sub_zero]
  cases upF n xs <;> rfl
theorem UpI.step {n : Nat} {xs : List Int} {k : Nat} {ps : List Pg} {r : List Int} (h : UpI n xs k ps r) (hk : k < n) (ho : (unV r).ok = true) : UpI n xs (k + 1) (ps ++ [(unV r).p]) (r.drop (unV r).n.toNat) := by
  refine ⟨hk, by rw [List.length_append, h.len]; rfl, rngB_drop h.rng _, fun p hp => ?_, ?_⟩
  · rcases List.mem_append.1 hp with hp | hp
    · exact h.tot p hp
    · rw [List.mem_singleton] at hp
      subst hp
      have := unV_sm r
      unfold totP
      omega
  · rw [h.eq, show n - k = (n - (k + 1)) + 1 from by omega]
    simp only [upF, if_pos ho, Option.map_map]
    congr 1
    funext q
    simp
theorem UpI.fail {n : Nat} {xs : List Int} {k : Nat} {ps : List Pg} {r : List Int} (h : UpI n xs k ps r) (hk : k < n) (ho : (unV r).ok = false) : upF n xs = none := by
  rw [h.eq, show n - k = (n - (k + 1)) + 1 from by omega]
  simp only [upF, if_neg (show ¬ (unV r).ok = true by rw [ho]; simp), Option.map_none]
theorem UpI.done {n : Nat} {xs : List Int} {ps : List Pg} {r : List Int} (h : UpI n xs n ps r) : upF n xs = some (ps, r) := by
  rw [h.eq, Nat.sub_self]
  simp [upF]
theorem UpI.sm {n : Nat} {xs : List Int} {k : Nat} {ps : List Pg} {r : List Int} (h : UpI n xs k ps r) (hn : n ≤ 16) (x : Int) : SmTr ⟨x, ps⟩ := by
  have h1 := tot_le h.tot
  have h2 := h.len
  have h3 := h.le
  exact ⟨by show ps.length ≤ 1000; omega, by show Go.TM.tot ps ≤ 10000; omega⟩
theorem upV_sm (xs : List Int) : SmTr (upV xs).1 := by
  by_cases h : xs.length < 2 ∨ inR (xs.getD 0 0) 1 16 = false
  · rw [upV_f h]; exact smTr_nil 0
  · rw [upV_t h]
    cases hu : upF (xs.getD 0 0).toNat (xs.drop 2) with
    | none => exact smTr_nil 0
    | some q =>
      obtain ⟨ps, r⟩ := q
      by_cases hr : r.length = 0
      · rw [List.length_eq_zero_iff.1 hr]
        cases hv : vTr ⟨xs.getD 1 0, ps⟩
        · rw [upR_f hv]; exact smTr_nil 0
        · rw [upR_t hv]
          have tv := vTr_iff.1 hv
          have h1 := tot_le (m := 9) (ps := ps) fun p hp => by
            obtain ⟨i, hi, rfl⟩ := List.getElem_of_mem hp
            obtain ⟨h', pd⟩ := tv.pg (i := i) hi
            have := pd.tot
            rw [pgAt_nat] at this
            simpa [hi] using this
          have h2 := tv.len.2
          dsimp only at h2
          exact ⟨by show ps.length ≤ 1000; omega, by show Go.TM.tot ps ≤ 10000; omega⟩
      · rw [upR_rest hr]; exact smTr_nil 0
theorem app_pgp {R : List Pg} {k : Nat} {p : Pg} (h : R.length = k) : (R.flatMap (ePg true)).take (k * 3) ++ [A.s true 1 p.keys.length (p.keys.map eI), A.s true 1 p.kids.length (p.kids.map eI), A.s true 1 p.vals.length (p.vals.map eI)] = (R ++ [p]).flatMap (ePg true) := app_pg ⟨h, rfl, rfl, rfl⟩
theorem trL2_eq {n : Nat} {r : Int} {b : Bool} {ps : List Pg} (h : n = ps.length) : some (A.tup [.agg [eI r, .s true 3 n (ps.flatMap (ePg true))], .b b], ([] : List (List A))) = some (.tup [eTr true ⟨r, ps⟩, .b b], []) := by subst h; rfl



theorem fn_FnExactUnpackTree (x : List Int) (h : (∀ y ∈ x, intWf .i64 y) ∧ x.length ≤ maxLen) : mLawUn.fn [eIs false x] = some (.b true, []) := by
  have h2 : x.length ≤ 9223372036854775807 := h.2
  have h3 : rngB x = true := rngB_iff.2 fun y hy => by
    have h4 : (decide (IntKind.i64.min ≤ y) && decide (y ≤ IntKind.i64.max)) = true := h.1 y hy
    rw [Bool.and_eq_true, decide_eq_true_eq, decide_eq_true_eq] at h4
    exact h4
  simp (config := {maxSteps := 1000000}) (disch := omega) only [go_sem, ↓reduceIte, Nat.reduceEqDiff, Nat.reduceAdd, Nat.reduceMul, Nat.reduceSub, Nat.reduceLeDiff, Nat.reduceLT, Int.reduceToNat, Int.reduceLE, Int.reduceLT, Int.reduceNeg, mLawUn, h3]
end Go.TM
