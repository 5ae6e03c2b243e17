/- Contracts, 64: the value of a key. -/
import Derived.Test.YtbpfagbihffmbaaF63
namespace Go.TM
open Go.Proofs
set_option linter.unusedVariables false
set_option linter.unusedSimpArgs false
set_option maxRecDepth 100000
set_option maxHeartbeats 4000000

noncomputable def mLeafFor : Model := M2 .ro .ro true (cTr false) cI fun t key => gd (smT t.pages = true ∧ vTr t = true) (eI (leafF t key (htT t) t.root), [])
noncomputable def getV (t : Tr) (key : Int) : Int × Bool := if vTr t = true then valV (prP (pgAt t (leafF t key (htT t) t.root))) key else (0, false)
theorem getV_f {t : Tr} {key : Int} (h : vTr t = false) : getV t key = (0, false) := if_neg (by rw [h]; simp)
theorem getV_t {t : Tr} {key : Int} (h : vTr t = true) : getV t key = valV (prP (pgAt t (leafF t key (htT t) t.root))) key := if_pos h
noncomputable def mGetKey : Model := M2 .ro .ro true (cTr false) cI fun t key => gd (smT t.pages = true) (.tup [eI (getV t key).1, .b (getV t key).2], [])




theorem fn_FnExactGetKey (t : Tr) (h : TrW t) (x : Int) (hx : intWf .i64 x) : mLawTree2.fn [eTr false t, eI x] = some (.b true, []) := by
  obtain ⟨h1, h2⟩ := bigP_of h
  simp (config := {maxSteps := 1000000}) (disch := omega) only [go_sem, ↓reduceIte, Nat.reduceEqDiff, Nat.reduceAdd, Nat.reduceMul, Nat.reduceSub, Nat.reduceLeDiff, Nat.reduceLT, Int.reduceToNat, Int.reduceLE, Int.reduceLT, Int.reduceNeg, mLawTree2, h2]

/-! ### A tree as numbers -/

theorem leaf_vPage {t : Tr} {x : Int} (h : PLeaf t x) : vPage (pgAt t x) = true := vPage_iff.2 ⟨h.vk, h.len, .inl ⟨by rw [h.kids]; rfl, h.vals, h.vrng⟩⟩
theorem PD.vPage {t : Tr} : ∀ {h : Nat} {x : Int}, PD t h x → Go.TM.vPage (pgAt t x) = true
  | 0, x, p => leaf_vPage p.leaf
  | h + 1, x, p => by
    have i := p.inn
    refine vPage_iff.2 ⟨i.vk, i.len.2, .inr ⟨by have := i.kids; have := i.len; omega, by rw [i.vals]; rfl, i.inn⟩⟩
theorem TV.pg {t : Tr} (h : TV t) {i : Nat} (hi : i < t.pages.length) : ∃ h', PD t h' i := by
  obtain ⟨y, hy, e⟩ := (all_iff_len h.nd h.pd.wrng).1 h.all i hi
  obtain ⟨h', hp⟩ := wk_pd' h.pd y hy
  have hr := h.pd.wrng y hy
  rw [show (i : Int) = y from by omega]
  exact ⟨h', hp⟩
theorem TV.vp {t : Tr} (h : TV t) {i : Nat} (hi : i < t.pages.length) : vPage (t.pages.getD i default) = true := by
  obtain ⟨h', hp⟩ := h.pg hi
  have := hp.vPage
  rwa [pgAt_nat] at this
def packT (t : Tr) (k : Nat) : List Int := (t.pages.length : Int) :: t.root :: (t.pages.take k).flatMap packN
theorem packT_succ {t : Tr} {k : Nat} (h : k < t.pages.length) : packT t k ++ packN (t.pages.getD k default) = packT t (k + 1) := by
  unfold packT
  rw [List.take_succ_eq_append_getElem h, List.flatMap_append]
  simp [h]
theorem flatP_len {m : Nat} {f : Pg → List Int} : ∀ {ps : List Pg}, (∀ p ∈ ps, (f p).length ≤ m) → (ps.flatMap f).length ≤ ps.length * m
  | [], _ => by simp
  | p :: ps, h => by
    have h1 := h p (by simp)
    have h2 := flatP_len (ps := ps) (f := f) (m := m) fun q hq => h q (by simp [hq])
    rw [List.flatMap_cons, List.length_append, List.length_cons, Nat.add_one_mul]
    omega
theorem packN_len {p : Pg} (h : vPage p = true) : (packN p).length ≤ 20 := by
  have h1 := packV_len p
  rw [packV_t h] at h1
  have s := smallPg h
  have := s.keys; have := s.kids; have := s.vals
  omega
theorem packT_len {t : Tr} (h : TV t) (k : Nat) : (packT t k).length ≤ 400 := by
  have h1 := flatP_len (m := 20) (f := packN) (ps := t.pages.take k) fun p hp => by
    obtain ⟨i, hi, rfl⟩ := List.getElem_of_mem (List.mem_of_mem_take hp)
    have := h.vp hi
    rw [show t.pages.getD i default = t.pages[i] from by simp [hi]] at this
    exact packN_len this
  have h2 := h.len.2
  rw [List.length_take] at h1
  unfold packT
  rw [List.length_cons, List.length_cons]
  have : min k t.pages.length * 20 ≤ 16 * 20 := Nat.mul_le_mul_right _ (by omega)
  omega
noncomputable def pkT (t : Tr) : List Int := if vTr t = true then packT t t.pages.length else []
theorem pkT_f {t : Tr} (h : vTr t = false) : pkT t = [] := if_neg (by rw [h]; simp)
theorem pkT_t {t : Tr} (h : vTr t = true) : pkT t = packT t t.pages.length := if_pos h
theorem pkT_len (t : Tr) : (pkT t).length ≤ 400 := by
  cases h : vTr t
  · rw [pkT_f h]; simp
  · rw [pkT_t h]; exact packT_len (vTr_iff.1 h) _
noncomputable def mPackT : Model := M1 .ro true (cTr false) fun t => gd (smT t.pages = true ∧ vTr t = true) (eIs true (packT t t.pages.length), [])
noncomputable def mPackTree : Model := M1 .ro true (cTr false) fun t => gd (smT t.pages = true) (eIs true (pkT t), [])




theorem fn_FnExactPackTree (t : Tr) (h : TrW t) : mLawTree.fn [eTr false t] = some (.b true, []) := by
  obtain ⟨h1, h2⟩ := bigP_of h
  simp (config := {maxSteps := 1000000}) (disch := omega) only [go_sem, ↓reduceIte, Nat.reduceEqDiff, Nat.reduceAdd, Nat.reduceMul, Nat.reduceSub, Nat.reduceLeDiff, Nat.reduceLT, Int.reduceToNat, Int.reduceLE, Int.reduceLT, Int.reduceNeg, mLawTree, h2]
end Go.TM
