/- Contracts, 57: the law of renumbering. -/
import Derived.Test.YtbpfagbihffmbaaF56
namespace Go.TM
open Go.Proofs
set_option linter.unusedVariables false
set_option linter.unusedSimpArgs false
set_option maxRecDepth 100000
set_option maxHeartbeats 4000000

theorem tot_le {m : Nat} : ∀ {ps : List Pg}, (∀ p ∈ ps, totP p ≤ m) → tot ps ≤ ps.length * m
  | [], _ => by simp [tot]
  | p :: ps, h => by
    have h1 := h p (by simp)
    have h2 := tot_le (ps := ps) fun q hq => h q (by simp [hq])
    rw [tot, List.length_cons, Nat.add_one_mul]
    omega
theorem PD.tot {t : Tr} : ∀ {h : Nat} {x : Int}, PD t h x → totP (pgAt t x) ≤ 9
  | 0, x, p => by
    have h1 := p.leaf.kids
    have h2 := p.leaf.len
    have h3 := p.leaf.vals
    unfold totP
    rw [h1, h3]
    simp
    omega
  | h + 1, x, p => by
    have h1 := p.inn.vals
    have h2 := p.inn.len
    have h3 := p.inn.kids
    unfold totP
    rw [h1, h3]
    simp
    omega
theorem wk_pd' {t : Tr} : ∀ {h : Nat} {x : Int}, PD t h x → ∀ z ∈ wk t h x, ∃ h', PD t h' z
  | 0, x, p, z, hz => by
    simp only [wk, List.mem_singleton] at hz
    exact ⟨0, hz ▸ p⟩
  | h + 1, x, p, z, hz => by
    simp only [wk, List.mem_cons, List.mem_flatMap] at hz
    rcases hz with rfl | ⟨y, hy, hz⟩
    · exact ⟨h + 1, p⟩
    · exact wk_pd' (p.inn.pd y hy) z hz
/-- A tree that is handed back is small. -/
structure SmTr (t : Tr) : Prop where
  len : t.pages.length ≤ 1000
  tot : tot t.pages ≤ 10000
theorem SmTr.sm {t : Tr} (h : SmTr t) : smT t.pages = true := smT_iff.2 (by have := h.len; have := h.tot; omega)
theorem smTr_nil (r : Int) : SmTr ⟨r, []⟩ := ⟨by simp, by simp [Go.TM.tot]⟩
theorem mkPs_idem (ps : List Pg) (k : Int) : mkPs (mkPs ps k) k = mkPs ps k := by
  induction ps generalizing k with
  | nil => rfl
  | cons p ps ih =>
    simp only [mkPs]
    rw [mkPg_tot, show (p.keys.length + p.kids.length + p.vals.length : Nat) = totP p from rfl, ih]
    simp only [mkPg, marks_len]
theorem SmTr.mark {t : Tr} (h : SmTr t) (r k : Int) : SmTr ⟨r, mkPs t.pages k⟩ := ⟨by rw [mkPs_len]; exact h.len, by rw [mkPs_tot]; exact h.tot⟩
theorem flat_mk (ps : List Pg) (k : Int) : ((mkPs ps k).flatMap (ePg true)).length = (ps.flatMap (ePg true)).length := by rw [flatPg_len, flatPg_len, mkPs_len]
theorem rnV_sm (t : Tr) : SmTr (rnV t).1 := by
  cases hv : vTr t
  · rw [rnV_f hv]; exact smTr_nil 0
  · rw [rnV_t hv]
    have pd := (vTr_iff.1 hv).pd
    have hl : (rnT t).pages.length ≤ 16 := by unfold rnT; rw [List.length_map]; exact pd.wlen
    refine ⟨by show (rnT t).pages.length ≤ 1000; omega, ?_⟩
    have h1 := tot_le (m := 9) (ps := (rnT t).pages) fun p hp => by
      unfold rnT at hp
      obtain ⟨x, hx, rfl⟩ := List.mem_map.1 hp
      obtain ⟨h', ph⟩ := wk_pd' pd x hx
      have := ph.tot
      unfold totP at this ⊢
      simpa [rnP] using this
    show Go.TM.tot (rnT t).pages ≤ 10000
    omega

theorem sub_mk (ps : List Pg) (k : Int) : sub (mkPs ps k) 0 ps.length = mkPs ps k := by
  have := sub_all (mkPs ps k)
  rwa [mkPs_len] at this

theorem fn_FnExactRenumberTree (t : Tr) (h : TrW t) : mLawTree.fn [eTr false t] = some (.b true, []) := by
  obtain ⟨h1, h2⟩ := bigP_of h
  simp (config := {maxSteps := 1000000}) (disch := omega) only [go_sem, ↓reduceIte, Nat.reduceEqDiff, Nat.reduceAdd, Nat.reduceMul, Nat.reduceSub, Nat.reduceLeDiff, Nat.reduceLT, Int.reduceToNat, Int.reduceLE, Int.reduceLT, Int.reduceNeg, mLawTree, h2]
end Go.TM
