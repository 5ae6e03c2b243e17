/- Contracts, 52 56 57. -/
import Derived.Test.YtbpfagbihffmbaaF51
/- Contracts, 52: a tree is numbered anew. -/
namespace Go.TM
open Go.Proofs
set_option linter.unusedVariables false
set_option linter.unusedSimpArgs false
set_option maxRecDepth 100000
set_option maxHeartbeats 4000000

theorem map_take_succ {α β : Type} {f : α → β} {w : List α} {k : Nat} (hk : k < w.length) : (w.take (k + 1)).map f = (w.take k).map f ++ [f w[k]] := by
  rw [List.take_succ_eq_append_getElem hk, List.map_append]; rfl
/-- A list of numbers, of which the first ones are turned. -/
def mixL (f : Int → Int) (xs : List Int) (j : Nat) : List Int := (xs.take j).map f ++ xs.drop j
theorem mixL_len (f : Int → Int) (xs : List Int) (j : Nat) : (mixL f xs j).length = xs.length := by simp [mixL]; omega
theorem mixL_get {f : Int → Int} {xs : List Int} {j : Nat} (h : j < xs.length) : (mixL f xs j).getD j 0 = xs.getD j 0 := by
  unfold mixL
  rw [getD_app, if_neg (by rw [List.length_map, List.length_take]; omega), List.length_map, List.length_take, Nat.min_eq_left (by omega), Nat.sub_self, getD_drop, Nat.add_zero]
theorem mixL_set {f : Int → Int} {xs : List Int} {j : Nat} (h : j < xs.length) : (mixL f xs j).set j (f (xs.getD j 0)) = mixL f xs (j + 1) := by
  unfold mixL
  rw [List.set_append_right _ _ (by rw [List.length_map, List.length_take]; omega), List.length_map, List.length_take, Nat.min_eq_left (by omega), Nat.sub_self, map_take_succ h, List.append_assoc]
  rw [show xs.drop j = xs[j] :: xs.drop (j + 1) from List.drop_eq_getElem_cons h, List.set_cons_zero]
  simp [h]
theorem mixL_zero (f : Int → Int) (xs : List Int) : mixL f xs 0 = xs := by simp [mixL]
theorem mixL_all (f : Int → Int) (xs : List Int) : mixL f xs xs.length = xs.map f := by simp [mixL]

theorem app_pg {R : List Pg} {k a b c : Nat} {x y z : List Int} (h : R.length = k ∧ a = x.length ∧ b = y.length ∧ c = z.length) : (R.flatMap (ePg true)).take (k * 3) ++ [A.s true 1 a (x.map eI), A.s true 1 b (y.map eI), A.s true 1 c (z.map eI)] = (R ++ [(⟨x, y, z⟩ : Pg)]).flatMap (ePg true) := by
  obtain ⟨h, rfl, rfl, rfl⟩ := h
  rw [take_all3 h, List.flatMap_append]
  rfl
end Go.TM
/- Contracts, 56: the program's renumbering. -/
namespace Go.TM
open Go.Proofs
set_option linter.unusedVariables false
set_option linter.unusedSimpArgs false
set_option maxRecDepth 100000
set_option maxHeartbeats 4000000

/-! ### Pages of which some have been taken away -/

def ePo : Option Pg → List A
  | some p => ePg true p
  | none => [.und, .und, .und]
theorem ePo_len (o : Option Pg) : (ePo o).length = 3 := by cases o <;> rfl
theorem drop_po : ∀ (xs : List (Option Pg)) (k : Nat), (xs.flatMap ePo).drop (k * 3) = (xs.drop k).flatMap ePo
  | [], k => by simp
  | x :: xs, 0 => by simp
  | x :: xs, k + 1 => by
    have := drop_po xs k
    rw [show (k + 1) * 3 = 3 + k * 3 from by omega, List.flatMap_cons, ← List.drop_drop]
    rw [show 3 = (ePo x).length from (ePo_len x).symm, List.drop_left]
    rw [ePo_len]
    simpa using this
theorem po_len (xs : List (Option Pg)) : (xs.flatMap ePo).length = xs.length * 3 := by
  induction xs with
  | nil => rfl
  | cons x xs ih => rw [List.flatMap_cons, List.length_append, ePo_len, ih, List.length_cons]; omega
theorem po_get {xs : List (Option Pg)} {k j : Nat} {p : Pg} (h : k < xs.length) (hp : xs.getD k none = some p) (hj : j < 3) : (xs.flatMap ePo)[k * 3 + j]? = (ePg true p)[j]? := by
  rw [← List.getElem?_drop, drop_po, List.drop_eq_getElem_cons h, List.flatMap_cons, List.getElem?_append_left (by rw [ePo_len]; exact hj)]
  rw [show xs[k] = some p from by rw [← hp]; simp [h]]
  rfl
theorem po_rng {xs : List (Option Pg)} {k : Nat} {p : Pg} (h : k < xs.length) (hp : xs.getD k none = some p) : rng (xs.flatMap ePo) (k * 3) 3 = [eIs true p.keys, eIs true p.kids, eIs true p.vals] := by
  unfold rng
  rw [drop_po, List.drop_eq_getElem_cons h, List.flatMap_cons, show xs[k] = some p from by rw [← hp]; simp [h]]
  rfl
theorem po_set {xs : List (Option Pg)} {k : Nat} (h : k < xs.length) : (((xs.flatMap ePo).set (k * 3) .und).set (k * 3 + 1) .und).set (k * 3 + 2) .und = (xs.set k none).flatMap ePo := by
  rw [← set_flat ePo 3 ePo_len xs k none h]
  have hl := po_len xs
  show _ = List.take (k * 3) (xs.flatMap ePo) ++ [A.und, A.und, A.und] ++ List.drop (k * 3 + 3) (xs.flatMap ePo)
  rw [show [A.und, A.und, A.und] = [A.und, A.und, A.und] from rfl]
  have e := setR_eq [A.und, A.und, A.und] (k * 3) (xs.flatMap ePo) (by rw [hl]; simp; omega)
  rw [List.length_cons, List.length_cons, List.length_singleton] at e
  rw [← e]
  rfl
theorem po_all (ps : List Pg) : ps.flatMap (ePg true) = (ps.map some).flatMap ePo := by
  induction ps with
  | nil => rfl
  | cons p ps ih => rw [List.flatMap_cons, ih]; rfl

/-- The numbers of the pages that have been numbered. -/
def Numd (ns w : List Int) (k : Nat) : Prop := ns.length = 16 ∧ ∀ i, i < k → ns.getD (w.getD i 0).toNat 0 = i
theorem Numd.step {ns w : List Int} {k : Nat} {y : Nat} (h : Numd ns w k) (hk : k < w.length) (hy : w.getD k 0 = y) (hw : ∀ z ∈ w, 0 ≤ z ∧ z < 16) (hn : w.Nodup) : Numd (ns.set y k) w (k + 1) := by
  refine ⟨by rw [List.length_set]; exact h.1, fun i hi => ?_⟩
  have hwk := hw _ (getD_mem hk)
  rw [hy] at hwk
  by_cases e : i = k
  · subst e
    rw [hy]
    have hl := h.1
    simp [show y < ns.length from by omega]
  · have hik : i < k := by omega
    have h1 := h.2 i hik
    have hne : (w.getD i 0).toNat ≠ y := by
      intro hh
      have hwi := hw _ (getD_mem (show i < w.length by omega))
      have : w.getD i 0 = w.getD k 0 := by rw [hy]; omega
      have h2 := (List.nodup_iff_pairwise_ne.1 hn)
      rw [List.pairwise_iff_getElem] at h2
      have h3 := h2 i k (by omega) hk hik
      apply h3
      have e1 : w.getD i 0 = w[i] := by simp [show i < w.length from by omega]
      have e2 : w.getD k 0 = w[k] := by simp [hk]
      rw [← e1, ← e2, this]
    rw [List.getD_eq_getElem?_getD, List.getElem?_set_ne (Ne.symm hne), ← List.getD_eq_getElem?_getD]
    exact h1
theorem Numd.at {ns w : List Int} (h : Numd ns w w.length) {z : Int} (hz : z ∈ w) (hn : w.Nodup) : ns.getD z.toNat 0 = placeV w z := by
  obtain ⟨i, hi, e⟩ := mem_getD hz
  rw [← e, h.2 i hi]
  refine (place_at hi rfl fun j hj hh => ?_).symm
  have h2 := (List.nodup_iff_pairwise_ne.1 hn)
  rw [List.pairwise_iff_getElem] at h2
  apply h2 j i (by omega) hi hj
  have e1 : w.getD j 0 = w[j] := by simp [show j < w.length from by omega]
  have e2 : w.getD i 0 = w[i] := by simp [hi]
  rw [← e1, ← e2, hh]

theorem tr2_eq {n : Nat} {r : Int} {b : Bool} {ps : List Pg} (h : n = ps.length) : some (A.tup [.agg [eI r, .s true 3 n (ps.flatMap (ePg true))], .b b], ([] : List (List A))) = some (.tup [eTr true ⟨r, ps⟩, .b b], []) := by subst h; rfl

end Go.TM
/- Contracts, 57: the law of renumbering. -/
namespace Go.TM
open Go.Proofs
set_option linter.unusedVariables false
set_option linter.unusedSimpArgs false
set_option maxRecDepth 100000
set_option maxHeartbeats 4000000

theorem tot_le {m : Nat} : ∀ {ps : List Pg}, (∀ p ∈ ps, totP p ≤ m) → tot ps ≤ ps.length * m
  | [], _ => by simp [tot]
  | p :: ps, h => by
    have h1 := h p (by simp)
    have h2 := tot_le (ps := ps) fun q hq => h q (by simp [hq])
    rw [tot, List.length_cons, Nat.add_one_mul]
    omega
theorem PD.tot {t : Tr} : ∀ {h : Nat} {x : Int}, PD t h x → totP (pgAt t x) ≤ 9
  | 0, x, p => by
    have h1 := p.leaf.kids
    have h2 := p.leaf.len
    have h3 := p.leaf.vals
    unfold totP
    rw [h1, h3]
    simp
    omega
  | h + 1, x, p => by
    have h1 := p.inn.vals
    have h2 := p.inn.len
    have h3 := p.inn.kids
    unfold totP
    rw [h1, h3]
    simp
    omega
theorem wk_pd' {t : Tr} : ∀ {h : Nat} {x : Int}, PD t h x → ∀ z ∈ wk t h x, ∃ h', PD t h' z
  | 0, x, p, z, hz => by
    simp only [wk, List.mem_singleton] at hz
    exact ⟨0, hz ▸ p⟩
  | h + 1, x, p, z, hz => by
    simp only [wk, List.mem_cons, List.mem_flatMap] at hz
    rcases hz with rfl | ⟨y, hy, hz⟩
    · exact ⟨h + 1, p⟩
    · exact wk_pd' (p.inn.pd y hy) z hz
/-- A tree that is handed back is small. -/
structure SmTr (t : Tr) : Prop where
  len : t.pages.length ≤ 1000
  tot : tot t.pages ≤ 10000
theorem SmTr.sm {t : Tr} (h : SmTr t) : smT t.pages = true := smT_iff.2 (by have := h.len; have := h.tot; omega)
theorem smTr_nil (r : Int) : SmTr ⟨r, []⟩ := ⟨by simp, by simp [Go.TM.tot]⟩
theorem mkPs_idem (ps : List Pg) (k : Int) : mkPs (mkPs ps k) k = mkPs ps k := by
  induction ps generalizing k with
  | nil => rfl
  | cons p ps ih =>
    simp only [mkPs]
    rw [mkPg_tot, show (p.keys.length + p.kids.length + p.vals.length : Nat) = totP p from rfl, ih]
    simp only [mkPg, marks_len]
theorem SmTr.mark {t : Tr} (h : SmTr t) (r k : Int) : SmTr ⟨r, mkPs t.pages k⟩ := ⟨by rw [mkPs_len]; exact h.len, by rw [mkPs_tot]; exact h.tot⟩
theorem flat_mk (ps : List Pg) (k : Int) : ((mkPs ps k).flatMap (ePg true)).length = (ps.flatMap (ePg true)).length := by rw [flatPg_len, flatPg_len, mkPs_len]
theorem sub_mk (ps : List Pg) (k : Int) : sub (mkPs ps k) 0 ps.length = mkPs ps k := by
  have := sub_all (mkPs ps k)
  rwa [mkPs_len] at this

end Go.TM
