/- Contracts, 52: a tree is numbered anew. -/
import Derived.Test.YtbpfagbihffmbaaF51
namespace Go.TM
open Go.Proofs
set_option linter.unusedVariables false
set_option linter.unusedSimpArgs false
set_option maxRecDepth 100000
set_option maxHeartbeats 4000000

def rnP (w : List Int) (p : Pg) : Pg := ⟨p.keys, p.kids.map fun k => placeV w k, p.vals⟩
def rnT (t : Tr) : Tr := ⟨0, (wk t (htT t) t.root).map fun x => rnP (wk t (htT t) t.root) (pgAt t x)⟩
noncomputable def rnV (t : Tr) : Tr × Bool := if vTr t = true then (rnT t, true) else (⟨0, []⟩, false)
theorem rnV_f {t : Tr} (h : vTr t = false) : rnV t = (⟨0, []⟩, false) := if_neg (by rw [h]; simp)
theorem rnV_t {t : Tr} (h : vTr t = true) : rnV t = (rnT t, true) := if_pos h
noncomputable def mRenum : Model := M1 .ro true (cTr false) fun t => gd (smT t.pages = true ∧ vTr t = true) (eTr true (rnT t), [])
noncomputable def mRenumber : Model := M1 .ro true (cTr false) fun t => gd (smT t.pages = true) (.tup [eTr true (rnV t).1, .b (rnV t).2], [])
theorem clean_tr (t : Tr) : cleanA (eTr true t) = true := by simp only [cleanA, cleanL, clean_pgs, Bool.and_self]

theorem map_take_succ {α β : Type} {f : α → β} {w : List α} {k : Nat} (hk : k < w.length) : (w.take (k + 1)).map f = (w.take k).map f ++ [f w[k]] := by
  rw [List.take_succ_eq_append_getElem hk, List.map_append]; rfl
theorem rn_succ {t : Tr} {w w' : List Int} {k : Nat} (hk : k < w.length) : (w.take (k + 1)).map (fun x => rnP w' (pgAt t x)) = (w.take k).map (fun x => rnP w' (pgAt t x)) ++ [rnP w' (pgAt t (w.getD k 0))] := by
  rw [map_take_succ hk]; simp [hk]
/-- A list of numbers, of which the first ones are turned. -/
def mixL (f : Int → Int) (xs : List Int) (j : Nat) : List Int := (xs.take j).map f ++ xs.drop j
theorem mixL_len (f : Int → Int) (xs : List Int) (j : Nat) : (mixL f xs j).length = xs.length := by simp [mixL]; omega
theorem mixL_get {f : Int → Int} {xs : List Int} {j : Nat} (h : j < xs.length) : (mixL f xs j).getD j 0 = xs.getD j 0 := by
  unfold mixL
  rw [getD_app, if_neg (by rw [List.length_map, List.length_take]; omega), List.length_map, List.length_take, Nat.min_eq_left (by omega), Nat.sub_self, getD_drop, Nat.add_zero]
theorem mixL_set {f : Int → Int} {xs : List Int} {j : Nat} (h : j < xs.length) : (mixL f xs j).set j (f (xs.getD j 0)) = mixL f xs (j + 1) := by
  unfold mixL
  rw [List.set_append_right _ _ (by rw [List.length_map, List.length_take]; omega), List.length_map, List.length_take, Nat.min_eq_left (by omega), Nat.sub_self, map_take_succ h, List.append_assoc]
  rw [show xs.drop j = xs[j] :: xs.drop (j + 1) from List.drop_eq_getElem_cons h, List.set_cons_zero]
  simp [h]
theorem mixL_zero (f : Int → Int) (xs : List Int) : mixL f xs 0 = xs := by simp [mixL]
theorem mixL_all (f : Int → Int) (xs : List Int) : mixL f xs xs.length = xs.map f := by simp [mixL]

theorem app_pg {R : List Pg} {k a b c : Nat} {x y z : List Int} (h : R.length = k ∧ a = x.length ∧ b = y.length ∧ c = z.length) : (R.flatMap (ePg true)).take (k * 3) ++ [A.s true 1 a (x.map eI), A.s true 1 b (y.map eI), A.s true 1 c (z.map eI)] = (R ++ [(⟨x, y, z⟩ : Pg)]).flatMap (ePg true) := by
  obtain ⟨h, rfl, rfl, rfl⟩ := h
  rw [take_all3 h, List.flatMap_append]
  rfl
theorem tr_eq {n : Nat} {r : Int} {ps : List Pg} (h : n = ps.length) : some (A.agg [eI r, .s true 3 n (ps.flatMap (ePg true))], ([] : List (List A))) = some (eTr true ⟨r, ps⟩, []) := by subst h; rfl


end Go.TM
