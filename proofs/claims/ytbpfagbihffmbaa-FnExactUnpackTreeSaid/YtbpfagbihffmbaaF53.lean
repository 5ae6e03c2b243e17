/- Contracts, 53: a leaf of pairs; the loader. -/
import Derived.Test.YtbpfagbihffmbaaF57
namespace Go.TM
open Go.Proofs
set_option linter.unusedVariables false
set_option linter.unusedSimpArgs false
set_option maxRecDepth 100000
set_option maxHeartbeats 4000000

def mValsOf : Model := M1 .ro true (cRow false) fun xs => gd (xs.length ≤ 1099511627776) (eIs true (xs.map (·.2)), [])
def mLeafOf : Model := M1 .ro true (cRow false) fun xs => gd (xs.length ≤ 1099511627776) (ePage true (leafP xs), [])
theorem vals_len (xs : List Pr) : (xs.map (·.2)).length = xs.length := by simp
theorem vals_step {xs : List Pr} {k : Nat} (h : k < xs.length) : (xs.take k).map (·.2) ++ [(xs.getD k default).2] = (xs.take (k + 1)).map (·.2) := by
  rw [map_take_succ h]; simp [h]


theorem page1_eq {a b c : Nat} {x y z : List Int} (ha : a = x.length) (hb : b = y.length) (hc : c = z.length) : some (A.agg [.s true 1 a (x.map eI), .s true 1 b (y.map eI), .s true 1 c (z.map eI)], ([] : List (List A))) = some (ePage true ⟨x, y, z⟩, []) := by subst ha; subst hb; subst hc; rfl



/-! ### The loader -/

structure Ld where
  parts : List (List Pr)
  pages : List Pg
def cLd : Cod Ld where
  e l := .agg [(cS true (cRow false)).e l.parts, ePgs true l.pages]
  d a := ((c2 (cS true (cRow false)) (cPgs true)).d a).map fun x => ⟨x.1, x.2⟩
  de l := by rw [show A.agg [(cS true (cRow false)).e l.parts, ePgs true l.pages] = (c2 (cS true (cRow false)) (cPgs true)).e (l.parts, l.pages) from rfl, (c2 (cS true (cRow false)) (cPgs true)).de]; rfl
  ed a l h := by
    rw [Option.map_eq_some_iff] at h
    obtain ⟨x, h1, h2⟩ := h
    rw [(c2 (cS true (cRow false)) (cPgs true)).ed _ _ h1, ← h2]; rfl
def csLd (l : Ld) : List A := [.s true 1 l.parts.length (l.parts.map (eRow false)), .s true 3 l.pages.length (l.pages.flatMap (ePg true))]
theorem cLd_e (l : Ld) : cLd.e l = .agg [.s true 1 l.parts.length (l.parts.map (eRow false)), .s true 3 l.pages.length (l.pages.flatMap (ePg true))] := rfl
theorem cLd_d {a b : Nat} {ps : List (List Pr)} {gs : List Pg} (h : a = ps.length ∧ b = gs.length) : cLd.d (.agg [.s true 1 a (ps.map (eRow false)), .s true 3 b (gs.flatMap (ePg true))]) = some ⟨ps, gs⟩ := by
  obtain ⟨rfl, rfl⟩ := h
  exact cLd.de ⟨ps, gs⟩
attribute [go_sem] cLd_e cLd_d
theorem verS_lt {cs : List A} {v : Nat → Nat} {off k : Nat} (h : k < off ∨ off + cs.length ≤ k) : verS cs v [] off k = v k := by
  unfold verS
  split
  · rfl
  · show (if off ≤ k ∧ k < off + cs.length then v k + 1 else v k) = v k
    rw [if_neg (by omega)]

def key0 (r : List Pr) : Int := (r.getD 0 default).1
def innL (ps : List (List Pr)) (b : Int) : Pg := ⟨(ps.drop 1).map key0, (List.range ps.length).map (fun (i : Nat) => b + (i : Int)), []⟩
def lvK (l : Ld) (a k : Nat) : List Pg := l.pages ++ ((l.parts.drop a).take k).map leafP
def nmK (b : Int) (k : Nat) : List Int := (List.range k).map fun (i : Nat) => b + (i : Int)
theorem nmK_succ (b : Int) (k : Nat) : nmK b k ++ [b + (k : Int)] = nmK b (k + 1) := by simp [nmK, List.range_succ]
theorem nmK_len (b : Int) (k : Nat) : (nmK b k).length = k := by simp [nmK]
theorem lvK_zero (l : Ld) (a : Nat) : lvK l a 0 = l.pages := by simp [lvK]
theorem lvK_succ {l : Ld} {a k : Nat} (h : a + k < l.parts.length) : lvK l a k ++ [leafP (l.parts.getD (a + k) [])] = lvK l a (k + 1) := by
  unfold lvK
  rw [map_take_succ (by rw [List.length_drop]; omega), List.append_assoc]
  simp [h]
theorem lvK_len {l : Ld} {a k : Nat} (h : a + k ≤ l.parts.length) : (lvK l a k).length = l.pages.length + k := by
  unfold lvK
  rw [List.length_append, List.length_map, List.length_take, List.length_drop]
  omega
def ldOk (l : Ld) : Prop := l.parts.length ≤ 100 ∧ l.pages.length ≤ 100 ∧ ∀ p ∈ l.parts, p.length ≤ 100
noncomputable instance (l : Ld) : Decidable (ldOk l) := Classical.propDecidable _
noncomputable def mLvs : Model := M3 .io .ro .ro false cLd cI cI fun l a b => gd (ldOk l ∧ 0 ≤ a ∧ a < b ∧ b ≤ l.parts.length) (eIs true (nmK l.pages.length (b - a).toNat), [csLd ⟨l.parts, lvK l a.toNat (b - a).toNat⟩])

end Go.TM
