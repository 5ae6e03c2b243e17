/- Contracts, 54: trees are loaded: the program's side. -/
import Derived.Test.YtbpfagbihffmbaaF53
namespace Go.TM
open Go.Proofs
set_option linter.unusedVariables false
set_option linter.unusedSimpArgs false
set_option maxRecDepth 100000
set_option maxHeartbeats 4000000

theorem set_pgn2 {o : Bool} {xs : List Pg} {k a b : Nat} {x y : List Int} (h : k < xs.length ∧ a = x.length ∧ b = y.length) : setR (k * 3) [.s o 1 a (x.map eI), .s o 1 b (y.map eI), .s o 1 0 []] (xs.flatMap (ePg o)) = (xs.set k ⟨x, y, []⟩).flatMap (ePg o) :=
  set_pg' (z := []) h.1 h.2.1 h.2.2 rfl
theorem app_pg0 {R : List Pg} {k : Nat} (h : R.length = k) : (R.flatMap (ePg true)).take (k * 3) ++ [A.s true 1 0 [], A.s true 1 0 [], A.s true 1 0 []] = (R ++ [(⟨[], [], []⟩ : Pg)]).flatMap (ePg true) :=
  app_pg (x := []) (y := []) (z := []) ⟨h, rfl, rfl, rfl⟩

def inK (l : Ld) (a n : Nat) : List Pg := l.pages ++ innL ((l.parts.drop a).take n) (l.pages.length + 1) :: ((l.parts.drop a).take n).map leafP
def allNe (ps : List (List Pr)) : Prop := ∀ p ∈ ps, p ≠ []
noncomputable instance (ps : List (List Pr)) : Decidable (allNe ps) := Classical.propDecidable _
noncomputable def mInnerL : Model := M3 .io .ro .ro false cLd cI cI fun l a b => gd (ldOk l ∧ l.pages.length ≤ 50 ∧ 0 ≤ a ∧ a + 1 < b ∧ b ≤ l.parts.length ∧ allNe l.parts) (eI l.pages.length, [csLd ⟨l.parts, inK l a.toNat (b - a).toNat⟩])
def kyK (l : Ld) (a k : Nat) : List Int := ((l.parts.drop (a + 1)).take k).map key0
theorem kyK_succ {l : Ld} {a k : Nat} (h : a + 1 + k < l.parts.length) : kyK l a k ++ [key0 (l.parts.getD (a + 1 + k) [])] = kyK l a (k + 1) := by
  unfold kyK
  rw [map_take_succ (by rw [List.length_drop]; omega)]
  simp [h]
theorem kyK_len {l : Ld} {a k : Nat} (h : a + 1 + k ≤ l.parts.length) : (kyK l a k).length = k := by
  unfold kyK
  rw [List.length_map, List.length_take, List.length_drop]
  omega
theorem kyK_all (l : Ld) (a n : Nat) : kyK l a n = (((l.parts.drop a).take (n + 1)).drop 1).map key0 := by
  unfold kyK
  rw [List.drop_take, List.drop_drop]
  rfl

theorem get_r0 {P : List Pr} (h : 0 < P.length) : (P.flatMap ePr)[0]? = some (eI (P.getD 0 default).1) := get_row0 (k := 0) h
theorem inn_eq {l : Ld} {a k : Nat} (h : a + (k + 1) ≤ l.parts.length) : innL ((l.parts.drop a).take (k + 1)) (l.pages.length + 1) = ⟨kyK l a k, nmK ((l.pages.length : Int) + 1) (k + 1), []⟩ := by
  unfold innL
  rw [← kyK_all, List.length_take, List.length_drop, Nat.min_eq_left (by omega)]
  rfl
theorem in_set {l : Ld} {a k : Nat} (h : a + (k + 1) ≤ l.parts.length) : (lvK ⟨l.parts, l.pages ++ [⟨[], [], []⟩]⟩ a (k + 1)).set l.pages.length ⟨kyK l a k, nmK ((l.pages.length : Int) + 1) (k + 1), []⟩ = inK l a (k + 1) := by
  rw [← inn_eq h]
  unfold lvK inK
  dsimp only
  rw [List.append_assoc, List.set_append_right _ _ (Nat.le_refl _), Nat.sub_self]
  rfl

end Go.TM
