/- Contracts, 58: the program's LoadTree. -/
import Derived.Test.YtbpfagbihffmbaaF54
namespace Go.TM
open Go.Proofs
set_option linter.unusedVariables false
set_option linter.unusedSimpArgs false
set_option maxRecDepth 100000
set_option maxHeartbeats 4000000

def nLd (L : Nat) : Nat := max 1 ((L + 3) / 4)
def partL (xs : List Pr) (n i : Nat) : List Pr := sub xs (i * xs.length / n) ((i + 1) * xs.length / n - i * xs.length / n)
def partsL (xs : List Pr) (n : Nat) (k : Nat) : List (List Pr) := (List.range k).map (partL xs n)
def loadP (ps : List (List Pr)) (n : Nat) : List Pg :=
  if n = 1 then ps.map leafP else if n ≤ 5 then innL ps 1 :: ps.map leafP
  else ⟨[key0 (ps.getD (n / 2) [])], [1, 2 + ((n / 2 : Nat) : Int)], []⟩ :: (innL (ps.take (n / 2)) 2 :: (ps.take (n / 2)).map leafP ++ innL (ps.drop (n / 2)) (3 + ((n / 2 : Nat) : Int)) :: (ps.drop (n / 2)).map leafP)
def loadT (xs : List Pr) : Tr := ⟨0, loadP (partsL xs (nLd xs.length) (nLd xs.length)) (nLd xs.length)⟩
noncomputable def loadV (xs : List Pr) : Tr × Bool := if vRow xs = true then (loadT xs, true) else (⟨0, []⟩, false)
theorem loadV_f {xs : List Pr} (h : vRow xs = false) : loadV xs = (⟨0, []⟩, false) := if_neg (by rw [h]; simp)
theorem loadV_t {xs : List Pr} (h : vRow xs = true) : loadV xs = (loadT xs, true) := if_pos h
noncomputable def mLoadTree : Model := M1 .ro true (cRow false) fun xs => gd (xs.length ≤ 1099511627776) (.tup [eTr true (loadV xs).1, .b (loadV xs).2], [])
def mLoaded : Model := M1 .ro true cI fun m => gd (0 ≤ m ∧ m ≤ 1000) (eI (nLd m.toNat), [])

theorem quo_nat (a b : Nat) : ((a : Int)).tdiv (b : Int) = ((a / b : Nat) : Int) := rfl
theorem nLd_int {m : Nat} (h : m ≤ 1000) : (if ((m : Int) + 4 - 1).tdiv 4 > 1 then ((m : Int) + 4 - 1).tdiv 4 else 1) = (nLd m : Int) := by
  have e : ((m : Int) + 4 - 1).tdiv 4 = (((m + 3) / 4 : Nat) : Int) := by
    rw [show (m : Int) + 4 - 1 = ((m + 3 : Nat) : Int) from by omega]
    rfl
  rw [e]
  unfold nLd
  split <;> omega


theorem vRow_24 {xs : List Pr} (h : vRow xs = true) : xs.length ≤ 24 := by
  simp only [vRow, Bool.and_eq_true, decide_eq_true_eq] at h
  exact h.2.1
theorem nLd_bd {m : Nat} (h : m ≤ 24) : 1 ≤ nLd m ∧ nLd m ≤ 6 ∧ (1 < nLd m → nLd m ≤ m) := by unfold nLd; omega
theorem part_le {L n k : Nat} (hk : k < n) : k * L / n ≤ (k + 1) * L / n ∧ (k + 1) * L / n ≤ L := by
  have hn : 0 < n := by omega
  refine ⟨Nat.div_le_div_right (Nat.mul_le_mul_right _ (by omega)), ?_⟩
  have := Nat.div_le_div_right (c := n) (Nat.mul_le_mul_right L (show k + 1 ≤ n by omega))
  rwa [Nat.mul_div_cancel_left _ hn] at this
theorem partL_len {xs : List Pr} {n k : Nat} (hk : k < n) : (partL xs n k).length = (k + 1) * xs.length / n - k * xs.length / n := by
  have := part_le (L := xs.length) hk
  unfold partL sub
  rw [List.length_take, List.length_drop]
  omega
/-- A part is not empty, if there are no more parts than pairs. -/
theorem partL_pos {xs : List Pr} {n k : Nat} (hk : k < n) (h : n ≤ xs.length) : 0 < (partL xs n k).length := by
  rw [partL_len hk]
  have h1 : (k + 1) * xs.length = k * xs.length + xs.length := by rw [Nat.add_mul, Nat.one_mul]
  have h2 : k * xs.length / n + 1 ≤ (k + 1) * xs.length / n := by
    rw [h1, ← Nat.add_div_right _ (show 0 < n by omega)]
    exact Nat.div_le_div_right (by omega)
  omega
theorem partsL_len (xs : List Pr) (n k : Nat) : (partsL xs n k).length = k := by simp [partsL]
theorem partsL_succ (xs : List Pr) (n k : Nat) : partsL xs n k ++ [partL xs n k] = partsL xs n (k + 1) := by simp [partsL, List.range_succ]
theorem app_part {ps : List (List Pr)} {k m : Nat} {r : List Pr} (h : ps.length = k ∧ m = r.length) : (ps.map (eRow false)).take k ++ [A.s false 2 m (r.flatMap ePr)] = (ps ++ [r]).map (eRow false) := by
  obtain ⟨h, rfl⟩ := h
  rw [List.take_of_length_le (by simp; omega), List.map_append]
  rfl
theorem parts_mem {xs : List Pr} {n : Nat} (h24 : xs.length ≤ 24) : (∀ p ∈ partsL xs n n, p.length ≤ 100) ∧ (n ≤ xs.length → ∀ p ∈ partsL xs n n, p ≠ []) := by
  refine ⟨fun p hp => ?_, fun hn p hp => ?_⟩
  · obtain ⟨i, hi, rfl⟩ := List.mem_map.1 hp
    have hi := List.mem_range.1 hi
    rw [partL_len hi]
    exact Nat.le_trans (Nat.sub_le _ _) (Nat.le_trans (part_le (L := xs.length) hi).2 (by omega))
  · obtain ⟨i, hi, rfl⟩ := List.mem_map.1 hp
    have hi := List.mem_range.1 hi
    have := partL_pos hi hn
    exact List.length_pos_iff.1 this

theorem cLd_d0 {a : Nat} {ps : List (List Pr)} (h : a = ps.length) : cLd.d (.agg [.s true 1 a (ps.map (eRow false)), .s true 3 0 []]) = some ⟨ps, []⟩ := cLd_d (gs := []) ⟨h, rfl⟩
theorem cLd_d1 {a : Nat} {ps : List (List Pr)} (h : a = ps.length) : cLd.d (.agg [.s true 1 a (ps.map (eRow false)), .s true 3 1 [.s true 1 0 [], .s true 1 0 [], .s true 1 0 []]]) = some ⟨ps, [⟨[], [], []⟩]⟩ := cLd_d (gs := [⟨[], [], []⟩]) ⟨h, rfl⟩
theorem set_pgz {xs : List Pg} {a b c : Int} (h : 0 < xs.length) : setR 0 [.s true 1 1 [.i .i64 a], .s true 1 2 [.i .i64 b, .i .i64 c], .s true 1 0 []] (xs.flatMap (ePg true)) = (xs.set 0 ⟨[a], [b, c], []⟩).flatMap (ePg true) :=
  set_pgn2 (k := 0) (x := [a]) (y := [b, c]) ⟨h, rfl, rfl⟩
theorem inK_len {l : Ld} {a n : Nat} (h : a + n ≤ l.parts.length) : (inK l a n).length = l.pages.length + 1 + n := by
  unfold inK
  rw [List.length_append, List.length_cons, List.length_map, List.length_take, List.length_drop]
  omega
theorem load_two {P : List (List Pr)} {h : Nat} {X : Pg} (hh : h ≤ P.length) : (inK ⟨P, inK ⟨P, [⟨[], [], []⟩]⟩ 0 h⟩ h (P.length - h)).set 0 X = X :: (innL (P.take h) 2 :: (P.take h).map leafP ++ innL (P.drop h) (3 + (h : Int)) :: (P.drop h).map leafP) := by
  have hl : (inK ⟨P, [⟨[], [], []⟩]⟩ 0 h).length = 2 + h := by rw [inK_len (by show 0 + h ≤ P.length; omega)]; show 1 + 1 + h = 2 + h; omega
  have e : (P.drop h).take (P.length - h) = P.drop h := List.take_of_length_le (by rw [List.length_drop]; exact Nat.le_refl _)
  have e1 : inK ⟨P, inK ⟨P, [⟨[], [], []⟩]⟩ 0 h⟩ h (P.length - h) = inK ⟨P, [⟨[], [], []⟩]⟩ 0 h ++ innL (P.drop h) (((inK ⟨P, [⟨[], [], []⟩]⟩ 0 h).length : Int) + 1) :: (P.drop h).map leafP := by
    show inK ⟨P, [⟨[], [], []⟩]⟩ 0 h ++ innL ((P.drop h).take (P.length - h)) (((inK ⟨P, [⟨[], [], []⟩]⟩ 0 h).length : Int) + 1) :: ((P.drop h).take (P.length - h)).map leafP = _
    rw [e]
  rw [e1, hl]
  show (_ :: (innL (P.take h) _ :: _) ++ _ : List Pg).set 0 X = _
  rw [show (((2 + h : Nat) : Int) + 1) = 3 + (h : Int) from by omega]
  rfl

end Go.TM
