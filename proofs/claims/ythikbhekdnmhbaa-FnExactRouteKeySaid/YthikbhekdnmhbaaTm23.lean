/- The tree machine, 23: the effects of some of a region's operations, in the text's order. -/
import Derived.Test.YthikbhekdnmhbaaTm22
namespace Go.TM
set_option linter.unusedVariables false
set_option linter.unusedSimpArgs false

abbrev SH := (Nat → A) × Hp

def appE (d : Option Nat) (e : Eff) (s : SH) : SH := (setDst s.1 d e.val, applyH s.2 e.ups)

/-- The effects of those in S, in the order of their numbers. -/
def foldE (S : Nat → Bool) : Nat → List (Option Nat × Eff) → SH → SH
  | _, [], s => s
  | i, x :: rest, s => foldE S (i + 1) rest (if S i then appE x.1 x.2 s else s)

theorem setDst_at (sl : Nat → A) (d : Option Nat) (v : A) (t : Nat) : setDst sl d v t = if d = some t then v else sl t := by
  cases d with
  | none => simp [setDst]
  | some d =>
    simp only [setDst, upd, Option.some.injEq]
    by_cases h : t = d
    · simp [h]
    · rw [if_neg h, if_neg fun e => h e.symm]

theorem applyH_in {id : Id} : ∀ (us : List (Id × Option Root)) (hp hp' : Hp), id ∈ us.map (·.1) → applyH hp us id = applyH hp' us id
  | [], _, _, h => by simp at h
  | u :: us, hp, hp', h => by
    by_cases hu : u.1 = id
    · refine applyH_congr (hp := upd hp' u.1 u.2) (hp' := upd hp u.1 u.2) ?_ us
      simp [upd, hu]
    · have h' : id ∈ us.map (·.1) := by
        simp only [List.map_cons, List.mem_cons] at h
        exact h.resolve_left fun e => hu e.symm
      exact applyH_in us (upd hp u.1 u.2) (upd hp' u.1 u.2) h'

theorem foldE_slot {S S' : Nat → Bool} {t : Nat} : ∀ (xs : List (Option Nat × Eff)) (i : Nat) (s s' : SH), s.1 t = s'.1 t → (∀ j x, xs[j]? = some x → x.1 = some t → S (i + j) = S' (i + j)) → (foldE S i xs s).1 t = (foldE S' i xs s').1 t
  | [], _, _, _, h, _ => h
  | x :: xs, i, s, s', h, hS => by
    unfold foldE
    refine foldE_slot xs (i + 1) _ _ ?_ fun j y hj hy => by
      have := hS (j + 1) y (by simpa using hj) hy
      rwa [show i + (j + 1) = i + 1 + j from by omega] at this
    by_cases hx : x.1 = some t
    · have := hS 0 x rfl hx
      rw [Nat.add_zero] at this
      rw [this]
      split
      · simp [appE, setDst_at, hx]
      · exact h
    · have : ∀ (b : Bool) (z : SH), (if b then appE x.1 x.2 z else z).1 t = z.1 t := by
        intro b z
        split
        · simp [appE, setDst_at, hx]
        · rfl
      rw [this, this, h]

theorem foldE_heap {S S' : Nat → Bool} {id : Id} : ∀ (xs : List (Option Nat × Eff)) (i : Nat) (s s' : SH), s.2 id = s'.2 id → (∀ j x, xs[j]? = some x → id ∈ x.2.ups.map (·.1) → S (i + j) = S' (i + j)) → (foldE S i xs s).2 id = (foldE S' i xs s').2 id
  | [], _, _, _, h, _ => h
  | x :: xs, i, s, s', h, hS => by
    unfold foldE
    refine foldE_heap xs (i + 1) _ _ ?_ fun j y hj hy => by
      have := hS (j + 1) y (by simpa using hj) hy
      rwa [show i + (j + 1) = i + 1 + j from by omega] at this
    by_cases hx : id ∈ x.2.ups.map (·.1)
    · have := hS 0 x rfl hx
      rw [Nat.add_zero] at this
      rw [this]
      split
      · exact applyH_in _ _ _ hx
      · exact h
    · have : ∀ (b : Bool) (z : SH), (if b then appE x.1 x.2 z else z).2 id = z.2 id := by
        intro b z
        split
        · exact applyH_other _ _ hx
        · rfl
      rw [this, this, h]

theorem appE_comm {d1 d2 : Option Nat} {e1 e2 : Eff} (hd : ∀ t, d1 = some t → d2 ≠ some t) (hu : ∀ id ∈ e1.ups.map (·.1), id ∉ e2.ups.map (·.1)) (s : SH) : appE d2 e2 (appE d1 e1 s) = appE d1 e1 (appE d2 e2 s) := by
  unfold appE
  refine Prod.ext (funext fun t => ?_) (funext fun id => ?_)
  · simp only [setDst_at]
    by_cases h1 : d1 = some t
    · rw [if_neg (hd t h1), if_pos h1, if_pos h1]
    · rw [if_neg h1, if_neg h1]
  · simp only
    by_cases h1 : id ∈ e1.ups.map (·.1)
    · rw [applyH_other _ _ (hu id h1)]
      exact applyH_in _ _ _ h1
    · rw [applyH_other e1.ups _ h1]
      by_cases h2 : id ∈ e2.ups.map (·.1)
      · exact applyH_in _ _ _ h2
      · rw [applyH_other _ _ h2, applyH_other _ _ h2, applyH_other _ _ h1]

theorem foldE_comm {S : Nat → Bool} {d : Option Nat} {e : Eff} : ∀ (xs : List (Option Nat × Eff)) (i : Nat) (s : SH), (∀ j x, xs[j]? = some x → S (i + j) = true → (∀ t, d = some t → x.1 ≠ some t) ∧ ∀ id ∈ e.ups.map (·.1), id ∉ x.2.ups.map (·.1)) →
    foldE S i xs (appE d e s) = appE d e (foldE S i xs s)
  | [], _, _, _ => rfl
  | x :: xs, i, s, h => by
    have ih := fun z => foldE_comm (S := S) (d := d) (e := e) xs (i + 1) z fun j y hj hS => h (j + 1) y (by simpa using hj) (by rwa [show i + (j + 1) = i + 1 + j from by omega])
    unfold foldE
    rw [← ih]
    congr 1
    split
    · rename_i hS
      obtain ⟨h1, h2⟩ := h 0 x rfl (by simpa using hS)
      exact appE_comm h1 h2 s
    · rfl

/-- One more. -/
theorem foldE_add {S S' : Nat → Bool} {j : Nat} (hj : S j = false) (hj' : S' j = true) (hS : ∀ i, i ≠ j → S' i = S i) : ∀ (xs : List (Option Nat × Eff)) (i : Nat) (x : Option Nat × Eff) (s : SH), i ≤ j → xs[j - i]? = some x →
    (∀ k y, xs[k]? = some y → j < i + k → S (i + k) = true → (∀ t, x.1 = some t → y.1 ≠ some t) ∧ ∀ id ∈ x.2.ups.map (·.1), id ∉ y.2.ups.map (·.1)) → foldE S' i xs s = appE x.1 x.2 (foldE S i xs s)
  | [], i, x, s, _, hx, _ => by simp at hx
  | y :: xs, i, x, s, hi, hx, h => by
    unfold foldE
    by_cases hij : i = j
    · subst hij
      simp only [Nat.sub_self, List.getElem?_cons_zero, Option.some.injEq] at hx
      subst hx
      rw [hj, hj']
      simp only [if_true, Bool.false_eq_true, if_false]
      have e1 : ∀ (zs : List (Option Nat × Eff)) (k : Nat) (s : SH), i < k → foldE S' k zs s = foldE S k zs s := by
        intro zs
        induction zs with
        | nil => intro k s _; rfl
        | cons z zs ih => intro k s hk; unfold foldE; rw [hS k (by omega), ih (k + 1) _ (by omega)]
      rw [e1 xs (i + 1) _ (by omega)]
      exact foldE_comm xs (i + 1) s fun k z hk hz => h (k + 1) z (by simpa using hk) (by omega) (by rwa [show i + (k + 1) = i + 1 + k from by omega])
    · rw [hS i hij]
      refine foldE_add hj hj' hS xs (i + 1) x _ (by omega) ?_ fun k z hk h1 h2 => h (k + 1) z (by simpa using hk) (by omega) (by rwa [show i + (k + 1) = i + 1 + k from by omega])
      rw [show j - i = (j - (i + 1)) + 1 from by omega] at hx
      simpa using hx

end Go.TM
