/- The tree machine, 18: regions in the text's order. -/
import Derived.Test.YthikbhekdnmhbaaTm17
namespace Go.TM
set_option linter.unusedVariables false
set_option linter.unusedSimpArgs false

section
variable {P : Program} {T : Nat → Option TI} {G : Nat → Option FM} {w0 : World} {L0 : Lab} {U : Nat → Prop} {w w' : World} {L L' : Lab} {hp : Hp} {sl : Nat → A} {a : Act} {o : Oper} {e : Eff} {m : Nat}

theorem slots_bool [Use] {tmps : Array Value} (hs : Slots U w L hp sl tmps) {d : Nat} {v : Bool} (h : sl d = .b v) : tmps[d]? = some (.bool v) := by
  have := hs d
  rw [h] at this
  simp only [Rep] at this
  rw [Array.getD_eq_getD_getElem?] at this
  cases hd : tmps[d]? with
  | none => rw [hd] at this; simp [undef] at this
  | some u => rw [hd] at this; simp at this; rw [this]

theorem slots_skip [Use] {tmps : Array Value} (hs : Slots U w L hp sl tmps) {d : Nat} (h : sl d = .tup []) : tmps[d]? = none ∨ tmps[d]? = some (.tuple #[]) := by
  have := hs d
  rw [h] at this
  simp only [Rep] at this
  obtain ⟨us, h1, h2⟩ := this
  have : us = #[] := by
    cases us with
    | mk l => cases l with
      | nil => rfl
      | cons x l => simp [RepL] at h2
  subst this
  rw [Array.getD_eq_getD_getElem?] at h1
  cases hd : tmps[d]? with
  | none => exact .inl rfl
  | some u => rw [hd] at h1; simp at h1; exact .inr (by rw [h1])

theorem wanted_ok [Use] {ops : Array Oper} {tmps : Array Value} (hs : Slots U w L hp sl tmps) {b : Bool} (h : wantedA ops.toList sl o = some b) : Region.wanted o (yielded ops tmps) = b := by
  unfold wantedA at h
  unfold Region.wanted
  split at h
  · rename_i hg; cases h; rw [hg]
  · rename_i j want hg
    rw [hg]
    simp only
    unfold yielded
    rw [Array.getElem?_toList] at h
    split at h
    · rename_i d hd
      rw [hd]
      simp only [Option.bind_some]
      split at h
      · rename_i v hv
        cases h
        rw [slots_bool hs hv]
        simp
      · rename_i hv
        cases h
        rcases slots_skip hs hv with h' | h' <;> rw [h'] <;> simp
      · cases h
    · cases h

theorem slots_put [Use] {V : Nat → Prop} (hs : Slots V w L hp sl a.tmps) (d : Option Nat) {x : A} {v : Value} (hd : ∀ t, d = some t → t < a.tmps.size) (hv : Rep V w L hp x v) : Slots V w L hp (setDst sl d x) (a.put d v).tmps := by
  cases d with
  | none => exact hs
  | some t =>
    intro s
    simp only [setDst, Act.put]
    by_cases hst : s = t
    · subst hst
      rw [upd_same, Array.getD_eq_getD_getElem?, Array.getElem?_setIfInBounds_self_of_lt (hd s rfl)]
      exact hv
    · rw [upd_ne _ _ _ _ hst, Array.getD_eq_getD_getElem?, Array.getElem?_setIfInBounds_ne (fun e => hst e.symm), ← Array.getD_eq_getD_getElem?]
      exact hs s

theorem put_size (a : Act) (d : Option Nat) (v : Value) : (a.put d v).tmps.size = a.tmps.size := by
  cases d <;> simp [Act.put]

theorem put_defers (a : Act) (d : Option Nat) (v : Value) : (a.put d v).defers = a.defers := by
  cases d <;> rfl

def ltN (n : Nat) : Nat → Prop := fun k => k < n

theorem addU_ltN (n : Nat) : addU (ltN n) n = ltN (n + 1) := by
  funext k
  simp only [addU, ltN, eq_iff_iff]
  omega

theorem keeps_lt [Use] {n n' : Nat} (h : n ≤ n') : Keeps (ltN n) w L hp (ltN n') w L hp := keeps_ups [] (by simp) fun k hk => Nat.lt_of_lt_of_le hk h

theorem runOps_ok [B : Use] (hT : TabOk P T) (hG : GOk P G) {ops : Array Oper} {Q : Exit → Act → World → Prop} {n : Nat} {sl' : Nat → A} {hp' : Hp} {log' : Log} {N : Nat} : ∀ (rest : List Oper) (i : Nat) (sl : Nat → A) (hp : Hp) (log : Log) (a : Act) (w : World) (L : Lab),
    runOps T G ops.toList n i rest sl hp log = some (sl', hp', log') → HRel w0 L0 (ltN (n + i)) hp w L → Slots (ltN (n + i)) w L hp sl a.tmps → a.tmps.size = N → (∀ o ∈ rest, ∀ t, o.dst = some t → t < N) →
    (∀ a' w' L', HRel w0 L0 (ltN (n + i + rest.length)) hp' w' L' → Slots (ltN (n + i + rest.length)) w' L' hp' sl' a'.tmps → a'.tmps.size = N → a'.defers = a.defers → Keeps (ltN (n + i)) w L hp (ltN (n + i + rest.length)) w' L' hp' → Q .normal a' w') →
    wpList P ops Q rest a w
  | [], i, sl, hp, log, a, w, L, he, h, hs, hN, hd, hk => by
    cases he
    exact hk a w L h hs hN rfl Keeps.rfl'
  | o :: rest, i, sl, hp, log, a, w, L, he, h, hs, hN, hd, hk => by
    unfold runOps at he
    split at he
    · cases he
    · rename_i e hop
      have hd1 : ∀ t, o.dst = some t → t < a.tmps.size := fun t ht => by rw [hN]; exact hd o (by simp) t ht
      have hm : ¬ ltN (n + i) (n + i) := Nat.lt_irrefl _
      have hlen : n + i + (o :: rest).length = n + (i + 1) + rest.length := by simp only [List.length_cons]; omega
      have next : ∀ v w' L', HRel w0 L0 (ltN (n + (i + 1))) (applyH hp e.ups) w' L' → Keeps (ltN (n + i)) w L hp (ltN (n + (i + 1))) w' L' (applyH hp e.ups) → Rep (ltN (n + (i + 1))) w' L' (applyH hp e.ups) e.val v → wpList P ops Q rest (a.put o.dst v) w' := by
        intro v w' L' h1 h2 h3
        refine runOps_ok hT hG rest (i + 1) _ _ _ (a.put o.dst v) w' L' he h1 (slots_put (fun t => Rep.mono h2 _ _ (hs t)) o.dst hd1 h3) (by rw [put_size, hN]) (fun o' ho' => hd o' (by simp [ho'])) fun a' w'' L'' g1 g2 g3 g4 g5 => ?_
        rw [hlen] at hk
        exact hk a' w'' L'' g1 g2 g3 (by rw [g4, put_defers]) (h2.trans g5)
      unfold opA at hop
      split at hop
      · rename_i hw
        have hwant := wanted_ok hs hw
        have hok := eff_ok hT hG h hs hm hop
        unfold wpList
        rw [if_pos hwant]
        refine .inl (hok _ _ fun v w' L' h1 h2 h3 => ?_)
        rw [addU_ltN] at h1 h2 h3
        exact next v w' L' h1 h2 h3
      · rename_i hw
        have hwant := wanted_ok hs hw
        cases hop
        unfold wpList
        rw [if_neg (by simp [hwant])]
        refine next undef w L (h.mono fun k hk' => Nat.lt_succ_of_lt hk') (keeps_lt (by omega)) ?_
        simp only [Eff.pure, Rep]
        exact ⟨#[], rfl, by simp [RepL]⟩
      · cases hop

end
end Go.TM
