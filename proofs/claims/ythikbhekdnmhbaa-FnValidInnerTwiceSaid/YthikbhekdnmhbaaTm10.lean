/- The tree machine, 10: what is held, seen by two calls. -/
import Derived.Test.YthikbhekdnmhbaaTm9
namespace Go.TM
set_option linter.unusedVariables false
set_option linter.unusedSimpArgs false

mutual
/-- An owned part, held for one call and for another. -/
theorem Own.moveU (B1 B2 : Use) {w w' : World} {L L' : Lab} {id id' : Id} :
    ∀ (a : A) (p p' : List Nat) (u : Value), (cleanA a = true ∨ ∀ b, @isProt B1 L b → @isProt B2 L' b ∧ w'.heap[b]? = w.heap[b]?) →
      (∀ b q, L b = .at id (p ++ q) → L' b = .at id' (p' ++ q) ∧ w'.heap[b]? = w.heap[b]?) → @Own B1 w L a id p u → @Own B2 w' L' a id' p' u
  | .i k n, _, _, u, _, _, hi => by simpa [Own] using hi
  | .b v, _, _, u, _, _, hi => by simpa [Own] using hi
  | .s true sz len cs, p, p', u, hc, ha, hi => by
    simp only [Own] at hi ⊢
    rcases hi with hi | ⟨b, cur, e, cap, h1, h2, h3, h4, h5, h6, h7, h8⟩
    · exact .inl hi
    · have hb := ha b [] (by simpa using h2)
      exact .inr ⟨b, cur, e, cap, h1, by simpa using hb.1, hb.2.trans h3, h4, h5, h6, h7, OwnL.moveU B1 B2 cs p p' 0 cur.toList (hc.imp (fun h => by simpa [cleanA] using h) (fun h => h)) ha h8⟩
  | .s false sz len cs, _, _, u, hc, _, hi => by
    simp only [Own] at hi ⊢
    rcases hc with hc | hc
    · simp only [cleanA, List.isEmpty_iff] at hc
      subst hc
      simp only [Imm] at hi ⊢
      obtain ⟨ao, cap, h1, h2, h3, h4, _⟩ := hi
      exact ⟨ao, cap, h1, h2, h3, h4, by simp⟩
    · exact Imm.mono hc _ _ hi
  | .und, _, _, _, _, _, _ => by simp [Own]
  | .ref .., _, _, _, _, _, hi => by simp [Own] at hi
  | .ptr .., _, _, _, _, _, hi => by simp [Own] at hi
  | .ep _, _, _, _, _, _, hi => by simp [Own] at hi
  | .agg _, _, _, _, _, _, hi => by simp [Own] at hi
  | .tup _, _, _, _, _, _, hi => by simp [Own] at hi
theorem OwnL.moveU (B1 B2 : Use) {w w' : World} {L L' : Lab} {id id' : Id} :
    ∀ (cs : List A) (p p' : List Nat) (k : Nat) (us : List Value), (cleanL cs = true ∨ ∀ b, @isProt B1 L b → @isProt B2 L' b ∧ w'.heap[b]? = w.heap[b]?) →
      (∀ b q, L b = .at id (p ++ q) → L' b = .at id' (p' ++ q) ∧ w'.heap[b]? = w.heap[b]?) → @OwnL B1 w L cs id p k us → @OwnL B2 w' L' cs id' p' k us
  | [], _, _, _, _, _, _, _ => by simp [OwnL]
  | c :: cs, p, p', k, u :: us, hc, ha, hi => by
    simp only [OwnL] at hi ⊢
    refine ⟨⟨hi.1.1, Own.moveU B1 B2 c (p ++ [k]) (p' ++ [k]) u (hc.imp (fun h => by simp [cleanL] at h; exact h.1) (fun h => h)) (fun b q hb => ?_) hi.1.2⟩,
      OwnL.moveU B1 B2 cs p p' (k + 1) us (hc.imp (fun h => by simp [cleanL] at h; exact h.2) (fun h => h)) ha hi.2⟩
    have := ha b ([k] ++ q) (by simpa using hb)
    simpa using this
  | _ :: _, _, _, _, [], _, _, hi => by simp [OwnL] at hi
end

mutual
/-- What is owned, as data that is read only. -/
theorem Own.imm [Use] {w : World} {L : Lab} {P : Nat → Prop} {id : Id} (hI : ∀ b, isProt L b → P b) :
    ∀ (a : A) (p : List Nat) (u : Value), (∀ b q, L b = .at id (p ++ q) → P b) → Own w L a id p u → Imm w P a u
  | .i k n, _, u, _, hi => by simpa [Own, Imm] using hi
  | .b v, _, u, _, hi => by simpa [Own, Imm] using hi
  | .s true sz len cs, p, u, ha, hi => by
    simp only [Own] at hi
    simp only [Imm]
    rcases hi with ⟨rfl, rfl, rfl⟩ | ⟨b, cur, e, cap, rfl, h2, h3, h4, h5, h6, h7, h8⟩
    · exact ⟨none, 0, rfl, Nat.le_refl _, Nat.zero_le _, by simp, .inl rfl⟩
    · refine ⟨_, cap, rfl, h5, h6, h7, .inr ⟨_, rfl, rfl, ha b [] (by simpa using h2), ?_⟩⟩
      refine OwnL.imm hI cs p 0 cur.toList b 0 ha (fun j v hj => ?_) h8
      rw [cell_row h3]
      simpa using hj
  | .s false sz len cs, _, u, _, hi => by
    simp only [Own] at hi
    exact Imm.mono (fun b hb => ⟨hI b hb, rfl⟩) _ _ hi
  | .und, _, _, _, _ => by simp [Imm]
  | .ref .., _, _, _, hi => by simp [Own] at hi
  | .ptr .., _, _, _, hi => by simp [Own] at hi
  | .ep _, _, _, _, hi => by simp [Own] at hi
  | .agg _, _, _, _, hi => by simp [Own] at hi
  | .tup _, _, _, _, hi => by simp [Own] at hi
theorem OwnL.imm [Use] {w : World} {L : Lab} {P : Nat → Prop} {id : Id} (hI : ∀ b, isProt L b → P b) :
    ∀ (cs : List A) (p : List Nat) (k : Nat) (us : List Value) (b j : Nat), (∀ b q, L b = .at id (p ++ q) → P b) → (∀ i v, us[i]? = some v → w.cell? ⟨b, j + i, none⟩ = some v) → OwnL w L cs id p k us → ImmL w P cs b j
  | [], _, _, _, _, _, _, _, _ => by simp [ImmL]
  | c :: cs, p, k, u :: us, b, j, ha, hb, hi => by
    simp only [OwnL] at hi
    simp only [ImmL]
    refine ⟨⟨u, by simpa using hb 0 u rfl, hi.1.1, Own.imm hI c (p ++ [k]) u (fun b q hq => ha b ([k] ++ q) (by simpa using hq)) hi.1.2⟩, OwnL.imm hI cs p (k + 1) us b (j + 1) ha (fun i v hv => ?_) hi.2⟩
    have := hb (i + 1) v (by simpa using hv)
    rwa [show j + (i + 1) = j + 1 + i from by omega] at this
  | _ :: _, _, _, [], _, _, _, _, hi => by simp [OwnL] at hi
end

/-- Where an id stands in a list. -/
def posOf : List Id → Id → Option Nat
  | [], _ => none
  | x :: xs, i => if x = i then some 0 else (posOf xs i).map (· + 1)

theorem posOf_some : ∀ {xs : List Id} {i : Id} {t : Nat}, posOf xs i = some t → xs[t]? = some i
  | [], _, _, h => by simp [posOf] at h
  | x :: xs, i, t, h => by
    unfold posOf at h
    split at h
    · cases h; simp_all
    · cases hp : posOf xs i with
      | none => simp [hp] at h
      | some t' => simp [hp] at h; subst h; simpa using posOf_some hp

theorem posOf_none : ∀ {xs : List Id} {i : Id}, posOf xs i = none → i ∉ xs
  | [], _, _ => by simp
  | x :: xs, i, h => by
    unfold posOf at h
    split at h
    · cases h
    · rename_i hx
      cases hp : posOf xs i with
      | none => simp only [List.mem_cons, not_or]; exact ⟨fun e => hx e.symm, posOf_none hp⟩
      | some t' => simp [hp] at h

theorem posOf_mem : ∀ {xs : List Id} {i : Id}, i ∈ xs → ∃ t, posOf xs i = some t := by
  intro xs i h
  cases hp : posOf xs i with
  | none => exact (posOf_none hp h).elim
  | some t => exact ⟨t, rfl⟩

theorem posOf_get : ∀ {xs : List Id} {i : Id} {t : Nat}, nodupB xs = true → xs[t]? = some i → posOf xs i = some t
  | [], _, _, _, h => by simp at h
  | x :: xs, i, 0, _, h => by simp at h; simp [posOf, h]
  | x :: xs, i, t + 1, hn, h => by
    simp only [List.getElem?_cons_succ] at h
    simp only [nodupB, Bool.and_eq_true, List.all_eq_true] at hn
    have hx : x ≠ i := by
      have := hn.1 i (List.mem_of_getElem? h)
      rintro rfl
      simp at this
    simp [posOf, hx, posOf_get hn.2 h]

end Go.TM
