/- The tree machine, 40: what is handed back may be held as data that nobody writes. -/
import Derived.Test.YthikbhekdnmhbaaTm39
namespace Go.TM
set_option linter.unusedVariables false
set_option linter.unusedSimpArgs false

section
variable {P : Program} {w0 w : World} {L0 L : Lab} {U : Nat → Prop} {hp : Hp}

/-- The results' blocks from here on only read. -/
def frzR (L : Lab) : Lab := fun b => match L b with
  | .at i p => if i.1 = 0 then .prot else .at i p
  | .prot => .prot
  | .free => .free
theorem frzR_at {i : Id} {b : Nat} {p : List Nat} (h : frzR L b = .at i p) : i.1 ≠ 0 ∧ L b = .at i p := by
  unfold frzR at h
  split at h
  · split at h
    · cases h
    · cases h; exact ⟨by assumption, by assumption⟩
  · cases h
  · cases h
theorem frzR_ne {i : Id} {b : Nat} {p : List Nat} (h : L b = .at i p) (hi : i.1 ≠ 0) : frzR L b = .at i p := by simp [frzR, h, hi]
theorem frzR_0 {k b : Nat} {p : List Nat} (h : L b = .at (0, k) p) : frzR L b = .prot := by simp [frzR, h]
theorem frzR_prot {b : Nat} (h : L b = .prot) : frzR L b = .prot := by simp [frzR, h]
theorem frzR_free {b : Nat} (h : L b = .free) : frzR L b = .free := by simp [frzR, h]

def normR : A → A
  | .agg xs => .agg (normL xs)
  | v => norm v

theorem own_norm [B : Use] (hu : ∀ b k p, L b = .at (0, k) p → Use.B b) {k : Nat} {c : A} {u : Value} (h : Own w L c (0, k) [] u) : Own w (frzR L) (norm c) (0, k) [] u := by
  have hi : Imm w (isProt (frzR L)) c u := Own.imm (P := isProt (frzR L)) (fun b hb => ⟨frzR_prot hb.1, hb.2⟩) c [] u (fun b q hq => ⟨frzR_0 (by simpa using hq), hu b k _ hq⟩) h
  cases c with
  | i k n => simpa [Own, norm] using h
  | b v => simpa [Own, norm] using h
  | s o sz len cs =>
    have := Imm.norm _ _ hi
    simp only [norm] at this ⊢
    simpa only [Own] using this
  | und => simp [norm, Own]
  | _ => simp [Own] at h

theorem owns_norm [B : Use] (hu : ∀ b k p, L b = .at (0, k) p → Use.B b) : ∀ {cs : List A} {k : Nat} {us : List Value}, Owns w L 0 k cs us → Owns w (frzR L) 0 k (normL cs) us
  | [], _, [], _ => by simp [normL, Owns]
  | c :: cs, k, u :: us, h => by
    simp only [Owns] at h
    simp only [normL, Owns]
    exact ⟨⟨h.1.1, own_norm hu h.1.2⟩, owns_norm hu h.2⟩
  | [], _, _ :: _, h => by simp [Owns] at h
  | _ :: _, _, [], h => by simp [Owns] at h

theorem contract_frz {f : Nat} {M M' : Model} (hc : Contract P f M) (hk : M'.kinds = M.kinds) (hcl : M'.clean = false)
    (h : ∀ args r outs, M'.fn args = some (r, outs) → ∃ r0, M.fn args = some (r0, outs) ∧ r = normR r0 ∧ ((∃ o sz len cs, r0 = .s o sz len cs) ∨ ∃ xs, r0 = .agg xs)) : Contract P f M' := by
  refine ⟨fun B w L vals args r outs hM hh hs hsz => ?_, fun hc' => by rw [hcl] at hc'; cases hc'⟩
  obtain ⟨r0, h1, rfl, h3⟩ := h args r outs hM
  rw [hk] at hh hs ⊢
  refine (hc.calls B w L vals args r0 outs h1 hh hs hsz).mono fun e w' hp => ?_
  obtain ⟨v, L', rfl, g1, g2, g3⟩ := hp
  have hu : ∀ b k p, L' b = .at (0, k) p → B.B b := fun b k p hb => hh.use b fun hp => by rw [(g1.prot b hp).1] at hb; cases hb
  letI := B
  refine ⟨v, frzR L', rfl, ⟨fun id r hr => ?_, fun b b' i p hb hb' => g1.inj b b' i p (frzR_at hb).2 (frzR_at hb').2, fun b hb => frzR_free (g1.free b hb), fun _ _ _ _ => trivial, fun _ _ _ => trivial,
    fun b hb => ⟨frzR_prot (g1.prot b hb).1, (g1.prot b hb).2⟩, g1.size, g1.os, g1.tape, g1.output, g1.use, g1.frz⟩, ?_, fun t b ht hb => ?_⟩
  · have hid : id.1 = 2 := by
      unfold ioHp at hr
      split at hr
      · assumption
      · cases hr
    obtain ⟨u, hu'⟩ := g1.roots id r hr
    exact ⟨u, Own.move (fun b hb => ⟨frzR_prot hb, rfl⟩) _ [] [] u (fun b q hq => ⟨frzR_ne hq (by rw [hid]; omega), rfl⟩) hu'⟩
  · rcases h3 with ⟨o, sz, len, cs, rfl⟩ | ⟨xs, rfl⟩
    · simp only [ResOwn, Res1] at g2
      have := own_norm hu g2.2
      simp only [normR, norm] at this ⊢
      simp only [ResOwn, Res1]
      exact ⟨g2.1, this⟩
    · simp only [ResOwn, Res1] at g2
      obtain ⟨us, rfl, g2⟩ := g2
      simp only [normR, ResOwn, Res1]
      exact ⟨us, rfl, owns_norm hu g2⟩
  · obtain ⟨e1, e2⟩ := g3 t b ht hb
    exact ⟨frzR_ne e1 (by simp), e2⟩

theorem norm_Is (o : Bool) (xs : List Int) : normR (eIs o xs) = eIs false xs := by
  simp only [normR, norm]
  rw [normL_eI]
end

theorem gd_true {α : Type} [Decidable True] (x : α) : gd True x = some x := gd_pos trivial x
attribute [go_sem] gd_true
end Go.TM
