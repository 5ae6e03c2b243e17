/- The tree machine, 20: the code. -/
import Derived.Test.YthikbhekdnmhbaaTm18
namespace Go.TM
set_option linter.unusedVariables false
set_option linter.unusedSimpArgs false

/-- What is checked of the code: the regions' destinations are in the frame; 'chk' for those that draw their order. -/
def okC (chk : Nat → Array Oper → Bool) (N : Nat) : Code → Bool
  | .region id ops draw => ops.toList.all (fun o => match o.dst with | some t => decide (t < N) | none => true) && (!draw || chk id ops)
  | .seq x y => okC chk N x && okC chk N y
  | .cond _ x y => okC chk N x && okC chk N y
  | .block _ c => okC chk N c
  | .loop c => okC chk N c
  | _ => true

/-- The frame and the world are as the abstract state says; what was held at the beginning is kept. -/
structure At [Use] (w0 : World) (L0 : Lab) (hpB : Hp) (N : Nat) (st : St) (a : Act) (w : World) (L : Lab) : Prop where
  h : HRel w0 L0 (ltN st.n) st.hp w L
  s : Slots (ltN st.n) w L st.hp st.sl a.tmps
  size : a.tmps.size = N
  defers : a.defers = []
  keeps : Keeps (ltN 3) w0 L0 hpB (ltN st.n) w L st.hp

def DrawOk [Use] (P : Program) (T : Nat → Option TI) (G : Nat → Option FM) (DT : Nat → List (Nat × Nat)) (chk : Nat → Array Oper → Bool) (N : Nat) (w0 : World) (L0 : Lab) (hpB : Hp) : Prop :=
  ∀ id ops st sl hp log a w L (Q : Exit → Act → World → Prop), okC chk N (.region id ops true) = true → runOps T G ops.toList st.n 0 ops.toList st.sl st.hp [] = some (sl, hp, log) → drawB (DT id) log = true → At w0 L0 hpB N st a w L →
    (∀ a' w' L', At w0 L0 hpB N ⟨sl, hp, st.n + ops.toList.length⟩ a' w' L' → Q .normal a' w') → (Code.region id ops true).wp P Q a w

theorem least_ex {p : Nat → Prop} : ∀ (n : Nat), p n → ∃ k, p k ∧ ∀ j, p j → k ≤ j := by
  intro n
  induction n using Nat.strongRecOn with
  | _ n ih =>
    intro hp
    by_cases h : ∃ j, j < n ∧ p j
    · obtain ⟨j, h1, h2⟩ := h
      exact ih j h1 h2
    · exact ⟨n, hp, fun j hj => Nat.le_of_not_lt fun hlt => h ⟨j, hlt, hj⟩⟩

open Classical in
noncomputable def leastOf (p : Nat → Prop) : Nat := if h : ∃ k, p k ∧ ∀ j, p j → k ≤ j then h.choose else 0

theorem leastOf_spec {p : Nat → Prop} (h : ∃ n, p n) : p (leastOf p) ∧ ∀ j, p j → leastOf p ≤ j := by
  obtain ⟨n, hn⟩ := h
  have h' := least_ex n hn
  unfold leastOf
  rw [dif_pos h']
  exact h'.choose_spec

theorem W_ok [Use] {P : Program} {T : Nat → Option TI} {G : Nat → Option FM} {DT : Nat → List (Nat × Nat)} {chk : Nat → Array Oper → Bool} {N : Nat} {w0 : World} {L0 : Lab} {hpB : Hp} (hT : TabOk P T) (hG : GOk P G) (hdraw : DrawOk P T G DT chk N w0 L0 hpB) :
    ∀ (c : Code) (Q : Exit → St → Prop) (Qc : Exit → Act → World → Prop) (st : St) (a : Act) (w : World) (L : Lab), okC chk N c = true → W T G DT c Q st → At w0 L0 hpB N st a w L →
      (∀ e st' a' w' L', Q e st' → At w0 L0 hpB N st' a' w' L' → Qc e a' w') → c.wp P Qc a w := by
  intro c
  induction c with
  | skip => intro Q Qc st a w L hk hw h hq; exact wp_skip (hq _ st a w L hw h)
  | exit id => intro Q Qc st a w L hk hw h hq; exact wp_exit (hq _ st a w L hw h)
  | ret => intro Q Qc st a w L hk hw h hq; exact wp_ret (hq _ st a w L hw h)
  | seq x y ihx ihy =>
    intro Q Qc st a w L hk hw h hq
    simp only [okC, Bool.and_eq_true] at hk
    refine wp_seq (ihx _ _ st a w L hk.1 hw h fun e st' a' w' L' h1 h2 => ?_)
    cases e with
    | normal => exact ihy Q Qc st' a' w' L' hk.2 h1 h2 hq
    | _ => exact hq _ st' a' w' L' h1 h2
  | cond c x y ihx ihy =>
    intro Q Qc st a w L hk hw h hq
    simp only [okC, Bool.and_eq_true] at hk
    simp only [W] at hw
    split at hw
    · rename_i v hv
      have := rep_ev (T := T) h.s 0 c
      rw [hv] at this
      simp only [Rep] at this
      exact wp_cond_split this (fun e => ihx Q Qc st a w L hk.1 (hw.1 e) h hq) fun e => ihy Q Qc st a w L hk.2 (hw.2 e) h hq
    · exact hw.elim
  | block id c ih =>
    intro Q Qc st a w L hk hw h hq
    refine wp_block (ih _ _ st a w L hk hw h fun e st' a' w' L' h1 h2 => ?_)
    cases e with
    | exit id' =>
      simp only [inBlockA] at h1
      simp only [Exit.inBlock]
      split
      · rename_i e; rw [if_pos e] at h1; exact hq _ st' a' w' L' h1 h2
      · rename_i e; rw [if_neg e] at h1; exact hq _ st' a' w' L' h1 h2
    | _ => exact hq _ st' a' w' L' h1 h2
  | region id ops draw =>
    intro Q Qc st a w L hk hw h hq
    simp only [W] at hw
    split at hw
    · rename_i sl hp log hr
      cases draw with
      | true => exact hdraw id ops st sl hp log a w L Qc hk hr (hw.1 rfl) h fun a' w' L' h' => hq _ _ a' w' L' hw.2 h'
      | false =>
        refine wp_region_list (runOps_ok hT hG ops.toList 0 st.sl st.hp [] a w L hr h.h h.s h.size (fun o ho t ht => ?_) fun a' w' L' h1 h2 h3 h4 h5 => hq _ _ a' w' L' hw.2 ⟨h1, h2, h3, by rw [h4, h.defers], h.keeps.trans h5⟩)
        simp only [okC, Bool.and_eq_true, List.all_eq_true] at hk
        have := hk.1 o ho
        rw [ht] at this
        simpa using this
    · exact hw.elim
  | loop c ih =>
    intro Q Qc st a w L hk hw h hq
    simp only [W] at hw
    obtain ⟨I, μ, hI, hround⟩ := hw
    refine wp_loop (fun a w => ∃ st L, I st ∧ At w0 L0 hpB N st a w L) (fun a w => leastOf fun n => ∃ st L, μ st = n ∧ I st ∧ At w0 L0 hpB N st a w L) ⟨st, L, hI, h⟩ fun a w ⟨st0, L0', g1, g2⟩ => ?_
    obtain ⟨⟨st1, L1, e1, e2, e3⟩, _⟩ := leastOf_spec (p := fun n => ∃ st L, μ st = n ∧ I st ∧ At w0 L0 hpB N st a w L) ⟨μ st0, st0, L0', rfl, g1, g2⟩
    refine ih _ _ st1 a w L1 hk (hround st1 e2) e3 fun e st' a' w' L' h1 h2 => ?_
    cases e with
    | normal =>
      refine ⟨⟨st', L', h1.1, h2⟩, ?_⟩
      have := (leastOf_spec (p := fun n => ∃ st L, μ st = n ∧ I st ∧ At w0 L0 hpB N st a' w' L) ⟨μ st', st', L', rfl, h1.1, h2⟩).2 (μ st') ⟨st', L', rfl, h1.1, h2⟩
      have := h1.2
      omega
    | _ => exact hq _ st' a' w' L' h1 h2
  | _ => intro Q Qc st a w L hk hw h hq; exact hw.elim

end Go.TM
