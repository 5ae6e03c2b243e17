/- The tree machine, 27: a body that computes what the model says meets the contract. -/
import Derived.Test.YthikbhekdnmhbaaTm26
namespace Go.TM
set_option linter.unusedVariables false
set_option linter.unusedSimpArgs false

theorem okC_mono {chk : Nat → Array Oper → Bool} {N N' : Nat} (hN : N ≤ N') : ∀ (c : Code), okC chk N c = true → okC chk N' c = true := by
  intro c
  induction c with
  | region id ops draw =>
    intro h
    simp only [okC, Bool.and_eq_true, List.all_eq_true] at h ⊢
    refine ⟨fun o ho => ?_, h.2⟩
    have := h.1 o ho
    cases hd : o.dst with
    | none => rfl
    | some t =>
      rw [hd] at this
      simp only [decide_eq_true_eq] at this ⊢
      exact Nat.lt_of_lt_of_le this hN
  | seq x y ihx ihy => intro h; simp only [okC, Bool.and_eq_true] at h ⊢; exact ⟨ihx h.1, ihy h.2⟩
  | cond _ x y ihx ihy => intro h; simp only [okC, Bool.and_eq_true] at h ⊢; exact ⟨ihx h.1, ihy h.2⟩
  | block _ c ih => intro h; simp only [okC] at h ⊢; exact ih h
  | loop c ih => intro h; simp only [okC] at h ⊢; exact ih h
  | _ => intro h; rfl

/-- Of a state at a body's end, what the caller is promised. -/
theorem body_end [B : Use] {P : Program} {T : Nat → Option TI} (hT : TabOk P T) {w0 : World} {L0 : Lab} {hpB : Hp} {N : Nat} {st : St} {a : Act} {w : World} {L : Lab} {rs : List ResultVar} {shs : List (Nat × Nat)} {r : A} {outs : List (List A)}
    (h : At w0 L0 hpB N st a w L) (hf : finalA T rs shs st = some (r, outs)) : ∃ us, ResL P a.tmps w rs us ∧ Post w0 L0 shs r outs (.returned (tupV us)) w := by
  unfold finalA at hf
  split at hf
  · cases hf
  · rename_i vs hvs
    split at hf
    · cases hf
    · rename_i r' ups hfin
      rw [Option.map_eq_some_iff] at hf
      obtain ⟨outs', hio, e⟩ := hf
      cases e
      have h3 : 3 ≤ st.n := by have := h.keeps.used 2 (by simp [ltN]); simp only [ltN] at this; omega
      obtain ⟨us, q1, q2⟩ := ress_ok (P := P) hT h.h h.s rs vs hvs
      obtain ⟨L1, k1, k2, k3⟩ := fin_ok h.h h3 (Nat.lt_irrefl _ : ¬ ltN st.n st.n) q2 hfin
      refine ⟨us, q1, _, labE L1 st.n, rfl, ?_, k3, fun t b ht hb => ?_⟩
      · exact end_h k1 h3 hio
      · obtain ⟨e1, e2⟩ := iosOf_get hio
        obtain ⟨sh, hsh⟩ : ∃ sh, shs[t]? = some sh := ⟨shs[t], by simp [ht]⟩
        obtain ⟨cs, hcs⟩ : ∃ cs, outs[t]? = some cs := ⟨outs[t]'(by omega), by simp [show t < outs.length from by omega]⟩
        obtain ⟨r1, f1, _⟩ := e2 t sh cs hsh hcs
        rw [Nat.zero_add] at f1
        have hn : node (applyH st.hp ups) (2, t) [] 0 ≠ none := by simp [node, f1, verOk, getP]
        have hkk := h.keeps.trans k2
        obtain ⟨_, g2⟩ := hkk.node (2, t) [] 0 (by simp [ltN]) (fun r _ c p hp => by cases hp) hn
        obtain ⟨g3, g4⟩ := g2 b hb
        exact ⟨labE_io h3 g3, g4⟩

theorem contract_of_does {P : Program} {T : Nat → Option TI} {G : Nat → Option FM} {DT : Nat → List (Nat × Nat)} {f : Nat} {fn : Func} {c : Code} {M : Model} (hmx : P.follows .mixedOrders = true) (hT : TabOk P T) (hG : GOk P G)
    (hf : P.funcs[f]? = some fn) (hb : fn.body = some c) (hok : okC (fun id ops => chkD (DT id) ops) fn.ntmps c = true) (hd : Does T G DT fn M) : Contract P f M := by
  refine ⟨fun B w L vals args r outs hM h hs _ => ?_, fun hcl args r outs hM => (hd c hb args r outs hM).1 hcl⟩
  refine calls_of_wp hf hb ?_
  obtain ⟨_, hw⟩ := hd c hb args r outs hM
  have hN : (vals ++ Array.replicate (fn.ntmps - vals.size) undef).size = vals.size + (fn.ntmps - vals.size) := by simp
  have hat : At w L (initHp 0 0 M.kinds args) (vals.size + (fn.ntmps - vals.size)) (initSt M.kinds args) { tmps := vals ++ Array.replicate (fn.ntmps - vals.size) undef, defers := [] } w L := by
    refine ⟨h, fun t => ?_, hN, rfl, Keeps.rfl'⟩
    have := hs t
    have e : (vals ++ Array.replicate (fn.ntmps - vals.size) undef).getD t undef = vals.getD t undef := by
      simp only [Array.getD_eq_getD_getElem?, Array.getElem?_append]
      split
      · rfl
      · rename_i hlt
        rw [Array.getElem?_eq_none (show vals.size ≤ t from by omega)]
        simp [Array.getElem?_replicate]
        split <;> rfl
    rw [e]
    exact this
  refine W_ok (P := P) hT hG (draw_ok hmx hT hG) c _ _ _ _ w L (okC_mono (by omega) c hok) hw hat fun e st' a' w' L' he h' => ?_
  obtain ⟨he, hfin⟩ := he
  obtain ⟨us, hres, hpost⟩ := body_end (P := P) hT h' hfin
  rcases he with rfl | rfl <;> exact ⟨h'.defers, _, results_run rfl hres, hpost⟩

end Go.TM
