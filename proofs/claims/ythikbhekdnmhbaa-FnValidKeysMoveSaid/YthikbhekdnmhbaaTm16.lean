/- The tree machine, 16: every operation. -/
import Derived.Test.YthikbhekdnmhbaaTm15
namespace Go.TM
set_option linter.unusedVariables false
set_option linter.unusedSimpArgs false

def AliasOk (P : Program) (f : Nat) (outs : List Out) : Prop := ∀ (B : Use) (w0 : World) (L0 : Lab) (U : Nat → Prop) (hp : Hp) (w : World) (L : Lab) (vs : List A) (us : List Value) (m : Nat),
  HRel w0 L0 U hp w L → RepL U w L hp vs us → ¬ U m → ∀ cs ups, outCells m vs 0 outs = some (cs, ups) → CallOk P w0 L0 U hp w L f us m ⟨.agg cs, ups, []⟩

/-- A function that can be entered. -/
def FnOk (P : Program) (f : Nat) : Prop := ∃ fn, P.funcs[f]? = some fn ∧ (fn.name == "runtime.NumGoroutine") = false ∧ fn.body.isNone = false

def GOk (P : Program) (G : Nat → Option FM) : Prop := ∀ f fm, G f = some fm → FnOk P f ∧ match fm with
  | .model M => Contract P f M
  | .alias outs => AliasOk P f outs

/-- An operation, on the frame: whatever comes next holds of what it leaves. -/
def OpOk [Use] (P : Program) (w0 : World) (L0 : Lab) (U : Nat → Prop) (hp : Hp) (w : World) (L : Lab) (a : Act) (o : Oper) (m : Nat) (e : Eff) : Prop :=
  ∀ (next : Act → World → Prop) (Q : Exit → Act → World → Prop), (∀ v w' L', HRel w0 L0 (addU U m) (applyH hp e.ups) w' L' → Keeps U w L hp (addU U m) w' L' (applyH hp e.ups) → Rep (addU U m) w' L' (applyH hp e.ups) e.val v →
    next (a.put o.dst v) w') → o.wp P a w next Q

section
variable {P : Program} {T : Nat → Option TI} {G : Nat → Option FM} {w0 : World} {L0 : Lab} {U : Nat → Prop} {w w' : World} {L L' : Lab} {hp : Hp} {sl : Nat → A} {a : Act} {o : Oper} {e : Eff} {m : Nat}

theorem StepOk.op [Use] (h : StepOk P w0 L0 U hp w L a o m e) : OpOk P w0 L0 U hp w L a o m e := by
  intro next Q hn
  obtain ⟨v, w', L', h1, h2, h3, h4⟩ := h
  unfold Oper.wp
  rw [h1, Oper.upon_value]
  exact hn v w' L' h2 h3 h4

theorem PureOk.op [Use] (h : HRel w0 L0 U hp w L) (hp' : PureOk P U w L hp a o e) : OpOk P w0 L0 U hp w L a o m e := by
  obtain ⟨h1, v, h2, h3⟩ := hp'
  have hk : Keeps U w L hp (addU U m) w L hp := keeps_ups [] (by simp) fun k hk => addU_l hk
  refine StepOk.op ⟨v, w, L, h2, ?_, ?_, ?_⟩
  · rw [h1]; exact h.mono fun k hk => addU_l hk
  · rw [h1]; exact hk
  · rw [h1]; exact Rep.mono hk _ _ h3

theorem repL_evL [Use] (hs : Slots U w L hp sl a.tmps) : ∀ (xs : List Operand) (ts : List Nat), RepL U w L hp (evL T sl xs ts) (xs.map a.eval)
  | [], ts => by cases ts <;> simp [evL, RepL]
  | x :: xs, [] => by simp only [evL, RepL, List.map_cons]; exact ⟨rep_ev hs 0 x, repL_evL hs xs []⟩
  | x :: xs, t :: ts => by simp only [evL, RepL, List.map_cons]; exact ⟨rep_ev hs t x, repL_evL hs xs ts⟩

theorem CallOk.op [Use] {f : Nat} {c : Call} (ho : o.op = .call c) (hc : c.callee = .value (.func f)) (hf : FnOk P f) (h : CallOk P w0 L0 U hp w L f (c.args.toList.map a.eval) m e) : OpOk P w0 L0 U hp w L a o m e := by
  intro next Q hn
  unfold Oper.wp
  have hrun : (execOp a.eval o).run P w = .ok (.enter f (c.args.map a.eval)) w := by
    obtain ⟨fn, h1, h2, h3⟩ := hf
    have h2' : fn.name ≠ "runtime.NumGoroutine" := by simpa using h2
    have h3' : fn.body ≠ none := by intro e; rw [e] at h3; cases h3
    simp [execOp, ho, resolve, hc, Act.eval, invoke, Deferred.ofValue, callFunc, h1]
    rw [if_neg h2', if_neg h3']
  rw [hrun, Oper.upon_enter]
  unfold CallOk at h
  rw [show (c.args.toList.map a.eval).toArray = c.args.map a.eval from by apply Array.ext'; simp] at h
  refine h.mono fun en w' hh => ?_
  obtain ⟨v, L', rfl, h2, h3, h4⟩ := hh
  exact hn v w' L' h2 h3 h4

theorem eff_call [B : Use] (hG : GOk P G) (h : HRel w0 L0 U hp w L) (hm : ¬ U m) {f : Nat} {vs : List A} {us : List Value} (hv : RepL U w L hp vs us) (he : callA G m f vs hp = some e) : CallOk P w0 L0 U hp w L f us m e := by
  unfold callA at he
  split at he
  · cases he
  · rename_i outs hf
    simp only [Option.map_eq_some_iff] at he
    obtain ⟨⟨cs, ups⟩, h1, h2⟩ := he
    cases h2
    exact (hG f _ hf).2 B w0 L0 U hp w L vs us m h hv hm cs ups h1
  · rename_i M hf
    split at he
    · cases he
    · rename_i cs ups rd1 h1
      split at he
      · cases he
      · rename_i xs rds ios h2
        split at he
        · rename_i h3
          split at he
          · cases he
          · rename_i r outs h4
            split at he
            · cases he
            · rename_i us' h5
              cases he
              exact call_ok h hm hv (hG f _ hf).2 h1 h2 h3 h4 h5 _
        · cases he

theorem eff_store [Use] (hT : TabOk P T) (h : HRel w0 L0 U hp w L) (hs : Slots U w L hp sl a.tmps) (hm : ¬ U m) {t : Nat} {x v : Operand} (ho : o.op = .store t x v)
    (he : (match T t with
    | some ti => storeA ti hp (ev T sl 0 x) (ev T sl t v)
    | none => none) = some e) : OpOk P w0 L0 U hp w L a o m e := by
  split at he
  · rename_i ti ht
    obtain ⟨w', L', h1, h2, h3, h4⟩ := store_ok (P := P) hT h hm ht (rep_ev (T := T) hs 0 x) (rep_ev (T := T) hs t v) he
    intro next Q hn
    unfold Oper.wp
    have hrun : (execOp a.eval o).run P w = .ok .skip w' := by simp [execOp, ho, h1]
    rw [hrun, Oper.upon_skip]
    exact hn undef w' L' h2 h3 (by rw [h4]; simp [Rep])
  · cases he

end
end Go.TM
