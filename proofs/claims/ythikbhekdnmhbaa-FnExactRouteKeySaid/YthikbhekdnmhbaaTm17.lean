/- The tree machine, 17: every operation is as 'eff' says. -/
import Derived.Test.YthikbhekdnmhbaaTm16
namespace Go.TM
set_option linter.unusedVariables false
set_option linter.unusedSimpArgs false

section
variable {P : Program} {T : Nat → Option TI} {G : Nat → Option FM} {w0 : World} {L0 : Lab} {U : Nat → Prop} {w w' : World} {L L' : Lab} {hp : Hp} {sl : Nat → A} {a : Act} {o : Oper} {e : Eff} {m : Nat}

theorem eff_ok [B : Use] (hT : TabOk P T) (hG : GOk P G) (h : HRel w0 L0 U hp w L) (hs : Slots U w L hp sl a.tmps) (hm : ¬ U m) (he : eff T G m o.type o.op sl hp = some e) : OpOk P w0 L0 U hp w L a o m e := by
  cases ho : o.op with
  | move x => rw [ho] at he; exact PureOk.op h (eff_move hs (.inl ho) he)
  | assign x => rw [ho] at he; exact PureOk.op h (eff_move hs (.inr ho) he)
  | pick c x y => rw [ho] at he; exact PureOk.op h (eff_pick hs ho he)
  | alloc t => rw [ho] at he; exact StepOk.op (eff_alloc hT h hm ho he)
  | box t x => rw [ho] at he; exact StepOk.op (eff_box hT h hs hm ho he)
  | build t ps => rw [ho] at he; exact PureOk.op h (eff_build hT hs ho he)
  | buildSlice t n ps => rw [ho] at he; exact StepOk.op (eff_buildSlice hT h hs hm ho he)
  | makeSlice t l c => rw [ho] at he; exact StepOk.op (eff_makeSlice hT h hs hm ho he)
  | load t x => rw [ho] at he; exact PureOk.op h (eff_load hT h hs ho he)
  | store t x v => rw [ho] at he; exact eff_store hT h hs hm ho he
  | fieldAddr s x f => rw [ho] at he; exact PureOk.op h (eff_fieldAddr hT hs ho he)
  | field s x f => rw [ho] at he; exact PureOk.op h (eff_field hT hs ho he)
  | indexAddr t x ix => rw [ho] at he; exact PureOk.op h (eff_indexAddr hT h hs ho he)
  | slice t x lo hi mx =>
    rw [ho] at he
    refine PureOk.op h (eff_slice (T := T) hT hs ho ?_)
    simp only [eff] at he
    cases hk : kindOf T t <;> cases mx <;> simp only [hk] at he ⊢ <;> first | exact he | cases he
  | extract x ix => rw [ho] at he; exact PureOk.op h (eff_extract hs ho he)
  | nilCheck x => rw [ho] at he; exact PureOk.op h (eff_nilCheck hs ho he)
  | binOp op t x y t' => rw [ho] at he; exact PureOk.op h (eff_binOp hT hs ho he)
  | unOp op t x => rw [ho] at he; exact PureOk.op h (eff_unOp hs ho he)
  | convert s d x => rw [ho] at he; exact PureOk.op h (eff_convert hT hs ho he)
  | call c =>
    rw [ho] at he
    simp only [eff] at he
    split at he
    · rename_i hc
      exact PureOk.op h (eff_len hT hs ho hc he)
    · rename_i hc
      exact PureOk.op h (eff_max hs ho hc he)
    · rename_i hc
      exact StepOk.op (eff_append hT h hs hm ho hc he)
    · rename_i f hc
      have hf : FnOk P f := by
        unfold callA at he
        split at he
        · cases he
        · rename_i outs hg; exact (hG f _ hg).1
        · rename_i M hg; exact (hG f _ hg).1
      exact CallOk.op ho hc hf (eff_call hG h hm (repL_evL hs _ _) he)
    · cases he
  | _ => rw [ho] at he; simp [eff] at he

end
end Go.TM
