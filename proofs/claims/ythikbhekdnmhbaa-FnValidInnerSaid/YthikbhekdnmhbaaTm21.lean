/- The tree machine, 21: an operation looks only at what it names (whole). -/
import Derived.Test.YthikbhekdnmhbaaTm19
namespace Go.TM
set_option linter.unusedVariables false
set_option linter.unusedSimpArgs false

section
variable {T : Nat → Option TI} {G : Nat → Option FM} {hp hp' : Hp} {m : Nat} {sl sl' : Nat → A}

theorem eff_heap {ty : Nat} {o : Op} {e : Eff} (he : eff T G m ty o sl hp = some e) (h : ∀ id ∈ e.rd, hp' id = hp id) : eff T G m ty o sl hp' = some e := by
  cases o with
  | load t x =>
    simp only [eff] at he ⊢
    split at he
    · exact loadA_congr he h
    · cases he
  | store t x v =>
    simp only [eff] at he ⊢
    split at he
    · exact storeA_congr he h
    · cases he
  | box t x =>
    simp only [eff] at he ⊢
    split at he
    · rename_i ti cs us rd h1 h2
      split at he
      · cases he
        rw [closeL_congr h2 h]
        simp_all
      · cases he
    · cases he
  | buildSlice t n ps =>
    simp only [eff] at he ⊢
    split at he
    · split at he
      · split at he
        · split at he
          · rename_i h2
            split at he
            · cases he
              rw [closeL_congr h2 h]
              simp_all
            · cases he
          · cases he
        · cases he
      · cases he
    · cases he
  | fieldAddr s x f =>
    simp only [eff] at he ⊢
    split at he
    · split at he
      · rename_i hx
        split at he
        · rename_i hn
          cases he
          have := h _ (List.mem_singleton.2 rfl)
          simp only [node_congr this, hn]
        · cases he
      · exact he
      · cases he
    · cases he
  | indexAddr t x ix =>
    simp only [eff] at he ⊢
    unfold indexAddrA at he ⊢
    split at he
    · split at he
      · rename_i hn
        split at he
        · rename_i hc
          cases he
          have := h _ (List.mem_singleton.2 rfl)
          simp only [node_congr this, hn, if_pos hc]
        · cases he
      · cases he
    · exact he
    · split at he
      · rename_i h1 hn
        split at he
        · rename_i hc
          cases he
          have := h _ (List.mem_singleton.2 rfl)
          simp only [node_congr this, h1, hn, if_pos hc]
        · cases he
      · cases he
    · cases he
  | nilCheck x =>
    simp only [eff] at he ⊢
    split at he
    · split at he
      · rename_i hn
        cases he
        have := h _ (List.mem_singleton.2 rfl)
        simp only [node_congr this, hn]
      · cases he
    · exact he
    · cases he
  | call c =>
    simp only [eff] at he ⊢
    split at he
    · exact he
    · exact he
    · split at he
      · split at he
        · split at he
          · split at he
            · split at he
              · rename_i h1
                split at he
                · rename_i h2
                  split at he
                  · rename_i hc
                    cases he
                    rw [srcOf_congr h1 fun id hid => h id (by simp [hid])]
                    simp only
                    rw [dstOf_congr h2 fun id hid => applyH_congr (h id (by simp [hid])) _]
                    simp only [if_pos hc]
                    simp_all
                  · cases he
                · cases he
              · cases he
            · cases he
          · cases he
        · cases he
      · cases he
    · exact callA_congr he h
    · cases he
  | _ => simpa only [eff] using he

end
end Go.TM
