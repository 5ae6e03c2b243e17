/- The tree machine, 22: an operation looks only at its operands' slots. -/
import Derived.Test.YthikbhekdnmhbaaTm21
import Derived.Orders
namespace Go.TM
set_option linter.unusedVariables false
set_option linter.unusedSimpArgs false

section
variable {T : Nat → Option TI} {G : Nat → Option FM} {hp hp' : Hp} {m : Nat} {sl sl' : Nat → A}

theorem ev_congr {x : Operand} (ty : Nat) (h : ∀ t, x = .tmp t → sl' t = sl t) : ev T sl' ty x = ev T sl ty x := by
  cases x with
  | tmp t => exact h t rfl
  | _ => rfl

theorem evL_congr : ∀ (xs : List Operand) (ts : List Nat), (∀ t, Operand.tmp t ∈ xs → sl' t = sl t) → evL T sl' xs ts = evL T sl xs ts
  | [], ts, _ => by cases ts <;> rfl
  | x :: xs, [], h => by
    simp only [evL]
    rw [ev_congr 0 fun t ht => h t (by simp [ht]), evL_congr xs [] fun t ht => h t (by simp [ht])]
  | x :: xs, t :: ts, h => by
    simp only [evL]
    rw [ev_congr t fun t ht => h t (by simp [ht]), evL_congr xs ts fun t ht => h t (by simp [ht])]

theorem eff_slots {ty : Nat} {o : Op} (h : ∀ t, Operand.tmp t ∈ o.operands → sl' t = sl t) : eff T G m ty o sl' hp = eff T G m ty o sl hp := by
  have hv : ∀ x ∈ o.operands, ∀ ty, ev T sl' ty x = ev T sl ty x := fun x hx ty => ev_congr ty fun t ht => h t (by rw [← ht]; exact hx)
  cases o with
  | build t ps =>
    simp only [eff]
    have : ∀ f : Nat → Nat, (ps.toList.map fun p => (p.1, ev T sl' (f p.1) p.2)) = ps.toList.map fun p => (p.1, ev T sl (f p.1) p.2) := fun f => List.map_congr_left fun p hp => by
      rw [hv p.2 (by simp only [Op.operands, List.mem_toArray, List.mem_map]; exact ⟨p, hp, rfl⟩)]
    split
    · split
      · rename_i fs _
        rw [this fun i => (fs[i]?).elim 0 (·.2)]
      · rfl
    · rfl
  | buildSlice t n ps =>
    simp only [eff]
    split
    · rename_i el _
      have : (ps.toList.map fun p => (p.1, ev T sl' el p.2)) = ps.toList.map fun p => (p.1, ev T sl el p.2) := List.map_congr_left fun p hp => by
        rw [hv p.2 (by simp only [Op.operands, List.mem_toArray, List.mem_map]; exact ⟨p, hp, rfl⟩)]
      rw [this]
    · rfl
  | slice t x l hi mx =>
    have h1 : ev T sl' 0 x = ev T sl 0 x := hv x (by simp [Op.operands]) 0
    have h2 : l.map (ev T sl' 0) = l.map (ev T sl 0) := by cases l with
      | none => rfl
      | some y => simp only [Option.map_some]; rw [hv y (by simp [Op.operands]) 0]
    have h3 : hi.map (ev T sl' 0) = hi.map (ev T sl 0) := by cases hi with
      | none => rfl
      | some y => simp only [Option.map_some]; rw [hv y (by simp [Op.operands]) 0]
    simp only [eff, h1, h2, h3]
  | call c =>
    have ha : ∀ x ∈ c.args.toList, ∀ ty, ev T sl' ty x = ev T sl ty x := fun x hx ty => hv x (by simp only [Op.operands, Call.operands]; exact Array.mem_append.2 (.inr (by simpa using hx))) ty
    have hl : evL T sl' c.args.toList c.argTypes.toList = evL T sl c.args.toList c.argTypes.toList := evL_congr _ _ fun t ht => by
      have := ha _ ht 0
      simpa [ev] using this
    simp only [eff]
    split
    · split
      · rename_i x hx
        rw [ha x (by simp [hx])]
      · rfl
    · split
      · rename_i x y hx
        rw [ha x (by simp [hx]), ha y (by simp [hx])]
      · rfl
    · split
      · rename_i s x t t' hx ht
        simp only [ha s (by simp [hx]), ha x (by simp [hx])]
      · rfl
    · rw [hl]
    · rfl
  | _ => simp only [Op.operands, List.mem_toArray, List.mem_cons, List.mem_singleton, List.not_mem_nil, or_false, forall_eq_or_imp, forall_eq] at hv <;> simp only [eff, hv]

end
end Go.TM
