/- The tree machine, 36: tables, checked. -/
import Derived.Test.YthikbhekdnmhbaaTm35
import Derived.KernelRfl
namespace Go.TM
set_option linter.unusedVariables false
set_option linter.unusedSimpArgs false

/-- A zero cell, checked. -/
def zvB : A → Value → Bool
  | .i k n, .int k' n' => decide (k = k') && decide (n = n')
  | .b v, .bool v' => v == v'
  | .s .., .slice none 0 0 => true
  | .und, .pointer none => true
  | _, _ => false

theorem zvB_ok {a : A} {v : Value} (h : zvB a v = true) : v = zv a := by
  unfold zvB at h
  split at h
  · simp only [Bool.and_eq_true, decide_eq_true_eq] at h; rw [h.1, h.2]; rfl
  · simp only [beq_iff_eq] at h; rw [h]; rfl
  · rfl
  · rfl
  · cases h

def zvL : List A → List Value → Bool
  | [], [] => true
  | a :: as, v :: vs => zvB a v && zvL as vs
  | _, _ => false

theorem zvL_ok : ∀ {as : List A} {vs : List Value}, zvL as vs = true → vs = as.map zv
  | [], [], _ => rfl
  | a :: as, v :: vs, h => by
    simp only [zvL, Bool.and_eq_true] at h
    rw [zvB_ok h.1, zvL_ok h.2]; rfl
  | [], _ :: _, h => by simp [zvL] at h
  | _ :: _, [], h => by simp [zvL] at h

def kindB (P : Program) (ti : TI) (d : TypeDesc) : Bool := match ti.kind, d with
  | .int k, .int k' => decide (k = k') && !ti.agg
  | .bool, .bool => !ti.agg
  | .slice e, .slice e' => decide (e = e') && !ti.agg
  | .struct fs, .struct fields => decide (fs = fields.toList.map fun f => (f.offset, f.type)) && ti.agg && fields.toList.all fun f => match P.info? f.type with
    | some i => decide (i.size ≠ 0)
    | none => false
  | .array n e, .array n' e' => decide (n = n') && decide (e = e') && ti.agg
  | .pointer e, .pointer e' => decide (e = e') && !ti.agg
  | _, _ => false

def tiB (P : Program) (t : Nat) (ti : TI) : Bool := (match P.info? t with
  | some i => decide (i.size = ti.sz) && decide (i.bytes = ti.bytes) && match i.zero with
    | some z => zvL ti.zero z.cells.toList
    | none => false
  | none => false) && decide (ti.zero.length = ti.sz) && ti.zero.all zok && match P.underlying t with
  | some d => kindB P ti d
  | none => false

theorem tiB_ok {P : Program} {t : Nat} {ti : TI} (h : tiB P t ti = true) : TIok P t ti := by
  unfold tiB at h
  simp only [Bool.and_eq_true, decide_eq_true_eq] at h
  obtain ⟨⟨⟨h1, h2⟩, h3⟩, h4⟩ := h
  cases hu : P.underlying t with
  | none => rw [hu] at h4; cases h4
  | some d =>
    rw [hu] at h4
    refine ⟨?_, h2, h3, ⟨d, hu, ?_⟩, ?_⟩
    · split at h1
      · rename_i i hi
        simp only [Bool.and_eq_true, decide_eq_true_eq] at h1
        obtain ⟨⟨e1, e2⟩, e3⟩ := h1
        split at e3
        · rename_i z hz
          exact ⟨i, z, hi, e1, e2, hz, zvL_ok e3⟩
        · cases e3
      · cases h1
    · unfold kindB at h4
      cases hk : ti.kind <;> rw [hk] at h4 <;> cases d <;> simp only [Bool.and_eq_true, decide_eq_true_eq, Bool.not_eq_true', Bool.false_eq_true] at h4 <;> simp [h4]
    · unfold kindB at h4
      cases hk : ti.kind <;> rw [hk] at h4 <;> cases d <;> simp only [Bool.and_eq_true, decide_eq_true_eq, Bool.not_eq_true', Bool.false_eq_true] at h4 <;> try simp [hu, h4]
      intro f hf
      have := List.all_eq_true.1 h4.2 f (by simpa using hf)
      split at this
      · rename_i i hi
        exact ⟨i, hi, by simpa using this⟩
      · cases this

/-- A table of functions. -/
def tabG : List (Nat × FM) → Nat → Option FM
  | [], _ => none
  | (k, m) :: l, f => if f = k then some m else tabG l f

theorem gok_nil {P : Program} : GOk P (tabG []) := fun f fm h => by cases h

theorem gok_model {P : Program} {k : Nat} {M : Model} {l : List (Nat × FM)} (hf : FnOk P k) (hc : Contract P k M) (hl : GOk P (tabG l)) : GOk P (tabG ((k, .model M) :: l)) := by
  intro f fm h
  simp only [tabG] at h
  split at h
  · rename_i e; subst e; cases h; exact ⟨hf, hc⟩
  · exact hl f fm h

theorem gok_alias {P : Program} {k : Nat} {outs : List Out} {l : List (Nat × FM)} (hf : FnOk P k) (hc : AliasOk P k outs) (hl : GOk P (tabG l)) : GOk P (tabG ((k, .alias outs) :: l)) := by
  intro f fm h
  simp only [tabG] at h
  split at h
  · rename_i e; subst e; cases h; exact ⟨hf, hc⟩
  · exact hl f fm h

def fnB (fn : Func) : Bool := !(fn.name == "runtime.NumGoroutine") && !fn.body.isNone
theorem fnOk_of {P : Program} {k : Nat} {fn : Func} (h : P.funcs[k]? = some fn) (hb : fnB fn = true) : FnOk P k := by
  simp only [fnB, Bool.and_eq_true, Bool.not_eq_true'] at hb
  exact ⟨fn, h, hb.1, hb.2⟩

end Go.TM
