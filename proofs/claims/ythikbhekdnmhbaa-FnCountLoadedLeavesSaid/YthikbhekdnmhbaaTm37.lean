/- The tree machine, 37: the arguments of a law, read. -/
import Derived.Test.YthikbhekdnmhbaaTm36
namespace Go.TM
open Go.ChangeShapes Go.WideShapes Go.ChangeAt Go.RowKit
set_option linter.unusedVariables false
set_option linter.unusedSimpArgs false

section
variable {H : Type} {enc : TypeId × Value → H} {P : Program} {w : World} {held : Bool}

/-- What is read at a type is abstract data. -/
def Reads (enc : TypeId × Value → H) (P : Program) (w : World) (held : Bool) (t : Nat) {α : Type} (f : α → List A) (Q : α → Prop) : Prop :=
  ∀ (n : Nat) (cs : List Value) (x : DataW H × List MemPlace), DataW.trod enc P w 0 (fun _ => true) held n t cs = some x → ∃ y, Q y ∧ CellsOk w (f y) cs

def intWf (k : IntKind) (n : Int) : Prop := (Lit.int k n).wf = true

theorem reads_int {t : Nat} {k : IntKind} (hu : P.underlying t = some (.int k)) : Reads enc P w held t (fun n => [A.i k n]) (intWf k) := by
  intro n cs x h
  obtain ⟨v, rfl, rfl, hw⟩ := DataW.trod_int hu h
  refine ⟨v, hw, rfl, fun j a u ha hv => ?_⟩
  cases j with
  | zero => simp at ha hv; subst ha; subst hv; exact ⟨rfl, by simp [Imm, hw]⟩
  | succ j => simp at ha

theorem reads_map {t : Nat} {α β : Type} {f : α → List A} {Q : α → Prop} (h : Reads enc P w held t f Q) (g : α → β) (f' : β → List A) (Q' : β → Prop) (hf : ∀ y, f' (g y) = f y) (hQ : ∀ y, Q y → Q' (g y)) : Reads enc P w held t f' Q' := by
  intro n cs x hx
  obtain ⟨y, h1, h2⟩ := h n cs x hx
  exact ⟨g y, hQ y h1, by rw [hf]; exact h2⟩

theorem reads_slice {t e k : Nat} {α : Type} [Inhabited α] {f : α → List A} {Q : α → Prop} (he : Reads enc P w held e f Q) (hu : P.underlying t = some (.slice e)) (hk : P.cellsOf e = k) (hk0 : 0 < k) (hf : ∀ y, (f y).length = k) :
    Reads enc P w held t (fun ys : List α => [A.s false k ys.length (ys.flatMap f)]) (fun ys => (∀ y ∈ ys, Q y) ∧ ys.length ≤ maxLen) := by
  intro n cs x h
  obtain ⟨ys, h1, h2, h3⟩ := cellsOk_slice hu hk hk0 f hf Q he h
  exact ⟨ys, ⟨h1, h2⟩, h3⟩

theorem cellsOk_append {xs ys : List A} {cs ds : List Value} (h1 : CellsOk w xs cs) (h2 : CellsOk w ys ds) : CellsOk w (xs ++ ys) (cs ++ ds) := by
  refine ⟨by simp [h1.1, h2.1], fun j a v ha hv => ?_⟩
  by_cases hj : j < xs.length
  · rw [List.getElem?_append_left hj] at ha
    rw [List.getElem?_append_left (by rw [← h1.1]; exact hj)] at hv
    exact h1.2 j a v ha hv
  · rw [List.getElem?_append_right (by omega)] at ha
    rw [List.getElem?_append_right (by rw [← h1.1]; omega), ← h1.1] at hv
    exact h2.2 _ a v ha hv

theorem reads_st2 {t t0 t1 : Nat} {α β : Type} {f0 : α → List A} {f1 : β → List A} {Q0 : α → Prop} {Q1 : β → Prop} (r0 : Reads enc P w held t0 f0 Q0) (r1 : Reads enc P w held t1 f1 Q1) {fs : Array Go.Field}
    (hu : P.underlying t = some (.struct fs)) (hfs : fs.toList.map (fun f => (f.offset, f.type)) = [(0, t0), (1, t1)]) (hc : P.cellsOf t = 2) (h0 : P.cellsOf t0 = 1) (h1 : P.cellsOf t1 = 1) :
    Reads enc P w held t (fun x : α × β => f0 x.1 ++ f1 x.2) (fun x => Q0 x.1 ∧ Q1 x.2) := by
  intro n cs x h
  obtain ⟨xs, k, hk, rfl, hcl, hxl, hft⟩ := DataW.trod_struct hu h
  have hsz : fs.size = 2 := by have := congrArg List.length hfs; simpa using this
  have get : ∀ (i : Nat) (o s : Nat), [(0, t0), (1, t1)][i]? = some (o, s) → ∃ y, DataW.trod enc P w 0 (fun _ => true) held k s ((cs.drop o).take (P.cellsOf s)) = some y := by
    intro i o s hi
    rw [← hfs, List.getElem?_map, Option.map_eq_some_iff] at hi
    obtain ⟨f, hf, he⟩ := hi
    rw [Array.getElem?_toList] at hf
    have hlt := (Array.getElem?_eq_some_iff.1 hf).1
    have := hft i f hf
    rw [List.getElem?_eq_getElem (by omega)] at this
    cases he
    exact ⟨_, this⟩
  obtain ⟨y0, g0⟩ := get 0 0 t0 rfl
  obtain ⟨y1, g1⟩ := get 1 1 t1 rfl
  rw [h0] at g0
  rw [h1] at g1
  obtain ⟨a, qa, ca⟩ := r0 _ _ _ g0
  obtain ⟨b, qb, cb⟩ := r1 _ _ _ g1
  refine ⟨(a, b), ⟨qa, qb⟩, ?_⟩
  have := cellsOk_append ca cb
  rw [hc] at hcl
  match cs, hcl with
  | [u, v], _ => simpa using this

theorem reads_st3 {t t0 t1 t2 : Nat} {α β γ : Type} {f0 : α → List A} {f1 : β → List A} {f2 : γ → List A} {Q0 : α → Prop} {Q1 : β → Prop} {Q2 : γ → Prop} (r0 : Reads enc P w held t0 f0 Q0) (r1 : Reads enc P w held t1 f1 Q1) (r2 : Reads enc P w held t2 f2 Q2) {fs : Array Go.Field}
    (hu : P.underlying t = some (.struct fs)) (hfs : fs.toList.map (fun f => (f.offset, f.type)) = [(0, t0), (1, t1), (2, t2)]) (hc : P.cellsOf t = 3) (h0 : P.cellsOf t0 = 1) (h1 : P.cellsOf t1 = 1) (h2 : P.cellsOf t2 = 1) :
    Reads enc P w held t (fun x : α × β × γ => f0 x.1 ++ (f1 x.2.1 ++ f2 x.2.2)) (fun x => Q0 x.1 ∧ Q1 x.2.1 ∧ Q2 x.2.2) := by
  intro n cs x h
  obtain ⟨xs, k, hk, rfl, hcl, hxl, hft⟩ := DataW.trod_struct hu h
  have hsz : fs.size = 3 := by have := congrArg List.length hfs; simpa using this
  have get : ∀ (i : Nat) (o s : Nat), [(0, t0), (1, t1), (2, t2)][i]? = some (o, s) → ∃ y, DataW.trod enc P w 0 (fun _ => true) held k s ((cs.drop o).take (P.cellsOf s)) = some y := by
    intro i o s hi
    rw [← hfs, List.getElem?_map, Option.map_eq_some_iff] at hi
    obtain ⟨f, hf, he⟩ := hi
    rw [Array.getElem?_toList] at hf
    have hlt := (Array.getElem?_eq_some_iff.1 hf).1
    have := hft i f hf
    rw [List.getElem?_eq_getElem (by omega)] at this
    cases he
    exact ⟨_, this⟩
  obtain ⟨y0, g0⟩ := get 0 0 t0 rfl
  obtain ⟨y1, g1⟩ := get 1 1 t1 rfl
  obtain ⟨y2, g2⟩ := get 2 2 t2 rfl
  rw [h0] at g0
  rw [h1] at g1
  rw [h2] at g2
  obtain ⟨a, qa, ca⟩ := r0 _ _ _ g0
  obtain ⟨b, qb, cb⟩ := r1 _ _ _ g1
  obtain ⟨c, qc, cc⟩ := r2 _ _ _ g2
  refine ⟨(a, b, c), ⟨qa, qb, qc⟩, ?_⟩
  have := cellsOk_append ca (cellsOk_append cb cc)
  rw [hc] at hcl
  match cs, hcl with
  | [u, v, x], _ => simpa using this

/-- An argument that lies in one cell. -/
theorem arg_one {t : Nat} {α : Type} {g : α → A} {Q : α → Prop} (r : Reads enc P w held t (fun x => [g x]) Q) (hg : ∀ x xs, g x ≠ .agg xs) {v : Value} (hv : v.cells.toList = [v]) {d : DataW H} {ps : List MemPlace} (h : DataW.Trod enc P w 0 (fun _ => true) held t v d ps) :
    ∃ x, Q x ∧ ArgOk w (g x) v := by
  obtain ⟨n, hn⟩ := h
  rw [hv] at hn
  obtain ⟨x, h1, h2⟩ := r _ _ _ hn
  exact ⟨x, h1, argOk_cell h2 (hg x)⟩

/-- An argument that is a struct. -/
theorem arg_agg {t : Nat} {α : Type} {g : α → List A} {Q : α → Prop} (r : Reads enc P w held t g Q) {us : Array Value} {d : DataW H} {ps : List MemPlace} (h : DataW.Trod enc P w 0 (fun _ => true) held t (.agg us) d ps) :
    ∃ x, Q x ∧ ArgOk w (.agg (g x)) (.agg us) := by
  obtain ⟨n, hn⟩ := h
  obtain ⟨x, h1, h2⟩ := r _ _ _ hn
  exact ⟨x, h1, us, rfl, h2⟩

theorem cells_int {t : Nat} {k : IntKind} {v : Value} {base : Nat} (hu : P.underlying t = some (.int k)) (h : Value.okWide P w .any base t v) : v.cells.toList = [v] := by
  simp only [Value.okWide, hu, Cell.okWide] at h
  cases v <;> simp_all [Cell.ok, Value.cells]
theorem cells_slice {t e : Nat} {v : Value} {base : Nat} (hu : P.underlying t = some (.slice e)) (h : Value.okWide P w .any base t v) : v.cells.toList = [v] := by
  obtain ⟨a, l, c, rfl⟩ := okWide_slice hu h
  rfl
theorem cells_struct {t : Nat} {fs : Array Go.Field} {v : Value} {base : Nat} (hu : P.underlying t = some (.struct fs)) (h : Value.okWide P w .any base t v) : ∃ us, v = .agg us := by
  simp only [Value.okWide, hu] at h
  cases v <;> simp_all

theorem flat1 {α : Type} (f : α → A) (xs : List α) : xs.flatMap (fun x => [f x]) = xs.map f := by
  induction xs with
  | nil => rfl
  | cons x xs ih => rw [List.flatMap_cons, ih]; rfl
end
end Go.TM
