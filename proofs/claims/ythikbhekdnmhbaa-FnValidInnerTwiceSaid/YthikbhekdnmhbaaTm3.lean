/- The tree machine, 3: the operations that leave the heap as it is. -/
import Derived.Test.YthikbhekdnmhbaaTm2
namespace Go.TM
set_option linter.unusedVariables false
set_option linter.unusedSimpArgs false

/-- The concrete value of a type's zero cell. -/
def zv : A → Value
  | .i k n => .int k n
  | .b v => .bool v
  | .s .. => .slice none 0 0
  | _ => .pointer none

/-- A zero cell is a number, a bool, a nil slice; or nothing is said of it. -/
def zok : A → Bool
  | .i k n => (Lit.int k n).wf
  | .b _ => true
  | .s true _ 0 [] => true
  | .und => true
  | _ => false

/-- What the table says of a type is so. -/
structure TIok (P : Program) (t : Nat) (ti : TI) : Prop where
  info : ∃ i z, P.info? t = some i ∧ i.size = ti.sz ∧ i.bytes = ti.bytes ∧ i.zero = some z ∧ z.cells.toList = ti.zero.map zv
  zlen : ti.zero.length = ti.sz
  zok : ti.zero.all TM.zok = true
  agg : ∃ d, P.underlying t = some d ∧ ti.agg = (match d with | .struct _ => true | .array _ _ => true | _ => false)
  kind : match ti.kind with
    | .int k => P.underlying t = some (.int k)
    | .bool => P.underlying t = some .bool
    | .slice e => P.underlying t = some (.slice e)
    | .struct fs => ∃ fields, P.underlying t = some (.struct fields) ∧ fs = fields.toList.map (fun f => (f.offset, f.type)) ∧ ∀ f ∈ fields.toList, ∃ i, P.info? f.type = some i ∧ i.size ≠ 0
    | .array n e => P.underlying t = some (.array n e)
    | .pointer e => P.underlying t = some (.pointer e)
    | .other => True

def TabOk (P : Program) (T : Nat → Option TI) : Prop := ∀ t ti, T t = some ti → TIok P t ti

theorem TabOk.slice [Use] {P : Program} {T : Nat → Option TI} (hT : TabOk P T) {t e : Nat} (h : kindOf T t = .slice e) : P.underlying t = some (.slice e) := by
  unfold kindOf at h
  split at h
  · rename_i ti ht
    have := (hT t ti ht).kind
    rw [h] at this
    exact this
  · cases h

theorem TabOk.array [Use] {P : Program} {T : Nat → Option TI} (hT : TabOk P T) {t n e : Nat} (h : kindOf T t = .array n e) : P.underlying t = some (.array n e) := by
  unfold kindOf at h
  split at h
  · rename_i ti ht
    have := (hT t ti ht).kind
    rw [h] at this
    exact this
  · cases h

theorem TabOk.struct [Use] {P : Program} {T : Nat → Option TI} (hT : TabOk P T) {t : Nat} {fs : List (Nat × Nat)} (h : kindOf T t = .struct fs) :
    ∃ fields, P.underlying t = some (.struct fields) ∧ fs = fields.toList.map (fun f => (f.offset, f.type)) ∧ ∀ f ∈ fields.toList, ∃ i, P.info? f.type = some i ∧ i.size ≠ 0 := by
  unfold kindOf at h
  split at h
  · rename_i ti ht
    have := (hT t ti ht).kind
    rw [h] at this
    exact this
  · cases h

/-- The frame's slots hold what the abstract slots say. -/
def Slots [Use] (U : Nat → Prop) (w : World) (L : Lab) (hp : Hp) (sl : Nat → A) (tmps : Array Value) : Prop := ∀ t, Rep U w L hp (sl t) (tmps.getD t undef)

section
variable {P : Program} {T : Nat → Option TI} {U : Nat → Prop} {w : World} {L : Lab} {hp : Hp} {sl : Nat → A} {a : Act}

theorem rep_ofConst [Use] (ty : Nat) (v : Value) : Rep U w L hp (ofConst T ty v) v := by
  unfold ofConst
  split
  · split
    · rename_i n h
      simp only [Rep, Lit.wf, IntKind.min, IntKind.max, IntKind.signed, IntKind.bits]
      refine ⟨trivial, ?_⟩
      simp
      omega
    · simp [Rep]
  · simp [Rep]
  · split
    · split
      · split
        · simp [Rep]
        · simp [Rep]
      · simp [Rep]
    · simp [Rep]
  · simp [Rep]

theorem rep_ev [Use] (h : Slots U w L hp sl a.tmps) (ty : Nat) (x : Operand) : Rep U w L hp (ev T sl ty x) (a.eval x) := by
  cases x with
  | tmp t => exact h t
  | const v => exact rep_ofConst ty v
  | global g => simp [ev, Rep]
  | func f => simp [ev, Rep]

theorem rep_i [Use] {k : IntKind} {n : Int} {u : Value} (h : Rep U w L hp (.i k n) u) : u = .int k n ∧ (Lit.int k n).wf = true := by simpa [Rep] using h
theorem rep_b [Use] {v : Bool} {u : Value} (h : Rep U w L hp (.b v) u) : u = .bool v := by simpa [Rep] using h

theorem wf_wrap [Use] (k : IntKind) (n : Int) : (Lit.int k (k.wrap n)).wf = true := by
  cases k <;> simp [Lit.wf, IntKind.min, IntKind.max, IntKind.wrap, IntKind.signed, IntKind.bits] <;> omega

theorem wf_bd [Use] {k : IntKind} {n : Int} (h : (Lit.int k n).wf = true) : k.min ≤ n ∧ n ≤ k.max := by simpa [Lit.wf] using h

theorem wf_tmod [Use] {k : IntKind} {x y : Int} (h : (Lit.int k x).wf = true) : (Lit.int k (x.tmod y)).wf = true := by
  have hb := wf_bd h
  have h0 : k.min ≤ 0 ∧ 0 ≤ k.max := by cases k <;> decide
  simp only [Lit.wf, Bool.and_eq_true, decide_eq_true_eq]
  rcases Int.le_total 0 x with hx | hx
  · have h1 := Int.tmod_nonneg y hx
    have h2 : x.tmod y ≤ x := by
      have := Int.natAbs_tmod x y
      have h3 : (x.natAbs % y.natAbs) ≤ x.natAbs := Nat.mod_le _ _
      omega
    omega
  · have h1 : x.tmod y ≤ 0 := by
      have := Int.neg_tmod (-x) y
      rw [Int.neg_neg] at this
      rw [this]
      have := Int.tmod_nonneg y (show 0 ≤ -x by omega)
      omega
    have h2 : x ≤ x.tmod y := by
      have := Int.natAbs_tmod x y
      have h3 : (x.natAbs % y.natAbs) ≤ x.natAbs := Nat.mod_le _ _
      omega
    omega

/-- A scalar as a value. -/
def valS : A → Value
  | .i k n => .int k n
  | .b v => .bool v
  | _ => undef

theorem run_binI [Use] (op : BinOp) (t : Nat) {k : IntKind} {x y : Int} {r : A} (hx : (Lit.int k x).wf = true) (h : binI op k x y = some r) (xo yo : Operand) :
    (do eqGuard op t xo yo (.int k x) (.int k y); binOp op t (.int k x) (.int k y) : Sem Value).run P w = .ok (valS r) w ∧ Rep U w L hp r (valS r) := by
  unfold binI at h
  split at h
  case h_4 =>
    split at h
    · cases h
    · rename_i h0
      cases h
      exact ⟨by simp [eqGuard, binOp, Op.intDiv, h0, valS], by simp [Rep, wf_wrap, valS]⟩
  case h_5 =>
    split at h
    · cases h
    · rename_i h0
      cases h
      exact ⟨by simp [eqGuard, binOp, Op.intDiv, h0, valS], by simp [Rep, wf_tmod hx, valS]⟩
  all_goals first
    | (cases h; done)
    | (cases h; exact ⟨by simp [eqGuard, binOp, Op.intArith, Op.intBits, Op.intCmp, valS], by simp [Rep, wf_wrap, valS]⟩)

theorem kindOf_bool [Use] (hT : TabOk P T) {t : Nat} (h : isBoolK (kindOf T t) = true) : P.underlying t = some .bool := by
  unfold kindOf at h
  split at h
  · rename_i ti ht
    have := (hT t ti ht).kind
    revert this h
    cases ti.kind <;> simp [isBoolK]
  · cases h

theorem run_equalIn_bool [Use] (d : Nat) {t : Nat} (x y : Bool) (hu : P.underlying t = some .bool) : (Op.equalIn (d + 1) t (.bool x) (.bool y)).run P w = .ok (x == y) w := by
  simp [Op.equalIn, run_underlying hu]

theorem run_equal_bool [Use] {t : Nat} (x y : Bool) (hu : P.underlying t = some .bool) : (Op.equal t (.bool x) (.bool y)).run P w = .ok (x == y) w :=
  run_equalIn_bool 9999 x y hu

theorem run_binA [Use] (hT : TabOk P T) (op : BinOp) (t : Nat) {x y r : A} {u v : Value} (hx : Rep U w L hp x u) (hy : Rep U w L hp y v) (h : binA (kindOf T t) op x y = some r) (xo yo : Operand) :
    (do eqGuard op t xo yo u v; binOp op t u v : Sem Value).run P w = .ok (valS r) w ∧ Rep U w L hp r (valS r) := by
  unfold binA at h
  split at h
  · split at h
    · rename_i hk
      subst hk
      obtain ⟨rfl, wx⟩ := rep_i hx
      obtain ⟨rfl, wy⟩ := rep_i hy
      exact run_binI op t wx h xo yo
    · cases h
  · split at h
    · rename_i hk
      obtain rfl := rep_b hx
      obtain rfl := rep_b hy
      have hu := kindOf_bool hT hk
      split at h <;> cases h <;> exact ⟨by simp [eqGuard, binOp, run_equal_bool _ _ hu, valS, bne], by simp [Rep, valS]⟩
    · cases h
  · cases h

theorem run_unA [Use] (op : UnOp) {x r : A} {u : Value} (hx : Rep U w L hp x u) (h : unA op x = some r) : (Op.unary op u).run P w = .ok (valS r) w ∧ Rep U w L hp r (valS r) := by
  unfold unA at h
  split at h
  · cases h
    obtain rfl := rep_b hx
    exact ⟨by simp [Op.unary, valS], by simp [Rep, valS]⟩
  · cases h
    obtain ⟨rfl, wx⟩ := rep_i hx
    exact ⟨by simp [Op.unary, Op.intArith, valS], by simp [Rep, valS, wf_wrap]⟩
  · cases h

/-! ### Data that is only read -/

theorem ImmL.get [Use] {Q : Nat → Prop} {b : Nat} : ∀ (cs : List A) (k : Nat), ImmL w Q cs b k → ∀ (j : Nat) (c : A), cs[j]? = some c → ∃ u, w.cell? ⟨b, k + j, none⟩ = some u ∧ u.oneCell' = true ∧ Imm w Q c u
  | [], _, _, j, c, h => by simp at h
  | c0 :: cs, k, ⟨⟨u, h1, h2, h3⟩, _⟩, 0, c, h => by
    simp at h
    subst h
    exact ⟨u, by simpa using h1, h2, h3⟩
  | c0 :: cs, k, ⟨_, hr⟩, j + 1, c, h => by
    have := ImmL.get cs (k + 1) hr j c (by simpa using h)
    rwa [show k + (j + 1) = k + 1 + j from by omega]

theorem ImmL.drop [Use] {Q : Nat → Prop} {b : Nat} : ∀ (n : Nat) (cs : List A) (k : Nat), ImmL w Q cs b k → ImmL w Q (cs.drop n) b (k + n)
  | 0, cs, k, h => by simpa using h
  | n + 1, [], k, h => by simp [ImmL]
  | n + 1, c :: cs, k, ⟨_, hr⟩ => by
    have := ImmL.drop n cs (k + 1) hr
    rw [List.drop_succ_cons]
    rwa [show k + (n + 1) = k + 1 + n from by omega]

theorem ImmL.take [Use] {Q : Nat → Prop} {b : Nat} : ∀ (n : Nat) (cs : List A) (k : Nat), ImmL w Q cs b k → ImmL w Q (cs.take n) b k
  | 0, cs, k, h => by simp [ImmL]
  | n + 1, [], k, h => by simp [ImmL]
  | n + 1, c :: cs, k, ⟨h1, hr⟩ => by
    rw [List.take_succ_cons]
    exact ⟨h1, ImmL.take n cs (k + 1) hr⟩

theorem rep_imm1 [Use] {c : A} {u : Value} (h : Imm w (isProt L) c u) : Rep U w L hp (imm1 c) u := by
  cases c <;> simp_all [Imm, imm1, Rep]

theorem imm_imm1 [Use] {Q : Nat → Prop} {c : A} {u : Value} (h : Imm w Q c u) : Imm w Q (imm1 c) u := by
  cases c <;> simp_all [Imm, imm1]

/-- The values in a row of cells that is only read. -/
theorem ImmL.vals [Use] {Q : Nat → Prop} {b : Nat} : ∀ (cs : List A) (k : Nat), ImmL w Q cs b k → ∃ us : List Value, us.length = cs.length ∧ (∀ (j : Nat) (u : Value), us[j]? = some u → w.cell? ⟨b, k + j, none⟩ = some u ∧ u.oneCell' = true) ∧
    ∀ (j : Nat) (c : A) (u : Value), cs[j]? = some c → us[j]? = some u → Imm w Q c u
  | [], _, _ => ⟨[], rfl, by simp, by simp⟩
  | c :: cs, k, ⟨⟨u, h1, h2, h3⟩, hr⟩ => by
    obtain ⟨us, e1, e2, e3⟩ := ImmL.vals cs (k + 1) hr
    refine ⟨u :: us, by simp [e1], fun j v hv => ?_, fun j c' v hc hv => ?_⟩
    · cases j with
      | zero => simp at hv; subst hv; exact ⟨by simpa using h1, h2⟩
      | succ j =>
        have := e2 j v (by simpa using hv)
        rwa [show k + (j + 1) = k + 1 + j from by omega]
    · cases j with
      | zero => simp at hc hv; subst hc; subst hv; exact h3
      | succ j => exact e3 j c' v (by simpa using hc) (by simpa using hv)

theorem repL_of [Use] {xs : List A} : ∀ {us : List Value}, us.length = xs.length → (∀ (j : Nat) (x : A) (u : Value), xs[j]? = some x → us[j]? = some u → Rep U w L hp x u) → RepL U w L hp xs us := by
  induction xs with
  | nil => intro us hl _; cases us <;> simp_all [RepL]
  | cons x xs ih =>
    intro us hl h
    cases us with
    | nil => simp at hl
    | cons u us =>
      simp only [RepL]
      exact ⟨h 0 x u (by simp) (by simp), ih (by simpa using hl) fun j y v hy hv => h (j + 1) y v (by simpa using hy) (by simpa using hv)⟩

theorem repL_get [Use] {xs : List A} : ∀ {us : List Value}, RepL U w L hp xs us → us.length = xs.length ∧ ∀ (j : Nat) (x : A), xs[j]? = some x → ∃ u, us[j]? = some u ∧ Rep U w L hp x u := by
  induction xs with
  | nil => intro us h; cases us <;> simp_all [RepL]
  | cons x xs ih =>
    intro us h
    cases us with
    | nil => simp [RepL] at h
    | cons u us =>
      simp only [RepL] at h
      obtain ⟨h1, h2⟩ := ih h.2
      refine ⟨by simp [h1], fun j y hy => ?_⟩
      cases j with
      | zero => simp at hy; subst hy; exact ⟨u, by simp, h.1⟩
      | succ j =>
        obtain ⟨v, e1, e2⟩ := h2 j y (by simpa using hy)
        exact ⟨v, by simpa using e1, e2⟩

/-! ### Loads -/

theorem run_isAgg [Use] {t : Nat} {ti : TI} (h : TIok P t ti) : (isAgg t).run P w = .ok ti.agg w := by
  obtain ⟨d, h1, h2⟩ := h.agg
  rw [h2]
  unfold isAgg
  simp only [Sem.run_bind, run_underlying h1, Result.andThen_ok]
  cases d <;> simp

theorem run_sizeOf' [Use] {t : Nat} {ti : TI} (h : TIok P t ti) : (sizeOf t).run P w = .ok ti.sz w := by
  obtain ⟨i, z, h1, h2, _⟩ := h.info
  simp [sizeOf, typeInfo, h1, h2]

theorem add_lit [Use] (b k j : Nat) : (⟨b, k, none⟩ : Addr).add j = ⟨b, k + j, none⟩ := by
  unfold Addr.add
  split <;> simp_all

/-- A load where the cells are known. -/
theorem run_loadVar' [Use] {t : Nat} {ti : TI} (h : TIok P t ti) {b k : Nat} {us : List Value} (hl : us.length = ti.sz) (hc : ∀ (j : Nat) (u : Value), us[j]? = some u → w.cell? ⟨b, k + j, none⟩ = some u)
    {xs : List A} {r : A} (hr : packA ti xs = some r) (hx : RepL U w L hp xs us) : ∃ z, (loadVar t ⟨b, k, none⟩).run P w = .ok z w ∧ Rep U w L hp r z := by
  unfold packA at hr
  split at hr
  · rename_i hxl
    unfold loadVar
    split at hr
    · rename_i hag
      cases hr
      refine ⟨.agg us.toArray, ?_, by simp only [Rep]; exact ⟨_, rfl, by simpa using hx⟩⟩
      have := run_loadCells_list (P := P) w ⟨b, k, none⟩ us (fun j v hv => by rw [add_lit]; exact hc j v hv)
      rw [hl] at this
      simp [run_isAgg h, hag, run_sizeOf' h, this]
    · rename_i hag
      obtain ⟨hlen, hget⟩ := repL_get hx
      obtain ⟨u, e1, e2⟩ := hget 0 r hr
      refine ⟨u, ?_, e2⟩
      have := hc 0 u e1
      simp only [Nat.add_zero] at this
      simp [run_isAgg h, hag, this]
  · cases hr

end
end Go.TM
