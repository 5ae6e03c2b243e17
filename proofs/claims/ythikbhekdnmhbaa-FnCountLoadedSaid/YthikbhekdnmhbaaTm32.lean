/- The tree machine, 32: what each operation comes to, as rules for rewriting. -/
import Derived.Test.YthikbhekdnmhbaaTm31
namespace Go.TM
set_option linter.unusedVariables false
set_option linter.unusedSimpArgs false

/-- What is only done under a condition. -/
def gi {α : Type} (p : Prop) [Decidable p] (x : Option α) : Option α := if p then x else none
theorem gi_pos {α : Type} {p : Prop} [Decidable p] (h : p) (x : Option α) : gi p x = x := if_pos h
theorem gi_true {α : Type} [Decidable True] (x : Option α) : gi True x = x := if_pos trivial

def tiInt : TI := ⟨.int .i64, false, 1, 8, [.i .i64 0]⟩
def tiBool : TI := ⟨.bool, false, 1, 1, [.b false]⟩
def tiSl (e sz : Nat) : TI := ⟨.slice e, false, 1, 24, [.s true sz 0 []]⟩
def tiSt (fs : List (Nat × Nat)) (sz bytes : Nat) (z : List A) : TI := ⟨.struct fs, true, sz, bytes, z⟩
def tiAr (n e sz bytes : Nat) (z : List A) : TI := ⟨.array n e, true, sz, bytes, z⟩

theorem tiInt_z : tiInt.zero = [eI 0] := rfl
theorem tiInt_s : tiInt.sz = 1 := rfl
theorem tiInt_b : tiInt.bytes = 8 := rfl
theorem tiBool_z : tiBool.zero = [.b false] := rfl
theorem tiBool_s : tiBool.sz = 1 := rfl
theorem tiSl_z (e sz : Nat) : (tiSl e sz).zero = [.s true sz 0 []] := rfl
theorem tiSl_s (e sz : Nat) : (tiSl e sz).sz = 1 := rfl
theorem tiSl_b (e sz : Nat) : (tiSl e sz).bytes = 24 := rfl
theorem tiSt_z (fs : List (Nat × Nat)) (sz bytes : Nat) (z : List A) : (tiSt fs sz bytes z).zero = z := rfl
theorem tiSt_s (fs : List (Nat × Nat)) (sz bytes : Nat) (z : List A) : (tiSt fs sz bytes z).sz = sz := rfl
theorem tiSt_b (fs : List (Nat × Nat)) (sz bytes : Nat) (z : List A) : (tiSt fs sz bytes z).bytes = bytes := rfl
theorem tiAr_z (n e sz bytes : Nat) (z : List A) : (tiAr n e sz bytes z).zero = z := rfl
theorem tiAr_s (n e sz bytes : Nat) (z : List A) : (tiAr n e sz bytes z).sz = sz := rfl
theorem tiInt_k : tiInt.kind = .int .i64 := rfl
theorem tiBool_k : tiBool.kind = .bool := rfl
theorem tiSl_k (e sz : Nat) : (tiSl e sz).kind = .slice e := rfl
theorem tiSt_k (fs : List (Nat × Nat)) (sz bytes : Nat) (z : List A) : (tiSt fs sz bytes z).kind = .struct fs := rfl
theorem tiAr_k (n e sz bytes : Nat) (z : List A) : (tiAr n e sz bytes z).kind = .array n e := rfl
theorem tiInt_f : flatTI tiInt = true := rfl
theorem tiBool_f : flatTI tiBool = true := rfl
theorem tiSl_f (e sz : Nat) : flatTI (tiSl e sz) = false := rfl
theorem tiSt_f (fs : List (Nat × Nat)) (sz bytes : Nat) (z : List A) : flatTI (tiSt fs sz bytes z) = z.all isScalar := rfl

/-! ### The heap -/

theorem updH_eq (f : Hp) (a b : Nat) (v : Option Root) : upd f (a, b) v (a, b) = v := by simp [upd]
theorem updH_ne (f : Hp) {a b c d : Nat} (v : Option Root) (h : ¬ (a = c ∧ b = d)) : upd f (c, d) v (a, b) = f (a, b) := by
  simp only [upd, Prod.mk.injEq]
  rw [if_neg h]

def nd0 : Option Root → Option (Nat × Nat × List A)
  | some ⟨a, b, cs, _⟩ => some (a, b, cs)
  | none => none
def ndc : Option A → Option (Nat × Nat × List A)
  | some (.s true a b cs) => some (a, b, cs)
  | _ => none
def nd1 : Option Root → Nat → Nat → Option (Nat × Nat × List A)
  | some ⟨_, _, cs, v⟩, c, ver => gi (v c = ver) (ndc cs[c]?)
  | none, _, _ => none
theorem node_0 (hp : Hp) (id : Id) (ver : Nat) : node hp id [] ver = nd0 (hp id) := by
  unfold node nd0
  cases hp id <;> simp [verOk, getP]
theorem node_1 (hp : Hp) (id : Id) (c ver : Nat) : node hp id [c] ver = nd1 (hp id) c ver := by
  unfold node nd1
  cases hp id with
  | none => rfl
  | some r =>
    simp only [verOk, beq_iff_eq, gi]
    split
    · simp only [getP, ndc]
      split <;> rename_i h <;> simp_all
    · rfl
theorem nd0_some (a b : Nat) (cs : List A) (v : Nat → Nat) : nd0 (some ⟨a, b, cs, v⟩) = some (a, b, cs) := rfl
theorem nd1_some (a b : Nat) (cs : List A) (v : Nat → Nat) (c ver : Nat) : nd1 (some ⟨a, b, cs, v⟩) c ver = gi (v c = ver) (ndc cs[c]?) := rfl
theorem ndc_some (a b : Nat) (cs : List A) : ndc (some (.s true a b cs)) = some (a, b, cs) := rfl

/-! ### Reading -/

section
variable {T : Nat → Option TI} {G : Nat → Option FM} {hp : Hp} {m ty : Nat} {sl : Nat → A}

theorem e_move (x : Operand) : eff T G m ty (.move x) sl hp = some (.pure (ev T sl ty x)) := rfl
theorem e_assign (x : Operand) : eff T G m ty (.assign x) sl hp = some (.pure (ev T sl ty x)) := rfl
def pickA : A → A → A → Option Eff
  | .b true, x, _ => some (.pure x)
  | .b false, _, y => some (.pure y)
  | _, _, _ => none
theorem e_pick (c a b : Operand) : eff T G m ty (.pick c a b) sl hp = pickA (ev T sl 0 c) (ev T sl ty a) (ev T sl ty b) := by
  simp only [eff]
  cases ev T sl 0 c with
  | b v => cases v <;> rfl
  | _ => rfl
theorem pick_t (x y : A) : pickA (.b true) x y = some (.pure x) := rfl
theorem pick_f (x y : A) : pickA (.b false) x y = some (.pure y) := rfl

def len1 : A → Option Eff
  | .s _ _ n _ => some (.pure (.i .i64 n))
  | .ref _ _ _ _ _ n => some (.pure (.i .i64 n))
  | _ => none
def lenK : K → A → Option Eff
  | .slice _, x => len1 x
  | _, _ => none
theorem e_len (x : Operand) (t : Nat) : eff T G m ty (.call ⟨.builtin .len, #[x], #[t]⟩) sl hp = lenK (kindOf T t) (ev T sl 0 x) := by
  simp only [eff, lenK, len1]
  simp only [List.getElem?_toArray, List.getElem?_cons_zero, Option.map_some]
  cases kindOf T t <;> first | rfl | (cases ev T sl 0 x <;> rfl)
theorem lenK_s (e : Nat) (x : A) : lenK (.slice e) x = len1 x := rfl
theorem len1_s (o : Bool) (sz n : Nat) (cs : List A) : len1 (.s o sz n cs) = some (.pure (.i .i64 n)) := rfl
theorem len1_r (id : Id) (p : List Nat) (v f sz n : Nat) : len1 (.ref id p v f sz n) = some (.pure (.i .i64 n)) := rfl

def max2 : A → A → Option Eff
  | .i .i64 a, .i .i64 b => some (.pure (.i .i64 (if b > a then b else a)))
  | _, _ => none
theorem e_max (x y : Operand) (ts : Array Nat) : eff T G m ty (.call ⟨.builtin .max, #[x, y], ts⟩) sl hp = max2 (ev T sl 0 x) (ev T sl 0 y) := rfl
theorem max2_i (a b : Int) : max2 (.i .i64 a) (.i .i64 b) = some (.pure (.i .i64 (if b > a then b else a))) := rfl

def bop (k : K) (op : BinOp) (x y : A) : Option Eff := (binA k op x y).map Eff.pure
theorem e_binOp (op : BinOp) (t t' : Nat) (x y : Operand) : eff T G m ty (.binOp op t x y t') sl hp = bop (kindOf T t) op (ev T sl 0 x) (ev T sl 0 y) := rfl
theorem bop_add (kd : K) (x y : Int) : bop kd .add (.i .i64 x) (.i .i64 y) = some (.pure (.i .i64 (IntKind.i64.wrap (x + y)))) := by simp [bop, binA, binI]
theorem bop_sub (kd : K) (x y : Int) : bop kd .sub (.i .i64 x) (.i .i64 y) = some (.pure (.i .i64 (IntKind.i64.wrap (x - y)))) := by simp [bop, binA, binI]
theorem bop_mul (kd : K) (x y : Int) : bop kd .mul (.i .i64 x) (.i .i64 y) = some (.pure (.i .i64 (IntKind.i64.wrap (x * y)))) := by simp [bop, binA, binI]
theorem bop_quo (kd : K) (x y : Int) : bop kd .quo (.i .i64 x) (.i .i64 y) = gi (y ≠ 0) (some (.pure (.i .i64 (IntKind.i64.wrap (x.tdiv y))))) := by
  by_cases h : y = 0 <;> simp [bop, binA, binI, gi, h]
theorem bop_rem (kd : K) (x y : Int) : bop kd .rem (.i .i64 x) (.i .i64 y) = gi (y ≠ 0) (some (.pure (.i .i64 (x.tmod y)))) := by
  by_cases h : y = 0 <;> simp [bop, binA, binI, gi, h]
theorem bop_eql (kd : K) (x y : Int) : bop kd .eql (.i .i64 x) (.i .i64 y) = some (.pure (.b (decide (x = y)))) := by simp [bop, binA, binI]; rfl
theorem bop_neq (kd : K) (x y : Int) : bop kd .neq (.i .i64 x) (.i .i64 y) = some (.pure (.b (!decide (x = y)))) := by simp [bop, binA, binI, bne]; rfl
theorem bop_lss (kd : K) (x y : Int) : bop kd .lss (.i .i64 x) (.i .i64 y) = some (.pure (.b (decide (x < y)))) := by simp [bop, binA, binI]
theorem bop_leq (kd : K) (x y : Int) : bop kd .leq (.i .i64 x) (.i .i64 y) = some (.pure (.b (decide (x ≤ y)))) := by simp [bop, binA, binI]
theorem bop_gtr (kd : K) (x y : Int) : bop kd .gtr (.i .i64 x) (.i .i64 y) = some (.pure (.b (decide (y < x)))) := by simp [bop, binA, binI]
theorem bop_geq (kd : K) (x y : Int) : bop kd .geq (.i .i64 x) (.i .i64 y) = some (.pure (.b (decide (y ≤ x)))) := by simp [bop, binA, binI]
theorem bop_eqlb (x y : Bool) : bop .bool .eql (.b x) (.b y) = some (.pure (.b (x == y))) := rfl
theorem bop_neqb (x y : Bool) : bop .bool .neq (.b x) (.b y) = some (.pure (.b (x != y))) := rfl

def uop (op : UnOp) (x : A) : Option Eff := (unA op x).map Eff.pure
theorem e_unOp (op : UnOp) (t : Nat) (x : Operand) : eff T G m ty (.unOp op t x) sl hp = uop op (ev T sl 0 x) := rfl
theorem uop_not (v : Bool) : uop .not (.b v) = some (.pure (.b (!v))) := rfl
theorem uop_neg (n : Int) : uop .neg (.i .i64 n) = some (.pure (.i .i64 (IntKind.i64.wrap (0 - n)))) := rfl

def cvt : K → K → A → Option Eff
  | .int _, .int k, .i _ n => some (.pure (.i k (k.wrap n)))
  | _, _, _ => none
theorem e_convert (s d : Nat) (x : Operand) : eff T G m ty (.convert s d x) sl hp = cvt (kindOf T s) (kindOf T d) (ev T sl 0 x) := by
  simp only [eff, cvt]
  cases kindOf T s <;> cases kindOf T d <;> first | rfl | (cases ev T sl 0 x <;> rfl)
theorem cvt_i (k k' k2 : IntKind) (n : Int) : cvt (.int k) (.int k2) (.i k' n) = some (.pure (.i k2 (k2.wrap n))) := rfl

def exA : A → Nat → Option Eff
  | .tup xs, i => (xs[i]?).map Eff.pure
  | _, _ => none
theorem e_extract (x : Operand) (i : Nat) : eff T G m ty (.extract x i) sl hp = exA (ev T sl 0 x) i := by
  simp only [eff, exA]
  cases ev T sl 0 x <;> rfl
theorem exA_t (xs : List A) (i : Nat) : exA (.tup xs) i = (xs[i]?).map Eff.pure := rfl

def adr (n : Option (Nat × Nat × List A)) (id : Id) (p : List Nat) (v o : Nat) : Option Eff := match n with
  | some _ => some ⟨.ptr id p v o, [], [id]⟩
  | none => none
theorem adr_s (x : Nat × Nat × List A) (id : Id) (p : List Nat) (v o : Nat) : adr (some x) id p v o = some ⟨.ptr id p v o, [], [id]⟩ := rfl

def nilA (hp : Hp) : A → Option Eff
  | .ptr id p v o => adr (node hp id p v) id p v o
  | .ep cs => some (.pure (.ep cs))
  | _ => none
theorem e_nilCheck (x : Operand) : eff T G m ty (.nilCheck x) sl hp = nilA hp (ev T sl 0 x) := by
  simp only [eff, nilA, adr]
  cases ev T sl 0 x <;> rfl
theorem nilA_p (id : Id) (p : List Nat) (v o : Nat) : nilA hp (.ptr id p v o) = adr (node hp id p v) id p v o := rfl
theorem nilA_e (cs : List A) : nilA hp (.ep cs) = some (.pure (.ep cs)) := rfl

def fldA (hp : Hp) : K → A → Nat → Option Eff
  | .struct fs, x, f => match fs[f]? with
    | some (off, _) => (match x with
      | .ptr id p v o => adr (node hp id p v) id p v (o + off)
      | .ep cs => some (.pure (.ep (cs.drop off)))
      | _ => none)
    | none => none
  | _, _, _ => none
theorem e_fieldAddr (s f : Nat) (x : Operand) : eff T G m ty (.fieldAddr s x f) sl hp = fldA hp (kindOf T s) (ev T sl 0 x) f := by
  simp only [eff, fldA, adr]
  cases kindOf T s with
  | struct fs =>
    simp only
    cases fs[f]? with
    | none => simp
    | some y => cases ev T sl 0 x <;> rfl
  | _ => rfl
def fldP (hp : Hp) : Option (Nat × Nat) → A → Option Eff
  | some (off, _), .ptr id p v o => adr (node hp id p v) id p v (o + off)
  | some (off, _), .ep cs => some (.pure (.ep (cs.drop off)))
  | _, _ => none
theorem fldA_s (fs : List (Nat × Nat)) (x : A) (f : Nat) : fldA hp (.struct fs) x f = fldP hp fs[f]? x := by
  simp only [fldA, fldP]
  cases fs[f]? <;> first | rfl | (cases x <;> rfl)
theorem fldP_p (off t : Nat) (id : Id) (p : List Nat) (v o : Nat) : fldP hp (some (off, t)) (.ptr id p v o) = adr (node hp id p v) id p v (o + off) := rfl
theorem fldP_e (off t : Nat) (cs : List A) : fldP hp (some (off, t)) (.ep cs) = some (.pure (.ep (cs.drop off))) := rfl

/-- A field of a value. -/
def fvA : K → A → Nat → (Nat → Option TI) → Option Eff
  | .struct fs, .agg xs, f, T => match fs[f]? with
    | some (off, ft) => match T ft with
      | some ti => (packA ti (rng xs off ti.sz)).map Eff.pure
      | none => none
    | none => none
  | _, _, _, _ => none
theorem e_field (s f : Nat) (x : Operand) : eff T G m ty (.field s x f) sl hp = fvA (kindOf T s) (ev T sl 0 x) f T := by
  simp only [eff, fvA]
  cases kindOf T s <;> first | rfl | (cases ev T sl 0 x <;> rfl)
def fvP (T : Nat → Option TI) (xs : List A) : Option (Nat × Nat) → Option Eff
  | some (off, ft) => match T ft with
    | some ti => (packA ti (rng xs off ti.sz)).map Eff.pure
    | none => none
  | none => none
theorem fvA_s (fs : List (Nat × Nat)) (xs : List A) (f : Nat) : fvA (.struct fs) (.agg xs) f T = fvP T xs fs[f]? := by
  simp only [fvA, fvP]
def fvT (xs : List A) (off : Nat) : Option TI → Option Eff
  | some ti => (packA ti (rng xs off ti.sz)).map Eff.pure
  | none => none
theorem fvP_s (xs : List A) (off ft : Nat) : fvP T xs (some (off, ft)) = fvT xs off (T ft) := by
  simp only [fvP, fvT]
def cell1 : Option A → Option Eff
  | some c => some (.pure c)
  | none => none
theorem cell1_s (c : A) : cell1 (some c) = some (.pure c) := rfl
theorem rng_1 (xs : List A) (off : Nat) : rng xs off 1 = (xs[off]?).toList := by
  unfold rng
  cases h : xs.drop off with
  | nil =>
    have := List.drop_eq_nil_iff.1 h
    rw [List.getElem?_eq_none this]; simp
  | cons c cs =>
    have : xs[off]? = some c := by
      have := List.getElem?_drop (xs := xs) (i := off) (j := 0)
      rw [h] at this; simpa using this.symm
    rw [this]; simp
theorem pack1 {ti : TI} (h1 : ti.sz = 1) (h2 : ti.agg = false) (xs : List A) (off : Nat) : (packA ti (rng xs off 1)).map Eff.pure = cell1 xs[off]? := by
  rw [rng_1]
  cases xs[off]? <;> simp [packA, h1, h2, cell1]
theorem fvT_i (xs : List A) (off : Nat) : fvT xs off (some tiInt) = cell1 xs[off]? := pack1 rfl rfl xs off
theorem fvT_b (xs : List A) (off : Nat) : fvT xs off (some tiBool) = cell1 xs[off]? := pack1 rfl rfl xs off
theorem fvT_s (xs : List A) (off e sz : Nat) : fvT xs off (some (tiSl e sz)) = cell1 xs[off]? := pack1 (ti := tiSl e sz) rfl rfl xs off

def aggN (sz : Nat) (xs : List A) : Option Eff := if xs.length = sz then some (.pure (.agg xs)) else none
theorem fvT_st (xs : List A) (off : Nat) (fs : List (Nat × Nat)) (sz bytes : Nat) (z : List A) : fvT xs off (some (tiSt fs sz bytes z)) = aggN sz (rng xs off sz) := by
  simp only [fvT, packA, aggN, tiSt]
  split <;> rfl

/-! Addresses of elements. -/
def ixA (hp : Hp) (T : Nat → Option TI) : K → A → A → Option Eff := fun k x ix => indexAddrA T k hp x ix
theorem e_indexAddr (t : Nat) (x ix : Operand) : eff T G m ty (.indexAddr t x ix) sl hp = ixA hp T (kindOf T t) (ev T sl 0 x) (ev T sl 0 ix) := rfl
def ixS (sz len : Nat) (cs : List A) (n : Int) : Option Nat → Option Eff
  | some s => gi (s = sz ∧ 0 < sz ∧ 0 ≤ n ∧ n < len) (some (.pure (.ep (cs.drop (n.toNat * sz)))))
  | none => none
theorem ixA_s (e : Nat) (o : Bool) (sz len : Nat) (cs : List A) (n : Int) : ixA hp T (.slice e) (.s o sz len cs) (.i .i64 n) = ixS sz len cs n (szOf T e) := by
  simp only [ixA, indexAddrA, ixS, gi]
  cases szOf T e with
  | none => simp
  | some s =>
    simp only [Option.some.injEq]
    by_cases h : s = sz ∧ 0 < sz ∧ 0 ≤ n ∧ n < len
    · rw [if_pos h, if_pos ⟨h.2.1, h.1, h.2.2⟩]
    · rw [if_neg h, if_neg fun hh => h ⟨hh.2.1, hh.1, hh.2.2⟩]
theorem ixS_s (s sz len : Nat) (cs : List A) (n : Int) : ixS sz len cs n (some s) = gi (s = sz ∧ 0 < sz ∧ 0 ≤ n ∧ n < len) (some (.pure (.ep (cs.drop (n.toNat * sz))))) := rfl
def ixR (id : Id) (p : List Nat) (v off sz len : Nat) (n : Int) : Option (Nat × Nat × List A) → Option Nat → Option Eff
  | some _, some s => gi (s = sz ∧ 0 ≤ n ∧ n < len) (some ⟨.ptr id p v (off + n.toNat * sz), [], [id]⟩)
  | _, _ => none
theorem ixA_r (e : Nat) (id : Id) (p : List Nat) (v off sz len : Nat) (n : Int) : ixA hp T (.slice e) (.ref id p v off sz len) (.i .i64 n) = ixR id p v off sz len n (node hp id p v) (szOf T e) := by
  simp only [ixA, indexAddrA, ixR, gi]
  cases node hp id p v with
  | none => rfl
  | some x =>
    cases szOf T e with
    | none => simp
    | some s => simp only [Option.some.injEq]
theorem ixR_s (id : Id) (p : List Nat) (v off sz len s : Nat) (n : Int) (x : Nat × Nat × List A) : ixR id p v off sz len n (some x) (some s) = gi (s = sz ∧ 0 ≤ n ∧ n < len) (some ⟨.ptr id p v (off + n.toNat * sz), [], [id]⟩) := rfl
def ixP (id : Id) (p : List Nat) (v off cnt : Nat) (n : Int) : Option (Nat × Nat × List A) → Option Nat → Option Eff
  | some _, some s => gi (0 ≤ n ∧ n < cnt) (some ⟨.ptr id p v (off + n.toNat * s), [], [id]⟩)
  | _, _ => none
theorem ixA_p (cnt e : Nat) (id : Id) (p : List Nat) (v off : Nat) (n : Int) : ixA hp T (.array cnt e) (.ptr id p v off) (.i .i64 n) = ixP id p v off cnt n (node hp id p v) (szOf T e) := by
  simp only [ixA, indexAddrA, ixP, gi, szOf]
  cases T e with
  | none => simp
  | some ti =>
    simp only [Option.map_some]
    cases node hp id p v <;> rfl
theorem ixP_s (id : Id) (p : List Nat) (v off cnt s : Nat) (n : Int) (x : Nat × Nat × List A) : ixP id p v off cnt n (some x) (some s) = gi (0 ≤ n ∧ n < cnt) (some ⟨.ptr id p v (off + n.toNat * s), [], [id]⟩) := rfl

/-! Loads. -/
def ldT (hp : Hp) (x : A) : Option TI → Option Eff
  | some ti => loadA ti hp x
  | none => none
theorem e_load (t : Nat) (a : Operand) : eff T G m ty (.load t a) sl hp = ldT hp (ev T sl 0 a) (T t) := by
  simp only [eff, ldT]
  cases T t <;> rfl
def ldE : Option A → Option Eff
  | some c => some (.pure (imm1 c))
  | none => none
theorem ldE_s (c : A) : ldE (some c) = some (.pure (imm1 c)) := rfl
theorem ld1 {ti : TI} (h1 : ti.sz = 1) (h2 : ti.agg = false) (cs : List A) : loadA ti hp (.ep cs) = ldE cs[0]? := by
  cases cs with
  | nil => simp [loadA, h1, ldE]
  | cons c cs => simp [loadA, h1, packA, h2, ldE]
theorem ldT_ei (cs : List A) : ldT hp (.ep cs) (some tiInt) = ldE cs[0]? := ld1 (hp := hp) rfl rfl cs
theorem ldT_eb (cs : List A) : ldT hp (.ep cs) (some tiBool) = ldE cs[0]? := ld1 (hp := hp) rfl rfl cs
theorem ldT_es (cs : List A) (e sz : Nat) : ldT hp (.ep cs) (some (tiSl e sz)) = ldE cs[0]? := ld1 (hp := hp) (ti := tiSl e sz) rfl rfl cs
theorem ldT_est (cs : List A) (fs : List (Nat × Nat)) (sz bytes : Nat) (z : List A) : ldT hp (.ep cs) (some (tiSt fs sz bytes z)) = gi (0 < sz) (aggN sz ((rng cs 0 sz).map imm1)) := by
  simp only [ldT, loadA, tiSt, packA, aggN, gi, rng, List.drop_zero]
  by_cases h : 0 < sz
  · rw [if_pos h]
    by_cases h2 : sz ≤ cs.length
    · rw [if_pos ⟨h, h2⟩]
      simp
    · rw [if_neg fun hh => h2 hh.2, if_neg (by simp; omega)]
  · rw [if_neg fun hh => h hh.1, if_neg h]
def ldP (id : Id) (p : List Nat) (v off : Nat) : Option (Nat × Nat × List A) → Option Root → Option Eff
  | some (a, b, cs), some r => gi (off + 1 ≤ b * a) ((cs[off]?).map fun c => ⟨view r id p v off c, [], [id]⟩)
  | _, _ => none
theorem viewL_1 (r : Root) (id : Id) (p : List Nat) (v k : Nat) (o : Option A) : viewL r id p v k o.toList = (o.map (view r id p v k)).toList := by
  cases o <;> rfl
theorem ld1p {ti : TI} (h1 : ti.sz = 1) (h2 : ti.agg = false) (id : Id) (p : List Nat) (v off : Nat) : loadA ti hp (.ptr id p v off) = ldP id p v off (node hp id p v) (hp id) := by
  simp only [loadA, ldP, h1]
  cases node hp id p v with
  | none => rfl
  | some x =>
    obtain ⟨a, b, cs⟩ := x
    cases hp id with
    | none => rfl
    | some r =>
      simp only [gi, rng_1, viewL_1]
      by_cases h : off + 1 ≤ b * a
      · rw [if_pos ⟨by omega, h⟩, if_pos h]
        cases cs[off]? <;> simp [packA, h1, h2]
      · rw [if_neg fun hh => h hh.2, if_neg h]
theorem ldT_pi (id : Id) (p : List Nat) (v off : Nat) : ldT hp (.ptr id p v off) (some tiInt) = ldP id p v off (node hp id p v) (hp id) := ld1p rfl rfl id p v off
theorem ldT_pb (id : Id) (p : List Nat) (v off : Nat) : ldT hp (.ptr id p v off) (some tiBool) = ldP id p v off (node hp id p v) (hp id) := ld1p rfl rfl id p v off
theorem ldT_ps (id : Id) (p : List Nat) (v off e sz : Nat) : ldT hp (.ptr id p v off) (some (tiSl e sz)) = ldP id p v off (node hp id p v) (hp id) := ld1p (ti := tiSl e sz) rfl rfl id p v off
theorem ldP_s (id : Id) (p : List Nat) (v off a b : Nat) (cs : List A) (r : Root) : ldP id p v off (some (a, b, cs)) (some r) = gi (off + 1 ≤ b * a) ((cs[off]?).map fun c => ⟨view r id p v off c, [], [id]⟩) := rfl
def ldPS (sz : Nat) (id : Id) (p : List Nat) (v off : Nat) : Option (Nat × Nat × List A) → Option Root → Option Eff
  | some (a, b, cs), some r => gi (0 < sz ∧ off + sz ≤ b * a) (if (viewL r id p v off (rng cs off sz)).length = sz then some ⟨.agg (viewL r id p v off (rng cs off sz)), [], [id]⟩ else none)
  | _, _ => none
theorem ldT_pst (id : Id) (p : List Nat) (v off : Nat) (fs : List (Nat × Nat)) (sz bytes : Nat) (z : List A) : ldT hp (.ptr id p v off) (some (tiSt fs sz bytes z)) = ldPS sz id p v off (node hp id p v) (hp id) := by
  simp only [ldT, loadA, ldPS, tiSt, packA, gi]
  cases node hp id p v with
  | none => rfl
  | some x =>
    obtain ⟨a, b, cs⟩ := x
    cases hp id with
    | none => rfl
    | some r =>
      simp only
      split
      · split <;> rfl
      · rfl
theorem ldPS_s (sz : Nat) (id : Id) (p : List Nat) (v off a b : Nat) (cs : List A) (r : Root) : ldPS sz id p v off (some (a, b, cs)) (some r) =
    gi (0 < sz ∧ off + sz ≤ b * a) (if (viewL r id p v off (rng cs off sz)).length = sz then some ⟨.agg (viewL r id p v off (rng cs off sz)), [], [id]⟩ else none) := rfl

theorem view_i (r : Root) (id : Id) (p : List Nat) (v k : Nat) (kd : IntKind) (n : Int) : view r id p v k (.i kd n) = .i kd n := rfl
theorem view_b (r : Root) (id : Id) (p : List Nat) (v k : Nat) (x : Bool) : view r id p v k (.b x) = .b x := rfl
theorem view_f (r : Root) (id : Id) (p : List Nat) (v k sz len : Nat) (cs : List A) : view r id p v k (.s false sz len cs) = .s false sz len cs := rfl
theorem view_t0 (a b : Nat) (xs : List A) (ve : Nat → Nat) (id : Id) (v k sz len : Nat) (cs : List A) : view ⟨a, b, xs, ve⟩ id [] v k (.s true sz len cs) = .ref id [k] (ve k) 0 sz len := rfl
theorem view_t1 (r : Root) (id : Id) (c v k sz len : Nat) (cs : List A) : view r id [c] v k (.s true sz len cs) = .ref id [c, k] v 0 sz len := rfl
theorem viewL_n (r : Root) (id : Id) (p : List Nat) (v k : Nat) : viewL r id p v k [] = [] := rfl
theorem viewL_c (r : Root) (id : Id) (p : List Nat) (v k : Nat) (c : A) (cs : List A) : viewL r id p v k (c :: cs) = view r id p v k c :: viewL r id p v (k + 1) cs := rfl
theorem imm1_i (kd : IntKind) (n : Int) : imm1 (.i kd n) = .i kd n := rfl
theorem imm1_b (x : Bool) : imm1 (.b x) = .b x := rfl
theorem imm1_s (o : Bool) (sz len : Nat) (cs : List A) : imm1 (.s o sz len cs) = .s false sz len cs := rfl
theorem immV_a (xs : List A) : immV (.agg xs) = .agg (xs.map imm1) := rfl
theorem immV_i (kd : IntKind) (n : Int) : immV (.i kd n) = .i kd n := rfl
theorem immV_b (x : Bool) : immV (.b x) = .b x := rfl
theorem immV_s (o : Bool) (sz len : Nat) (cs : List A) : immV (.s o sz len cs) = .s false sz len cs := rfl
theorem aggN_l (sz : Nat) (xs : List A) : aggN sz xs = if xs.length = sz then some (.pure (.agg xs)) else none := rfl
theorem rng_s (c : A) (cs : List A) (k n : Nat) : rng (c :: cs) (k + 1) n = rng cs k n := rfl
theorem rng_z (c : A) (cs : List A) (n : Nat) : rng (c :: cs) 0 (n + 1) = c :: rng cs 0 n := rfl
theorem rng_e (cs : List A) (k : Nat) : rng cs k 0 = [] := by simp [rng]
theorem rng_d (cs : List A) (a k n : Nat) : rng (cs.drop a) k n = rng cs (a + k) n := by simp [rng, List.drop_drop]

/-! Slices of slices. -/
def bnd (d : Nat) : Option A → Option Nat
  | none => some d
  | some (.i .i64 n) => gi (0 ≤ n) (some n.toNat)
  | _ => none
theorem boundA_eq (d : Nat) (x : Option A) : boundA d x = bnd d x := by
  cases x with
  | none => rfl
  | some v =>
    cases v with
    | i k n => cases k <;> rfl
    | _ => rfl
theorem bnd_n (d : Nat) : bnd d none = some d := rfl
theorem bnd_i (d : Nat) (n : Int) : bnd d (some (.i .i64 n)) = gi (0 ≤ n) (some n.toNat) := rfl
def slI (sz : Nat) (cs : List A) (len : Nat) : Option Nat → Option Nat → Option Nat → Option Eff
  | some s, some l, some h => gi (s = sz ∧ l ≤ h ∧ h ≤ len) (some (.pure (.s false sz (h - l) (rng cs (l * sz) ((h - l) * sz)))))
  | _, _, _ => none
def slR (id : Id) (p : List Nat) (v off sz len : Nat) : Option Nat → Option Nat → Option Nat → Option Eff
  | some s, some l, some h => gi (s = sz ∧ l ≤ h ∧ h ≤ len) (some (.pure (if h - l = 0 then .s false sz 0 [] else .ref id p v (off + l * sz) sz (h - l))))
  | _, _, _ => none
def slA (ts : Option Nat) (x : A) (lo hi : Option A) : Option Eff := match x with
  | .s _ sz len cs => slI sz cs len ts (bnd 0 lo) (bnd len hi)
  | .ref id p v off sz len => slR id p v off sz len ts (bnd 0 lo) (bnd len hi)
  | _ => none
def slK (T : Nat → Option TI) (x : A) (lo hi : Option A) : K → Option Eff
  | .slice e => slA (szOf T e) x lo hi
  | _ => none
theorem e_slice (t : Nat) (x : Operand) (lo hi : Option Operand) : eff T G m ty (.slice t x lo hi none) sl hp = slK T (ev T sl 0 x) (lo.map (ev T sl 0)) (hi.map (ev T sl 0)) (kindOf T t) := by
  simp only [eff, slK]
  cases kindOf T t with
  | slice e =>
    simp only [sliceA, slA, boundA_eq]
    cases ev T sl 0 x with
    | s o sz len cs =>
      simp only [slI, gi]
      cases bnd 0 (lo.map (ev T sl 0)) <;> cases bnd len (hi.map (ev T sl 0)) <;> cases szOf T e <;> simp
    | ref id p v off sz len =>
      simp only [slR, gi]
      cases bnd 0 (lo.map (ev T sl 0)) <;> cases bnd len (hi.map (ev T sl 0)) <;> cases szOf T e <;> simp
    | _ => rfl
  | _ => rfl
theorem slK_s (x : A) (lo hi : Option A) (e : Nat) : slK T x lo hi (.slice e) = slA (szOf T e) x lo hi := rfl
theorem slA_s (ts : Option Nat) (o : Bool) (sz len : Nat) (cs : List A) (lo hi : Option A) : slA ts (.s o sz len cs) lo hi = slI sz cs len ts (bnd 0 lo) (bnd len hi) := rfl
theorem slA_r (ts : Option Nat) (id : Id) (p : List Nat) (v off sz len : Nat) (lo hi : Option A) : slA ts (.ref id p v off sz len) lo hi = slR id p v off sz len ts (bnd 0 lo) (bnd len hi) := rfl
theorem slI_s (sz len s l h : Nat) (cs : List A) : slI sz cs len (some s) (some l) (some h) = gi (s = sz ∧ l ≤ h ∧ h ≤ len) (some (.pure (.s false sz (h - l) (rng cs (l * sz) ((h - l) * sz))))) := rfl
theorem slR_s (id : Id) (p : List Nat) (v off sz len s l h : Nat) : slR id p v off sz len (some s) (some l) (some h) =
    gi (s = sz ∧ l ≤ h ∧ h ≤ len) (some (.pure (if h - l = 0 then .s false sz 0 [] else .ref id p v (off + l * sz) sz (h - l)))) := rfl
end

end Go.TM
