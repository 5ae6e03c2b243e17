/- The tree machine, 33: what is written, made and called, as rules for rewriting. -/
import Derived.Test.YthikbhekdnmhbaaTm32
namespace Go.TM
set_option linter.unusedVariables false
set_option linter.unusedSimpArgs false

/-! ### Closing -/

abbrev Cl1 := Option (A × List (Id × Option Root) × List Id)
abbrev ClL := Option (List A × List (Id × Option Root) × List Id)

def cl0 (id : Id) (sz len : Nat) : Option Root → Cl1
  | some ⟨a, b, cs, _⟩ => gi (a = sz ∧ b = len) (some (.s true sz len cs, [(id, none)], [id]))
  | none => none
def clc (id : Id) (c sz len a b : Nat) (cs : List A) (v : Nat → Nat) : Option A → Cl1
  | some (.s true s l xs) => gi (s = sz ∧ l = len) (some (.s true sz len xs, [(id, some ⟨a, b, cs.set c .und, v⟩)], [id]))
  | _ => none
def cl1 (id : Id) (c ver sz len : Nat) : Option Root → Cl1
  | some ⟨a, b, cs, v⟩ => gi (v c = ver) (clc id c sz len a b cs v cs[c]?)
  | none => none

section
variable {T : Nat → Option TI} {G : Nat → Option FM} {hp : Hp} {m ty : Nat} {sl : Nat → A}

theorem close_i (k : IntKind) (n : Int) : close1 hp (.i k n) = some (.i k n, [], []) := rfl
theorem close_b (v : Bool) : close1 hp (.b v) = some (.b v, [], []) := rfl
theorem close_f (sz len : Nat) (cs : List A) : close1 hp (.s false sz len cs) = some (.s false sz len cs, [], []) := rfl
theorem close_n (sz : Nat) : close1 hp (.s true sz 0 []) = some (.s true sz 0 [], [], []) := rfl
theorem close_r0 (id : Id) (v sz len : Nat) : close1 hp (.ref id [] v 0 sz len) = cl0 id sz len (hp id) := by
  simp only [close1, cl0]
  cases hp id with
  | none => rfl
  | some r =>
    simp only [verOk, getP, gi]
    simp
theorem close_r1 (id : Id) (c v sz len : Nat) : close1 hp (.ref id [c] v 0 sz len) = cl1 id c v sz len (hp id) := by
  simp only [close1, cl1]
  cases hp id with
  | none => rfl
  | some r =>
    simp only [verOk, getP, gi, beq_iff_eq, true_and]
    split
    · cases hc : r.cs[c]? with
      | none => simp [clc]
      | some x =>
        cases x with
        | s o s l xs =>
          cases o with
          | false => simp [clc]
          | true => simp [clc, gi, setC]
        | _ => simp [clc]
    · rfl
theorem cl0_s (id : Id) (sz len a b : Nat) (cs : List A) (v : Nat → Nat) : cl0 id sz len (some ⟨a, b, cs, v⟩) = gi (a = sz ∧ b = len) (some (.s true sz len cs, [(id, none)], [id])) := rfl
theorem cl1_s (id : Id) (c ver sz len a b : Nat) (cs : List A) (v : Nat → Nat) : cl1 id c ver sz len (some ⟨a, b, cs, v⟩) = gi (v c = ver) (clc id c sz len a b cs v cs[c]?) := rfl
theorem clc_s (id : Id) (c sz len a b s l : Nat) (cs xs : List A) (v : Nat → Nat) : clc id c sz len a b cs v (some (.s true s l xs)) = gi (s = sz ∧ l = len) (some (.s true sz len xs, [(id, some ⟨a, b, cs.set c .und, v⟩)], [id])) := rfl

def clL1 (hp : Hp) (vs : List A) : Cl1 → ClL
  | some (c, u, rd) => (closeL (applyH hp u) vs).map fun x => (c :: x.1, u ++ x.2.1, rd ++ x.2.2)
  | none => none
theorem closeL_n : closeL hp [] = some ([], [], []) := rfl
theorem closeL_c (v : A) (vs : List A) : closeL hp (v :: vs) = clL1 hp vs (close1 hp v) := by
  simp only [closeL, clL1]
  cases close1 hp v with
  | none => rfl
  | some x =>
    obtain ⟨c, u, rd⟩ := x
    simp only
    cases closeL (applyH hp u) vs <;> rfl
theorem clL1_s (vs : List A) (c : A) (u : List (Id × Option Root)) (rd : List Id) : clL1 hp vs (some (c, u, rd)) = (closeL (applyH hp u) vs).map fun x => (c :: x.1, u ++ x.2.1, rd ++ x.2.2) := rfl
theorem applyH_n : applyH hp [] = hp := rfl
theorem applyH_c (u : Id × Option Root) (us : List (Id × Option Root)) : applyH hp (u :: us) = applyH (upd hp u.1 u.2) us := rfl
theorem cells_a (xs : List A) : cellsA (.agg xs) = xs := rfl
theorem cells_i (k : IntKind) (n : Int) : cellsA (.i k n) = [.i k n] := rfl
theorem cells_b (v : Bool) : cellsA (.b v) = [.b v] := rfl
theorem cells_s (o : Bool) (sz len : Nat) (cs : List A) : cellsA (.s o sz len cs) = [.s o sz len cs] := rfl
theorem cells_r (id : Id) (p : List Nat) (v off sz len : Nat) : cellsA (.ref id p v off sz len) = [.ref id p v off sz len] := rfl
theorem cells_p (id : Id) (p : List Nat) (v off : Nat) : cellsA (.ptr id p v off) = [.ptr id p v off] := rfl

/-! ### Stores -/

def notIn : Id → List Id → Prop
  | _, [] => True
  | x, y :: ys => ¬ (x.1 = y.1 ∧ x.2 = y.2) ∧ notIn x ys
theorem notIn_n (x : Id) : notIn x [] = True := rfl
theorem notIn_c (a b c d : Nat) (ys : List Id) : notIn (a, b) ((c, d) :: ys) = (¬ (a = c ∧ b = d) ∧ notIn (a, b) ys) := rfl
theorem notIn_iff : ∀ (x : Id) (ys : List Id), notIn x ys ↔ x ∉ ys
  | _, [] => by simp [notIn]
  | x, y :: ys => by simp only [notIn, notIn_iff x ys, List.mem_cons, not_or, Prod.ext_iff]
instance (x : Id) : ∀ ys : List Id, Decidable (notIn x ys)
  | [] => isTrue trivial
  | y :: ys => by
    unfold notIn
    have := instDecidableNotIn x ys
    infer_instance

def verS (cs : List A) (v : Nat → Nat) (p : List Nat) (off : Nat) : Nat → Nat := if cs.all isScalar then v else bumpR v p off cs.length
def stP (sz : Nat) (id : Id) (p : List Nat) (off : Nat) : Option (Nat × Nat × List A) → ClL → Option Root → Option Eff
  | some (a, b, _), some (cs, us, rd), some ⟨x, y, xs, v⟩ => if cs.length = sz then gi (0 < sz ∧ off + sz ≤ b * a ∧ notIn id (us.map (·.1))) (some ⟨.und, us ++ [(id, some ⟨x, y, modP (setR off cs) p xs, verS cs v p off⟩)], id :: rd⟩) else none
  | _, _, _ => none
def stT (hp : Hp) (x v : A) : Option TI → Option Eff
  | some ti => storeA ti hp x v
  | none => none
theorem e_store (t : Nat) (a x : Operand) : eff T G m ty (.store t a x) sl hp = stT hp (ev T sl 0 a) (ev T sl t x) (T t) := by
  simp only [eff, stT]
  cases T t <;> rfl
theorem st_ok (ti : TI) (id : Id) (p : List Nat) (ver off : Nat) (v : A) : storeA ti hp (.ptr id p ver off) v = stP ti.sz id p off (node hp id p ver) (closeL hp (cellsA v)) (hp id) := by
  simp only [storeA, stP]
  cases node hp id p ver with
  | none => rfl
  | some x =>
    obtain ⟨a, b, c⟩ := x
    cases closeL hp (cellsA v) with
    | none => rfl
    | some y =>
      obtain ⟨cs, us, rd⟩ := y
      cases hp id with
      | none => simp
      | some r =>
        simp only [gi, notIn_iff]
        by_cases h : cs.length = ti.sz
        · rw [if_pos h]
          by_cases h2 : 0 < ti.sz ∧ off + ti.sz ≤ b * a ∧ id ∉ us.map (·.1)
          · rw [if_pos h2, if_pos ⟨h, h2⟩]; rfl
          · rw [if_neg h2, if_neg fun hh => h2 hh.2]
        · rw [if_neg h, if_neg fun hh => h hh.1]
theorem stT_s (ti : TI) (id : Id) (p : List Nat) (ver off : Nat) (v : A) : stT hp (.ptr id p ver off) v (some ti) = stP ti.sz id p off (node hp id p ver) (closeL hp (cellsA v)) (hp id) := st_ok ti id p ver off v
theorem stP_s (sz : Nat) (id : Id) (p : List Nat) (off a b : Nat) (z : List A) (cs : List A) (us : List (Id × Option Root)) (rd : List Id) (x y : Nat) (xs : List A) (v : Nat → Nat) :
    stP sz id p off (some (a, b, z)) (some (cs, us, rd)) (some ⟨x, y, xs, v⟩) = if cs.length = sz then gi (0 < sz ∧ off + sz ≤ b * a ∧ notIn id (us.map (·.1))) (some ⟨.und, us ++ [(id, some ⟨x, y, modP (setR off cs) p xs, verS cs v p off⟩)], id :: rd⟩) else none := rfl
theorem modP_n (f : List A → List A) (cs : List A) : modP f [] cs = f cs := rfl
def modC (f : List A → List A) (c : Nat) (cs : List A) : Option A → List A
  | some (.s true sz len xs) => cs.set c (.s true sz len (f xs))
  | _ => cs
theorem modP_1 (f : List A → List A) (c : Nat) (cs : List A) : modP f [c] cs = modC f c cs cs[c]? := by
  simp only [modP, modC]
  split <;> rename_i h
  · rw [h]
  · cases hc : cs[c]? with
    | none => rfl
    | some x =>
      cases x with
      | s o sz len xs =>
        cases o with
        | true => exact (h _ _ _ hc).elim
        | false => rfl
      | _ => rfl
theorem modC_s (f : List A → List A) (c sz len : Nat) (cs xs : List A) : modC f c cs (some (.s true sz len xs)) = cs.set c (.s true sz len (f xs)) := rfl
theorem setR_n (off : Nat) (cs : List A) : setR off [] cs = cs := rfl
theorem setR_1 (off : Nat) (v : A) (cs : List A) : setR off [v] cs = cs.set off v := rfl
theorem set_lz (c v : A) (cs : List A) : (c :: cs).set 0 v = v :: cs := rfl
theorem set_ls (c v : A) (cs : List A) (k : Nat) : (c :: cs).set (k + 1) v = c :: cs.set k v := rfl
theorem verS_i (k : IntKind) (n : Int) (v : Nat → Nat) (p : List Nat) (off : Nat) : verS [.i k n] v p off = v := rfl
theorem verS_b (x : Bool) (v : Nat → Nat) (p : List Nat) (off : Nat) : verS [.b x] v p off = v := rfl

/-! ### Makers -/

def alK (m : Nat) : Option TI → Option Eff
  | some ti => some ⟨.ptr (m, 0) [] 0 0, [((m, 0), some (newRoot ti.sz 1 ti.zero))], []⟩
  | none => none
theorem e_alloc (e : Nat) : eff T G m ty (.alloc e) sl hp = alK m (T e) := by
  simp only [eff, alK]
  cases T e <;> rfl
theorem alK_s (ti : TI) : alK m (some ti) = some ⟨.ptr (m, 0) [] 0 0, [((m, 0), some (newRoot ti.sz 1 ti.zero))], []⟩ := rfl
theorem newRoot_e (a b : Nat) (cs : List A) : newRoot a b cs = ⟨a, b, cs, fun _ => 0⟩ := rfl
def boxK (m : Nat) : Option TI → ClL → Option Eff
  | some ti, some (cs, us, rd) => if cs.length = ti.sz then some ⟨.ptr (m, 0) [] 0 0, us ++ [((m, 0), some (newRoot ti.sz 1 cs))], rd⟩ else none
  | _, _ => none
theorem e_box (e : Nat) (x : Operand) : eff T G m ty (.box e x) sl hp = boxK m (T e) (closeL hp (cellsA (ev T sl e x))) := by
  simp only [eff, boxK]
  cases T e <;> first | rfl | (cases closeL hp (cellsA (ev T sl e x)) <;> rfl)
theorem boxK_s (ti : TI) (cs : List A) (us : List (Id × Option Root)) (rd : List Id) : boxK m (some ti) (some (cs, us, rd)) = if cs.length = ti.sz then some ⟨.ptr (m, 0) [] 0 0, us ++ [((m, 0), some (newRoot ti.sz 1 cs))], rd⟩ else none := rfl

/-- The parts of a literal. -/
def fl (place : Nat → Option (Nat × Nat)) : List A → List (Nat × A) → Option (List A)
  | cs, [] => some cs
  | cs, (i, v) :: rest => match place i with
    | none => none
    | some (off, size) => if okPart v = true ∧ (cellsA v).length = size ∧ off + size ≤ cs.length then fl place (cs.take off ++ cellsA v ++ cs.drop (off + size)) rest else none
theorem fillA_eq (place : Nat → Option (Nat × Nat)) : ∀ (ps : List (Nat × A)) (cs : List A), fillA place cs ps = fl place cs ps
  | [], cs => rfl
  | (i, v) :: rest, cs => by
    simp only [fillA, fl]
    cases place i with
    | none => rfl
    | some x =>
      obtain ⟨off, size⟩ := x
      simp only [fillA_eq place rest]
def flP (place : Nat → Option (Nat × Nat)) (cs : List A) (v : A) (rest : List (Nat × A)) : Option (Nat × Nat) → Option (List A)
  | none => none
  | some (off, size) => if okPart v = true ∧ (cellsA v).length = size ∧ off + size ≤ cs.length then fl place (cs.take off ++ cellsA v ++ cs.drop (off + size)) rest else none
theorem fl_n (place : Nat → Option (Nat × Nat)) (cs : List A) : fl place cs [] = some cs := rfl
theorem fl_c (place : Nat → Option (Nat × Nat)) (cs : List A) (i : Nat) (v : A) (rest : List (Nat × A)) : fl place cs ((i, v) :: rest) = flP place cs v rest (place i) := by
  simp only [fl, flP]
theorem flP_s (place : Nat → Option (Nat × Nat)) (cs : List A) (v : A) (rest : List (Nat × A)) (off size : Nat) : flP place cs v rest (some (off, size)) =
    if okPart v = true ∧ (cellsA v).length = size ∧ off + size ≤ cs.length then fl place (cs.take off ++ cellsA v ++ cs.drop (off + size)) rest else none := rfl
theorem okp_i (k : IntKind) (n : Int) : okPart (.i k n) = true := rfl
theorem okp_b (v : Bool) : okPart (.b v) = true := rfl
theorem okp_s (o : Bool) (sz len : Nat) (cs : List A) : okPart (.s o sz len cs) = true := rfl
theorem okp_r (id : Id) (p : List Nat) (v off sz len : Nat) : okPart (.ref id p v off sz len) = true := rfl
theorem okp_a (xs : List A) : okPart (.agg xs) = true := rfl
theorem okp_p (id : Id) (p : List Nat) (v off : Nat) : okPart (.ptr id p v off) = true := rfl

def plS (T : Nat → Option TI) (fs : List (Nat × Nat)) (i : Nat) : Option (Nat × Nat) := (fs[i]?).bind fun f => (T f.2).map fun fi => (f.1, fi.sz)
def bldK (T : Nat → Option TI) (sl : Nat → A) (parts : List (Nat × Operand)) : Option TI → Option Eff
  | some ti => match ti.kind with
    | .struct fs => (fl (plS T fs) ti.zero (parts.map fun p => (p.1, ev T sl ((fs[p.1]?).elim 0 (·.2)) p.2))).map fun cs => .pure (.agg cs)
    | _ => none
  | none => none
theorem e_build (t : Nat) (parts : List (Nat × Operand)) : eff T G m ty (.build t parts.toArray) sl hp = bldK T sl parts (T t) := by
  simp only [eff, bldK]
  cases T t with
  | none => rfl
  | some ti =>
    simp only
    cases ti.kind <;> first | rfl | (simp only [fillA_eq]; rfl)
theorem bldK_s (parts : List (Nat × Operand)) (fs : List (Nat × Nat)) (sz bytes : Nat) (z : List A) : bldK T sl parts (some (tiSt fs sz bytes z)) =
    (fl (plS T fs) z (parts.map fun p => (p.1, ev T sl ((fs[p.1]?).elim 0 (·.2)) p.2))).map fun cs => .pure (.agg cs) := rfl

def plL (sz i : Nat) : Option (Nat × Nat) := some (i * sz, sz)
def bslE (m sz len : Nat) : ClL → Option Eff
  | some (cs, us, rd) => gi (0 < sz ∧ len * sz ≤ 2 ^ 24) (some ⟨.ref (m, 0) [] 0 0 sz len, us ++ [((m, 0), some (newRoot sz len cs))], rd⟩)
  | none => none
def bslF (hp : Hp) (m sz len : Nat) : Option (List A) → Option Eff
  | some vs => bslE m sz len (closeL hp vs)
  | none => none
def bslK (T : Nat → Option TI) (sl : Nat → A) (hp : Hp) (m len : Nat) (parts : List (Nat × Operand)) : K → Option Eff
  | .slice e => match T e with
    | some ti => bslF hp m ti.sz len (fl (plL ti.sz) (List.replicate len ti.zero).flatten (parts.map fun p => (p.1, ev T sl e p.2)))
    | none => none
  | _ => none
theorem e_buildSlice (t len : Nat) (parts : List (Nat × Operand)) : eff T G m ty (.buildSlice t len parts.toArray) sl hp = bslK T sl hp m len parts (kindOf T t) := by
  simp only [eff, bslK]
  cases kindOf T t with
  | slice e =>
    simp only
    cases T e with
    | none => rfl
    | some ti =>
      simp only [fillA_eq]
      change (match fl (plL ti.sz) (List.replicate len ti.zero).flatten _ with | some vs => _ | none => none) = bslF hp m ti.sz len (fl (plL ti.sz) (List.replicate len ti.zero).flatten _)
      cases fl (plL ti.sz) (List.replicate len ti.zero).flatten (parts.map fun p => (p.1, ev T sl e p.2)) with
      | none => rfl
      | some vs =>
        simp only [bslF]
        cases closeL hp vs <;> rfl
  | _ => rfl
def bslT (T : Nat → Option TI) (sl : Nat → A) (hp : Hp) (m len e : Nat) (parts : List (Nat × Operand)) : Option TI → Option Eff
  | some ti => bslF hp m ti.sz len (fl (plL ti.sz) (List.replicate len ti.zero).flatten (parts.map fun p => (p.1, ev T sl e p.2)))
  | none => none
theorem bslK_s (len e : Nat) (parts : List (Nat × Operand)) : bslK T sl hp m len parts (.slice e) = bslT T sl hp m len e parts (T e) := by
  simp only [bslK, bslT]
theorem bslT_s (len e : Nat) (parts : List (Nat × Operand)) (ti : TI) : bslT T sl hp m len e parts (some ti) = bslF hp m ti.sz len (fl (plL ti.sz) (List.replicate len ti.zero).flatten (parts.map fun p => (p.1, ev T sl e p.2))) := rfl
theorem bslF_s (sz len : Nat) (vs : List A) : bslF hp m sz len (some vs) = bslE m sz len (closeL hp vs) := rfl
theorem bslE_s (sz len : Nat) (cs : List A) (us : List (Id × Option Root)) (rd : List Id) : bslE m sz len (some (cs, us, rd)) = gi (0 < sz ∧ len * sz ≤ 2 ^ 24) (some ⟨.ref (m, 0) [] 0 0 sz len, us ++ [((m, 0), some (newRoot sz len cs))], rd⟩) := rfl

def mkT (m : Nat) (n : Int) : Option TI → Option Eff
  | some ti => gi (0 ≤ n ∧ n.toNat * ti.bytes ≤ 140737488355328 ∧ n.toNat ≤ 140737488355328) (some ⟨.ref (m, 0) [] 0 0 ti.sz n.toNat, [((m, 0), some (newRoot ti.sz n.toNat (List.replicate n.toNat ti.zero).flatten))], []⟩)
  | none => none
def mkK (T : Nat → Option TI) (m : Nat) : K → A → A → Option Eff
  | .slice e, .i .i64 n, .i .i64 n' => if n = n' then mkT m n (T e) else none
  | _, _, _ => none
theorem e_makeSlice (t : Nat) (l c : Operand) : eff T G m ty (.makeSlice t l c) sl hp = mkK T m (kindOf T t) (ev T sl 0 l) (ev T sl 0 c) := by
  simp only [eff, mkK]
  cases kindOf T t with
  | slice e =>
    cases ev T sl 0 l with
    | i k n =>
      cases k with
      | i64 =>
        cases ev T sl 0 c with
        | i k' n' =>
          cases k' with
          | i64 =>
            simp only
            cases T e with
            | none => simp [mkT]
            | some ti =>
              simp only [mkT, gi]
              by_cases h : n = n'
              · rw [if_pos h]
                by_cases h2 : 0 ≤ n ∧ n.toNat * ti.bytes ≤ 140737488355328 ∧ n.toNat ≤ 140737488355328
                · rw [if_pos h2, if_pos ⟨h, h2⟩]
                · rw [if_neg h2, if_neg fun hh => h2 hh.2]
              · rw [if_neg h, if_neg fun hh => h hh.1]
          | _ => rfl
        | _ => rfl
      | _ => rfl
    | _ => rfl
  | _ => rfl
theorem mkK_s (e : Nat) (n n' : Int) : mkK T m (.slice e) (.i .i64 n) (.i .i64 n') = if n = n' then mkT m n (T e) else none := rfl
theorem mkT_s (n : Int) (ti : TI) : mkT m n (some ti) = gi (0 ≤ n ∧ n.toNat * ti.bytes ≤ 140737488355328 ∧ n.toNat ≤ 140737488355328) (some ⟨.ref (m, 0) [] 0 0 ti.sz n.toNat, [((m, 0), some (newRoot ti.sz n.toNat (List.replicate n.toNat ti.zero).flatten))], []⟩) := rfl

/-! ### Append -/

abbrev Src := Option (List A × Nat × List (Id × Option Root) × List Id)
def srR (hp : Hp) (flat : Bool) (sz : Nat) (id : Id) (p : List Nat) (off sz' len : Nat) : Option (Nat × Nat × List A) → Option Root → Src
  | some (a, b, cs), some r => gi (sz' = sz ∧ a = sz ∧ off + len * sz ≤ b * a)
      (if flat then some ((rng cs off (len * sz)).map scal, len, [], [id]) else if p = [] then some (rng cs off (len * sz), len, [(id, some { r with cs := goneR r.cs off (len * sz) })], [id]) else none)
  | _, _ => none
def sr (hp : Hp) (flat : Bool) (sz : Nat) (x : A) : Src := srcOf hp flat sz x
theorem sr_s (flat : Bool) (sz sz' len : Nat) (o : Bool) (cs : List A) : sr hp flat sz (.s o sz' len cs) = if sz' = sz then some (cs.map imm1, len, [], []) else none := rfl
theorem sr_r (flat : Bool) (sz : Nat) (id : Id) (p : List Nat) (v off sz' len : Nat) : sr hp flat sz (.ref id p v off sz' len) = srR hp flat sz id p off sz' len (node hp id p v) (hp id) := by
  simp only [sr, srcOf, srR, gi]
  cases node hp id p v with
  | none => rfl
  | some x =>
    cases hp id with
    | none => rfl
    | some r => rfl
theorem srR_t (sz : Nat) (id : Id) (p : List Nat) (off sz' len a b : Nat) (cs : List A) (r : Root) : srR hp true sz id p off sz' len (some (a, b, cs)) (some r) = gi (sz' = sz ∧ a = sz ∧ off + len * sz ≤ b * a) (some ((rng cs off (len * sz)).map scal, len, [], [id])) := rfl
theorem srR_f (sz : Nat) (id : Id) (off sz' len a b : Nat) (cs : List A) (x y : Nat) (xs : List A) (v : Nat → Nat) : srR hp false sz id [] off sz' len (some (a, b, cs)) (some ⟨x, y, xs, v⟩) =
    gi (sz' = sz ∧ a = sz ∧ off + len * sz ≤ b * a) (some (rng cs off (len * sz), len, [(id, some ⟨x, y, goneR xs off (len * sz), v⟩)], [id])) := rfl
def ds0 (id : Id) (sz off sz' len : Nat) : Option Root → Src
  | some ⟨a, b, cs, _⟩ => gi (off = 0 ∧ sz' = sz ∧ a = sz ∧ len ≤ b) (some (cs.take (len * sz), len, [(id, none)], [id]))
  | none => none
def ds (hp : Hp) (sz : Nat) (x : A) : Src := dstOf hp sz x
theorem ds_n (sz sz' : Nat) : ds hp sz (.s true sz' 0 []) = if sz' = sz then some ([], 0, [], []) else none := rfl
theorem ds_r (sz : Nat) (id : Id) (v off sz' len : Nat) : ds hp sz (.ref id [] v off sz' len) = ds0 id sz off sz' len (hp id) := by
  simp only [ds, dstOf, ds0, node_0]
  cases hp id with
  | none => rfl
  | some r => simp only [nd0, gi]
theorem ds0_s (id : Id) (sz off sz' len a b : Nat) (cs : List A) (v : Nat → Nat) : ds0 id sz off sz' len (some ⟨a, b, cs, v⟩) = gi (off = 0 ∧ sz' = sz ∧ a = sz ∧ len ≤ b) (some (cs.take (len * sz), len, [(id, none)], [id])) := rfl
def apD (m sz bytes : Nat) (scs : List A) (slen : Nat) (us : List (Id × Option Root)) (rd : List Id) : Src → Option Eff
  | some (dcs, dlen, us', rd') => gi ((dlen + slen) * bytes ≤ 140737488355328 ∧ dlen + slen ≤ 140737488355328 ∧ 0 < sz) (some ⟨.ref (m, 0) [] 0 0 sz (dlen + slen), us ++ us' ++ [((m, 0), some (newRoot sz (dlen + slen) (dcs ++ scs)))], rd ++ rd'⟩)
  | none => none
def apS (hp : Hp) (m sz bytes : Nat) (d : A) : Src → Option Eff
  | some (scs, slen, us, rd) => apD m sz bytes scs slen us rd (ds (applyH hp us) sz d)
  | none => none
def apT (hp : Hp) (m : Nat) (d x : A) : Option TI → Option Eff
  | some ti => apS hp m ti.sz ti.bytes d (sr hp (flatTI ti) ti.sz x)
  | none => none
def apK (T : Nat → Option TI) (hp : Hp) (m : Nat) (d x : A) : K → Option Eff
  | .slice e => apT hp m d x (T e)
  | _ => none
theorem e_append (s x : Operand) (t : Nat) : eff T G m ty (.call ⟨.builtin .append, #[s, x], #[t, t]⟩) sl hp = apK T hp m (ev T sl t s) (ev T sl t x) (kindOf T t) := by
  simp only [eff, apK, if_true]
  cases kindOf T t with
  | slice e =>
    simp only
    cases T e with
    | none => rfl
    | some ti =>
      simp only [apT, sr]
      cases srcOf hp (flatTI ti) ti.sz (ev T sl t x) with
      | none => rfl
      | some y =>
        obtain ⟨scs, slen, us, rd⟩ := y
        simp only [apS, ds]
        cases dstOf (applyH hp us) ti.sz (ev T sl t s) <;> rfl
  | _ => rfl
theorem apK_s (d x : A) (e : Nat) : apK T hp m d x (.slice e) = apT hp m d x (T e) := rfl
theorem apT_s (d x : A) (ti : TI) : apT hp m d x (some ti) = apS hp m ti.sz ti.bytes d (sr hp (flatTI ti) ti.sz x) := rfl
theorem apS_s (sz bytes : Nat) (d : A) (scs : List A) (slen : Nat) (us : List (Id × Option Root)) (rd : List Id) : apS hp m sz bytes d (some (scs, slen, us, rd)) = apD m sz bytes scs slen us rd (ds (applyH hp us) sz d) := rfl
theorem apD_s (sz bytes : Nat) (scs dcs : List A) (slen dlen : Nat) (us us' : List (Id × Option Root)) (rd rd' : List Id) : apD m sz bytes scs slen us rd (some (dcs, dlen, us', rd')) =
    gi ((dlen + slen) * bytes ≤ 140737488355328 ∧ dlen + slen ≤ 140737488355328 ∧ 0 < sz) (some ⟨.ref (m, 0) [] 0 0 sz (dlen + slen), us ++ us' ++ [((m, 0), some (newRoot sz (dlen + slen) (dcs ++ scs)))], rd ++ rd'⟩) := rfl

/-! ### Calls -/

def disP : List Id → List Id → Prop
  | [], _ => True
  | x :: xs, ys => notIn x ys ∧ disP xs ys
theorem disP_n (ys : List Id) : disP [] ys = True := rfl
theorem disP_c (x : Id) (xs ys : List Id) : disP (x :: xs) ys = (notIn x ys ∧ disP xs ys) := rfl
theorem disP_iff : ∀ (xs ys : List Id), disP xs ys ↔ disjB xs ys = true
  | [], _ => by simp [disP, disjB]
  | x :: xs, ys => by
    have := disP_iff xs ys
    simp only [disjB, List.all_eq_true] at this
    simp only [disP, this, disjB, List.all_cons, Bool.and_eq_true, List.all_eq_true, notIn_iff]
    constructor
    · rintro ⟨h1, h2⟩
      exact ⟨fun y hy => by simp; rintro rfl; exact h1 hy, h2⟩
    · rintro ⟨h1, h2⟩
      exact ⟨fun hx => by simpa using h1 x hx, h2⟩
def nodP : List Id → Prop
  | [] => True
  | x :: xs => notIn x xs ∧ nodP xs
theorem nodP_n : nodP [] = True := rfl
theorem nodP_c (x : Id) (xs : List Id) : nodP (x :: xs) = (notIn x xs ∧ nodP xs) := rfl
theorem nodP_iff : ∀ (xs : List Id), nodP xs ↔ nodupB xs = true
  | [] => by simp [nodP, nodupB]
  | x :: xs => by
    simp only [nodP, nodupB, nodP_iff xs, Bool.and_eq_true, List.all_eq_true, notIn_iff]
    constructor
    · rintro ⟨h1, h2⟩
      exact ⟨fun y hy => by simp; rintro rfl; exact h1 hy, h2⟩
    · rintro ⟨h1, h2⟩
      exact ⟨fun hx => by simpa using h1 x hx, h2⟩
instance (x y : List Id) : Decidable (disP x y) := decidable_of_iff _ (disP_iff x y).symm
instance (x : List Id) : Decidable (nodP x) := decidable_of_iff _ (nodP_iff x).symm
theorem disB_of {xs ys : List Id} (h : disP xs ys) : disjB xs ys = true := (disP_iff xs ys).1 h

def caF (m : Nat) (r : A) (us : List (Id × Option Root)) (rd : List Id) : Option (List (Id × Option Root)) → Option Eff
  | some us' => some ⟨(plant m r).1, us ++ us' ++ (plant m r).2, rd⟩
  | none => none
def caE (hp : Hp) (m : Nat) (us : List (Id × Option Root)) (rd : List Id) (ios : List (Id × List Nat)) : Out1 → Option Eff
  | some (r, outs) => caF m r us rd (outsOf hp ios outs)
  | none => none
def caD (hp : Hp) (m : Nat) (M : Model) (us : List (Id × Option Root)) (rd1 : List Id) : Option (List A × List Id × List (Id × List Nat)) → Option Eff
  | some (xs, rds, ios) => gi (nodP (ios.map (·.1)) ∧ disP (ios.map (·.1)) rds ∧ (rds = [] ∨ M.clean = true)) (caE hp m us (rd1 ++ rds ++ ios.map (·.1)) ios (M.fn xs))
  | none => none
def caC (hp : Hp) (m : Nat) (M : Model) (args : List A) : ClL → Option Eff
  | some (cs, us, rd1) => caD (applyH hp us) m M us rd1 (contsOf (applyH hp us) M.kinds args cs)
  | none => none
def caG (hp : Hp) (m : Nat) (args : List A) : Option FM → Option Eff
  | some (.model M) => caC hp m M args (closeL hp (mvsOf M.kinds args))
  | some (.alias outs) => (outCells m args 0 outs).map fun x => ⟨.agg x.1, x.2, []⟩
  | none => none
theorem e_call (f : Nat) (args : List Operand) (ts : List Nat) : eff T G m ty (.call ⟨.value (.func f), args.toArray, ts.toArray⟩) sl hp = caG hp m (evL T sl args ts) (G f) := by
  simp only [eff, callA, caG]
  cases G f with
  | none => rfl
  | some fm =>
    cases fm with
    | alias outs => rfl
    | model M =>
      simp only
      cases closeL hp (mvsOf M.kinds (evL T sl args ts)) with
      | none => rfl
      | some x =>
        obtain ⟨cs, us, rd1⟩ := x
        simp only [caC]
        cases contsOf (applyH hp us) M.kinds (evL T sl args ts) cs with
        | none => rfl
        | some y =>
          obtain ⟨xs, rds, ios⟩ := y
          simp only [caD, gi, nodP_iff, disP_iff]
          split
          · cases M.fn xs with
            | none => rfl
            | some z =>
              obtain ⟨r, outs⟩ := z
              simp only [caE]
              cases outsOf (applyH hp us) ios outs <;> rfl
          · rfl
theorem caG_m (args : List A) (M : Model) : caG hp m args (some (.model M)) = caC hp m M args (closeL hp (mvsOf M.kinds args)) := rfl
theorem caG_a (args : List A) (outs : List Out) : caG hp m args (some (.alias outs)) = (outCells m args 0 outs).map fun x => ⟨.agg x.1, x.2, []⟩ := rfl
theorem caC_s (M : Model) (args cs : List A) (us : List (Id × Option Root)) (rd1 : List Id) : caC hp m M args (some (cs, us, rd1)) = caD (applyH hp us) m M us rd1 (contsOf (applyH hp us) M.kinds args cs) := rfl
theorem caD_s (M : Model) (xs : List A) (us : List (Id × Option Root)) (rd1 rds : List Id) (ios : List (Id × List Nat)) : caD hp m M us rd1 (some (xs, rds, ios)) =
    gi (nodP (ios.map (·.1)) ∧ disP (ios.map (·.1)) rds ∧ (rds = [] ∨ M.clean = true)) (caE hp m us (rd1 ++ rds ++ ios.map (·.1)) ios (M.fn xs)) := rfl
theorem caE_s (us : List (Id × Option Root)) (rd : List Id) (ios : List (Id × List Nat)) (r : A) (outs : List (List A)) : caE hp m us rd ios (some (r, outs)) = caF m r us rd (outsOf hp ios outs) := rfl
theorem caF_s (r : A) (us us' : List (Id × Option Root)) (rd : List Id) : caF m r us rd (some us') = some ⟨(plant m r).1, us ++ us' ++ (plant m r).2, rd⟩ := rfl

theorem evL_n (ts : List Nat) : evL T sl [] ts = [] := by cases ts <;> rfl
theorem evL_c (x : Operand) (xs : List Operand) (t : Nat) (ts : List Nat) : evL T sl (x :: xs) (t :: ts) = ev T sl t x :: evL T sl xs ts := rfl
theorem mvs_n {α : Type} : mvsOf [] ([] : List α) = [] := rfl
theorem mvs_r {α : Type} (ks : List Kind) (v : α) (vs : List α) : mvsOf (.ro :: ks) (v :: vs) = mvsOf ks vs := rfl
theorem mvs_m {α : Type} (ks : List Kind) (v : α) (vs : List α) : mvsOf (.mv :: ks) (v :: vs) = v :: mvsOf ks vs := rfl
theorem mvs_i {α : Type} (ks : List Kind) (v : α) (vs : List α) : mvsOf (.io :: ks) (v :: vs) = mvsOf ks vs := rfl
theorem mvs_l {α : Type} (n : Nat) (ks : List Kind) (v : α) (vs : List α) : mvsOf (.ln n :: ks) (v :: vs) = mvsOf ks vs := rfl

abbrev Cnt := Option (List A × List Id × List (Id × List Nat))
def cnR : Option (A × List Id) → Cnt → Cnt
  | some (c, rd), some (xs, rds, ios) => some (c :: xs, rd ++ rds, ios)
  | _, _ => none
def cnM (c : A) : Cnt → Cnt
  | some (xs, rds, ios) => some (c :: xs, rds, ios)
  | none => none
def cnI (id : Id) : Option Root → Cnt → Cnt
  | some ⟨_, b, cs, _⟩, some (xs, rds, ios) => gi (b = 1) (some (.agg cs :: xs, rds, (id, []) :: ios))
  | _, _ => none
def cnL (n : Nat) : Option (A × List (Id × List Nat)) → Cnt → Cnt
  | some (c, es), some (xs, rds, ios) => if es.length = n then some (c :: xs, rds, es ++ ios) else none
  | _, _ => none
theorem cnt_n : contsOf hp [] [] [] = some ([], [], []) := rfl
theorem cnt_r (ks : List Kind) (v : A) (vs cs : List A) : contsOf hp (.ro :: ks) (v :: vs) cs = cnR (snap hp v) (contsOf hp ks vs cs) := by
  simp only [contsOf, cnR]
  cases snap hp v <;> first | rfl | (cases contsOf hp ks vs cs <;> rfl)
theorem cnt_m (ks : List Kind) (v c : A) (vs cs : List A) : contsOf hp (.mv :: ks) (v :: vs) (c :: cs) = cnM c (contsOf hp ks vs cs) := by
  simp only [contsOf, cnM]
  cases contsOf hp ks vs cs <;> rfl
theorem cnt_i (ks : List Kind) (id : Id) (ver : Nat) (vs cs : List A) : contsOf hp (.io :: ks) (.ptr id [] ver 0 :: vs) cs = cnI id (hp id) (contsOf hp ks vs cs) := by
  simp only [contsOf, cnI]
  cases hp id with
  | none => rfl
  | some r =>
    simp only [gi]
    cases contsOf hp ks vs cs <;> simp
theorem cnt_l (n : Nat) (ks : List Kind) (v : A) (vs cs : List A) : contsOf hp (.ln n :: ks) (v :: vs) cs = cnL n (lnVal hp v) (contsOf hp ks vs cs) := by
  simp only [contsOf, cnL]
  cases lnVal hp v with
  | none => rfl
  | some x =>
    simp only
    cases contsOf hp ks vs cs <;> simp
theorem cnR_s (c : A) (rd : List Id) (xs : List A) (rds : List Id) (ios : List (Id × List Nat)) : cnR (some (c, rd)) (some (xs, rds, ios)) = some (c :: xs, rd ++ rds, ios) := rfl
theorem cnM_s (c : A) (xs : List A) (rds : List Id) (ios : List (Id × List Nat)) : cnM c (some (xs, rds, ios)) = some (c :: xs, rds, ios) := rfl
theorem cnI_s (id : Id) (a b : Nat) (cs : List A) (v : Nat → Nat) (xs : List A) (rds : List Id) (ios : List (Id × List Nat)) : cnI id (some ⟨a, b, cs, v⟩) (some (xs, rds, ios)) = gi (b = 1) (some (.agg cs :: xs, rds, (id, []) :: ios)) := rfl
theorem cnL_s (n : Nat) (c : A) (es : List (Id × List Nat)) (xs : List A) (rds : List Id) (ios : List (Id × List Nat)) : cnL n (some (c, es)) (some (xs, rds, ios)) = if es.length = n then some (c :: xs, rds, es ++ ios) else none := rfl

def snR (id : Id) (off sz len : Nat) : Option (Nat × Nat × List A) → Option (A × List Id)
  | some (a, b, cs) => gi (sz = a ∧ off + len * sz ≤ b * a) (some (.s false sz len (normL (rng cs off (len * sz))), [id]))
  | none => none
theorem snap_i (k : IntKind) (n : Int) : snap hp (.i k n) = some (.i k n, []) := rfl
theorem snap_b (v : Bool) : snap hp (.b v) = some (.b v, []) := rfl
theorem snap_s (o : Bool) (sz len : Nat) (cs : List A) : snap hp (.s o sz len cs) = some (.s false sz len (normL cs), []) := rfl
theorem snap_r (id : Id) (p : List Nat) (v off sz len : Nat) : snap hp (.ref id p v off sz len) = snR id off sz len (node hp id p v) := by
  simp only [snap, snap1, snR, gi]
  cases node hp id p v <;> rfl
def snA : Option (List A × List Id) → Option (A × List Id)
  | some (cs, rd) => some (.agg cs, rd)
  | none => none
theorem snap_a (xs : List A) : snap hp (.agg xs) = snA (snapL hp xs) := by
  simp only [snap, snA]
  cases snapL hp xs <;> rfl
theorem snA_s (cs : List A) (rd : List Id) : snA (some (cs, rd)) = some (.agg cs, rd) := rfl
def snC : Option (A × List Id) → Option (List A × List Id) → Option (List A × List Id)
  | some (c, rd), some (cs, rds) => some (c :: cs, rd ++ rds)
  | _, _ => none
theorem snapL_n : snapL hp [] = some ([], []) := rfl
theorem snapL_c (v : A) (vs : List A) : snapL hp (v :: vs) = snC (snap1 hp v) (snapL hp vs) := by
  simp only [snapL, snC]
  cases snap1 hp v <;> first | rfl | (cases snapL hp vs <;> rfl)
theorem snC_s (c : A) (rd : List Id) (cs : List A) (rds : List Id) : snC (some (c, rd)) (some (cs, rds)) = some (c :: cs, rd ++ rds) := rfl
theorem snap1_i (k : IntKind) (n : Int) : snap1 hp (.i k n) = some (.i k n, []) := rfl
theorem snap1_b (v : Bool) : snap1 hp (.b v) = some (.b v, []) := rfl
theorem snap1_s (o : Bool) (sz len : Nat) (cs : List A) : snap1 hp (.s o sz len cs) = some (.s false sz len (normL cs), []) := rfl
theorem snap1_r (id : Id) (p : List Nat) (v off sz len : Nat) : snap1 hp (.ref id p v off sz len) = snR id off sz len (node hp id p v) := by
  simp only [snap1, snR, gi]
  cases node hp id p v <;> rfl
theorem snR_s (id : Id) (off sz len a b : Nat) (cs : List A) : snR id off sz len (some (a, b, cs)) = gi (sz = a ∧ off + len * sz ≤ b * a) (some (.s false sz len (normL (rng cs off (len * sz))), [id])) := rfl
theorem normL_n : normL [] = [] := rfl

abbrev Lnt := Option (A × List (Id × List Nat))
def lnR (id : Id) (p : List Nat) (off sz len : Nat) : Option (Nat × Nat × List A) → Lnt
  | some (a, b, cs) => gi (off = 0 ∧ sz = a ∧ len = b) (some (.s true sz len cs, [(id, p)]))
  | none => none
theorem lnV_r (id : Id) (p : List Nat) (v off sz len : Nat) : lnVal hp (.ref id p v off sz len) = lnR id p off sz len (node hp id p v) := by
  simp only [lnVal, lnCell, lnR, gi]
  cases node hp id p v <;> rfl
theorem lnC_r (id : Id) (p : List Nat) (v off sz len : Nat) : lnCell hp (.ref id p v off sz len) = lnR id p off sz len (node hp id p v) := by
  simp only [lnCell, lnR, gi]
  cases node hp id p v <;> rfl
theorem lnC_i (k : IntKind) (n : Int) : lnCell hp (.i k n) = some (.i k n, []) := rfl
theorem lnR_s (id : Id) (p : List Nat) (off sz len a b : Nat) (cs : List A) : lnR id p off sz len (some (a, b, cs)) = gi (off = 0 ∧ sz = a ∧ len = b) (some (.s true sz len cs, [(id, p)])) := rfl
def lnA : Option (List A × List (Id × List Nat)) → Lnt
  | some (cs, es) => some (.agg cs, es)
  | none => none
theorem lnV_a (xs : List A) : lnVal hp (.agg xs) = lnA (lnCells hp xs) := by
  simp only [lnVal, lnA]
  cases lnCells hp xs <;> rfl
theorem lnA_s (cs : List A) (es : List (Id × List Nat)) : lnA (some (cs, es)) = some (.agg cs, es) := rfl
def lnK : Lnt → Option (List A × List (Id × List Nat)) → Option (List A × List (Id × List Nat))
  | some (c, e), some (cs, es) => some (c :: cs, e ++ es)
  | _, _ => none
theorem lnCs_n : lnCells hp [] = some ([], []) := rfl
theorem lnCs_c (v : A) (vs : List A) : lnCells hp (v :: vs) = lnK (lnCell hp v) (lnCells hp vs) := by
  simp only [lnCells, lnK]
  cases lnCell hp v <;> first | rfl | (cases lnCells hp vs <;> rfl)
theorem lnK_s (c : A) (e : List (Id × List Nat)) (cs : List A) (es : List (Id × List Nat)) : lnK (some (c, e)) (some (cs, es)) = some (c :: cs, e ++ es) := rfl

def ouP (e : Id × List Nat) (cs : List A) (r : Root) (us : List (Id × Option Root)) : Option (Nat × Nat × List A) → Option (List (Id × Option Root))
  | some x => gi (cs.length = x.2.2.length) (some ((e.1, some (lentRoot r e.2 cs)) :: us))
  | none => none
def ouR (e : Id × List Nat) (cs : List A) : Option Root → Option (List (Id × Option Root)) → Option (List (Id × Option Root))
  | some ⟨a, b, xs, v⟩, some us => ouP e cs ⟨a, b, xs, v⟩ us (getP a b xs e.2)
  | _, _ => none
theorem outs_n : outsOf hp [] [] = some [] := rfl
theorem outs_c (e : Id × List Nat) (es : List (Id × List Nat)) (cs : List A) (outs : List (List A)) : outsOf hp (e :: es) (cs :: outs) = ouR e cs (hp e.1) (outsOf hp es outs) := by
  simp only [outsOf, ouR]
  cases hp e.1 with
  | none => rfl
  | some r =>
    cases outsOf hp es outs with
    | none => rfl
    | some us =>
      simp only [ouP, gi]
      cases getP r.sz r.len r.cs e.2 <;> rfl
theorem ouR_s (e : Id × List Nat) (cs : List A) (a b : Nat) (xs : List A) (v : Nat → Nat) (us : List (Id × Option Root)) : ouR e cs (some ⟨a, b, xs, v⟩) (some us) = ouP e cs ⟨a, b, xs, v⟩ us (getP a b xs e.2) := rfl
theorem ouP_s (e : Id × List Nat) (cs : List A) (r : Root) (us : List (Id × Option Root)) (a b : Nat) (xs : List A) : ouP e cs r us (some (a, b, xs)) = gi (cs.length = xs.length) (some ((e.1, some (lentRoot r e.2 cs)) :: us)) := rfl
theorem getP_n (a b : Nat) (cs : List A) : getP a b cs [] = some (a, b, cs) := rfl
theorem getP_1 (a b c : Nat) (cs : List A) : getP a b cs [c] = ndc cs[c]? := by
  simp only [getP]
  cases hc : cs[c]? with
  | none => rfl
  | some x =>
    cases x with
    | s o s l xs => cases o <;> rfl
    | _ => rfl
theorem lent_e (a b : Nat) (xs cs : List A) (v : Nat → Nat) (p : List Nat) : lentRoot ⟨a, b, xs, v⟩ p cs = ⟨a, b, modP (fun _ => cs) p xs, bumpL v p⟩ := rfl

theorem plant_i (k : IntKind) (n : Int) : plant m (.i k n) = (.i k n, []) := rfl
theorem plant_b (v : Bool) : plant m (.b v) = (.b v, []) := rfl
theorem plant_t (sz len : Nat) (cs : List A) : plant m (.s true sz len cs) = (.ref (m, 0) [] 0 0 sz len, [((m, 0), some ⟨sz, len, cs, fun _ => 0⟩)]) := rfl
theorem plant_f (sz len : Nat) (cs : List A) : plant m (.s false sz len cs) = (.s false sz len cs, []) := rfl
theorem plant_a (xs : List A) : plant m (.agg xs) = (.agg (plantL m 0 xs).1, (plantL m 0 xs).2) := rfl
theorem plant_e (cs : List A) : plant m (.ep cs) = (.ptr (m, 0) [] 0 0, [((m, 0), some ⟨cs.length, 1, cs, fun _ => 0⟩)]) := rfl
theorem plant_u (xs : List A) : plant m (.tup xs) = (.tup (plantT m 0 xs).1, (plantT m 0 xs).2) := rfl
theorem pT_n (k : Nat) : plantT m k [] = ([], []) := rfl
theorem pT_c (k : Nat) (v : A) (vs : List A) : plantT m k (v :: vs) = ((plant1 m k v).1 :: (plantT m (k + (cellsA v).length) vs).1, (plant1 m k v).2 ++ (plantT m (k + (cellsA v).length) vs).2) := rfl
theorem p1_i (k : Nat) (kd : IntKind) (n : Int) : plant1 m k (.i kd n) = (.i kd n, []) := rfl
theorem p1_b (k : Nat) (v : Bool) : plant1 m k (.b v) = (.b v, []) := rfl
theorem p1_t (k sz len : Nat) (cs : List A) : plant1 m k (.s true sz len cs) = (.ref (m, k) [] 0 0 sz len, [((m, k), some ⟨sz, len, cs, fun _ => 0⟩)]) := rfl
theorem p1_f (k sz len : Nat) (cs : List A) : plant1 m k (.s false sz len cs) = (.s false sz len cs, []) := rfl
theorem p1_a (k : Nat) (xs : List A) : plant1 m k (.agg xs) = (.agg (plantL m k xs).1, (plantL m k xs).2) := rfl
theorem pL_n (k : Nat) : plantL m k [] = ([], []) := rfl
theorem pL_i (k : Nat) (kd : IntKind) (n : Int) (vs : List A) : plantL m k (.i kd n :: vs) = (.i kd n :: (plantL m (k + 1) vs).1, (plantL m (k + 1) vs).2) := rfl
theorem pL_b (k : Nat) (v : Bool) (vs : List A) : plantL m k (.b v :: vs) = (.b v :: (plantL m (k + 1) vs).1, (plantL m (k + 1) vs).2) := rfl
theorem pL_t (k sz len : Nat) (cs : List A) (vs : List A) : plantL m k (.s true sz len cs :: vs) = (.ref (m, k) [] 0 0 sz len :: (plantL m (k + 1) vs).1, ((m, k), some ⟨sz, len, cs, fun _ => 0⟩) :: (plantL m (k + 1) vs).2) := rfl
theorem pL_f (k sz len : Nat) (cs : List A) (vs : List A) : plantL m k (.s false sz len cs :: vs) = (.s false sz len cs :: (plantL m (k + 1) vs).1, (plantL m (k + 1) vs).2) := rfl
end

/-! ### The end -/

section
variable {T : Nat → Option TI} {hp : Hp}
def fiO (r : A) : Option (List (List A)) → Out1
  | some outs => some (r, outs)
  | none => none
def fiV (hp : Hp) (shs : List (Nat × Nat)) : Option (A × List (Id × Option Root)) → Out1
  | some (r, us) => fiO r (iosOf (applyH hp us) 0 shs)
  | none => none
def fiR (hp : Hp) (shs : List (Nat × Nat)) : Option (List A) → Out1
  | some vs => fiV hp shs (finV hp vs)
  | none => none
theorem finalA_e (rs : List ResultVar) (shs : List (Nat × Nat)) (st : St) : finalA T rs shs st = fiR st.hp shs (ressOf T st rs) := by
  simp only [finalA, fiR]
  cases ressOf T st rs with
  | none => rfl
  | some vs =>
    simp only [fiV]
    cases finV st.hp vs with
    | none => rfl
    | some x =>
      obtain ⟨r, us⟩ := x
      simp only [fiO]
      cases iosOf (applyH st.hp us) 0 shs <;> rfl
theorem fiR_s (shs : List (Nat × Nat)) (vs : List A) : fiR hp shs (some vs) = fiV hp shs (finV hp vs) := rfl
theorem fiV_s (shs : List (Nat × Nat)) (r : A) (us : List (Id × Option Root)) : fiV hp shs (some (r, us)) = fiO r (iosOf (applyH hp us) 0 shs) := rfl
theorem fiO_s (r : A) (outs : List (List A)) : fiO r (some outs) = some (r, outs) := rfl
def rsC (v : A) : Option (List A) → Option (List A)
  | some vs => some (v :: vs)
  | none => none
theorem ress_n (st : St) : ressOf T st [] = some [] := rfl
theorem ress_c (st : St) (t : Nat) (rs : List ResultVar) : ressOf T st (.tmp t :: rs) = rsC (st.sl t) (ressOf T st rs) := by
  simp only [ressOf, resOf, rsC]
  cases ressOf T st rs <;> rfl
theorem rsC_s (v : A) (vs : List A) : rsC v (some vs) = some (v :: vs) := rfl
def rsE : Option Eff → Option (List A) → Option (List A)
  | some e, some vs => some (e.val :: vs)
  | _, _ => none
theorem ress_l (st : St) (a t : Nat) (rs : List ResultVar) : ressOf T st (.cell a t :: rs) = rsE (ldT st.hp (st.sl a) (T t)) (ressOf T st rs) := by
  simp only [ressOf, resOf, ldT]
  cases T t with
  | none => rfl
  | some ti =>
    simp only
    cases loadA ti st.hp (st.sl a) with
    | none => simp [rsE]
    | some e => cases ressOf T st rs <;> simp [rsE]
theorem rsE_s (v : A) (us : List (Id × Option Root)) (rd : List Id) (vs : List A) : rsE (some ⟨v, us, rd⟩) (some vs) = some (v :: vs) := rfl
theorem rsE_p (v : A) (vs : List A) : rsE (some (.pure v)) (some vs) = some (v :: vs) := rfl
def fnL (vs : List A) : ClL → Option (A × List (Id × Option Root))
  | some (cs, us, _) => some (tupOf (regroup vs cs), us)
  | none => none
theorem finV_0 : finV hp [] = some (.tup [], []) := rfl
def fnU (us0 : List (Id × Option Root)) : Option (A × List (Id × Option Root)) → Option (A × List (Id × Option Root))
  | some (r, us) => some (r, us0 ++ us)
  | none => none
def fnF (hp : Hp) (vs : List A) : Option (List A × List (Id × Option Root)) → Option (A × List (Id × Option Root))
  | some (xs, us) => fnU us (fnL vs (closeL (applyH hp us) xs))
  | none => none
theorem fnF_s (vs xs : List A) (us : List (Id × Option Root)) : fnF hp vs (some (xs, us)) = fnU us (fnL vs (closeL (applyH hp us) xs)) := rfl
theorem fnU_s (us0 us : List (Id × Option Root)) (r : A) : fnU us0 (some (r, us)) = some (r, us0 ++ us) := rfl
theorem finV_w (vs : List A) (h : ∀ id p ver off, vs ≠ [.ptr id p ver off]) : finV hp vs = fnF hp vs (frzL hp (flatA vs)) := by
  unfold finV
  split
  · exact (h _ _ _ _ rfl).elim
  · cases frzL hp (flatA vs) with
    | none => rfl
    | some x =>
      obtain ⟨xs, us⟩ := x
      simp only [fnF, fnL]
      cases closeL (applyH hp us) xs <;> rfl
theorem finV_2 (v w : A) (vs : List A) : finV hp (v :: w :: vs) = fnF hp (v :: w :: vs) (frzL hp (flatA (v :: w :: vs))) := finV_w _ (by simp)
theorem fin1 {v : A} (h : ∀ id p ver off, v ≠ .ptr id p ver off) : finV hp [v] = fnF hp [v] (frzL hp (flatA [v])) := finV_w _ (by simpa using h)
theorem finV_i (k : IntKind) (n : Int) : finV hp [.i k n] = fnF hp [.i k n] (frzL hp (flatA [.i k n])) := fin1 (by simp)
theorem finV_b (v : Bool) : finV hp [.b v] = fnF hp [.b v] (frzL hp (flatA [.b v])) := fin1 (by simp)
theorem finV_s (o : Bool) (sz len : Nat) (cs : List A) : finV hp [.s o sz len cs] = fnF hp [.s o sz len cs] (frzL hp (flatA [.s o sz len cs])) := fin1 (by simp)
theorem finV_r (id : Id) (p : List Nat) (v off sz len : Nat) : finV hp [.ref id p v off sz len] = fnF hp [.ref id p v off sz len] (frzL hp (flatA [.ref id p v off sz len])) := fin1 (by simp)
theorem finV_a (xs : List A) : finV hp [.agg xs] = fnF hp [.agg xs] (frzL hp (flatA [.agg xs])) := fin1 (by simp)
def fzD (c : A) (us : List (Id × Option Root)) : Option (List A × List (Id × Option Root)) → Option (List A × List (Id × Option Root))
  | some (cs, us') => some (c :: cs, us ++ us')
  | none => none
def fzC (hp : Hp) (vs : List A) : Option (A × List (Id × Option Root)) → Option (List A × List (Id × Option Root))
  | some (c, us) => fzD c us (frzL (applyH hp us) vs)
  | none => none
def fzR (id : Id) : Option (A × List Id) → Option (A × List (Id × Option Root))
  | some (c, _) => some (c, [(id, none)])
  | none => none
theorem frzL_n : frzL hp [] = some ([], []) := rfl
theorem frzL_c (v : A) (vs : List A) : frzL hp (v :: vs) = fzC hp vs (frz1 hp v) := by
  simp only [frzL, fzC]
  cases frz1 hp v with
  | none => rfl
  | some x =>
    simp only [fzD]
    cases frzL (applyH hp x.2) vs <;> rfl
theorem fzC_s (vs : List A) (c : A) (us : List (Id × Option Root)) : fzC hp vs (some (c, us)) = fzD c us (frzL (applyH hp us) vs) := rfl
theorem fzD_s (c : A) (us us' : List (Id × Option Root)) (cs : List A) : fzD c us (some (cs, us')) = some (c :: cs, us ++ us') := rfl
theorem fzR_s (id : Id) (c : A) (rd : List Id) : fzR id (some (c, rd)) = some (c, [(id, none)]) := rfl
theorem frz_i (k : IntKind) (n : Int) : frz1 hp (.i k n) = some (.i k n, []) := rfl
theorem frz_b (v : Bool) : frz1 hp (.b v) = some (.b v, []) := rfl
theorem frz_s (o : Bool) (sz len : Nat) (cs : List A) : frz1 hp (.s o sz len cs) = some (.s o sz len cs, []) := rfl
theorem frz_r0 (id : Id) (p : List Nat) (v sz len : Nat) : frz1 hp (.ref id p v 0 sz len) = some (.ref id p v 0 sz len, []) := by
  cases p <;> rfl
theorem frz_r1 (id : Id) (v off sz len : Nat) (h : off ≠ 0) : frz1 hp (.ref id [] v off sz len) = fzR id (snap1 hp (.ref id [] v off sz len)) := by
  cases off with
  | zero => exact (h rfl).elim
  | succ off =>
    simp only [frz1, fzR]
    cases snap1 hp (.ref id [] v (off + 1) sz len) <;> rfl
theorem fnL_s (vs cs : List A) (us : List (Id × Option Root)) (rd : List Id) : fnL vs (some (cs, us, rd)) = some (tupOf (regroup vs cs), us) := rfl
theorem flatA_n : flatA [] = [] := rfl
theorem flatA_c (v : A) (vs : List A) : flatA (v :: vs) = cellsA v ++ flatA vs := rfl
theorem rg_n (cs : List A) : regroup [] cs = [] := rfl
theorem rg_a (xs : List A) (vs cs : List A) : regroup (.agg xs :: vs) cs = .agg (cs.take xs.length) :: regroup vs (cs.drop xs.length) := rfl
theorem rg_i (k : IntKind) (n : Int) (vs : List A) (c : A) (cs : List A) : regroup (.i k n :: vs) (c :: cs) = c :: regroup vs cs := rfl
theorem rg_b (v : Bool) (vs : List A) (c : A) (cs : List A) : regroup (.b v :: vs) (c :: cs) = c :: regroup vs cs := rfl
theorem rg_s (o : Bool) (sz len : Nat) (xs : List A) (vs : List A) (c : A) (cs : List A) : regroup (.s o sz len xs :: vs) (c :: cs) = c :: regroup vs cs := rfl
theorem rg_r (id : Id) (p : List Nat) (v off sz len : Nat) (vs : List A) (c : A) (cs : List A) : regroup (.ref id p v off sz len :: vs) (c :: cs) = c :: regroup vs cs := rfl
theorem tupOf_1 (v : A) : tupOf [v] = v := rfl
theorem tupOf_0 : tupOf [] = .tup [] := rfl
theorem tupOf_2 (v w : A) (vs : List A) : tupOf (v :: w :: vs) = .tup (v :: w :: vs) := rfl
def ioC (sh : Nat × Nat) : Option Root → Option (List (List A)) → Option (List (List A))
  | some ⟨a, b, cs, _⟩, some os => gi (a = sh.1 ∧ b = sh.2) (some (cs :: os))
  | _, _ => none
theorem ios_n (t : Nat) : iosOf hp t [] = some [] := rfl
theorem ios_c (t : Nat) (sh : Nat × Nat) (shs : List (Nat × Nat)) : iosOf hp t (sh :: shs) = ioC sh (hp (2, t)) (iosOf hp (t + 1) shs) := by
  simp only [iosOf, ioC]
  cases hp (2, t) with
  | none => rfl
  | some r =>
    cases iosOf hp (t + 1) shs with
    | none => rfl
    | some cs => rfl
theorem ioC_s (sh : Nat × Nat) (a b : Nat) (cs : List A) (v : Nat → Nat) (os : List (List A)) : ioC sh (some ⟨a, b, cs, v⟩) (some os) = gi (a = sh.1 ∧ b = sh.2) (some (cs :: os)) := rfl
theorem shs_n (ks : List Kind) : shsOf ks [] = [] := by cases ks with
  | nil => rfl
  | cons k ks => cases k <;> rfl
theorem shs_r (ks : List Kind) (v : A) (vs : List A) : shsOf (.ro :: ks) (v :: vs) = shsOf ks vs := rfl
theorem shs_m (ks : List Kind) (v : A) (vs : List A) : shsOf (.mv :: ks) (v :: vs) = shsOf ks vs := rfl
theorem shs_i (ks : List Kind) (v : A) (vs : List A) : shsOf (.io :: ks) (v :: vs) = ((cellsA v).length, 1) :: shsOf ks vs := rfl
theorem shs_l (n : Nat) (ks : List Kind) (v : A) (vs : List A) : shsOf (.ln n :: ks) (v :: vs) = lnShs (cellsA v) ++ shsOf ks vs := rfl
theorem lnS_n : lnShs [] = [] := rfl
theorem lnS_t (sz len : Nat) (xs cs : List A) : lnShs (.s true sz len xs :: cs) = (sz, len) :: lnShs cs := rfl
theorem lnS_i (k : IntKind) (n : Int) (cs : List A) : lnShs (.i k n :: cs) = lnShs cs := rfl
end

end Go.TM
