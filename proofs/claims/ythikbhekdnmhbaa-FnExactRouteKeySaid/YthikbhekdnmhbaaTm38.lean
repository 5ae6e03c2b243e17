/- The tree machine, 38: rows of triples; bytes. -/
import Derived.Test.YthikbhekdnmhbaaTm37
namespace Go.TM
set_option linter.unusedVariables false
set_option linter.unusedSimpArgs false

abbrev Op3 := Int × Int × Int
def eOp (p : Op3) : List A := [eI p.1, eI p.2.1, eI p.2.2]
abbrev eOps (o : Bool) (ps : List Op3) : A := .s o 3 ps.length (ps.flatMap eOp)

def dOps : List A → Option (List Op3)
  | [] => some []
  | a :: b :: c :: cs => match dI a, dI b, dI c, dOps cs with
    | some x, some y, some z, some ps => some ((x, y, z) :: ps)
    | _, _, _, _ => none
  | _ => none

theorem dOps_e : ∀ ps : List Op3, dOps (ps.flatMap eOp) = some ps
  | [] => rfl
  | p :: ps => by simp [List.flatMap_cons, eOp, dOps, dI, dOps_e ps]

theorem dOps_some : ∀ {cs : List A} {ps : List Op3}, dOps cs = some ps → cs = ps.flatMap eOp
  | [], _, h => by cases h; rfl
  | [_], _, h => by cases h
  | [_, _], _, h => by cases h
  | a :: b :: c :: cs, ps, h => by
    unfold dOps at h
    split at h
    · rename_i x y z ps' h1 h2 h3 h4
      cases h
      rw [dI_some h1, dI_some h2, dI_some h3, dOps_some h4]; rfl
    · cases h

theorem flatOp_len (ps : List Op3) : (ps.flatMap eOp).length = ps.length * 3 := by
  induction ps with
  | nil => rfl
  | cons p ps ih => simp [List.flatMap_cons, eOp, ih]; omega

def cOps (o : Bool) : Cod (List Op3) where
  e ps := eOps o ps
  d
    | .s o' sz len cs => if o' = o ∧ sz = 3 ∧ len * 3 = cs.length then dOps cs else none
    | _ => none
  de ps := by
    show (if o = o ∧ 3 = 3 ∧ ps.length * 3 = (ps.flatMap eOp).length then dOps (ps.flatMap eOp) else none) = some ps
    rw [if_pos ⟨rfl, rfl, (flatOp_len ps).symm⟩]; exact dOps_e ps
  ed a ps h := by
    split at h
    · split at h
      · rename_i hc
        obtain ⟨rfl, rfl, hl⟩ := hc
        have := dOps_some h
        rw [this, flatOp_len] at hl
        rw [this, Nat.eq_of_mul_eq_mul_right (by omega) hl]
      · cases h
    · cases h
def cOp : Cod Op3 where
  e p := .agg (eOp p)
  d
    | .agg [a, b, c] => match dI a, dI b, dI c with
      | some x, some y, some z => some (x, y, z)
      | _, _, _ => none
    | _ => none
  de p := rfl
  ed a p h := by
    split at h
    · split at h
      · rename_i h1 h2 h3
        cases h
        rw [dI_some h1, dI_some h2, dI_some h3]; rfl
      · cases h
    · cases h

theorem cOps_d {o : Bool} {n : Nat} {xs : List Op3} (h : n = xs.length) : (cOps o).d (.s o 3 n (xs.flatMap eOp)) = some xs := by rw [h]; exact (cOps o).de xs
theorem cOps_nil {o : Bool} : (cOps o).d (.s o 3 0 []) = some [] := (cOps o).de []
theorem cOp_d (x y z : Int) : cOp.d (.agg [.i .i64 x, .i .i64 y, .i .i64 z]) = some (x, y, z) := rfl
theorem cOps_e (o : Bool) (xs : List Op3) : (cOps o).e xs = .s o 3 xs.length (xs.flatMap eOp) := rfl
theorem cOp_e (x : Op3) : cOp.e x = .agg [eI x.1, eI x.2.1, eI x.2.2] := rfl
theorem normL_ops (xs : List Op3) : normL (xs.flatMap eOp) = xs.flatMap eOp := by rw [normL_flat]; rfl
theorem imm_ops (xs : List Op3) : (xs.flatMap eOp).map imm1 = xs.flatMap eOp := by
  induction xs with
  | nil => rfl
  | cons x xs ih => simp only [List.flatMap_cons, List.map_append, ih]; rfl

theorem drop_ops : ∀ (xs : List Op3) (k : Nat), (xs.flatMap eOp).drop (k * 3) = (xs.drop k).flatMap eOp
  | [], k => by simp
  | x :: xs, 0 => by simp
  | x :: xs, k + 1 => by
    have := drop_ops xs k
    rw [show (k + 1) * 3 = 3 + k * 3 from by omega, List.flatMap_cons, ← List.drop_drop]
    simpa [eOp] using this
theorem get_op {xs : List Op3} {k j : Nat} (h : k < xs.length) (hj : j < 3) : (xs.flatMap eOp)[k * 3 + j]? = (eOp (xs.getD k default))[j]? := by
  rw [← List.getElem?_drop, drop_ops, drop_head h, List.flatMap_cons, List.getElem?_append_left (by simpa [eOp] using hj)]
theorem get_op0 {xs : List Op3} {k : Nat} (h : k < xs.length) : (xs.flatMap eOp)[k * 3]? = some (eI (xs.getD k default).1) := get_op (j := 0) h (by omega)
theorem get_op1 {xs : List Op3} {k : Nat} (h : k < xs.length) : (xs.flatMap eOp)[k * 3 + 1]? = some (eI (xs.getD k default).2.1) := get_op (j := 1) h (by omega)
theorem get_op2 {xs : List Op3} {k : Nat} (h : k < xs.length) : (xs.flatMap eOp)[k * 3 + 2]? = some (eI (xs.getD k default).2.2) := get_op (j := 2) h (by omega)
theorem rng_op {xs : List Op3} {k : Nat} (h : k < xs.length) : rng (xs.flatMap eOp) (k * 3) 3 = eOp (xs.getD k default) := by
  unfold rng
  rw [drop_ops, drop_head h, List.flatMap_cons]
  simp [eOp]
theorem take_ops : ∀ (xs : List Op3) (k : Nat), (xs.flatMap eOp).take (k * 3) = (xs.take k).flatMap eOp
  | [], k => by simp
  | x :: xs, 0 => by simp
  | x :: xs, k + 1 => by
    have := take_ops xs k
    rw [show (k + 1) * 3 = k * 3 + 3 from by omega, List.flatMap_cons]
    simp only [eOp, List.cons_append, List.nil_append, List.take_succ_cons, List.flatMap_cons]
    rw [this]
theorem rng_ops (xs : List Op3) (a n : Nat) : rng (xs.flatMap eOp) (a * 3) (n * 3) = (sub xs a n).flatMap eOp := by simp [rng, sub, drop_ops, take_ops]
theorem set_op {xs : List Op3} {k : Nat} (h : k < xs.length) (x y z : Int) : setR (k * 3) [.i .i64 x, .i .i64 y, .i .i64 z] (xs.flatMap eOp) = (xs.set k (x, y, z)).flatMap eOp := by
  have : setR (k * 3) (eOp (x, y, z)) (xs.flatMap eOp) = (xs.set k (x, y, z)).flatMap eOp := by
    rw [setR_eq _ _ _ (by rw [flatOp_len]; simp [eOp]; omega)]
    exact set_flat eOp 3 (fun _ => rfl) xs k (x, y, z) h
  exact this
theorem set_row' {xs : List Pr} {k : Nat} (h : k < xs.length) (x y : Int) : setR (k * 2) [.i .i64 x, .i .i64 y] (xs.flatMap ePr) = (xs.set k (x, y)).flatMap ePr := set_row h (x, y)
theorem set_pg' {o : Bool} {xs : List Pg} {k a b c : Nat} {x y z : List Int} (h : k < xs.length) (ha : a = x.length) (hb : b = y.length) (hc : c = z.length) :
    setR (k * 3) [.s o 1 a (x.map eI), .s o 1 b (y.map eI), .s o 1 c (z.map eI)] (xs.flatMap (ePg o)) = (xs.set k ⟨x, y, z⟩).flatMap (ePg o) := by subst ha; subst hb; subst hc; exact set_pg h ⟨x, y, z⟩
attribute [go_sem] cOps_d cOps_nil cOp_d cOps_e cOp_e normL_ops imm_ops get_op0 get_op1 get_op2 rng_op rng_ops set_op set_row' set_pg'

theorem rng_ops0 (xs : List Op3) (n : Nat) : rng (xs.flatMap eOp) 0 (n * 3) = (sub xs 0 n).flatMap eOp := by simpa using rng_ops xs 0 n
theorem rng_rows0 (xs : List Pr) (n : Nat) : rng (xs.flatMap ePr) 0 (n * 2) = (sub xs 0 n).flatMap ePr := by simpa using rng_rows xs 0 n
theorem rng_pgs0 (o : Bool) (xs : List Pg) (n : Nat) : rng (xs.flatMap (ePg o)) 0 (n * 3) = (sub xs 0 n).flatMap (ePg o) := by simpa using rng_pgss o xs 0 n
attribute [go_sem] rng_ops0 rng_rows0 rng_pgs0
theorem setR_2 (a b x y : A) : setR 0 [a, b] [x, y] = [a, b] := rfl
theorem setR_3 (a b c x y z : A) : setR 0 [a, b, c] [x, y, z] = [a, b, c] := rfl
theorem verS_2 (k l : IntKind) (a b : Int) (v : Nat → Nat) (p : List Nat) (off : Nat) : verS [.i k a, .i l b] v p off = v := rfl
theorem verS_3 (k l m : IntKind) (a b c : Int) (v : Nat → Nat) (p : List Nat) (off : Nat) : verS [.i k a, .i l b, .i m c] v p off = v := rfl
attribute [go_sem] setR_2 setR_3 verS_2 verS_3

/-! ### Bytes -/

def e8 (n : Int) : A := .i .u8 n
abbrev eBs (o : Bool) (xs : List Int) : A := .s o 1 xs.length (xs.map e8)
def d8 : A → Option Int
  | .i .u8 n => some n
  | _ => none
def c8 : Cod Int := ⟨e8, d8, fun _ => rfl, fun a n h => by
  unfold d8 at h
  split at h
  · cases h; rfl
  · cases h⟩
theorem cBs_e (o : Bool) (xs : List Int) : (cS o c8).e xs = .s o 1 xs.length (xs.map e8) := rfl
theorem cBs_d {o : Bool} {n : Nat} {xs : List Int} (h : n = xs.length) : (cS o c8).d (.s o 1 n (xs.map e8)) = some xs := by rw [h]; exact (cS o c8).de xs
theorem cBs_nil {o : Bool} : (cS o c8).d (.s o 1 0 []) = some [] := (cS o c8).de []
theorem get_8 {xs : List Int} {k : Nat} (h : k < xs.length) : (xs.map e8)[k]? = some (.i .u8 (xs.getD k 0)) := by
  simp [List.getElem?_map, List.getElem?_eq_getElem h, e8]
theorem rng_8 (xs : List Int) (a n : Nat) : rng (xs.map e8) a n = (sub xs a n).map e8 := by simp [rng, sub, List.map_drop, List.map_take]
theorem imm_8 (xs : List Int) : (xs.map e8).map imm1 = xs.map e8 := by
  induction xs with
  | nil => rfl
  | cons x xs ih => simp only [List.map_cons, ih]; rfl
theorem normL_8 (xs : List Int) : normL (xs.map e8) = xs.map e8 := by
  rw [← flat1, normL_flat]; rfl
attribute [go_sem] cBs_e cBs_d cBs_nil get_8 rng_8 imm_8 normL_8

def tiU8 : TI := ⟨.int .u8, false, 1, 1, [.i .u8 0]⟩
def tiPt (e : Nat) : TI := ⟨.pointer e, false, 1, 8, [.und]⟩
theorem tiU8_z : tiU8.zero = [.i .u8 0] := rfl
theorem tiU8_s : tiU8.sz = 1 := rfl
theorem tiU8_b : tiU8.bytes = 1 := rfl
theorem tiU8_k : tiU8.kind = .int .u8 := rfl
theorem tiU8_f : flatTI tiU8 = true := rfl
theorem ldT_e8 {hp : Hp} (cs : List A) : ldT hp (.ep cs) (some tiU8) = ldE cs[0]? := ld1 (hp := hp) rfl rfl cs
theorem ldT_p8 {hp : Hp} (id : Id) (p : List Nat) (v off : Nat) : ldT hp (.ptr id p v off) (some tiU8) = ldP id p v off (node hp id p v) (hp id) := ld1p (hp := hp) rfl rfl id p v off
/-- Bits that differ. -/
def ixor (x y : Int) : Int := IntKind.i64.wrap (BitVec.ofInt IntKind.i64.bits x ^^^ BitVec.ofInt IntKind.i64.bits y).toNat
theorem bop_xor (kd : K) (x y : Int) : bop kd .xor (.i .i64 x) (.i .i64 y) = some (.pure (.i .i64 (ixor x y))) := by simp [bop, binA, binI, ixor]
theorem get_8' {xs : List Int} {k : Nat} (h : k < xs.length) : ((xs.map e8).drop k)[0]? = some (.i .u8 (xs.getD k 0)) := by
  rw [List.getElem?_drop]
  exact get_8 (by omega)
theorem clean_8 (xs : List Int) : cleanL (xs.map e8) = true := by
  induction xs with
  | nil => rfl
  | cons x xs ih => simp only [List.map_cons, cleanL, ih]; rfl
attribute [go_sem] tiU8_z tiU8_s tiU8_b tiU8_k tiU8_f ldT_e8 ldT_p8 bop_xor
end Go.TM
