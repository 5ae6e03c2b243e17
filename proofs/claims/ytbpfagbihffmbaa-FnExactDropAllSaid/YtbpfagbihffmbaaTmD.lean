/- The tree machine, part D. -/
import Derived.Test.YtbpfagbihffmbaaTmC
import Derived.RowKit
import Derived.RowKit3
import Derived.ProofKit
import Derived.OpenShut
import Derived.Deep.Slices
import Derived.KernelRfl
import Derived.Deep.Draws

/-! The tree machine, 30: how code is run, by rewriting. -/
namespace Go.TM
set_option linter.unusedVariables false
set_option linter.unusedSimpArgs false

/-- A guarded operation. -/
def GG {α : Type} (v want : Bool) (x : Option α) (y : Option α) : Option α := if v = want then x else y
theorem GG_tt {α : Type} (x y : Option α) : GG true true x y = x := rfl
theorem GG_ff {α : Type} (x y : Option α) : GG false false x y = x := rfl
theorem GG_tf {α : Type} (x y : Option α) : GG true false x y = y := rfl
theorem GG_ft {α : Type} (x y : Option α) : GG false true x y = y := rfl

section
variable {T : Nat → Option TI} {G : Nat → Option FM} {DT : Nat → List (Nat × Nat)} {Q : Exit → St → Prop}

/-- The rest of a region, on what the operation at hand has come to. -/
def runK (T : Nat → Option TI) (G : Nat → Option FM) (ops : List Oper) (n i : Nat) (o : Option Eff) (d : Option Nat) (rest : List Oper) (sl : Nat → A) (hp : Hp) (log : Log) (id : Nat) (dr : Bool) (DT : Nat → List (Nat × Nat)) (Q : Exit → St → Prop) : Prop := match o with
  | none => False
  | some e => match runOps T G ops n (i + 1) rest (setDst sl d e.val) (applyH hp e.ups) ((i, e.ups.map (·.1), e.rd) :: log) with
    | some (sl, hp, log) => (dr = true → drawB (DT id) log = true) ∧ Q .normal ⟨sl, hp, n + ops.length⟩
    | none => False

/-- The rest of a region. -/
def runR (T : Nat → Option TI) (G : Nat → Option FM) (ops : List Oper) (n i : Nat) (rest : List Oper) (sl : Nat → A) (hp : Hp) (log : Log) (id : Nat) (dr : Bool) (DT : Nat → List (Nat × Nat)) (Q : Exit → St → Prop) : Prop :=
  match runOps T G ops n i rest sl hp log with
  | some (sl, hp, log) => (dr = true → drawB (DT id) log = true) ∧ Q .normal ⟨sl, hp, n + ops.length⟩
  | none => False

/-- A region in the text's order: nothing is logged. -/
def run0 (T : Nat → Option TI) (G : Nat → Option FM) (ops : List Oper) (n : Nat) : Nat → List Oper → (Nat → A) → Hp → Option ((Nat → A) × Hp)
  | _, [], sl, hp => some (sl, hp)
  | i, o :: rest, sl, hp => match opA T G ops n i o sl hp with
    | none => none
    | some e => run0 T G ops n (i + 1) rest (setDst sl o.dst e.val) (applyH hp e.ups)

theorem runOps_run0 (ops : List Oper) (n : Nat) : ∀ (rest : List Oper) (i : Nat) (sl : Nat → A) (hp : Hp) (log : Log), (runOps T G ops n i rest sl hp log).map (fun x => (x.1, x.2.1)) = run0 T G ops n i rest sl hp
  | [], _, _, _, _ => rfl
  | o :: rest, i, sl, hp, log => by
    unfold runOps run0
    cases opA T G ops n i o sl hp with
    | none => rfl
    | some e => exact runOps_run0 ops n rest (i + 1) _ _ _

def runS (T : Nat → Option TI) (G : Nat → Option FM) (ops : List Oper) (n i : Nat) (rest : List Oper) (sl : Nat → A) (hp : Hp) (Q : Exit → St → Prop) : Prop := match run0 T G ops n i rest sl hp with
  | some (sl, hp) => Q .normal ⟨sl, hp, n + ops.length⟩
  | none => False
def runKS (T : Nat → Option TI) (G : Nat → Option FM) (ops : List Oper) (n i : Nat) (o : Option Eff) (d : Option Nat) (rest : List Oper) (sl : Nat → A) (hp : Hp) (Q : Exit → St → Prop) : Prop := match o with
  | none => False
  | some e => runS T G ops n (i + 1) rest (setDst sl d e.val) (applyH hp e.ups) Q

theorem W_reg_f (id : Nat) (ops : List Oper) (sl : Nat → A) (hp : Hp) (n : Nat) : W T G DT (.region id ops.toArray false) Q ⟨sl, hp, n⟩ = runS T G ops n 0 ops sl hp Q := by
  have := runOps_run0 (T := T) (G := G) ops n ops 0 sl hp []
  simp only [W, runS]
  rw [← this]
  cases runOps T G ops n 0 ops sl hp [] <;> simp

theorem W_reg_t (id : Nat) (ops : List Oper) (sl : Nat → A) (hp : Hp) (n : Nat) : W T G DT (.region id ops.toArray true) Q ⟨sl, hp, n⟩ = runR T G ops n 0 ops sl hp [] id true DT Q := by
  simp only [W, runR]
  cases runOps T G ops n 0 ops sl hp [] <;> simp

theorem opA_plain (ops : List Oper) (n i : Nat) (d : Option Nat) (op : Op) (ty : Nat) (pos : String) (after : Array Edge) (sl : Nat → A) (hp : Hp) : opA T G ops n i ⟨d, op, ty, pos, after, none⟩ sl hp = eff T G (n + i) ty op sl hp := rfl

/-- What a guard has yielded. -/
def gv (ops : List Oper) (sl : Nat → A) (j : Nat) : A := match (ops[j]?).bind (·.dst) with
  | some d => sl d
  | none => .und

def opG (T : Nat → Option TI) (G : Nat → Option FM) (m : Nat) (ty : Nat) (op : Op) (sl : Nat → A) (hp : Hp) (want : Bool) : A → Option Eff
  | .b v => GG v want (eff T G m ty op sl hp) (some (.pure (.tup [])))
  | .tup [] => some (.pure (.tup []))
  | _ => none

theorem opA_guard (ops : List Oper) (n i : Nat) (d : Option Nat) (op : Op) (ty : Nat) (pos : String) (after : Array Edge) (j : Nat) (want : Bool) (sl : Nat → A) (hp : Hp) :
    opA T G ops n i ⟨d, op, ty, pos, after, some (j, want)⟩ sl hp = opG T G (n + i) ty op sl hp want (gv ops sl j) := by
  unfold opA wantedA gv opG
  simp only
  cases hd : (ops[j]?).bind (·.dst) with
  | none => simp
  | some t =>
    simp only
    cases hs : sl t with
    | b v => cases v <;> cases want <;> rfl
    | tup xs => cases xs <;> simp
    | _ => rfl

theorem opG_b (m ty : Nat) (op : Op) (want v : Bool) (sl : Nat → A) (hp : Hp) : opG T G m ty op sl hp want (.b v) = GG v want (eff T G m ty op sl hp) (some (.pure (.tup []))) := rfl
theorem opG_t (m ty : Nat) (op : Op) (want : Bool) (sl : Nat → A) (hp : Hp) : opG T G m ty op sl hp want (.tup []) = some (.pure (.tup [])) := rfl

theorem runR_nil (ops : List Oper) (n i : Nat) (sl : Nat → A) (hp : Hp) (log : Log) (id : Nat) : runR T G ops n i [] sl hp log id true DT Q = (drawB (DT id) log = true ∧ Q .normal ⟨sl, hp, n + ops.length⟩) := by
  simp [runR, runOps]

theorem runR_plain (ops : List Oper) (n i : Nat) (d : Option Nat) (op : Op) (ty : Nat) (pos : String) (after : Array Edge) (rest : List Oper) (sl : Nat → A) (hp : Hp) (log : Log) (id : Nat) (dr : Bool) :
    runR T G ops n i (⟨d, op, ty, pos, after, none⟩ :: rest) sl hp log id dr DT Q = runK T G ops n i (eff T G (n + i) ty op sl hp) d rest sl hp log id dr DT Q := by
  unfold runR runK
  rw [runOps, opA_plain]
  cases eff T G (n + i) ty op sl hp <;> rfl

theorem runR_guard (ops : List Oper) (n i : Nat) (d : Option Nat) (op : Op) (ty : Nat) (pos : String) (after : Array Edge) (j : Nat) (want : Bool) (rest : List Oper) (sl : Nat → A) (hp : Hp) (log : Log) (id : Nat) (dr : Bool) :
    runR T G ops n i (⟨d, op, ty, pos, after, some (j, want)⟩ :: rest) sl hp log id dr DT Q = runK T G ops n i (opG T G (n + i) ty op sl hp want (gv ops sl j)) d rest sl hp log id dr DT Q := by
  unfold runR runK
  rw [runOps, opA_guard]
  cases opG T G (n + i) ty op sl hp want (gv ops sl j) <;> rfl

theorem runK_some (ops : List Oper) (n i : Nat) (v : A) (us : List (Id × Option Root)) (rd : List Id) (d : Option Nat) (rest : List Oper) (sl : Nat → A) (hp : Hp) (log : Log) (id : Nat) (dr : Bool) :
    runK T G ops n i (some ⟨v, us, rd⟩) d rest sl hp log id dr DT Q = runR T G ops n (i + 1) rest (setDst sl d v) (applyH hp us) ((i, us.map (·.1), rd) :: log) id dr DT Q := rfl

theorem runK_pure (ops : List Oper) (n i : Nat) (v : A) (d : Option Nat) (rest : List Oper) (sl : Nat → A) (hp : Hp) (log : Log) (id : Nat) (dr : Bool) :
    runK T G ops n i (some (.pure v)) d rest sl hp log id dr DT Q = runR T G ops n (i + 1) rest (setDst sl d v) hp ((i, [], []) :: log) id dr DT Q := rfl

theorem runK_split {ops : List Oper} {n i : Nat} {v want : Bool} {x y : Option Eff} {d : Option Nat} {rest : List Oper} {sl : Nat → A} {hp : Hp} {log : Log} {id : Nat} {dr : Bool}
    (h1 : v = true → runK T G ops n i (GG true want x y) d rest sl hp log id dr DT Q) (h2 : v = false → runK T G ops n i (GG false want x y) d rest sl hp log id dr DT Q) : runK T G ops n i (GG v want x y) d rest sl hp log id dr DT Q := by
  cases v
  · exact h2 rfl
  · exact h1 rfl

theorem runS_nil (ops : List Oper) (n i : Nat) (sl : Nat → A) (hp : Hp) : runS T G ops n i [] sl hp Q = Q .normal ⟨sl, hp, n + ops.length⟩ := rfl
theorem runS_plain (ops : List Oper) (n i : Nat) (d : Option Nat) (op : Op) (ty : Nat) (pos : String) (after : Array Edge) (rest : List Oper) (sl : Nat → A) (hp : Hp) :
    runS T G ops n i (⟨d, op, ty, pos, after, none⟩ :: rest) sl hp Q = runKS T G ops n i (eff T G (n + i) ty op sl hp) d rest sl hp Q := by
  unfold runS runKS
  rw [run0, opA_plain]
  cases eff T G (n + i) ty op sl hp <;> rfl
theorem runS_guard (ops : List Oper) (n i : Nat) (d : Option Nat) (op : Op) (ty : Nat) (pos : String) (after : Array Edge) (j : Nat) (want : Bool) (rest : List Oper) (sl : Nat → A) (hp : Hp) :
    runS T G ops n i (⟨d, op, ty, pos, after, some (j, want)⟩ :: rest) sl hp Q = runKS T G ops n i (opG T G (n + i) ty op sl hp want (gv ops sl j)) d rest sl hp Q := by
  unfold runS runKS
  rw [run0, opA_guard]
  cases opG T G (n + i) ty op sl hp want (gv ops sl j) <;> rfl
theorem runKS_some (ops : List Oper) (n i : Nat) (v : A) (us : List (Id × Option Root)) (rd : List Id) (d : Option Nat) (rest : List Oper) (sl : Nat → A) (hp : Hp) :
    runKS T G ops n i (some ⟨v, us, rd⟩) d rest sl hp Q = runS T G ops n (i + 1) rest (setDst sl d v) (applyH hp us) Q := rfl
theorem runKS_pure (ops : List Oper) (n i : Nat) (v : A) (d : Option Nat) (rest : List Oper) (sl : Nat → A) (hp : Hp) :
    runKS T G ops n i (some (.pure v)) d rest sl hp Q = runS T G ops n (i + 1) rest (setDst sl d v) hp Q := rfl
theorem runKS_split {ops : List Oper} {n i : Nat} {v want : Bool} {x y : Option Eff} {d : Option Nat} {rest : List Oper} {sl : Nat → A} {hp : Hp}
    (h1 : v = true → runKS T G ops n i (GG true want x y) d rest sl hp Q) (h2 : v = false → runKS T G ops n i (GG false want x y) d rest sl hp Q) : runKS T G ops n i (GG v want x y) d rest sl hp Q := by
  cases v
  · exact h2 rfl
  · exact h1 rfl

/-! ### Code -/

theorem W_seq_e (x y : Code) (st : St) : W T G DT (.seq x y) Q st = W T G DT x (thenA (W T G DT y Q) Q) st := rfl
theorem W_block_e (id : Nat) (c : Code) (st : St) : W T G DT (.block id c) Q st = W T G DT c (inBlockA id Q) st := rfl
theorem W_exit_e (id : Nat) (st : St) : W T G DT (.exit id) Q st = Q (.exit id) st := rfl
theorem W_ret_e (st : St) : W T G DT .ret Q st = Q .ret st := rfl
theorem W_skip_e (st : St) : W T G DT .skip Q st = Q .normal st := rfl

def condW (T : Nat → Option TI) (G : Nat → Option FM) (DT : Nat → List (Nat × Nat)) (v : A) (x y : Code) (Q : Exit → St → Prop) (sl : Nat → A) (hp : Hp) (n : Nat) : Prop := match v with
  | .b true => W T G DT x Q ⟨sl, hp, n⟩
  | .b false => W T G DT y Q ⟨sl, hp, n⟩
  | .ub => W T G DT x Q ⟨sl, hp, n⟩ ∧ W T G DT y Q ⟨sl, hp, n⟩
  | _ => False
theorem W_cond_e (c : Operand) (x y : Code) (sl : Nat → A) (hp : Hp) (n : Nat) : W T G DT (.cond c x y) Q ⟨sl, hp, n⟩ = condW T G DT (ev T sl 0 c) x y Q sl hp n := by
  simp only [W, condW]
  cases ev T sl 0 c with
  | b v => cases v <;> simp
  | _ => rfl
theorem cond_t (x y : Code) (sl : Nat → A) (hp : Hp) (n : Nat) : condW T G DT (.b true) x y Q sl hp n = W T G DT x Q ⟨sl, hp, n⟩ := rfl
theorem cond_f (x y : Code) (sl : Nat → A) (hp : Hp) (n : Nat) : condW T G DT (.b false) x y Q sl hp n = W T G DT y Q ⟨sl, hp, n⟩ := rfl
theorem cond_u (x y : Code) (sl : Nat → A) (hp : Hp) (n : Nat) : condW T G DT .ub x y Q sl hp n = (W T G DT x Q ⟨sl, hp, n⟩ ∧ W T G DT y Q ⟨sl, hp, n⟩) := rfl
theorem cond_split {v : Bool} {x y : Code} {sl : Nat → A} {hp : Hp} {n : Nat} (h1 : v = true → W T G DT x Q ⟨sl, hp, n⟩) (h2 : v = false → W T G DT y Q ⟨sl, hp, n⟩) : condW T G DT (.b v) x y Q sl hp n := by
  cases v
  · exact h2 rfl
  · exact h1 rfl

/-- A loop: an invariant and a measure. -/
theorem W_loop_i {c : Code} {st : St} (I : St → Prop) (μ : St → Nat) (h0 : I st) (h : ∀ sl hp n, I ⟨sl, hp, n⟩ → W T G DT c (thenA (fun s' => I s' ∧ μ s' < μ ⟨sl, hp, n⟩) Q) ⟨sl, hp, n⟩) : W T G DT (.loop c) Q st := ⟨I, μ, h0, fun s hs => h s.sl s.hp s.n hs⟩

theorem thenA_n (f : St → Prop) (st : St) : thenA f Q .normal st = f st := rfl
theorem thenA_r (f : St → Prop) (st : St) : thenA f Q .ret st = Q .ret st := rfl
theorem thenA_e (f : St → Prop) (st : St) (id : Nat) : thenA f Q (.exit id) st = Q (.exit id) st := rfl
theorem inB_n (id : Nat) (st : St) : inBlockA id Q .normal st = Q .normal st := rfl
theorem inB_r (id : Nat) (st : St) : inBlockA id Q .ret st = Q .ret st := rfl
theorem inB_e (id id' : Nat) (st : St) : inBlockA id Q (.exit id') st = if id' = id then Q .normal st else Q (.exit id') st := rfl
end

theorem upd_if {β : Type} (f : Nat → β) (a x : Nat) (v : β) : upd f a v x = if x = a then v else f x := rfl
theorem drawB_nil (log : Log) : drawB [] log = true := rfl

/-! ### Values -/

abbrev eI (n : Int) : A := .i .i64 n
abbrev eIs (o : Bool) (xs : List Int) : A := .s o 1 xs.length (xs.map eI)

theorem wrap_id {n : Int} (h : -9223372036854775808 ≤ n ∧ n ≤ 9223372036854775807) : IntKind.i64.wrap n = n := by
  simp only [IntKind.wrap, IntKind.bits, IntKind.signed]
  simp
  omega

section
variable {T : Nat → Option TI} {G : Nat → Option FM} {hp : Hp}
theorem ofConst_i (ty : Nat) (n : Int) : ofConst T ty (.int .i64 n) = if -2147483648 ≤ n ∧ n ≤ 2147483647 then .i .i64 n else .und := rfl
theorem ofConst_b (ty : Nat) (v : Bool) : ofConst T ty (.bool v) = .b v := rfl
theorem ofConst_nil (ty : Nat) : ofConst T ty (.slice none 0 0) = match T ty with
    | some ti => match ti.kind with
      | .slice e => match T e with
        | some te => .s true te.sz 0 []
        | none => .und
      | _ => .und
    | none => .und := rfl
theorem ev_t (sl : Nat → A) (ty t : Nat) : ev T sl ty (.tmp t) = sl t := rfl
theorem ev_c (sl : Nat → A) (ty : Nat) (v : Value) : ev T sl ty (.const v) = ofConst T ty v := rfl

end
end Go.TM

/-! The tree machine, 31: data by their types, and how they are read and written. -/
namespace Go.TM
set_option linter.unusedVariables false
set_option linter.unusedSimpArgs false

structure Pg where
  keys : List Int
  kids : List Int
  vals : List Int
  deriving DecidableEq, Inhabited

structure Tr where
  root : Int
  pages : List Pg
  deriving DecidableEq, Inhabited

structure Inn where
  keys : List Int
  kids : List Int
  deriving DecidableEq, Inhabited

abbrev Pr := Int × Int

def ePr (p : Pr) : List A := [eI p.1, eI p.2]
def ePg (o : Bool) (p : Pg) : List A := [eIs o p.keys, eIs o p.kids, eIs o p.vals]
abbrev eRow (o : Bool) (ps : List Pr) : A := .s o 2 ps.length (ps.flatMap ePr)
abbrev ePgs (o : Bool) (ps : List Pg) : A := .s o 3 ps.length (ps.flatMap (ePg o))
abbrev eIss (o : Bool) (xs : List (List Int)) : A := .s o 1 xs.length (xs.map (eIs o))
abbrev eTr (o : Bool) (t : Tr) : A := .agg [eI t.root, ePgs o t.pages]
abbrev ePage (o : Bool) (p : Pg) : A := .agg [eIs o p.keys, eIs o p.kids, eIs o p.vals]
abbrev eInn (o : Bool) (x : Inn) : A := .agg [eIs o x.keys, eIs o x.kids]
abbrev ePair (p : Pr) : A := .agg [eI p.1, eI p.2]

/-! ### Codes -/

structure Cod (α : Type) where
  e : α → A
  d : A → Option α
  de : ∀ x, d (e x) = some x
  ed : ∀ a x, d a = some x → a = e x

def dI : A → Option Int
  | .i .i64 n => some n
  | _ => none
def dB : A → Option Bool
  | .b v => some v
  | _ => none

theorem dI_some {a : A} {n : Int} (h : dI a = some n) : a = eI n := by
  unfold dI at h
  split at h
  · cases h; rfl
  · cases h

def cI : Cod Int := ⟨eI, dI, fun _ => rfl, fun _ _ h => dI_some h⟩
def cB : Cod Bool := ⟨.b, dB, fun _ => rfl, fun a x h => by
  unfold dB at h
  split at h
  · cases h; rfl
  · cases h⟩

def dL {α : Type} (d : A → Option α) : List A → Option (List α)
  | [] => some []
  | c :: cs => match d c, dL d cs with
    | some x, some xs => some (x :: xs)
    | _, _ => none

theorem dL_e {α : Type} (c : Cod α) : ∀ xs : List α, dL c.d (xs.map c.e) = some xs
  | [] => rfl
  | x :: xs => by simp [dL, c.de, dL_e c xs]

theorem dL_some {α : Type} (c : Cod α) : ∀ {cs : List A} {xs : List α}, dL c.d cs = some xs → cs = xs.map c.e
  | [], _, h => by cases h; rfl
  | a :: cs, xs, h => by
    unfold dL at h
    split at h
    · rename_i x xs' h1 h2
      cases h
      rw [c.ed _ _ h1, dL_some c h2]; rfl
    · cases h

/-- A slice whose elements have one cell. -/
def cS {α : Type} (o : Bool) (c : Cod α) : Cod (List α) where
  e xs := .s o 1 xs.length (xs.map c.e)
  d
    | .s o' sz len cs => if o' = o ∧ sz = 1 ∧ len = cs.length then dL c.d cs else none
    | _ => none
  de xs := by simp [dL_e]
  ed a xs h := by
    split at h
    · split at h
      · rename_i hc
        obtain ⟨rfl, rfl, rfl⟩ := hc
        have := dL_some c h
        rw [this]; simp
      · cases h
    · cases h

abbrev cIs (o : Bool) : Cod (List Int) := cS o cI
abbrev cIss (o : Bool) : Cod (List (List Int)) := cS o (cIs o)

def dPrs : List A → Option (List Pr)
  | [] => some []
  | a :: b :: cs => match dI a, dI b, dPrs cs with
    | some x, some y, some ps => some ((x, y) :: ps)
    | _, _, _ => none
  | [_] => none

theorem dPrs_e : ∀ ps : List Pr, dPrs (ps.flatMap ePr) = some ps
  | [] => rfl
  | p :: ps => by simp [List.flatMap_cons, ePr, dPrs, dI, dPrs_e ps]

theorem dPrs_some : ∀ {cs : List A} {ps : List Pr}, dPrs cs = some ps → cs = ps.flatMap ePr
  | [], _, h => by cases h; rfl
  | [_], _, h => by cases h
  | a :: b :: cs, ps, h => by
    unfold dPrs at h
    split at h
    · rename_i x y ps' h1 h2 h3
      cases h
      rw [dI_some h1, dI_some h2, dPrs_some h3]; rfl
    · cases h

theorem flatPr_len (ps : List Pr) : (ps.flatMap ePr).length = ps.length * 2 := by
  induction ps with
  | nil => rfl
  | cons p ps ih => simp [List.flatMap_cons, ePr, ih]; omega

def cRow (o : Bool) : Cod (List Pr) where
  e ps := eRow o ps
  d
    | .s o' sz len cs => if o' = o ∧ sz = 2 ∧ len * 2 = cs.length then dPrs cs else none
    | _ => none
  de ps := by
    show (if o = o ∧ 2 = 2 ∧ ps.length * 2 = (ps.flatMap ePr).length then dPrs (ps.flatMap ePr) else none) = some ps
    rw [if_pos ⟨rfl, rfl, (flatPr_len ps).symm⟩]; exact dPrs_e ps
  ed a ps h := by
    split at h
    · split at h
      · rename_i hc
        obtain ⟨rfl, rfl, hl⟩ := hc
        have := dPrs_some h
        rw [this, flatPr_len] at hl
        rw [this, Nat.eq_of_mul_eq_mul_right (by omega) hl]
      · cases h
    · cases h

def dPgs (o : Bool) : List A → Option (List Pg)
  | [] => some []
  | a :: b :: c :: cs => match (cIs o).d a, (cIs o).d b, (cIs o).d c, dPgs o cs with
    | some x, some y, some z, some ps => some (⟨x, y, z⟩ :: ps)
    | _, _, _, _ => none
  | _ => none

theorem cIs_de (o : Bool) (xs : List Int) : (cIs o).d (.s o 1 xs.length (xs.map eI)) = some xs := (cIs o).de xs

theorem dPgs_e (o : Bool) : ∀ ps : List Pg, dPgs o (ps.flatMap (ePg o)) = some ps
  | [] => rfl
  | p :: ps => by
    simp only [List.flatMap_cons, ePg, List.cons_append, List.nil_append, dPgs, cIs_de, dPgs_e o ps]

theorem dPgs_some (o : Bool) : ∀ {cs : List A} {ps : List Pg}, dPgs o cs = some ps → cs = ps.flatMap (ePg o)
  | [], _, h => by cases h; rfl
  | [_], _, h => by simp [dPgs] at h
  | [_, _], _, h => by simp [dPgs] at h
  | a :: b :: c :: cs, ps, h => by
    unfold dPgs at h
    split at h
    · rename_i x y z ps' h1 h2 h3 h4
      cases h
      rw [(cIs o).ed _ _ h1, (cIs o).ed _ _ h2, (cIs o).ed _ _ h3, dPgs_some o h4]; rfl
    · cases h

theorem flatPg_len (o : Bool) (ps : List Pg) : (ps.flatMap (ePg o)).length = ps.length * 3 := by
  induction ps with
  | nil => rfl
  | cons p ps ih => simp [List.flatMap_cons, ePg, ih]; omega

def cPgs (o : Bool) : Cod (List Pg) where
  e ps := ePgs o ps
  d
    | .s o' sz len cs => if o' = o ∧ sz = 3 ∧ len * 3 = cs.length then dPgs o cs else none
    | _ => none
  de ps := by
    show (if o = o ∧ 3 = 3 ∧ ps.length * 3 = (ps.flatMap (ePg o)).length then dPgs o (ps.flatMap (ePg o)) else none) = some ps
    rw [if_pos ⟨rfl, rfl, (flatPg_len o ps).symm⟩]; exact dPgs_e o ps
  ed a ps h := by
    split at h
    · split at h
      · rename_i hc
        obtain ⟨rfl, rfl, hl⟩ := hc
        have := dPgs_some _ h
        rw [this, flatPg_len] at hl
        rw [this, Nat.eq_of_mul_eq_mul_right (by omega) hl]
      · cases h
    · cases h

/-- A struct of two parts. -/
def c2 {α β : Type} (a : Cod α) (b : Cod β) : Cod (α × β) where
  e x := .agg [a.e x.1, b.e x.2]
  d
    | .agg [x, y] => match a.d x, b.d y with
      | some u, some v => some (u, v)
      | _, _ => none
    | _ => none
  de x := by simp [a.de, b.de]
  ed z x h := by
    split at h
    · split at h
      · rename_i h1 h2
        cases h
        rw [a.ed _ _ h1, b.ed _ _ h2]
      · cases h
    · cases h

def cTr (o : Bool) : Cod Tr where
  e t := eTr o t
  d a := ((c2 cI (cPgs o)).d a).map fun x => ⟨x.1, x.2⟩
  de t := by rw [show eTr o t = (c2 cI (cPgs o)).e (t.root, t.pages) from rfl, (c2 cI (cPgs o)).de]; rfl
  ed a t h := by
    rw [Option.map_eq_some_iff] at h
    obtain ⟨x, h1, h2⟩ := h
    rw [(c2 cI (cPgs o)).ed _ _ h1, ← h2]; rfl

def cInn (o : Bool) : Cod Inn where
  e t := eInn o t
  d a := ((c2 (cIs o) (cIs o)).d a).map fun x => ⟨x.1, x.2⟩
  de t := by rw [show eInn o t = (c2 (cIs o) (cIs o)).e (t.keys, t.kids) from rfl, (c2 (cIs o) (cIs o)).de]; rfl
  ed a t h := by
    rw [Option.map_eq_some_iff] at h
    obtain ⟨x, h1, h2⟩ := h
    rw [(c2 (cIs o) (cIs o)).ed _ _ h1, ← h2]; rfl

def cPair : Cod Pr := c2 cI cI

def cPage (o : Bool) : Cod Pg where
  e p := ePage o p
  d
    | .agg [x, y, z] => match (cIs o).d x, (cIs o).d y, (cIs o).d z with
      | some u, some v, some w => some ⟨u, v, w⟩
      | _, _, _ => none
    | _ => none
  de p := by simp only [cIs_de]
  ed a p h := by
    split at h
    · split at h
      · rename_i h1 h2 h3
        cases h
        rw [(cIs o).ed _ _ h1, (cIs o).ed _ _ h2, (cIs o).ed _ _ h3]; rfl
      · cases h
    · cases h

/-! ### Models -/

/-- What is only promised under a condition. -/
def gd {α : Type} (p : Prop) [Decidable p] (x : α) : Option α := if p then some x else none
theorem gd_pos {α : Type} {p : Prop} [Decidable p] (h : p) (x : α) : gd p x = some x := if_pos h
theorem gd_some {α : Type} {p : Prop} [Decidable p] {x y : α} (h : gd p x = some y) : p ∧ x = y := by
  unfold gd at h
  split at h
  · cases h; exact ⟨by assumption, rfl⟩
  · cases h

abbrev Out1 := Option (A × List (List A))

def M1 {α : Type} (k : Kind) (cl : Bool) (a : Cod α) (f : α → Out1) : Model := ⟨[k], cl, fun
  | [x] => (a.d x).bind f
  | _ => none⟩
def M2 {α β : Type} (k l : Kind) (cl : Bool) (a : Cod α) (b : Cod β) (f : α → β → Out1) : Model := ⟨[k, l], cl, fun
  | [x, y] => (a.d x).bind fun u => (b.d y).bind fun v => f u v
  | _ => none⟩
def M3 {α β γ : Type} (k l m : Kind) (cl : Bool) (a : Cod α) (b : Cod β) (c : Cod γ) (f : α → β → γ → Out1) : Model := ⟨[k, l, m], cl, fun
  | [x, y, z] => (a.d x).bind fun u => (b.d y).bind fun v => (c.d z).bind fun w => f u v w
  | _ => none⟩
def M4 {α β γ δ : Type} (k l m n : Kind) (cl : Bool) (a : Cod α) (b : Cod β) (c : Cod γ) (d : Cod δ) (f : α → β → γ → δ → Out1) : Model := ⟨[k, l, m, n], cl, fun
  | [x, y, z, t] => (a.d x).bind fun u => (b.d y).bind fun v => (c.d z).bind fun w => (d.d t).bind fun s => f u v w s
  | _ => none⟩
def M5 {α β γ δ ε : Type} (k l m n p : Kind) (cl : Bool) (a : Cod α) (b : Cod β) (c : Cod γ) (d : Cod δ) (e : Cod ε) (f : α → β → γ → δ → ε → Out1) : Model := ⟨[k, l, m, n, p], cl, fun
  | [x, y, z, t, q] => (a.d x).bind fun u => (b.d y).bind fun v => (c.d z).bind fun w => (d.d t).bind fun s => (e.d q).bind fun r => f u v w s r
  | _ => none⟩

section
variable {α β γ δ ε : Type} {k l m n p : Kind} {cl : Bool} {a : Cod α} {b : Cod β} {c : Cod γ} {d : Cod δ} {e : Cod ε}
theorem M1_fn {f : α → Out1} (x : A) : (M1 k cl a f).fn [x] = (a.d x).bind f := rfl
theorem M2_fn {f : α → β → Out1} (x y : A) : (M2 k l cl a b f).fn [x, y] = (a.d x).bind fun u => (b.d y).bind fun v => f u v := rfl
theorem M3_fn {f : α → β → γ → Out1} (x y z : A) : (M3 k l m cl a b c f).fn [x, y, z] = (a.d x).bind fun u => (b.d y).bind fun v => (c.d z).bind fun w => f u v w := rfl
theorem M4_fn {f : α → β → γ → δ → Out1} (x y z t : A) : (M4 k l m n cl a b c d f).fn [x, y, z, t] = (a.d x).bind fun u => (b.d y).bind fun v => (c.d z).bind fun w => (d.d t).bind fun s => f u v w s := rfl
theorem M5_fn {f : α → β → γ → δ → ε → Out1} (x y z t q : A) : (M5 k l m n p cl a b c d e f).fn [x, y, z, t, q] = (a.d x).bind fun u => (b.d y).bind fun v => (c.d z).bind fun w => (d.d t).bind fun s => (e.d q).bind fun r => f u v w s r := rfl
theorem M1_k {f : α → Out1} : (M1 k cl a f).kinds = [k] := rfl
theorem M2_k {f : α → β → Out1} : (M2 k l cl a b f).kinds = [k, l] := rfl
theorem M3_k {f : α → β → γ → Out1} : (M3 k l m cl a b c f).kinds = [k, l, m] := rfl
theorem M4_k {f : α → β → γ → δ → Out1} : (M4 k l m n cl a b c d f).kinds = [k, l, m, n] := rfl
theorem M5_k {f : α → β → γ → δ → ε → Out1} : (M5 k l m n p cl a b c d e f).kinds = [k, l, m, n, p] := rfl
theorem M1_c {f : α → Out1} : (M1 k cl a f).clean = cl := rfl
theorem M2_c {f : α → β → Out1} : (M2 k l cl a b f).clean = cl := rfl
theorem M3_c {f : α → β → γ → Out1} : (M3 k l m cl a b c f).clean = cl := rfl
theorem M4_c {f : α → β → γ → δ → Out1} : (M4 k l m n cl a b c d f).clean = cl := rfl
theorem M5_c {f : α → β → γ → δ → ε → Out1} : (M5 k l m n p cl a b c d e f).clean = cl := rfl

variable {T : Nat → Option TI} {G : Nat → Option FM} {DT : Nat → List (Nat × Nat)} {fn : Func}

/-- What a body's end owes. -/
def endP (T : Nat → Option TI) (rs : List ResultVar) (shs : List (Nat × Nat)) (ro : A × List (List A)) : Exit → St → Prop
  | .normal, st => finalA T rs shs st = some ro
  | .ret, st => finalA T rs shs st = some ro
  | _, _ => False
theorem endP_n (T : Nat → Option TI) (rs : List ResultVar) (shs : List (Nat × Nat)) (ro : A × List (List A)) (st : St) : endP T rs shs ro .normal st = (finalA T rs shs st = some ro) := rfl
theorem endP_r (T : Nat → Option TI) (rs : List ResultVar) (shs : List (Nat × Nat)) (ro : A × List (List A)) (st : St) : endP T rs shs ro .ret st = (finalA T rs shs st = some ro) := rfl

/-- What a body owes. -/
def Owes (T : Nat → Option TI) (G : Nat → Option FM) (DT : Nat → List (Nat × Nat)) (c : Code) (rs : List ResultVar) (cl : Bool) (ks : List Kind) (args : List A) (ro : A × List (List A)) : Prop :=
  (cl = true → cleanA ro.1 = true ∧ ro.2.all cleanL = true) ∧ W T G DT c (endP T rs (shsOf ks args) ro) ⟨initSl 0 0 0 ks args, initHp 0 0 ks args, 3⟩

variable {co : Code} {rs : List ResultVar}
theorem owes_w {ks : List Kind} {args : List A} {r : A} {outs : List (List A)} {c : Code} (hb : fn.body = some co) (hr : fn.results.toList = rs) (hc : fn.body = some c) (h : Owes T G DT co rs cl ks args (r, outs)) : (cl = true → cleanA r = true ∧ outs.all cleanL = true) ∧
    W T G DT c (fun e st => (e = .normal ∨ e = .ret) ∧ finalA T fn.results.toList (shsOf ks args) st = some (r, outs)) (initSt ks args) := by
  rw [hb] at hc
  cases hc
  rw [hr]
  refine ⟨h.1, ?_⟩
  have e : (fun e st => (e = Exit.normal ∨ e = .ret) ∧ finalA T rs (shsOf ks args) st = some (r, outs)) = endP T rs (shsOf ks args) (r, outs) := by
    funext e st
    cases e <;> simp [endP]
  rw [e]
  exact h.2

theorem does1 {f : α → Out1} (hb : fn.body = some co) (hr : fn.results.toList = rs) (h : ∀ x ro, f x = some ro → Owes T G DT co rs cl [k] [a.e x] ro) : Does T G DT fn (M1 k cl a f) := by
  intro c hc args r outs hM
  match args, hM with
  | [x], hM =>
    rw [M1_fn, Option.bind_eq_some_iff] at hM
    obtain ⟨u, h1, h2⟩ := hM
    rw [a.ed _ _ h1]
    exact owes_w hb hr hc (h u (r, outs) h2)
theorem does2 {f : α → β → Out1} (hb : fn.body = some co) (hr : fn.results.toList = rs) (h : ∀ x y ro, f x y = some ro → Owes T G DT co rs cl [k, l] [a.e x, b.e y] ro) : Does T G DT fn (M2 k l cl a b f) := by
  intro c hc args r outs hM
  match args, hM with
  | [x, y], hM =>
    simp only [M2_fn, Option.bind_eq_some_iff] at hM
    obtain ⟨u, h1, v, h2, h3⟩ := hM
    rw [a.ed _ _ h1, b.ed _ _ h2]
    exact owes_w hb hr hc (h u v (r, outs) h3)
theorem does3 {f : α → β → γ → Out1} (hb : fn.body = some co) (hr : fn.results.toList = rs) (h : ∀ x y z ro, f x y z = some ro → Owes T G DT co rs cl [k, l, m] [a.e x, b.e y, c.e z] ro) : Does T G DT fn (M3 k l m cl a b c f) := by
  intro cc hc args r outs hM
  match args, hM with
  | [x, y, z], hM =>
    simp only [M3_fn, Option.bind_eq_some_iff] at hM
    obtain ⟨u, h1, v, h2, w, h3, h4⟩ := hM
    rw [a.ed _ _ h1, b.ed _ _ h2, c.ed _ _ h3]
    exact owes_w hb hr hc (h u v w (r, outs) h4)
theorem does4 {f : α → β → γ → δ → Out1} (hb : fn.body = some co) (hr : fn.results.toList = rs) (h : ∀ x y z t ro, f x y z t = some ro → Owes T G DT co rs cl [k, l, m, n] [a.e x, b.e y, c.e z, d.e t] ro) : Does T G DT fn (M4 k l m n cl a b c d f) := by
  intro cc hc args r outs hM
  match args, hM with
  | [x, y, z, t], hM =>
    simp only [M4_fn, Option.bind_eq_some_iff] at hM
    obtain ⟨u, h1, v, h2, w, h3, s, h4, h5⟩ := hM
    rw [a.ed _ _ h1, b.ed _ _ h2, c.ed _ _ h3, d.ed _ _ h4]
    exact owes_w hb hr hc (h u v w s (r, outs) h5)
theorem does5 {f : α → β → γ → δ → ε → Out1} (hb : fn.body = some co) (hr : fn.results.toList = rs) (h : ∀ x y z t q ro, f x y z t q = some ro → Owes T G DT co rs cl [k, l, m, n, p] [a.e x, b.e y, c.e z, d.e t, e.e q] ro) : Does T G DT fn (M5 k l m n p cl a b c d e f) := by
  intro cc hc args r outs hM
  match args, hM with
  | [x, y, z, t, q], hM =>
    simp only [M5_fn, Option.bind_eq_some_iff] at hM
    obtain ⟨u, h1, v, h2, w, h3, s, h4, o, h5, h6⟩ := hM
    rw [a.ed _ _ h1, b.ed _ _ h2, c.ed _ _ h3, d.ed _ _ h4, e.ed _ _ h5]
    exact owes_w hb hr hc (h u v w s o (r, outs) h6)
end

/-! ### What a code reads -/

theorem cI_d (n : Int) : cI.d (.i .i64 n) = some n := rfl
theorem cB_d (v : Bool) : cB.d (.b v) = some v := rfl
theorem cIs_d {o : Bool} {n : Nat} {xs : List Int} (h : n = xs.length) : (cS o cI).d (.s o 1 n (xs.map eI)) = some xs := by rw [h]; exact cIs_de o xs
theorem cIs_nil {o : Bool} : (cS o cI).d (.s o 1 0 []) = some [] := cIs_de o []
theorem cIss_d {o : Bool} {n : Nat} {xs : List (List Int)} (h : n = xs.length) : (cS o (cS o cI)).d (.s o 1 n (xs.map (eIs o))) = some xs := by rw [h]; exact (cS o (cS o cI)).de xs
theorem cRow_d {o : Bool} {n : Nat} {xs : List Pr} (h : n = xs.length) : (cRow o).d (.s o 2 n (xs.flatMap ePr)) = some xs := by rw [h]; exact (cRow o).de xs
theorem cRow_nil {o : Bool} : (cRow o).d (.s o 2 0 []) = some [] := (cRow o).de []
theorem cPgs_d {o : Bool} {n : Nat} {xs : List Pg} (h : n = xs.length) : (cPgs o).d (.s o 3 n (xs.flatMap (ePg o))) = some xs := by rw [h]; exact (cPgs o).de xs
theorem cPgs_nil {o : Bool} : (cPgs o).d (.s o 3 0 []) = some [] := (cPgs o).de []
theorem cPair_d (x y : Int) : cPair.d (.agg [.i .i64 x, .i .i64 y]) = some (x, y) := rfl
theorem cTr_d {o : Bool} {r : Int} {n : Nat} {xs : List Pg} (h : n = xs.length) : (cTr o).d (.agg [.i .i64 r, .s o 3 n (xs.flatMap (ePg o))]) = some ⟨r, xs⟩ := by rw [h]; exact (cTr o).de ⟨r, xs⟩
theorem cInn_d {o : Bool} {n m : Nat} {xs ys : List Int} (h : n = xs.length ∧ m = ys.length) : (cInn o).d (.agg [.s o 1 n (xs.map eI), .s o 1 m (ys.map eI)]) = some ⟨xs, ys⟩ := by rw [h.1, h.2]; exact (cInn o).de ⟨xs, ys⟩
theorem cPage_d {o : Bool} {n m k : Nat} {xs ys zs : List Int} (h : n = xs.length ∧ m = ys.length ∧ k = zs.length) : (cPage o).d (.agg [.s o 1 n (xs.map eI), .s o 1 m (ys.map eI), .s o 1 k (zs.map eI)]) = some ⟨xs, ys, zs⟩ := by
  rw [h.1, h.2.1, h.2.2]; exact (cPage o).de ⟨xs, ys, zs⟩

/-! ### Normal data -/

theorem normL_eI (xs : List Int) : normL (xs.map eI) = xs.map eI := by
  rw [normL_map, List.map_map]; rfl
theorem normL_flat {α : Type} (f : α → List A) : ∀ xs : List α, normL (xs.flatMap f) = xs.flatMap fun x => normL (f x)
  | [] => rfl
  | x :: xs => by
    rw [normL_map, List.flatMap_cons, List.map_append, List.flatMap_cons, normL_map]
    have := normL_flat f xs
    rw [normL_map] at this
    rw [this]
theorem normL_row (xs : List Pr) : normL (xs.flatMap ePr) = xs.flatMap ePr := by rw [normL_flat]; rfl
theorem normL_pgs (o : Bool) (xs : List Pg) : normL (xs.flatMap (ePg o)) = xs.flatMap (ePg false) := by
  rw [normL_flat]
  congr 1
  funext p
  simp only [ePg, normL, norm, normL_eI]
theorem normL_iss (o : Bool) (xs : List (List Int)) : normL (xs.map (eIs o)) = xs.map (eIs false) := by
  rw [normL_map, List.map_map]
  refine List.map_congr_left fun x _ => ?_
  simp only [Function.comp, norm, normL_eI]

/-! ### Cells -/

theorem get_I {xs : List Int} {k : Nat} (h : k < xs.length) : (xs.map eI)[k]? = some (eI (xs.getD k 0)) := by
  simp [List.getElem?_map, List.getElem?_eq_getElem h]
theorem get_Is {o : Bool} {xs : List (List Int)} {k : Nat} (h : k < xs.length) : (xs.map (eIs o))[k]? = some (eIs o (xs.getD k [])) := by
  simp [List.getElem?_map, List.getElem?_eq_getElem h]

theorem drop_row : ∀ (xs : List Pr) (k : Nat), (xs.flatMap ePr).drop (k * 2) = (xs.drop k).flatMap ePr
  | [], k => by simp
  | x :: xs, 0 => by simp
  | x :: xs, k + 1 => by
    have := drop_row xs k
    rw [show (k + 1) * 2 = 2 + k * 2 from by omega, List.flatMap_cons, ← List.drop_drop]
    simpa [ePr] using this
theorem drop_pgs (o : Bool) : ∀ (xs : List Pg) (k : Nat), (xs.flatMap (ePg o)).drop (k * 3) = (xs.drop k).flatMap (ePg o)
  | [], k => by simp
  | x :: xs, 0 => by simp
  | x :: xs, k + 1 => by
    have := drop_pgs o xs k
    rw [show (k + 1) * 3 = 3 + k * 3 from by omega, List.flatMap_cons, ← List.drop_drop]
    simpa [ePg] using this

theorem drop_head {α : Type} [Inhabited α] {xs : List α} {k : Nat} (h : k < xs.length) : xs.drop k = xs.getD k default :: xs.drop (k + 1) := by
  rw [List.drop_eq_getElem_cons h]
  simp [h]

theorem get_row {xs : List Pr} {k j : Nat} (h : k < xs.length) (hj : j < 2) : (xs.flatMap ePr)[k * 2 + j]? = (ePr (xs.getD k default))[j]? := by
  rw [← List.getElem?_drop, drop_row, drop_head h, List.flatMap_cons, List.getElem?_append_left (by simpa [ePr] using hj)]
theorem get_row0 {xs : List Pr} {k : Nat} (h : k < xs.length) : (xs.flatMap ePr)[k * 2]? = some (eI (xs.getD k default).1) := get_row (j := 0) h (by omega)
theorem get_row1 {xs : List Pr} {k : Nat} (h : k < xs.length) : (xs.flatMap ePr)[k * 2 + 1]? = some (eI (xs.getD k default).2) := get_row (j := 1) h (by omega)
theorem get_pg {o : Bool} {xs : List Pg} {k j : Nat} (h : k < xs.length) (hj : j < 3) : (xs.flatMap (ePg o))[k * 3 + j]? = (ePg o (xs.getD k default))[j]? := by
  rw [← List.getElem?_drop, drop_pgs, drop_head h, List.flatMap_cons, List.getElem?_append_left (by simpa [ePg] using hj)]
theorem get_pg0 {o : Bool} {xs : List Pg} {k : Nat} (h : k < xs.length) : (xs.flatMap (ePg o))[k * 3]? = some (eIs o (xs.getD k default).keys) := get_pg (j := 0) h (by omega)
theorem get_pg1 {o : Bool} {xs : List Pg} {k : Nat} (h : k < xs.length) : (xs.flatMap (ePg o))[k * 3 + 1]? = some (eIs o (xs.getD k default).kids) := get_pg (j := 1) h (by omega)
theorem get_pg2 {o : Bool} {xs : List Pg} {k : Nat} (h : k < xs.length) : (xs.flatMap (ePg o))[k * 3 + 2]? = some (eIs o (xs.getD k default).vals) := get_pg (j := 2) h (by omega)

/-- Some cells in a row. -/
theorem rng_row {xs : List Pr} {k : Nat} (h : k < xs.length) : rng (xs.flatMap ePr) (k * 2) 2 = ePr (xs.getD k default) := by
  unfold rng
  rw [drop_row, drop_head h, List.flatMap_cons]
  simp [ePr]
theorem rng_pg {o : Bool} {xs : List Pg} {k : Nat} (h : k < xs.length) : rng (xs.flatMap (ePg o)) (k * 3) 3 = ePg o (xs.getD k default) := by
  unfold rng
  rw [drop_pgs, drop_head h, List.flatMap_cons]
  simp [ePg]
def sub {α : Type} (xs : List α) (a n : Nat) : List α := (xs.drop a).take n
theorem sub_length {α : Type} {xs : List α} {a n : Nat} (h : a + n ≤ xs.length) : (sub xs a n).length = n := by unfold sub; simp; omega
theorem rng_I (xs : List Int) (a n : Nat) : rng (xs.map eI) a n = (sub xs a n).map eI := by simp [rng, sub, List.map_drop, List.map_take]
theorem take_row : ∀ (xs : List Pr) (k : Nat), (xs.flatMap ePr).take (k * 2) = (xs.take k).flatMap ePr
  | [], k => by simp
  | x :: xs, 0 => by simp
  | x :: xs, k + 1 => by
    have := take_row xs k
    rw [show (k + 1) * 2 = k * 2 + 2 from by omega, List.flatMap_cons]
    simp only [ePr, List.cons_append, List.nil_append, List.take_succ_cons, List.flatMap_cons]
    rw [this]
theorem take_pgs (o : Bool) : ∀ (xs : List Pg) (k : Nat), (xs.flatMap (ePg o)).take (k * 3) = (xs.take k).flatMap (ePg o)
  | [], k => by simp
  | x :: xs, 0 => by simp
  | x :: xs, k + 1 => by
    have := take_pgs o xs k
    rw [show (k + 1) * 3 = k * 3 + 3 from by omega, List.flatMap_cons]
    simp only [ePg, List.cons_append, List.nil_append, List.take_succ_cons, List.flatMap_cons]
    rw [this]
theorem rng_rows (xs : List Pr) (a n : Nat) : rng (xs.flatMap ePr) (a * 2) (n * 2) = (sub xs a n).flatMap ePr := by simp [rng, sub, drop_row, take_row]
theorem rng_pgss (o : Bool) (xs : List Pg) (a n : Nat) : rng (xs.flatMap (ePg o)) (a * 3) (n * 3) = (sub xs a n).flatMap (ePg o) := by simp [rng, sub, drop_pgs, take_pgs]
theorem rng_0 (cs : List A) (n : Nat) : rng cs 0 n = cs.take n := by simp [rng]

/-! ### Cells that are written -/

theorem set_I (xs : List Int) (k : Nat) (v : Int) : (xs.map eI).set k (eI v) = (xs.set k v).map eI := by simp [List.map_set]

theorem set_flat {α : Type} [Inhabited α] (f : α → List A) (m : Nat) (hf : ∀ x, (f x).length = m) : ∀ (xs : List α) (k : Nat) (v : α), k < xs.length → (xs.flatMap f).take (k * m) ++ f v ++ (xs.flatMap f).drop (k * m + m) = (xs.set k v).flatMap f
  | [], k, v, h => by simp at h
  | x :: xs, 0, v, h => by
    have hm : m = (f x).length := (hf x).symm
    simp [List.flatMap_cons, hm]
  | x :: xs, k + 1, v, h => by
    have := set_flat f m hf xs k v (by simpa using h)
    have e : (k + 1) * m = (f x).length + k * m := by rw [hf x, Nat.add_mul]; omega
    simp only [List.flatMap_cons, List.set_cons_succ]
    rw [e, List.take_length_add_append, show (f x).length + k * m + m = (f x).length + (k * m + m) from by omega, List.drop_length_add_append, ← this]
    simp

theorem setR_eq : ∀ (vs : List A) (off : Nat) (cs : List A), off + vs.length ≤ cs.length → setR off vs cs = cs.take off ++ vs ++ cs.drop (off + vs.length)
  | [], off, cs, _ => by simp [setR]
  | v :: vs, off, cs, h => by
    simp only [List.length_cons] at h
    rw [setR, setR_eq vs (off + 1) (cs.set off v) (by simp; omega)]
    rw [List.take_add_one, List.take_set_of_le (Nat.le_refl _), List.getElem?_set_self (by omega)]
    rw [List.drop_set_of_lt (by omega)]
    simp only [Option.toList_some, List.length_cons, List.append_assoc, List.cons_append, List.nil_append]
    rw [show off + 1 + vs.length = off + (vs.length + 1) from by omega]

theorem set_row {xs : List Pr} {k : Nat} (h : k < xs.length) (v : Pr) : setR (k * 2) (ePr v) (xs.flatMap ePr) = (xs.set k v).flatMap ePr := by
  rw [setR_eq _ _ _ (by rw [flatPr_len]; simp [ePr]; omega)]
  exact set_flat ePr 2 (fun _ => rfl) xs k v h
theorem set_pg {o : Bool} {xs : List Pg} {k : Nat} (h : k < xs.length) (v : Pg) : setR (k * 3) (ePg o v) (xs.flatMap (ePg o)) = (xs.set k v).flatMap (ePg o) := by
  rw [setR_eq _ _ _ (by rw [flatPg_len]; simp [ePg]; omega)]
  exact set_flat (ePg o) 3 (fun _ => rfl) xs k v h

end Go.TM

/-! The tree machine, 32: what each operation comes to, as rules for rewriting. -/
namespace Go.TM
set_option linter.unusedVariables false
set_option linter.unusedSimpArgs false

/-- What is only done under a condition. -/
def gi {α : Type} (p : Prop) [Decidable p] (x : Option α) : Option α := if p then x else none
theorem gi_pos {α : Type} {p : Prop} [Decidable p] (h : p) (x : Option α) : gi p x = x := if_pos h
theorem gi_true {α : Type} [Decidable True] (x : Option α) : gi True x = x := if_pos trivial

def tiInt : TI := ⟨.int .i64, false, 1, 8, [.i .i64 0]⟩
def tiBool : TI := ⟨.bool, false, 1, 1, [.b false]⟩
def tiSl (e sz : Nat) : TI := ⟨.slice e, false, 1, 24, [.s true sz 0 []]⟩
def tiSt (fs : List (Nat × Nat)) (sz bytes : Nat) (z : List A) : TI := ⟨.struct fs, true, sz, bytes, z⟩
def tiAr (n e sz bytes : Nat) (z : List A) : TI := ⟨.array n e, true, sz, bytes, z⟩

theorem tiInt_z : tiInt.zero = [eI 0] := rfl
theorem tiInt_s : tiInt.sz = 1 := rfl
theorem tiInt_b : tiInt.bytes = 8 := rfl
theorem tiBool_z : tiBool.zero = [.b false] := rfl
theorem tiBool_s : tiBool.sz = 1 := rfl
theorem tiSl_z (e sz : Nat) : (tiSl e sz).zero = [.s true sz 0 []] := rfl
theorem tiSl_s (e sz : Nat) : (tiSl e sz).sz = 1 := rfl
theorem tiSl_b (e sz : Nat) : (tiSl e sz).bytes = 24 := rfl
theorem tiSt_z (fs : List (Nat × Nat)) (sz bytes : Nat) (z : List A) : (tiSt fs sz bytes z).zero = z := rfl
theorem tiSt_s (fs : List (Nat × Nat)) (sz bytes : Nat) (z : List A) : (tiSt fs sz bytes z).sz = sz := rfl
theorem tiSt_b (fs : List (Nat × Nat)) (sz bytes : Nat) (z : List A) : (tiSt fs sz bytes z).bytes = bytes := rfl
theorem tiAr_z (n e sz bytes : Nat) (z : List A) : (tiAr n e sz bytes z).zero = z := rfl
theorem tiAr_s (n e sz bytes : Nat) (z : List A) : (tiAr n e sz bytes z).sz = sz := rfl
theorem tiInt_k : tiInt.kind = .int .i64 := rfl
theorem tiBool_k : tiBool.kind = .bool := rfl
theorem tiSl_k (e sz : Nat) : (tiSl e sz).kind = .slice e := rfl
theorem tiSt_k (fs : List (Nat × Nat)) (sz bytes : Nat) (z : List A) : (tiSt fs sz bytes z).kind = .struct fs := rfl
theorem tiAr_k (n e sz bytes : Nat) (z : List A) : (tiAr n e sz bytes z).kind = .array n e := rfl
theorem tiInt_f : flatTI tiInt = true := rfl
theorem tiBool_f : flatTI tiBool = true := rfl
theorem tiSl_f (e sz : Nat) : flatTI (tiSl e sz) = false := rfl
theorem tiSt_f (fs : List (Nat × Nat)) (sz bytes : Nat) (z : List A) : flatTI (tiSt fs sz bytes z) = z.all isScalar := rfl

/-! ### The heap -/

theorem updH_eq (f : Hp) (a b : Nat) (v : Option Root) : upd f (a, b) v (a, b) = v := by simp [upd]
theorem updH_ne (f : Hp) {a b c d : Nat} (v : Option Root) (h : ¬ (a = c ∧ b = d)) : upd f (c, d) v (a, b) = f (a, b) := by
  simp only [upd, Prod.mk.injEq]
  rw [if_neg h]

def nd0 : Option Root → Option (Nat × Nat × List A)
  | some ⟨a, b, cs, _⟩ => some (a, b, cs)
  | none => none
def ndc : Option A → Option (Nat × Nat × List A)
  | some (.s true a b cs) => some (a, b, cs)
  | _ => none
def nd1 : Option Root → Nat → Nat → Option (Nat × Nat × List A)
  | some ⟨_, _, cs, v⟩, c, ver => gi (v c = ver) (ndc cs[c]?)
  | none, _, _ => none
theorem node_0 (hp : Hp) (id : Id) (ver : Nat) : node hp id [] ver = nd0 (hp id) := by
  unfold node nd0
  cases hp id <;> simp [verOk, getP]
theorem node_1 (hp : Hp) (id : Id) (c ver : Nat) : node hp id [c] ver = nd1 (hp id) c ver := by
  unfold node nd1
  cases hp id with
  | none => rfl
  | some r =>
    simp only [verOk, beq_iff_eq, gi]
    split
    · simp only [getP, ndc]
      split <;> rename_i h <;> simp_all
    · rfl
theorem nd0_some (a b : Nat) (cs : List A) (v : Nat → Nat) : nd0 (some ⟨a, b, cs, v⟩) = some (a, b, cs) := rfl
theorem nd1_some (a b : Nat) (cs : List A) (v : Nat → Nat) (c ver : Nat) : nd1 (some ⟨a, b, cs, v⟩) c ver = gi (v c = ver) (ndc cs[c]?) := rfl
theorem ndc_some (a b : Nat) (cs : List A) : ndc (some (.s true a b cs)) = some (a, b, cs) := rfl

/-! ### Reading -/

section
variable {T : Nat → Option TI} {G : Nat → Option FM} {hp : Hp} {m ty : Nat} {sl : Nat → A}

theorem e_move (x : Operand) : eff T G m ty (.move x) sl hp = some (.pure (ev T sl ty x)) := rfl
theorem e_assign (x : Operand) : eff T G m ty (.assign x) sl hp = some (.pure (ev T sl ty x)) := rfl
def pickA : A → A → A → Option Eff
  | .b true, x, _ => some (.pure x)
  | .b false, _, y => some (.pure y)
  | _, _, _ => none
theorem e_pick (c a b : Operand) : eff T G m ty (.pick c a b) sl hp = pickA (ev T sl 0 c) (ev T sl ty a) (ev T sl ty b) := by
  simp only [eff]
  cases ev T sl 0 c with
  | b v => cases v <;> rfl
  | _ => rfl
theorem pick_t (x y : A) : pickA (.b true) x y = some (.pure x) := rfl
theorem pick_f (x y : A) : pickA (.b false) x y = some (.pure y) := rfl

def len1 : A → Option Eff
  | .s _ _ n _ => some (.pure (.i .i64 n))
  | .ref _ _ _ _ _ n => some (.pure (.i .i64 n))
  | _ => none
def lenK : K → A → Option Eff
  | .slice _, x => len1 x
  | _, _ => none
theorem e_len (x : Operand) (t : Nat) : eff T G m ty (.call ⟨.builtin .len, #[x], #[t]⟩) sl hp = lenK (kindOf T t) (ev T sl 0 x) := by
  simp only [eff, lenK, len1]
  simp only [List.getElem?_toArray, List.getElem?_cons_zero, Option.map_some]
  cases kindOf T t <;> first | rfl | (cases ev T sl 0 x <;> rfl)
theorem lenK_s (e : Nat) (x : A) : lenK (.slice e) x = len1 x := rfl
theorem len1_s (o : Bool) (sz n : Nat) (cs : List A) : len1 (.s o sz n cs) = some (.pure (.i .i64 n)) := rfl
theorem len1_r (id : Id) (p : List Nat) (v f sz n : Nat) : len1 (.ref id p v f sz n) = some (.pure (.i .i64 n)) := rfl

def max2 : A → A → Option Eff
  | .i .i64 a, .i .i64 b => some (.pure (.i .i64 (if b > a then b else a)))
  | _, _ => none
theorem e_max (x y : Operand) (ts : Array Nat) : eff T G m ty (.call ⟨.builtin .max, #[x, y], ts⟩) sl hp = max2 (ev T sl 0 x) (ev T sl 0 y) := rfl
theorem max2_i (a b : Int) : max2 (.i .i64 a) (.i .i64 b) = some (.pure (.i .i64 (if b > a then b else a))) := rfl

def bop (k : K) (op : BinOp) (x y : A) : Option Eff := (binA k op x y).map Eff.pure
def bopN (k : K) (op : BinOp) (yo : Operand) (x y : A) : Option Eff := if nilC k op yo then (nilQ x).map Eff.pure else bop k op x y
theorem e_binOp (op : BinOp) (t t' : Nat) (x y : Operand) : eff T G m ty (.binOp op t x y t') sl hp = bopN (kindOf T t) op y (ev T sl 0 x) (ev T sl 0 y) := rfl
theorem bopN_i (k : IntKind) (op : BinOp) (yo : Operand) (x y : A) : bopN (.int k) op yo x y = bop (.int k) op x y := rfl
theorem bopN_b (op : BinOp) (yo : Operand) (x y : A) : bopN .bool op yo x y = bop .bool op x y := rfl
def nilE (sz len : Nat) : Option Eff := if len = 0 then some (.pure .ub) else gi (0 < sz) (some (.pure (.b false)))
theorem bopN_s (e : Nat) (o : Bool) (sz len : Nat) (cs : List A) (y : A) : bopN (.slice e) .eql (.const (.slice none 0 0)) (.s o sz len cs) y = nilE sz len := by
  simp only [bopN, nilC, if_true, nilQ, nilE, gi]
  split
  · rfl
  · split <;> rfl
theorem nilE_0 (sz : Nat) : nilE sz 0 = some (.pure .ub) := rfl
theorem nilE_z {sz len : Nat} (h : len = 0) : nilE sz len = some (.pure .ub) := by rw [h]; rfl
theorem nilE_s {sz len : Nat} (h : len ≠ 0 ∧ 0 < sz) : nilE sz len = some (.pure (.b false)) := by
  unfold nilE gi
  rw [if_neg h.1, if_pos h.2]
theorem bop_add (kd : K) (x y : Int) : bop kd .add (.i .i64 x) (.i .i64 y) = some (.pure (.i .i64 (IntKind.i64.wrap (x + y)))) := by simp [bop, binA, binI]
theorem bop_sub (kd : K) (x y : Int) : bop kd .sub (.i .i64 x) (.i .i64 y) = some (.pure (.i .i64 (IntKind.i64.wrap (x - y)))) := by simp [bop, binA, binI]
theorem bop_mul (kd : K) (x y : Int) : bop kd .mul (.i .i64 x) (.i .i64 y) = some (.pure (.i .i64 (IntKind.i64.wrap (x * y)))) := by simp [bop, binA, binI]
theorem bop_quo (kd : K) (x y : Int) : bop kd .quo (.i .i64 x) (.i .i64 y) = gi (y ≠ 0) (some (.pure (.i .i64 (IntKind.i64.wrap (x.tdiv y))))) := by
  by_cases h : y = 0 <;> simp [bop, binA, binI, gi, h]
theorem bop_rem (kd : K) (x y : Int) : bop kd .rem (.i .i64 x) (.i .i64 y) = gi (y ≠ 0) (some (.pure (.i .i64 (x.tmod y)))) := by
  by_cases h : y = 0 <;> simp [bop, binA, binI, gi, h]
theorem bop_eql (kd : K) (x y : Int) : bop kd .eql (.i .i64 x) (.i .i64 y) = some (.pure (.b (decide (x = y)))) := by simp [bop, binA, binI]; rfl
theorem bop_neq (kd : K) (x y : Int) : bop kd .neq (.i .i64 x) (.i .i64 y) = some (.pure (.b (!decide (x = y)))) := by simp [bop, binA, binI, bne]; rfl
theorem bop_lss (kd : K) (x y : Int) : bop kd .lss (.i .i64 x) (.i .i64 y) = some (.pure (.b (decide (x < y)))) := by simp [bop, binA, binI]
theorem bop_leq (kd : K) (x y : Int) : bop kd .leq (.i .i64 x) (.i .i64 y) = some (.pure (.b (decide (x ≤ y)))) := by simp [bop, binA, binI]
theorem bop_gtr (kd : K) (x y : Int) : bop kd .gtr (.i .i64 x) (.i .i64 y) = some (.pure (.b (decide (y < x)))) := by simp [bop, binA, binI]
theorem bop_geq (kd : K) (x y : Int) : bop kd .geq (.i .i64 x) (.i .i64 y) = some (.pure (.b (decide (y ≤ x)))) := by simp [bop, binA, binI]
theorem bop_eqlb (x y : Bool) : bop .bool .eql (.b x) (.b y) = some (.pure (.b (x == y))) := rfl
theorem bop_neqb (x y : Bool) : bop .bool .neq (.b x) (.b y) = some (.pure (.b (x != y))) := rfl

def uop (op : UnOp) (x : A) : Option Eff := (unA op x).map Eff.pure
theorem e_unOp (op : UnOp) (t : Nat) (x : Operand) : eff T G m ty (.unOp op t x) sl hp = uop op (ev T sl 0 x) := rfl
theorem uop_not (v : Bool) : uop .not (.b v) = some (.pure (.b (!v))) := rfl
theorem uop_neg (n : Int) : uop .neg (.i .i64 n) = some (.pure (.i .i64 (IntKind.i64.wrap (0 - n)))) := rfl

def cvt : K → K → A → Option Eff
  | .int _, .int k, .i _ n => some (.pure (.i k (k.wrap n)))
  | _, _, _ => none
theorem e_convert (s d : Nat) (x : Operand) : eff T G m ty (.convert s d x) sl hp = cvt (kindOf T s) (kindOf T d) (ev T sl 0 x) := by
  simp only [eff, cvt]
  cases kindOf T s <;> cases kindOf T d <;> first | rfl | (cases ev T sl 0 x <;> rfl)
theorem cvt_i (k k' k2 : IntKind) (n : Int) : cvt (.int k) (.int k2) (.i k' n) = some (.pure (.i k2 (k2.wrap n))) := rfl

def exA : A → Nat → Option Eff
  | .tup xs, i => (xs[i]?).map Eff.pure
  | _, _ => none
theorem e_extract (x : Operand) (i : Nat) : eff T G m ty (.extract x i) sl hp = exA (ev T sl 0 x) i := by
  simp only [eff, exA]
  cases ev T sl 0 x <;> rfl
theorem exA_t (xs : List A) (i : Nat) : exA (.tup xs) i = (xs[i]?).map Eff.pure := rfl

def adr (n : Option (Nat × Nat × List A)) (id : Id) (p : List Nat) (v o : Nat) : Option Eff := match n with
  | some _ => some ⟨.ptr id p v o, [], [id]⟩
  | none => none
theorem adr_s (x : Nat × Nat × List A) (id : Id) (p : List Nat) (v o : Nat) : adr (some x) id p v o = some ⟨.ptr id p v o, [], [id]⟩ := rfl

def nilA (hp : Hp) : A → Option Eff
  | .ptr id p v o => adr (node hp id p v) id p v o
  | .ep cs => some (.pure (.ep cs))
  | _ => none
theorem e_nilCheck (x : Operand) : eff T G m ty (.nilCheck x) sl hp = nilA hp (ev T sl 0 x) := by
  simp only [eff, nilA, adr]
  cases ev T sl 0 x <;> rfl
theorem nilA_p (id : Id) (p : List Nat) (v o : Nat) : nilA hp (.ptr id p v o) = adr (node hp id p v) id p v o := rfl
theorem nilA_e (cs : List A) : nilA hp (.ep cs) = some (.pure (.ep cs)) := rfl

def fldA (hp : Hp) : K → A → Nat → Option Eff
  | .struct fs, x, f => match fs[f]? with
    | some (off, _) => (match x with
      | .ptr id p v o => adr (node hp id p v) id p v (o + off)
      | .ep cs => some (.pure (.ep (cs.drop off)))
      | _ => none)
    | none => none
  | _, _, _ => none
theorem e_fieldAddr (s f : Nat) (x : Operand) : eff T G m ty (.fieldAddr s x f) sl hp = fldA hp (kindOf T s) (ev T sl 0 x) f := by
  simp only [eff, fldA, adr]
  cases kindOf T s with
  | struct fs =>
    simp only
    cases fs[f]? with
    | none => simp
    | some y => cases ev T sl 0 x <;> rfl
  | _ => rfl
def fldP (hp : Hp) : Option (Nat × Nat) → A → Option Eff
  | some (off, _), .ptr id p v o => adr (node hp id p v) id p v (o + off)
  | some (off, _), .ep cs => some (.pure (.ep (cs.drop off)))
  | _, _ => none
theorem fldA_s (fs : List (Nat × Nat)) (x : A) (f : Nat) : fldA hp (.struct fs) x f = fldP hp fs[f]? x := by
  simp only [fldA, fldP]
  cases fs[f]? <;> first | rfl | (cases x <;> rfl)
theorem fldP_p (off t : Nat) (id : Id) (p : List Nat) (v o : Nat) : fldP hp (some (off, t)) (.ptr id p v o) = adr (node hp id p v) id p v (o + off) := rfl
theorem fldP_e (off t : Nat) (cs : List A) : fldP hp (some (off, t)) (.ep cs) = some (.pure (.ep (cs.drop off))) := rfl

/-- A field of a value. -/
def fvA : K → A → Nat → (Nat → Option TI) → Option Eff
  | .struct fs, .agg xs, f, T => match fs[f]? with
    | some (off, ft) => match T ft with
      | some ti => (packA ti (rng xs off ti.sz)).map Eff.pure
      | none => none
    | none => none
  | _, _, _, _ => none
theorem e_field (s f : Nat) (x : Operand) : eff T G m ty (.field s x f) sl hp = fvA (kindOf T s) (ev T sl 0 x) f T := by
  simp only [eff, fvA]
  cases kindOf T s <;> first | rfl | (cases ev T sl 0 x <;> rfl)
def fvP (T : Nat → Option TI) (xs : List A) : Option (Nat × Nat) → Option Eff
  | some (off, ft) => match T ft with
    | some ti => (packA ti (rng xs off ti.sz)).map Eff.pure
    | none => none
  | none => none
theorem fvA_s (fs : List (Nat × Nat)) (xs : List A) (f : Nat) : fvA (.struct fs) (.agg xs) f T = fvP T xs fs[f]? := by
  simp only [fvA, fvP]
def fvT (xs : List A) (off : Nat) : Option TI → Option Eff
  | some ti => (packA ti (rng xs off ti.sz)).map Eff.pure
  | none => none
theorem fvP_s (xs : List A) (off ft : Nat) : fvP T xs (some (off, ft)) = fvT xs off (T ft) := by
  simp only [fvP, fvT]
def cell1 : Option A → Option Eff
  | some c => some (.pure c)
  | none => none
theorem cell1_s (c : A) : cell1 (some c) = some (.pure c) := rfl
theorem rng_1 (xs : List A) (off : Nat) : rng xs off 1 = (xs[off]?).toList := by
  unfold rng
  cases h : xs.drop off with
  | nil =>
    have := List.drop_eq_nil_iff.1 h
    rw [List.getElem?_eq_none this]; simp
  | cons c cs =>
    have : xs[off]? = some c := by
      have := List.getElem?_drop (xs := xs) (i := off) (j := 0)
      rw [h] at this; simpa using this.symm
    rw [this]; simp
theorem pack1 {ti : TI} (h1 : ti.sz = 1) (h2 : ti.agg = false) (xs : List A) (off : Nat) : (packA ti (rng xs off 1)).map Eff.pure = cell1 xs[off]? := by
  rw [rng_1]
  cases xs[off]? <;> simp [packA, h1, h2, cell1]
theorem fvT_i (xs : List A) (off : Nat) : fvT xs off (some tiInt) = cell1 xs[off]? := pack1 rfl rfl xs off
theorem fvT_b (xs : List A) (off : Nat) : fvT xs off (some tiBool) = cell1 xs[off]? := pack1 rfl rfl xs off
theorem fvT_s (xs : List A) (off e sz : Nat) : fvT xs off (some (tiSl e sz)) = cell1 xs[off]? := pack1 (ti := tiSl e sz) rfl rfl xs off

def aggN (sz : Nat) (xs : List A) : Option Eff := if xs.length = sz then some (.pure (.agg xs)) else none
theorem fvT_st (xs : List A) (off : Nat) (fs : List (Nat × Nat)) (sz bytes : Nat) (z : List A) : fvT xs off (some (tiSt fs sz bytes z)) = aggN sz (rng xs off sz) := by
  simp only [fvT, packA, aggN, tiSt]
  split <;> rfl

/-! Addresses of elements. -/
def ixA (hp : Hp) (T : Nat → Option TI) : K → A → A → Option Eff := fun k x ix => indexAddrA T k hp x ix
theorem e_indexAddr (t : Nat) (x ix : Operand) : eff T G m ty (.indexAddr t x ix) sl hp = ixA hp T (kindOf T t) (ev T sl 0 x) (ev T sl 0 ix) := rfl
def ixS (sz len : Nat) (cs : List A) (n : Int) : Option Nat → Option Eff
  | some s => gi (s = sz ∧ 0 < sz ∧ 0 ≤ n ∧ n < len) (some (.pure (.ep (cs.drop (n.toNat * sz)))))
  | none => none
theorem ixA_s (e : Nat) (o : Bool) (sz len : Nat) (cs : List A) (n : Int) : ixA hp T (.slice e) (.s o sz len cs) (.i .i64 n) = ixS sz len cs n (szOf T e) := by
  simp only [ixA, indexAddrA, ixS, gi]
  cases szOf T e with
  | none => simp
  | some s =>
    simp only [Option.some.injEq]
    by_cases h : s = sz ∧ 0 < sz ∧ 0 ≤ n ∧ n < len
    · rw [if_pos h, if_pos ⟨h.2.1, h.1, h.2.2⟩]
    · rw [if_neg h, if_neg fun hh => h ⟨hh.2.1, hh.1, hh.2.2⟩]
theorem ixS_s (s sz len : Nat) (cs : List A) (n : Int) : ixS sz len cs n (some s) = gi (s = sz ∧ 0 < sz ∧ 0 ≤ n ∧ n < len) (some (.pure (.ep (cs.drop (n.toNat * sz))))) := rfl
def ixR (id : Id) (p : List Nat) (v off sz len : Nat) (n : Int) : Option (Nat × Nat × List A) → Option Nat → Option Eff
  | some _, some s => gi (s = sz ∧ 0 ≤ n ∧ n < len) (some ⟨.ptr id p v (off + n.toNat * sz), [], [id]⟩)
  | _, _ => none
theorem ixA_r (e : Nat) (id : Id) (p : List Nat) (v off sz len : Nat) (n : Int) : ixA hp T (.slice e) (.ref id p v off sz len) (.i .i64 n) = ixR id p v off sz len n (node hp id p v) (szOf T e) := by
  simp only [ixA, indexAddrA, ixR, gi]
  cases node hp id p v with
  | none => rfl
  | some x =>
    cases szOf T e with
    | none => simp
    | some s => simp only [Option.some.injEq]
theorem ixR_s (id : Id) (p : List Nat) (v off sz len s : Nat) (n : Int) (x : Nat × Nat × List A) : ixR id p v off sz len n (some x) (some s) = gi (s = sz ∧ 0 ≤ n ∧ n < len) (some ⟨.ptr id p v (off + n.toNat * sz), [], [id]⟩) := rfl
def ixP (id : Id) (p : List Nat) (v off cnt : Nat) (n : Int) : Option (Nat × Nat × List A) → Option Nat → Option Eff
  | some _, some s => gi (0 ≤ n ∧ n < cnt) (some ⟨.ptr id p v (off + n.toNat * s), [], [id]⟩)
  | _, _ => none
theorem ixA_p (cnt e : Nat) (id : Id) (p : List Nat) (v off : Nat) (n : Int) : ixA hp T (.array cnt e) (.ptr id p v off) (.i .i64 n) = ixP id p v off cnt n (node hp id p v) (szOf T e) := by
  simp only [ixA, indexAddrA, ixP, gi, szOf]
  cases T e with
  | none => simp
  | some ti =>
    simp only [Option.map_some]
    cases node hp id p v <;> rfl
theorem ixP_s (id : Id) (p : List Nat) (v off cnt s : Nat) (n : Int) (x : Nat × Nat × List A) : ixP id p v off cnt n (some x) (some s) = gi (0 ≤ n ∧ n < cnt) (some ⟨.ptr id p v (off + n.toNat * s), [], [id]⟩) := rfl

/-! Loads. -/
def ldT (hp : Hp) (x : A) : Option TI → Option Eff
  | some ti => loadA ti hp x
  | none => none
theorem e_load (t : Nat) (a : Operand) : eff T G m ty (.load t a) sl hp = ldT hp (ev T sl 0 a) (T t) := by
  simp only [eff, ldT]
  cases T t <;> rfl
def ldE : Option A → Option Eff
  | some c => some (.pure (imm1 c))
  | none => none
theorem ldE_s (c : A) : ldE (some c) = some (.pure (imm1 c)) := rfl
theorem ld1 {ti : TI} (h1 : ti.sz = 1) (h2 : ti.agg = false) (cs : List A) : loadA ti hp (.ep cs) = ldE cs[0]? := by
  cases cs with
  | nil => simp [loadA, h1, ldE]
  | cons c cs => simp [loadA, h1, packA, h2, ldE]
theorem ldT_ei (cs : List A) : ldT hp (.ep cs) (some tiInt) = ldE cs[0]? := ld1 (hp := hp) rfl rfl cs
theorem ldT_eb (cs : List A) : ldT hp (.ep cs) (some tiBool) = ldE cs[0]? := ld1 (hp := hp) rfl rfl cs
theorem ldT_es (cs : List A) (e sz : Nat) : ldT hp (.ep cs) (some (tiSl e sz)) = ldE cs[0]? := ld1 (hp := hp) (ti := tiSl e sz) rfl rfl cs
theorem ldT_est (cs : List A) (fs : List (Nat × Nat)) (sz bytes : Nat) (z : List A) : ldT hp (.ep cs) (some (tiSt fs sz bytes z)) = gi (0 < sz) (aggN sz ((rng cs 0 sz).map imm1)) := by
  simp only [ldT, loadA, tiSt, packA, aggN, gi, rng, List.drop_zero]
  by_cases h : 0 < sz
  · rw [if_pos h]
    by_cases h2 : sz ≤ cs.length
    · rw [if_pos ⟨h, h2⟩]
      simp
    · rw [if_neg fun hh => h2 hh.2, if_neg (by simp; omega)]
  · rw [if_neg fun hh => h hh.1, if_neg h]
def ldP (id : Id) (p : List Nat) (v off : Nat) : Option (Nat × Nat × List A) → Option Root → Option Eff
  | some (a, b, cs), some r => gi (off + 1 ≤ b * a) ((cs[off]?).map fun c => ⟨view r id p v off c, [], [id]⟩)
  | _, _ => none
theorem viewL_1 (r : Root) (id : Id) (p : List Nat) (v k : Nat) (o : Option A) : viewL r id p v k o.toList = (o.map (view r id p v k)).toList := by
  cases o <;> rfl
theorem ld1p {ti : TI} (h1 : ti.sz = 1) (h2 : ti.agg = false) (id : Id) (p : List Nat) (v off : Nat) : loadA ti hp (.ptr id p v off) = ldP id p v off (node hp id p v) (hp id) := by
  simp only [loadA, ldP, h1]
  cases node hp id p v with
  | none => rfl
  | some x =>
    obtain ⟨a, b, cs⟩ := x
    cases hp id with
    | none => rfl
    | some r =>
      simp only [gi, rng_1, viewL_1]
      by_cases h : off + 1 ≤ b * a
      · rw [if_pos ⟨by omega, h⟩, if_pos h]
        cases cs[off]? <;> simp [packA, h1, h2]
      · rw [if_neg fun hh => h hh.2, if_neg h]
theorem ldT_pi (id : Id) (p : List Nat) (v off : Nat) : ldT hp (.ptr id p v off) (some tiInt) = ldP id p v off (node hp id p v) (hp id) := ld1p rfl rfl id p v off
theorem ldT_pb (id : Id) (p : List Nat) (v off : Nat) : ldT hp (.ptr id p v off) (some tiBool) = ldP id p v off (node hp id p v) (hp id) := ld1p rfl rfl id p v off
theorem ldT_ps (id : Id) (p : List Nat) (v off e sz : Nat) : ldT hp (.ptr id p v off) (some (tiSl e sz)) = ldP id p v off (node hp id p v) (hp id) := ld1p (ti := tiSl e sz) rfl rfl id p v off
theorem ldP_s (id : Id) (p : List Nat) (v off a b : Nat) (cs : List A) (r : Root) : ldP id p v off (some (a, b, cs)) (some r) = gi (off + 1 ≤ b * a) ((cs[off]?).map fun c => ⟨view r id p v off c, [], [id]⟩) := rfl
def ldPS (sz : Nat) (id : Id) (p : List Nat) (v off : Nat) : Option (Nat × Nat × List A) → Option Root → Option Eff
  | some (a, b, cs), some r => gi (0 < sz ∧ off + sz ≤ b * a) (if (viewL r id p v off (rng cs off sz)).length = sz then some ⟨.agg (viewL r id p v off (rng cs off sz)), [], [id]⟩ else none)
  | _, _ => none
theorem ldT_pst (id : Id) (p : List Nat) (v off : Nat) (fs : List (Nat × Nat)) (sz bytes : Nat) (z : List A) : ldT hp (.ptr id p v off) (some (tiSt fs sz bytes z)) = ldPS sz id p v off (node hp id p v) (hp id) := by
  simp only [ldT, loadA, ldPS, tiSt, packA, gi]
  cases node hp id p v with
  | none => rfl
  | some x =>
    obtain ⟨a, b, cs⟩ := x
    cases hp id with
    | none => rfl
    | some r =>
      simp only
      split
      · split <;> rfl
      · rfl
theorem ldPS_s (sz : Nat) (id : Id) (p : List Nat) (v off a b : Nat) (cs : List A) (r : Root) : ldPS sz id p v off (some (a, b, cs)) (some r) =
    gi (0 < sz ∧ off + sz ≤ b * a) (if (viewL r id p v off (rng cs off sz)).length = sz then some ⟨.agg (viewL r id p v off (rng cs off sz)), [], [id]⟩ else none) := rfl

theorem view_i (r : Root) (id : Id) (p : List Nat) (v k : Nat) (kd : IntKind) (n : Int) : view r id p v k (.i kd n) = .i kd n := rfl
theorem view_b (r : Root) (id : Id) (p : List Nat) (v k : Nat) (x : Bool) : view r id p v k (.b x) = .b x := rfl
theorem view_f (r : Root) (id : Id) (p : List Nat) (v k sz len : Nat) (cs : List A) : view r id p v k (.s false sz len cs) = .s false sz len cs := rfl
theorem view_t0 (a b : Nat) (xs : List A) (ve : Nat → Nat) (id : Id) (v k sz len : Nat) (cs : List A) : view ⟨a, b, xs, ve⟩ id [] v k (.s true sz len cs) = .ref id [k] (ve k) 0 sz len := rfl
theorem view_t1 (r : Root) (id : Id) (c v k sz len : Nat) (cs : List A) : view r id [c] v k (.s true sz len cs) = .ref id [c, k] v 0 sz len := rfl
theorem viewL_n (r : Root) (id : Id) (p : List Nat) (v k : Nat) : viewL r id p v k [] = [] := rfl
theorem viewL_c (r : Root) (id : Id) (p : List Nat) (v k : Nat) (c : A) (cs : List A) : viewL r id p v k (c :: cs) = view r id p v k c :: viewL r id p v (k + 1) cs := rfl
theorem imm1_i (kd : IntKind) (n : Int) : imm1 (.i kd n) = .i kd n := rfl
theorem imm1_b (x : Bool) : imm1 (.b x) = .b x := rfl
theorem imm1_s (o : Bool) (sz len : Nat) (cs : List A) : imm1 (.s o sz len cs) = .s false sz len cs := rfl
theorem immV_a (xs : List A) : immV (.agg xs) = .agg (xs.map imm1) := rfl
theorem immV_i (kd : IntKind) (n : Int) : immV (.i kd n) = .i kd n := rfl
theorem immV_b (x : Bool) : immV (.b x) = .b x := rfl
theorem immV_s (o : Bool) (sz len : Nat) (cs : List A) : immV (.s o sz len cs) = .s false sz len cs := rfl
theorem aggN_l (sz : Nat) (xs : List A) : aggN sz xs = if xs.length = sz then some (.pure (.agg xs)) else none := rfl
theorem rng_s (c : A) (cs : List A) (k n : Nat) : rng (c :: cs) (k + 1) n = rng cs k n := rfl
theorem rng_z (c : A) (cs : List A) (n : Nat) : rng (c :: cs) 0 (n + 1) = c :: rng cs 0 n := rfl
theorem rng_e (cs : List A) (k : Nat) : rng cs k 0 = [] := by simp [rng]
theorem rng_d (cs : List A) (a k n : Nat) : rng (cs.drop a) k n = rng cs (a + k) n := by simp [rng, List.drop_drop]

/-! Slices of slices. -/
def bnd (d : Nat) : Option A → Option Nat
  | none => some d
  | some (.i .i64 n) => gi (0 ≤ n) (some n.toNat)
  | _ => none
theorem boundA_eq (d : Nat) (x : Option A) : boundA d x = bnd d x := by
  cases x with
  | none => rfl
  | some v =>
    cases v with
    | i k n => cases k <;> rfl
    | _ => rfl
theorem bnd_n (d : Nat) : bnd d none = some d := rfl
theorem bnd_i (d : Nat) (n : Int) : bnd d (some (.i .i64 n)) = gi (0 ≤ n) (some n.toNat) := rfl
def slI (sz : Nat) (cs : List A) (len : Nat) : Option Nat → Option Nat → Option Nat → Option Eff
  | some s, some l, some h => gi (s = sz ∧ l ≤ h ∧ h ≤ len) (some (.pure (.s false sz (h - l) (rng cs (l * sz) ((h - l) * sz)))))
  | _, _, _ => none
def slR (id : Id) (p : List Nat) (v off sz len : Nat) : Option Nat → Option Nat → Option Nat → Option Eff
  | some s, some l, some h => gi (s = sz ∧ l ≤ h ∧ h ≤ len) (some (.pure (if h - l = 0 then .s false sz 0 [] else .ref id p v (off + l * sz) sz (h - l))))
  | _, _, _ => none
def slA (ts : Option Nat) (x : A) (lo hi : Option A) : Option Eff := match x with
  | .s _ sz len cs => slI sz cs len ts (bnd 0 lo) (bnd len hi)
  | .ref id p v off sz len => slR id p v off sz len ts (bnd 0 lo) (bnd len hi)
  | _ => none
def slK (T : Nat → Option TI) (x : A) (lo hi : Option A) : K → Option Eff
  | .slice e => slA (szOf T e) x lo hi
  | _ => none
theorem e_slice (t : Nat) (x : Operand) (lo hi : Option Operand) : eff T G m ty (.slice t x lo hi none) sl hp = slK T (ev T sl 0 x) (lo.map (ev T sl 0)) (hi.map (ev T sl 0)) (kindOf T t) := by
  simp only [eff, slK]
  cases kindOf T t with
  | slice e =>
    simp only [sliceA, slA, boundA_eq]
    cases ev T sl 0 x with
    | s o sz len cs =>
      simp only [slI, gi]
      cases bnd 0 (lo.map (ev T sl 0)) <;> cases bnd len (hi.map (ev T sl 0)) <;> cases szOf T e <;> simp
    | ref id p v off sz len =>
      simp only [slR, gi]
      cases bnd 0 (lo.map (ev T sl 0)) <;> cases bnd len (hi.map (ev T sl 0)) <;> cases szOf T e <;> simp
    | _ => rfl
  | _ => rfl
theorem slK_s (x : A) (lo hi : Option A) (e : Nat) : slK T x lo hi (.slice e) = slA (szOf T e) x lo hi := rfl
theorem slA_s (ts : Option Nat) (o : Bool) (sz len : Nat) (cs : List A) (lo hi : Option A) : slA ts (.s o sz len cs) lo hi = slI sz cs len ts (bnd 0 lo) (bnd len hi) := rfl
theorem slA_r (ts : Option Nat) (id : Id) (p : List Nat) (v off sz len : Nat) (lo hi : Option A) : slA ts (.ref id p v off sz len) lo hi = slR id p v off sz len ts (bnd 0 lo) (bnd len hi) := rfl
theorem slI_s (sz len s l h : Nat) (cs : List A) : slI sz cs len (some s) (some l) (some h) = gi (s = sz ∧ l ≤ h ∧ h ≤ len) (some (.pure (.s false sz (h - l) (rng cs (l * sz) ((h - l) * sz))))) := rfl
theorem slR_s (id : Id) (p : List Nat) (v off sz len s l h : Nat) : slR id p v off sz len (some s) (some l) (some h) =
    gi (s = sz ∧ l ≤ h ∧ h ≤ len) (some (.pure (if h - l = 0 then .s false sz 0 [] else .ref id p v (off + l * sz) sz (h - l)))) := rfl
end

end Go.TM

/-! The tree machine, 33: what is written, made and called, as rules for rewriting. -/
namespace Go.TM
set_option linter.unusedVariables false
set_option linter.unusedSimpArgs false

/-! ### Closing -/

abbrev Cl1 := Option (A × List (Id × Option Root) × List Id)
abbrev ClL := Option (List A × List (Id × Option Root) × List Id)

def cl0 (id : Id) (sz len : Nat) : Option Root → Cl1
  | some ⟨a, b, cs, _⟩ => gi (a = sz ∧ b = len) (some (.s true sz len cs, [(id, none)], [id]))
  | none => none
def clc (id : Id) (c sz len a b : Nat) (cs : List A) (v : Nat → Nat) : Option A → Cl1
  | some (.s true s l xs) => gi (s = sz ∧ l = len) (some (.s true sz len xs, [(id, some ⟨a, b, cs.set c .und, v⟩)], [id]))
  | _ => none
def cl1 (id : Id) (c ver sz len : Nat) : Option Root → Cl1
  | some ⟨a, b, cs, v⟩ => gi (v c = ver) (clc id c sz len a b cs v cs[c]?)
  | none => none

section
variable {T : Nat → Option TI} {G : Nat → Option FM} {hp : Hp} {m ty : Nat} {sl : Nat → A}

theorem close_i (k : IntKind) (n : Int) : close1 hp (.i k n) = some (.i k n, [], []) := rfl
theorem close_b (v : Bool) : close1 hp (.b v) = some (.b v, [], []) := rfl
theorem close_f (sz len : Nat) (cs : List A) : close1 hp (.s false sz len cs) = some (.s false sz len cs, [], []) := rfl
theorem close_n (sz : Nat) : close1 hp (.s true sz 0 []) = some (.s true sz 0 [], [], []) := rfl
theorem close_r0 (id : Id) (v sz len : Nat) : close1 hp (.ref id [] v 0 sz len) = cl0 id sz len (hp id) := by
  simp only [close1, cl0]
  cases hp id with
  | none => rfl
  | some r =>
    simp only [verOk, getP, gi]
    simp
theorem close_r1 (id : Id) (c v sz len : Nat) : close1 hp (.ref id [c] v 0 sz len) = cl1 id c v sz len (hp id) := by
  simp only [close1, cl1]
  cases hp id with
  | none => rfl
  | some r =>
    simp only [verOk, getP, gi, beq_iff_eq, true_and]
    split
    · cases hc : r.cs[c]? with
      | none => simp [clc]
      | some x =>
        cases x with
        | s o s l xs =>
          cases o with
          | false => simp [clc]
          | true => simp [clc, gi, setC]
        | _ => simp [clc]
    · rfl
theorem cl0_s (id : Id) (sz len a b : Nat) (cs : List A) (v : Nat → Nat) : cl0 id sz len (some ⟨a, b, cs, v⟩) = gi (a = sz ∧ b = len) (some (.s true sz len cs, [(id, none)], [id])) := rfl
theorem cl1_s (id : Id) (c ver sz len a b : Nat) (cs : List A) (v : Nat → Nat) : cl1 id c ver sz len (some ⟨a, b, cs, v⟩) = gi (v c = ver) (clc id c sz len a b cs v cs[c]?) := rfl
theorem clc_s (id : Id) (c sz len a b s l : Nat) (cs xs : List A) (v : Nat → Nat) : clc id c sz len a b cs v (some (.s true s l xs)) = gi (s = sz ∧ l = len) (some (.s true sz len xs, [(id, some ⟨a, b, cs.set c .und, v⟩)], [id])) := rfl

def clL1 (hp : Hp) (vs : List A) : Cl1 → ClL
  | some (c, u, rd) => (closeL (applyH hp u) vs).map fun x => (c :: x.1, u ++ x.2.1, rd ++ x.2.2)
  | none => none
theorem closeL_n : closeL hp [] = some ([], [], []) := rfl
theorem closeL_c (v : A) (vs : List A) : closeL hp (v :: vs) = clL1 hp vs (close1 hp v) := by
  simp only [closeL, clL1]
  cases close1 hp v with
  | none => rfl
  | some x =>
    obtain ⟨c, u, rd⟩ := x
    simp only
    cases closeL (applyH hp u) vs <;> rfl
theorem clL1_s (vs : List A) (c : A) (u : List (Id × Option Root)) (rd : List Id) : clL1 hp vs (some (c, u, rd)) = (closeL (applyH hp u) vs).map fun x => (c :: x.1, u ++ x.2.1, rd ++ x.2.2) := rfl
theorem applyH_n : applyH hp [] = hp := rfl
theorem applyH_c (u : Id × Option Root) (us : List (Id × Option Root)) : applyH hp (u :: us) = applyH (upd hp u.1 u.2) us := rfl
theorem cells_a (xs : List A) : cellsA (.agg xs) = xs := rfl
theorem cells_i (k : IntKind) (n : Int) : cellsA (.i k n) = [.i k n] := rfl
theorem cells_b (v : Bool) : cellsA (.b v) = [.b v] := rfl
theorem cells_s (o : Bool) (sz len : Nat) (cs : List A) : cellsA (.s o sz len cs) = [.s o sz len cs] := rfl
theorem cells_r (id : Id) (p : List Nat) (v off sz len : Nat) : cellsA (.ref id p v off sz len) = [.ref id p v off sz len] := rfl
theorem cells_p (id : Id) (p : List Nat) (v off : Nat) : cellsA (.ptr id p v off) = [.ptr id p v off] := rfl

/-! ### Stores -/

def notIn : Id → List Id → Prop
  | _, [] => True
  | x, y :: ys => ¬ (x.1 = y.1 ∧ x.2 = y.2) ∧ notIn x ys
theorem notIn_n (x : Id) : notIn x [] = True := rfl
theorem notIn_c (a b c d : Nat) (ys : List Id) : notIn (a, b) ((c, d) :: ys) = (¬ (a = c ∧ b = d) ∧ notIn (a, b) ys) := rfl
theorem notIn_iff : ∀ (x : Id) (ys : List Id), notIn x ys ↔ x ∉ ys
  | _, [] => by simp [notIn]
  | x, y :: ys => by simp only [notIn, notIn_iff x ys, List.mem_cons, not_or, Prod.ext_iff]
instance (x : Id) : ∀ ys : List Id, Decidable (notIn x ys)
  | [] => isTrue trivial
  | y :: ys => by
    unfold notIn
    have := instDecidableNotIn x ys
    infer_instance

def verS (cs : List A) (v : Nat → Nat) (p : List Nat) (off : Nat) : Nat → Nat := if cs.all isScalar then v else bumpR v p off cs.length
def stP (sz : Nat) (id : Id) (p : List Nat) (off : Nat) : Option (Nat × Nat × List A) → ClL → Option Root → Option Eff
  | some (a, b, _), some (cs, us, rd), some ⟨x, y, xs, v⟩ => if cs.length = sz then gi (0 < sz ∧ off + sz ≤ b * a ∧ notIn id (us.map (·.1))) (some ⟨.und, us ++ [(id, some ⟨x, y, modP (setR off cs) p xs, verS cs v p off⟩)], id :: rd⟩) else none
  | _, _, _ => none
def stT (hp : Hp) (x v : A) : Option TI → Option Eff
  | some ti => storeA ti hp x v
  | none => none
theorem e_store (t : Nat) (a x : Operand) : eff T G m ty (.store t a x) sl hp = stT hp (ev T sl 0 a) (ev T sl t x) (T t) := by
  simp only [eff, stT]
  cases T t <;> rfl
theorem st_ok (ti : TI) (id : Id) (p : List Nat) (ver off : Nat) (v : A) : storeA ti hp (.ptr id p ver off) v = stP ti.sz id p off (node hp id p ver) (closeL hp (cellsA v)) (hp id) := by
  simp only [storeA, stP]
  cases node hp id p ver with
  | none => rfl
  | some x =>
    obtain ⟨a, b, c⟩ := x
    cases closeL hp (cellsA v) with
    | none => rfl
    | some y =>
      obtain ⟨cs, us, rd⟩ := y
      cases hp id with
      | none => simp
      | some r =>
        simp only [gi, notIn_iff]
        by_cases h : cs.length = ti.sz
        · rw [if_pos h]
          by_cases h2 : 0 < ti.sz ∧ off + ti.sz ≤ b * a ∧ id ∉ us.map (·.1)
          · rw [if_pos h2, if_pos ⟨h, h2⟩]; rfl
          · rw [if_neg h2, if_neg fun hh => h2 hh.2]
        · rw [if_neg h, if_neg fun hh => h hh.1]
theorem stT_s (ti : TI) (id : Id) (p : List Nat) (ver off : Nat) (v : A) : stT hp (.ptr id p ver off) v (some ti) = stP ti.sz id p off (node hp id p ver) (closeL hp (cellsA v)) (hp id) := st_ok ti id p ver off v
theorem stP_s (sz : Nat) (id : Id) (p : List Nat) (off a b : Nat) (z : List A) (cs : List A) (us : List (Id × Option Root)) (rd : List Id) (x y : Nat) (xs : List A) (v : Nat → Nat) :
    stP sz id p off (some (a, b, z)) (some (cs, us, rd)) (some ⟨x, y, xs, v⟩) = if cs.length = sz then gi (0 < sz ∧ off + sz ≤ b * a ∧ notIn id (us.map (·.1))) (some ⟨.und, us ++ [(id, some ⟨x, y, modP (setR off cs) p xs, verS cs v p off⟩)], id :: rd⟩) else none := rfl
theorem modP_n (f : List A → List A) (cs : List A) : modP f [] cs = f cs := rfl
def modC (f : List A → List A) (c : Nat) (cs : List A) : Option A → List A
  | some (.s true sz len xs) => cs.set c (.s true sz len (f xs))
  | _ => cs
theorem modP_1 (f : List A → List A) (c : Nat) (cs : List A) : modP f [c] cs = modC f c cs cs[c]? := by
  simp only [modP, modC]
  split <;> rename_i h
  · rw [h]
  · cases hc : cs[c]? with
    | none => rfl
    | some x =>
      cases x with
      | s o sz len xs =>
        cases o with
        | true => exact (h _ _ _ hc).elim
        | false => rfl
      | _ => rfl
theorem modC_s (f : List A → List A) (c sz len : Nat) (cs xs : List A) : modC f c cs (some (.s true sz len xs)) = cs.set c (.s true sz len (f xs)) := rfl
theorem setR_n (off : Nat) (cs : List A) : setR off [] cs = cs := rfl
theorem setR_1 (off : Nat) (v : A) (cs : List A) : setR off [v] cs = cs.set off v := rfl
theorem set_lz (c v : A) (cs : List A) : (c :: cs).set 0 v = v :: cs := rfl
theorem set_ls (c v : A) (cs : List A) (k : Nat) : (c :: cs).set (k + 1) v = c :: cs.set k v := rfl
theorem verS_i (k : IntKind) (n : Int) (v : Nat → Nat) (p : List Nat) (off : Nat) : verS [.i k n] v p off = v := rfl
theorem verS_b (x : Bool) (v : Nat → Nat) (p : List Nat) (off : Nat) : verS [.b x] v p off = v := rfl

/-! ### Makers -/

def alK (m : Nat) : Option TI → Option Eff
  | some ti => some ⟨.ptr (m, 0) [] 0 0, [((m, 0), some (newRoot ti.sz 1 ti.zero))], []⟩
  | none => none
theorem e_alloc (e : Nat) : eff T G m ty (.alloc e) sl hp = alK m (T e) := by
  simp only [eff, alK]
  cases T e <;> rfl
theorem alK_s (ti : TI) : alK m (some ti) = some ⟨.ptr (m, 0) [] 0 0, [((m, 0), some (newRoot ti.sz 1 ti.zero))], []⟩ := rfl
theorem newRoot_e (a b : Nat) (cs : List A) : newRoot a b cs = ⟨a, b, cs, fun _ => 0⟩ := rfl
def boxK (m : Nat) : Option TI → ClL → Option Eff
  | some ti, some (cs, us, rd) => if cs.length = ti.sz then some ⟨.ptr (m, 0) [] 0 0, us ++ [((m, 0), some (newRoot ti.sz 1 cs))], rd⟩ else none
  | _, _ => none
theorem e_box (e : Nat) (x : Operand) : eff T G m ty (.box e x) sl hp = boxK m (T e) (closeL hp (cellsA (ev T sl e x))) := by
  simp only [eff, boxK]
  cases T e <;> first | rfl | (cases closeL hp (cellsA (ev T sl e x)) <;> rfl)
theorem boxK_s (ti : TI) (cs : List A) (us : List (Id × Option Root)) (rd : List Id) : boxK m (some ti) (some (cs, us, rd)) = if cs.length = ti.sz then some ⟨.ptr (m, 0) [] 0 0, us ++ [((m, 0), some (newRoot ti.sz 1 cs))], rd⟩ else none := rfl

/-- The parts of a literal. -/
def fl (place : Nat → Option (Nat × Nat)) : List A → List (Nat × A) → Option (List A)
  | cs, [] => some cs
  | cs, (i, v) :: rest => match place i with
    | none => none
    | some (off, size) => if okPart v = true ∧ (cellsA v).length = size ∧ off + size ≤ cs.length then fl place (cs.take off ++ cellsA v ++ cs.drop (off + size)) rest else none
theorem fillA_eq (place : Nat → Option (Nat × Nat)) : ∀ (ps : List (Nat × A)) (cs : List A), fillA place cs ps = fl place cs ps
  | [], cs => rfl
  | (i, v) :: rest, cs => by
    simp only [fillA, fl]
    cases place i with
    | none => rfl
    | some x =>
      obtain ⟨off, size⟩ := x
      simp only [fillA_eq place rest]
def flP (place : Nat → Option (Nat × Nat)) (cs : List A) (v : A) (rest : List (Nat × A)) : Option (Nat × Nat) → Option (List A)
  | none => none
  | some (off, size) => if okPart v = true ∧ (cellsA v).length = size ∧ off + size ≤ cs.length then fl place (cs.take off ++ cellsA v ++ cs.drop (off + size)) rest else none
theorem fl_n (place : Nat → Option (Nat × Nat)) (cs : List A) : fl place cs [] = some cs := rfl
theorem fl_c (place : Nat → Option (Nat × Nat)) (cs : List A) (i : Nat) (v : A) (rest : List (Nat × A)) : fl place cs ((i, v) :: rest) = flP place cs v rest (place i) := by
  simp only [fl, flP]
theorem flP_s (place : Nat → Option (Nat × Nat)) (cs : List A) (v : A) (rest : List (Nat × A)) (off size : Nat) : flP place cs v rest (some (off, size)) =
    if okPart v = true ∧ (cellsA v).length = size ∧ off + size ≤ cs.length then fl place (cs.take off ++ cellsA v ++ cs.drop (off + size)) rest else none := rfl
theorem okp_i (k : IntKind) (n : Int) : okPart (.i k n) = true := rfl
theorem okp_b (v : Bool) : okPart (.b v) = true := rfl
theorem okp_s (o : Bool) (sz len : Nat) (cs : List A) : okPart (.s o sz len cs) = true := rfl
theorem okp_r (id : Id) (p : List Nat) (v off sz len : Nat) : okPart (.ref id p v off sz len) = true := rfl
theorem okp_a (xs : List A) : okPart (.agg xs) = true := rfl
theorem okp_p (id : Id) (p : List Nat) (v off : Nat) : okPart (.ptr id p v off) = true := rfl

def plS (T : Nat → Option TI) (fs : List (Nat × Nat)) (i : Nat) : Option (Nat × Nat) := (fs[i]?).bind fun f => (T f.2).map fun fi => (f.1, fi.sz)
def bldK (T : Nat → Option TI) (sl : Nat → A) (parts : List (Nat × Operand)) : Option TI → Option Eff
  | some ti => match ti.kind with
    | .struct fs => (fl (plS T fs) ti.zero (parts.map fun p => (p.1, ev T sl ((fs[p.1]?).elim 0 (·.2)) p.2))).map fun cs => .pure (.agg cs)
    | _ => none
  | none => none
theorem e_build (t : Nat) (parts : List (Nat × Operand)) : eff T G m ty (.build t parts.toArray) sl hp = bldK T sl parts (T t) := by
  simp only [eff, bldK]
  cases T t with
  | none => rfl
  | some ti =>
    simp only
    cases ti.kind <;> first | rfl | (simp only [fillA_eq]; rfl)
theorem bldK_s (parts : List (Nat × Operand)) (fs : List (Nat × Nat)) (sz bytes : Nat) (z : List A) : bldK T sl parts (some (tiSt fs sz bytes z)) =
    (fl (plS T fs) z (parts.map fun p => (p.1, ev T sl ((fs[p.1]?).elim 0 (·.2)) p.2))).map fun cs => .pure (.agg cs) := rfl

def plL (sz i : Nat) : Option (Nat × Nat) := some (i * sz, sz)
def bslE (m sz len : Nat) : ClL → Option Eff
  | some (cs, us, rd) => gi (0 < sz ∧ len * sz ≤ 2 ^ 24) (some ⟨.ref (m, 0) [] 0 0 sz len, us ++ [((m, 0), some (newRoot sz len cs))], rd⟩)
  | none => none
def bslF (hp : Hp) (m sz len : Nat) : Option (List A) → Option Eff
  | some vs => bslE m sz len (closeL hp vs)
  | none => none
def bslK (T : Nat → Option TI) (sl : Nat → A) (hp : Hp) (m len : Nat) (parts : List (Nat × Operand)) : K → Option Eff
  | .slice e => match T e with
    | some ti => bslF hp m ti.sz len (fl (plL ti.sz) (List.replicate len ti.zero).flatten (parts.map fun p => (p.1, ev T sl e p.2)))
    | none => none
  | _ => none
theorem e_buildSlice (t len : Nat) (parts : List (Nat × Operand)) : eff T G m ty (.buildSlice t len parts.toArray) sl hp = bslK T sl hp m len parts (kindOf T t) := by
  simp only [eff, bslK]
  cases kindOf T t with
  | slice e =>
    simp only
    cases T e with
    | none => rfl
    | some ti =>
      simp only [fillA_eq]
      change (match fl (plL ti.sz) (List.replicate len ti.zero).flatten _ with | some vs => _ | none => none) = bslF hp m ti.sz len (fl (plL ti.sz) (List.replicate len ti.zero).flatten _)
      cases fl (plL ti.sz) (List.replicate len ti.zero).flatten (parts.map fun p => (p.1, ev T sl e p.2)) with
      | none => rfl
      | some vs =>
        simp only [bslF]
        cases closeL hp vs <;> rfl
  | _ => rfl
def bslT (T : Nat → Option TI) (sl : Nat → A) (hp : Hp) (m len e : Nat) (parts : List (Nat × Operand)) : Option TI → Option Eff
  | some ti => bslF hp m ti.sz len (fl (plL ti.sz) (List.replicate len ti.zero).flatten (parts.map fun p => (p.1, ev T sl e p.2)))
  | none => none
theorem bslK_s (len e : Nat) (parts : List (Nat × Operand)) : bslK T sl hp m len parts (.slice e) = bslT T sl hp m len e parts (T e) := by
  simp only [bslK, bslT]
theorem bslT_s (len e : Nat) (parts : List (Nat × Operand)) (ti : TI) : bslT T sl hp m len e parts (some ti) = bslF hp m ti.sz len (fl (plL ti.sz) (List.replicate len ti.zero).flatten (parts.map fun p => (p.1, ev T sl e p.2))) := rfl
theorem bslF_s (sz len : Nat) (vs : List A) : bslF hp m sz len (some vs) = bslE m sz len (closeL hp vs) := rfl
theorem bslE_s (sz len : Nat) (cs : List A) (us : List (Id × Option Root)) (rd : List Id) : bslE m sz len (some (cs, us, rd)) = gi (0 < sz ∧ len * sz ≤ 2 ^ 24) (some ⟨.ref (m, 0) [] 0 0 sz len, us ++ [((m, 0), some (newRoot sz len cs))], rd⟩) := rfl

def mkT (m : Nat) (n : Int) : Option TI → Option Eff
  | some ti => gi (0 ≤ n ∧ n.toNat * ti.bytes ≤ 140737488355328 ∧ n.toNat ≤ 140737488355328) (some ⟨.ref (m, 0) [] 0 0 ti.sz n.toNat, [((m, 0), some (newRoot ti.sz n.toNat (List.replicate n.toNat ti.zero).flatten))], []⟩)
  | none => none
def mkK (T : Nat → Option TI) (m : Nat) : K → A → A → Option Eff
  | .slice e, .i .i64 n, .i .i64 n' => if n = n' then mkT m n (T e) else none
  | _, _, _ => none
theorem e_makeSlice (t : Nat) (l c : Operand) : eff T G m ty (.makeSlice t l c) sl hp = mkK T m (kindOf T t) (ev T sl 0 l) (ev T sl 0 c) := by
  simp only [eff, mkK]
  cases kindOf T t with
  | slice e =>
    cases ev T sl 0 l with
    | i k n =>
      cases k with
      | i64 =>
        cases ev T sl 0 c with
        | i k' n' =>
          cases k' with
          | i64 =>
            simp only
            cases T e with
            | none => simp [mkT]
            | some ti =>
              simp only [mkT, gi]
              by_cases h : n = n'
              · rw [if_pos h]
                by_cases h2 : 0 ≤ n ∧ n.toNat * ti.bytes ≤ 140737488355328 ∧ n.toNat ≤ 140737488355328
                · rw [if_pos h2, if_pos ⟨h, h2⟩]
                · rw [if_neg h2, if_neg fun hh => h2 hh.2]
              · rw [if_neg h, if_neg fun hh => h hh.1]
          | _ => rfl
        | _ => rfl
      | _ => rfl
    | _ => rfl
  | _ => rfl
theorem mkK_s (e : Nat) (n n' : Int) : mkK T m (.slice e) (.i .i64 n) (.i .i64 n') = if n = n' then mkT m n (T e) else none := rfl
theorem mkT_s (n : Int) (ti : TI) : mkT m n (some ti) = gi (0 ≤ n ∧ n.toNat * ti.bytes ≤ 140737488355328 ∧ n.toNat ≤ 140737488355328) (some ⟨.ref (m, 0) [] 0 0 ti.sz n.toNat, [((m, 0), some (newRoot ti.sz n.toNat (List.replicate n.toNat ti.zero).flatten))], []⟩) := rfl

/-! ### Append -/

abbrev Src := Option (List A × Nat × List (Id × Option Root) × List Id)
def srR (hp : Hp) (flat : Bool) (sz : Nat) (id : Id) (p : List Nat) (off sz' len : Nat) : Option (Nat × Nat × List A) → Option Root → Src
  | some (a, b, cs), some r => gi (sz' = sz ∧ a = sz ∧ off + len * sz ≤ b * a)
      (if flat then some ((rng cs off (len * sz)).map scal, len, [], [id]) else if p = [] then some (rng cs off (len * sz), len, [(id, some { r with cs := goneR r.cs off (len * sz) })], [id]) else none)
  | _, _ => none
def sr (hp : Hp) (flat : Bool) (sz : Nat) (x : A) : Src := srcOf hp flat sz x
theorem sr_s (flat : Bool) (sz sz' len : Nat) (o : Bool) (cs : List A) : sr hp flat sz (.s o sz' len cs) = if sz' = sz then some (cs.map imm1, len, [], []) else none := rfl
theorem sr_r (flat : Bool) (sz : Nat) (id : Id) (p : List Nat) (v off sz' len : Nat) : sr hp flat sz (.ref id p v off sz' len) = srR hp flat sz id p off sz' len (node hp id p v) (hp id) := by
  simp only [sr, srcOf, srR, gi]
  cases node hp id p v with
  | none => rfl
  | some x =>
    cases hp id with
    | none => rfl
    | some r => rfl
theorem srR_t (sz : Nat) (id : Id) (p : List Nat) (off sz' len a b : Nat) (cs : List A) (r : Root) : srR hp true sz id p off sz' len (some (a, b, cs)) (some r) = gi (sz' = sz ∧ a = sz ∧ off + len * sz ≤ b * a) (some ((rng cs off (len * sz)).map scal, len, [], [id])) := rfl
theorem srR_f (sz : Nat) (id : Id) (off sz' len a b : Nat) (cs : List A) (x y : Nat) (xs : List A) (v : Nat → Nat) : srR hp false sz id [] off sz' len (some (a, b, cs)) (some ⟨x, y, xs, v⟩) =
    gi (sz' = sz ∧ a = sz ∧ off + len * sz ≤ b * a) (some (rng cs off (len * sz), len, [(id, some ⟨x, y, goneR xs off (len * sz), v⟩)], [id])) := rfl
def ds0 (id : Id) (sz off sz' len : Nat) : Option Root → Src
  | some ⟨a, b, cs, _⟩ => gi (off = 0 ∧ sz' = sz ∧ a = sz ∧ len ≤ b) (some (cs.take (len * sz), len, [(id, none)], [id]))
  | none => none
def ds (hp : Hp) (sz : Nat) (x : A) : Src := dstOf hp sz x
theorem ds_n (sz sz' : Nat) : ds hp sz (.s true sz' 0 []) = if sz' = sz then some ([], 0, [], []) else none := rfl
theorem ds_r (sz : Nat) (id : Id) (v off sz' len : Nat) : ds hp sz (.ref id [] v off sz' len) = ds0 id sz off sz' len (hp id) := by
  simp only [ds, dstOf, ds0, node_0]
  cases hp id with
  | none => rfl
  | some r => simp only [nd0, gi]
theorem ds0_s (id : Id) (sz off sz' len a b : Nat) (cs : List A) (v : Nat → Nat) : ds0 id sz off sz' len (some ⟨a, b, cs, v⟩) = gi (off = 0 ∧ sz' = sz ∧ a = sz ∧ len ≤ b) (some (cs.take (len * sz), len, [(id, none)], [id])) := rfl
def apD (m sz bytes : Nat) (scs : List A) (slen : Nat) (us : List (Id × Option Root)) (rd : List Id) : Src → Option Eff
  | some (dcs, dlen, us', rd') => gi ((dlen + slen) * bytes ≤ 140737488355328 ∧ dlen + slen ≤ 140737488355328 ∧ 0 < sz) (some ⟨.ref (m, 0) [] 0 0 sz (dlen + slen), us ++ us' ++ [((m, 0), some (newRoot sz (dlen + slen) (dcs ++ scs)))], rd ++ rd'⟩)
  | none => none
def apS (hp : Hp) (m sz bytes : Nat) (d : A) : Src → Option Eff
  | some (scs, slen, us, rd) => apD m sz bytes scs slen us rd (ds (applyH hp us) sz d)
  | none => none
def apT (hp : Hp) (m : Nat) (d x : A) : Option TI → Option Eff
  | some ti => apS hp m ti.sz ti.bytes d (sr hp (flatTI ti) ti.sz x)
  | none => none
def apK (T : Nat → Option TI) (hp : Hp) (m : Nat) (d x : A) : K → Option Eff
  | .slice e => apT hp m d x (T e)
  | _ => none
theorem e_append (s x : Operand) (t : Nat) : eff T G m ty (.call ⟨.builtin .append, #[s, x], #[t, t]⟩) sl hp = apK T hp m (ev T sl t s) (ev T sl t x) (kindOf T t) := by
  simp only [eff, apK, if_true]
  cases kindOf T t with
  | slice e =>
    simp only
    cases T e with
    | none => rfl
    | some ti =>
      simp only [apT, sr]
      cases srcOf hp (flatTI ti) ti.sz (ev T sl t x) with
      | none => rfl
      | some y =>
        obtain ⟨scs, slen, us, rd⟩ := y
        simp only [apS, ds]
        cases dstOf (applyH hp us) ti.sz (ev T sl t s) <;> rfl
  | _ => rfl
theorem apK_s (d x : A) (e : Nat) : apK T hp m d x (.slice e) = apT hp m d x (T e) := rfl
theorem apT_s (d x : A) (ti : TI) : apT hp m d x (some ti) = apS hp m ti.sz ti.bytes d (sr hp (flatTI ti) ti.sz x) := rfl
theorem apS_s (sz bytes : Nat) (d : A) (scs : List A) (slen : Nat) (us : List (Id × Option Root)) (rd : List Id) : apS hp m sz bytes d (some (scs, slen, us, rd)) = apD m sz bytes scs slen us rd (ds (applyH hp us) sz d) := rfl
theorem apD_s (sz bytes : Nat) (scs dcs : List A) (slen dlen : Nat) (us us' : List (Id × Option Root)) (rd rd' : List Id) : apD m sz bytes scs slen us rd (some (dcs, dlen, us', rd')) =
    gi ((dlen + slen) * bytes ≤ 140737488355328 ∧ dlen + slen ≤ 140737488355328 ∧ 0 < sz) (some ⟨.ref (m, 0) [] 0 0 sz (dlen + slen), us ++ us' ++ [((m, 0), some (newRoot sz (dlen + slen) (dcs ++ scs)))], rd ++ rd'⟩) := rfl

/-! ### Calls -/

def disP : List Id → List Id → Prop
  | [], _ => True
  | x :: xs, ys => notIn x ys ∧ disP xs ys
theorem disP_n (ys : List Id) : disP [] ys = True := rfl
theorem disP_c (x : Id) (xs ys : List Id) : disP (x :: xs) ys = (notIn x ys ∧ disP xs ys) := rfl
theorem disP_iff : ∀ (xs ys : List Id), disP xs ys ↔ disjB xs ys = true
  | [], _ => by simp [disP, disjB]
  | x :: xs, ys => by
    have := disP_iff xs ys
    simp only [disjB, List.all_eq_true] at this
    simp only [disP, this, disjB, List.all_cons, Bool.and_eq_true, List.all_eq_true, notIn_iff]
    constructor
    · rintro ⟨h1, h2⟩
      exact ⟨fun y hy => by simp; rintro rfl; exact h1 hy, h2⟩
    · rintro ⟨h1, h2⟩
      exact ⟨fun hx => by simpa using h1 x hx, h2⟩
def nodP : List Id → Prop
  | [] => True
  | x :: xs => notIn x xs ∧ nodP xs
theorem nodP_n : nodP [] = True := rfl
theorem nodP_c (x : Id) (xs : List Id) : nodP (x :: xs) = (notIn x xs ∧ nodP xs) := rfl
theorem nodP_iff : ∀ (xs : List Id), nodP xs ↔ nodupB xs = true
  | [] => by simp [nodP, nodupB]
  | x :: xs => by
    simp only [nodP, nodupB, nodP_iff xs, Bool.and_eq_true, List.all_eq_true, notIn_iff]
    constructor
    · rintro ⟨h1, h2⟩
      exact ⟨fun y hy => by simp; rintro rfl; exact h1 hy, h2⟩
    · rintro ⟨h1, h2⟩
      exact ⟨fun hx => by simpa using h1 x hx, h2⟩
instance (x y : List Id) : Decidable (disP x y) := decidable_of_iff _ (disP_iff x y).symm
instance (x : List Id) : Decidable (nodP x) := decidable_of_iff _ (nodP_iff x).symm
theorem disB_of {xs ys : List Id} (h : disP xs ys) : disjB xs ys = true := (disP_iff xs ys).1 h

def caF (m : Nat) (r : A) (us : List (Id × Option Root)) (rd : List Id) : Option (List (Id × Option Root)) → Option Eff
  | some us' => some ⟨(plant m r).1, us ++ us' ++ (plant m r).2, rd⟩
  | none => none
def caE (hp : Hp) (m : Nat) (us : List (Id × Option Root)) (rd : List Id) (ios : List (Id × List Nat)) : Out1 → Option Eff
  | some (r, outs) => caF m r us rd (outsOf hp ios outs)
  | none => none
def caD (hp : Hp) (m : Nat) (M : Model) (us : List (Id × Option Root)) (rd1 : List Id) : Option (List A × List Id × List (Id × List Nat)) → Option Eff
  | some (xs, rds, ios) => gi (nodP (ios.map (·.1)) ∧ disP (ios.map (·.1)) rds ∧ (rds = [] ∨ M.clean = true)) (caE hp m us (rd1 ++ rds ++ ios.map (·.1)) ios (M.fn xs))
  | none => none
def caC (hp : Hp) (m : Nat) (M : Model) (args : List A) : ClL → Option Eff
  | some (cs, us, rd1) => caD (applyH hp us) m M us rd1 (contsOf (applyH hp us) M.kinds args cs)
  | none => none
def caG (hp : Hp) (m : Nat) (args : List A) : Option FM → Option Eff
  | some (.model M) => caC hp m M args (closeL hp (mvsOf M.kinds args))
  | some (.alias ar outs) => if (args.map fun a => (cellsA a).length) = ar then (outCells m args 0 outs).map fun x => ⟨.agg x.1, x.2, []⟩ else none
  | some (.grow sz) => growA m sz args
  | some (.each ar js M) => eachC M ar js hp args
  | none => none
theorem e_call (f : Nat) (args : List Operand) (ts : List Nat) : eff T G m ty (.call ⟨.value (.func f), args.toArray, ts.toArray⟩) sl hp = caG hp m (evL T sl args ts) (G f) := by
  simp only [eff, callA, caG]
  cases G f with
  | none => rfl
  | some fm =>
    cases fm with
    | alias ar outs => rfl
    | grow sz => rfl
    | each ar js M => rfl
    | model M =>
      simp only
      cases closeL hp (mvsOf M.kinds (evL T sl args ts)) with
      | none => rfl
      | some x =>
        obtain ⟨cs, us, rd1⟩ := x
        simp only [caC]
        cases contsOf (applyH hp us) M.kinds (evL T sl args ts) cs with
        | none => rfl
        | some y =>
          obtain ⟨xs, rds, ios⟩ := y
          simp only [caD, gi, nodP_iff, disP_iff]
          split
          · cases M.fn xs with
            | none => rfl
            | some z =>
              obtain ⟨r, outs⟩ := z
              simp only [caE]
              cases outsOf (applyH hp us) ios outs <;> rfl
          · rfl
theorem caG_m (args : List A) (M : Model) : caG hp m args (some (.model M)) = caC hp m M args (closeL hp (mvsOf M.kinds args)) := rfl
theorem caG_a (args : List A) (ar : List Nat) (outs : List Out) : caG hp m args (some (.alias ar outs)) = if (args.map fun a => (cellsA a).length) = ar then (outCells m args 0 outs).map fun x => ⟨.agg x.1, x.2, []⟩ else none := rfl
theorem caG_e (args : List A) (ar : Nat) (js : List Nat) (M : Model) : caG hp m args (some (.each ar js M)) = eachC M ar js hp args := rfl
theorem caG_g (args : List A) (sz : Nat) : caG hp m args (some (.grow sz)) = growA m sz args := rfl
theorem growA_s (sz : Nat) (n : Int) (h0 : 0 ≤ n) (h1 : n ≤ 1099511627776) : growA m sz [.s true sz 0 [], .i .i64 n] = some ⟨.ref (m, 0) [] 0 0 sz 0, [((m, 0), some (newRoot sz 0 []))], []⟩ := if_pos ⟨rfl, h0, h1⟩
theorem caC_s (M : Model) (args cs : List A) (us : List (Id × Option Root)) (rd1 : List Id) : caC hp m M args (some (cs, us, rd1)) = caD (applyH hp us) m M us rd1 (contsOf (applyH hp us) M.kinds args cs) := rfl
theorem caD_s (M : Model) (xs : List A) (us : List (Id × Option Root)) (rd1 rds : List Id) (ios : List (Id × List Nat)) : caD hp m M us rd1 (some (xs, rds, ios)) =
    gi (nodP (ios.map (·.1)) ∧ disP (ios.map (·.1)) rds ∧ (rds = [] ∨ M.clean = true)) (caE hp m us (rd1 ++ rds ++ ios.map (·.1)) ios (M.fn xs)) := rfl
theorem caE_s (us : List (Id × Option Root)) (rd : List Id) (ios : List (Id × List Nat)) (r : A) (outs : List (List A)) : caE hp m us rd ios (some (r, outs)) = caF m r us rd (outsOf hp ios outs) := rfl
theorem caF_s (r : A) (us us' : List (Id × Option Root)) (rd : List Id) : caF m r us rd (some us') = some ⟨(plant m r).1, us ++ us' ++ (plant m r).2, rd⟩ := rfl

theorem evL_n (ts : List Nat) : evL T sl [] ts = [] := by cases ts <;> rfl
theorem evL_c (x : Operand) (xs : List Operand) (t : Nat) (ts : List Nat) : evL T sl (x :: xs) (t :: ts) = ev T sl t x :: evL T sl xs ts := rfl
theorem mvs_n {α : Type} : mvsOf [] ([] : List α) = [] := rfl
theorem mvs_r {α : Type} (ks : List Kind) (v : α) (vs : List α) : mvsOf (.ro :: ks) (v :: vs) = mvsOf ks vs := rfl
theorem mvs_m {α : Type} (ks : List Kind) (v : α) (vs : List α) : mvsOf (.mv :: ks) (v :: vs) = v :: mvsOf ks vs := rfl
theorem mvs_i {α : Type} (ks : List Kind) (v : α) (vs : List α) : mvsOf (.io :: ks) (v :: vs) = mvsOf ks vs := rfl
theorem mvs_l {α : Type} (n : Nat) (ks : List Kind) (v : α) (vs : List α) : mvsOf (.ln n :: ks) (v :: vs) = mvsOf ks vs := rfl

abbrev Cnt := Option (List A × List Id × List (Id × List Nat))
def cnR : Option (A × List Id) → Cnt → Cnt
  | some (c, rd), some (xs, rds, ios) => some (c :: xs, rd ++ rds, ios)
  | _, _ => none
def cnM (c : A) : Cnt → Cnt
  | some (xs, rds, ios) => some (c :: xs, rds, ios)
  | none => none
def cnI (id : Id) : Option Root → Cnt → Cnt
  | some ⟨_, b, cs, _⟩, some (xs, rds, ios) => gi (b = 1) (some (.agg cs :: xs, rds, (id, []) :: ios))
  | _, _ => none
def cnL (n : Nat) : Option (A × List (Id × List Nat)) → Cnt → Cnt
  | some (c, es), some (xs, rds, ios) => if es.length = n then some (c :: xs, rds, es ++ ios) else none
  | _, _ => none
theorem cnt_n : contsOf hp [] [] [] = some ([], [], []) := rfl
theorem cnt_r (ks : List Kind) (v : A) (vs cs : List A) : contsOf hp (.ro :: ks) (v :: vs) cs = cnR (snap hp v) (contsOf hp ks vs cs) := by
  simp only [contsOf, cnR]
  cases snap hp v <;> first | rfl | (cases contsOf hp ks vs cs <;> rfl)
theorem cnt_m (ks : List Kind) (v c : A) (vs cs : List A) : contsOf hp (.mv :: ks) (v :: vs) (c :: cs) = cnM c (contsOf hp ks vs cs) := by
  simp only [contsOf, cnM]
  cases contsOf hp ks vs cs <;> rfl
theorem cnt_i (ks : List Kind) (id : Id) (ver : Nat) (vs cs : List A) : contsOf hp (.io :: ks) (.ptr id [] ver 0 :: vs) cs = cnI id (hp id) (contsOf hp ks vs cs) := by
  simp only [contsOf, cnI]
  cases hp id with
  | none => rfl
  | some r =>
    simp only [gi]
    cases contsOf hp ks vs cs <;> simp
theorem cnt_l (n : Nat) (ks : List Kind) (v : A) (vs cs : List A) : contsOf hp (.ln n :: ks) (v :: vs) cs = cnL n (lnVal hp v) (contsOf hp ks vs cs) := by
  simp only [contsOf, cnL]
  cases lnVal hp v with
  | none => rfl
  | some x =>
    simp only
    cases contsOf hp ks vs cs <;> simp
theorem cnR_s (c : A) (rd : List Id) (xs : List A) (rds : List Id) (ios : List (Id × List Nat)) : cnR (some (c, rd)) (some (xs, rds, ios)) = some (c :: xs, rd ++ rds, ios) := rfl
theorem cnM_s (c : A) (xs : List A) (rds : List Id) (ios : List (Id × List Nat)) : cnM c (some (xs, rds, ios)) = some (c :: xs, rds, ios) := rfl
theorem cnI_s (id : Id) (a b : Nat) (cs : List A) (v : Nat → Nat) (xs : List A) (rds : List Id) (ios : List (Id × List Nat)) : cnI id (some ⟨a, b, cs, v⟩) (some (xs, rds, ios)) = gi (b = 1) (some (.agg cs :: xs, rds, (id, []) :: ios)) := rfl
theorem cnL_s (n : Nat) (c : A) (es : List (Id × List Nat)) (xs : List A) (rds : List Id) (ios : List (Id × List Nat)) : cnL n (some (c, es)) (some (xs, rds, ios)) = if es.length = n then some (c :: xs, rds, es ++ ios) else none := rfl

def snR (id : Id) (off sz len : Nat) : Option (Nat × Nat × List A) → Option (A × List Id)
  | some (a, b, cs) => gi (sz = a ∧ off + len * sz ≤ b * a) (some (.s false sz len (normL (rng cs off (len * sz))), [id]))
  | none => none
theorem snap_i (k : IntKind) (n : Int) : snap hp (.i k n) = some (.i k n, []) := rfl
theorem snap_b (v : Bool) : snap hp (.b v) = some (.b v, []) := rfl
theorem snap_s (o : Bool) (sz len : Nat) (cs : List A) : snap hp (.s o sz len cs) = some (.s false sz len (normL cs), []) := rfl
theorem snap_r (id : Id) (p : List Nat) (v off sz len : Nat) : snap hp (.ref id p v off sz len) = snR id off sz len (node hp id p v) := by
  simp only [snap, snap1, snR, gi]
  cases node hp id p v <;> rfl
def snA : Option (List A × List Id) → Option (A × List Id)
  | some (cs, rd) => some (.agg cs, rd)
  | none => none
theorem snap_a (xs : List A) : snap hp (.agg xs) = snA (snapL hp xs) := by
  simp only [snap, snA]
  cases snapL hp xs <;> rfl
theorem snA_s (cs : List A) (rd : List Id) : snA (some (cs, rd)) = some (.agg cs, rd) := rfl
def snC : Option (A × List Id) → Option (List A × List Id) → Option (List A × List Id)
  | some (c, rd), some (cs, rds) => some (c :: cs, rd ++ rds)
  | _, _ => none
theorem snapL_n : snapL hp [] = some ([], []) := rfl
theorem snapL_c (v : A) (vs : List A) : snapL hp (v :: vs) = snC (snap1 hp v) (snapL hp vs) := by
  simp only [snapL, snC]
  cases snap1 hp v <;> first | rfl | (cases snapL hp vs <;> rfl)
theorem snC_s (c : A) (rd : List Id) (cs : List A) (rds : List Id) : snC (some (c, rd)) (some (cs, rds)) = some (c :: cs, rd ++ rds) := rfl
theorem snap1_i (k : IntKind) (n : Int) : snap1 hp (.i k n) = some (.i k n, []) := rfl
theorem snap1_b (v : Bool) : snap1 hp (.b v) = some (.b v, []) := rfl
theorem snap1_s (o : Bool) (sz len : Nat) (cs : List A) : snap1 hp (.s o sz len cs) = some (.s false sz len (normL cs), []) := rfl
theorem snap1_r (id : Id) (p : List Nat) (v off sz len : Nat) : snap1 hp (.ref id p v off sz len) = snR id off sz len (node hp id p v) := by
  simp only [snap1, snR, gi]
  cases node hp id p v <;> rfl
theorem snR_s (id : Id) (off sz len a b : Nat) (cs : List A) : snR id off sz len (some (a, b, cs)) = gi (sz = a ∧ off + len * sz ≤ b * a) (some (.s false sz len (normL (rng cs off (len * sz))), [id])) := rfl
theorem normL_n : normL [] = [] := rfl

abbrev Lnt := Option (A × List (Id × List Nat))
def lnR (id : Id) (p : List Nat) (off sz len : Nat) : Option (Nat × Nat × List A) → Lnt
  | some (a, b, cs) => gi (off = 0 ∧ sz = a ∧ len = b) (some (.s true sz len cs, [(id, p)]))
  | none => none
theorem lnV_r (id : Id) (p : List Nat) (v off sz len : Nat) : lnVal hp (.ref id p v off sz len) = lnR id p off sz len (node hp id p v) := by
  simp only [lnVal, lnCell, lnR, gi]
  cases node hp id p v <;> rfl
theorem lnC_r (id : Id) (p : List Nat) (v off sz len : Nat) : lnCell hp (.ref id p v off sz len) = lnR id p off sz len (node hp id p v) := by
  simp only [lnCell, lnR, gi]
  cases node hp id p v <;> rfl
theorem lnC_i (k : IntKind) (n : Int) : lnCell hp (.i k n) = some (.i k n, []) := rfl
theorem lnR_s (id : Id) (p : List Nat) (off sz len a b : Nat) (cs : List A) : lnR id p off sz len (some (a, b, cs)) = gi (off = 0 ∧ sz = a ∧ len = b) (some (.s true sz len cs, [(id, p)])) := rfl
def lnA : Option (List A × List (Id × List Nat)) → Lnt
  | some (cs, es) => some (.agg cs, es)
  | none => none
theorem lnV_a (xs : List A) : lnVal hp (.agg xs) = lnA (lnCells hp xs) := by
  simp only [lnVal, lnA]
  cases lnCells hp xs <;> rfl
theorem lnA_s (cs : List A) (es : List (Id × List Nat)) : lnA (some (cs, es)) = some (.agg cs, es) := rfl
def lnK : Lnt → Option (List A × List (Id × List Nat)) → Option (List A × List (Id × List Nat))
  | some (c, e), some (cs, es) => some (c :: cs, e ++ es)
  | _, _ => none
theorem lnCs_n : lnCells hp [] = some ([], []) := rfl
theorem lnCs_c (v : A) (vs : List A) : lnCells hp (v :: vs) = lnK (lnCell hp v) (lnCells hp vs) := by
  simp only [lnCells, lnK]
  cases lnCell hp v <;> first | rfl | (cases lnCells hp vs <;> rfl)
theorem lnK_s (c : A) (e : List (Id × List Nat)) (cs : List A) (es : List (Id × List Nat)) : lnK (some (c, e)) (some (cs, es)) = some (c :: cs, e ++ es) := rfl

def ouP (e : Id × List Nat) (cs : List A) (r : Root) (us : List (Id × Option Root)) : Option (Nat × Nat × List A) → Option (List (Id × Option Root))
  | some x => gi (cs.length = x.2.2.length) (some ((e.1, some (lentRoot r e.2 cs)) :: us))
  | none => none
def ouR (e : Id × List Nat) (cs : List A) : Option Root → Option (List (Id × Option Root)) → Option (List (Id × Option Root))
  | some ⟨a, b, xs, v⟩, some us => ouP e cs ⟨a, b, xs, v⟩ us (getP a b xs e.2)
  | _, _ => none
theorem outs_n : outsOf hp [] [] = some [] := rfl
theorem outs_c (e : Id × List Nat) (es : List (Id × List Nat)) (cs : List A) (outs : List (List A)) : outsOf hp (e :: es) (cs :: outs) = ouR e cs (hp e.1) (outsOf hp es outs) := by
  simp only [outsOf, ouR]
  cases hp e.1 with
  | none => rfl
  | some r =>
    cases outsOf hp es outs with
    | none => rfl
    | some us =>
      simp only [ouP, gi]
      cases getP r.sz r.len r.cs e.2 <;> rfl
theorem ouR_s (e : Id × List Nat) (cs : List A) (a b : Nat) (xs : List A) (v : Nat → Nat) (us : List (Id × Option Root)) : ouR e cs (some ⟨a, b, xs, v⟩) (some us) = ouP e cs ⟨a, b, xs, v⟩ us (getP a b xs e.2) := rfl
theorem ouP_s (e : Id × List Nat) (cs : List A) (r : Root) (us : List (Id × Option Root)) (a b : Nat) (xs : List A) : ouP e cs r us (some (a, b, xs)) = gi (cs.length = xs.length) (some ((e.1, some (lentRoot r e.2 cs)) :: us)) := rfl
theorem getP_n (a b : Nat) (cs : List A) : getP a b cs [] = some (a, b, cs) := rfl
theorem getP_1 (a b c : Nat) (cs : List A) : getP a b cs [c] = ndc cs[c]? := by
  simp only [getP]
  cases hc : cs[c]? with
  | none => rfl
  | some x =>
    cases x with
    | s o s l xs => cases o <;> rfl
    | _ => rfl
theorem lent_e (a b : Nat) (xs cs : List A) (v : Nat → Nat) (p : List Nat) : lentRoot ⟨a, b, xs, v⟩ p cs = ⟨a, b, modP (fun _ => cs) p xs, bumpL v p⟩ := rfl

theorem plant_i (k : IntKind) (n : Int) : plant m (.i k n) = (.i k n, []) := rfl
theorem plant_b (v : Bool) : plant m (.b v) = (.b v, []) := rfl
theorem plant_t (sz len : Nat) (cs : List A) : plant m (.s true sz len cs) = (.ref (m, 0) [] 0 0 sz len, [((m, 0), some ⟨sz, len, cs, fun _ => 0⟩)]) := rfl
theorem plant_f (sz len : Nat) (cs : List A) : plant m (.s false sz len cs) = (.s false sz len cs, []) := rfl
theorem plant_a (xs : List A) : plant m (.agg xs) = (.agg (plantL m 0 xs).1, (plantL m 0 xs).2) := rfl
theorem plant_e (cs : List A) : plant m (.ep cs) = (.ptr (m, 0) [] 0 0, [((m, 0), some ⟨cs.length, 1, cs, fun _ => 0⟩)]) := rfl
theorem plant_u (xs : List A) : plant m (.tup xs) = (.tup (plantT m 0 xs).1, (plantT m 0 xs).2) := rfl
theorem pT_n (k : Nat) : plantT m k [] = ([], []) := rfl
theorem pT_c (k : Nat) (v : A) (vs : List A) : plantT m k (v :: vs) = ((plant1 m k v).1 :: (plantT m (k + (cellsA v).length) vs).1, (plant1 m k v).2 ++ (plantT m (k + (cellsA v).length) vs).2) := rfl
theorem p1_i (k : Nat) (kd : IntKind) (n : Int) : plant1 m k (.i kd n) = (.i kd n, []) := rfl
theorem p1_b (k : Nat) (v : Bool) : plant1 m k (.b v) = (.b v, []) := rfl
theorem p1_t (k sz len : Nat) (cs : List A) : plant1 m k (.s true sz len cs) = (.ref (m, k) [] 0 0 sz len, [((m, k), some ⟨sz, len, cs, fun _ => 0⟩)]) := rfl
theorem p1_f (k sz len : Nat) (cs : List A) : plant1 m k (.s false sz len cs) = (.s false sz len cs, []) := rfl
theorem p1_a (k : Nat) (xs : List A) : plant1 m k (.agg xs) = (.agg (plantL m k xs).1, (plantL m k xs).2) := rfl
theorem pL_n (k : Nat) : plantL m k [] = ([], []) := rfl
theorem pL_i (k : Nat) (kd : IntKind) (n : Int) (vs : List A) : plantL m k (.i kd n :: vs) = (.i kd n :: (plantL m (k + 1) vs).1, (plantL m (k + 1) vs).2) := rfl
theorem pL_b (k : Nat) (v : Bool) (vs : List A) : plantL m k (.b v :: vs) = (.b v :: (plantL m (k + 1) vs).1, (plantL m (k + 1) vs).2) := rfl
theorem pL_t (k sz len : Nat) (cs : List A) (vs : List A) : plantL m k (.s true sz len cs :: vs) = (.ref (m, k) [] 0 0 sz len :: (plantL m (k + 1) vs).1, ((m, k), some ⟨sz, len, cs, fun _ => 0⟩) :: (plantL m (k + 1) vs).2) := rfl
theorem pL_f (k sz len : Nat) (cs : List A) (vs : List A) : plantL m k (.s false sz len cs :: vs) = (.s false sz len cs :: (plantL m (k + 1) vs).1, (plantL m (k + 1) vs).2) := rfl
end

/-! ### The end -/

section
variable {T : Nat → Option TI} {hp : Hp}
def fiO (r : A) : Option (List (List A)) → Out1
  | some outs => some (r, outs)
  | none => none
def fiV (hp : Hp) (shs : List (Nat × Nat)) : Option (A × List (Id × Option Root)) → Out1
  | some (r, us) => fiO r (iosOf (applyH hp us) 0 shs)
  | none => none
def fiR (hp : Hp) (shs : List (Nat × Nat)) : Option (List A) → Out1
  | some vs => fiV hp shs (finV hp vs)
  | none => none
theorem finalA_e (rs : List ResultVar) (shs : List (Nat × Nat)) (st : St) : finalA T rs shs st = fiR st.hp shs (ressOf T st rs) := by
  simp only [finalA, fiR]
  cases ressOf T st rs with
  | none => rfl
  | some vs =>
    simp only [fiV]
    cases finV st.hp vs with
    | none => rfl
    | some x =>
      obtain ⟨r, us⟩ := x
      simp only [fiO]
      cases iosOf (applyH st.hp us) 0 shs <;> rfl
theorem fiR_s (shs : List (Nat × Nat)) (vs : List A) : fiR hp shs (some vs) = fiV hp shs (finV hp vs) := rfl
theorem fiV_s (shs : List (Nat × Nat)) (r : A) (us : List (Id × Option Root)) : fiV hp shs (some (r, us)) = fiO r (iosOf (applyH hp us) 0 shs) := rfl
theorem fiO_s (r : A) (outs : List (List A)) : fiO r (some outs) = some (r, outs) := rfl
def rsC (v : A) : Option (List A) → Option (List A)
  | some vs => some (v :: vs)
  | none => none
theorem ress_n (st : St) : ressOf T st [] = some [] := rfl
theorem ress_c (st : St) (t : Nat) (rs : List ResultVar) : ressOf T st (.tmp t :: rs) = rsC (st.sl t) (ressOf T st rs) := by
  simp only [ressOf, resOf, rsC]
  cases ressOf T st rs <;> rfl
theorem rsC_s (v : A) (vs : List A) : rsC v (some vs) = some (v :: vs) := rfl
def rsE : Option Eff → Option (List A) → Option (List A)
  | some e, some vs => some (e.val :: vs)
  | _, _ => none
theorem ress_l (st : St) (a t : Nat) (rs : List ResultVar) : ressOf T st (.cell a t :: rs) = rsE (ldT st.hp (st.sl a) (T t)) (ressOf T st rs) := by
  simp only [ressOf, resOf, ldT]
  cases T t with
  | none => rfl
  | some ti =>
    simp only
    cases loadA ti st.hp (st.sl a) with
    | none => simp [rsE]
    | some e => cases ressOf T st rs <;> simp [rsE]
theorem rsE_s (v : A) (us : List (Id × Option Root)) (rd : List Id) (vs : List A) : rsE (some ⟨v, us, rd⟩) (some vs) = some (v :: vs) := rfl
theorem rsE_p (v : A) (vs : List A) : rsE (some (.pure v)) (some vs) = some (v :: vs) := rfl
def fnL (vs : List A) : ClL → Option (A × List (Id × Option Root))
  | some (cs, us, _) => some (tupOf (regroup vs cs), us)
  | none => none
theorem finV_0 : finV hp [] = some (.tup [], []) := rfl
def fnU (us0 : List (Id × Option Root)) : Option (A × List (Id × Option Root)) → Option (A × List (Id × Option Root))
  | some (r, us) => some (r, us0 ++ us)
  | none => none
def fnF (hp : Hp) (vs : List A) : Option (List A × List (Id × Option Root)) → Option (A × List (Id × Option Root))
  | some (xs, us) => fnU us (fnL vs (closeL (applyH hp us) xs))
  | none => none
theorem fnF_s (vs xs : List A) (us : List (Id × Option Root)) : fnF hp vs (some (xs, us)) = fnU us (fnL vs (closeL (applyH hp us) xs)) := rfl
theorem fnU_s (us0 us : List (Id × Option Root)) (r : A) : fnU us0 (some (r, us)) = some (r, us0 ++ us) := rfl
theorem finV_w (vs : List A) (h : ∀ id p ver off, vs ≠ [.ptr id p ver off]) : finV hp vs = fnF hp vs (frzL hp (flatA vs)) := by
  unfold finV
  split
  · exact (h _ _ _ _ rfl).elim
  · cases frzL hp (flatA vs) with
    | none => rfl
    | some x =>
      obtain ⟨xs, us⟩ := x
      simp only [fnF, fnL]
      cases closeL (applyH hp us) xs <;> rfl
theorem finV_2 (v w : A) (vs : List A) : finV hp (v :: w :: vs) = fnF hp (v :: w :: vs) (frzL hp (flatA (v :: w :: vs))) := finV_w _ (by simp)
theorem fin1 {v : A} (h : ∀ id p ver off, v ≠ .ptr id p ver off) : finV hp [v] = fnF hp [v] (frzL hp (flatA [v])) := finV_w _ (by simpa using h)
theorem finV_i (k : IntKind) (n : Int) : finV hp [.i k n] = fnF hp [.i k n] (frzL hp (flatA [.i k n])) := fin1 (by simp)
theorem finV_b (v : Bool) : finV hp [.b v] = fnF hp [.b v] (frzL hp (flatA [.b v])) := fin1 (by simp)
theorem finV_s (o : Bool) (sz len : Nat) (cs : List A) : finV hp [.s o sz len cs] = fnF hp [.s o sz len cs] (frzL hp (flatA [.s o sz len cs])) := fin1 (by simp)
theorem finV_r (id : Id) (p : List Nat) (v off sz len : Nat) : finV hp [.ref id p v off sz len] = fnF hp [.ref id p v off sz len] (frzL hp (flatA [.ref id p v off sz len])) := fin1 (by simp)
theorem finV_a (xs : List A) : finV hp [.agg xs] = fnF hp [.agg xs] (frzL hp (flatA [.agg xs])) := fin1 (by simp)
def fzD (c : A) (us : List (Id × Option Root)) : Option (List A × List (Id × Option Root)) → Option (List A × List (Id × Option Root))
  | some (cs, us') => some (c :: cs, us ++ us')
  | none => none
def fzC (hp : Hp) (vs : List A) : Option (A × List (Id × Option Root)) → Option (List A × List (Id × Option Root))
  | some (c, us) => fzD c us (frzL (applyH hp us) vs)
  | none => none
def fzR (id : Id) : Option (A × List Id) → Option (A × List (Id × Option Root))
  | some (c, _) => some (c, [(id, none)])
  | none => none
theorem frzL_n : frzL hp [] = some ([], []) := rfl
theorem frzL_c (v : A) (vs : List A) : frzL hp (v :: vs) = fzC hp vs (frz1 hp v) := by
  simp only [frzL, fzC]
  cases frz1 hp v with
  | none => rfl
  | some x =>
    simp only [fzD]
    cases frzL (applyH hp x.2) vs <;> rfl
theorem fzC_s (vs : List A) (c : A) (us : List (Id × Option Root)) : fzC hp vs (some (c, us)) = fzD c us (frzL (applyH hp us) vs) := rfl
theorem fzD_s (c : A) (us us' : List (Id × Option Root)) (cs : List A) : fzD c us (some (cs, us')) = some (c :: cs, us ++ us') := rfl
theorem fzR_s (id : Id) (c : A) (rd : List Id) : fzR id (some (c, rd)) = some (c, [(id, none)]) := rfl
theorem frz_i (k : IntKind) (n : Int) : frz1 hp (.i k n) = some (.i k n, []) := rfl
theorem frz_b (v : Bool) : frz1 hp (.b v) = some (.b v, []) := rfl
theorem frz_s (o : Bool) (sz len : Nat) (cs : List A) : frz1 hp (.s o sz len cs) = some (.s o sz len cs, []) := rfl
theorem frz_r0 (id : Id) (p : List Nat) (v sz len : Nat) : frz1 hp (.ref id p v 0 sz len) = some (.ref id p v 0 sz len, []) := by
  cases p <;> rfl
theorem frz_r1 (id : Id) (v off sz len : Nat) (h : off ≠ 0) : frz1 hp (.ref id [] v off sz len) = fzR id (snap1 hp (.ref id [] v off sz len)) := by
  cases off with
  | zero => exact (h rfl).elim
  | succ off =>
    simp only [frz1, fzR]
    cases snap1 hp (.ref id [] v (off + 1) sz len) <;> rfl
theorem fnL_s (vs cs : List A) (us : List (Id × Option Root)) (rd : List Id) : fnL vs (some (cs, us, rd)) = some (tupOf (regroup vs cs), us) := rfl
theorem flatA_n : flatA [] = [] := rfl
theorem flatA_c (v : A) (vs : List A) : flatA (v :: vs) = cellsA v ++ flatA vs := rfl
theorem rg_n (cs : List A) : regroup [] cs = [] := rfl
theorem rg_a (xs : List A) (vs cs : List A) : regroup (.agg xs :: vs) cs = .agg (cs.take xs.length) :: regroup vs (cs.drop xs.length) := rfl
theorem rg_i (k : IntKind) (n : Int) (vs : List A) (c : A) (cs : List A) : regroup (.i k n :: vs) (c :: cs) = c :: regroup vs cs := rfl
theorem rg_b (v : Bool) (vs : List A) (c : A) (cs : List A) : regroup (.b v :: vs) (c :: cs) = c :: regroup vs cs := rfl
theorem rg_s (o : Bool) (sz len : Nat) (xs : List A) (vs : List A) (c : A) (cs : List A) : regroup (.s o sz len xs :: vs) (c :: cs) = c :: regroup vs cs := rfl
theorem rg_r (id : Id) (p : List Nat) (v off sz len : Nat) (vs : List A) (c : A) (cs : List A) : regroup (.ref id p v off sz len :: vs) (c :: cs) = c :: regroup vs cs := rfl
theorem tupOf_1 (v : A) : tupOf [v] = v := rfl
theorem tupOf_0 : tupOf [] = .tup [] := rfl
theorem tupOf_2 (v w : A) (vs : List A) : tupOf (v :: w :: vs) = .tup (v :: w :: vs) := rfl
def ioC (sh : Nat × Nat) : Option Root → Option (List (List A)) → Option (List (List A))
  | some ⟨a, b, cs, _⟩, some os => gi (a = sh.1 ∧ b = sh.2) (some (cs :: os))
  | _, _ => none
theorem ios_n (t : Nat) : iosOf hp t [] = some [] := rfl
theorem ios_c (t : Nat) (sh : Nat × Nat) (shs : List (Nat × Nat)) : iosOf hp t (sh :: shs) = ioC sh (hp (2, t)) (iosOf hp (t + 1) shs) := by
  simp only [iosOf, ioC]
  cases hp (2, t) with
  | none => rfl
  | some r =>
    cases iosOf hp (t + 1) shs with
    | none => rfl
    | some cs => rfl
theorem ioC_s (sh : Nat × Nat) (a b : Nat) (cs : List A) (v : Nat → Nat) (os : List (List A)) : ioC sh (some ⟨a, b, cs, v⟩) (some os) = gi (a = sh.1 ∧ b = sh.2) (some (cs :: os)) := rfl
theorem shs_n (ks : List Kind) : shsOf ks [] = [] := by cases ks with
  | nil => rfl
  | cons k ks => cases k <;> rfl
theorem shs_r (ks : List Kind) (v : A) (vs : List A) : shsOf (.ro :: ks) (v :: vs) = shsOf ks vs := rfl
theorem shs_m (ks : List Kind) (v : A) (vs : List A) : shsOf (.mv :: ks) (v :: vs) = shsOf ks vs := rfl
theorem shs_i (ks : List Kind) (v : A) (vs : List A) : shsOf (.io :: ks) (v :: vs) = ((cellsA v).length, 1) :: shsOf ks vs := rfl
theorem shs_l (n : Nat) (ks : List Kind) (v : A) (vs : List A) : shsOf (.ln n :: ks) (v :: vs) = lnShs (cellsA v) ++ shsOf ks vs := rfl
theorem lnS_n : lnShs [] = [] := rfl
theorem lnS_t (sz len : Nat) (xs cs : List A) : lnShs (.s true sz len xs :: cs) = (sz, len) :: lnShs cs := rfl
theorem lnS_i (k : IntKind) (n : Int) (cs : List A) : lnShs (.i k n :: cs) = lnShs cs := rfl
end

end Go.TM

/-! The tree machine, 34: the rules, as one set. -/
namespace Go.TM
theorem imm_I (xs : List Int) : (xs.map eI).map imm1 = xs.map eI := by
  induction xs with
  | nil => rfl
  | cons x xs ih => simp only [List.map_cons, ih]; rfl
theorem imm_row (xs : List Pr) : (xs.flatMap ePr).map imm1 = xs.flatMap ePr := by
  induction xs with
  | nil => rfl
  | cons x xs ih => simp only [List.flatMap_cons, List.map_append, ih]; rfl
theorem imm_pgs (o : Bool) (xs : List Pg) : (xs.flatMap (ePg o)).map imm1 = xs.flatMap (ePg false) := by
  induction xs with
  | nil => rfl
  | cons x xs ih => simp only [List.flatMap_cons, List.map_append, ih]; rfl
theorem imm_iss (o : Bool) (xs : List (List Int)) : (xs.map (eIs o)).map imm1 = xs.map (eIs false) := by
  induction xs with
  | nil => rfl
  | cons x xs ih => simp only [List.map_cons, ih]; rfl
attribute [go_sem] imm_I imm_row imm_pgs imm_iss
theorem cI_e (n : Int) : cI.e n = eI n := rfl
theorem cB_e (v : Bool) : cB.e v = .b v := rfl
theorem cIs_e (o : Bool) (xs : List Int) : (cS o cI).e xs = .s o 1 xs.length (xs.map eI) := rfl
theorem cIss_e (o : Bool) (xs : List (List Int)) : (cS o (cS o cI)).e xs = .s o 1 xs.length (xs.map (eIs o)) := rfl
theorem cRow_e (o : Bool) (xs : List Pr) : (cRow o).e xs = .s o 2 xs.length (xs.flatMap ePr) := rfl
theorem cPgs_e (o : Bool) (xs : List Pg) : (cPgs o).e xs = .s o 3 xs.length (xs.flatMap (ePg o)) := rfl
theorem cTr_e (o : Bool) (t : Tr) : (cTr o).e t = .agg [eI t.root, .s o 3 t.pages.length (t.pages.flatMap (ePg o))] := rfl
theorem cInn_e (o : Bool) (x : Inn) : (cInn o).e x = .agg [.s o 1 x.keys.length (x.keys.map eI), .s o 1 x.kids.length (x.kids.map eI)] := rfl
theorem cPair_e (x : Pr) : cPair.e x = .agg [eI x.1, eI x.2] := rfl
theorem cPage_e (o : Bool) (x : Pg) : (cPage o).e x = .agg [.s o 1 x.keys.length (x.keys.map eI), .s o 1 x.kids.length (x.kids.map eI), .s o 1 x.vals.length (x.vals.map eI)] := rfl
attribute [go_sem] cI_e cB_e cIs_e cIss_e cRow_e cPgs_e cTr_e cInn_e cPair_e cPage_e
theorem sub_all {α : Type} (xs : List α) : sub xs 0 xs.length = xs := by simp [sub]
theorem sub_zero {α : Type} (xs : List α) (n : Nat) : sub xs 0 n = xs.take n := by simp [sub]
attribute [go_sem] sub_all
theorem bne_bool (b : Bool) : (b != b) = false := by cases b <;> rfl
attribute [go_sem] bne_bool eq_self

attribute [go_sem]
  W_seq_e W_block_e W_exit_e W_ret_e W_skip_e W_cond_e W_reg_f W_reg_t cond_t cond_f cond_u thenA_n thenA_r thenA_e inB_n inB_r inB_e runS_nil runS_plain
  runS_guard runKS_some runKS_pure runR_nil runR_plain runR_guard runK_some runK_pure gv opG_b opG_t GG_tt GG_ff GG_tf GG_ft upd_if drawB_nil ofConst_i
  ofConst_b ofConst_nil ev_t ev_c M1_fn M2_fn M3_fn M4_fn M5_fn M1_k M2_k M3_k M4_k M5_k M1_c M2_c M3_c M4_c M5_c cI_d cB_d cIs_d cIs_nil cIss_d cRow_d
  cRow_nil cPgs_d cPgs_nil cPair_d cTr_d cInn_d cPage_d normL_eI normL_row normL_pgs normL_iss get_I get_Is get_row0 get_row1 get_pg0 get_pg1 get_pg2
  rng_row rng_pg rng_I rng_rows rng_pgss set_I

attribute [go_sem]
  gi_true tiInt_z tiInt_s tiInt_b tiBool_z tiBool_s tiSl_z tiSl_s tiSl_b tiSt_z tiSt_s tiSt_b tiAr_z tiAr_s tiInt_k tiBool_k tiSl_k tiSt_k tiAr_k
  tiInt_f tiBool_f tiSl_f tiSt_f updH_eq node_0 node_1 nd0_some nd1_some ndc_some e_move e_assign e_pick pick_t pick_f e_len lenK_s len1_s len1_r e_max
  max2_i e_binOp bopN_i bopN_b bopN_s nilE_0 nilE_s bop_add bop_sub bop_mul bop_quo bop_rem bop_eql bop_neq bop_lss bop_leq bop_gtr bop_geq bop_eqlb bop_neqb e_unOp uop_not uop_neg
  e_convert cvt_i e_extract exA_t adr_s e_nilCheck nilA_p nilA_e e_fieldAddr fldA_s fldP_p fldP_e e_field fvA_s fvP_s cell1_s fvT_i fvT_b fvT_s fvT_st
  e_indexAddr ixA_s ixS_s ixA_r ixR_s ixA_p ixP_s e_load ldE_s ldT_ei ldT_eb ldT_es ldT_est ldT_pi ldT_pb ldT_ps ldP_s ldT_pst ldPS_s view_i view_b
  view_f view_t0 view_t1 viewL_n viewL_c imm1_i imm1_b imm1_s immV_a immV_i immV_b immV_s aggN_l rng_s rng_z rng_e rng_d bnd_n bnd_i e_slice slK_s slA_s
  slA_r slI_s slR_s

attribute [go_sem]
  close_i close_b close_f close_n close_r0 close_r1 cl0_s cl1_s clc_s closeL_n closeL_c clL1_s cells_a cells_i cells_b cells_s cells_r cells_p notIn_c
  e_store stT_s stP_s modP_n modP_1 modC_s setR_n setR_1 set_lz set_ls verS_i verS_b e_alloc alK_s newRoot_e e_box boxK_s fl_n fl_c flP_s okp_i okp_b
  okp_s okp_r okp_a okp_p e_build bldK_s e_buildSlice bslK_s bslT_s bslF_s bslE_s e_makeSlice mkK_s mkT_s sr_s sr_r srR_t srR_f ds_n ds_r ds0_s e_append
  apK_s apT_s apS_s apD_s disP_n disP_c nodP_c e_call caG_m caG_a caG_g growA_s caC_s caD_s caE_s caF_s evL_n evL_c mvs_n mvs_r mvs_m mvs_i mvs_l cnt_n cnt_r cnt_m
  cnt_i cnt_l cnR_s cnM_s cnI_s cnL_s snap_i snap_b snap_s snap_r snap_a snA_s snapL_n snapL_c snC_s snap1_i snap1_b snap1_s snap1_r snR_s normL_n lnV_r
  lnC_r lnC_i lnR_s lnV_a lnA_s lnCs_n lnCs_c lnK_s outs_n outs_c ouR_s ouP_s getP_n getP_1 lent_e plant_i plant_b plant_t plant_f plant_a plant_e
  plant_u pT_n pT_c p1_i p1_b p1_t p1_f p1_a pL_n pL_i pL_b pL_t pL_f finalA_e fiR_s fiV_s fiO_s ress_n ress_c rsC_s ress_l rsE_s rsE_p finV_0 finV_2 finV_i finV_b finV_s
  finV_r finV_a fnF_s fnU_s frzL_n frzL_c fzC_s fzD_s fzR_s frz_i frz_b frz_s frz_r0 frz_r1 fnL_s flatA_n flatA_c rg_n rg_a rg_i rg_b rg_s rg_r tupOf_1 tupOf_0 tupOf_2 ios_n ios_c ioC_s shs_n shs_r shs_m shs_i shs_l lnS_n lnS_t
  lnS_i

attribute [go_sem] gi_pos gd_pos wrap_id updH_ne applyH_n applyH_c endP_n endP_r true_and and_true false_and and_false or_true true_or or_false false_or not_true_eq_false not_false_eq_true Bool.not_true Bool.not_false decide_true decide_false nodP_n notIn_n initSl initHp setDst plS plL scal isScalar

attribute [go_sem]  Option.map_some Option.map_none Option.bind_some List.getElem?_cons_zero List.getElem?_cons_succ List.getElem?_toArray List.length_cons
  List.length_nil List.map_cons List.map_nil List.append_nil List.nil_append List.cons_append List.getElem?_drop List.drop_drop List.drop_zero
  Int.toNat_natCast Nat.add_zero Nat.zero_add Nat.mul_one Nat.one_mul Nat.zero_mul List.replicate_succ List.replicate_zero List.flatten_cons
  List.flatten_nil List.take_zero List.take_succ_cons List.drop_succ_cons Option.elim_some List.take_nil List.drop_nil List.all_cons List.all_nil
  Prod.mk.injEq List.append_assoc List.length_map
end Go.TM

/-! The tree machine, 35: what a law is called with, as abstract data; and what its call leaves. -/
namespace Go.TM
open Go.ChangeShapes Go.WideShapes Go.ChangeAt Go.RowKit
set_option linter.unusedVariables false
set_option linter.unusedSimpArgs false

/-- Types whose data are numbers, bools, and slices and structs of such. -/
inductive PlainT (P : Program) : TypeId → Prop
  | int {t : TypeId} {k : IntKind} (hu : P.underlying t = some (.int k)) : PlainT P t
  | bool {t : TypeId} (hu : P.underlying t = some .bool) : PlainT P t
  | slice {t e : TypeId} (hu : P.underlying t = some (.slice e)) (he : PlainT P e) (hc : P.cellsOf e ≠ 0) : PlainT P t
  | struct {t : TypeId} {fs : Array Go.Field} (hu : P.underlying t = some (.struct fs)) (hf : ∀ (i : Nat) (f : Go.Field), fs[i]? = some f → PlainT P f.type) : PlainT P t

section
variable {H : Type} {enc : TypeId × Value → H} {P : Program} {w w' : World} {sp : Nat → Bool} {held : Bool}

theorem mapM_of {α β : Type} {g : α → Option β} : ∀ {l : List α} {xs : List β}, xs.length = l.length → (∀ (i : Nat) x, l[i]? = some x → g x = xs[i]?) → l.mapM g = some xs
  | [], [], _, _ => by simp
  | a :: l, x :: xs, hl, h => by
    have h0 := h 0 a rfl
    simp only [List.getElem?_cons_zero] at h0
    have h1 := mapM_of (l := l) (xs := xs) (g := g) (by simpa using hl) fun i y hy => by simpa using h (i + 1) y (by simpa using hy)
    simp [List.mapM_cons, h0, h1]
  | [], _ :: _, hl, _ => by simp at hl
  | _ :: _, [], hl, _ => by simp at hl

/-- Read with less of the spare. -/
theorem trod_sp {t : TypeId} (ht : PlainT P t) : ∀ (n : Nat) (cs : List Value) (x : DataW H × List MemPlace), DataW.trod enc P w 0 (fun _ => true) held n t cs = some x → (∀ p ∈ x.2, sp p.block = true) →
    ∃ m, DataW.trod enc P w 0 sp held m t cs = some x := by
  induction ht with
  | int hu =>
    intro n cs x h hs
    obtain ⟨m, rfl, rfl, hw⟩ := DataW.trod_int hu h
    exact ⟨1, trod_int_mk 0 hu hw⟩
  | bool hu =>
    intro n cs x h hs
    cases n with
    | zero => simp [DataW.trod] at h
    | succ n =>
      refine ⟨1, ?_⟩
      unfold DataW.trod at h ⊢
      rw [hu] at h ⊢
      split at h <;> simp_all
  | @slice t e hu he hc ih =>
    intro n cs x h hs
    rcases Go.Deep.open_slice hu h with ⟨rfl, rfl⟩ | ⟨a, len, cap, m, n', D, Pl, rfl, hb, hl, hm, hmm, rfl, hx⟩
    · exact ⟨1, by unfold DataW.trod; rw [hu]; rfl⟩
    · simp only [if_true] at hmm
      subst hmm
      have hmem : ∀ i, i < m → ∀ p ∈ Pl i, sp p.block = true := fun i hi p hp => hs p (by
        simp only [List.mem_append, List.mem_flatMap, List.mem_range]
        exact .inr ⟨i, hi, hp⟩)
      have hx' : ∀ i, i < m → ∃ cs' k, w.cells? 0 (a.add (i * P.cellsOf e)) (P.cellsOf e) = some cs' ∧ DataW.trod enc P w 0 sp held k e cs' = some (D i, Pl i) := by
        intro i hi
        obtain ⟨cs', h1, h2⟩ := hx i hi
        obtain ⟨k, hk⟩ := ih _ cs' _ h2 (hmem i hi)
        exact ⟨cs', k, h1, hk⟩
      cases hsp : sp a.block with
      | true => exact Go.Deep.shut_slice_whole_cells hu hb hl hm hsp D Pl hx'
      | false =>
        have h0 : m = 0 := by
          rcases Nat.eq_zero_or_pos m with h0 | h0
          · exact h0
          · exfalso
            have := hs (.cell a.block (a.off + 0)) (by
              simp only [List.mem_append]
              exact .inl (MemPlace.mem_row.2 ⟨0, Nat.mul_pos h0 (Nat.pos_of_ne_zero hc), rfl⟩))
            simp [MemPlace.block, hsp] at this
        subst h0
        have hl0 : len = 0 := by omega
        subst hl0
        have := Go.Deep.shut_slice_cells (enc := enc) (w := w) (held := held) hu hb (Nat.le_refl _) hm hsp D Pl (fun i hi => by omega)
        simpa using this
  | @struct t fs hu hf ih =>
    intro n cs x h hs
    obtain ⟨xs, k, hk, rfl, hcl, hxl, hft⟩ := DataW.trod_struct hu h
    have hall : ∀ i, i < xs.length → ∃ m, ∀ f, fs[i]? = some f → DataW.trod enc P w 0 sp held m f.type ((cs.drop f.offset).take (P.cellsOf f.type)) = xs[i]? := by
      intro i hi
      have hi' : i < fs.size := by omega
      have hf' := hft i fs[i] (by simp [hi'])
      rw [List.getElem?_eq_getElem hi] at hf'
      obtain ⟨m, hm⟩ := ih i fs[i] (by simp [hi']) k _ _ hf' fun p hp => hs p (List.mem_flatMap.2 ⟨xs[i], List.getElem_mem hi, hp⟩)
      refine ⟨m, fun f hfi => ?_⟩
      have : f = fs[i] := by
        rw [Array.getElem?_eq_getElem hi'] at hfi
        exact (Option.some.inj hfi).symm
      rw [this, List.getElem?_eq_getElem hi]
      exact hm
    obtain ⟨m, hm⟩ := Go.Deep.fuel_lt (q := fun i m => ∀ f, fs[i]? = some f → DataW.trod enc P w 0 sp held m f.type ((cs.drop f.offset).take (P.cellsOf f.type)) = xs[i]?) (n := xs.length)
      (fun i a b hab hq f hfi => by
        have := hq f hfi
        rcases Nat.lt_or_ge i xs.length with hi | hi
        · rw [List.getElem?_eq_getElem hi] at this ⊢
          exact DataW.trod_le hab this
        · rw [List.getElem?_eq_none hi] at this ⊢
          have h2 : i < fs.size := (Array.getElem?_eq_some_iff.1 hfi).1
          omega) hall
    refine ⟨m + 1, trod_struct_mk hu hcl (mapM_of (by simpa using hxl) fun i f hfi => ?_)⟩
    rw [Array.getElem?_toList] at hfi
    exact hm i (by have := (Array.getElem?_eq_some_iff.1 hfi).1; omega) f hfi

/-- An argument reads behind the call as it read before. -/
theorem trod_again {t : TypeId} (ht : PlainT P t) {v : Value} {d : DataW H} {ps : List MemPlace} (h : DataW.Trod enc P w 0 (fun _ => true) held t v d ps) (hs : ∀ p ∈ ps, sp p.block = true) (hk : ∀ p ∈ ps, w.sameAt w' p) :
    DataW.Trod enc P w' 0 sp held t v d ps := by
  obtain ⟨n, hn⟩ := h
  obtain ⟨m, hm⟩ := trod_sp (sp := sp) ht n _ _ hn hs
  exact ⟨m, DataW.trod_carry m _ _ _ hm hk⟩

theorem trodAll_again : ∀ {ts : List TypeId} {vs : List Value} {ds : List (DataW H)} {ps : List MemPlace}, (∀ t ∈ ts, PlainT P t) → DataW.TrodAll enc P w 0 (fun _ => true) held ts vs ds ps → (∀ p ∈ ps, sp p.block = true) → (∀ p ∈ ps, w.sameAt w' p) →
    DataW.TrodAll enc P w' 0 sp held ts vs ds ps
  | [], [], [], ps, _, h, _, _ => h
  | t :: ts, v :: vs, d :: ds, ps, ht, h, hs, hk => by
    obtain ⟨p, q, h1, h2, rfl⟩ := h
    exact ⟨p, q, trod_again (ht t (by simp)) h1 (fun x hx => hs x (by simp [hx])) (fun x hx => hk x (by simp [hx])),
      trodAll_again (fun x hx => ht x (by simp [hx])) h2 (fun x hx => hs x (by simp [hx])) (fun x hx => hk x (by simp [hx])), rfl⟩
  | [], [], _ :: _, _, _, h, _, _ => by cases h
  | [], _ :: _, _, _, _, h, _, _ => by cases h
  | _ :: _, [], _, _, _, h, _, _ => by cases h
  | _ :: _, _ :: _, [], _, _, h, _, _ => by cases h

/-! ### Arguments as abstract data -/

abbrev oldB (w : World) : Nat → Prop := fun b => b < w.heap.size

/-- Some cells, as abstract data. -/
def CellsOk (w : World) (as : List A) (cs : List Value) : Prop := as.length = cs.length ∧ ∀ (j : Nat) a v, as[j]? = some a → cs[j]? = some v → v.oneCell' = true ∧ Imm w (oldB w) a v

theorem cellsOk_int {t : TypeId} (hu : P.underlying t = some (.int .i64)) {n : Nat} {cs : List Value} {x : DataW H × List MemPlace} (h : DataW.trod enc P w 0 sp held n t cs = some x) :
    ∃ k : Int, (Lit.int .i64 k).wf = true ∧ CellsOk w [eI k] cs ∧ cs = [.int .i64 k] := by
  obtain ⟨k, rfl, rfl, hw⟩ := DataW.trod_int hu h
  refine ⟨k, hw, ⟨rfl, fun j a v ha hv => ?_⟩, rfl⟩
  cases j with
  | zero => simp at ha hv; subst ha; subst hv; exact ⟨rfl, by simp [Imm, hw]⟩
  | succ j => simp at ha

theorem immL_flat {α : Type} (f : α → List A) (k : Nat) {b : Nat} : ∀ (ys : List α) (off : Nat), (∀ y, (f y).length = k) →
    (∀ (i : Nat) y, ys[i]? = some y → ∀ (r : Nat) a, (f y)[r]? = some a → ∃ v, w.cell? ⟨b, off + i * k + r, none⟩ = some v ∧ v.oneCell' = true ∧ Imm w (oldB w) a v) → ImmL w (oldB w) (ys.flatMap f) b off
  | [], off, _, _ => by simp [ImmL]
  | y :: ys, off, hk, h => by
    have h1 := immL_flat f k ys (off + k) hk fun i z hz r a ha => by
      have := h (i + 1) z (by simpa using hz) r a ha
      rwa [show off + (i + 1) * k + r = off + k + i * k + r from by rw [Nat.add_mul]; omega] at this
    have h0 := h 0 y rfl
    simp only [Nat.zero_mul, Nat.add_zero] at h0
    rw [List.flatMap_cons]
    have key : ∀ (as : List A) (r : Nat), (∀ (j : Nat) a, as[j]? = some a → ∃ v, w.cell? ⟨b, off + r + j, none⟩ = some v ∧ v.oneCell' = true ∧ Imm w (oldB w) a v) → r + as.length = k → ImmL w (oldB w) (as ++ ys.flatMap f) b (off + r) := by
      intro as
      induction as with
      | nil => intro r _ hr; simp at hr; subst hr; simpa using h1
      | cons a as ih =>
        intro r ha hr
        simp only [List.cons_append, ImmL]
        obtain ⟨v, g1, g2, g3⟩ := ha 0 a rfl
        refine ⟨⟨v, by simpa using g1, g2, g3⟩, ?_⟩
        have := ih (r + 1) (fun j a' ha' => by
          have := ha (j + 1) a' (by simpa using ha')
          rwa [show off + r + (j + 1) = off + (r + 1) + j from by omega] at this) (by simp at hr; omega)
        rwa [show off + (r + 1) = off + r + 1 from by omega] at this
    have := key (f y) 0 (fun j a ha => by simpa using h0 j a ha) (by simp [hk])
    simpa using this

theorem add_zero_addr (a : Addr) : a.add 0 = a := by simp [Addr.add]

theorem spot_none {a : Addr} {v : Value} (h : w.cell? a = some v) : a.spot = none ∧ a.block < w.heap.size := by
  unfold World.cell? at h
  split at h
  · rename_i hb
    refine ⟨?_, (Array.getElem?_eq_some_iff.1 hb).1⟩
    cases hs : a.spot with
    | none => rfl
    | some _ => rw [hs] at h; simp at h
  · cases h

/-- A slice, by how its elements read. -/
theorem cellsOk_slice {α : Type} [Inhabited α] {t e k : Nat} (hu : P.underlying t = some (.slice e)) (hk : P.cellsOf e = k) (hk0 : 0 < k) (f : α → List A) (hf : ∀ y, (f y).length = k) (Q : α → Prop)
    (he : ∀ (n : Nat) (cs : List Value) (x : DataW H × List MemPlace), DataW.trod enc P w 0 (fun _ => true) held n e cs = some x → ∃ y, Q y ∧ CellsOk w (f y) cs)
    {n : Nat} {cs : List Value} {x : DataW H × List MemPlace} (h : DataW.trod enc P w 0 (fun _ => true) held n t cs = some x) :
    ∃ ys : List α, (∀ y ∈ ys, Q y) ∧ ys.length ≤ maxLen ∧ CellsOk w [.s false k ys.length (ys.flatMap f)] cs := by
  have one : ∀ (a : A) (u : Value), u.oneCell' = true → Imm w (oldB w) a u → CellsOk w [a] [u] := fun a u h1 h2 => ⟨rfl, fun j a' v ha hv => by
    cases j with
    | zero => simp at ha hv; subst ha; subst hv; exact ⟨h1, h2⟩
    | succ j => simp at ha⟩
  rcases Go.Deep.open_slice hu h with ⟨rfl, rfl⟩ | ⟨a, len, cap, m, n', D, Pl, rfl, hb, hl, hm, hmm, rfl, hx⟩
  · refine ⟨[], by simp, Nat.zero_le _, one _ _ rfl ?_⟩
    simp only [Imm]
    exact ⟨none, 0, rfl, Nat.le_refl _, Nat.zero_le _, by simp, .inl (by simp)⟩
  · simp only [if_true] at hmm
    subst hmm
    rw [hk] at hx
    obtain ⟨Y, hY⟩ := Go.Deep.choose_lt (n := m) (p := fun i y => Q y ∧ ∃ cs', w.cells? 0 (a.add (i * k)) k = some cs' ∧ CellsOk w (f y) cs') (fun i hi => by
      obtain ⟨cs', h1, h2⟩ := hx i hi
      obtain ⟨y, g1, g2⟩ := he _ _ _ h2
      exact ⟨y, g1, cs', h1, g2⟩)
    have hlen : ((List.range len).map Y).length = len := by simp
    refine ⟨(List.range len).map Y, fun y hy => ?_, by rw [hlen]; omega, one _ _ rfl ?_⟩
    · obtain ⟨i, hi, rfl⟩ := List.mem_map.1 hy
      exact (hY i (by have := List.mem_range.1 hi; omega)).1
    · simp only [Imm]
      refine ⟨some a, m, by rw [hlen], by rw [hlen]; exact hl, hm, ?_, ?_⟩
      · rw [List.length_flatMap]
        have : ∀ ys : List α, (ys.map fun y => (f y).length).sum = ys.length * k := by
          intro ys
          induction ys with
          | nil => simp
          | cons y ys ih => rw [List.map_cons, List.sum_cons, ih, hf, List.length_cons, Nat.add_mul]; omega
        rw [this]
      · rcases Nat.eq_zero_or_pos len with h0 | h0
        · left; subst h0; simp
        · right
          obtain ⟨_, cs', g1, g2⟩ := hY 0 (by omega)
          obtain ⟨_, g3, g4⟩ := World.cells?_some g1
          have h00 := g4 0 hk0
          simp only [Nat.zero_mul, add_zero_addr] at h00
          have hc0 : ∃ v, w.cell? a = some v := by
            rw [h00, List.getElem?_eq_getElem (by omega)]
            exact ⟨_, rfl⟩
          obtain ⟨v0, hv0⟩ := hc0
          obtain ⟨hsn, hbl⟩ := spot_none hv0
          refine ⟨a, rfl, hsn, hbl, immL_flat f k _ _ hf fun i y hy r aa ha => ?_⟩
          simp only [List.getElem?_map, Option.map_eq_some_iff] at hy
          obtain ⟨i', hi', rfl⟩ := hy
          have hlt : i < len := by
            have := (List.getElem?_eq_some_iff.1 hi').1
            simpa using this
          rw [List.getElem?_range hlt] at hi'
          cases hi'
          obtain ⟨_, cs1, q1, q2⟩ := hY i (by omega)
          obtain ⟨_, q3, q4⟩ := World.cells?_some q1
          have hr : r < k := by rw [← hf (Y i)]; exact (List.getElem?_eq_some_iff.1 ha).1
          have q5 := q4 r hr
          rw [List.getElem?_eq_getElem (by omega)] at q5
          obtain ⟨q6, q7⟩ := q2.2 r aa cs1[r] ha (List.getElem?_eq_getElem (by omega))
          refine ⟨cs1[r], ?_, q6, q7⟩
          rw [← q5]
          congr 1
          rw [Go.Deep.add_add]
          unfold Addr.add
          by_cases hz : i * k + r = 0
          · rw [if_pos hz]
            obtain ⟨blk, off, spt⟩ := a
            simp only at hsn
            subst hsn
            simp only [Addr.mk.injEq, true_and, and_true]; omega
          · rw [if_neg hz]; rw [Nat.add_assoc]

/-! ### The call of a law -/

/-- An argument, as abstract data. -/
def ArgOk (w : World) : A → Value → Prop
  | .agg xs, u => ∃ us, u = .agg us ∧ CellsOk w xs us.toList
  | a, u => CellsOk w [a] [u]

abbrev topL (w : World) : Lab := fun b => if b < w.heap.size then .prot else .free
abbrev topU : Use := ⟨fun _ => True⟩

theorem cellsOk_rep {hp : Hp} {V : Nat → Prop} {a : A} {u : Value} (h : CellsOk w [a] [u]) : @Rep topU V w (topL w) hp (imm1 a) u := by
  have h1 := (h.2 0 a u rfl rfl).2
  have h2 : Imm w (@isProt topU (topL w)) a u := @Imm.mono topU _ _ _ _ (fun b hb => ⟨⟨if_pos hb, trivial⟩, rfl⟩) _ _ h1
  exact @rep_imm1 _ _ _ _ topU _ _ h2

theorem argOk_rep {hp : Hp} {V : Nat → Prop} {a : A} {u : Value} (h : ArgOk w a u) : @Rep topU V w (topL w) hp (immV a) u := by
  unfold ArgOk at h
  split at h
  · rename_i xs
    obtain ⟨us, rfl, h⟩ := h
    simp only [immV, Rep]
    refine ⟨us, rfl, @repL_of_get topU _ _ _ _ _ _ (by simpa using h.1) fun j c v hc hv => ?_⟩
    rw [List.getElem?_map, Option.map_eq_some_iff] at hc
    obtain ⟨a, ha, rfl⟩ := hc
    obtain ⟨h1, h2⟩ := h.2 j a v ha hv
    exact cellsOk_rep ⟨rfl, fun i a' v' ha' hv' => by
      cases i with
      | zero => simp at ha' hv'; subst ha'; subst hv'; exact ⟨h1, h2⟩
      | succ i => simp at ha'⟩
  · rename_i hno
    have e : immV a = imm1 a := by cases a <;> first | rfl | exact (hno _ rfl).elim
    rw [e]
    exact cellsOk_rep h

theorem initSl_ro : ∀ (args : List A) (us : List Value) (j0 : Nat) {V : Nat → Prop} {hp : Hp}, args.length = us.length → (∀ (j : Nat) a u, args[j]? = some a → us[j]? = some u → ArgOk w a u) →
    ∀ j, @Rep topU V w (topL w) hp (initSl j0 0 0 (args.map fun _ => .ro) args (j0 + j)) ((us[j]?).getD undef)
  | [], us, j0, V, hp, _, _, j => by simp [initSl, Rep]
  | a :: args, [], j0, V, hp, hl, _, _ => by simp at hl
  | a :: args, u :: us, j0, V, hp, hl, h, 0 => by
    simp only [List.map_cons, initSl, Nat.add_zero, if_true, List.getElem?_cons_zero, Option.getD_some]
    exact argOk_rep (h 0 a u rfl rfl)
  | a :: args, u :: us, j0, V, hp, hl, h, j + 1 => by
    have := initSl_ro args us (j0 + 1) (V := V) (hp := hp) (by simpa using hl) (fun j a u ha hu => h (j + 1) a u (by simpa using ha) (by simpa using hu)) j
    simp only [List.map_cons, initSl, List.getElem?_cons_succ]
    rw [if_neg (by omega), show j0 + (j + 1) = j0 + 1 + j from by omega]
    exact this

theorem initHp_ro : ∀ (args : List A) (a b : Nat) (id : Id), initHp a b (args.map fun _ => .ro) args id = none
  | [], _, _, _ => rfl
  | _ :: args, a, b, id => initHp_ro args a b id

theorem initSl_lt : ∀ (args : List A) (j0 : Nat) (t : Nat), t < j0 → initSl j0 0 0 (args.map fun _ => .ro) args t = .und
  | [], _, _, _ => rfl
  | _ :: args, j0, t, h => by
    simp only [List.map_cons, initSl]
    rw [if_neg (by omega)]
    exact initSl_lt args (j0 + 1) t (by omega)

theorem shsOf_ro : ∀ (args : List A), shsOf (args.map fun _ => .ro) args = []
  | [] => rfl
  | _ :: args => shsOf_ro args

/-- A law that its contract says is true returns true, and leaves all as it was. -/
theorem law_calls {f : Nat} {M : Model} (hC : Contract P f M) {args : List A} {us : List Value} (hk : M.kinds = args.map fun _ => .ro) (hl : args.length = us.length) (hargs : ∀ (j : Nat) a u, args[j]? = some a → us[j]? = some u → ArgOk w a u)
    (hM : M.fn args = some (.b true, [])) : Calls P f us.toArray w fun e w' => e = .returned (.bool true) ∧ Grown w w' := by
  have hh : @HRel topU w (topL w) lt3 (initHp 0 0 M.kinds args) w (topL w) := by
    rw [hk]
    refine @HRel.mk topU _ _ _ _ _ _ (fun id r hr => ?_) (fun b b' id p hb hb' => ?_) (fun b hb => ?_) (fun b id p hb => ?_) (fun id r hr => ?_) (fun b hb => ⟨hb, rfl⟩) (Nat.le_refl _) rfl rfl rfl (fun _ _ => trivial) (fun b c e f hb hc => ?_)
    · rw [initHp_ro] at hr; cases hr
    · simp only [topL] at hb; split at hb <;> cases hb
    · exact if_neg (by omega)
    · simp only [topL] at hb; split at hb <;> cases hb
    · rw [initHp_ro] at hr; cases hr
    · exfalso
      apply hb
      exact if_pos (Array.getElem?_eq_some_iff.1 hc).1
  refine (hC.calls topU w (topL w) us.toArray args (.b true) [] hM hh (fun j => ?_) (by simpa using hl.symm)).mono fun e w' hp => ?_
  · have := initSl_ro (w := w) args us 0 (V := lt3) (hp := initHp 0 0 M.kinds args) hl hargs j
    rw [hk]
    rw [hk] at this
    simpa [Array.getD_eq_getD_getElem?] using this
  · obtain ⟨v, L', rfl, h1, h2, _⟩ := hp
    letI : Use := topU
    simp only [ResOwn, Res1, Own] at h2
    obtain ⟨_, rfl⟩ := h2
    have hold : ∀ b, b < w.heap.size → w'.heap[b]? = w.heap[b]? := fun b hb => (h1.prot b (if_pos hb)).2
    refine ⟨rfl, ⟨h1.os, h1.output, fun i hi => ?_⟩, fun a => ?_, h1.size⟩
    · rw [hold i hi]
      cases w.heap[i]? with
      | none => simp
      | some o => cases o <;> simp
    · by_cases ha : a.block < w.heap.size
      · simp only [World.frozen?, hold a.block ha]
      · have e1 : w.heap[a.block]? = none := Array.getElem?_eq_none (by omega)
        simp only [World.frozen?, e1]
        cases hb : w'.heap[a.block]? with
        | none => rfl
        | some o =>
          cases o with
          | cells c e f =>
            have := h1.frz a.block c e f (by simp only [topL]; rw [if_neg ha]; simp) hb
            subst this
            simp
          | _ => rfl

theorem kept_same {w w' : World} (h : Grown w w') {ps : List MemPlace} (hlt : ∀ p ∈ ps, p.block < w.heap.size) : ∀ p ∈ ps, w.sameAt w' p := by
  intro p hp
  have hb := hlt p hp
  cases p with
  | cell b off => exact World.keptBut.cell h.1 hb (fun x => x)
  | map b => exact World.keptBut.block h.1 hb (fun _ x => x.elim)

theorem argOk_cell {a : A} {u : Value} (h : CellsOk w [a] [u]) (hn : ∀ xs, a ≠ .agg xs) : ArgOk w a u := by
  unfold ArgOk
  split
  · exact (hn _ rfl).elim
  · exact h
end
end Go.TM

/-! The tree machine, 36: tables, checked. -/
namespace Go.TM
set_option linter.unusedVariables false
set_option linter.unusedSimpArgs false

/-- A zero cell, checked. -/
def zvB : A → Value → Bool
  | .i k n, .int k' n' => decide (k = k') && decide (n = n')
  | .b v, .bool v' => v == v'
  | .s .., .slice none 0 0 => true
  | .und, .pointer none => true
  | _, _ => false

theorem zvB_ok {a : A} {v : Value} (h : zvB a v = true) : v = zv a := by
  unfold zvB at h
  split at h
  · simp only [Bool.and_eq_true, decide_eq_true_eq] at h; rw [h.1, h.2]; rfl
  · simp only [beq_iff_eq] at h; rw [h]; rfl
  · rfl
  · rfl
  · cases h

def zvL : List A → List Value → Bool
  | [], [] => true
  | a :: as, v :: vs => zvB a v && zvL as vs
  | _, _ => false

theorem zvL_ok : ∀ {as : List A} {vs : List Value}, zvL as vs = true → vs = as.map zv
  | [], [], _ => rfl
  | a :: as, v :: vs, h => by
    simp only [zvL, Bool.and_eq_true] at h
    rw [zvB_ok h.1, zvL_ok h.2]; rfl
  | [], _ :: _, h => by simp [zvL] at h
  | _ :: _, [], h => by simp [zvL] at h

def kindB (P : Program) (ti : TI) (d : TypeDesc) : Bool := match ti.kind, d with
  | .int k, .int k' => decide (k = k') && !ti.agg
  | .bool, .bool => !ti.agg
  | .slice e, .slice e' => decide (e = e') && !ti.agg
  | .struct fs, .struct fields => decide (fs = fields.toList.map fun f => (f.offset, f.type)) && ti.agg && fields.toList.all fun f => match P.info? f.type with
    | some i => decide (i.size ≠ 0)
    | none => false
  | .array n e, .array n' e' => decide (n = n') && decide (e = e') && ti.agg
  | .pointer e, .pointer e' => decide (e = e') && !ti.agg
  | _, _ => false

def tiB (P : Program) (t : Nat) (ti : TI) : Bool := (match P.info? t with
  | some i => decide (i.size = ti.sz) && decide (i.bytes = ti.bytes) && match i.zero with
    | some z => zvL ti.zero z.cells.toList
    | none => false
  | none => false) && decide (ti.zero.length = ti.sz) && ti.zero.all zok && match P.underlying t with
  | some d => kindB P ti d
  | none => false

theorem tiB_ok {P : Program} {t : Nat} {ti : TI} (h : tiB P t ti = true) : TIok P t ti := by
  unfold tiB at h
  simp only [Bool.and_eq_true, decide_eq_true_eq] at h
  obtain ⟨⟨⟨h1, h2⟩, h3⟩, h4⟩ := h
  cases hu : P.underlying t with
  | none => rw [hu] at h4; cases h4
  | some d =>
    rw [hu] at h4
    refine ⟨?_, h2, h3, ⟨d, hu, ?_⟩, ?_⟩
    · split at h1
      · rename_i i hi
        simp only [Bool.and_eq_true, decide_eq_true_eq] at h1
        obtain ⟨⟨e1, e2⟩, e3⟩ := h1
        split at e3
        · rename_i z hz
          exact ⟨i, z, hi, e1, e2, hz, zvL_ok e3⟩
        · cases e3
      · cases h1
    · unfold kindB at h4
      cases hk : ti.kind <;> rw [hk] at h4 <;> cases d <;> simp only [Bool.and_eq_true, decide_eq_true_eq, Bool.not_eq_true', Bool.false_eq_true] at h4 <;> simp [h4]
    · unfold kindB at h4
      cases hk : ti.kind <;> rw [hk] at h4 <;> cases d <;> simp only [Bool.and_eq_true, decide_eq_true_eq, Bool.not_eq_true', Bool.false_eq_true] at h4 <;> try simp [hu, h4]
      intro f hf
      have := List.all_eq_true.1 h4.2 f (by simpa using hf)
      split at this
      · rename_i i hi
        exact ⟨i, hi, by simpa using this⟩
      · cases this

/-- A table of functions. -/
def tabG : List (Nat × FM) → Nat → Option FM
  | [], _ => none
  | (k, m) :: l, f => if f = k then some m else tabG l f

theorem gok_nil {P : Program} : GOk P (tabG []) := fun f fm h => by cases h

theorem gok_model {P : Program} {k : Nat} {M : Model} {l : List (Nat × FM)} (hf : FnOk P k) (hc : Contract P k M) (hl : GOk P (tabG l)) : GOk P (tabG ((k, .model M) :: l)) := by
  intro f fm h
  simp only [tabG] at h
  split at h
  · rename_i e; subst e; cases h; exact ⟨hf, hc⟩
  · exact hl f fm h

theorem gok_alias {P : Program} {k : Nat} {ar : List Nat} {outs : List Out} {l : List (Nat × FM)} (hf : FnOk P k) (hc : AliasOk P k ar outs) (hl : GOk P (tabG l)) : GOk P (tabG ((k, .alias ar outs) :: l)) := by
  intro f fm h
  simp only [tabG] at h
  split at h
  · rename_i e; subst e; cases h; exact ⟨hf, hc⟩
  · exact hl f fm h

theorem gok_each {P : Program} {k ar : Nat} {js : List Nat} {M : Model} {l : List (Nat × FM)} (hf : FnOk P k) (hc : EachOk P k ar js M) (hl : GOk P (tabG l)) : GOk P (tabG ((k, .each ar js M) :: l)) := by
  intro f fm h
  simp only [tabG] at h
  split at h
  · rename_i e; subst e; cases h; exact ⟨hf, hc⟩
  · exact hl f fm h

theorem gok_grow {P : Program} {k sz : Nat} {l : List (Nat × FM)} (hf : FnOk P k) (hc : GrowOk P k sz) (hl : GOk P (tabG l)) : GOk P (tabG ((k, .grow sz) :: l)) := by
  intro f fm h
  simp only [tabG] at h
  split at h
  · rename_i e; subst e; cases h; exact ⟨hf, hc⟩
  · exact hl f fm h

def fnB (fn : Func) : Bool := !(fn.name == "runtime.NumGoroutine") && !fn.body.isNone
theorem fnOk_of {P : Program} {k : Nat} {fn : Func} (h : P.funcs[k]? = some fn) (hb : fnB fn = true) : FnOk P k := by
  simp only [fnB, Bool.and_eq_true, Bool.not_eq_true'] at hb
  exact ⟨fn, h, hb.1, hb.2⟩

end Go.TM

/-! The tree machine, 37: the arguments of a law, read. -/
namespace Go.TM
open Go.ChangeShapes Go.WideShapes Go.ChangeAt Go.RowKit
set_option linter.unusedVariables false
set_option linter.unusedSimpArgs false

section
variable {H : Type} {enc : TypeId × Value → H} {P : Program} {w : World} {held : Bool}

/-- What is read at a type is abstract data. -/
def Reads (enc : TypeId × Value → H) (P : Program) (w : World) (held : Bool) (t : Nat) {α : Type} (f : α → List A) (Q : α → Prop) : Prop :=
  ∀ (n : Nat) (cs : List Value) (x : DataW H × List MemPlace), DataW.trod enc P w 0 (fun _ => true) held n t cs = some x → ∃ y, Q y ∧ CellsOk w (f y) cs

def intWf (k : IntKind) (n : Int) : Prop := (Lit.int k n).wf = true

theorem reads_int {t : Nat} {k : IntKind} (hu : P.underlying t = some (.int k)) : Reads enc P w held t (fun n => [A.i k n]) (intWf k) := by
  intro n cs x h
  obtain ⟨v, rfl, rfl, hw⟩ := DataW.trod_int hu h
  refine ⟨v, hw, rfl, fun j a u ha hv => ?_⟩
  cases j with
  | zero => simp at ha hv; subst ha; subst hv; exact ⟨rfl, by simp [Imm, hw]⟩
  | succ j => simp at ha

theorem reads_map {t : Nat} {α β : Type} {f : α → List A} {Q : α → Prop} (h : Reads enc P w held t f Q) (g : α → β) (f' : β → List A) (Q' : β → Prop) (hf : ∀ y, f' (g y) = f y) (hQ : ∀ y, Q y → Q' (g y)) : Reads enc P w held t f' Q' := by
  intro n cs x hx
  obtain ⟨y, h1, h2⟩ := h n cs x hx
  exact ⟨g y, hQ y h1, by rw [hf]; exact h2⟩

theorem reads_slice {t e k : Nat} {α : Type} [Inhabited α] {f : α → List A} {Q : α → Prop} (he : Reads enc P w held e f Q) (hu : P.underlying t = some (.slice e)) (hk : P.cellsOf e = k) (hk0 : 0 < k) (hf : ∀ y, (f y).length = k) :
    Reads enc P w held t (fun ys : List α => [A.s false k ys.length (ys.flatMap f)]) (fun ys => (∀ y ∈ ys, Q y) ∧ ys.length ≤ maxLen) := by
  intro n cs x h
  obtain ⟨ys, h1, h2, h3⟩ := cellsOk_slice hu hk hk0 f hf Q he h
  exact ⟨ys, ⟨h1, h2⟩, h3⟩

theorem cellsOk_append {xs ys : List A} {cs ds : List Value} (h1 : CellsOk w xs cs) (h2 : CellsOk w ys ds) : CellsOk w (xs ++ ys) (cs ++ ds) := by
  refine ⟨by simp [h1.1, h2.1], fun j a v ha hv => ?_⟩
  by_cases hj : j < xs.length
  · rw [List.getElem?_append_left hj] at ha
    rw [List.getElem?_append_left (by rw [← h1.1]; exact hj)] at hv
    exact h1.2 j a v ha hv
  · rw [List.getElem?_append_right (by omega)] at ha
    rw [List.getElem?_append_right (by rw [← h1.1]; omega), ← h1.1] at hv
    exact h2.2 _ a v ha hv

theorem reads_st2 {t t0 t1 : Nat} {α β : Type} {f0 : α → List A} {f1 : β → List A} {Q0 : α → Prop} {Q1 : β → Prop} (r0 : Reads enc P w held t0 f0 Q0) (r1 : Reads enc P w held t1 f1 Q1) {fs : Array Go.Field}
    (hu : P.underlying t = some (.struct fs)) (hfs : fs.toList.map (fun f => (f.offset, f.type)) = [(0, t0), (1, t1)]) (hc : P.cellsOf t = 2) (h0 : P.cellsOf t0 = 1) (h1 : P.cellsOf t1 = 1) :
    Reads enc P w held t (fun x : α × β => f0 x.1 ++ f1 x.2) (fun x => Q0 x.1 ∧ Q1 x.2) := by
  intro n cs x h
  obtain ⟨xs, k, hk, rfl, hcl, hxl, hft⟩ := DataW.trod_struct hu h
  have hsz : fs.size = 2 := by have := congrArg List.length hfs; simpa using this
  have get : ∀ (i : Nat) (o s : Nat), [(0, t0), (1, t1)][i]? = some (o, s) → ∃ y, DataW.trod enc P w 0 (fun _ => true) held k s ((cs.drop o).take (P.cellsOf s)) = some y := by
    intro i o s hi
    rw [← hfs, List.getElem?_map, Option.map_eq_some_iff] at hi
    obtain ⟨f, hf, he⟩ := hi
    rw [Array.getElem?_toList] at hf
    have hlt := (Array.getElem?_eq_some_iff.1 hf).1
    have := hft i f hf
    rw [List.getElem?_eq_getElem (by omega)] at this
    cases he
    exact ⟨_, this⟩
  obtain ⟨y0, g0⟩ := get 0 0 t0 rfl
  obtain ⟨y1, g1⟩ := get 1 1 t1 rfl
  rw [h0] at g0
  rw [h1] at g1
  obtain ⟨a, qa, ca⟩ := r0 _ _ _ g0
  obtain ⟨b, qb, cb⟩ := r1 _ _ _ g1
  refine ⟨(a, b), ⟨qa, qb⟩, ?_⟩
  have := cellsOk_append ca cb
  rw [hc] at hcl
  match cs, hcl with
  | [u, v], _ => simpa using this

theorem reads_st3 {t t0 t1 t2 : Nat} {α β γ : Type} {f0 : α → List A} {f1 : β → List A} {f2 : γ → List A} {Q0 : α → Prop} {Q1 : β → Prop} {Q2 : γ → Prop} (r0 : Reads enc P w held t0 f0 Q0) (r1 : Reads enc P w held t1 f1 Q1) (r2 : Reads enc P w held t2 f2 Q2) {fs : Array Go.Field}
    (hu : P.underlying t = some (.struct fs)) (hfs : fs.toList.map (fun f => (f.offset, f.type)) = [(0, t0), (1, t1), (2, t2)]) (hc : P.cellsOf t = 3) (h0 : P.cellsOf t0 = 1) (h1 : P.cellsOf t1 = 1) (h2 : P.cellsOf t2 = 1) :
    Reads enc P w held t (fun x : α × β × γ => f0 x.1 ++ (f1 x.2.1 ++ f2 x.2.2)) (fun x => Q0 x.1 ∧ Q1 x.2.1 ∧ Q2 x.2.2) := by
  intro n cs x h
  obtain ⟨xs, k, hk, rfl, hcl, hxl, hft⟩ := DataW.trod_struct hu h
  have hsz : fs.size = 3 := by have := congrArg List.length hfs; simpa using this
  have get : ∀ (i : Nat) (o s : Nat), [(0, t0), (1, t1), (2, t2)][i]? = some (o, s) → ∃ y, DataW.trod enc P w 0 (fun _ => true) held k s ((cs.drop o).take (P.cellsOf s)) = some y := by
    intro i o s hi
    rw [← hfs, List.getElem?_map, Option.map_eq_some_iff] at hi
    obtain ⟨f, hf, he⟩ := hi
    rw [Array.getElem?_toList] at hf
    have hlt := (Array.getElem?_eq_some_iff.1 hf).1
    have := hft i f hf
    rw [List.getElem?_eq_getElem (by omega)] at this
    cases he
    exact ⟨_, this⟩
  obtain ⟨y0, g0⟩ := get 0 0 t0 rfl
  obtain ⟨y1, g1⟩ := get 1 1 t1 rfl
  obtain ⟨y2, g2⟩ := get 2 2 t2 rfl
  rw [h0] at g0
  rw [h1] at g1
  rw [h2] at g2
  obtain ⟨a, qa, ca⟩ := r0 _ _ _ g0
  obtain ⟨b, qb, cb⟩ := r1 _ _ _ g1
  obtain ⟨c, qc, cc⟩ := r2 _ _ _ g2
  refine ⟨(a, b, c), ⟨qa, qb, qc⟩, ?_⟩
  have := cellsOk_append ca (cellsOk_append cb cc)
  rw [hc] at hcl
  match cs, hcl with
  | [u, v, x], _ => simpa using this

/-- An argument that lies in one cell. -/
theorem arg_one {t : Nat} {α : Type} {g : α → A} {Q : α → Prop} (r : Reads enc P w held t (fun x => [g x]) Q) (hg : ∀ x xs, g x ≠ .agg xs) {v : Value} (hv : v.cells.toList = [v]) {d : DataW H} {ps : List MemPlace} (h : DataW.Trod enc P w 0 (fun _ => true) held t v d ps) :
    ∃ x, Q x ∧ ArgOk w (g x) v := by
  obtain ⟨n, hn⟩ := h
  rw [hv] at hn
  obtain ⟨x, h1, h2⟩ := r _ _ _ hn
  exact ⟨x, h1, argOk_cell h2 (hg x)⟩

/-- An argument that is a struct. -/
theorem arg_agg {t : Nat} {α : Type} {g : α → List A} {Q : α → Prop} (r : Reads enc P w held t g Q) {us : Array Value} {d : DataW H} {ps : List MemPlace} (h : DataW.Trod enc P w 0 (fun _ => true) held t (.agg us) d ps) :
    ∃ x, Q x ∧ ArgOk w (.agg (g x)) (.agg us) := by
  obtain ⟨n, hn⟩ := h
  obtain ⟨x, h1, h2⟩ := r _ _ _ hn
  exact ⟨x, h1, us, rfl, h2⟩

theorem cells_int {t : Nat} {k : IntKind} {v : Value} {base : Nat} (hu : P.underlying t = some (.int k)) (h : Value.okWide P w .any base t v) : v.cells.toList = [v] := by
  simp only [Value.okWide, hu, Cell.okWide] at h
  cases v <;> simp_all [Cell.ok, Value.cells]
theorem cells_slice {t e : Nat} {v : Value} {base : Nat} (hu : P.underlying t = some (.slice e)) (h : Value.okWide P w .any base t v) : v.cells.toList = [v] := by
  obtain ⟨a, l, c, rfl⟩ := okWide_slice hu h
  rfl
theorem cells_struct {t : Nat} {fs : Array Go.Field} {v : Value} {base : Nat} (hu : P.underlying t = some (.struct fs)) (h : Value.okWide P w .any base t v) : ∃ us, v = .agg us := by
  simp only [Value.okWide, hu] at h
  cases v <;> simp_all

theorem flat1 {α : Type} (f : α → A) (xs : List α) : xs.flatMap (fun x => [f x]) = xs.map f := by
  induction xs with
  | nil => rfl
  | cons x xs ih => rw [List.flatMap_cons, ih]; rfl
end
end Go.TM

/-! The tree machine, 38: rows of triples; bytes. -/
namespace Go.TM
set_option linter.unusedVariables false
set_option linter.unusedSimpArgs false

abbrev Op3 := Int × Int × Int
def eOp (p : Op3) : List A := [eI p.1, eI p.2.1, eI p.2.2]
abbrev eOps (o : Bool) (ps : List Op3) : A := .s o 3 ps.length (ps.flatMap eOp)

def dOps : List A → Option (List Op3)
  | [] => some []
  | a :: b :: c :: cs => match dI a, dI b, dI c, dOps cs with
    | some x, some y, some z, some ps => some ((x, y, z) :: ps)
    | _, _, _, _ => none
  | _ => none

theorem dOps_e : ∀ ps : List Op3, dOps (ps.flatMap eOp) = some ps
  | [] => rfl
  | p :: ps => by simp [List.flatMap_cons, eOp, dOps, dI, dOps_e ps]

theorem dOps_some : ∀ {cs : List A} {ps : List Op3}, dOps cs = some ps → cs = ps.flatMap eOp
  | [], _, h => by cases h; rfl
  | [_], _, h => by cases h
  | [_, _], _, h => by cases h
  | a :: b :: c :: cs, ps, h => by
    unfold dOps at h
    split at h
    · rename_i x y z ps' h1 h2 h3 h4
      cases h
      rw [dI_some h1, dI_some h2, dI_some h3, dOps_some h4]; rfl
    · cases h

theorem flatOp_len (ps : List Op3) : (ps.flatMap eOp).length = ps.length * 3 := by
  induction ps with
  | nil => rfl
  | cons p ps ih => simp [List.flatMap_cons, eOp, ih]; omega

def cOps (o : Bool) : Cod (List Op3) where
  e ps := eOps o ps
  d
    | .s o' sz len cs => if o' = o ∧ sz = 3 ∧ len * 3 = cs.length then dOps cs else none
    | _ => none
  de ps := by
    show (if o = o ∧ 3 = 3 ∧ ps.length * 3 = (ps.flatMap eOp).length then dOps (ps.flatMap eOp) else none) = some ps
    rw [if_pos ⟨rfl, rfl, (flatOp_len ps).symm⟩]; exact dOps_e ps
  ed a ps h := by
    split at h
    · split at h
      · rename_i hc
        obtain ⟨rfl, rfl, hl⟩ := hc
        have := dOps_some h
        rw [this, flatOp_len] at hl
        rw [this, Nat.eq_of_mul_eq_mul_right (by omega) hl]
      · cases h
    · cases h
def cOp : Cod Op3 where
  e p := .agg (eOp p)
  d
    | .agg [a, b, c] => match dI a, dI b, dI c with
      | some x, some y, some z => some (x, y, z)
      | _, _, _ => none
    | _ => none
  de p := rfl
  ed a p h := by
    split at h
    · split at h
      · rename_i h1 h2 h3
        cases h
        rw [dI_some h1, dI_some h2, dI_some h3]; rfl
      · cases h
    · cases h

theorem cOps_d {o : Bool} {n : Nat} {xs : List Op3} (h : n = xs.length) : (cOps o).d (.s o 3 n (xs.flatMap eOp)) = some xs := by rw [h]; exact (cOps o).de xs
theorem cOps_nil {o : Bool} : (cOps o).d (.s o 3 0 []) = some [] := (cOps o).de []
theorem cOp_d (x y z : Int) : cOp.d (.agg [.i .i64 x, .i .i64 y, .i .i64 z]) = some (x, y, z) := rfl
theorem cOps_e (o : Bool) (xs : List Op3) : (cOps o).e xs = .s o 3 xs.length (xs.flatMap eOp) := rfl
theorem cOp_e (x : Op3) : cOp.e x = .agg [eI x.1, eI x.2.1, eI x.2.2] := rfl
theorem normL_ops (xs : List Op3) : normL (xs.flatMap eOp) = xs.flatMap eOp := by rw [normL_flat]; rfl
theorem imm_ops (xs : List Op3) : (xs.flatMap eOp).map imm1 = xs.flatMap eOp := by
  induction xs with
  | nil => rfl
  | cons x xs ih => simp only [List.flatMap_cons, List.map_append, ih]; rfl

theorem drop_ops : ∀ (xs : List Op3) (k : Nat), (xs.flatMap eOp).drop (k * 3) = (xs.drop k).flatMap eOp
  | [], k => by simp
  | x :: xs, 0 => by simp
  | x :: xs, k + 1 => by
    have := drop_ops xs k
    rw [show (k + 1) * 3 = 3 + k * 3 from by omega, List.flatMap_cons, ← List.drop_drop]
    simpa [eOp] using this
theorem get_op {xs : List Op3} {k j : Nat} (h : k < xs.length) (hj : j < 3) : (xs.flatMap eOp)[k * 3 + j]? = (eOp (xs.getD k default))[j]? := by
  rw [← List.getElem?_drop, drop_ops, drop_head h, List.flatMap_cons, List.getElem?_append_left (by simpa [eOp] using hj)]
theorem get_op0 {xs : List Op3} {k : Nat} (h : k < xs.length) : (xs.flatMap eOp)[k * 3]? = some (eI (xs.getD k default).1) := get_op (j := 0) h (by omega)
theorem get_op1 {xs : List Op3} {k : Nat} (h : k < xs.length) : (xs.flatMap eOp)[k * 3 + 1]? = some (eI (xs.getD k default).2.1) := get_op (j := 1) h (by omega)
theorem get_op2 {xs : List Op3} {k : Nat} (h : k < xs.length) : (xs.flatMap eOp)[k * 3 + 2]? = some (eI (xs.getD k default).2.2) := get_op (j := 2) h (by omega)
theorem rng_op {xs : List Op3} {k : Nat} (h : k < xs.length) : rng (xs.flatMap eOp) (k * 3) 3 = eOp (xs.getD k default) := by
  unfold rng
  rw [drop_ops, drop_head h, List.flatMap_cons]
  simp [eOp]
theorem take_ops : ∀ (xs : List Op3) (k : Nat), (xs.flatMap eOp).take (k * 3) = (xs.take k).flatMap eOp
  | [], k => by simp
  | x :: xs, 0 => by simp
  | x :: xs, k + 1 => by
    have := take_ops xs k
    rw [show (k + 1) * 3 = k * 3 + 3 from by omega, List.flatMap_cons]
    simp only [eOp, List.cons_append, List.nil_append, List.take_succ_cons, List.flatMap_cons]
    rw [this]
theorem rng_ops (xs : List Op3) (a n : Nat) : rng (xs.flatMap eOp) (a * 3) (n * 3) = (sub xs a n).flatMap eOp := by simp [rng, sub, drop_ops, take_ops]
theorem set_op {xs : List Op3} {k : Nat} (h : k < xs.length) (x y z : Int) : setR (k * 3) [.i .i64 x, .i .i64 y, .i .i64 z] (xs.flatMap eOp) = (xs.set k (x, y, z)).flatMap eOp := by
  have : setR (k * 3) (eOp (x, y, z)) (xs.flatMap eOp) = (xs.set k (x, y, z)).flatMap eOp := by
    rw [setR_eq _ _ _ (by rw [flatOp_len]; simp [eOp]; omega)]
    exact set_flat eOp 3 (fun _ => rfl) xs k (x, y, z) h
  exact this
theorem set_row' {xs : List Pr} {k : Nat} (h : k < xs.length) (x y : Int) : setR (k * 2) [.i .i64 x, .i .i64 y] (xs.flatMap ePr) = (xs.set k (x, y)).flatMap ePr := set_row h (x, y)
theorem set_pg' {o : Bool} {xs : List Pg} {k a b c : Nat} {x y z : List Int} (h : k < xs.length) (ha : a = x.length) (hb : b = y.length) (hc : c = z.length) :
    setR (k * 3) [.s o 1 a (x.map eI), .s o 1 b (y.map eI), .s o 1 c (z.map eI)] (xs.flatMap (ePg o)) = (xs.set k ⟨x, y, z⟩).flatMap (ePg o) := by subst ha; subst hb; subst hc; exact set_pg h ⟨x, y, z⟩
attribute [go_sem] cOps_d cOps_nil cOp_d cOps_e cOp_e normL_ops imm_ops get_op0 get_op1 get_op2 rng_op rng_ops set_op set_row' set_pg'

theorem rng_ops0 (xs : List Op3) (n : Nat) : rng (xs.flatMap eOp) 0 (n * 3) = (sub xs 0 n).flatMap eOp := by simpa using rng_ops xs 0 n
theorem rng_rows0 (xs : List Pr) (n : Nat) : rng (xs.flatMap ePr) 0 (n * 2) = (sub xs 0 n).flatMap ePr := by simpa using rng_rows xs 0 n
theorem rng_pgs0 (o : Bool) (xs : List Pg) (n : Nat) : rng (xs.flatMap (ePg o)) 0 (n * 3) = (sub xs 0 n).flatMap (ePg o) := by simpa using rng_pgss o xs 0 n
attribute [go_sem] rng_ops0 rng_rows0 rng_pgs0
theorem setR_2 (a b x y : A) : setR 0 [a, b] [x, y] = [a, b] := rfl
theorem setR_3 (a b c x y z : A) : setR 0 [a, b, c] [x, y, z] = [a, b, c] := rfl
theorem verS_2 (k l : IntKind) (a b : Int) (v : Nat → Nat) (p : List Nat) (off : Nat) : verS [.i k a, .i l b] v p off = v := rfl
theorem verS_3 (k l m : IntKind) (a b c : Int) (v : Nat → Nat) (p : List Nat) (off : Nat) : verS [.i k a, .i l b, .i m c] v p off = v := rfl
attribute [go_sem] setR_2 setR_3 verS_2 verS_3

/-! ### Bytes -/

def e8 (n : Int) : A := .i .u8 n
abbrev eBs (o : Bool) (xs : List Int) : A := .s o 1 xs.length (xs.map e8)
def d8 : A → Option Int
  | .i .u8 n => some n
  | _ => none
def c8 : Cod Int := ⟨e8, d8, fun _ => rfl, fun a n h => by
  unfold d8 at h
  split at h
  · cases h; rfl
  · cases h⟩
theorem cBs_e (o : Bool) (xs : List Int) : (cS o c8).e xs = .s o 1 xs.length (xs.map e8) := rfl
theorem cBs_d {o : Bool} {n : Nat} {xs : List Int} (h : n = xs.length) : (cS o c8).d (.s o 1 n (xs.map e8)) = some xs := by rw [h]; exact (cS o c8).de xs
theorem cBs_nil {o : Bool} : (cS o c8).d (.s o 1 0 []) = some [] := (cS o c8).de []
theorem get_8 {xs : List Int} {k : Nat} (h : k < xs.length) : (xs.map e8)[k]? = some (.i .u8 (xs.getD k 0)) := by
  simp [List.getElem?_map, List.getElem?_eq_getElem h, e8]
theorem rng_8 (xs : List Int) (a n : Nat) : rng (xs.map e8) a n = (sub xs a n).map e8 := by simp [rng, sub, List.map_drop, List.map_take]
theorem imm_8 (xs : List Int) : (xs.map e8).map imm1 = xs.map e8 := by
  induction xs with
  | nil => rfl
  | cons x xs ih => simp only [List.map_cons, ih]; rfl
theorem normL_8 (xs : List Int) : normL (xs.map e8) = xs.map e8 := by
  rw [← flat1, normL_flat]; rfl
attribute [go_sem] cBs_e cBs_d cBs_nil get_8 rng_8 imm_8 normL_8

def tiU8 : TI := ⟨.int .u8, false, 1, 1, [.i .u8 0]⟩
def tiPt (e : Nat) : TI := ⟨.pointer e, false, 1, 8, [.und]⟩
theorem tiU8_z : tiU8.zero = [.i .u8 0] := rfl
theorem tiU8_s : tiU8.sz = 1 := rfl
theorem tiU8_b : tiU8.bytes = 1 := rfl
theorem tiU8_k : tiU8.kind = .int .u8 := rfl
theorem tiU8_f : flatTI tiU8 = true := rfl
theorem ldT_e8 {hp : Hp} (cs : List A) : ldT hp (.ep cs) (some tiU8) = ldE cs[0]? := ld1 (hp := hp) rfl rfl cs
theorem ldT_p8 {hp : Hp} (id : Id) (p : List Nat) (v off : Nat) : ldT hp (.ptr id p v off) (some tiU8) = ldP id p v off (node hp id p v) (hp id) := ld1p (hp := hp) rfl rfl id p v off
/-- Bits that differ. -/
def ixor (x y : Int) : Int := IntKind.i64.wrap (BitVec.ofInt IntKind.i64.bits x ^^^ BitVec.ofInt IntKind.i64.bits y).toNat
theorem bop_xor (kd : K) (x y : Int) : bop kd .xor (.i .i64 x) (.i .i64 y) = some (.pure (.i .i64 (ixor x y))) := by simp [bop, binA, binI, ixor]
theorem get_8' {xs : List Int} {k : Nat} (h : k < xs.length) : ((xs.map e8).drop k)[0]? = some (.i .u8 (xs.getD k 0)) := by
  rw [List.getElem?_drop]
  exact get_8 (by omega)
theorem clean_8 (xs : List Int) : cleanL (xs.map e8) = true := by
  induction xs with
  | nil => rfl
  | cons x xs ih => simp only [List.map_cons, cleanL, ih]; rfl
attribute [go_sem] tiU8_z tiU8_s tiU8_b tiU8_k tiU8_f ldT_e8 ldT_p8 bop_xor
end Go.TM

/-! The tree machine, 39: between a function that is walked by hand and its contract. -/
namespace Go.TM
set_option linter.unusedVariables false
set_option linter.unusedSimpArgs false

/-- All that was there is as it was; what is new is not frozen. -/
structure Kept (w w' : World) : Prop where
  os : w'.os = w.os
  tape : w'.tape = w.tape
  output : w'.output = w.output
  size : w.heap.size ≤ w'.heap.size
  old : ∀ b, b < w.heap.size → w'.heap[b]? = w.heap[b]?
  fresh : ∀ b c e f, w.heap.size ≤ b → w'.heap[b]? = some (.cells c e f) → f = (0, 0)

theorem Kept.refl (w : World) : Kept w w := ⟨rfl, rfl, rfl, Nat.le_refl _, fun _ _ => rfl, fun b c e f hb h => by
  rw [Array.getElem?_eq_none hb] at h; cases h⟩

theorem Kept.trans {w w' w'' : World} (h : Kept w w') (h' : Kept w' w'') : Kept w w'' := by
  refine ⟨h'.os.trans h.os, h'.tape.trans h.tape, h'.output.trans h.output, Nat.le_trans h.size h'.size, fun b hb => ?_, fun b c e f hb hc => ?_⟩
  · rw [h'.old b (Nat.lt_of_lt_of_le hb h.size), h.old b hb]
  · by_cases hlt : b < w'.heap.size
    · rw [h'.old b hlt] at hc
      exact h.fresh b c e f hb hc
    · exact h'.fresh b c e f (by omega) hc

theorem Kept.drewN (w : World) (q : Nat) : Kept w (w.drewN q) := ⟨rfl, rfl, rfl, Nat.le_refl _, fun _ _ => rfl, fun b c e f hb h => by
  have h1 : (w.drewN q).heap[b]? = none := Array.getElem?_eq_none hb
  rw [h1] at h; cases h⟩

theorem Kept.alloc (w : World) (c : Array Value) (t : TypeId) : Kept w (w.alloc (.cells c t)) := by
  have e : (w.alloc (.cells c t)).heap = w.heap.push (.cells c t) := rfl
  refine ⟨rfl, rfl, rfl, by rw [e]; simp, fun b hb => ?_, fun b c' e' f hb h => ?_⟩
  · rw [e, Array.getElem?_push, if_neg (by omega)]
  · rw [e, Array.getElem?_push] at h
    split at h
    · cases h; rfl
    · rw [Array.getElem?_eq_none hb] at h; cases h

theorem Kept.cell {w w' : World} (h : Kept w w') {a : Addr} {v : Value} (hc : w.cell? a = some v) : w'.cell? a = some v := by
  have hb := World.block_lt_of_cell? _ _ hc
  rw [World.cell?_of_block (h.old _ hb)]
  exact hc

section
variable {P : Program} {w w' : World}

/-- What a scalar is in the model of the language. -/
def valA : A → Value
  | .i k n => .int k n
  | .b v => .bool v
  | _ => undef

theorem top_hrel (M : Model) (args : List A) (hk : M.kinds = args.map fun _ => .ro) : @HRel topU w (topL w) lt3 (initHp 0 0 M.kinds args) w (topL w) := by
  rw [hk]
  refine @HRel.mk topU _ _ _ _ _ _ (fun id r hr => ?_) (fun b b' id p hb hb' => ?_) (fun b hb => ?_) (fun b id p hb => ?_) (fun id r hr => ?_) (fun b hb => ⟨hb, rfl⟩) (Nat.le_refl _) rfl rfl rfl (fun _ _ => trivial) (fun b c e f hb hc => ?_)
  · rw [initHp_ro] at hr; cases hr
  · simp only [topL] at hb; split at hb <;> cases hb
  · exact if_neg (by omega)
  · simp only [topL] at hb; split at hb <;> cases hb
  · rw [initHp_ro] at hr; cases hr
  · exfalso
    apply hb
    exact if_pos (Array.getElem?_eq_some_iff.1 hc).1

/-- A call that reads and gives a scalar, from a walk by hand. -/
theorem model_calls {f : Nat} {M : Model} (hC : Contract P f M) {args : List A} {us : List Value} (hk : M.kinds = args.map fun _ => .ro) (hl : args.length = us.length) (hargs : ∀ (j : Nat) a u, args[j]? = some a → us[j]? = some u → ArgOk w a u)
    {c : A} (hc : isScalar c = true) (hM : M.fn args = some (c, [])) : Calls P f us.toArray w fun e w' => e = .returned (valA c) ∧ Kept w w' := by
  refine (hC.calls topU w (topL w) us.toArray args c [] hM (top_hrel M args hk) (fun j => ?_) (by simpa using hl.symm)).mono fun e w' hp => ?_
  · have := initSl_ro (w := w) args us 0 (V := lt3) (hp := initHp 0 0 M.kinds args) hl hargs j
    rw [hk]
    rw [hk] at this
    simpa [Array.getD_eq_getD_getElem?] using this
  · obtain ⟨v, L', rfl, h1, h2, _⟩ := hp
    letI : Use := topU
    have hv : v = valA c := by
      cases c <;> simp only [isScalar] at hc <;> first | cases hc | skip
      · simp only [ResOwn, Res1, Own] at h2
        exact h2.2.1
      · simp only [ResOwn, Res1, Own] at h2
        exact h2.2
    refine ⟨by rw [hv], h1.os, h1.tape, h1.output, h1.size, fun b hb => (h1.prot b (if_pos hb)).2, fun b c' e f hb hc' => ?_⟩
    exact h1.frz b c' e f (by simp only [topL]; rw [if_neg (by omega)]; simp) hc'

/-- From a walk by hand to the contract: a slice of numbers and a number, read only; a number is given. -/
theorem contract_of_kept {f : Nat} {C : List Int → Int → Prop} {g : List Int → Int → Int} {F : List Int → Int → Out1} (hF : ∀ xs k r outs, F xs k = some (r, outs) → C xs k ∧ r = eI (g xs k) ∧ outs = [])
    (hw : ∀ xs k, C xs k → (Lit.int .i64 (g xs k)).wf = true)
    (h : ∀ (w : World) (Q : Nat → Prop) (xs : List Int) (k : Int) (u : Value), C xs k → (∀ b, Q b → b < w.heap.size) → Imm w Q (eIs false xs) u → (Lit.int .i64 k).wf = true →
      Calls P f #[u, .int .i64 k] w fun e w' => e = .returned (.int .i64 (g xs k)) ∧ Kept w w') : Contract P f (M2 .ro .ro true (cIs false) cI F) := by
  refine ⟨fun B w L vals args r outs hM hh hs hsz => ?_, fun _ args r outs hM => ?_⟩
  · obtain ⟨x, y, rfl⟩ : ∃ x y, args = [x, y] := by
      match args, hM with
      | [x, y], _ => exact ⟨x, y, rfl⟩
      | [], h => simp [M2] at h
      | [_], h => simp [M2] at h
      | _ :: _ :: _ :: _, h => simp [M2] at h
    rw [M2_fn] at hM
    simp only [Option.bind_eq_some_iff] at hM
    obtain ⟨xs, hx, k, hy, hM⟩ := hM
    obtain rfl := (cIs false).ed _ _ hx
    obtain rfl := cI.ed _ _ hy
    obtain ⟨hC, rfl, rfl⟩ := hF _ _ _ _ hM
    letI := B
    have h0 := hs 0
    have h1 := hs 1
    obtain ⟨u, v, rfl⟩ : ∃ u v, vals = #[u, v] := by
      have hl : vals.toList.length = 2 := by simpa using hsz
      obtain ⟨l, rfl⟩ : ∃ l : List Value, vals = l.toArray := ⟨vals.toList, by simp⟩
      match l, hl with
      | [u, v], _ => exact ⟨u, v, rfl⟩
    have h0' : Imm w (isProt L) (eIs false xs) u := by
      have h2 : @Rep B lt3 w L (initHp 0 0 [.ro, .ro] [eIs false xs, eI k]) (eIs false xs) u := h0
      simpa only [Rep] using h2
    have h1' : v = .int .i64 k ∧ (Lit.int .i64 k).wf = true := by
      simpa [initSl, M2, immV, imm1, cI, Rep] using h1
    obtain ⟨rfl, hk⟩ := h1'
    have hQ : ∀ b, isProt L b → b < w.heap.size := by
      intro b hb
      by_cases hlt : b < w.heap.size
      · exact hlt
      · have := hh.free b (by omega)
        have h1 := hb.1
        rw [this] at h1
        cases h1
    refine (h w (isProt L) xs k u hC hQ h0' hk).mono fun e w' hp => ?_
    obtain ⟨rfl, hkept⟩ := hp
    refine ⟨_, fun b => if b < w.heap.size then L b else .free, rfl, ?_, ?_, fun t b ht => ?_⟩
    · refine ⟨fun id r hr => ?_, fun b b' id p hb hb' => ?_, fun b hb => ?_, fun _ _ _ _ => trivial, fun _ _ _ => trivial, fun b hb => ?_, hkept.size, hkept.os, hkept.tape, hkept.output, hh.use, fun b c e f hb hc => ?_⟩
      · exfalso
        simp [shsOf, M2, ioHp] at hr
      · split at hb
        · split at hb'
          · exact hh.inj b b' id p hb hb'
          · cases hb'
        · cases hb
      · split
        · exact hh.free b (Nat.le_trans hkept.size hb)
        · rfl
      · have hlt : b < w.heap.size := by
          by_cases hlt : b < w.heap.size
          · exact hlt
          · rw [hh.free b (by omega)] at hb; cases hb
        exact ⟨by rw [if_pos hlt]; exact hb, hkept.old b hlt⟩
      · by_cases hlt : b < w.heap.size
        · rw [hkept.old b hlt] at hc
          exact hh.frz b c e f hb hc
        · exact hkept.fresh b c e f (by omega) hc
    · simp only [ResOwn, Res1, Own]
      exact ⟨by first | trivial | rfl, by first | rfl | trivial, hw _ _ hC⟩
    · simp [shsOf, M2] at ht
  · obtain ⟨x, y, rfl⟩ : ∃ x y, args = [x, y] := by
      match args, hM with
      | [x, y], _ => exact ⟨x, y, rfl⟩
      | [], h => simp [M2] at h
      | [_], h => simp [M2] at h
      | _ :: _ :: _ :: _, h => simp [M2] at h
    rw [M2_fn] at hM
    simp only [Option.bind_eq_some_iff] at hM
    obtain ⟨xs, hx, k, hy, hM⟩ := hM
    obtain ⟨hC, rfl, rfl⟩ := hF _ _ _ _ hM
    exact ⟨rfl, rfl⟩
end

/-! ### A root is handed back -/

def finP (id : Id) : Option Root → Option (A × List (Id × Option Root))
  | some ⟨_, 1, cs, _⟩ => some (.ep cs, [(id, none)])
  | _ => none
theorem finP_s (id : Id) (sz : Nat) (cs : List A) (v : Nat → Nat) : finP id (some ⟨sz, 1, cs, v⟩) = some (.ep cs, [(id, none)]) := rfl
theorem finV_p {hp : Hp} (id : Id) (v : Nat) : finV hp [.ptr id [] v 0] = finP id (hp id) := by
  simp only [finV]
  cases h : hp id with
  | none => rfl
  | some r =>
    obtain ⟨sz, len, cs, ver⟩ := r
    by_cases h1 : len = 1
    · subst h1; rfl
    · simp only [h1, and_false, if_false, finP]
      split
      · rename_i e
        cases e
        exact (h1 rfl).elim
      · rfl
attribute [go_sem] finV_p finP_s

/-! ### Lists that are written out -/

theorem cIs_lit {o : Bool} {n : Nat} {a : Int} {cs : List A} : (cIs o).d (.s o 1 n (.i .i64 a :: cs)) = gi (n = cs.length + 1) (dL dI (.i .i64 a :: cs)) := by
  show (if o = o ∧ 1 = 1 ∧ n = (A.i .i64 a :: cs).length then dL dI (.i .i64 a :: cs) else none) = _
  simp only [gi, true_and, List.length_cons]
theorem dLI_c (a : Int) (cs : List A) : dL dI (.i .i64 a :: cs) = (dL dI cs).map (a :: ·) := by
  simp only [dL, dI]
  cases dL dI cs <;> rfl
theorem dLI_n : dL dI [] = some [] := rfl
attribute [go_sem] cIs_lit dLI_c dLI_n

/-! ### What is used up -/

theorem rootRef_s (id : Id) (sz len : Nat) (cs : List A) : rootRef id (.s true sz len cs) = .ref id [] 0 0 sz len := rfl
theorem rootOf_s (sz len : Nat) (cs : List A) : rootOf (.s true sz len cs) = some (newRoot sz len cs) := rfl
attribute [go_sem] rootRef_s rootOf_s Prod.mk.injEq
end Go.TM

/-! The tree machine, 40: what is handed back may be held as data that nobody writes. -/
namespace Go.TM
set_option linter.unusedVariables false
set_option linter.unusedSimpArgs false

section
variable {P : Program} {w0 w : World} {L0 L : Lab} {U : Nat → Prop} {hp : Hp}

/-- The results' blocks from here on only read. -/
def frzR (L : Lab) : Lab := fun b => match L b with
  | .at i p => if i.1 = 0 then .prot else .at i p
  | .prot => .prot
  | .free => .free
theorem frzR_at {i : Id} {b : Nat} {p : List Nat} (h : frzR L b = .at i p) : i.1 ≠ 0 ∧ L b = .at i p := by
  unfold frzR at h
  split at h
  · split at h
    · cases h
    · cases h; exact ⟨by assumption, by assumption⟩
  · cases h
  · cases h
theorem frzR_ne {i : Id} {b : Nat} {p : List Nat} (h : L b = .at i p) (hi : i.1 ≠ 0) : frzR L b = .at i p := by simp [frzR, h, hi]
theorem frzR_0 {k b : Nat} {p : List Nat} (h : L b = .at (0, k) p) : frzR L b = .prot := by simp [frzR, h]
theorem frzR_prot {b : Nat} (h : L b = .prot) : frzR L b = .prot := by simp [frzR, h]
theorem frzR_free {b : Nat} (h : L b = .free) : frzR L b = .free := by simp [frzR, h]

def normR : A → A
  | .agg xs => .agg (normL xs)
  | v => norm v

theorem own_norm [B : Use] (hu : ∀ b k p, L b = .at (0, k) p → Use.B b) {k : Nat} {c : A} {u : Value} (h : Own w L c (0, k) [] u) : Own w (frzR L) (norm c) (0, k) [] u := by
  have hi : Imm w (isProt (frzR L)) c u := Own.imm (P := isProt (frzR L)) (fun b hb => ⟨frzR_prot hb.1, hb.2⟩) c [] u (fun b q hq => ⟨frzR_0 (by simpa using hq), hu b k _ hq⟩) h
  cases c with
  | i k n => simpa [Own, norm] using h
  | b v => simpa [Own, norm] using h
  | s o sz len cs =>
    have := Imm.norm _ _ hi
    simp only [norm] at this ⊢
    simpa only [Own] using this
  | und => simp [norm, Own]
  | _ => simp [Own] at h

theorem owns_norm [B : Use] (hu : ∀ b k p, L b = .at (0, k) p → Use.B b) : ∀ {cs : List A} {k : Nat} {us : List Value}, Owns w L 0 k cs us → Owns w (frzR L) 0 k (normL cs) us
  | [], _, [], _ => by simp [normL, Owns]
  | c :: cs, k, u :: us, h => by
    simp only [Owns] at h
    simp only [normL, Owns]
    exact ⟨⟨h.1.1, own_norm hu h.1.2⟩, owns_norm hu h.2⟩
  | [], _, _ :: _, h => by simp [Owns] at h
  | _ :: _, _, [], h => by simp [Owns] at h

theorem contract_frz {f : Nat} {M M' : Model} (hc : Contract P f M) (hk : M'.kinds = M.kinds) (hcl : M'.clean = false)
    (h : ∀ args r outs, M'.fn args = some (r, outs) → ∃ r0, M.fn args = some (r0, outs) ∧ r = normR r0 ∧ ((∃ o sz len cs, r0 = .s o sz len cs) ∨ ∃ xs, r0 = .agg xs)) : Contract P f M' := by
  refine ⟨fun B w L vals args r outs hM hh hs hsz => ?_, fun hc' => by rw [hcl] at hc'; cases hc'⟩
  obtain ⟨r0, h1, rfl, h3⟩ := h args r outs hM
  rw [hk] at hh hs ⊢
  refine (hc.calls B w L vals args r0 outs h1 hh hs hsz).mono fun e w' hp => ?_
  obtain ⟨v, L', rfl, g1, g2, g3⟩ := hp
  have hu : ∀ b k p, L' b = .at (0, k) p → B.B b := fun b k p hb => hh.use b fun hp => by rw [(g1.prot b hp).1] at hb; cases hb
  letI := B
  refine ⟨v, frzR L', rfl, ⟨fun id r hr => ?_, fun b b' i p hb hb' => g1.inj b b' i p (frzR_at hb).2 (frzR_at hb').2, fun b hb => frzR_free (g1.free b hb), fun _ _ _ _ => trivial, fun _ _ _ => trivial,
    fun b hb => ⟨frzR_prot (g1.prot b hb).1, (g1.prot b hb).2⟩, g1.size, g1.os, g1.tape, g1.output, g1.use, g1.frz⟩, ?_, fun t b ht hb => ?_⟩
  · have hid : id.1 = 2 := by
      unfold ioHp at hr
      split at hr
      · assumption
      · cases hr
    obtain ⟨u, hu'⟩ := g1.roots id r hr
    exact ⟨u, Own.move (fun b hb => ⟨frzR_prot hb, rfl⟩) _ [] [] u (fun b q hq => ⟨frzR_ne hq (by rw [hid]; omega), rfl⟩) hu'⟩
  · rcases h3 with ⟨o, sz, len, cs, rfl⟩ | ⟨xs, rfl⟩
    · simp only [ResOwn, Res1] at g2
      have := own_norm hu g2.2
      simp only [normR, norm] at this ⊢
      simp only [ResOwn, Res1]
      exact ⟨g2.1, this⟩
    · simp only [ResOwn, Res1] at g2
      obtain ⟨us, rfl, g2⟩ := g2
      simp only [normR, ResOwn, Res1]
      exact ⟨us, rfl, owns_norm hu g2⟩
  · obtain ⟨e1, e2⟩ := g3 t b ht hb
    exact ⟨frzR_ne e1 (by simp), e2⟩

theorem norm_Is (o : Bool) (xs : List Int) : normR (eIs o xs) = eIs false xs := by
  simp only [normR, norm]
  rw [normL_eI]
end

theorem gd_true {α : Type} [Decidable True] (x : α) : gd True x = some x := gd_pos trivial x
attribute [go_sem] gd_true
attribute [go_sem] Bool.and_true Bool.true_and Bool.and_self

/-! ### What is lent, at the start -/

theorem lnSlot_s (b sz len : Nat) (cs : List A) : lnSlot b (.s true sz len cs) = .ref (2, b) [] 0 0 sz len := rfl
theorem lnSlot_a (b : Nat) (xs : List A) : lnSlot b (.agg xs) = .agg (lnRefs b xs) := rfl
theorem lnRefs_n (b : Nat) : lnRefs b [] = [] := rfl
theorem lnRefs_t (b sz len : Nat) (cs xs : List A) : lnRefs b (.s true sz len cs :: xs) = .ref (2, b) [] 0 0 sz len :: lnRefs (b + 1) xs := rfl
theorem lnRefs_i (b : Nat) (k : IntKind) (n : Int) (xs : List A) : lnRefs b (.i k n :: xs) = .i k n :: lnRefs b xs := rfl
theorem lnRoots_n (b : Nat) (id : Id) : lnRoots b [] id = none := rfl
theorem lnRoots_t (b sz len : Nat) (cs xs : List A) (id : Id) : lnRoots b (.s true sz len cs :: xs) id = if id = (2, b) then some (newRoot sz len cs) else lnRoots (b + 1) xs id := rfl
theorem lnRoots_i (b : Nat) (k : IntKind) (n : Int) (xs : List A) (id : Id) : lnRoots b (.i k n :: xs) id = lnRoots b xs id := rfl
attribute [go_sem] lnSlot_s lnSlot_a lnRefs_n lnRefs_t lnRefs_i lnRoots_n lnRoots_t lnRoots_i
end Go.TM

/-! The tree machine, 41: arrays in arrays in a root; functions that hand parts of a struct on. -/
namespace Go.TM
set_option linter.unusedVariables false
set_option linter.unusedSimpArgs false

def ndd : Option A → Nat → Option (Nat × Nat × List A)
  | some (.s true _ _ cs), d => ndc cs[d]?
  | _, _ => none
def nd2 : Option Root → Nat → Nat → Nat → Option (Nat × Nat × List A)
  | some ⟨_, _, cs, v⟩, c, d, ver => gi (v c = ver) (ndd cs[c]? d)
  | none, _, _, _ => none
theorem getP_2 (a b : Nat) (cs : List A) (c d : Nat) : getP a b cs [c, d] = ndd cs[c]? d := by
  rw [getP]
  split <;> rename_i h
  · rw [h, getP_1]; rfl
  · cases hc : cs[c]? with
    | none => rfl
    | some x =>
      cases x with
      | s o sz len xs =>
        cases o with
        | true => exact (h _ _ _ hc).elim
        | false => rfl
      | _ => rfl
theorem node_2 (hp : Hp) (id : Id) (c d ver : Nat) : node hp id [c, d] ver = nd2 (hp id) c d ver := by
  unfold node nd2
  cases hp id with
  | none => rfl
  | some r =>
    simp only [verOk, beq_iff_eq, gi, getP_2]
theorem nd2_some (a b : Nat) (cs : List A) (v : Nat → Nat) (c d ver : Nat) : nd2 (some ⟨a, b, cs, v⟩) c d ver = gi (v c = ver) (ndd cs[c]? d) := rfl
theorem ndd_some (a b : Nat) (cs : List A) (d : Nat) : ndd (some (.s true a b cs)) d = ndc cs[d]? := rfl

section
variable {hp : Hp}
def cld (id : Id) (c d sz len a b : Nat) (cs : List A) (v : Nat → Nat) (s1 l1 : Nat) (ys : List A) : Option A → Cl1
  | some (.s true s l xs) => gi (s = sz ∧ l = len) (some (.s true sz len xs, [(id, some ⟨a, b, cs.set c (.s true s1 l1 (ys.set d .und)), v⟩)], [id]))
  | _ => none
def clcd (id : Id) (c d sz len a b : Nat) (cs : List A) (v : Nat → Nat) : Option A → Cl1
  | some (.s true s1 l1 ys) => cld id c d sz len a b cs v s1 l1 ys ys[d]?
  | _ => none
def cl2 (id : Id) (c d ver sz len : Nat) : Option Root → Cl1
  | some ⟨a, b, cs, v⟩ => gi (v c = ver) (clcd id c d sz len a b cs v cs[c]?)
  | none => none
theorem close_r2 (id : Id) (c d v sz len : Nat) : close1 hp (.ref id [c, d] v 0 sz len) = cl2 id c d v sz len (hp id) := by
  simp only [close1, cl2]
  cases hp id with
  | none => rfl
  | some r =>
    simp only [verOk, gi, beq_iff_eq, true_and, getP_2]
    split
    · cases hc : r.cs[c]? with
      | none => simp [clcd, ndd]
      | some x =>
        cases x with
        | s o s l xs =>
          cases o with
          | false => simp [clcd, ndd]
          | true =>
            simp only [clcd, ndd]
            cases hd : xs[d]? with
            | none => simp [cld, ndc]
            | some y =>
              cases y with
              | s o' s' l' xs' =>
                cases o' with
                | false => simp [cld, ndc]
                | true => simp [cld, ndc, gi, setC, hc]
              | _ => simp [cld, ndc]
        | _ => simp [clcd, ndd]
    · rfl
theorem cl2_s (id : Id) (c d ver sz len a b : Nat) (cs : List A) (v : Nat → Nat) : cl2 id c d ver sz len (some ⟨a, b, cs, v⟩) = gi (v c = ver) (clcd id c d sz len a b cs v cs[c]?) := rfl
theorem clcd_s (id : Id) (c d sz len a b : Nat) (cs : List A) (v : Nat → Nat) (s1 l1 : Nat) (ys : List A) : clcd id c d sz len a b cs v (some (.s true s1 l1 ys)) = cld id c d sz len a b cs v s1 l1 ys ys[d]? := rfl
theorem cld_s (id : Id) (c d sz len a b : Nat) (cs : List A) (v : Nat → Nat) (s1 l1 : Nat) (ys : List A) (s l : Nat) (xs : List A) : cld id c d sz len a b cs v s1 l1 ys (some (.s true s l xs)) =
    gi (s = sz ∧ l = len) (some (.s true sz len xs, [(id, some ⟨a, b, cs.set c (.s true s1 l1 (ys.set d .und)), v⟩)], [id])) := rfl
end

def modD (f : List A → List A) (c d : Nat) (cs : List A) : Option A → List A
  | some (.s true sz len xs) => cs.set c (.s true sz len (modC f d xs xs[d]?))
  | _ => cs
theorem modP_2 (f : List A → List A) (c d : Nat) (cs : List A) : modP f [c, d] cs = modD f c d cs cs[c]? := by
  rw [modP]
  split <;> rename_i h
  · rw [h, modP_1]; rfl
  · cases hc : cs[c]? with
    | none => rfl
    | some x =>
      cases x with
      | s o sz len xs =>
        cases o with
        | true => exact (h _ _ _ hc).elim
        | false => rfl
      | _ => rfl
theorem modD_s (f : List A → List A) (c d sz len : Nat) (cs xs : List A) : modD f c d cs (some (.s true sz len xs)) = cs.set c (.s true sz len (modC f d xs xs[d]?)) := rfl
attribute [go_sem] node_2 nd2_some ndd_some close_r2 cl2_s clcd_s cld_s modP_2 modD_s

/-! ### Functions that hand parts of a struct on -/

def oCC : Option A → Option (A × List (Id × Option Root))
  | some c => if slcA c = true then some (c, []) else none
  | none => none
def oCA : Option A → Nat → Option (A × List (Id × Option Root))
  | some v, k => oCC (cellsA v)[k]?
  | none, _ => none
theorem oC_arg (m idx : Nat) (args : List A) (j k : Nat) : outCell m idx args (.arg j k) = oCA args[j]? k := by
  simp only [outCell, oCA]
  cases args[j]? with
  | none => rfl
  | some v =>
    simp only
    cases (cellsA v)[k]? <;> rfl
theorem oCA_s (v : A) (k : Nat) : oCA (some v) k = oCC (cellsA v)[k]? := rfl
theorem oCC_s (o : Bool) (sz l : Nat) (cs : List A) : oCC (some (.s o sz l cs)) = some (.s o sz l cs, []) := rfl
theorem oCC_r (id : Id) (p : List Nat) (v off sz l : Nat) : oCC (some (.ref id p v off sz l)) = some (.ref id p v off sz l, []) := rfl
theorem oCC_some {x : Option A} {c : A} {u : List (Id × Option Root)} (h : oCC x = some (c, u)) : x = some c ∧ u = [] ∧ slcA c = true := by
  cases x with
  | none => simp [oCC] at h
  | some d =>
    simp only [oCC] at h
    split at h
    · cases h; exact ⟨rfl, rfl, by assumption⟩
    · cases h
theorem oC_nil (m idx : Nat) (args : List A) (sz : Nat) : outCell m idx args (.nil sz) = some (.s true sz 0 [], []) := rfl
theorem oC_empty (m idx : Nat) (args : List A) (sz : Nat) : outCell m idx args (.empty sz) = some (.ref (m, idx) [] 0 0 sz 0, [((m, idx), some (newRoot sz 0 []))]) := rfl
abbrev Ocs := Option (List A × List (Id × Option Root))
def oCK : Option (A × List (Id × Option Root)) → Ocs → Ocs
  | some (c, u), some (cs, us) => some (c :: cs, u ++ us)
  | _, _ => none
theorem oCs_n (m : Nat) (args : List A) (idx : Nat) : outCells m args idx [] = some ([], []) := rfl
theorem oCs_c (m : Nat) (args : List A) (idx : Nat) (o : Out) (os : List Out) : outCells m args idx (o :: os) = oCK (outCell m idx args o) (outCells m args (idx + 1) os) := by
  simp only [outCells, oCK]
  cases outCell m idx args o <;> first | rfl | (cases outCells m args (idx + 1) os <;> rfl)
theorem oCK_s (c : A) (u : List (Id × Option Root)) (cs : List A) (us : List (Id × Option Root)) : oCK (some (c, u)) (some (cs, us)) = some (c :: cs, u ++ us) := rfl
attribute [go_sem] caG_a oC_arg oCA_s oCC_s oCC_r oC_nil oC_empty oCs_n oCs_c oCK_s List.map_cons List.map_nil

section
variable {P : Program} {w0 w w' : World} {L0 L : Lab} {U : Nat → Prop} {hp : Hp} {m : Nat}

theorem contract_none {f : Nat} {M : Model} (h : ∀ args r outs, M.fn args = some (r, outs) → False) : Contract P f M :=
  ⟨fun _ _ _ _ _ _ _ hM => (h _ _ _ hM).elim, fun _ _ _ _ hM => (h _ _ _ hM).elim⟩

theorem kept_lab [Use] (h : HRel w0 L0 U hp w L) (k : Kept w w') {b : Nat} (hb : L b ≠ .free) : w'.heap[b]? = w.heap[b]? :=
  k.old b (own_isSome w L b h hb)

theorem HRel.kept [Use] (h : HRel w0 L0 U hp w L) (k : Kept w w') : HRel w0 L0 U hp w' L := by
  refine ⟨fun id r hr => ?_, h.inj, fun b hb => h.free b (Nat.le_trans k.size hb), h.used, h.usedR, fun b hb => ?_, Nat.le_trans h.size k.size, k.os.trans h.os, k.tape.trans h.tape, k.output.trans h.output, h.use, fun b c e f hb hc => ?_⟩
  · obtain ⟨u, hu⟩ := h.roots id r hr
    exact ⟨u, Own.move (fun b hb => ⟨hb, kept_lab h k (by rw [hb]; simp)⟩) _ [] [] u (fun b q hq => ⟨hq, kept_lab h k (by rw [hq]; simp)⟩) hu⟩
  · obtain ⟨h1, h2⟩ := h.prot b hb
    exact ⟨h1, (kept_lab h k (by rw [h1]; simp)).trans h2⟩
  · by_cases hlt : b < w.heap.size
    · rw [k.old b hlt] at hc
      exact h.frz b c e f hb hc
    · exact k.fresh b c e f (by omega) hc

theorem keeps_kept [Use] {U' : Nat → Prop} (h : HRel w0 L0 U hp w L) (k : Kept w w') (hU : ∀ k, U k → U' k) : Keeps U w L hp U' w' L hp := by
  refine ⟨hU, fun b hb => ⟨hb, kept_lab h k (by rw [hb]; simp)⟩, fun id r hr _ => ⟨r, hr, fun _ => Nat.le_refl _⟩, fun id path ver _ _ hn => ⟨hn, fun b hb => ⟨hb, fun cur e hc => ⟨cur, ?_, rfl⟩⟩⟩⟩
  rw [kept_lab h k (by rw [hb]; simp)]
  exact hc

/-- A new block without cells becomes the root (m, i). -/
theorem HRel.keptNew [Use] (h : HRel w0 L0 U hp w L) (k : Kept w w') (hm : ¬ U m) (i sz b et : Nat) (hb : w.heap.size ≤ b) (hw : w'.heap[b]? = some (.cells #[] et (0, 0))) :
    HRel w0 L0 (addU U m) (upd hp (m, i) (some (newRoot sz 0 []))) w' (upd L b (.at (m, i) [])) ∧ Keeps U w L hp (addU U m) w' (upd L b (.at (m, i) [])) (upd hp (m, i) (some (newRoot sz 0 []))) := by
  have hf : L b = .free := h.free b hb
  have hne : ∀ x, L x ≠ .free → upd L b (.at (m, i) []) x = L x ∧ w'.heap[x]? = w.heap[x]? := by
    intro x hx
    exact ⟨upd_ne _ _ _ _ (by rintro rfl; exact hx hf), kept_lab h k hx⟩
  have hlt : b < w'.heap.size := (Array.getElem?_eq_some_iff.1 hw).1
  have hm' : ∀ x p, L x ≠ .at (m, i) p := fun x p hx => hm (h.used x _ p hx)
  refine ⟨⟨fun id r hr => ?_, fun x x' id p hx hx' => ?_, fun x hx => ?_, fun x id p hx => ?_, fun id r hr => ?_, fun x hx => ?_, Nat.le_trans h.size k.size, k.os.trans h.os, k.tape.trans h.tape, k.output.trans h.output, h.use, fun x c e f hx hc => ?_⟩,
    keeps_root (fun j hj => .inl hj) hm fun x hx => hne x hx⟩
  · by_cases hid : id = (m, i)
    · subst hid
      rw [upd_same] at hr
      cases hr
      exact ⟨.slice none 0 0, by simp [Own, newRoot]⟩
    · rw [upd_ne _ _ _ _ hid] at hr
      obtain ⟨u, hu⟩ := h.roots id r hr
      refine ⟨u, Own.move (fun x hx => ?_) _ [] [] u (fun x q hq => ?_) hu⟩
      · have := hne x (by rw [hx]; simp)
        exact ⟨this.1.trans hx, this.2⟩
      · have := hne x (by rw [hq]; simp)
        exact ⟨this.1.trans hq, this.2⟩
  · by_cases h1 : x = b
    · subst h1
      by_cases h2 : x' = x
      · exact h2.symm
      · rw [upd_same] at hx
        rw [upd_ne _ _ _ _ h2] at hx'
        cases hx
        exact (hm' _ _ hx').elim
    · rw [upd_ne _ _ _ _ h1] at hx
      by_cases h2 : x' = b
      · subst h2
        rw [upd_same] at hx'
        cases hx'
        exact (hm' _ _ hx).elim
      · rw [upd_ne _ _ _ _ h2] at hx'
        exact h.inj x x' id p hx hx'
  · rw [upd_ne _ _ _ _ (by omega)]
    exact h.free x (Nat.le_trans k.size hx)
  · by_cases h1 : x = b
    · subst h1
      rw [upd_same] at hx
      cases hx
      exact .inr rfl
    · rw [upd_ne _ _ _ _ h1] at hx
      exact .inl (h.used x id p hx)
  · by_cases hid : id = (m, i)
    · subst hid
      exact .inr rfl
    · rw [upd_ne _ _ _ _ hid] at hr
      exact .inl (h.usedR id r hr)
  · obtain ⟨h1, h2⟩ := h.prot x hx
    have := hne x (by rw [h1]; simp)
    exact ⟨this.1.trans h1, this.2.trans h2⟩
  · by_cases hl : x < w.heap.size
    · rw [k.old x hl] at hc
      exact h.frz x c e f hx hc
    · exact k.fresh x c e f (by omega) hc

theorem repL_at [Use] : ∀ {xs : List A} {us : List Value} {k : Nat} {c : A}, RepL U w L hp xs us → xs[k]? = some c → ∃ u, us[k]? = some u ∧ Rep U w L hp c u
  | x :: xs, u :: us, 0, c, h, hk => by
    simp only [RepL] at h
    simp at hk
    exact ⟨u, by simp, hk ▸ h.1⟩
  | x :: xs, u :: us, k + 1, c, h, hk => by
    simp only [RepL] at h
    obtain ⟨v, h1, h2⟩ := repL_at (k := k) h.2 (by simpa using hk)
    exact ⟨v, by simpa using h1, h2⟩
  | [], _, _, _, _, hk => by simp at hk
  | _ :: _, [], _, _, h, _ => by simp [RepL] at h

theorem outs_args {v : A} {m : Nat} : ∀ {ks : List Nat} {idx : Nat} {cs : List A} {ups : List (Id × Option Root)}, outCells m [v] idx (ks.map (Out.arg 0)) = some (cs, ups) → ups = [] ∧ cs.length = ks.length ∧ ∀ (j : Nat) c, cs[j]? = some c → ∃ k, ks[j]? = some k ∧ (cellsA v)[k]? = some c ∧ slcA c = true
  | [], idx, cs, ups, h => by
    simp only [List.map_nil, outCells, Option.some.injEq, Prod.mk.injEq] at h
    obtain ⟨rfl, rfl⟩ := h
    exact ⟨rfl, rfl, fun j c hc => by simp at hc⟩
  | k :: ks, idx, cs, ups, h => by
    rw [List.map_cons, oCs_c] at h
    rw [oC_arg] at h
    simp only [List.getElem?_cons_zero, oCA_s] at h
    cases hc : oCC (cellsA v)[k]? with
    | none => rw [hc] at h; simp [oCK] at h
    | some y =>
      obtain ⟨c, u⟩ := y
      rw [hc] at h
      obtain ⟨hc1, rfl, hc2⟩ := oCC_some hc
      cases ho : outCells m [v] (idx + 1) (ks.map (Out.arg 0)) with
      | none => rw [ho] at h; simp [oCK] at h
      | some x =>
        obtain ⟨cs', ups'⟩ := x
        obtain ⟨e1, e2, e3⟩ := outs_args ho
        subst e1
        rw [ho] at h
        simp only [oCK_s, List.append_nil, Option.some.injEq, Prod.mk.injEq] at h
        obtain ⟨rfl, rfl⟩ := h
        refine ⟨rfl, by simp [e2], fun j c' hc' => ?_⟩
        cases j with
        | zero => simp at hc'; exact ⟨k, by simp, hc' ▸ hc1, hc' ▸ hc2⟩
        | succ j => simpa using e3 j c' (by simpa using hc')

/-- A slice's value. -/
theorem rep_slc [Use] {c : A} {u : Value} (hs : slcA c = true) (h : Rep U w L hp c u) : ∃ ao l cp, u = .slice ao l cp := by
  cases c with
  | s o sz len cs =>
    cases o with
    | true =>
      simp only [Rep] at h
      exact ⟨_, _, _, h.1⟩
    | false =>
      simp only [Rep, Imm] at h
      obtain ⟨ao, cap, h1, _⟩ := h
      exact ⟨_, _, _, h1⟩
  | ref id p v off sz len =>
    simp only [Rep] at h
    obtain ⟨_, _, ao, cap, h1, _⟩ := h
    exact ⟨_, _, _, h1⟩
  | _ => simp [slcA] at hs
theorem repL_slc [Use] {xs : List A} {ua : Array Value} {ks : List Nat} {cs : List A} (hxu : RepL U w L hp xs ua.toList) (hl : cs.length = ks.length) (hcs : ∀ (j : Nat) c, cs[j]? = some c → ∃ k, ks[j]? = some k ∧ xs[k]? = some c ∧ slcA c = true) : ∀ k ∈ ks, ∃ ao l cp, ua.getD k undef = .slice ao l cp := by
  intro k hk
  obtain ⟨j, hj, rfl⟩ := List.getElem_of_mem hk
  obtain ⟨k', h1, h2, h3⟩ := hcs j cs[j] (List.getElem?_eq_getElem (by omega))
  rw [List.getElem?_eq_getElem hj, Option.some.injEq] at h1
  rw [h1]
  obtain ⟨u, h4, h5⟩ := repL_at hxu h2
  obtain ⟨ao, l, cp, rfl⟩ := rep_slc h3 h5
  refine ⟨ao, l, cp, ?_⟩
  rw [Array.getElem?_toList] at h4
  simp [Array.getD_eq_getD_getElem?, h4]

theorem repL_mk [Use] : ∀ {cs : List A} {us : List Value}, cs.length = us.length → (∀ (j : Nat) c, cs[j]? = some c → ∃ u, us[j]? = some u ∧ Rep U w L hp c u) → RepL U w L hp cs us
  | [], [], _, _ => by simp [RepL]
  | c :: cs, u :: us, hl, h => by
    simp only [RepL]
    obtain ⟨u', h1, h2⟩ := h 0 c (by simp)
    simp at h1
    subst h1
    exact ⟨h2, repL_mk (by simpa using hl) fun j c' hc' => by simpa using h (j + 1) c' (by simpa using hc')⟩
  | [], _ :: _, hl, _ => by simp at hl
  | _ :: _, [], hl, _ => by simp at hl

/-- The only argument is a struct of n cells. -/
theorem one_struct [Use] {n : Nat} (hn : 2 ≤ n) {vs : List A} {us : List Value} (hr : RepL U w L hp vs us) (har : (vs.map fun a => (cellsA a).length) = [n]) :
    ∃ (xs : List A) (ua : Array Value), vs = [.agg xs] ∧ us = [.agg ua] ∧ xs.length = n ∧ ua.size = n ∧ RepL U w L hp xs ua.toList := by
  match vs, us, hr, har with
  | [v], [u], hr, har =>
    simp only [List.map_cons, List.map_nil, List.cons.injEq, and_true] at har
    simp only [RepL, and_true] at hr
    cases v with
    | agg xs =>
      simp only [Rep] at hr
      obtain ⟨ua, rfl, h2⟩ := hr
      have hl := repL_len h2
      simp only [cellsA] at har
      exact ⟨xs, ua, rfl, rfl, har, by simpa [har] using hl.symm, h2⟩
    | _ => simp only [cellsA, List.length_singleton] at har; omega
  | [], _, _, har => simp at har
  | _ :: _ :: _, _, _, har => simp at har
  | [_], [], hr, _ => simp [RepL] at hr
  | [_], _ :: _ :: _, hr, _ => simp [RepL] at hr

/-- From a walk by hand: a struct's parts are handed on. -/
theorem alias_of_kept {f n : Nat} {ks : List Nat} (hn : 2 ≤ n) (h : ∀ (w : World) (us : Array Value), us.size = n → (∀ k ∈ ks, ∃ ao l cp, us.getD k undef = .slice ao l cp) → Calls P f #[.agg us] w fun e w' => e = .returned (.agg (ks.map fun k => us.getD k undef).toArray) ∧ Kept w w') : AliasOk P f [n] (ks.map (Out.arg 0)) := by
  intro B w0 L0 U hp w L vs us m hh hr hm har cs ups ho
  letI := B
  obtain ⟨xs, ua, rfl, rfl, hx, hu, hxu⟩ := one_struct hn hr har
  obtain ⟨rfl, hl, hcs⟩ := outs_args ho
  have hsl := repL_slc hxu hl hcs
  unfold CallOk
  refine (h w ua hu hsl).mono fun e w' hp' => ?_
  obtain ⟨rfl, hk⟩ := hp'
  have hK := keeps_kept (U' := addU U m) hh hk (fun j hj => .inl hj)
  refine ⟨_, L, rfl, (hh.kept hk).mono fun j hj => .inl hj, hK, Rep.mono hK _ _ ?_⟩
  simp only [Rep]
  refine ⟨_, rfl, repL_mk (by simp [hl]) fun j c hc => ?_⟩
  obtain ⟨k, h1, h2, _⟩ := hcs j c hc
  simp only [cellsA] at h2
  obtain ⟨u, h3, h4⟩ := repL_at hxu h2
  refine ⟨u, ?_, h4⟩
  rw [List.getElem?_map, h1]
  rw [Array.getElem?_toList] at h3
  simp [Array.getD_eq_getD_getElem?, h3]

/-- .. with a nil slice behind them. -/
theorem alias_of_kept_nil {f n sz : Nat} {ks : List Nat} (hn : 2 ≤ n) (h : ∀ (w : World) (us : Array Value), us.size = n → (∀ k ∈ ks, ∃ ao l cp, us.getD k undef = .slice ao l cp) → Calls P f #[.agg us] w fun e w' => e = .returned (.agg ((ks.map fun k => us.getD k undef) ++ [Value.slice none 0 0]).toArray) ∧ Kept w w') : AliasOk P f [n] (ks.map (Out.arg 0) ++ [.nil sz]) := by
  intro B w0 L0 U hp w L vs us m hh hr hm har cs ups ho
  letI := B
  obtain ⟨xs, ua, rfl, rfl, hx, hu, hxu⟩ := one_struct hn hr har
  have split : ∀ (ks : List Nat) (idx : Nat) (cs : List A) (ups : List (Id × Option Root)), outCells m [.agg xs] idx (ks.map (Out.arg 0) ++ [.nil sz]) = some (cs, ups) →
      ∃ cs1, outCells m [.agg xs] idx (ks.map (Out.arg 0)) = some (cs1, []) ∧ cs = cs1 ++ [.s true sz 0 []] ∧ ups = [] := by
    intro ks
    induction ks with
    | nil =>
      intro idx cs ups h
      simp only [List.map_nil, List.nil_append, oCs_c, oC_nil, oCs_n, oCK_s, Option.some.injEq, Prod.mk.injEq] at h
      obtain ⟨rfl, rfl⟩ := h
      exact ⟨[], rfl, rfl, rfl⟩
    | cons k ks ih =>
      intro idx cs ups h
      rw [List.map_cons, List.cons_append, oCs_c, oC_arg] at h
      simp only [List.getElem?_cons_zero, oCA_s] at h
      cases hc : oCC (cellsA (.agg xs))[k]? with
      | none => rw [hc] at h; simp [oCK] at h
      | some y =>
        obtain ⟨c, uu⟩ := y
        rw [hc] at h
        obtain ⟨hc1, rfl, hc2⟩ := oCC_some hc
        cases ho : outCells m [.agg xs] (idx + 1) (ks.map (Out.arg 0) ++ [.nil sz]) with
        | none => rw [ho] at h; simp [oCK] at h
        | some x =>
          obtain ⟨cs', ups'⟩ := x
          obtain ⟨cs1, e1, e2, e3⟩ := ih _ _ _ ho
          rw [ho] at h
          simp only [oCK_s, List.nil_append, Option.some.injEq, Prod.mk.injEq] at h
          obtain ⟨rfl, rfl⟩ := h
          refine ⟨c :: cs1, ?_, ?_, e3⟩
          · rw [List.map_cons, oCs_c, oC_arg, e1]
            simp only [List.getElem?_cons_zero, oCA_s, hc, oCK_s, List.append_nil]
          · rw [e2]; rfl
  obtain ⟨cs1, e1, rfl, rfl⟩ := split ks 0 cs ups ho
  obtain ⟨_, hl, hcs⟩ := outs_args e1
  have hsl := repL_slc hxu hl hcs
  unfold CallOk
  refine (h w ua hu hsl).mono fun e w' hp' => ?_
  obtain ⟨rfl, hk⟩ := hp'
  have hK := keeps_kept (U' := addU U m) hh hk (fun j hj => .inl hj)
  refine ⟨_, L, rfl, (hh.kept hk).mono fun j hj => .inl hj, hK, Rep.mono hK _ _ ?_⟩
  simp only [Rep]
  refine ⟨_, rfl, repL_mk (by simp [hl]) fun j c hc => ?_⟩
  rcases Nat.lt_or_ge j cs1.length with hj | hj
  · rw [List.getElem?_append_left hj] at hc
    obtain ⟨k, h1, h2, _⟩ := hcs j c hc
    simp only [cellsA] at h2
    obtain ⟨u, h3, h4⟩ := repL_at hxu h2
    refine ⟨u, ?_, h4⟩
    rw [List.getElem?_append_left (by simpa [← hl] using hj), List.getElem?_map, h1]
    rw [Array.getElem?_toList] at h3
    simp [Array.getD_eq_getD_getElem?, h3]
  · rw [List.getElem?_append_right hj] at hc
    have hj0 : j - cs1.length = 0 := by
      rcases Nat.eq_zero_or_pos (j - cs1.length) with h0 | h0
      · exact h0
      · rw [List.getElem?_eq_none (by simp only [List.length_singleton]; omega)] at hc
        cases hc
    rw [hj0] at hc
    simp only [List.getElem?_cons_zero, Option.some.injEq] at hc
    subst hc
    refine ⟨.slice none 0 0, ?_, by simp only [Rep]; exact ⟨trivial, trivial, trivial⟩⟩
    rw [List.getElem?_append_right (by simp only [List.length_map]; omega)]
    simp only [List.length_map, ← hl, hj0, List.getElem?_cons_zero]

/-- .. with a new empty slice behind them. -/
theorem alias_of_kept_empty {f n sz : Nat} {ks : List Nat} (hn : 2 ≤ n) (h : ∀ (w : World) (us : Array Value), us.size = n → (∀ k ∈ ks, ∃ ao l cp, us.getD k undef = .slice ao l cp) → Calls P f #[.agg us] w fun e w' => ∃ b et, w.heap.size ≤ b ∧ w'.heap[b]? = some (.cells #[] et (0, 0)) ∧
      e = .returned (.agg ((ks.map fun k => us.getD k undef) ++ [Value.slice (some ⟨b, 0, none⟩) 0 0]).toArray) ∧ Kept w w') : AliasOk P f [n] (ks.map (Out.arg 0) ++ [.empty sz]) := by
  intro B w0 L0 U hp w L vs us m hh hr hm har cs ups ho
  letI := B
  obtain ⟨xs, ua, rfl, rfl, hx, hu, hxu⟩ := one_struct hn hr har
  have split : ∀ (ks : List Nat) (idx : Nat) (cs : List A) (ups : List (Id × Option Root)), outCells m [.agg xs] idx (ks.map (Out.arg 0) ++ [.empty sz]) = some (cs, ups) →
      ∃ cs1, outCells m [.agg xs] idx (ks.map (Out.arg 0)) = some (cs1, []) ∧ cs = cs1 ++ [.ref (m, idx + ks.length) [] 0 0 sz 0] ∧ ups = [((m, idx + ks.length), some (newRoot sz 0 []))] := by
    intro ks
    induction ks with
    | nil =>
      intro idx cs ups h
      simp only [List.map_nil, List.nil_append, oCs_c, oC_empty, oCs_n, oCK_s, Option.some.injEq, Prod.mk.injEq] at h
      obtain ⟨rfl, rfl⟩ := h
      exact ⟨[], rfl, rfl, rfl⟩
    | cons k ks ih =>
      intro idx cs ups h
      rw [List.map_cons, List.cons_append, oCs_c, oC_arg] at h
      simp only [List.getElem?_cons_zero, oCA_s] at h
      cases hc : oCC (cellsA (.agg xs))[k]? with
      | none => rw [hc] at h; simp [oCK] at h
      | some y =>
        obtain ⟨c, uu⟩ := y
        rw [hc] at h
        obtain ⟨hc1, rfl, hc2⟩ := oCC_some hc
        cases ho : outCells m [.agg xs] (idx + 1) (ks.map (Out.arg 0) ++ [.empty sz]) with
        | none => rw [ho] at h; simp [oCK] at h
        | some x =>
          obtain ⟨cs', ups'⟩ := x
          obtain ⟨cs1, e1, e2, e3⟩ := ih _ _ _ ho
          rw [ho] at h
          simp only [oCK_s, List.nil_append, Option.some.injEq, Prod.mk.injEq] at h
          obtain ⟨rfl, rfl⟩ := h
          refine ⟨c :: cs1, ?_, ?_, ?_⟩
          · rw [List.map_cons, oCs_c, oC_arg, e1]
            simp only [List.getElem?_cons_zero, oCA_s, hc, oCK_s, List.append_nil]
          · rw [e2, List.length_cons, show idx + 1 + ks.length = idx + (ks.length + 1) from by omega]; rfl
          · rw [e3, List.length_cons, show idx + 1 + ks.length = idx + (ks.length + 1) from by omega]
  obtain ⟨cs1, e1, rfl, rfl⟩ := split ks 0 cs ups ho
  obtain ⟨_, hl, hcs⟩ := outs_args e1
  have hsl := repL_slc hxu hl hcs
  unfold CallOk
  refine (h w ua hu hsl).mono fun e w' hp' => ?_
  obtain ⟨b, et, hb, hw, rfl, hk⟩ := hp'
  obtain ⟨g1, g2⟩ := HRel.keptNew hh hk hm (0 + ks.length) sz b et hb hw
  refine ⟨_, _, rfl, by rw [applyH_one]; exact g1, by rw [applyH_one]; exact g2, ?_⟩
  rw [applyH_one]
  simp only [Rep]
  refine ⟨_, rfl, repL_mk (by simp [hl]) fun j c hc => ?_⟩
  rcases Nat.lt_or_ge j cs1.length with hj | hj
  · rw [List.getElem?_append_left hj] at hc
    obtain ⟨k, h1, h2, _⟩ := hcs j c hc
    simp only [cellsA] at h2
    obtain ⟨u, h3, h4⟩ := repL_at hxu h2
    refine ⟨u, ?_, Rep.mono g2 _ _ h4⟩
    rw [List.getElem?_append_left (by simpa [← hl] using hj), List.getElem?_map, h1]
    rw [Array.getElem?_toList] at h3
    simp [Array.getD_eq_getD_getElem?, h3]
  · rw [List.getElem?_append_right hj] at hc
    have hj0 : j - cs1.length = 0 := by
      rcases Nat.eq_zero_or_pos (j - cs1.length) with h0 | h0
      · exact h0
      · rw [List.getElem?_eq_none (by simp only [List.length_singleton]; omega)] at hc
        cases hc
    rw [hj0] at hc
    simp only [List.getElem?_cons_zero, Option.some.injEq] at hc
    subst hc
    refine ⟨.slice (some ⟨b, 0, none⟩) 0 0, ?_, rep_newref (cap := 0) (e := et) (.inr rfl) (upd_same ..) hw (by simp) (Nat.le_refl _) (by decide)⟩
    rw [List.getElem?_append_right (by simp only [List.length_map]; omega)]
    simp only [List.length_map, ← hl, hj0, List.getElem?_cons_zero]
end
end Go.TM

/-! The tree machine, 42: a call that is lent an array, and the end of a walk by hand that has lent arrays. -/
namespace Go.TM
set_option linter.unusedVariables false
set_option linter.unusedSimpArgs false

/-! ### What a drawn region owes, as a proposition -/

theorem drP_n (log : Log) : (drawB [] log = true) = True := by simp [drawB]
theorem drP_c (i j : Nat) (ps : List (Nat × Nat)) (log : Log) : (drawB ((i, j) :: ps) log = true) = (disP (logAt log i).1 ((logAt log j).1 ++ (logAt log j).2) ∧ drawB ps log = true) := by
  simp only [drawB, List.all_cons, Bool.and_eq_true, disP_iff]
theorem logAt_n (i : Nat) : logAt [] i = ([], []) := rfl
theorem logAt_c (i j : Nat) (u r : List Id) (rest : Log) : logAt ((j, u, r) :: rest) i = if j = i then (u, r) else logAt rest i := rfl

section
variable {P : Program} {T : Nat → Option TI} {w0 w w' : World} {L0 L L' : Lab} {U : Nat → Prop} {hp : Hp} {m : Nat}

/-- A new block that is only read from here on. -/
theorem HRel.keptProt [Use] (h : HRel w0 L0 U hp w L) (k : Kept w w') {b : Nat} (hb : w.heap.size ≤ b) (hlt : b < w'.heap.size) : HRel w0 L0 U hp w' (upd L b .prot) ∧ Keeps U w L hp U w' (upd L b .prot) hp := by
  have hf : L b = .free := h.free b hb
  have hne : ∀ x, L x ≠ .free → upd L b .prot x = L x ∧ w'.heap[x]? = w.heap[x]? := by
    intro x hx
    exact ⟨upd_ne _ _ _ _ (by rintro rfl; exact hx hf), kept_lab h k hx⟩
  have hat : ∀ x i p, upd L b .prot x = .at i p → L x = .at i p := by
    intro x i p hx
    by_cases h1 : x = b
    · subst h1; rw [upd_same] at hx; cases hx
    · rwa [upd_ne _ _ _ _ h1] at hx
  refine ⟨⟨fun id r hr => ?_, fun x x' id p hx hx' => h.inj x x' id p (hat _ _ _ hx) (hat _ _ _ hx'), fun x hx => ?_, fun x id p hx => h.used x id p (hat _ _ _ hx), h.usedR, fun x hx => ?_, Nat.le_trans h.size k.size, k.os.trans h.os, k.tape.trans h.tape, k.output.trans h.output, h.use, fun x c e f hx hc => ?_⟩,
    ⟨fun _ h => h, fun x hx => ?_, fun id r hr _ => ⟨r, hr, fun _ => Nat.le_refl _⟩, fun id path ver _ _ hn => ⟨hn, fun x hx => ?_⟩⟩⟩
  · obtain ⟨u, hu⟩ := h.roots id r hr
    refine ⟨u, Own.move (fun x hx => ?_) _ [] [] u (fun x q hq => ?_) hu⟩
    · have := hne x (by rw [hx]; simp)
      exact ⟨this.1.trans hx, this.2⟩
    · have := hne x (by rw [hq]; simp)
      exact ⟨this.1.trans hq, this.2⟩
  · rw [upd_ne _ _ _ _ (by omega)]
    exact h.free x (Nat.le_trans k.size hx)
  · obtain ⟨h1, h2⟩ := h.prot x hx
    have := hne x (by rw [h1]; simp)
    exact ⟨this.1.trans h1, this.2.trans h2⟩
  · by_cases hl : x < w.heap.size
    · rw [k.old x hl] at hc
      exact h.frz x c e f hx hc
    · exact k.fresh x c e f (by omega) hc
  · have := hne x (by rw [hx]; simp)
    exact ⟨this.1.trans hx, this.2⟩
  · have := hne x (by rw [hx]; simp)
    exact ⟨this.1.trans hx, fun cur e hc => ⟨cur, by rw [this.2]; exact hc, rfl⟩⟩

/-- The labels of one instance are given up. -/
def dropI (L : Lab) (m : Nat) : Lab := fun b => match L b with
  | .at i p => if i.1 = m then .free else .at i p
  | .prot => .prot
  | .free => .free
theorem dropI_at {i : Id} {b : Nat} {p : List Nat} (h : dropI L m b = .at i p) : i.1 ≠ m ∧ L b = .at i p := by
  unfold dropI at h
  split at h
  · split at h
    · cases h
    · cases h; exact ⟨by assumption, by assumption⟩
  · cases h
  · cases h
theorem dropI_ne {i : Id} {b : Nat} {p : List Nat} (h : L b = .at i p) (hi : i.1 ≠ m) : dropI L m b = .at i p := by simp [dropI, h, hi]
theorem dropI_prot {b : Nat} (h : L b = .prot) : dropI L m b = .prot := by simp [dropI, h]
theorem dropI_free {b : Nat} (h : L b = .free) : dropI L m b = .free := by simp [dropI, h]

theorem HRel.drop [Use] (h : HRel w0 L0 (addU U m) hp w L) (hm : ¬ U m) (hn : ∀ k, hp (m, k) = none) : HRel w0 L0 U hp w (dropI L m) := by
  have hid : ∀ id r, hp id = some r → id.1 ≠ m := by
    rintro ⟨a, b⟩ r hr rfl
    rw [hn b] at hr
    cases hr
  have hU : ∀ k, addU U m k → k ≠ m → U k := by
    rintro k (h | h) hk
    · exact h
    · exact (hk h).elim
  refine ⟨fun id r hr => ?_, fun b b' i p hb hb' => h.inj b b' i p (dropI_at hb).2 (dropI_at hb').2, fun b hb => dropI_free (h.free b hb), fun b i p hb => hU _ (h.used b i p (dropI_at hb).2) (dropI_at hb).1, fun id r hr => hU _ (h.usedR id r hr) (hid id r hr),
    fun b hb => ⟨dropI_prot (h.prot b hb).1, (h.prot b hb).2⟩, h.size, h.os, h.tape, h.output, h.use, h.frz⟩
  obtain ⟨u, hu⟩ := h.roots id r hr
  exact ⟨u, Own.move (fun b hb => ⟨dropI_prot hb, rfl⟩) _ [] [] u (fun b q hq => ⟨dropI_ne hq (hid id r hr), rfl⟩) hu⟩

theorem Keeps.drop [Use] {hp' : Hp} (h : Keeps U w L hp (addU U m) w' L' hp') (hm : ¬ U m) : Keeps U w L hp U w' (dropI L' m) hp' := by
  refine ⟨fun _ h => h, fun b hb => ⟨dropI_prot (h.prot b hb).1, (h.prot b hb).2⟩, h.root, fun id path ver hu hv hn => ?_⟩
  obtain ⟨h1, h2⟩ := h.node id path ver hu hv hn
  refine ⟨h1, fun b hb => ?_⟩
  obtain ⟨h3, h4⟩ := h2 b hb
  exact ⟨dropI_ne h3 (by rintro rfl; exact hm hu), h4⟩

/-- A call that is lent an array. -/
theorem lend_step [B : Use] {g : Nat} {M : Model} (hf : FnOk P g) (hC : Contract P g M) (h : HRel w0 L0 U hp w L) (hm : ¬ U m) {r : A} {k v : Int} {id : Id} {rt : Root} {u : Value}
    (hu : Rep U w L hp r u) (hk : (Lit.int .i64 k).wf = true) (hl : lendA hp M r k = some (v, id, rt)) :
    Calls P g #[u, .int .i64 k] w fun e w' => e = .returned (.int .i64 v) ∧ (Lit.int .i64 v).wf = true ∧ ∃ L', HRel w0 L0 U (upd hp id (some rt)) w' L' ∧ Keeps U w L hp U w' L' (upd hp id (some rt)) := by
  have hG : GOk P (tabG [(g, .model M)]) := gok_model hf hC gok_nil
  unfold lendA at hl
  split at hl
  · rename_i c e hln
    split at hl
    · rename_i v' cs r0 hM hr0
      split at hl
      · rename_i x hx
        split at hl
        · rename_i hc
          obtain ⟨hc1, hks⟩ := hc
          cases hl
          have hca : callA (tabG [(g, .model M)]) m g [r, eI k] hp = some ⟨eI v, [(e.1, some (lentRoot r0 e.2 cs))], [e.1]⟩ := by
            simp [callA, tabG, hks, mvsOf, closeL, applyH, contsOf, hln, snap, snap1, nodupB, disjB, hM, outsOf, hr0, hx, hc1, plant, plant1, plantL, rootRef, rootOf]
          have hv : RepL U w L hp [r, eI k] [u, .int .i64 k] := by
            simp only [RepL, and_true]
            refine ⟨hu, ?_⟩
            simp only [Rep]
            exact ⟨trivial, hk⟩
          refine (eff_call hG h hm hv hca).mono fun en w' hp' => ?_
          obtain ⟨v1, L', rfl, h1, h2, h3⟩ := hp'
          rw [applyH_one] at h1 h2
          simp only [Rep] at h3
          refine ⟨by rw [h3.1], h3.2, dropI L' m, h1.drop hm fun j => ?_, h2.drop hm⟩
          have hid := h.usedR _ _ hr0
          by_cases he : (m, j) = e.1
          · exfalso
            rw [← he] at hid
            exact hm hid
          · rw [upd_ne _ _ _ _ he]
            cases hj : hp (m, j) with
            | none => rfl
            | some q => exact (hm (h.usedR _ _ hj)).elim
        · cases hl
      · cases hl
    · cases hl
  · cases hl

theorem eachC_args {M : Model} {ar : Nat} {js : List Nat} {vs : List A} {e : Eff} (h : eachC M ar js hp vs = some e) : ∃ xs k, vs = [.agg xs, eI k] ∧ xs.length = ar ∧ eachA M xs js k hp = some e := by
  unfold eachC at h
  split at h
  · split at h
    · exact ⟨_, _, rfl, by assumption, h⟩
    · cases h
  · cases h

theorem eachA_inv {M : Model} {xs : List A} {j : Nat} {js : List Nat} {k : Int} {e : Eff} (h : eachA M xs (j :: js) k hp = some e) :
    ∃ r v id rt e1, xs[j]? = some r ∧ lendA hp M r k = some (v, id, rt) ∧ eachA M xs js v (upd hp id (some rt)) = some e1 ∧ e = ⟨e1.val, (id, some rt) :: e1.ups, id :: e1.rd⟩ := by
  unfold eachA at h
  split at h
  · rename_i r hr
    split at h
    · rename_i v id rt hl
      rw [Option.map_eq_some_iff] at h
      obtain ⟨e1, h1, h2⟩ := h
      exact ⟨r, v, id, rt, e1, hr, hl, h1, h2.symm⟩
    · cases h
  · cases h

/-- The end of such a walk. -/
theorem each_end [B : Use] {hp' : Hp} {v : Int} {ups : List (Id × Option Root)} (h : HRel w0 L0 U hp' w' L') (hk : Keeps U w L hp U w' L' hp') (hv : (Lit.int .i64 v).wf = true) (ha : hp' = applyH hp ups) :
    ∃ v1 L', Ending.returned (Value.int .i64 v) = .returned v1 ∧ HRel w0 L0 (addU U m) (applyH hp ups) w' L' ∧ Keeps U w L hp (addU U m) w' L' (applyH hp ups) ∧ Rep (addU U m) w' L' (applyH hp ups) (eI v) v1 := by
  subst ha
  refine ⟨_, L', rfl, h.mono fun j hj => .inl hj, hk.trans (keeps_ups [] (by simp) fun j hj => .inl hj), ?_⟩
  simp only [Rep]
  exact ⟨trivial, hv⟩

/-- A struct and a number, as they are given. -/
theorem each_vals [B : Use] {xs : List A} {k : Int} {us : List Value} (h : RepL U w L hp [.agg xs, eI k] us) : ∃ ua : Array Value, us = [.agg ua, .int .i64 k] ∧ RepL U w L hp xs ua.toList ∧ (Lit.int .i64 k).wf = true := by
  match us, h with
  | [u, v], h =>
    simp only [RepL, Rep, and_true] at h
    obtain ⟨⟨ua, rfl, h1⟩, rfl, h2⟩ := h
    exact ⟨ua, rfl, h1, h2⟩
  | [], h => simp [RepL] at h
  | [_], h => simp [RepL] at h
  | _ :: _ :: _ :: _, h => simp [RepL] at h

theorem cell_box (w : World) (vs : Array Value) (t : TypeId) (k : Nat) (v : Value) (h : vs[k]? = some v) : (w.alloc (.cells vs t)).cell? ⟨w.heap.size, k, none⟩ = some v := by
  have e := @heap_alloc_eq topU w (.cells vs t)
  simp only [World.cell?, e]
  exact h

/-- The end of a walk by hand. -/
theorem mark_end [B : Use] (hT : TabOk P T) {hpB : Hp} {n : Nat} {shs : List (Nat × Nat)} {r : Int} {outs : List (List A)} (h : HRel w0 L0 (ltN n) hp w L) (hk : Keeps (ltN 3) w0 L0 hpB (ltN n) w L hp) (hr : (Lit.int .i64 r).wf = true) (ho : iosOf hp 0 shs = some outs) :
    Post w0 L0 shs (eI r) outs (.returned (.int .i64 r)) w := by
  have hat : At w0 L0 hpB 1 ⟨fun t => if t = 0 then eI r else .und, hp, n⟩ ⟨#[.int .i64 r], []⟩ w L := by
    refine ⟨h, fun t => ?_, rfl, rfl, hk⟩
    by_cases ht : t = 0
    · subst ht
      simp only [if_true, Rep]
      exact ⟨rfl, hr⟩
    · simp only [if_neg ht, Rep]
  obtain ⟨us, h1, h2⟩ := body_end (rs := [.tmp 0]) (r := eI r) (outs := outs) (shs := shs) hT hat (by
    simp [finalA, ressOf, resOf, finV, flatA, cellsA, frzL, frz1, applyH, closeL, close1, regroup, tupOf, ho])
  match us, h1, h2 with
  | [u], h1, h2 =>
    simp only [ResL, ResAt, and_true] at h1
    rw [show tupV [u] = u from rfl] at h2
    rw [show u = .int .i64 r from by simpa using h1] at h2
    exact h2
  | [], h1, _ => simp [ResL] at h1
  | _ :: _ :: _, h1, _ => simp [ResL] at h1
end

/-! ### Running such a call -/

def lnE (M : Model) (k : Int) (hp : Hp) : Option (A × List (Id × List Nat)) → Option (Int × Id × Root)
  | some (c, [e]) => match M.fn [c, .i .i64 k], hp e.1 with
    | some (.i .i64 v, [cs]), some r0 => match getP r0.sz r0.len r0.cs e.2 with
      | some x => if cs.length = x.2.2.length ∧ M.kinds = [.ln 1, .ro] then some (v, e.1, lentRoot r0 e.2 cs) else none
      | none => none
    | _, _ => none
  | _ => none
theorem lendA_eq (hp : Hp) (M : Model) (r : A) (k : Int) : lendA hp M r k = lnE M k hp (lnVal hp r) := rfl
def lnF (M : Model) (e : Id × List Nat) : Option (A × List (List A)) → Option Root → Option (Int × Id × Root)
  | some (.i .i64 v, [cs]), some r0 => match getP r0.sz r0.len r0.cs e.2 with
    | some x => if cs.length = x.2.2.length ∧ M.kinds = [.ln 1, .ro] then some (v, e.1, lentRoot r0 e.2 cs) else none
    | none => none
  | _, _ => none
theorem lnE_s (M : Model) (k : Int) (hp : Hp) (c : A) (e : Id × List Nat) : lnE M k hp (some (c, [e])) = lnF M e (M.fn [c, .i .i64 k]) (hp e.1) := rfl
def lnG (M : Model) (v : Int) (e : Id × List Nat) (cs : List A) (r0 : Root) : Option (Nat × Nat × List A) → Option (Int × Id × Root)
  | some x => gi (cs.length = x.2.2.length ∧ M.kinds = [.ln 1, .ro]) (some (v, e.1, lentRoot r0 e.2 cs))
  | none => none
theorem lnF_s (M : Model) (e : Id × List Nat) (v : Int) (cs : List A) (a b : Nat) (xs : List A) (vr : Nat → Nat) : lnF M e (some (.i .i64 v, [cs])) (some ⟨a, b, xs, vr⟩) = lnG M v e cs ⟨a, b, xs, vr⟩ (getP a b xs e.2) := by
  simp only [lnF, lnG, gi]
theorem lnG_s (M : Model) (v : Int) (e : Id × List Nat) (cs : List A) (r0 : Root) (a b : Nat) (xs : List A) : lnG M v e cs r0 (some (a, b, xs)) = gi (cs.length = xs.length ∧ M.kinds = [.ln 1, .ro]) (some (v, e.1, lentRoot r0 e.2 cs)) := rfl
def eaS (M : Model) (xs : List A) (js : List Nat) (hp : Hp) : Option (Int × Id × Root) → Option Eff
  | some (v, id, rt) => (eachA M xs js v (upd hp id (some rt))).map fun e => ⟨e.val, (id, some rt) :: e.ups, id :: e.rd⟩
  | none => none
def eaR (M : Model) (xs : List A) (js : List Nat) (k : Int) (hp : Hp) : Option A → Option Eff
  | some r => eaS M xs js hp (lendA hp M r k)
  | none => none
theorem eachA_n (M : Model) (xs : List A) (k : Int) (hp : Hp) : eachA M xs [] k hp = some (.pure (.i .i64 k)) := rfl
theorem eachA_c (M : Model) (xs : List A) (j : Nat) (js : List Nat) (k : Int) (hp : Hp) : eachA M xs (j :: js) k hp = eaR M xs js k hp xs[j]? := by
  simp only [eachA, eaR, eaS]
  cases xs[j]? with
  | none => rfl
  | some r => cases lendA hp M r k <;> rfl
theorem eaR_s (M : Model) (xs : List A) (js : List Nat) (k : Int) (hp : Hp) (r : A) : eaR M xs js k hp (some r) = eaS M xs js hp (lendA hp M r k) := rfl
theorem eaS_s (M : Model) (xs : List A) (js : List Nat) (hp : Hp) (v : Int) (id : Id) (rt : Root) : eaS M xs js hp (some (v, id, rt)) = (eachA M xs js v (upd hp id (some rt))).map fun e => ⟨e.val, (id, some rt) :: e.ups, id :: e.rd⟩ := rfl
theorem eachC_s (M : Model) (ar : Nat) (js : List Nat) (hp : Hp) (xs : List A) (k : Int) : eachC M ar js hp [.agg xs, .i .i64 k] = if xs.length = ar then eachA M xs js k hp else none := rfl
theorem pure_v (v : A) : (Eff.pure v).val = v := rfl
theorem pure_u (v : A) : (Eff.pure v).ups = [] := rfl
theorem pure_r (v : A) : (Eff.pure v).rd = [] := rfl
theorem lentRoot_0 (a b : Nat) (xs : List A) (v : Nat → Nat) (cs : List A) : lentRoot ⟨a, b, xs, v⟩ [] cs = ⟨a, b, cs, fun k => v k + 1⟩ := rfl
theorem bumpL_ne (v : Nat → Nat) (c k : Nat) (p : List Nat) (h : ¬ k = c) : bumpL v (c :: p) k = v k := by simp [bumpL, h]
attribute [go_sem] caG_e lendA_eq lnE_s lnF_s lnG_s eachA_n eachA_c eaR_s eaS_s eachC_s pure_v pure_u pure_r bumpL_ne

theorem Inn_eta (x : Inn) : (⟨x.keys, x.kids⟩ : Inn) = x := rfl
theorem Pg_eta (x : Pg) : (⟨x.keys, x.kids, x.vals⟩ : Pg) = x := rfl
theorem Tr_eta (x : Tr) : (⟨x.root, x.pages⟩ : Tr) = x := rfl
attribute [go_sem] Inn_eta Pg_eta Tr_eta

/-! ### What is known of a law's arguments -/

def PgW (x : Pg) : Prop := ((∀ y ∈ x.keys, intWf .i64 y) ∧ x.keys.length ≤ maxLen) ∧ ((∀ y ∈ x.kids, intWf .i64 y) ∧ x.kids.length ≤ maxLen) ∧ (∀ y ∈ x.vals, intWf .i64 y) ∧ x.vals.length ≤ maxLen
def TrW (t : Tr) : Prop := intWf .i64 t.root ∧ (∀ p ∈ t.pages, PgW p) ∧ t.pages.length ≤ maxLen
end Go.TM

/-! The tree machine, 43: rules for arrays that lie inside of others, two deep. -/
namespace Go.TM
set_option linter.unusedVariables false
set_option linter.unusedSimpArgs false

/-! ### Appending to an array that lies in a struct -/

def dsc (id : Id) (c sz off sz' len a b : Nat) (cs : List A) (v : Nat → Nat) : Option A → Src
  | some (.s true s l xs) => gi (off = 0 ∧ sz' = sz ∧ s = sz ∧ len ≤ l) (some (xs.take (len * sz), len, [(id, some ⟨a, b, cs.set c .und, v⟩)], [id]))
  | _ => none
def ds1 (id : Id) (c ver sz off sz' len : Nat) : Option Root → Src
  | some ⟨a, b, cs, v⟩ => gi (v c = ver) (dsc id c sz off sz' len a b cs v cs[c]?)
  | none => none
theorem ds_r1 (hp : Hp) (sz : Nat) (id : Id) (c v off sz' len : Nat) : ds hp sz (.ref id [c] v off sz' len) = ds1 id c v sz off sz' len (hp id) := by
  simp only [ds, dstOf, ds1, node_1]
  cases hp id with
  | none => rfl
  | some r =>
    obtain ⟨a, b, cs, ve⟩ := r
    simp only [nd1, gi]
    by_cases hv : ve c = v
    · rw [if_pos hv, if_pos hv]
      cases hc : cs[c]? with
      | none => simp [ndc, dsc]
      | some x =>
        cases x with
        | s o s l xs =>
          cases o with
          | false => simp [ndc, dsc]
          | true => simp [ndc, dsc, gi, setC, hc]
        | _ => simp [ndc, dsc]
    · rw [if_neg hv, if_neg hv]
theorem ds1_s (id : Id) (c ver sz off sz' len a b : Nat) (cs : List A) (v : Nat → Nat) : ds1 id c ver sz off sz' len (some ⟨a, b, cs, v⟩) = gi (v c = ver) (dsc id c sz off sz' len a b cs v cs[c]?) := rfl
theorem dsc_s (id : Id) (c sz off sz' len a b s l : Nat) (cs xs : List A) (v : Nat → Nat) : dsc id c sz off sz' len a b cs v (some (.s true s l xs)) =
    gi (off = 0 ∧ sz' = sz ∧ s = sz ∧ len ≤ l) (some (xs.take (len * sz), len, [(id, some ⟨a, b, cs.set c .und, v⟩)], [id])) := rfl

attribute [go_sem] ds_r1 ds1_s dsc_s
end Go.TM
