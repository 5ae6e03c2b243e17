/- The tree machine, 30: how code is run, by rewriting. -/
import Derived.Test.YthikbhekdnmhbaaTm27
namespace Go.TM
set_option linter.unusedVariables false
set_option linter.unusedSimpArgs false

/-- A guarded operation. -/
def GG {α : Type} (v want : Bool) (x : Option α) (y : Option α) : Option α := if v = want then x else y
theorem GG_tt {α : Type} (x y : Option α) : GG true true x y = x := rfl
theorem GG_ff {α : Type} (x y : Option α) : GG false false x y = x := rfl
theorem GG_tf {α : Type} (x y : Option α) : GG true false x y = y := rfl
theorem GG_ft {α : Type} (x y : Option α) : GG false true x y = y := rfl

section
variable {T : Nat → Option TI} {G : Nat → Option FM} {DT : Nat → List (Nat × Nat)} {Q : Exit → St → Prop}

/-- The rest of a region, on what the operation at hand has come to. -/
def runK (T : Nat → Option TI) (G : Nat → Option FM) (ops : List Oper) (n i : Nat) (o : Option Eff) (d : Option Nat) (rest : List Oper) (sl : Nat → A) (hp : Hp) (log : Log) (id : Nat) (dr : Bool) (DT : Nat → List (Nat × Nat)) (Q : Exit → St → Prop) : Prop := match o with
  | none => False
  | some e => match runOps T G ops n (i + 1) rest (setDst sl d e.val) (applyH hp e.ups) ((i, e.ups.map (·.1), e.rd) :: log) with
    | some (sl, hp, log) => (dr = true → drawB (DT id) log = true) ∧ Q .normal ⟨sl, hp, n + ops.length⟩
    | none => False

/-- The rest of a region. -/
def runR (T : Nat → Option TI) (G : Nat → Option FM) (ops : List Oper) (n i : Nat) (rest : List Oper) (sl : Nat → A) (hp : Hp) (log : Log) (id : Nat) (dr : Bool) (DT : Nat → List (Nat × Nat)) (Q : Exit → St → Prop) : Prop :=
  match runOps T G ops n i rest sl hp log with
  | some (sl, hp, log) => (dr = true → drawB (DT id) log = true) ∧ Q .normal ⟨sl, hp, n + ops.length⟩
  | none => False

/-- A region in the text's order: nothing is logged. -/
def run0 (T : Nat → Option TI) (G : Nat → Option FM) (ops : List Oper) (n : Nat) : Nat → List Oper → (Nat → A) → Hp → Option ((Nat → A) × Hp)
  | _, [], sl, hp => some (sl, hp)
  | i, o :: rest, sl, hp => match opA T G ops n i o sl hp with
    | none => none
    | some e => run0 T G ops n (i + 1) rest (setDst sl o.dst e.val) (applyH hp e.ups)

theorem runOps_run0 (ops : List Oper) (n : Nat) : ∀ (rest : List Oper) (i : Nat) (sl : Nat → A) (hp : Hp) (log : Log), (runOps T G ops n i rest sl hp log).map (fun x => (x.1, x.2.1)) = run0 T G ops n i rest sl hp
  | [], _, _, _, _ => rfl
  | o :: rest, i, sl, hp, log => by
    unfold runOps run0
    cases opA T G ops n i o sl hp with
    | none => rfl
    | some e => exact runOps_run0 ops n rest (i + 1) _ _ _

def runS (T : Nat → Option TI) (G : Nat → Option FM) (ops : List Oper) (n i : Nat) (rest : List Oper) (sl : Nat → A) (hp : Hp) (Q : Exit → St → Prop) : Prop := match run0 T G ops n i rest sl hp with
  | some (sl, hp) => Q .normal ⟨sl, hp, n + ops.length⟩
  | none => False
def runKS (T : Nat → Option TI) (G : Nat → Option FM) (ops : List Oper) (n i : Nat) (o : Option Eff) (d : Option Nat) (rest : List Oper) (sl : Nat → A) (hp : Hp) (Q : Exit → St → Prop) : Prop := match o with
  | none => False
  | some e => runS T G ops n (i + 1) rest (setDst sl d e.val) (applyH hp e.ups) Q

theorem W_reg_f (id : Nat) (ops : List Oper) (sl : Nat → A) (hp : Hp) (n : Nat) : W T G DT (.region id ops.toArray false) Q ⟨sl, hp, n⟩ = runS T G ops n 0 ops sl hp Q := by
  have := runOps_run0 (T := T) (G := G) ops n ops 0 sl hp []
  simp only [W, runS]
  rw [← this]
  cases runOps T G ops n 0 ops sl hp [] <;> simp

theorem W_reg_t (id : Nat) (ops : List Oper) (sl : Nat → A) (hp : Hp) (n : Nat) : W T G DT (.region id ops.toArray true) Q ⟨sl, hp, n⟩ = runR T G ops n 0 ops sl hp [] id true DT Q := by
  simp only [W, runR]
  cases runOps T G ops n 0 ops sl hp [] <;> simp

theorem opA_plain (ops : List Oper) (n i : Nat) (d : Option Nat) (op : Op) (ty : Nat) (pos : String) (after : Array Edge) (sl : Nat → A) (hp : Hp) : opA T G ops n i ⟨d, op, ty, pos, after, none⟩ sl hp = eff T G (n + i) ty op sl hp := rfl

/-- What a guard has yielded. -/
def gv (ops : List Oper) (sl : Nat → A) (j : Nat) : A := match (ops[j]?).bind (·.dst) with
  | some d => sl d
  | none => .und

def opG (T : Nat → Option TI) (G : Nat → Option FM) (m : Nat) (ty : Nat) (op : Op) (sl : Nat → A) (hp : Hp) (want : Bool) : A → Option Eff
  | .b v => GG v want (eff T G m ty op sl hp) (some (.pure (.tup [])))
  | .tup [] => some (.pure (.tup []))
  | _ => none

theorem opA_guard (ops : List Oper) (n i : Nat) (d : Option Nat) (op : Op) (ty : Nat) (pos : String) (after : Array Edge) (j : Nat) (want : Bool) (sl : Nat → A) (hp : Hp) :
    opA T G ops n i ⟨d, op, ty, pos, after, some (j, want)⟩ sl hp = opG T G (n + i) ty op sl hp want (gv ops sl j) := by
  unfold opA wantedA gv opG
  simp only
  cases hd : (ops[j]?).bind (·.dst) with
  | none => simp
  | some t =>
    simp only
    cases hs : sl t with
    | b v => cases v <;> cases want <;> rfl
    | tup xs => cases xs <;> simp
    | _ => rfl

theorem opG_b (m ty : Nat) (op : Op) (want v : Bool) (sl : Nat → A) (hp : Hp) : opG T G m ty op sl hp want (.b v) = GG v want (eff T G m ty op sl hp) (some (.pure (.tup []))) := rfl
theorem opG_t (m ty : Nat) (op : Op) (want : Bool) (sl : Nat → A) (hp : Hp) : opG T G m ty op sl hp want (.tup []) = some (.pure (.tup [])) := rfl

theorem runR_nil (ops : List Oper) (n i : Nat) (sl : Nat → A) (hp : Hp) (log : Log) (id : Nat) : runR T G ops n i [] sl hp log id true DT Q = (drawB (DT id) log = true ∧ Q .normal ⟨sl, hp, n + ops.length⟩) := by
  simp [runR, runOps]

theorem runR_plain (ops : List Oper) (n i : Nat) (d : Option Nat) (op : Op) (ty : Nat) (pos : String) (after : Array Edge) (rest : List Oper) (sl : Nat → A) (hp : Hp) (log : Log) (id : Nat) (dr : Bool) :
    runR T G ops n i (⟨d, op, ty, pos, after, none⟩ :: rest) sl hp log id dr DT Q = runK T G ops n i (eff T G (n + i) ty op sl hp) d rest sl hp log id dr DT Q := by
  unfold runR runK
  rw [runOps, opA_plain]
  cases eff T G (n + i) ty op sl hp <;> rfl

theorem runR_guard (ops : List Oper) (n i : Nat) (d : Option Nat) (op : Op) (ty : Nat) (pos : String) (after : Array Edge) (j : Nat) (want : Bool) (rest : List Oper) (sl : Nat → A) (hp : Hp) (log : Log) (id : Nat) (dr : Bool) :
    runR T G ops n i (⟨d, op, ty, pos, after, some (j, want)⟩ :: rest) sl hp log id dr DT Q = runK T G ops n i (opG T G (n + i) ty op sl hp want (gv ops sl j)) d rest sl hp log id dr DT Q := by
  unfold runR runK
  rw [runOps, opA_guard]
  cases opG T G (n + i) ty op sl hp want (gv ops sl j) <;> rfl

theorem runK_some (ops : List Oper) (n i : Nat) (v : A) (us : List (Id × Option Root)) (rd : List Id) (d : Option Nat) (rest : List Oper) (sl : Nat → A) (hp : Hp) (log : Log) (id : Nat) (dr : Bool) :
    runK T G ops n i (some ⟨v, us, rd⟩) d rest sl hp log id dr DT Q = runR T G ops n (i + 1) rest (setDst sl d v) (applyH hp us) ((i, us.map (·.1), rd) :: log) id dr DT Q := rfl

theorem runK_pure (ops : List Oper) (n i : Nat) (v : A) (d : Option Nat) (rest : List Oper) (sl : Nat → A) (hp : Hp) (log : Log) (id : Nat) (dr : Bool) :
    runK T G ops n i (some (.pure v)) d rest sl hp log id dr DT Q = runR T G ops n (i + 1) rest (setDst sl d v) hp ((i, [], []) :: log) id dr DT Q := rfl

theorem runK_split {ops : List Oper} {n i : Nat} {v want : Bool} {x y : Option Eff} {d : Option Nat} {rest : List Oper} {sl : Nat → A} {hp : Hp} {log : Log} {id : Nat} {dr : Bool}
    (h1 : v = true → runK T G ops n i (GG true want x y) d rest sl hp log id dr DT Q) (h2 : v = false → runK T G ops n i (GG false want x y) d rest sl hp log id dr DT Q) : runK T G ops n i (GG v want x y) d rest sl hp log id dr DT Q := by
  cases v
  · exact h2 rfl
  · exact h1 rfl

theorem runS_nil (ops : List Oper) (n i : Nat) (sl : Nat → A) (hp : Hp) : runS T G ops n i [] sl hp Q = Q .normal ⟨sl, hp, n + ops.length⟩ := rfl
theorem runS_plain (ops : List Oper) (n i : Nat) (d : Option Nat) (op : Op) (ty : Nat) (pos : String) (after : Array Edge) (rest : List Oper) (sl : Nat → A) (hp : Hp) :
    runS T G ops n i (⟨d, op, ty, pos, after, none⟩ :: rest) sl hp Q = runKS T G ops n i (eff T G (n + i) ty op sl hp) d rest sl hp Q := by
  unfold runS runKS
  rw [run0, opA_plain]
  cases eff T G (n + i) ty op sl hp <;> rfl
theorem runS_guard (ops : List Oper) (n i : Nat) (d : Option Nat) (op : Op) (ty : Nat) (pos : String) (after : Array Edge) (j : Nat) (want : Bool) (rest : List Oper) (sl : Nat → A) (hp : Hp) :
    runS T G ops n i (⟨d, op, ty, pos, after, some (j, want)⟩ :: rest) sl hp Q = runKS T G ops n i (opG T G (n + i) ty op sl hp want (gv ops sl j)) d rest sl hp Q := by
  unfold runS runKS
  rw [run0, opA_guard]
  cases opG T G (n + i) ty op sl hp want (gv ops sl j) <;> rfl
theorem runKS_some (ops : List Oper) (n i : Nat) (v : A) (us : List (Id × Option Root)) (rd : List Id) (d : Option Nat) (rest : List Oper) (sl : Nat → A) (hp : Hp) :
    runKS T G ops n i (some ⟨v, us, rd⟩) d rest sl hp Q = runS T G ops n (i + 1) rest (setDst sl d v) (applyH hp us) Q := rfl
theorem runKS_pure (ops : List Oper) (n i : Nat) (v : A) (d : Option Nat) (rest : List Oper) (sl : Nat → A) (hp : Hp) :
    runKS T G ops n i (some (.pure v)) d rest sl hp Q = runS T G ops n (i + 1) rest (setDst sl d v) hp Q := rfl
theorem runKS_split {ops : List Oper} {n i : Nat} {v want : Bool} {x y : Option Eff} {d : Option Nat} {rest : List Oper} {sl : Nat → A} {hp : Hp}
    (h1 : v = true → runKS T G ops n i (GG true want x y) d rest sl hp Q) (h2 : v = false → runKS T G ops n i (GG false want x y) d rest sl hp Q) : runKS T G ops n i (GG v want x y) d rest sl hp Q := by
  cases v
  · exact h2 rfl
  · exact h1 rfl

/-! ### Code -/

theorem W_seq_e (x y : Code) (st : St) : W T G DT (.seq x y) Q st = W T G DT x (thenA (W T G DT y Q) Q) st := rfl
theorem W_block_e (id : Nat) (c : Code) (st : St) : W T G DT (.block id c) Q st = W T G DT c (inBlockA id Q) st := rfl
theorem W_exit_e (id : Nat) (st : St) : W T G DT (.exit id) Q st = Q (.exit id) st := rfl
theorem W_ret_e (st : St) : W T G DT .ret Q st = Q .ret st := rfl
theorem W_skip_e (st : St) : W T G DT .skip Q st = Q .normal st := rfl

def condW (T : Nat → Option TI) (G : Nat → Option FM) (DT : Nat → List (Nat × Nat)) (v : A) (x y : Code) (Q : Exit → St → Prop) (sl : Nat → A) (hp : Hp) (n : Nat) : Prop := match v with
  | .b true => W T G DT x Q ⟨sl, hp, n⟩
  | .b false => W T G DT y Q ⟨sl, hp, n⟩
  | _ => False
theorem W_cond_e (c : Operand) (x y : Code) (sl : Nat → A) (hp : Hp) (n : Nat) : W T G DT (.cond c x y) Q ⟨sl, hp, n⟩ = condW T G DT (ev T sl 0 c) x y Q sl hp n := by
  simp only [W, condW]
  cases ev T sl 0 c with
  | b v => cases v <;> simp
  | _ => rfl
theorem cond_t (x y : Code) (sl : Nat → A) (hp : Hp) (n : Nat) : condW T G DT (.b true) x y Q sl hp n = W T G DT x Q ⟨sl, hp, n⟩ := rfl
theorem cond_f (x y : Code) (sl : Nat → A) (hp : Hp) (n : Nat) : condW T G DT (.b false) x y Q sl hp n = W T G DT y Q ⟨sl, hp, n⟩ := rfl
theorem cond_split {v : Bool} {x y : Code} {sl : Nat → A} {hp : Hp} {n : Nat} (h1 : v = true → W T G DT x Q ⟨sl, hp, n⟩) (h2 : v = false → W T G DT y Q ⟨sl, hp, n⟩) : condW T G DT (.b v) x y Q sl hp n := by
  cases v
  · exact h2 rfl
  · exact h1 rfl

/-- A loop: an invariant and a measure. -/
theorem W_loop_i {c : Code} {st : St} (I : St → Prop) (μ : St → Nat) (h0 : I st) (h : ∀ sl hp n, I ⟨sl, hp, n⟩ → W T G DT c (thenA (fun s' => I s' ∧ μ s' < μ ⟨sl, hp, n⟩) Q) ⟨sl, hp, n⟩) : W T G DT (.loop c) Q st := ⟨I, μ, h0, fun s hs => h s.sl s.hp s.n hs⟩

theorem thenA_n (f : St → Prop) (st : St) : thenA f Q .normal st = f st := rfl
theorem thenA_r (f : St → Prop) (st : St) : thenA f Q .ret st = Q .ret st := rfl
theorem thenA_e (f : St → Prop) (st : St) (id : Nat) : thenA f Q (.exit id) st = Q (.exit id) st := rfl
theorem inB_n (id : Nat) (st : St) : inBlockA id Q .normal st = Q .normal st := rfl
theorem inB_r (id : Nat) (st : St) : inBlockA id Q .ret st = Q .ret st := rfl
theorem inB_e (id id' : Nat) (st : St) : inBlockA id Q (.exit id') st = if id' = id then Q .normal st else Q (.exit id') st := rfl
end

theorem upd_if {β : Type} (f : Nat → β) (a x : Nat) (v : β) : upd f a v x = if x = a then v else f x := rfl
theorem drawB_nil (log : Log) : drawB [] log = true := rfl

/-! ### Values -/

abbrev eI (n : Int) : A := .i .i64 n
abbrev eIs (o : Bool) (xs : List Int) : A := .s o 1 xs.length (xs.map eI)

theorem wrap_id {n : Int} (h : -9223372036854775808 ≤ n ∧ n ≤ 9223372036854775807) : IntKind.i64.wrap n = n := by
  simp only [IntKind.wrap, IntKind.bits, IntKind.signed]
  simp
  omega

section
variable {T : Nat → Option TI} {G : Nat → Option FM} {hp : Hp}
theorem ofConst_i (ty : Nat) (n : Int) : ofConst T ty (.int .i64 n) = if -2147483648 ≤ n ∧ n ≤ 2147483647 then .i .i64 n else .und := rfl
theorem ofConst_b (ty : Nat) (v : Bool) : ofConst T ty (.bool v) = .b v := rfl
theorem ofConst_nil (ty : Nat) : ofConst T ty (.slice none 0 0) = match T ty with
    | some ti => match ti.kind with
      | .slice e => match T e with
        | some te => .s true te.sz 0 []
        | none => .und
      | _ => .und
    | none => .und := rfl
theorem ev_t (sl : Nat → A) (ty t : Nat) : ev T sl ty (.tmp t) = sl t := rfl
theorem ev_c (sl : Nat → A) (ty : Nat) (v : Value) : ev T sl ty (.const v) = ofConst T ty v := rfl

end
end Go.TM
