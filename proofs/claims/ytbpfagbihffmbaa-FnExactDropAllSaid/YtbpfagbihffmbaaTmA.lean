/- The tree machine, part A. -/
import Derived.WalkKit
import Derived.Great.BuildSlice

/-! The tree machine: an abstract machine over closed data, into which a Go function's code is read. Definitions only: nothing is claimed here. -/
namespace Go.TM
set_option linter.unusedVariables false

abbrev Id := Nat × Nat

/-- Abstract values. 's o sz len cs': a slice of 'len' elements of 'sz' cells each, by its content; 'o': owned (in a slot: the nil slice, 's true sz 0 []'). 'ref', 'ptr': into the owned roots of the heap. 'ep': a pointer into data that nobody writes. -/
inductive A where
  | i (k : IntKind) (n : Int)
  | b (v : Bool)
  | s (o : Bool) (sz len : Nat) (cs : List A)
  | ref (id : Id) (path : List Nat) (ver off sz len : Nat)
  | ptr (id : Id) (path : List Nat) (ver off : Nat)
  | ep (cs : List A)
  | agg (xs : List A)
  | tup (xs : List A)
  | ub
  | und
  deriving Inhabited

structure Root where
  sz : Nat
  len : Nat
  cs : List A
  ver : Nat → Nat

abbrev Hp := Id → Option Root

structure St where
  sl : Nat → A
  hp : Hp
  n : Nat

def upd {α β : Type} [DecidableEq α] (f : α → β) (a : α) (v : β) : α → β := fun x => if x = a then v else f x
theorem upd_same {α β : Type} [DecidableEq α] (f : α → β) (a : α) (v : β) : upd f a v a = v := by simp [upd]
theorem upd_ne {α β : Type} [DecidableEq α] (f : α → β) (a x : α) (v : β) (h : x ≠ a) : upd f a v x = f x := by simp [upd, h]

def applyH (hp : Hp) (ups : List (Id × Option Root)) : Hp := ups.foldl (fun h u => upd h u.1 u.2) hp

/-- The node at a path: its element size, its length, its cells. -/
def getP : Nat → Nat → List A → List Nat → Option (Nat × Nat × List A)
  | sz, len, cs, [] => some (sz, len, cs)
  | _, _, cs, c :: p => match cs[c]? with
    | some (.s true sz len cs') => getP sz len cs' p
    | _ => none

def verOk (r : Root) (path : List Nat) (ver : Nat) : Bool := match path with
  | [] => true
  | c :: _ => r.ver c == ver

def node (hp : Hp) (id : Id) (path : List Nat) (ver : Nat) : Option (Nat × Nat × List A) :=
  match hp id with
  | some r => if verOk r path ver then getP r.sz r.len r.cs path else none
  | none => none

/-- The cell at a full path is set. -/
def setC (cs : List A) : List Nat → A → List A
  | [], _ => cs
  | [k], v => cs.set k v
  | k :: p, v => match cs[k]? with
    | some (.s true sz len cs') => cs.set k (.s true sz len (setC cs' p v))
    | _ => cs

def isScalar : A → Bool
  | .i .. | .b _ => true
  | _ => false

structure Field where
  off : Nat
  ty : Nat

inductive K where
  | int (k : IntKind)
  | bool
  | slice (e : Nat)
  | struct (fs : List (Nat × Nat))
  | array (n e : Nat)
  | pointer (e : Nat)
  | other

structure TI where
  kind : K
  agg : Bool
  sz : Nat
  bytes : Nat
  zero : List A

inductive Kind where
  | ro | mv | io
  | ln (n : Nat)
  deriving DecidableEq

/-- A model of a function: how each parameter is taken ('ro': read only; 'mv': used up; 'io': a pointer to a root, given back turned; 'ln n': a value whose n arrays are lent, and given back turned); and, of the parameters' contents, the result and the new contents of what was lent. -/
structure Model where
  kinds : List Kind
  clean : Bool
  fn : List A → Option (A × List (List A))

structure Eff where
  val : A
  ups : List (Id × Option Root)
  rd : List Id

def Eff.pure (v : A) : Eff := ⟨v, [], []⟩

def ofConst (T : Nat → Option TI) (ty : Nat) : Value → A
  | .int .i64 n => if -2147483648 ≤ n ∧ n ≤ 2147483647 then .i .i64 n else .und
  | .bool v => .b v
  | .slice none 0 0 => match T ty with
    | some ti => match ti.kind with
      | .slice e => match T e with
        | some te => .s true te.sz 0 []
        | none => .und
      | _ => .und
    | none => .und
  | _ => .und

def ev (T : Nat → Option TI) (sl : Nat → A) (ty : Nat) : Operand → A
  | .tmp t => sl t
  | .const v => ofConst T ty v
  | _ => .und

def evL (T : Nat → Option TI) (sl : Nat → A) : List Operand → List Nat → List A
  | x :: xs, t :: ts => ev T sl t x :: evL T sl xs ts
  | x :: xs, [] => ev T sl 0 x :: evL T sl xs []
  | [], _ => []

/-- What a load of a cell of a root gives. -/
def view (r : Root) (id : Id) (path : List Nat) (ver : Nat) (k : Nat) : A → A
  | .i kd n => .i kd n
  | .b v => .b v
  | .s false sz len cs => .s false sz len cs
  | .s true sz len _ => .ref id (path ++ [k]) (match path with | [] => r.ver k | _ => ver) 0 sz len
  | _ => .und

def viewL (r : Root) (id : Id) (path : List Nat) (ver : Nat) : Nat → List A → List A
  | _, [] => []
  | k, c :: cs => view r id path ver k c :: viewL r id path ver (k + 1) cs

/-- What a cell of data that nobody writes gives. -/
def imm1 : A → A
  | .i kd n => .i kd n
  | .b v => .b v
  | .s _ sz len cs => .s false sz len cs
  | _ => .und

/-- A value on its way into a cell of the heap: a whole owned array is moved. -/
def close1 (hp : Hp) : A → Option (A × List (Id × Option Root) × List Id)
  | .i k n => some (.i k n, [], [])
  | .b v => some (.b v, [], [])
  | .s false sz len cs => some (.s false sz len cs, [], [])
  | .s true sz 0 [] => some (.s true sz 0 [], [], [])
  | .ref id path ver off sz len =>
    match hp id with
    | none => none
    | some r =>
      if off = 0 ∧ verOk r path ver = true then
        match getP r.sz r.len r.cs path with
        | some (sz', len', cs') =>
          if sz' = sz ∧ len' = len then
            some (.s true sz len cs', [(id, match path with | [] => none | _ => some { r with cs := setC r.cs path .und })], [id])
          else none
        | none => none
      else none
  | _ => none

def closeL (hp : Hp) : List A → Option (List A × List (Id × Option Root) × List Id)
  | [] => some ([], [], [])
  | v :: vs => match close1 hp v with
    | none => none
    | some (c, u, rd) => match closeL (applyH hp u) vs with
      | none => none
      | some (cs, us, rds) => some (c :: cs, u ++ us, rd ++ rds)

/-- The cells of a value. -/
def cellsA : A → List A
  | .agg xs => xs
  | v => [v]

/-- Some cells in a row are written. -/
def setR : Nat → List A → List A → List A
  | _, [], cs => cs
  | off, v :: vs, cs => setR (off + 1) vs (cs.set off v)

/-- The cells of the node at a path are turned. -/
def modP (f : List A → List A) : List Nat → List A → List A
  | [], cs => f cs
  | c :: p, cs => match cs[c]? with
    | some (.s true sz len cs') => cs.set c (.s true sz len (modP f p cs'))
    | _ => cs

def bumpR (ver : Nat → Nat) : List Nat → Nat → Nat → Nat → Nat
  | c :: _, _, _ => fun k => if k = c then ver k + 1 else ver k
  | [], off, n => fun k => if off ≤ k ∧ k < off + n then ver k + 1 else ver k

def rng (cs : List A) (off n : Nat) : List A := (cs.drop off).take n

def scal : A → A
  | .i k n => .i k n
  | .b v => .b v
  | _ => .und

/-- What is inside an owned array when it has been moved away, cell by cell. -/
def gone1 : A → A
  | .s true _ _ _ => .und
  | v => v

def goneR (cs : List A) (off n : Nat) : List A := cs.take off ++ (rng cs off n).map gone1 ++ cs.drop (off + n)

/-- The source of an append. -/
def srcOf (hp : Hp) (flat : Bool) (sz : Nat) : A → Option (List A × Nat × List (Id × Option Root) × List Id)
  | .s _ sz' len cs => if sz' = sz then some (cs.map imm1, len, [], []) else none
  | .ref id path ver off sz' len =>
    match node hp id path ver, hp id with
    | some (nsz, nlen, cs), some r =>
      if sz' = sz ∧ nsz = sz ∧ off + len * sz ≤ nlen * nsz then
        if flat then some ((rng cs off (len * sz)).map scal, len, [], [id])
        else if path = [] then some (rng cs off (len * sz), len, [(id, some { r with cs := goneR r.cs off (len * sz) })], [id])
        else none
      else none
    | _, _ => none
  | _ => none

/-- The first argument of an append: it is used up. -/
def dstOf (hp : Hp) (sz : Nat) : A → Option (List A × Nat × List (Id × Option Root) × List Id)
  | .s true sz' 0 [] => if sz' = sz then some ([], 0, [], []) else none
  | .ref id path ver off sz' len =>
    match node hp id path ver, hp id with
    | some (nsz, nlen, cs), some r =>
      if off = 0 ∧ sz' = sz ∧ nsz = sz ∧ len ≤ nlen then
        some (cs.take (len * sz), len, [(id, match path with | [] => none | _ => some { r with cs := setC r.cs path .und })], [id])
      else none
    | _, _ => none
  | _ => none

mutual
/-- Data that is only read, whoever held it. -/
def norm : A → A
  | .s _ sz len cs => .s false sz len (normL cs)
  | v => v
def normL : List A → List A
  | [] => []
  | c :: cs => norm c :: normL cs
end

/-- A value as closed data, to be read only. -/
def snap1 (hp : Hp) : A → Option (A × List Id)
  | .i k n => some (.i k n, [])
  | .b v => some (.b v, [])
  | .s _ sz len cs => some (.s false sz len (normL cs), [])
  | .ref id path ver off sz len =>
    match node hp id path ver with
    | some (nsz, nlen, cs) => if sz = nsz ∧ off + len * sz ≤ nlen * nsz then some (.s false sz len (normL (rng cs off (len * sz))), [id]) else none
    | none => none
  | _ => none

def snapL (hp : Hp) : List A → Option (List A × List Id)
  | [] => some ([], [])
  | v :: vs => match snap1 hp v, snapL hp vs with
    | some (c, rd), some (cs, rds) => some (c :: cs, rd ++ rds)
    | _, _ => none

def snap (hp : Hp) : A → Option (A × List Id)
  | .agg xs => (snapL hp xs).map fun (cs, rd) => (.agg cs, rd)
  | v => snap1 hp v

/-- The arguments that a call uses up. -/
def mvsOf {α : Type} : List Kind → List α → List α
  | .mv :: ks, v :: vs => v :: mvsOf ks vs
  | _ :: ks, _ :: vs => mvsOf ks vs
  | _, _ => []

/-- A value that is lent: its cells, closed; where its arrays lie. -/
def lnCell (hp : Hp) : A → Option (A × List (Id × List Nat))
  | .i k n => some (.i k n, [])
  | .b v => some (.b v, [])
  | .ref id path ver off sz len => match node hp id path ver with
    | some (nsz, nlen, cs) => if off = 0 ∧ sz = nsz ∧ len = nlen then some (.s true sz len cs, [(id, path)]) else none
    | none => none
  | _ => none

def lnCells (hp : Hp) : List A → Option (List A × List (Id × List Nat))
  | [] => some ([], [])
  | v :: vs => match lnCell hp v, lnCells hp vs with
    | some (c, e), some (cs, es) => some (c :: cs, e ++ es)
    | _, _ => none

def lnVal (hp : Hp) : A → Option (A × List (Id × List Nat))
  | .agg xs => (lnCells hp xs).map fun x => (.agg x.1, x.2)
  | v => lnCell hp v

/-- The arguments' contents, by their kinds (the third list: what 'closeL' gave for those that are used up); what is read of the heap; the arrays that are lent. -/
def contsOf (hp : Hp) : List Kind → List A → List A → Option (List A × List Id × List (Id × List Nat))
  | [], [], [] => some ([], [], [])
  | .ro :: ks, v :: vs, cs => match snap hp v, contsOf hp ks vs cs with
    | some (c, rd), some (xs, rds, ios) => some (c :: xs, rd ++ rds, ios)
    | _, _ => none
  | .mv :: ks, _ :: vs, c :: cs => (contsOf hp ks vs cs).map fun x => (c :: x.1, x.2.1, x.2.2)
  | .io :: ks, v :: vs, cs => match v with
    | .ptr id [] _ 0 => match hp id with
      | some r => if r.len = 1 then (contsOf hp ks vs cs).map fun x => (.agg r.cs :: x.1, x.2.1, (id, []) :: x.2.2) else none
      | none => none
    | _ => none
  | .ln n :: ks, v :: vs, cs => match lnVal hp v with
    | some (c, es) => if es.length = n then (contsOf hp ks vs cs).map fun x => (c :: x.1, x.2.1, es ++ x.2.2) else none
    | none => none
  | _, _, _ => none

def disjB (xs ys : List Id) : Bool := xs.all fun x => ys.all fun y => !(x == y)
def nodupB : List Id → Bool
  | [] => true
  | x :: xs => (xs.all fun y => !(x == y)) && nodupB xs

def newRoot (sz len : Nat) (cs : List A) : Root := ⟨sz, len, cs, fun _ => 0⟩

def rootRef (id : Id) : A → A
  | .s true sz len _ => .ref id [] 0 0 sz len
  | v => v

def rootOf : A → Option Root
  | .s true sz len cs => some (newRoot sz len cs)
  | _ => none

/-- Closed data that a call has handed back: its outermost arrays become roots. -/
def plantL (m : Nat) : Nat → List A → List A × List (Id × Option Root)
  | _, [] => ([], [])
  | k, v :: vs => (rootRef (m, k) v :: (plantL m (k + 1) vs).1, (match rootOf v with | some r => [((m, k), some r)] | none => []) ++ (plantL m (k + 1) vs).2)

def plant1 (m k : Nat) : A → A × List (Id × Option Root)
  | .agg xs => (.agg (plantL m k xs).1, (plantL m k xs).2)
  | .ep cs => (.ptr (m, k) [] 0 0, [((m, k), some (newRoot cs.length 1 cs))])
  | v => (((plantL m k [v]).1)[0]?.getD .und, (plantL m k [v]).2)

def plantT (m : Nat) : Nat → List A → List A × List (Id × Option Root)
  | _, [] => ([], [])
  | k, v :: vs => ((plant1 m k v).1 :: (plantT m (k + (cellsA v).length) vs).1, (plant1 m k v).2 ++ (plantT m (k + (cellsA v).length) vs).2)

def plant (m : Nat) : A → A × List (Id × Option Root)
  | .tup xs => (.tup (plantT m 0 xs).1, (plantT m 0 xs).2)
  | v => plant1 m 0 v

def bumpL (ver : Nat → Nat) : List Nat → Nat → Nat
  | [] => fun k => ver k + 1
  | c :: _ => fun k => if k = c then ver k + 1 else ver k

def lentRoot (r : Root) (path : List Nat) (cs : List A) : Root := ⟨r.sz, r.len, modP (fun _ => cs) path r.cs, bumpL r.ver path⟩

def outsOf (hp : Hp) : List (Id × List Nat) → List (List A) → Option (List (Id × Option Root))
  | [], [] => some []
  | e :: es, cs :: outs => match hp e.1, outsOf hp es outs with
    | some r, some us => match getP r.sz r.len r.cs e.2 with
      | some x => if cs.length = x.2.2.length then some ((e.1, some (lentRoot r e.2 cs)) :: us) else none
      | none => none
    | _, _ => none
  | _, _ => none

/-- A function that only hands parts of its arguments on. -/
inductive Out where
  | arg (j k : Nat)
  | nil (sz : Nat)
  | empty (sz : Nat)

/-- A slice. -/
def slcA : A → Bool
  | .s .. => true
  | .ref .. => true
  | _ => false

def outCell (m idx : Nat) (args : List A) : Out → Option (A × List (Id × Option Root))
  | .arg j k => match args[j]? with
    | some v => match (cellsA v)[k]? with
      | some c => if slcA c = true then some (c, []) else none
      | none => none
    | none => none
  | .nil sz => some (.s true sz 0 [], [])
  | .empty sz => some (.ref (m, idx) [] 0 0 sz 0, [((m, idx), some (newRoot sz 0 []))])

def outCells (m : Nat) (args : List A) : Nat → List Out → Option (List A × List (Id × Option Root))
  | _, [] => some ([], [])
  | idx, o :: os => match outCell m idx args o, outCells m args (idx + 1) os with
    | some (c, u), some (cs, us) => some (c :: cs, u ++ us)
    | _, _ => none

/-- An array of some struct's cell is lent, with a number; a number comes back. -/
def lendA (hp : Hp) (M : Model) (r : A) (k : Int) : Option (Int × Id × Root) :=
  match lnVal hp r with
  | some (c, [e]) => match M.fn [c, .i .i64 k], hp e.1 with
    | some (.i .i64 v, [cs]), some r0 => match getP r0.sz r0.len r0.cs e.2 with
      | some x => if cs.length = x.2.2.length ∧ M.kinds = [.ln 1, .ro] then some (v, e.1, lentRoot r0 e.2 cs) else none
      | none => none
    | _, _ => none
  | _ => none

/-- The arrays of a struct's cells are lent one after the other. -/
def eachA (M : Model) (xs : List A) : List Nat → Int → Hp → Option Eff
  | [], k, _ => some (.pure (.i .i64 k))
  | j :: js, k, hp => match xs[j]? with
    | some r => match lendA hp M r k with
      | some (v, id, rt) => (eachA M xs js v (upd hp id (some rt))).map fun e => ⟨e.val, (id, some rt) :: e.ups, id :: e.rd⟩
      | none => none
    | none => none

def eachC (M : Model) (ar : Nat) (js : List Nat) (hp : Hp) : List A → Option Eff
  | [.agg xs, .i .i64 k] => if xs.length = ar then eachA M xs js k hp else none
  | _ => none

inductive FM where
  | each (ar : Nat) (js : List Nat) (M : Model)
  | model (M : Model)
  | alias (ar : List Nat) (outs : List Out)
  | grow (sz : Nat)

/-- slices.Grow of the nil slice: an empty array of its own. -/
def growA (m sz : Nat) : List A → Option Eff
  | [.s true sz' 0 [], .i .i64 n] => if sz' = sz ∧ 0 ≤ n ∧ n ≤ 1099511627776 then some ⟨.ref (m, 0) [] 0 0 sz 0, [((m, 0), some (newRoot sz 0 []))], []⟩ else none
  | _ => none

def callA (G : Nat → Option FM) (m : Nat) (f : Nat) (args : List A) (hp : Hp) : Option Eff :=
  match G f with
  | none => none
  | some (.alias ar outs) => if (args.map fun a => (cellsA a).length) = ar then (outCells m args 0 outs).map fun (cs, us) => ⟨.agg cs, us, []⟩ else none
  | some (.grow sz) => growA m sz args
  | some (.each ar js M) => eachC M ar js hp args
  | some (.model M) => match closeL hp (mvsOf M.kinds args) with
    | none => none
    | some (cs, us, rd1) => match contsOf (applyH hp us) M.kinds args cs with
      | none => none
      | some (xs, rds, ios) => if nodupB (ios.map (·.1)) = true ∧ disjB (ios.map (·.1)) rds = true ∧ (rds = [] ∨ M.clean = true) then
          match M.fn xs with
          | none => none
          | some (r, outs) => match outsOf (applyH hp us) ios outs with
            | none => none
            | some us' => some ⟨(plant m r).1, us ++ us' ++ (plant m r).2, rd1 ++ rds ++ ios.map (·.1)⟩
        else none

def binI (op : BinOp) (k : IntKind) (x y : Int) : Option A :=
  match op with
  | .add => some (.i k (k.wrap (x + y)))
  | .sub => some (.i k (k.wrap (x - y)))
  | .mul => some (.i k (k.wrap (x * y)))
  | .quo => if y = 0 then none else some (.i k (k.wrap (x.tdiv y)))
  | .rem => if y = 0 then none else some (.i k (x.tmod y))
  | .xor => some (.i k (k.wrap (BitVec.ofInt k.bits x ^^^ BitVec.ofInt k.bits y).toNat))
  | .eql => some (.b (x == y))
  | .neq => some (.b (x != y))
  | .lss => some (.b (decide (x < y)))
  | .leq => some (.b (decide (x ≤ y)))
  | .gtr => some (.b (decide (x > y)))
  | .geq => some (.b (decide (x ≥ y)))
  | _ => none

def isBoolK : K → Bool
  | .bool => true
  | _ => false

def binA (kd : K) (op : BinOp) : A → A → Option A
  | .i k x, .i k' y => if k = k' then binI op k x y else none
  | .b x, .b y => if isBoolK kd then match op with
      | .eql => some (.b (x == y))
      | .neq => some (.b (x != y))
      | _ => none
    else none
  | _, _ => none

/-- A slice is compared with nil. -/
def nilC : K → BinOp → Operand → Bool
  | .slice _, .eql, .const (.slice none 0 0) => true
  | _, _, _ => false

/-- Whether a slice is nil: of one without elements that is not known. -/
def nilQ : A → Option A
  | .s _ sz len _ => if len = 0 then some .ub else if 0 < sz then some (.b false) else none
  | _ => none

def unA : UnOp → A → Option A
  | .not, .b x => some (.b (!x))
  | .neg, .i k x => some (.i k (k.wrap (0 - x)))
  | _, _ => none

def okPart : A → Bool
  | .und => false
  | .tup _ => false
  | .ub => false
  | _ => true

def fillA (place : Nat → Option (Nat × Nat)) : List A → List (Nat × A) → Option (List A)
  | cs, [] => some cs
  | cs, (i, v) :: rest => match place i with
    | none => none
    | some (off, size) => if okPart v = true ∧ (cellsA v).length = size ∧ off + size ≤ cs.length then fillA place (cs.take off ++ cellsA v ++ cs.drop (off + size)) rest else none

/-- The value of type t in some cells. -/
def packA (ti : TI) (cs : List A) : Option A :=
  if cs.length = ti.sz then (if ti.agg then some (.agg cs) else cs[0]?) else none

def flatTI (ti : TI) : Bool := ti.zero.all isScalar

def loadA (ti : TI) (hp : Hp) : A → Option Eff
  | .ptr id path ver off => match node hp id path ver, hp id with
    | some (sz, len, cs), some r => if 0 < ti.sz ∧ off + ti.sz ≤ len * sz then (packA ti (viewL r id path ver off (rng cs off ti.sz))).map fun v => ⟨v, [], [id]⟩ else none
    | _, _ => none
  | .ep cs => if 0 < ti.sz ∧ ti.sz ≤ cs.length then (packA ti ((cs.take ti.sz).map imm1)).map Eff.pure else none
  | _ => none

def storeA (ti : TI) (hp : Hp) (addr v : A) : Option Eff :=
  match addr with
  | .ptr id path ver off =>
    match node hp id path ver, closeL hp (cellsA v) with
    | some (sz, len, _), some (cs, us, rd) =>
      if cs.length = ti.sz ∧ 0 < ti.sz ∧ off + ti.sz ≤ len * sz ∧ id ∉ us.map (·.1) then
        match hp id with
        | none => none
        | some r => some ⟨.und, us ++ [(id, some { r with cs := modP (setR off cs) path r.cs, ver := if cs.all isScalar then r.ver else bumpR r.ver path off cs.length })], id :: rd⟩
      else none
    | _, _ => none
  | _ => none

def intOfA : A → Option Int
  | .i _ n => some n
  | _ => none

def szOf (T : Nat → Option TI) (t : Nat) : Option Nat := (T t).map (·.sz)

/-- The value of an index expression's address. -/
def indexAddrA (T : Nat → Option TI) (k : K) (hp : Hp) (x ix : A) : Option Eff :=
  match k, x, ix with
  | .slice e, .ref id path ver off sz len, .i .i64 n =>
    match node hp id path ver with
    | some (nsz, nlen, _) => if szOf T e = some sz ∧ 0 ≤ n ∧ n < len then some ⟨.ptr id path ver (off + n.toNat * sz), [], [id]⟩ else none
    | none => none
  | .slice e, .s _ sz len cs, .i .i64 n => if 0 < sz ∧ szOf T e = some sz ∧ 0 ≤ n ∧ n < len then some (.pure (.ep (cs.drop (n.toNat * sz)))) else none
  | .array cnt e, .ptr id path ver off, .i .i64 n =>
    match T e, node hp id path ver with
    | some ti, some _ => if 0 ≤ n ∧ n < cnt then some ⟨.ptr id path ver (off + n.toNat * ti.sz), [], [id]⟩ else none
    | _, _ => none
  | _, _, _ => none

def boundA (d : Nat) : Option A → Option Nat
  | none => some d
  | some (.i .i64 n) => if 0 ≤ n then some n.toNat else none
  | _ => none

def sliceA (tsz : Option Nat) (x : A) (lo hi : Option A) : Option Eff :=
  match x with
  | .ref id path ver off sz len => match boundA 0 lo, boundA len hi with
    | some l, some h => if tsz = some sz ∧ l ≤ h ∧ h ≤ len then some (.pure (if h - l = 0 then .s false sz 0 [] else .ref id path ver (off + l * sz) sz (h - l))) else none
    | _, _ => none
  | .s _ sz len cs => match boundA 0 lo, boundA len hi with
    | some l, some h => if tsz = some sz ∧ l ≤ h ∧ h ≤ len then some (.pure (.s false sz (h - l) (rng cs (l * sz) ((h - l) * sz)))) else none
    | _, _ => none
  | _ => none

def lenA : A → Option A
  | .s _ _ len _ => some (.i .i64 len)
  | .ref _ _ _ _ _ len => some (.i .i64 len)
  | _ => none

def kindOf (T : Nat → Option TI) (t : Nat) : K := match T t with
  | some ti => ti.kind
  | none => .other

def eff (T : Nat → Option TI) (G : Nat → Option FM) (m ty : Nat) (o : Op) (sl : Nat → A) (hp : Hp) : Option Eff :=
  match o with
  | .move x | .assign x => some (.pure (ev T sl ty x))
  | .pick c a b => match ev T sl 0 c with
    | .b t => some (.pure (if t then ev T sl ty a else ev T sl ty b))
    | _ => none
  | .alloc e => match T e with
    | some ti => some ⟨.ptr (m, 0) [] 0 0, [((m, 0), some (newRoot ti.sz 1 ti.zero))], []⟩
    | none => none
  | .box e x => match T e, closeL hp (cellsA (ev T sl e x)) with
    | some ti, some (cs, us, rd) => if cs.length = ti.sz then some ⟨.ptr (m, 0) [] 0 0, us ++ [((m, 0), some (newRoot ti.sz 1 cs))], rd⟩ else none
    | _, _ => none
  | .build t parts => match T t with
    | some ti => match ti.kind with
      | .struct fs => (fillA (fun i => (fs[i]?).bind fun f => (T f.2).map fun fi => (f.1, fi.sz)) ti.zero (parts.toList.map fun p => (p.1, ev T sl ((fs[p.1]?).elim 0 (·.2)) p.2))).map fun cs => .pure (.agg cs)
      | _ => none
    | none => none
  | .buildSlice t len parts => match kindOf T t with
    | .slice e => match T e with
      | some ti => match fillA (fun i => some (i * ti.sz, ti.sz)) (List.replicate len ti.zero).flatten (parts.toList.map fun p => (p.1, ev T sl e p.2)) with
        | some vs => match closeL hp vs with
          | some (cs, us, rd) => if 0 < ti.sz ∧ len * ti.sz ≤ 2 ^ 24 then some ⟨.ref (m, 0) [] 0 0 ti.sz len, us ++ [((m, 0), some (newRoot ti.sz len cs))], rd⟩ else none
          | none => none
        | none => none
      | none => none
    | _ => none
  | .makeSlice t l c => match kindOf T t, ev T sl 0 l, ev T sl 0 c with
    | .slice e, .i .i64 n, .i .i64 n' => match T e with
      | some ti => if n = n' ∧ 0 ≤ n ∧ n.toNat * ti.bytes ≤ 140737488355328 ∧ n.toNat ≤ 140737488355328 then some ⟨.ref (m, 0) [] 0 0 ti.sz n.toNat, [((m, 0), some (newRoot ti.sz n.toNat (List.replicate n.toNat ti.zero).flatten))], []⟩ else none
      | none => none
    | _, _, _ => none
  | .load t a => match T t with
    | some ti => loadA ti hp (ev T sl 0 a)
    | none => none
  | .store t a x => match T t with
    | some ti => storeA ti hp (ev T sl 0 a) (ev T sl t x)
    | none => none
  | .fieldAddr s x f => match kindOf T s with
    | .struct fs => match fs[f]?, ev T sl 0 x with
      | some (off, _), .ptr id path ver o => match node hp id path ver with
        | some _ => some ⟨.ptr id path ver (o + off), [], [id]⟩
        | none => none
      | some (off, _), .ep cs => some (.pure (.ep (cs.drop off)))
      | _, _ => none
    | _ => none
  | .field s x f => match kindOf T s, ev T sl 0 x with
    | .struct fs, .agg xs => match fs[f]? with
      | some (off, ft) => match T ft with
        | some ti => (packA ti (rng xs off ti.sz)).map Eff.pure
        | none => none
      | none => none
    | _, _ => none
  | .indexAddr t x ix => indexAddrA T (kindOf T t) hp (ev T sl 0 x) (ev T sl 0 ix)
  | .slice t x lo hi mx => match kindOf T t, mx with
    | .slice e, none => sliceA (szOf T e) (ev T sl 0 x) (lo.map (ev T sl 0)) (hi.map (ev T sl 0))
    | _, _ => none
  | .extract t ix => match ev T sl 0 t with
    | .tup xs => (xs[ix]?).map Eff.pure
    | _ => none
  | .nilCheck x => match ev T sl 0 x with
    | .ptr id path ver o => match node hp id path ver with
      | some _ => some ⟨.ptr id path ver o, [], [id]⟩
      | none => none
    | .ep cs => some (.pure (.ep cs))
    | _ => none
  | .binOp op t x y _ => if nilC (kindOf T t) op y then (nilQ (ev T sl 0 x)).map Eff.pure else (binA (kindOf T t) op (ev T sl 0 x) (ev T sl 0 y)).map Eff.pure
  | .unOp op _ x => (unA op (ev T sl 0 x)).map Eff.pure
  | .convert src dst x => match kindOf T src, kindOf T dst, ev T sl 0 x with
    | .int _, .int k, .i _ n => some (.pure (.i k (k.wrap n)))
    | _, _, _ => none
  | .call c => match c.callee with
    | .builtin .len => match c.args.toList with
      | [x] => match (c.argTypes[0]?).map (kindOf T) with
        | some (.slice _) => (lenA (ev T sl 0 x)).map Eff.pure
        | _ => none
      | _ => none
    | .builtin .max => match c.args.toList with
      | [x, y] => match ev T sl 0 x, ev T sl 0 y with
        | .i .i64 a, .i .i64 b => some (.pure (.i .i64 (if b > a then b else a)))
        | _, _ => none
      | _ => none
    | .builtin .append => match c.args.toList, c.argTypes.toList with
      | [s, x], [t, t'] => if t = t' then match kindOf T t with
        | .slice e => match T e with
          | some ti => match srcOf hp (flatTI ti) ti.sz (ev T sl t x) with
            | some (scs, slen, us, rd) => match dstOf (applyH hp us) ti.sz (ev T sl t s) with
              | some (dcs, dlen, us', rd') =>
                if (dlen + slen) * ti.bytes ≤ 140737488355328 ∧ dlen + slen ≤ 140737488355328 ∧ 0 < ti.sz then
                  some ⟨.ref (m, 0) [] 0 0 ti.sz (dlen + slen), us ++ us' ++ [((m, 0), some (newRoot ti.sz (dlen + slen) (dcs ++ scs)))], rd ++ rd'⟩
                else none
              | none => none
            | none => none
          | none => none
        | _ => none
        else none
      | _, _ => none
    | .value (.func f) => callA G m f (evL T sl c.args.toList c.argTypes.toList) hp
    | _ => none
  | _ => none

def wantedA (ops : List Oper) (sl : Nat → A) (o : Oper) : Option Bool :=
  match o.guard with
  | none => some true
  | some (j, want) => match (ops[j]?).bind (·.dst) with
    | some d => match sl d with
      | .b v => some (v == want)
      | .tup [] => some false
      | _ => none
    | none => none

def setDst (sl : Nat → A) (d : Option Nat) (v : A) : Nat → A := match d with
  | some t => upd sl t v
  | none => sl

/-- One operation of a region; its number in the region is i; n: the region's first instance. -/
def opA (T : Nat → Option TI) (G : Nat → Option FM) (ops : List Oper) (n i : Nat) (o : Oper) (sl : Nat → A) (hp : Hp) : Option Eff :=
  match wantedA ops sl o with
  | some true => eff T G (n + i) o.type o.op sl hp
  | some false => some (.pure (.tup []))
  | none => none

/-- What each operation has changed and read, in the text's order. -/
abbrev Log := List (Nat × List Id × List Id)

def runOps (T : Nat → Option TI) (G : Nat → Option FM) (ops : List Oper) (n : Nat) : Nat → List Oper → (Nat → A) → Hp → Log → Option ((Nat → A) × Hp × Log)
  | _, [], sl, hp, log => some (sl, hp, log)
  | i, o :: rest, sl, hp, log => match opA T G ops n i o sl hp with
    | none => none
    | some e => runOps T G ops n (i + 1) rest (setDst sl o.dst e.val) (applyH hp e.ups) ((i, e.ups.map (·.1), e.rd) :: log)

/-- The pairs (i, j) of a region that may come in either order, i one that may change the heap: what i has changed is not what j has read or changed. -/
def logAt (log : Log) (i : Nat) : List Id × List Id := match log with
  | [] => ([], [])
  | (j, u, r) :: rest => if j = i then (u, r) else logAt rest i

def drawB (pairs : List (Nat × Nat)) (log : Log) : Bool := pairs.all fun p => disjB (logAt log p.1).1 ((logAt log p.2).1 ++ (logAt log p.2).2)

def thenA (next : St → Prop) (Q : Exit → St → Prop) : Exit → St → Prop
  | .normal, s => next s
  | e, s => Q e s

def inBlockA (id : Nat) (Q : Exit → St → Prop) : Exit → St → Prop
  | .exit id', s => if id' = id then Q .normal s else Q (.exit id') s
  | e, s => Q e s

/-- What the code leads to, on the abstract state. DT: of each region that draws its order, the pairs that have none. -/
def W (T : Nat → Option TI) (G : Nat → Option FM) (DT : Nat → List (Nat × Nat)) : Code → (Exit → St → Prop) → St → Prop
  | .skip, Q, st => Q .normal st
  | .region id ops draw, Q, st => match runOps T G ops.toList st.n 0 ops.toList st.sl st.hp [] with
    | some (sl, hp, log) => (draw = true → drawB (DT id) log = true) ∧ Q .normal ⟨sl, hp, st.n + ops.toList.length⟩
    | none => False
  | .seq x y, Q, st => W T G DT x (thenA (W T G DT y Q) Q) st
  | .cond c x y, Q, st => match ev T st.sl 0 c with
    | .b v => (v = true → W T G DT x Q st) ∧ (v = false → W T G DT y Q st)
    | .ub => W T G DT x Q st ∧ W T G DT y Q st
    | _ => False
  | .block id c, Q, st => W T G DT c (inBlockA id Q) st
  | .loop c, Q, st => ∃ (I : St → Prop) (μ : St → Nat), I st ∧ ∀ s, I s → W T G DT c (thenA (fun s' => I s' ∧ μ s' < μ s) Q) s
  | .exit id, Q, st => Q (.exit id) st
  | .ret, Q, st => Q .ret st
  | _, _, _ => False

def resOf (T : Nat → Option TI) (st : St) : ResultVar → Option A
  | .tmp t => some (st.sl t)
  | .cell a t => match T t with
    | some ti => (loadA ti st.hp (st.sl a)).map (·.val)
    | none => none

def ressOf (T : Nat → Option TI) (st : St) : List ResultVar → Option (List A)
  | [] => some []
  | r :: rs => match resOf T st r, ressOf T st rs with
    | some v, some vs => some (v :: vs)
    | _, _ => none

def tupOf : List A → A
  | [v] => v
  | vs => .tup vs

/-- The element size and the length of each array that is lent. -/
def lnShs : List A → List (Nat × Nat)
  | [] => []
  | .s true sz len _ :: cs => (sz, len) :: lnShs cs
  | _ :: cs => lnShs cs

def shsOf : List Kind → List A → List (Nat × Nat)
  | .io :: ks, v :: vs => ((cellsA v).length, 1) :: shsOf ks vs
  | .ln _ :: ks, v :: vs => lnShs (cellsA v) ++ shsOf ks vs
  | .ro :: ks, _ :: vs => shsOf ks vs
  | .mv :: ks, _ :: vs => shsOf ks vs
  | _, _ => []

/-- The contents of what was lent, at the end. -/
def iosOf (hp : Hp) : Nat → List (Nat × Nat) → Option (List (List A))
  | _, [] => some []
  | t, sh :: shs => match hp (2, t), iosOf hp (t + 1) shs with
    | some r, some cs => if r.sz = sh.1 ∧ r.len = sh.2 then some (r.cs :: cs) else none
    | _, _ => none

/-- The closed cells, by the values whose cells they are. -/
def regroup : List A → List A → List A
  | [], _ => []
  | .agg xs :: vs, cs => .agg (cs.take xs.length) :: regroup vs (cs.drop xs.length)
  | _ :: vs, c :: cs => c :: regroup vs cs
  | _ :: _, [] => []

def flatA (vs : List A) : List A := (vs.map cellsA).flatten

/-- A result that is the rear part of an array is from here on only read. -/
def frz1 (hp : Hp) : A → Option (A × List (Id × Option Root))
  | .ref id [] ver (off + 1) sz len => (snap1 hp (.ref id [] ver (off + 1) sz len)).map fun x => (x.1, [(id, none)])
  | v => some (v, [])

def frzL (hp : Hp) : List A → Option (List A × List (Id × Option Root))
  | [] => some ([], [])
  | v :: vs => match frz1 hp v with
    | none => none
    | some (c, us) => match frzL (applyH hp us) vs with
      | none => none
      | some (cs, us') => some (c :: cs, us ++ us')

/-- The results as closed data. -/
def finV (hp : Hp) : List A → Option (A × List (Id × Option Root))
  | [.ptr id path _ off] => match hp id with
    | some r => if path = [] ∧ off = 0 ∧ r.len = 1 then some (.ep r.cs, [(id, none)]) else none
    | none => none
  | vs => match frzL hp (flatA vs) with
    | some (xs, us) => (closeL (applyH hp us) xs).map fun x => (tupOf (regroup vs x.1), us ++ x.2.1)
    | none => none

/-- What a call hands back, off the state at the body's end. -/
def finalA (T : Nat → Option TI) (rs : List ResultVar) (shs : List (Nat × Nat)) (st : St) : Option (A × List (List A)) :=
  match ressOf T st rs with
  | none => none
  | some vs => match finV st.hp vs with
    | none => none
    | some (r, us) => (iosOf (applyH st.hp us) 0 shs).map fun outs => (r, outs)

def immV : A → A
  | .agg xs => .agg (xs.map imm1)
  | v => imm1 v

/-- A lent value, as the callee has it: its arrays are the roots (2, b) and on. -/
def lnRefs : Nat → List A → List A
  | _, [] => []
  | b, .s true sz len _ :: cs => .ref (2, b) [] 0 0 sz len :: lnRefs (b + 1) cs
  | b, c :: cs => c :: lnRefs b cs

def lnSlot (b : Nat) : A → A
  | .agg xs => .agg (lnRefs b xs)
  | v => (lnRefs b [v])[0]?.getD .und

def lnRoots : Nat → List A → Hp
  | _, [] => fun _ => none
  | b, .s true sz len cs :: xs => fun id => if id = (2, b) then some (newRoot sz len cs) else lnRoots (b + 1) xs id
  | b, _ :: xs => lnRoots b xs

/-- The state in which a body begins: the k-th parameter that is used up has the root (1, k), the k-th 'io' parameter the root (2, k). j: the parameter's slot. -/
def initSl : Nat → Nat → Nat → List Kind → List A → Nat → A
  | j, a, b, .ro :: ks, v :: vs => fun t => if t = j then immV v else initSl (j + 1) a b ks vs t
  | j, a, b, .mv :: ks, v :: vs => fun t => if t = j then rootRef (1, a) v else initSl (j + 1) (a + 1) b ks vs t
  | j, a, b, .io :: ks, _ :: vs => fun t => if t = j then .ptr (2, b) [] 0 0 else initSl (j + 1) a (b + 1) ks vs t
  | j, a, b, .ln n :: ks, v :: vs => fun t => if t = j then lnSlot b v else initSl (j + 1) a (b + n) ks vs t
  | _, _, _, _, _ => fun _ => .und

def initHp : Nat → Nat → List Kind → List A → Hp
  | a, b, .mv :: ks, v :: vs => fun id => if id = (1, a) then rootOf v else initHp (a + 1) b ks vs id
  | a, b, .io :: ks, v :: vs => fun id => if id = (2, b) then some (newRoot (cellsA v).length 1 (cellsA v)) else initHp a (b + 1) ks vs id
  | a, b, .ln n :: ks, v :: vs => fun id => match lnRoots b (cellsA v) id with
    | some r => some r
    | none => initHp a (b + n) ks vs id
  | a, b, .ro :: ks, _ :: vs => initHp a b ks vs
  | _, _, _, _ => fun _ => none

def initSt (ks : List Kind) (args : List A) : St := ⟨initSl 0 0 0 ks args, initHp 0 0 ks args, 3⟩

mutual
/-- No data in it that somebody else holds. -/
def cleanA : A → Bool
  | .s true _ _ cs => cleanL cs
  | .s false _ _ cs => cs.isEmpty
  | .agg xs => cleanL xs
  | .tup xs => cleanL xs
  | .ep xs => cleanL xs
  | _ => true
def cleanL : List A → Bool
  | [] => true
  | c :: cs => cleanA c && cleanL cs
end

/-- The body computes what the model says. -/
def Does (T : Nat → Option TI) (G : Nat → Option FM) (DT : Nat → List (Nat × Nat)) (fn : Func) (M : Model) : Prop :=
  ∀ c, fn.body = some c → ∀ args r outs, M.fn args = some (r, outs) → (M.clean = true → cleanA r = true ∧ outs.all cleanL = true) ∧
    W T G DT c (fun e st => (e = .normal ∨ e = .ret) ∧ finalA T fn.results.toList (shsOf M.kinds args) st = some (r, outs)) (initSt M.kinds args)

end Go.TM

/-! The tree machine, 2: how abstract values and roots lie in a world; and that they go on lying so where nothing of theirs turns. -/
namespace Go.TM
set_option linter.unusedVariables false
set_option linter.unusedSimpArgs false

/-- Who holds a block: nobody; whoever was there before the call; the array at a path of a root. -/
inductive Lbl where
  | free
  | prot
  | at (id : Id) (p : List Nat)
  deriving DecidableEq

abbrev Lab := Nat → Lbl

mutual
/-- Data that is only read: it lies in blocks of which P holds. -/
def Imm (w : World) (P : Nat → Prop) : A → Value → Prop
  | .i k n, u => u = .int k n ∧ (Lit.int k n).wf = true
  | .b v, u => u = .bool v
  | .s _ sz len cs, u => ∃ ao cap, u = .slice ao len cap ∧ len ≤ cap ∧ cap ≤ maxLen ∧ cs.length = len * sz ∧
      (cs = [] ∨ ∃ a : Addr, ao = some a ∧ a.spot = none ∧ P a.block ∧ ImmL w P cs a.block a.off)
  | .und, _ => True
  | _, _ => False
def ImmL (w : World) (P : Nat → Prop) : List A → Nat → Nat → Prop
  | [], _, _ => True
  | c :: cs, b, k => (∃ u, w.cell? ⟨b, k, none⟩ = some u ∧ u.oneCell' = true ∧ Imm w P c u) ∧ ImmL w P cs b (k + 1)
end

/-- The blocks whose data a call may use as data that nobody writes. -/
class Use where
  B : Nat → Prop

def isProt [Use] (L : Lab) : Nat → Prop := fun b => L b = .prot ∧ Use.B b

theorem isProt_mono [Use] {w w' : World} {L L' : Lab} (h : ∀ b, L b = .prot → L' b = .prot ∧ w'.heap[b]? = w.heap[b]?) : ∀ b, isProt L b → isProt L' b ∧ w'.heap[b]? = w.heap[b]? :=
  fun b hb => ⟨⟨(h b hb.1).1, hb.2⟩, (h b hb.1).2⟩

mutual
/-- A cell of a root: an owned array lies in a block of its own. -/
def Own [Use] (w : World) (L : Lab) : A → Id → List Nat → Value → Prop
  | .i k n, _, _, u => u = .int k n ∧ (Lit.int k n).wf = true
  | .b v, _, _, u => u = .bool v
  | .s true sz len cs, id, p, u => (u = .slice none 0 0 ∧ len = 0 ∧ cs = []) ∨
      ∃ b cur e cap, u = .slice (some ⟨b, 0, none⟩) len cap ∧ L b = .at id p ∧ w.heap[b]? = some (.cells cur e (0, 0)) ∧ cur.size = cap * sz ∧ len ≤ cap ∧ cap ≤ maxLen ∧
        cs.length = len * sz ∧ OwnL w L cs id p 0 cur.toList
  | .s false sz len cs, _, _, u => Imm w (isProt L) (.s false sz len cs) u
  | .und, _, _, _ => True
  | _, _, _, _ => False
def OwnL [Use] (w : World) (L : Lab) : List A → Id → List Nat → Nat → List Value → Prop
  | [], _, _, _, _ => True
  | c :: cs, id, p, k, u :: us => (u.oneCell' = true ∧ Own w L c id (p ++ [k]) u) ∧ OwnL w L cs id p (k + 1) us
  | _ :: _, _, _, _, [] => False
end

def verLe (hp : Hp) (id : Id) (path : List Nat) (ver : Nat) : Prop := ∀ r, hp id = some r → ∀ c p, path = c :: p → ver ≤ r.ver c

mutual
/-- A value in a slot. U: the instances that have been used. -/
def Rep [Use] (U : Nat → Prop) (w : World) (L : Lab) (hp : Hp) : A → Value → Prop
  | .i k n, u => u = .int k n ∧ (Lit.int k n).wf = true
  | .b v, u => u = .bool v
  | .s true _ len cs, u => u = .slice none 0 0 ∧ len = 0 ∧ cs = []
  | .s false sz len cs, u => Imm w (isProt L) (.s false sz len cs) u
  | .ref id path ver off sz len, u => U id.1 ∧ verLe hp id path ver ∧ ∃ ao cap, u = .slice ao len cap ∧ len ≤ cap ∧ cap ≤ maxLen ∧
      (node hp id path ver ≠ none → (ao = none ∧ len = 0 ∧ cap = 0) ∨
        ∃ b cur e, ao = some ⟨b, off, none⟩ ∧ L b = .at id path ∧ w.heap[b]? = some (.cells cur e (0, 0)) ∧ off + cap * sz = cur.size)
  | .ptr id path ver off, u => U id.1 ∧ verLe hp id path ver ∧ ∃ ad, u = .pointer (some ad) ∧ (node hp id path ver ≠ none → ∃ b, ad = ⟨b, off, none⟩ ∧ L b = .at id path)
  | .ep cs, u => ∃ a : Addr, u = .pointer (some a) ∧ a.spot = none ∧ (cs = [] ∨ (isProt L a.block ∧ ImmL w (isProt L) cs a.block a.off))
  | .agg xs, u => ∃ us : Array Value, u = .agg us ∧ RepL U w L hp xs us.toList
  | .tup xs, u => ∃ us : Array Value, u = .tuple us ∧ RepL U w L hp xs us.toList
  | .und, _ => True
  | .ub, u => ∃ v, u = .bool v
def RepL [Use] (U : Nat → Prop) (w : World) (L : Lab) (hp : Hp) : List A → List Value → Prop
  | [], [] => True
  | x :: xs, u :: us => Rep U w L hp x u ∧ RepL U w L hp xs us
  | _, _ => False
end

theorem cell_of_heap [Use] {w w' : World} {b k : Nat} (h : w'.heap[b]? = w.heap[b]?) : w'.cell? ⟨b, k, none⟩ = w.cell? ⟨b, k, none⟩ := World.cell?_of_block (a := ⟨b, k, none⟩) h

mutual
theorem Imm.mono [Use] {w w' : World} {P P' : Nat → Prop} (h : ∀ b, P b → P' b ∧ w'.heap[b]? = w.heap[b]?) : ∀ (a : A) (u : Value), Imm w P a u → Imm w' P' a u
  | .i k n, u, hi => hi
  | .b v, u, hi => hi
  | .s o sz len cs, u, ⟨ao, cap, h1, h2, h3, h4, h5⟩ => ⟨ao, cap, h1, h2, h3, h4, h5.imp id fun ⟨a, e1, e2, e3, e4⟩ => ⟨a, e1, e2, (h _ e3).1, ImmL.mono h cs a.block a.off e3 e4⟩⟩
  | .und, _, _ => trivial
  | .ref .., _, hi => hi.elim
  | .ptr .., _, hi => hi.elim
  | .ep _, _, hi => hi.elim
  | .agg _, _, hi => hi.elim
  | .tup _, _, hi => hi.elim
  | .ub, _, hi => hi.elim
theorem ImmL.mono [Use] {w w' : World} {P P' : Nat → Prop} (h : ∀ b, P b → P' b ∧ w'.heap[b]? = w.heap[b]?) : ∀ (cs : List A) (b k : Nat), P b → ImmL w P cs b k → ImmL w' P' cs b k
  | [], _, _, _, _ => trivial
  | c :: cs, b, k, hb, ⟨⟨u, hu, h1, hi⟩, hr⟩ => ⟨⟨u, (cell_of_heap (h b hb).2).trans hu, h1, Imm.mono h c u hi⟩, ImmL.mono h cs b (k + 1) hb hr⟩
end

mutual
/-- An owned part, in a world and under labels in which its own blocks, and all that is held from before, are as they were (its own labels moved along). -/
theorem Own.move [Use] {w w' : World} {L L' : Lab} {id id' : Id} (hp : ∀ b, L b = .prot → L' b = .prot ∧ w'.heap[b]? = w.heap[b]?) :
    ∀ (a : A) (p p' : List Nat) (u : Value), (∀ b q, L b = .at id (p ++ q) → L' b = .at id' (p' ++ q) ∧ w'.heap[b]? = w.heap[b]?) → Own w L a id p u → Own w' L' a id' p' u
  | .i k n, _, _, u, _, hi => hi
  | .b v, _, _, u, _, hi => hi
  | .s true sz len cs, p, p', u, ha, hi => by
    simp only [Own] at hi ⊢
    rcases hi with hi | ⟨b, cur, e, cap, h1, h2, h3, h4, h5, h6, h7, h8⟩
    · exact .inl hi
    · have hb := ha b [] (by simpa using h2)
      exact .inr ⟨b, cur, e, cap, h1, by simpa using hb.1, hb.2.trans h3, h4, h5, h6, h7, OwnL.move hp cs p p' 0 cur.toList ha h8⟩
  | .s false sz len cs, _, _, u, _, hi => by
    simp only [Own] at hi ⊢
    exact Imm.mono (P := isProt L) (P' := isProt L') (isProt_mono hp) _ _ hi
  | .und, _, _, _, _, _ => by simp [Own]
  | .ref .., _, _, _, _, hi => by simp [Own] at hi
  | .ptr .., _, _, _, _, hi => by simp [Own] at hi
  | .ep _, _, _, _, _, hi => by simp [Own] at hi
  | .agg _, _, _, _, _, hi => by simp [Own] at hi
  | .tup _, _, _, _, _, hi => by simp [Own] at hi
  | .ub, _, _, _, _, hi => by simp [Own] at hi
theorem OwnL.move [Use] {w w' : World} {L L' : Lab} {id id' : Id} (hp : ∀ b, L b = .prot → L' b = .prot ∧ w'.heap[b]? = w.heap[b]?) :
    ∀ (cs : List A) (p p' : List Nat) (k : Nat) (us : List Value), (∀ b q, L b = .at id (p ++ q) → L' b = .at id' (p' ++ q) ∧ w'.heap[b]? = w.heap[b]?) → OwnL w L cs id p k us → OwnL w' L' cs id' p' k us
  | [], _, _, _, _, _, _ => by simp [OwnL]
  | c :: cs, p, p', k, u :: us, ha, hi => by
    simp only [OwnL] at hi ⊢
    refine ⟨⟨hi.1.1, Own.move hp c (p ++ [k]) (p' ++ [k]) u (fun b q hb => ?_) hi.1.2⟩, OwnL.move hp cs p p' (k + 1) us ha hi.2⟩
    have := ha b ([k] ++ q) (by simpa using hb)
    simpa using this
  | _ :: _, _, _, _, [], _, hi => by simp [OwnL] at hi
end

/-- What a value in a slot asks of the world. -/
structure Keeps (U : Nat → Prop) (w : World) (L : Lab) (hp : Hp) (U' : Nat → Prop) (w' : World) (L' : Lab) (hp' : Hp) : Prop where
  used : ∀ k, U k → U' k
  prot : ∀ b, L b = .prot → L' b = .prot ∧ w'.heap[b]? = w.heap[b]?
  root : ∀ id r', hp' id = some r' → U id.1 → ∃ r, hp id = some r ∧ ∀ c, r.ver c ≤ r'.ver c
  node : ∀ id path ver, U id.1 → verLe hp id path ver → node hp' id path ver ≠ none → node hp id path ver ≠ none ∧ ∀ b, L b = .at id path → L' b = .at id path ∧
    ∀ cur e, w.heap[b]? = some (.cells cur e (0, 0)) → ∃ cur', w'.heap[b]? = some (.cells cur' e (0, 0)) ∧ cur'.size = cur.size

theorem Keeps.rfl' [Use] {U : Nat → Prop} {w : World} {L : Lab} {hp : Hp} : Keeps U w L hp U w L hp :=
  ⟨fun _ h => h, fun _ h => ⟨h, rfl⟩, fun _ r h _ => ⟨r, h, fun _ => Nat.le_refl _⟩, fun _ _ _ _ _ h => ⟨h, fun _ hb => ⟨hb, fun cur _ hc => ⟨cur, hc, rfl⟩⟩⟩⟩

theorem Keeps.verLe [Use] {U U' : Nat → Prop} {w w' : World} {L L' : Lab} {hp hp' : Hp} (h : Keeps U w L hp U' w' L' hp') {id : Id} {path : List Nat} {ver : Nat} (hu : U id.1) (hv : verLe hp id path ver) :
    TM.verLe hp' id path ver := by
  intro r' hr' c p hp
  obtain ⟨r, h1, h2⟩ := h.root id r' hr' hu
  exact Nat.le_trans (hv r h1 c p hp) (h2 c)

theorem Keeps.trans [Use] {U U' U'' : Nat → Prop} {w w' w'' : World} {L L' L'' : Lab} {hp hp' hp'' : Hp} (h : Keeps U w L hp U' w' L' hp') (h' : Keeps U' w' L' hp' U'' w'' L'' hp'') :
    Keeps U w L hp U'' w'' L'' hp'' := by
  refine ⟨fun k hk => h'.used k (h.used k hk), fun b hb => ?_, fun id r'' hr hu => ?_, fun id path ver hu hv hn => ?_⟩
  · obtain ⟨h1, h2⟩ := h.prot b hb
    obtain ⟨h3, h4⟩ := h'.prot b h1
    exact ⟨h3, h4.trans h2⟩
  · obtain ⟨r', h1, h2⟩ := h'.root id r'' hr (h.used _ hu)
    obtain ⟨r, h3, h4⟩ := h.root id r' h1 hu
    exact ⟨r, h3, fun c => Nat.le_trans (h4 c) (h2 c)⟩
  · obtain ⟨h1, h2⟩ := h'.node id path ver (h.used _ hu) (h.verLe hu hv) hn
    obtain ⟨h3, h4⟩ := h.node id path ver hu hv h1
    refine ⟨h3, fun b hb => ?_⟩
    obtain ⟨h5, h6⟩ := h4 b hb
    obtain ⟨h7, h8⟩ := h2 b h5
    refine ⟨h7, fun cur e hc => ?_⟩
    obtain ⟨c1, h9, h10⟩ := h6 cur e hc
    obtain ⟨c2, h11, h12⟩ := h8 c1 e h9
    exact ⟨c2, h11, h12.trans h10⟩

mutual
theorem Rep.mono [Use] {U U' : Nat → Prop} {w w' : World} {L L' : Lab} {hp hp' : Hp} (h : Keeps U w L hp U' w' L' hp') : ∀ (a : A) (u : Value), Rep U w L hp a u → Rep U' w' L' hp' a u
  | .i k n, u, hi => hi
  | .b v, u, hi => hi
  | .s true sz len cs, u, hi => by simpa [Rep] using hi
  | .s false sz len cs, u, hi => by
    simp only [Rep] at hi ⊢
    exact Imm.mono (P := isProt L) (P' := isProt L') (isProt_mono h.prot) _ _ hi
  | .ref id path ver off sz len, u, hi => by
    simp only [Rep] at hi ⊢
    obtain ⟨hu, hv, ao, cap, h1, h2, h3, h4⟩ := hi
    refine ⟨h.used _ hu, h.verLe hu hv, ao, cap, h1, h2, h3, fun hn => ?_⟩
    obtain ⟨hn', hb'⟩ := h.node id path ver hu hv hn
    rcases h4 hn' with h5 | ⟨b, cur, e, e1, e2, e3, e4⟩
    · exact .inl h5
    · obtain ⟨e5, e6⟩ := hb' b e2
      obtain ⟨cur', e7, e8⟩ := e6 cur e e3
      exact .inr ⟨b, cur', e, e1, e5, e7, by rw [e8]; exact e4⟩
  | .ptr id path ver off, u, hi => by
    simp only [Rep] at hi ⊢
    obtain ⟨hu, hv, ad, h1, h2⟩ := hi
    refine ⟨h.used _ hu, h.verLe hu hv, ad, h1, fun hn => ?_⟩
    obtain ⟨hn', hb'⟩ := h.node id path ver hu hv hn
    obtain ⟨b, e1, e2⟩ := h2 hn'
    exact ⟨b, e1, (hb' b e2).1⟩
  | .ep cs, u, hi => by
    simp only [Rep] at hi ⊢
    obtain ⟨a, h1, h2, h3⟩ := hi
    exact ⟨a, h1, h2, h3.imp id fun ⟨e1, e2⟩ => ⟨(isProt_mono h.prot _ e1).1, ImmL.mono (P := isProt L) (P' := isProt L') (isProt_mono h.prot) cs a.block a.off e1 e2⟩⟩
  | .agg xs, u, hi => by
    simp only [Rep] at hi ⊢
    obtain ⟨us, h1, h2⟩ := hi
    exact ⟨us, h1, RepL.mono h xs us.toList h2⟩
  | .tup xs, u, hi => by
    simp only [Rep] at hi ⊢
    obtain ⟨us, h1, h2⟩ := hi
    exact ⟨us, h1, RepL.mono h xs us.toList h2⟩
  | .und, _, _ => by simp [Rep]
  | .ub, _, hi => by simpa [Rep] using hi
theorem RepL.mono [Use] {U U' : Nat → Prop} {w w' : World} {L L' : Lab} {hp hp' : Hp} (h : Keeps U w L hp U' w' L' hp') : ∀ (xs : List A) (us : List Value), RepL U w L hp xs us → RepL U' w' L' hp' xs us
  | [], [], _ => by simp [RepL]
  | x :: xs, u :: us, hi => by
    simp only [RepL] at hi ⊢
    exact ⟨Rep.mono h x u hi.1, RepL.mono h xs us hi.2⟩
  | [], _ :: _, hi => by simp [RepL] at hi
  | _ :: _, [], hi => by simp [RepL] at hi
end

/-- The heap of roots lies in the world; what was there before the call is held as it was. -/
structure HRel [Use] (w0 : World) (L0 : Lab) (U : Nat → Prop) (hp : Hp) (w : World) (L : Lab) : Prop where
  roots : ∀ id r, hp id = some r → ∃ u, Own w L (.s true r.sz r.len r.cs) id [] u
  inj : ∀ b b' id p, L b = .at id p → L b' = .at id p → b = b'
  free : ∀ b, w.heap.size ≤ b → L b = .free
  used : ∀ b id p, L b = .at id p → U id.1
  usedR : ∀ id r, hp id = some r → U id.1
  prot : ∀ b, L0 b = .prot → L b = .prot ∧ w.heap[b]? = w0.heap[b]?
  size : w0.heap.size ≤ w.heap.size
  os : w.os = w0.os
  tape : w.tape = w0.tape
  output : w.output = w0.output
  use : ∀ b, L0 b ≠ .prot → Use.B b
  frz : ∀ b c e f, L0 b ≠ .prot → w.heap[b]? = some (.cells c e f) → f = (0, 0)

/-! ### Nodes -/

theorem OwnL.get [Use] {w : World} {L : Lab} {id : Id} {p : List Nat} : ∀ (cs : List A) (k : Nat) (us : List Value), OwnL w L cs id p k us → ∀ j c, cs[j]? = some c →
    ∃ u, us[j]? = some u ∧ u.oneCell' = true ∧ Own w L c id (p ++ [k + j]) u
  | [], _, _, _, j, c, h => by simp at h
  | c0 :: cs, k, u :: us, hi, 0, c, h => by
    simp only [OwnL] at hi
    simp at h
    subst h
    exact ⟨u, by simp, hi.1.1, by simpa using hi.1.2⟩
  | c0 :: cs, k, u :: us, hi, j + 1, c, h => by
    simp only [OwnL] at hi
    obtain ⟨u', h1, h2, h3⟩ := OwnL.get cs (k + 1) us hi.2 j c (by simpa using h)
    exact ⟨u', by simpa using h1, h2, by rwa [show k + (j + 1) = k + 1 + j from by omega]⟩
  | _ :: _, _, [], hi, _, _, _ => by simp [OwnL] at hi

theorem OwnL.intro [Use] {w : World} {L : Lab} {id : Id} {p : List Nat} : ∀ (cs : List A) (k : Nat) (us : List Value),
    (∀ j c, cs[j]? = some c → ∃ u, us[j]? = some u ∧ u.oneCell' = true ∧ Own w L c id (p ++ [k + j]) u) → OwnL w L cs id p k us
  | [], _, _, _ => by simp [OwnL]
  | c :: cs, k, [], h => by
    obtain ⟨u, h1, _⟩ := h 0 c (by simp)
    simp at h1
  | c :: cs, k, u :: us, h => by
    simp only [OwnL]
    obtain ⟨u', h1, h2, h3⟩ := h 0 c (by simp)
    simp at h1
    subst h1
    refine ⟨⟨h2, by simpa using h3⟩, OwnL.intro cs (k + 1) us fun j c' hc => ?_⟩
    obtain ⟨u', h4, h5, h6⟩ := h (j + 1) c' (by simpa using hc)
    exact ⟨u', by simpa using h4, h5, by rwa [show k + 1 + j = k + (j + 1) from by omega]⟩

/-- The node at a path is owned at that path. -/
theorem Own.getP [Use] {w : World} {L : Lab} {id : Id} : ∀ (q p : List Nat) (sz len : Nat) (cs : List A) (u : Value) (x : Nat × Nat × List A), Own w L (.s true sz len cs) id p u → getP sz len cs q = some x →
    ∃ u', Own w L (.s true x.1 x.2.1 x.2.2) id (p ++ q) u'
  | [], p, sz, len, cs, u, x, h, hg => by
    simp [TM.getP] at hg
    subst hg
    exact ⟨u, by simpa using h⟩
  | c :: q, p, sz, len, cs, u, x, h, hg => by
    simp only [TM.getP] at hg
    split at hg
    · rename_i sz' len' cs' hc
      simp only [Own] at h
      rcases h with ⟨_, _, rfl⟩ | ⟨b, cur, e, cap, h1, h2, h3, h4, h5, h6, h7, h8⟩
      · simp at hc
      · obtain ⟨u', h9, h10, h11⟩ := OwnL.get cs 0 cur.toList h8 c _ hc
        simp only [Nat.zero_add] at h11
        obtain ⟨u'', h12⟩ := Own.getP q (p ++ [c]) sz' len' cs' u' x h11 hg
        exact ⟨u'', by simpa using h12⟩
    · cases hg

/-- What is known of a node whose block is known. -/
theorem HRel.node [Use] {w0 : World} {L0 : Lab} {U : Nat → Prop} {hp : Hp} {w : World} {L : Lab} (h : HRel w0 L0 U hp w L) {id : Id} {path : List Nat} {ver sz len : Nat} {cs : List A}
    (hn : node hp id path ver = some (sz, len, cs)) : ∃ u, Own w L (.s true sz len cs) id path u := by
  unfold TM.node at hn
  split at hn
  · rename_i r hr
    split at hn
    · obtain ⟨u, hu⟩ := h.roots id r hr
      obtain ⟨u', h'⟩ := Own.getP path [] _ _ _ u _ hu hn
      exact ⟨u', by simpa using h'⟩
    · cases hn
  · cases hn

theorem HRel.block [Use] {w0 : World} {L0 : Lab} {U : Nat → Prop} {hp : Hp} {w : World} {L : Lab} (h : HRel w0 L0 U hp w L) {id : Id} {path : List Nat} {ver sz len : Nat} {cs : List A}
    (hn : TM.node hp id path ver = some (sz, len, cs)) {b : Nat} (hb : L b = .at id path) (hc : cs ≠ []) :
    ∃ cur e cap, w.heap[b]? = some (.cells cur e (0, 0)) ∧ cur.size = cap * sz ∧ len ≤ cap ∧ cap ≤ maxLen ∧ cs.length = len * sz ∧ OwnL w L cs id path 0 cur.toList := by
  obtain ⟨u, hu⟩ := h.node hn
  simp only [Own] at hu
  rcases hu with ⟨_, _, rfl⟩ | ⟨b', cur, e, cap, h1, h2, h3, h4, h5, h6, h7, h8⟩
  · exact (hc rfl).elim
  · obtain rfl := h.inj b b' id path hb h2
    exact ⟨cur, e, cap, h3, h4, h5, h6, h7, h8⟩

end Go.TM

/-! The tree machine, 3: the operations that leave the heap as it is. -/
namespace Go.TM
set_option linter.unusedVariables false
set_option linter.unusedSimpArgs false

/-- The concrete value of a type's zero cell. -/
def zv : A → Value
  | .i k n => .int k n
  | .b v => .bool v
  | .s .. => .slice none 0 0
  | _ => .pointer none

/-- A zero cell is a number, a bool, a nil slice; or nothing is said of it. -/
def zok : A → Bool
  | .i k n => (Lit.int k n).wf
  | .b _ => true
  | .s true _ 0 [] => true
  | .und => true
  | _ => false

/-- What the table says of a type is so. -/
structure TIok (P : Program) (t : Nat) (ti : TI) : Prop where
  info : ∃ i z, P.info? t = some i ∧ i.size = ti.sz ∧ i.bytes = ti.bytes ∧ i.zero = some z ∧ z.cells.toList = ti.zero.map zv
  zlen : ti.zero.length = ti.sz
  zok : ti.zero.all TM.zok = true
  agg : ∃ d, P.underlying t = some d ∧ ti.agg = (match d with | .struct _ => true | .array _ _ => true | _ => false)
  kind : match ti.kind with
    | .int k => P.underlying t = some (.int k)
    | .bool => P.underlying t = some .bool
    | .slice e => P.underlying t = some (.slice e)
    | .struct fs => ∃ fields, P.underlying t = some (.struct fields) ∧ fs = fields.toList.map (fun f => (f.offset, f.type)) ∧ ∀ f ∈ fields.toList, ∃ i, P.info? f.type = some i ∧ i.size ≠ 0
    | .array n e => P.underlying t = some (.array n e)
    | .pointer e => P.underlying t = some (.pointer e)
    | .other => True

def TabOk (P : Program) (T : Nat → Option TI) : Prop := ∀ t ti, T t = some ti → TIok P t ti

theorem TabOk.slice [Use] {P : Program} {T : Nat → Option TI} (hT : TabOk P T) {t e : Nat} (h : kindOf T t = .slice e) : P.underlying t = some (.slice e) := by
  unfold kindOf at h
  split at h
  · rename_i ti ht
    have := (hT t ti ht).kind
    rw [h] at this
    exact this
  · cases h

theorem TabOk.array [Use] {P : Program} {T : Nat → Option TI} (hT : TabOk P T) {t n e : Nat} (h : kindOf T t = .array n e) : P.underlying t = some (.array n e) := by
  unfold kindOf at h
  split at h
  · rename_i ti ht
    have := (hT t ti ht).kind
    rw [h] at this
    exact this
  · cases h

theorem TabOk.struct [Use] {P : Program} {T : Nat → Option TI} (hT : TabOk P T) {t : Nat} {fs : List (Nat × Nat)} (h : kindOf T t = .struct fs) :
    ∃ fields, P.underlying t = some (.struct fields) ∧ fs = fields.toList.map (fun f => (f.offset, f.type)) ∧ ∀ f ∈ fields.toList, ∃ i, P.info? f.type = some i ∧ i.size ≠ 0 := by
  unfold kindOf at h
  split at h
  · rename_i ti ht
    have := (hT t ti ht).kind
    rw [h] at this
    exact this
  · cases h

/-- The frame's slots hold what the abstract slots say. -/
def Slots [Use] (U : Nat → Prop) (w : World) (L : Lab) (hp : Hp) (sl : Nat → A) (tmps : Array Value) : Prop := ∀ t, Rep U w L hp (sl t) (tmps.getD t undef)

section
variable {P : Program} {T : Nat → Option TI} {U : Nat → Prop} {w : World} {L : Lab} {hp : Hp} {sl : Nat → A} {a : Act}

theorem rep_ofConst [Use] (ty : Nat) (v : Value) : Rep U w L hp (ofConst T ty v) v := by
  unfold ofConst
  split
  · split
    · rename_i n h
      simp only [Rep, Lit.wf, IntKind.min, IntKind.max, IntKind.signed, IntKind.bits]
      refine ⟨trivial, ?_⟩
      simp
      omega
    · simp [Rep]
  · simp [Rep]
  · split
    · split
      · split
        · simp [Rep]
        · simp [Rep]
      · simp [Rep]
    · simp [Rep]
  · simp [Rep]

theorem rep_ev [Use] (h : Slots U w L hp sl a.tmps) (ty : Nat) (x : Operand) : Rep U w L hp (ev T sl ty x) (a.eval x) := by
  cases x with
  | tmp t => exact h t
  | const v => exact rep_ofConst ty v
  | global g => simp [ev, Rep]
  | func f => simp [ev, Rep]

theorem rep_i [Use] {k : IntKind} {n : Int} {u : Value} (h : Rep U w L hp (.i k n) u) : u = .int k n ∧ (Lit.int k n).wf = true := by simpa [Rep] using h
theorem rep_b [Use] {v : Bool} {u : Value} (h : Rep U w L hp (.b v) u) : u = .bool v := by simpa [Rep] using h

theorem wf_wrap [Use] (k : IntKind) (n : Int) : (Lit.int k (k.wrap n)).wf = true := by
  cases k <;> simp [Lit.wf, IntKind.min, IntKind.max, IntKind.wrap, IntKind.signed, IntKind.bits] <;> omega

theorem wf_bd [Use] {k : IntKind} {n : Int} (h : (Lit.int k n).wf = true) : k.min ≤ n ∧ n ≤ k.max := by simpa [Lit.wf] using h

theorem wf_tmod [Use] {k : IntKind} {x y : Int} (h : (Lit.int k x).wf = true) : (Lit.int k (x.tmod y)).wf = true := by
  have hb := wf_bd h
  have h0 : k.min ≤ 0 ∧ 0 ≤ k.max := by cases k <;> decide
  simp only [Lit.wf, Bool.and_eq_true, decide_eq_true_eq]
  rcases Int.le_total 0 x with hx | hx
  · have h1 := Int.tmod_nonneg y hx
    have h2 : x.tmod y ≤ x := by
      have := Int.natAbs_tmod x y
      have h3 : (x.natAbs % y.natAbs) ≤ x.natAbs := Nat.mod_le _ _
      omega
    omega
  · have h1 : x.tmod y ≤ 0 := by
      have := Int.neg_tmod (-x) y
      rw [Int.neg_neg] at this
      rw [this]
      have := Int.tmod_nonneg y (show 0 ≤ -x by omega)
      omega
    have h2 : x ≤ x.tmod y := by
      have := Int.natAbs_tmod x y
      have h3 : (x.natAbs % y.natAbs) ≤ x.natAbs := Nat.mod_le _ _
      omega
    omega

/-- A scalar as a value. -/
def valS : A → Value
  | .i k n => .int k n
  | .b v => .bool v
  | _ => undef

theorem run_binI [Use] (op : BinOp) (t : Nat) {k : IntKind} {x y : Int} {r : A} (hx : (Lit.int k x).wf = true) (h : binI op k x y = some r) (xo yo : Operand) :
    (do eqGuard op t xo yo (.int k x) (.int k y); binOp op t (.int k x) (.int k y) : Sem Value).run P w = .ok (valS r) w ∧ Rep U w L hp r (valS r) := by
  unfold binI at h
  split at h
  case h_4 =>
    split at h
    · cases h
    · rename_i h0
      cases h
      exact ⟨by simp [eqGuard, binOp, Op.intDiv, h0, valS], by simp [Rep, wf_wrap, valS]⟩
  case h_5 =>
    split at h
    · cases h
    · rename_i h0
      cases h
      exact ⟨by simp [eqGuard, binOp, Op.intDiv, h0, valS], by simp [Rep, wf_tmod hx, valS]⟩
  all_goals first
    | (cases h; done)
    | (cases h; exact ⟨by simp [eqGuard, binOp, Op.intArith, Op.intBits, Op.intCmp, valS], by simp [Rep, wf_wrap, valS]⟩)

theorem kindOf_bool [Use] (hT : TabOk P T) {t : Nat} (h : isBoolK (kindOf T t) = true) : P.underlying t = some .bool := by
  unfold kindOf at h
  split at h
  · rename_i ti ht
    have := (hT t ti ht).kind
    revert this h
    cases ti.kind <;> simp [isBoolK]
  · cases h

theorem run_equalIn_bool [Use] (d : Nat) {t : Nat} (x y : Bool) (hu : P.underlying t = some .bool) : (Op.equalIn (d + 1) t (.bool x) (.bool y)).run P w = .ok (x == y) w := by
  simp [Op.equalIn, run_underlying hu]

theorem run_equal_bool [Use] {t : Nat} (x y : Bool) (hu : P.underlying t = some .bool) : (Op.equal t (.bool x) (.bool y)).run P w = .ok (x == y) w :=
  run_equalIn_bool 9999 x y hu

theorem run_binA [Use] (hT : TabOk P T) (op : BinOp) (t : Nat) {x y r : A} {u v : Value} (hx : Rep U w L hp x u) (hy : Rep U w L hp y v) (h : binA (kindOf T t) op x y = some r) (xo yo : Operand) :
    (do eqGuard op t xo yo u v; binOp op t u v : Sem Value).run P w = .ok (valS r) w ∧ Rep U w L hp r (valS r) := by
  unfold binA at h
  split at h
  · split at h
    · rename_i hk
      subst hk
      obtain ⟨rfl, wx⟩ := rep_i hx
      obtain ⟨rfl, wy⟩ := rep_i hy
      exact run_binI op t wx h xo yo
    · cases h
  · split at h
    · rename_i hk
      obtain rfl := rep_b hx
      obtain rfl := rep_b hy
      have hu := kindOf_bool hT hk
      split at h <;> cases h <;> exact ⟨by simp [eqGuard, binOp, run_equal_bool _ _ hu, valS, bne], by simp [Rep, valS]⟩
    · cases h
  · cases h

theorem run_unA [Use] (op : UnOp) {x r : A} {u : Value} (hx : Rep U w L hp x u) (h : unA op x = some r) : (Op.unary op u).run P w = .ok (valS r) w ∧ Rep U w L hp r (valS r) := by
  unfold unA at h
  split at h
  · cases h
    obtain rfl := rep_b hx
    exact ⟨by simp [Op.unary, valS], by simp [Rep, valS]⟩
  · cases h
    obtain ⟨rfl, wx⟩ := rep_i hx
    exact ⟨by simp [Op.unary, Op.intArith, valS], by simp [Rep, valS, wf_wrap]⟩
  · cases h

/-! ### Data that is only read -/

theorem ImmL.get [Use] {Q : Nat → Prop} {b : Nat} : ∀ (cs : List A) (k : Nat), ImmL w Q cs b k → ∀ (j : Nat) (c : A), cs[j]? = some c → ∃ u, w.cell? ⟨b, k + j, none⟩ = some u ∧ u.oneCell' = true ∧ Imm w Q c u
  | [], _, _, j, c, h => by simp at h
  | c0 :: cs, k, ⟨⟨u, h1, h2, h3⟩, _⟩, 0, c, h => by
    simp at h
    subst h
    exact ⟨u, by simpa using h1, h2, h3⟩
  | c0 :: cs, k, ⟨_, hr⟩, j + 1, c, h => by
    have := ImmL.get cs (k + 1) hr j c (by simpa using h)
    rwa [show k + (j + 1) = k + 1 + j from by omega]

theorem ImmL.drop [Use] {Q : Nat → Prop} {b : Nat} : ∀ (n : Nat) (cs : List A) (k : Nat), ImmL w Q cs b k → ImmL w Q (cs.drop n) b (k + n)
  | 0, cs, k, h => by simpa using h
  | n + 1, [], k, h => by simp [ImmL]
  | n + 1, c :: cs, k, ⟨_, hr⟩ => by
    have := ImmL.drop n cs (k + 1) hr
    rw [List.drop_succ_cons]
    rwa [show k + (n + 1) = k + 1 + n from by omega]

theorem ImmL.take [Use] {Q : Nat → Prop} {b : Nat} : ∀ (n : Nat) (cs : List A) (k : Nat), ImmL w Q cs b k → ImmL w Q (cs.take n) b k
  | 0, cs, k, h => by simp [ImmL]
  | n + 1, [], k, h => by simp [ImmL]
  | n + 1, c :: cs, k, ⟨h1, hr⟩ => by
    rw [List.take_succ_cons]
    exact ⟨h1, ImmL.take n cs (k + 1) hr⟩

theorem rep_imm1 [Use] {c : A} {u : Value} (h : Imm w (isProt L) c u) : Rep U w L hp (imm1 c) u := by
  cases c <;> simp_all [Imm, imm1, Rep]

theorem imm_imm1 [Use] {Q : Nat → Prop} {c : A} {u : Value} (h : Imm w Q c u) : Imm w Q (imm1 c) u := by
  cases c <;> simp_all [Imm, imm1]

/-- The values in a row of cells that is only read. -/
theorem ImmL.vals [Use] {Q : Nat → Prop} {b : Nat} : ∀ (cs : List A) (k : Nat), ImmL w Q cs b k → ∃ us : List Value, us.length = cs.length ∧ (∀ (j : Nat) (u : Value), us[j]? = some u → w.cell? ⟨b, k + j, none⟩ = some u ∧ u.oneCell' = true) ∧
    ∀ (j : Nat) (c : A) (u : Value), cs[j]? = some c → us[j]? = some u → Imm w Q c u
  | [], _, _ => ⟨[], rfl, by simp, by simp⟩
  | c :: cs, k, ⟨⟨u, h1, h2, h3⟩, hr⟩ => by
    obtain ⟨us, e1, e2, e3⟩ := ImmL.vals cs (k + 1) hr
    refine ⟨u :: us, by simp [e1], fun j v hv => ?_, fun j c' v hc hv => ?_⟩
    · cases j with
      | zero => simp at hv; subst hv; exact ⟨by simpa using h1, h2⟩
      | succ j =>
        have := e2 j v (by simpa using hv)
        rwa [show k + (j + 1) = k + 1 + j from by omega]
    · cases j with
      | zero => simp at hc hv; subst hc; subst hv; exact h3
      | succ j => exact e3 j c' v (by simpa using hc) (by simpa using hv)

theorem repL_of [Use] {xs : List A} : ∀ {us : List Value}, us.length = xs.length → (∀ (j : Nat) (x : A) (u : Value), xs[j]? = some x → us[j]? = some u → Rep U w L hp x u) → RepL U w L hp xs us := by
  induction xs with
  | nil => intro us hl _; cases us <;> simp_all [RepL]
  | cons x xs ih =>
    intro us hl h
    cases us with
    | nil => simp at hl
    | cons u us =>
      simp only [RepL]
      exact ⟨h 0 x u (by simp) (by simp), ih (by simpa using hl) fun j y v hy hv => h (j + 1) y v (by simpa using hy) (by simpa using hv)⟩

theorem repL_get [Use] {xs : List A} : ∀ {us : List Value}, RepL U w L hp xs us → us.length = xs.length ∧ ∀ (j : Nat) (x : A), xs[j]? = some x → ∃ u, us[j]? = some u ∧ Rep U w L hp x u := by
  induction xs with
  | nil => intro us h; cases us <;> simp_all [RepL]
  | cons x xs ih =>
    intro us h
    cases us with
    | nil => simp [RepL] at h
    | cons u us =>
      simp only [RepL] at h
      obtain ⟨h1, h2⟩ := ih h.2
      refine ⟨by simp [h1], fun j y hy => ?_⟩
      cases j with
      | zero => simp at hy; subst hy; exact ⟨u, by simp, h.1⟩
      | succ j =>
        obtain ⟨v, e1, e2⟩ := h2 j y (by simpa using hy)
        exact ⟨v, by simpa using e1, e2⟩

/-! ### Loads -/

theorem run_isAgg [Use] {t : Nat} {ti : TI} (h : TIok P t ti) : (isAgg t).run P w = .ok ti.agg w := by
  obtain ⟨d, h1, h2⟩ := h.agg
  rw [h2]
  unfold isAgg
  simp only [Sem.run_bind, run_underlying h1, Result.andThen_ok]
  cases d <;> simp

theorem run_sizeOf' [Use] {t : Nat} {ti : TI} (h : TIok P t ti) : (sizeOf t).run P w = .ok ti.sz w := by
  obtain ⟨i, z, h1, h2, _⟩ := h.info
  simp [sizeOf, typeInfo, h1, h2]

theorem add_lit [Use] (b k j : Nat) : (⟨b, k, none⟩ : Addr).add j = ⟨b, k + j, none⟩ := by
  unfold Addr.add
  split <;> simp_all

/-- A load where the cells are known. -/
theorem run_loadVar' [Use] {t : Nat} {ti : TI} (h : TIok P t ti) {b k : Nat} {us : List Value} (hl : us.length = ti.sz) (hc : ∀ (j : Nat) (u : Value), us[j]? = some u → w.cell? ⟨b, k + j, none⟩ = some u)
    {xs : List A} {r : A} (hr : packA ti xs = some r) (hx : RepL U w L hp xs us) : ∃ z, (loadVar t ⟨b, k, none⟩).run P w = .ok z w ∧ Rep U w L hp r z := by
  unfold packA at hr
  split at hr
  · rename_i hxl
    unfold loadVar
    split at hr
    · rename_i hag
      cases hr
      refine ⟨.agg us.toArray, ?_, by simp only [Rep]; exact ⟨_, rfl, by simpa using hx⟩⟩
      have := run_loadCells_list (P := P) w ⟨b, k, none⟩ us (fun j v hv => by rw [add_lit]; exact hc j v hv)
      rw [hl] at this
      simp [run_isAgg h, hag, run_sizeOf' h, this]
    · rename_i hag
      obtain ⟨hlen, hget⟩ := repL_get hx
      obtain ⟨u, e1, e2⟩ := hget 0 r hr
      refine ⟨u, ?_, e2⟩
      have := hc 0 u e1
      simp only [Nat.add_zero] at this
      simp [run_isAgg h, hag, this]
  · cases hr

end
end Go.TM

/-! The tree machine, 4: the operations that leave the heap as it is, on the frame. -/
namespace Go.TM
set_option linter.unusedVariables false
set_option linter.unusedSimpArgs false

/-- The operation gives a value, and the world stays. -/
def PureOk [Use] (P : Program) (U : Nat → Prop) (w : World) (L : Lab) (hp : Hp) (a : Act) (o : Oper) (e : Eff) : Prop :=
  e.ups = [] ∧ ∃ v, (execOp a.eval o).run P w = .ok (.value v) w ∧ Rep U w L hp e.val v

section
variable {P : Program} {T : Nat → Option TI} {w0 : World} {L0 : Lab} {U : Nat → Prop} {w : World} {L : Lab} {hp : Hp} {sl : Nat → A} {a : Act} {o : Oper} {e : Eff}

theorem viewL_get [Use] (r : Root) (id : Id) (path : List Nat) (ver : Nat) : ∀ (xs : List A) (k j : Nat), (viewL r id path ver k xs)[j]? = (xs[j]?).map (view r id path ver (k + j))
  | [], _, _ => by simp [viewL]
  | x :: xs, k, 0 => by simp [viewL]
  | x :: xs, k, j + 1 => by
    simp only [viewL, List.getElem?_cons_succ]
    rw [viewL_get r id path ver xs (k + 1) j, show k + 1 + j = k + (j + 1) from by omega]

theorem viewL_length [Use] (r : Root) (id : Id) (path : List Nat) (ver : Nat) : ∀ (xs : List A) (k : Nat), (viewL r id path ver k xs).length = xs.length
  | [], _ => rfl
  | x :: xs, k => by simp [viewL, viewL_length r id path ver xs (k + 1)]

theorem node_root [Use] {id : Id} {path : List Nat} {ver : Nat} {r : Root} (hr : hp id = some r) (hn : node hp id path ver ≠ none) : verOk r path ver = true := by
  unfold node at hn
  rw [hr] at hn
  simp only at hn
  split at hn
  · assumption
  · exact (hn rfl).elim

theorem rep_view [Use] (h : HRel w0 L0 U hp w L) {id : Id} {path : List Nat} {ver k : Nat} {r : Root} {c : A} {u : Value} (hr : hp id = some r) (hv : verOk r path ver = true)
    (hc : Own w L c id (path ++ [k]) u) : Rep U w L hp (view r id path ver k c) u := by
  match c, hc with
  | .i kd n, hc => simpa [view, Rep, Own] using hc
  | .b v, hc => simpa [view, Rep, Own] using hc
  | .und, _ => simp [view, Rep]
  | .s false sz len cs, hc => simpa [view, Rep, Own] using hc
  | .s true sz len cs, hc =>
    simp only [view, Rep]
    refine ⟨h.usedR id r hr, ?_, ?_⟩
    · intro r' hr' c p hp'
      rw [hr] at hr'
      cases hr'
      cases path with
      | nil => simp at hp'; obtain ⟨rfl, rfl⟩ := hp'; exact Nat.le_refl _
      | cons c0 p0 => simp at hp'; obtain ⟨rfl, rfl⟩ := hp'; simp [verOk] at hv; simp [hv]
    · simp only [Own] at hc
      rcases hc with ⟨rfl, rfl, rfl⟩ | ⟨b, cur, e, cap, h1, h2, h3, h4, h5, h6, h7, h8⟩
      · exact ⟨none, 0, rfl, Nat.le_refl _, Nat.zero_le _, fun _ => .inl ⟨rfl, rfl, rfl⟩⟩
      · exact ⟨_, cap, h1, h5, h6, fun _ => .inr ⟨b, cur, e, rfl, h2, h3, by omega⟩⟩
  | .ref .., hc => simp [Own] at hc
  | .ptr .., hc => simp [Own] at hc
  | .ep _, hc => simp [Own] at hc
  | .agg _, hc => simp [Own] at hc
  | .tup _, hc => simp [Own] at hc
  | .ub, hc => simp [Own] at hc

theorem rng_get [Use] (cs : List A) (off n j : Nat) : (rng cs off n)[j]? = if j < n then cs[off + j]? else none := by
  unfold rng
  rw [List.getElem?_take]
  split <;> simp

theorem cell_row {b k : Nat} {cur : Array Value} {e : Nat} (h : w.heap[b]? = some (.cells cur e (0, 0))) : w.cell? ⟨b, k, none⟩ = cur.toList[k]? := by
  simp [World.cell?, h]

theorem load_ok [Use] (hT : TabOk P T) (h : HRel w0 L0 U hp w L) {t : Nat} {ti : TI} (ht : T t = some ti) {x : A} {u : Value} (hx : Rep U w L hp x u) (he : loadA ti hp x = some e) :
    e.ups = [] ∧ ∃ v, (Instr.loadAt t u).run P w = .ok v w ∧ Rep U w L hp e.val v := by
  have hti := hT t ti ht
  unfold loadA at he
  split at he
  · rename_i id path ver off
    split at he
    · rename_i _ _ sz len cs r hn hr
      split at he
      · rename_i hb
        simp only [Option.map_eq_some_iff] at he
        obtain ⟨v, hv, rfl⟩ := he
        refine ⟨rfl, ?_⟩
        simp only [Rep] at hx
        obtain ⟨_, _, ad, rfl, hx⟩ := hx
        obtain ⟨b, rfl, hL⟩ := hx (by simp [hn])
        have hne : cs ≠ [] := by
          rintro rfl
          obtain ⟨u, hu⟩ := h.node hn
          simp only [Own] at hu
          rcases hu with ⟨_, rfl, _⟩ | ⟨b', cur, e, cap, h1, h2, h3, h4, h5, h6, h7, h8⟩
          · omega
          · simp at h7; omega
        obtain ⟨cur, e, cap, h3, h4, h5, h6, h7, h8⟩ := h.block hn hL hne
        have hcs : cap * sz ≥ len * sz := Nat.mul_le_mul_right _ h5
        have hl : cur.toList.length = cap * sz := by simpa using h4
        have hus : ((cur.toList.drop off).take ti.sz).length = ti.sz := by simp; omega
        obtain ⟨z, hz, hzr⟩ := run_loadVar' (P := P) (U := U) (w := w) (L := L) (hp := hp) hti (b := b) (k := off) hus (fun j v hj => by
          rw [cell_row h3]
          rw [List.getElem?_take] at hj
          split at hj
          · simpa using hj
          · cases hj) hv (repL_of (by rw [hus, viewL_length]; unfold rng; simp; omega) (fun j x v hx hv' => by
            rw [viewL_get, rng_get] at hx
            rw [List.getElem?_take] at hv'
            split at hv'
            · rename_i hj
              rw [if_pos hj] at hx
              simp only [Option.map_eq_some_iff] at hx
              obtain ⟨c, hc, rfl⟩ := hx
              obtain ⟨u', e1, e2, e3⟩ := OwnL.get cs 0 _ h8 (off + j) c hc
              rw [List.getElem?_drop, e1] at hv'
              cases hv'
              exact rep_view h hr (node_root hr (by simp [hn])) (by simpa using e3)
            · cases hv'))
        exact ⟨z, by simp [Instr.loadAt, Instr.sureAddr, hz], hzr⟩
      · cases he
    · cases he
  · rename_i cs
    split at he
    · rename_i hb
      simp only [Option.map_eq_some_iff] at he
      obtain ⟨v, hv, rfl⟩ := he
      refine ⟨rfl, ?_⟩
      simp only [Rep] at hx
      obtain ⟨ad, rfl, hs, hx⟩ := hx
      rcases hx with rfl | ⟨hp1, hx⟩
      · simp at hb; omega
      · obtain ⟨us, e1, e2, e3⟩ := ImmL.vals _ _ (ImmL.take ti.sz cs ad.off hx)
        obtain ⟨z, hz, hzr⟩ := run_loadVar' (P := P) (U := U) (w := w) (L := L) (hp := hp) hti (b := ad.block) (k := ad.off) (us := us) (by rw [e1]; simp; omega) (fun j v hj => (e2 j v hj).1) hv
          (repL_of (by rw [e1]; simp) (fun j x v hx' hv' => by
            rw [List.getElem?_map] at hx'
            simp only [Option.map_eq_some_iff] at hx'
            obtain ⟨c, hc, rfl⟩ := hx'
            exact rep_imm1 (e3 j c v hc hv')))
        refine ⟨z, ?_, hzr⟩
        have had : ad = ⟨ad.block, ad.off, none⟩ := by cases ad; simp_all
        rw [had]
        simp [Instr.loadAt, Instr.sureAddr, hz]
    · cases he
  · cases he

theorem eff_load [Use] (hT : TabOk P T) (h : HRel w0 L0 U hp w L) (hs : Slots U w L hp sl a.tmps) {t : Nat} {x : Operand} (ho : o.op = .load t x)
    (he : (match T t with | some ti => loadA ti hp (ev T sl 0 x) | none => none) = some e) : PureOk P U w L hp a o e := by
  split at he
  · rename_i ti ht
    obtain ⟨h1, v, h2, h3⟩ := load_ok hT h ht (rep_ev (T := T) hs 0 x) he
    exact ⟨h1, v, by simp [execOp, ho, h2], h3⟩
  · cases he

theorem valid_ptr [Use] {id : Id} {path : List Nat} {ver off : Nat} {u : Value} (hx : Rep U w L hp (.ptr id path ver off) u) (hn : node hp id path ver ≠ none) :
    U id.1 ∧ verLe hp id path ver ∧ ∃ b, u = .pointer (some ⟨b, off, none⟩) ∧ L b = .at id path := by
  simp only [Rep] at hx
  obtain ⟨h1, h2, ad, rfl, h3⟩ := hx
  obtain ⟨b, rfl, h4⟩ := h3 hn
  exact ⟨h1, h2, b, rfl, h4⟩

theorem rep_ptr [Use] {id : Id} {path : List Nat} {ver off b : Nat} (h1 : U id.1) (h2 : verLe hp id path ver) (h3 : L b = .at id path) : Rep U w L hp (.ptr id path ver off) (.pointer (some ⟨b, off, none⟩)) := by
  simp only [Rep]
  exact ⟨h1, h2, _, rfl, fun _ => ⟨b, rfl, h3⟩⟩

theorem eff_fieldAddr [Use] (hT : TabOk P T) (hs : Slots U w L hp sl a.tmps) {s f : Nat} {x : Operand} (ho : o.op = .fieldAddr s x f)
    (he : (match kindOf T s with
      | .struct fs => match fs[f]?, ev T sl 0 x with
        | some (off, _), .ptr id path ver o => match node hp id path ver with
          | some _ => some (⟨.ptr id path ver (o + off), [], [id]⟩ : Eff)
          | none => none
        | some (off, _), .ep cs => some (.pure (.ep (cs.drop off)))
        | _, _ => none
      | _ => none) = some e) : PureOk P U w L hp a o e := by
  split at he
  · rename_i fs hk
    obtain ⟨fields, hu, rfl, hsz⟩ := hT.struct hk
    have hx := rep_ev (T := T) hs 0 x
    have key : ∀ (off ft : Nat) (ad : Addr), (fields.toList.map (fun f => (f.offset, f.type)))[f]? = some (off, ft) → a.eval x = .pointer (some ad) → (execOp a.eval o).run P w = .ok (.value (.pointer (some (ad.add off)))) w := by
      intro off ft ad hf hx'
      rw [List.getElem?_map] at hf
      simp only [Option.map_eq_some_iff] at hf
      obtain ⟨fd, hfd, h2⟩ := hf
      cases h2
      have hfd' : fields[f]? = some fd := by simpa using hfd
      obtain ⟨i, hi, hi0⟩ := hsz fd (List.mem_of_getElem? hfd)
      simp [execOp, ho, Instr.fieldAt, run_underlying hu, hfd', Instr.sureAddr, hx', fieldPlace, sizeOf, typeInfo, hi, hi0]
    split at he
    · rename_i off ft id path ver o' hf hev
      split at he
      · rename_i nn hn
        cases he
        rw [hev] at hx
        obtain ⟨h1, h2, b, h3, h4⟩ := valid_ptr hx (by simp [hn])
        refine ⟨rfl, _, key off ft _ hf h3, ?_⟩
        rw [add_lit]
        exact rep_ptr h1 h2 h4
      · cases he
    · rename_i off ft cs hf hev
      cases he
      rw [hev] at hx
      simp only [Rep] at hx
      obtain ⟨ad, h1, h2, h3⟩ := hx
      refine ⟨rfl, _, key off ft _ hf h1, ?_⟩
      simp only [Eff.pure, Rep]
      have had : ad = ⟨ad.block, ad.off, none⟩ := by cases ad; simp_all
      rw [had, add_lit]
      refine ⟨_, rfl, rfl, ?_⟩
      rcases h3 with rfl | ⟨h4, h5⟩
      · exact .inl (by simp)
      · exact .inr ⟨h4, ImmL.drop off cs ad.off h5⟩
    · cases he
  · cases he

theorem run_szOf [Use] (hT : TabOk P T) {e sz : Nat} (h : szOf T e = some sz) : (sizeOf e).run P w = .ok sz w := by
  unfold szOf at h
  simp only [Option.map_eq_some_iff] at h
  obtain ⟨ti, h1, rfl⟩ := h
  exact run_sizeOf' (hT e ti h1)

theorem eff_indexAddr [Use] (hT : TabOk P T) (h : HRel w0 L0 U hp w L) (hs : Slots U w L hp sl a.tmps) {t : Nat} {x ix : Operand} (ho : o.op = .indexAddr t x ix)
    (he : indexAddrA T (kindOf T t) hp (ev T sl 0 x) (ev T sl 0 ix) = some e) : PureOk P U w L hp a o e := by
  have hx := rep_ev (T := T) hs 0 x
  have hi := rep_ev (T := T) hs 0 ix
  unfold indexAddrA at he
  split at he
  · rename_i el id path ver off sz len n hk hex hei
    have hu := hT.slice hk
    rw [hex] at hx
    rw [hei] at hi
    obtain ⟨hi, wi⟩ := rep_i hi
    split at he
    · rename_i nsz nlen ncs hn
      split at he
      · rename_i hc
        cases he
        simp only [Rep] at hx
        obtain ⟨h1, h2, ao, cap, h3, h4, h5, h6⟩ := hx
        rcases h6 (by simp [hn]) with ⟨rfl, rfl, rfl⟩ | ⟨b, cur, ee, rfl, h7, h8, h9⟩
        · omega
        · refine ⟨rfl, .pointer (some ⟨b, off + n.toNat * sz, none⟩), ?_, rep_ptr h1 h2 h7⟩
          simp [execOp, ho, h3, hi, Instr.indexAt, asIntOf, run_underlying hu, hc.2.1, hc.2.2, run_szOf hT hc.1, add_lit]
      · cases he
    · cases he
  · rename_i el o' sz len cs n hk hex hei
    have hu := hT.slice hk
    rw [hex] at hx
    rw [hei] at hi
    obtain ⟨hi, wi⟩ := rep_i hi
    split at he
    · rename_i hc
      cases he
      cases o' with
      | true =>
        simp only [Rep] at hx
        obtain ⟨_, rfl, _⟩ := hx
        omega
      | false =>
        simp only [Rep, Imm] at hx
        obtain ⟨ao, cap, h1, h2, h3, h4, h5⟩ := hx
        have hsz : n.toNat * sz + sz ≤ cs.length := by
          rw [h4]
          have : (n.toNat + 1) * sz ≤ len * sz := Nat.mul_le_mul_right _ (by omega)
          rw [Nat.add_mul] at this
          omega
        rcases h5 with rfl | ⟨ad, rfl, e1, e2, e3⟩
        · simp at hsz; omega
        · have had : ad = ⟨ad.block, ad.off, none⟩ := by cases ad; simp_all
          refine ⟨rfl, .pointer (some (ad.add (n.toNat * sz))), ?_, ?_⟩
          · simp [execOp, ho, h1, hi, Instr.indexAt, asIntOf, run_underlying hu, hc.2.2.1, hc.2.2.2, run_szOf hT hc.2.1]
          · simp only [Eff.pure, Rep]
            rw [had, add_lit]
            exact ⟨_, rfl, rfl, .inr ⟨e2, ImmL.drop _ cs ad.off e3⟩⟩
    · cases he
  · rename_i cnt el id path ver off n hk hex hei
    have hu := hT.array hk
    rw [hex] at hx
    rw [hei] at hi
    obtain ⟨hi, wi⟩ := rep_i hi
    split at he
    · rename_i ti nn ht hn
      split at he
      · rename_i hc
        cases he
        obtain ⟨h1, h2, b, h3, h4⟩ := valid_ptr hx (by simp [hn])
        refine ⟨rfl, .pointer (some ⟨b, off + n.toNat * ti.sz, none⟩), ?_, rep_ptr h1 h2 h4⟩
        simp [execOp, ho, h3, hi, Instr.indexAt, asIntOf, run_underlying hu, Instr.sureAddr, hc.1, hc.2, run_sizeOf' (hT el ti ht), add_lit]
      · cases he
    · cases he
  · cases he

theorem bound_some [Use] {x : Option A} {l : Nat} {d : Nat} (h : boundA d x = some l) : (x = none ∧ l = d) ∨ ∃ n : Int, x = some (.i .i64 n) ∧ 0 ≤ n ∧ l = n.toNat := by
  unfold boundA at h
  split at h
  · cases h; exact .inl ⟨rfl, rfl⟩
  · split at h
    · rename_i n hn
      cases h
      exact .inr ⟨n, rfl, hn, rfl⟩
    · cases h
  · cases h

/-- The bounds of a slice expression, where they hold. -/
theorem run_bounds [Use] (hs : Slots U w L hp sl a.tmps) {lo hi : Option Operand} {l h len cap : Nat} (hlo : boundA 0 (lo.map (ev T sl 0)) = some l) (hhi : boundA len (hi.map (ev T sl 0)) = some h) (h1 : l ≤ h) (h2 : h ≤ len) (h3 : len ≤ cap) :
    (Instr.sliceBounds true len cap (lo.map a.eval) (hi.map a.eval) none).run P w = .ok (l, h, cap) w := by
  have key : ∀ (x : Operand) (n : Int) (y : Nat) (code : BoundsCode), ev T sl 0 x = .i .i64 n → 0 ≤ n → n.toNat ≤ y → (Instr.sliceBound (a.eval x) y code).run P w = .ok n.toNat w := by
    intro x n y code hx h0 hy
    have := rep_ev (T := T) hs 0 x
    rw [hx] at this
    obtain ⟨h4, _⟩ := rep_i this
    have h5 : n ≤ (y : Int) := by omega
    simp [Instr.sliceBound, asIntOf, h4, h0, h5]
  unfold Instr.sliceBounds
  rcases bound_some hlo with ⟨hl0, rfl⟩ | ⟨n, hn, hn0, rfl⟩
  · have : lo = none := by cases lo <;> simp_all
    subst this
    rcases bound_some hhi with ⟨hh0, rfl⟩ | ⟨m, hm, hm0, rfl⟩
    · have : hi = none := by cases hi <;> simp_all
      subst this
      simp
    · cases hi with
      | none => simp at hm
      | some x =>
        simp only [Option.map_some, Option.some.injEq] at hm
        have k1 := key x m cap .sliceAcap hm hm0 (by omega)
        simp [k1]
  · cases lo with
    | none => simp at hn
    | some y =>
      simp only [Option.map_some, Option.some.injEq] at hn
      rcases bound_some hhi with ⟨hh0, rfl⟩ | ⟨m, hm, hm0, rfl⟩
      · have : hi = none := by cases hi <;> simp_all
        subst this
        have k1 := key y n h .sliceB hn hn0 h1
        simp [k1]
      · cases hi with
        | none => simp at hm
        | some x =>
          simp only [Option.map_some, Option.some.injEq] at hm
          have k1 := key x m cap .sliceAcap hm hm0 (by omega)
          have k2 := key y n m.toNat .sliceB hn hn0 h1
          simp [k1, k2]

theorem imm_empty [Use] {Q : Nat → Prop} {sz cap : Nat} {ao : Option Addr} (h : cap ≤ maxLen) : Imm w Q (.s false sz 0 []) (.slice ao 0 cap) := by
  simp only [Imm]
  exact ⟨ao, cap, rfl, Nat.zero_le _, h, by simp, .inl trivial⟩

theorem ImmL.rng [Use] {Q : Nat → Prop} {b : Nat} (cs : List A) (k off n : Nat) (h : ImmL w Q cs b k) : ImmL w Q (TM.rng cs off n) b (k + off) := ImmL.take n _ _ (ImmL.drop off cs k h)

theorem eff_slice [Use] (hT : TabOk P T) (hs : Slots U w L hp sl a.tmps) {t : Nat} {x : Operand} {lo hi mx : Option Operand} (ho : o.op = .slice t x lo hi mx)
    (he : (match kindOf T t, mx with
      | .slice e, none => sliceA (szOf T e) (ev T sl 0 x) (lo.map (ev T sl 0)) (hi.map (ev T sl 0))
      | _, _ => none) = some e) : PureOk P U w L hp a o e := by
  split at he
  · rename_i el ho hk
    have hu := hT.slice hk
    have hx := rep_ev (T := T) hs 0 x
    have hrun : ∀ (ao : Option Addr) (len cap l h sz : Nat), a.eval x = .slice ao len cap → (Instr.sliceBounds true len cap (lo.map a.eval) (hi.map a.eval) none).run P w = .ok (l, h, cap) w → szOf T el = some sz →
        (execOp a.eval o).run P w = .ok (.value (.slice (if cap = l then ao else ao.map (·.add (l * sz))) (h - l) (cap - l))) w := by
      intro ao len cap l h sz h1 h2 h3
      simp [execOp, ho, Instr.sliceAt, run_underlying hu, Instr.slice, h1, h2, run_szOf hT h3]
    unfold sliceA at he
    split at he
    · rename_i id path ver off sz len hex
      split at he
      · rename_i l h hl hh
        split at he
        · rename_i hc
          cases he
          rw [hex] at hx
          simp only [Rep] at hx
          obtain ⟨h1, h2, ao, cap, h3, h4, h5, h6⟩ := hx
          refine ⟨rfl, _, hrun ao len cap l h sz h3 (run_bounds (T := T) hs hl hh hc.2.1 hc.2.2 h4) hc.1, ?_⟩
          simp only [Eff.pure]
          split
          · rename_i h0
            rw [h0]
            simp only [Rep]
            exact imm_empty (by omega)
          · rename_i h0
            simp only [Rep]
            refine ⟨h1, h2, _, cap - l, rfl, by omega, by omega, fun hn => ?_⟩
            rcases h6 hn with ⟨rfl, rfl, rfl⟩ | ⟨b, cur, ee, rfl, h7, h8, h9⟩
            · omega
            · refine .inr ⟨b, cur, ee, ?_, h7, h8, ?_⟩
              · rw [if_neg (by omega)]
                simp [add_lit]
              · rw [← h9, Nat.sub_mul, Nat.add_assoc]
                have := Nat.mul_le_mul_right sz (show l ≤ cap by omega)
                omega
        · cases he
      · cases he
    · rename_i o' sz len cs hex
      split at he
      · rename_i l h hl hh
        split at he
        · rename_i hc
          cases he
          rw [hex] at hx
          have hx' : ∃ ao cap, a.eval x = .slice ao len cap ∧ len ≤ cap ∧ cap ≤ maxLen ∧ cs.length = len * sz ∧
              (cs = [] ∨ ∃ ad : Addr, ao = some ad ∧ ad.spot = none ∧ isProt L ad.block ∧ ImmL w (isProt L) cs ad.block ad.off) := by
            cases o' with
            | true =>
              simp only [Rep] at hx
              obtain ⟨h1, rfl, rfl⟩ := hx
              exact ⟨none, 0, h1, by simp, by simp, by simp, .inl rfl⟩
            | false => simpa only [Rep, Imm] using hx
          obtain ⟨ao, cap, h1, h2, h3, h4, h5⟩ := hx'
          refine ⟨rfl, _, hrun ao len cap l h sz h1 (run_bounds (T := T) hs hl hh hc.2.1 hc.2.2 h2) hc.1, ?_⟩
          simp only [Eff.pure, Rep, Imm]
          have hle : l * sz + (h - l) * sz ≤ cs.length := by
            rw [h4, ← Nat.add_mul]
            exact Nat.mul_le_mul_right _ (by omega)
          refine ⟨_, cap - l, rfl, by omega, by omega, by unfold rng; simp; omega, ?_⟩
          rcases h5 with rfl | ⟨ad, rfl, e1, e2, e3⟩
          · exact .inl (by simp [rng])
          · by_cases hcl : cap = l
            · left
              have : h - l = 0 := by omega
              simp [rng, this]
            · right
              rw [if_neg hcl]
              have had : ad = ⟨ad.block, ad.off, none⟩ := by cases ad; simp_all
              rw [had]
              simp only [Option.map_some, add_lit]
              exact ⟨_, rfl, rfl, e2, ImmL.rng cs ad.off _ _ e3⟩
        · cases he
      · cases he
    · cases he
  · cases he

theorem rep_slice_len [Use] {x r : A} {u : Value} (hx : Rep U w L hp x u) (h : lenA x = some r) : ∃ ao len cap, u = .slice ao len cap ∧ r = .i .i64 len ∧ (Lit.int .i64 (len : Int)).wf = true := by
  have wfl : ∀ len cap : Nat, len ≤ cap → cap ≤ maxLen → (Lit.int .i64 (len : Int)).wf = true := by
    intro len cap h1 h2
    simp only [maxLen] at h2
    simp [Lit.wf, IntKind.min, IntKind.max, IntKind.signed, IntKind.bits]
    omega
  unfold lenA at h
  split at h
  · rename_i o' sz len cs
    cases h
    cases o' with
    | true =>
      simp only [Rep] at hx
      obtain ⟨rfl, rfl, rfl⟩ := hx
      exact ⟨none, 0, 0, rfl, rfl, by decide⟩
    | false =>
      simp only [Rep, Imm] at hx
      obtain ⟨ao, cap, h1, h2, h3, _⟩ := hx
      exact ⟨ao, len, cap, h1, rfl, wfl _ _ h2 h3⟩
  · cases h
    simp only [Rep] at hx
    obtain ⟨_, _, ao, cap, h1, h2, h3, _⟩ := hx
    exact ⟨ao, _, cap, h1, rfl, wfl _ _ h2 h3⟩
  · cases h

theorem eff_len [Use] (hT : TabOk P T) (hs : Slots U w L hp sl a.tmps) {c : Call} (ho : o.op = .call c) (hb : c.callee = .builtin .len)
    (he : (match c.args.toList with
      | [x] => match (c.argTypes[0]?).map (kindOf T) with
        | some (.slice _) => (lenA (ev T sl 0 x)).map Eff.pure
        | _ => none
      | _ => none) = some e) : PureOk P U w L hp a o e := by
  split at he
  · rename_i x hargs
    split at he
    · rename_i el hk
      simp only [Option.map_eq_some_iff] at hk he
      obtain ⟨t, ht, hk⟩ := hk
      obtain ⟨r, hr, rfl⟩ := he
      have hu := hT.slice hk
      obtain ⟨ao, len, cap, h1, rfl, h2⟩ := rep_slice_len (rep_ev (T := T) hs 0 x) hr
      refine ⟨rfl, .int .i64 len, ?_, by simp [Eff.pure, Rep, h2]⟩
      have ha : c.args = #[x] := by cases hc : c.args; simp_all
      simp [execOp, ho, resolve, hb, ha, invoke, builtin, Builtin.len_, ht, run_underlying hu, h1, goInt]
    · cases he
  · cases he

theorem eff_max [Use] (hs : Slots U w L hp sl a.tmps) {c : Call} (ho : o.op = .call c) (hb : c.callee = .builtin .max)
    (he : (match c.args.toList with
      | [x, y] => match ev T sl 0 x, ev T sl 0 y with
        | .i .i64 a, .i .i64 b => some (.pure (.i .i64 (if b > a then b else a)))
        | _, _ => none
      | _ => none) = some e) : PureOk P U w L hp a o e := by
  split at he
  · rename_i x y hargs
    split at he
    · rename_i n m hx hy
      cases he
      have h1 := rep_ev (T := T) hs 0 x
      have h2 := rep_ev (T := T) hs 0 y
      rw [hx] at h1
      rw [hy] at h2
      obtain ⟨h1, w1⟩ := rep_i h1
      obtain ⟨h2, w2⟩ := rep_i h2
      refine ⟨rfl, .int .i64 (if m > n then m else n), ?_, ?_⟩
      · have ha : c.args = #[x, y] := by cases hc : c.args; simp_all
        simp [execOp, ho, resolve, hb, ha, invoke, builtin, Builtin.max_, Builtin.max2, h1, h2]
      · simp only [Eff.pure, Rep]
        exact ⟨trivial, by split <;> assumption⟩
    · cases he
  · cases he

theorem eff_move [Use] (hs : Slots U w L hp sl a.tmps) {ty : Nat} {x : Operand} (ho : o.op = .move x ∨ o.op = .assign x) (he : some (Eff.pure (ev T sl ty x)) = some e) : PureOk P U w L hp a o e := by
  cases he
  refine ⟨rfl, a.eval x, ?_, rep_ev hs ty x⟩
  rcases ho with ho | ho <;> simp [execOp, ho]

theorem eff_pick [Use] (hs : Slots U w L hp sl a.tmps) {ty : Nat} {c x y : Operand} (ho : o.op = .pick c x y)
    (he : (match ev T sl 0 c with
    | .b t => some (Eff.pure (if t then ev T sl ty x else ev T sl ty y))
    | _ => none) = some e) : PureOk P U w L hp a o e := by
  split at he
  · rename_i t hc
    cases he
    have h1 := rep_ev (T := T) hs 0 c
    rw [hc] at h1
    have h1 := rep_b h1
    refine ⟨rfl, if t then a.eval x else a.eval y, by simp [execOp, ho, h1, asBool], ?_⟩
    simp only [Eff.pure]
    cases t
    · simpa using rep_ev hs ty y
    · simpa using rep_ev hs ty x
  · cases he

theorem eff_extract [Use] (hs : Slots U w L hp sl a.tmps) {x : Operand} {ix : Nat} (ho : o.op = .extract x ix)
    (he : (match ev T sl 0 x with
    | .tup xs => (xs[ix]?).map Eff.pure
    | _ => none) = some e) : PureOk P U w L hp a o e := by
  split at he
  · rename_i xs hx
    simp only [Option.map_eq_some_iff] at he
    obtain ⟨r, hr, rfl⟩ := he
    have h1 := rep_ev (T := T) hs 0 x
    rw [hx] at h1
    simp only [Rep] at h1
    obtain ⟨us, h2, h3⟩ := h1
    obtain ⟨u, e1, e2⟩ := (repL_get h3).2 ix r hr
    have e1' : us[ix]? = some u := by simpa using e1
    exact ⟨rfl, u, by simp [execOp, ho, Instr.extract, h2, e1'], e2⟩
  · cases he

theorem repL_rng [Use] {xs : List A} {us : List Value} (h : RepL U w L hp xs us) (off n : Nat) : RepL U w L hp (rng xs off n) ((us.drop off).take n) := by
  obtain ⟨h1, h2⟩ := repL_get h
  refine repL_of (by unfold rng; simp [h1]) fun j x u hx hu => ?_
  rw [rng_get] at hx
  rw [List.getElem?_take] at hu
  split at hx
  · rename_i hj
    rw [if_pos hj, List.getElem?_drop] at hu
    obtain ⟨v, e1, e2⟩ := h2 (off + j) x hx
    rw [e1] at hu
    cases hu
    exact e2
  · cases hx

theorem eff_field [Use] (hT : TabOk P T) (hs : Slots U w L hp sl a.tmps) {s f : Nat} {x : Operand} (ho : o.op = .field s x f)
    (he : (match kindOf T s, ev T sl 0 x with
    | .struct fs, .agg xs => match fs[f]? with
      | some (off, ft) => match T ft with
        | some ti => (packA ti (rng xs off ti.sz)).map Eff.pure
        | none => none
      | none => none
    | _, _ => none) = some e) : PureOk P U w L hp a o e := by
  split at he
  · rename_i fs xs hk hx
    obtain ⟨fields, hu, rfl, hsz⟩ := hT.struct hk
    have h1 := rep_ev (T := T) hs 0 x
    rw [hx] at h1
    simp only [Rep] at h1
    obtain ⟨us, h2, h3⟩ := h1
    split at he
    · rename_i off ft hf
      rw [List.getElem?_map] at hf
      simp only [Option.map_eq_some_iff] at hf
      obtain ⟨fd, hfd, h4⟩ := hf
      cases h4
      have hfd' : fields[f]? = some fd := by simpa using hfd
      split at he
      · rename_i ti ht
        simp only [Option.map_eq_some_iff] at he
        obtain ⟨r, hr, rfl⟩ := he
        have hti := hT _ ti ht
        refine ⟨rfl, ?_⟩
        have hrr := repL_rng h3 fd.offset ti.sz
        unfold packA at hr
        split at hr
        · rename_i hlen
          split at hr
          · rename_i hag
            cases hr
            refine ⟨.agg (us.extract fd.offset (fd.offset + ti.sz)), ?_, ?_⟩
            · simp [execOp, ho, Instr.field, run_underlying hu, hfd', part, run_isAgg hti, hag, run_sizeOf' hti, h2, asAgg]
            · simp only [Eff.pure, Rep]
              refine ⟨_, rfl, ?_⟩
              have : (us.extract fd.offset (fd.offset + ti.sz)).toList = (us.toList.drop fd.offset).take ti.sz := by
                simp [List.extract_eq_take_drop]
              rw [this]
              exact hrr
          · rename_i hag
            obtain ⟨u, e1, e2⟩ := (repL_get hrr).2 0 r hr
            have e1' : us[fd.offset]? = some u := by
              rw [List.getElem?_take] at e1
              split at e1
              · simpa using e1
              · cases e1
            refine ⟨u, ?_, e2⟩
            simp [execOp, ho, Instr.field, run_underlying hu, hfd', part, run_isAgg hti, hag, h2, asAgg, e1']
        · cases hr
      · cases he
    · cases he
  · cases he

theorem eff_nilCheck [Use] (hs : Slots U w L hp sl a.tmps) {x : Operand} (ho : o.op = .nilCheck x)
    (he : (match ev T sl 0 x with
    | .ptr id path ver o => match node hp id path ver with
      | some _ => some (⟨.ptr id path ver o, [], [id]⟩ : Eff)
      | none => none
    | .ep cs => some (.pure (.ep cs))
    | _ => none) = some e) : PureOk P U w L hp a o e := by
  have h1 := rep_ev (T := T) hs 0 x
  split at he
  · rename_i id path ver off hx
    rw [hx] at h1
    split at he
    · rename_i nn hn
      cases he
      obtain ⟨e1, e2, b, e3, e4⟩ := valid_ptr h1 (by simp [hn])
      exact ⟨rfl, .pointer (some ⟨b, off, none⟩), by simp [execOp, ho, e3], rep_ptr e1 e2 e4⟩
    · cases he
  · rename_i cs hx
    cases he
    rw [hx] at h1
    have h2 := h1
    simp only [Rep] at h1
    obtain ⟨ad, e1, e2, e3⟩ := h1
    refine ⟨rfl, .pointer (some ad), by simp [execOp, ho, e1], ?_⟩
    rw [e1] at h2
    exact h2
  · cases he

theorem eff_binOp [Use] (hT : TabOk P T) (hs : Slots U w L hp sl a.tmps) {op : BinOp} {t t' : Nat} {x y : Operand} (ho : o.op = .binOp op t x y t')
    (he : (if nilC (kindOf T t) op y then (nilQ (ev T sl 0 x)).map Eff.pure else (binA (kindOf T t) op (ev T sl 0 x) (ev T sl 0 y)).map Eff.pure) = some e) : PureOk P U w L hp a o e := by
  split at he
  · rename_i hn
    have hc : ∃ el, kindOf T t = .slice el ∧ op = .eql ∧ y = .const (.slice none 0 0) := by
      unfold nilC at hn
      split at hn
      · rename_i el hk
        exact ⟨el, hk, rfl, rfl⟩
      · cases hn
    obtain ⟨el, hk, rfl, rfl⟩ := hc
    have hu : P.underlying t = some (.slice el) := by
      unfold kindOf at hk
      split at hk
      · rename_i ti ht
        have := (hT t ti ht).kind
        rw [hk] at this
        exact this
      · cases hk
    simp only [Option.map_eq_some_iff] at he
    obtain ⟨r, hr, rfl⟩ := he
    have hx := rep_ev (T := T) hs 0 x
    unfold nilQ at hr
    split at hr
    · rename_i ow sz len cs hxe
      rw [hxe] at hx
      have hv : ∃ ao l c, a.eval x = .slice ao l c ∧ (len ≠ 0 → 0 < sz → ao ≠ none) := by
        cases ow with
        | true =>
          simp only [Rep] at hx
          obtain ⟨e1, e2, _⟩ := hx
          exact ⟨none, 0, 0, e1, fun h => (h e2).elim⟩
        | false =>
          simp only [Rep, Imm] at hx
          obtain ⟨ao, cap, e1, _, _, e4, e5⟩ := hx
          refine ⟨ao, len, cap, e1, fun h hz => ?_⟩
          rcases e5 with e5 | ⟨ad, e5, _⟩
          · rw [e5] at e4
            simp only [List.length_nil] at e4
            have := Nat.mul_pos (Nat.pos_of_ne_zero h) hz
            omega
          · rw [e5]; simp
      obtain ⟨ao, l, c, e1, e2⟩ := hv
      have hrun : ∀ b, ao.isNone = b → (do eqGuard .eql t x (.const (.slice none 0 0)) (a.eval x) (a.eval (.const (.slice none 0 0))); binOp .eql t (a.eval x) (a.eval (.const (.slice none 0 0))) : Sem Value).run P w = .ok (.bool b) w := by
        intro b hb
        have e0 : (Op.equal t (.slice ao l c) (.slice none 0 0)).run P w = .ok b w := by
          show (Op.equalIn (9999 + 1) t (.slice ao l c) (.slice none 0 0)).run P w = .ok b w
          subst hb
          cases ao with
          | none => unfold Op.equalIn; simp [run_underlying hu]
          | some ad => unfold Op.equalIn; simp [run_underlying hu]
        have e3 : a.eval (.const (.slice none 0 0)) = .slice none 0 0 := rfl
        rw [e1, e3]
        simp [eqGuard, binOp, e0]
      split at hr
      · cases hr
        refine ⟨rfl, .bool ao.isNone, ?_, ?_⟩
        · unfold execOp
          simp only [ho]
          rw [Sem.run_bind, hrun _ rfl]
          simp
        · simp only [Eff.pure, Rep]
          exact ⟨_, rfl⟩
      · split at hr
        · rename_i hl hz
          cases hr
          have h3 := e2 hl hz
          have h4 : ao.isNone = false := by
            cases ao with
            | none => exact (h3 rfl).elim
            | some ad => rfl
          refine ⟨rfl, .bool false, ?_, by simp [Eff.pure, Rep]⟩
          unfold execOp
          simp only [ho]
          rw [Sem.run_bind, hrun _ h4]
          simp
        · cases hr
    · cases hr
  simp only [Option.map_eq_some_iff] at he
  obtain ⟨r, hr, rfl⟩ := he
  obtain ⟨h1, h2⟩ := run_binA (P := P) hT op t (rep_ev (T := T) hs 0 x) (rep_ev (T := T) hs 0 y) hr x y
  refine ⟨rfl, valS r, ?_, h2⟩
  unfold execOp
  simp only [ho]
  rw [Sem.run_bind, h1]
  simp

theorem eff_unOp [Use] (hs : Slots U w L hp sl a.tmps) {op : UnOp} {t : Nat} {x : Operand} (ho : o.op = .unOp op t x)
    (he : (unA op (ev T sl 0 x)).map Eff.pure = some e) : PureOk P U w L hp a o e := by
  simp only [Option.map_eq_some_iff] at he
  obtain ⟨r, hr, rfl⟩ := he
  obtain ⟨h1, h2⟩ := run_unA (P := P) op (rep_ev (T := T) hs 0 x) hr
  exact ⟨rfl, valS r, by simp [execOp, ho, h1], h2⟩

theorem kindOf_int [Use] (hT : TabOk P T) {t : Nat} {k : IntKind} (h : kindOf T t = .int k) : P.underlying t = some (.int k) := by
  unfold kindOf at h
  split at h
  · rename_i ti ht
    have := (hT t ti ht).kind
    rw [h] at this
    exact this
  · cases h

theorem eff_convert [Use] (hT : TabOk P T) (hs : Slots U w L hp sl a.tmps) {src dst : Nat} {x : Operand} (ho : o.op = .convert src dst x)
    (he : (match kindOf T src, kindOf T dst, ev T sl 0 x with
    | .int _, .int k, .i _ n => some (Eff.pure (.i k (k.wrap n)))
    | _, _, _ => none) = some e) : PureOk P U w L hp a o e := by
  split at he
  · rename_i ks k k' n h1 h2 hx
    cases he
    have h3 := rep_ev (T := T) hs 0 x
    rw [hx] at h3
    obtain ⟨h3, w3⟩ := rep_i h3
    refine ⟨rfl, .int k (k.wrap n), ?_, by simp only [Eff.pure, Rep]; exact ⟨trivial, wf_wrap _ _⟩⟩
    simp [execOp, ho, convert, run_underlying (kindOf_int hT h1), run_underlying (kindOf_int hT h2), h3, Conv.intToInt]
  · cases he

/-- A value's cells. -/
theorem rep_cells [Use] {x : A} {u : Value} (hx : Rep U w L hp x u) (hk : okPart x = true) : RepL U w L hp (cellsA x) u.cells.toList := by
  match x, hx, hk with
  | .agg xs, hx, _ =>
    simp only [Rep] at hx
    obtain ⟨us, rfl, h⟩ := hx
    simpa [cellsA, Value.cells] using h
  | .i k n, hx, _ => obtain ⟨rfl, h⟩ := rep_i hx; simp [cellsA, Value.cells, RepL, hx]
  | .b v, hx, _ => obtain rfl := rep_b hx; simp [cellsA, Value.cells, RepL, hx]
  | .s true sz len cs, hx, _ =>
    have h := hx
    simp only [Rep] at h
    obtain ⟨rfl, _, _⟩ := h
    simp only [cellsA, Value.cells, RepL, and_true]
    exact hx
  | .s false sz len cs, hx, _ =>
    have h := hx
    simp only [Rep, Imm] at h
    obtain ⟨ao, cap, rfl, _⟩ := h
    simp only [cellsA, Value.cells, RepL, and_true]
    exact hx
  | .ref .., hx, _ =>
    have h := hx
    simp only [Rep] at h
    obtain ⟨_, _, ao, cap, rfl, _⟩ := h
    simp only [cellsA, Value.cells, RepL, and_true]
    exact hx
  | .ptr .., hx, _ =>
    have h := hx
    simp only [Rep] at h
    obtain ⟨_, _, ad, rfl, _⟩ := h
    simp only [cellsA, Value.cells, RepL, and_true]
    exact hx
  | .ep cs, hx, _ =>
    have h := hx
    simp only [Rep] at h
    obtain ⟨ad, rfl, _⟩ := h
    simp only [cellsA, Value.cells, RepL, and_true]
    exact hx
  | .und, _, hk => simp [okPart] at hk
  | .tup _, _, hk => simp [okPart] at hk
  | .ub, _, hk => simp [okPart] at hk

theorem repL_put [Use] {xs vs : List A} {us ns : List Value} (h : RepL U w L hp xs us) (hv : RepL U w L hp vs ns) (off : Nat) (hb : off + vs.length ≤ xs.length) {out : List Value} (hol : out.length = us.length)
    (ho : ∀ k, out[k]? = if off ≤ k ∧ k < off + ns.length then ns[k - off]? else us[k]?) : RepL U w L hp (xs.take off ++ vs ++ xs.drop (off + vs.length)) out := by
  obtain ⟨h1, h2⟩ := repL_get h
  obtain ⟨h3, h4⟩ := repL_get hv
  refine repL_of (by simp; omega) fun j x u hx hu => ?_
  rw [ho j] at hu
  by_cases h5 : off ≤ j ∧ j < off + ns.length
  · rw [if_pos h5] at hu
    have : (xs.take off ++ vs ++ xs.drop (off + vs.length))[j]? = vs[j - off]? := by
      rw [List.append_assoc, List.getElem?_append_right (by simp; omega), List.getElem?_append_left (by simp; omega)]
      congr 1
      simp
      omega
    rw [this] at hx
    obtain ⟨v, e1, e2⟩ := h4 _ x hx
    rw [e1] at hu
    cases hu
    exact e2
  · rw [if_neg h5] at hu
    have : (xs.take off ++ vs ++ xs.drop (off + vs.length))[j]? = xs[j]? := by
      by_cases h6 : j < off
      · rw [List.append_assoc, List.getElem?_append_left (by simp; omega)]
        simp [List.getElem?_take, h6]
      · rw [List.getElem?_append_right (by simp; omega)]
        simp
        congr 1
        omega
    rw [this] at hx
    obtain ⟨v, e1, e2⟩ := h2 _ x hx
    rw [e1] at hu
    cases hu
    exact e2

theorem fill_rep [Use] (place : Nat → Option (Nat × Nat)) : ∀ (ps : List (Nat × A)) (qs : List (Nat × Value)) (xs : List A) (us : Array Value) (r : List A), RepL U w L hp xs us.toList →
    ps.length = qs.length → (∀ (j : Nat) (p : Nat × A) (q : Nat × Value), ps[j]? = some p → qs[j]? = some q → p.1 = q.1 ∧ Rep U w L hp p.2 q.2) → fillA place xs ps = some r →
    ∃ out : Array Value, Instr.fill place us qs = some out ∧ RepL U w L hp r out.toList
  | [], [], xs, us, r, h, _, _, hf => by
    simp only [fillA, Option.some.injEq] at hf
    subst hf
    exact ⟨us, rfl, h⟩
  | (i, v) :: ps, (i', u) :: qs, xs, us, r, h, hl, hpq, hf => by
    obtain ⟨rfl, hv⟩ := hpq 0 (i, v) (i', u) (by simp) (by simp)
    simp only [fillA] at hf
    unfold Instr.fill
    cases hpl : place i with
    | none => rw [hpl] at hf; cases hf
    | some os =>
      obtain ⟨off, size⟩ := os
      rw [hpl] at hf
      simp only at hf ⊢
      split at hf
      · rename_i hc
        obtain ⟨hc0, hc1, hc2⟩ := hc
        have hcv := rep_cells hv hc0
        obtain ⟨hcl, _⟩ := repL_get hcv
        obtain ⟨hxl, _⟩ := repL_get h
        obtain ⟨g1, g2⟩ := Great.foldl_set off u.cells.toList 0 us
        have hsz : u.cells.size = size := by rw [← hc1]; simpa using hcl
        have hus : us.size = xs.length := by simpa using hxl
        have hc1' : (cellsA v).length = size := hc1
        have e0 : (u.cells.size ≠ size || decide (off + u.cells.size > us.size)) = false := by simp [hsz]; omega
        rw [e0]
        simp only [Bool.false_eq_true, if_false]
        have e1 : (u.cells.zipIdx.foldl (fun cs (x : Value × Nat) => match x with | (c, j) => cs.setIfInBounds (off + j) c) us) = (u.cells.toList.zipIdx 0).foldl (fun cs (x : Value × Nat) => cs.setIfInBounds (off + x.2) x.1) us := by
          rw [← Array.foldl_toList, Array.toList_zipIdx]
        rw [e1]
        refine fill_rep place ps qs _ _ r ?_ (by simpa using hl) (fun j p q h1 h2 => hpq (j + 1) p q (by simpa using h1) (by simpa using h2)) hf
        have := repL_put h hcv off (by show off + (cellsA v).length ≤ _; omega) (out := ((u.cells.toList.zipIdx 0).foldl (fun cs (x : Value × Nat) => cs.setIfInBounds (off + x.2) x.1) us).toList) (by simpa using g1) (fun k => by
          have := g2 k
          simp only [Nat.add_zero] at this
          rw [Array.getElem?_toList, this]
          by_cases hk : off ≤ k ∧ k < off + u.cells.toList.length
          · rw [if_pos ⟨hk.1, hk.2, by simp at hk; omega⟩, if_pos hk]
          · rw [if_neg hk, if_neg (fun h => hk ⟨h.1, h.2.1⟩)]
            simp)
        rw [hc1] at this
        exact this
      · cases hf
  | [], _ :: _, _, _, _, _, hl, _, _ => by simp at hl
  | _ :: _, [], _, _, _, _, hl, _, _ => by simp at hl

theorem rep_zv [Use] {x : A} (h : zok x = true) : Rep U w L hp x (zv x) := by
  match x, h with
  | .i k n, h => simp only [Rep, zv]; exact ⟨trivial, h⟩
  | .b v, _ => simp [Rep, zv]
  | .s true sz 0 [], _ => simp [Rep, zv]
  | .und, _ => simp [Rep]

theorem repL_zero [Use] {t : Nat} {ti : TI} (h : TIok P t ti) {z : Value} (hz : z.cells.toList = ti.zero.map zv) : RepL U w L hp ti.zero z.cells.toList := by
  rw [hz]
  refine repL_of (by simp) fun j x u hx hu => ?_
  rw [List.getElem?_map, hx] at hu
  cases hu
  exact rep_zv (List.all_eq_true.1 h.zok x (List.mem_of_getElem? hx))

theorem places_of [Use] (hT : TabOk P T) : ∀ (fs : List _root_.Go.Field), (∀ f ∈ fs, ∃ i, P.info? f.type = some i ∧ i.size ≠ 0) →
    ∃ places, fs.mapM (fun f => (P.info? f.type).map fun i => (f.offset, i.size)) = some places ∧ ∀ (i : Nat) (x : Nat × Nat),
      (((fs.map (fun f => (f.offset, f.type)))[i]?).bind fun f => (T f.2).map fun fi => (f.1, fi.sz)) = some x → places[i]? = some x
  | [], _ => ⟨[], by simp, by simp⟩
  | f :: fs, h => by
    obtain ⟨places, h1, h2⟩ := places_of hT fs fun g hg => h g (List.mem_cons_of_mem _ hg)
    obtain ⟨i, hi, _⟩ := h f List.mem_cons_self
    refine ⟨(f.offset, i.size) :: places, by simp [List.mapM_cons, hi, h1], fun j x hx => ?_⟩
    cases j with
    | zero =>
      simp only [List.map_cons, List.getElem?_cons_zero, Option.bind_some, Option.map_eq_some_iff] at hx
      obtain ⟨ti, ht, rfl⟩ := hx
      obtain ⟨i', z, e1, e2, _⟩ := (hT _ ti ht).info
      rw [hi] at e1
      cases e1
      simp [e2]
    | succ j => simpa using h2 j x (by simpa using hx)

theorem fillA_place [Use] {p q : Nat → Option (Nat × Nat)} (h : ∀ i x, p i = some x → q i = some x) : ∀ (ps : List (Nat × A)) (xs r : List A), fillA p xs ps = some r → fillA q xs ps = some r
  | [], _, _, hf => hf
  | (i, v) :: ps, xs, r, hf => by
    simp only [fillA] at hf ⊢
    cases hpl : p i with
    | none => rw [hpl] at hf; cases hf
    | some os =>
      rw [hpl] at hf
      rw [h i os hpl]
      simp only at hf ⊢
      split at hf
      · rename_i hc
        rw [if_pos hc]
        exact fillA_place h ps _ r hf
      · cases hf

theorem parts_rep [Use] (hs : Slots U w L hp sl a.tmps) (parts : Array (Nat × Operand)) (ty : Nat → Nat) : ∀ (j : Nat) (p : Nat × A) (q : Nat × Value),
    (parts.toList.map fun p => (p.1, ev T sl (ty p.1) p.2))[j]? = some p → ((parts.map fun (i, x) => (i, a.eval x)).toList)[j]? = some q → p.1 = q.1 ∧ Rep U w L hp p.2 q.2 := by
  intro j p q hp' hq
  rw [List.getElem?_map] at hp'
  rw [Array.toList_map, List.getElem?_map] at hq
  simp only [Option.map_eq_some_iff] at hp' hq
  obtain ⟨x, h1, rfl⟩ := hp'
  obtain ⟨y, h2, rfl⟩ := hq
  rw [h1] at h2
  cases h2
  exact ⟨rfl, rep_ev hs _ _⟩

theorem eff_build [Use] (hT : TabOk P T) (hs : Slots U w L hp sl a.tmps) {t : Nat} {parts : Array (Nat × Operand)} (ho : o.op = .build t parts)
    (he : (match T t with
    | some ti => match ti.kind with
      | .struct fs => (fillA (fun i => (fs[i]?).bind fun f => (T f.2).map fun fi => (f.1, fi.sz)) ti.zero (parts.toList.map fun p => (p.1, ev T sl ((fs[p.1]?).elim 0 (·.2)) p.2))).map fun cs => Eff.pure (.agg cs)
      | _ => none
    | none => none) = some e) : PureOk P U w L hp a o e := by
  split at he
  · rename_i ti ht
    have hti := hT t ti ht
    split at he
    · rename_i fs hk
      have hkk : kindOf T t = .struct fs := by simp [kindOf, ht, hk]
      obtain ⟨fields, hu, rfl, hsz⟩ := hT.struct hkk
      simp only [Option.map_eq_some_iff] at he
      obtain ⟨r, hr, rfl⟩ := he
      obtain ⟨i, z, h1, h2, h3, h4, h5⟩ := hti.info
      obtain ⟨places, hp1, hp2⟩ := places_of hT fields.toList hsz
      have hz := repL_zero (U := U) (w := w) (L := L) (hp := hp) hti h5
      have hr' := fillA_place (q := (places.toArray[·]?)) (fun i x hx => by simpa using hp2 i x hx) _ _ _ hr
      obtain ⟨out, ho1, ho2⟩ := fill_rep _ _ (parts.map fun (i, x) => (i, a.eval x)).toList _ z.cells r hz (by simp) (parts_rep (T := T) hs parts (fun i => ((fields.toList.map fun f => (f.offset, f.type))[i]?).elim 0 (·.2))) hr'
      refine ⟨rfl, .agg out, ?_, by simp only [Eff.pure, Rep]; exact ⟨out, rfl, ho2⟩⟩
      have hb : P.built t (parts.map fun (i, x) => (i, a.eval x)).toList = some out := by
        simp only [Program.built, h1, hu, h4, hp1]
        exact ho1
      have := run_build (P := P) w t (parts.map fun (i, x) => (i, a.eval x)) out hb
      unfold execOp
      simp only [ho, Sem.run_bind, this, Result.andThen_ok, Sem.run_pure]
    · cases he
  · cases he

end
end Go.TM

/-! The tree machine, 5: an owned part is moved; a new root; cells are written. -/
namespace Go.TM
set_option linter.unusedVariables false
set_option linter.unusedSimpArgs false

theorem applyH_append (hp : Hp) (us vs : List (Id × Option Root)) : applyH hp (us ++ vs) = applyH (applyH hp us) vs := by simp [applyH]
theorem applyH_nil (hp : Hp) : applyH hp [] = hp := rfl
theorem applyH_one (hp : Hp) (id : Id) (r : Option Root) : applyH hp [(id, r)] = upd hp id r := rfl

section
variable {P : Program} {T : Nat → Option TI} {w0 : World} {L0 : Lab} {U : Nat → Prop} {w w' : World} {L L' : Lab} {hp : Hp}

theorem own_isSome [Use] (w : World) (L : Lab) (b : Nat) (h : HRel w0 L0 U hp w L) (hb : L b ≠ .free) : b < w.heap.size := by
  rcases Nat.lt_or_ge b w.heap.size with h1 | h1
  · exact h1
  · exact (hb (h.free b h1)).elim

/-- The whole array that a slot's header leads to, as owned. -/
theorem ref_own [Use] (h : HRel w0 L0 U hp w L) {id : Id} {path : List Nat} {ver sz len : Nat} {cs : List A} {u : Value} (hx : Rep U w L hp (.ref id path ver 0 sz len) u)
    (hn : node hp id path ver = some (sz, len, cs)) : Own w L (.s true sz len cs) id path u := by
  obtain ⟨u1, hu⟩ := h.node hn
  simp only [Rep] at hx
  obtain ⟨_, _, ao, cap, rfl, h2, h3, h4⟩ := hx
  simp only [Own] at hu ⊢
  have hlen : cs.length = len * sz := by
    rcases hu with ⟨_, rfl, rfl⟩ | ⟨_, _, _, _, _, _, _, _, _, _, h7, _⟩
    · simp
    · exact h7
  rcases h4 (by simp [hn]) with ⟨rfl, rfl, rfl⟩ | ⟨b, cur, e, rfl, e1, e2, e3⟩
  · left
    refine ⟨rfl, rfl, ?_⟩
    simpa using hlen
  · right
    refine ⟨b, cur, e, cap, rfl, e1, e2, by omega, h2, h3, hlen, ?_⟩
    by_cases hc : cs = []
    · subst hc; simp [OwnL]
    · obtain ⟨cur', e', cap', f1, _, _, _, _, f2⟩ := h.block hn e1 hc
      rw [e2] at f1
      cases f1
      exact f2

def isOwnS : A → Bool
  | .s true _ _ _ => true
  | _ => false

/-- What is no owned array looks at no label of its own. -/
theorem Own.flat [Use] {id id' : Id} {p p' : List Nat} (hp : ∀ b, L b = .prot → L' b = .prot ∧ w'.heap[b]? = w.heap[b]?) {c : A} {u : Value} (hc : isOwnS c = false) (h : Own w L c id p u) : Own w' L' c id' p' u := by
  match c, hc, h with
  | .i k n, _, h => simpa [Own] using h
  | .b v, _, h => simpa [Own] using h
  | .s false sz len cs, _, h =>
    simp only [Own] at h ⊢
    exact Imm.mono (P := isProt L) (P' := isProt L') (isProt_mono hp) _ _ h
  | .und, _, h => simp [Own]
  | .ref .., _, h => simp [Own] at h
  | .ptr .., _, h => simp [Own] at h
  | .ep _, _, h => simp [Own] at h
  | .agg _, _, h => simp [Own] at h
  | .tup _, _, h => simp [Own] at h
  | .ub, _, h => simp [Own] at h
  | .s true sz len cs, hc, _ => simp [isOwnS] at hc

/-- A part is cut out: the rest stays. -/
theorem Own.cut [Use] {id : Id} (hp : ∀ b, L b = .prot → L' b = .prot ∧ w'.heap[b]? = w.heap[b]?) : ∀ (path p : List Nat) (sz len : Nat) (cs : List A) (u : Value), path ≠ [] →
    (∀ b q, L b = .at id (p ++ q) → ¬ path <+: q → L' b = .at id (p ++ q) ∧ w'.heap[b]? = w.heap[b]?) → Own w L (.s true sz len cs) id p u → Own w' L' (.s true sz len (setC cs path .und)) id p u
  | [], _, _, _, _, _, h, _, _ => (h rfl).elim
  | [k], p, sz, len, cs, u, _, ha, hi => by
    simp only [Own, setC] at hi ⊢
    rcases hi with ⟨h1, h2, rfl⟩ | ⟨b, cur, e, cap, h1, h2, h3, h4, h5, h6, h7, h8⟩
    · exact .inl ⟨h1, h2, by simp⟩
    · have hb := ha b [] (by simpa using h2) (by simp)
      refine .inr ⟨b, cur, e, cap, h1, by simpa using hb.1, hb.2.trans h3, h4, h5, h6, by simpa using h7, ?_⟩
      refine OwnL.intro _ _ _ fun j c hc => ?_
      by_cases hj : j = k
      · subst hj
        have hlt : j < cs.length := by have := (List.getElem?_eq_some_iff.1 hc).1; simpa using this
        rw [List.getElem?_set_self hlt] at hc
        cases hc
        obtain ⟨u', e1, e2, _⟩ := OwnL.get cs 0 _ h8 j _ (List.getElem?_eq_getElem hlt)
        exact ⟨u', e1, e2, by simp [Own]⟩
      · rw [List.getElem?_set_ne (fun e => hj e.symm)] at hc
        obtain ⟨u', e1, e2, e3⟩ := OwnL.get cs 0 _ h8 j c hc
        refine ⟨u', e1, e2, Own.move hp c _ _ u' (fun b q hq => ?_) e3⟩
        simp only [List.append_assoc] at hq ⊢
        exact ha b _ hq (by simp; intro h; exact (hj (by omega)).elim)
  | k :: k' :: path, p, sz, len, cs, u, _, ha, hi => by
    simp only [Own, setC] at hi ⊢
    rcases hi with ⟨h1, h2, rfl⟩ | ⟨b, cur, e, cap, h1, h2, h3, h4, h5, h6, h7, h8⟩
    · exact .inl ⟨h1, h2, by simp⟩
    · have hb := ha b [] (by simpa using h2) (by simp)
      refine .inr ⟨b, cur, e, cap, h1, by simpa using hb.1, hb.2.trans h3, h4, h5, h6, ?_, ?_⟩
      · split <;> simpa using h7
      · refine OwnL.intro _ _ _ fun j c hc => ?_
        have other : ∀ c, cs[j]? = some c → j ≠ k → ∃ u, cur.toList[j]? = some u ∧ u.oneCell' = true ∧ Own w' L' c id (p ++ [0 + j]) u := by
          intro c hc hj
          obtain ⟨u', e1, e2, e3⟩ := OwnL.get cs 0 _ h8 j c hc
          refine ⟨u', e1, e2, Own.move hp c _ _ u' (fun b q hq => ?_) e3⟩
          simp only [List.append_assoc] at hq ⊢
          exact ha b _ hq (by simp; intro h; exact (hj (by omega)).elim)
        split at hc
        · rename_i sz' len' cs' hk
          by_cases hj : j = k
          · subst hj
            have hlt : j < cs.length := (List.getElem?_eq_some_iff.1 hk).1
            rw [List.getElem?_set_self hlt] at hc
            cases hc
            obtain ⟨u', e1, e2, e3⟩ := OwnL.get cs 0 _ h8 j _ hk
            refine ⟨u', e1, e2, ?_⟩
            refine Own.cut hp (k' :: path) _ sz' len' cs' u' (by simp) (fun b q hq hnp => ?_) e3
            simp only [List.append_assoc] at hq ⊢
            exact ha b _ hq (by simpa using hnp)
          · rw [List.getElem?_set_ne (fun e => hj e.symm)] at hc
            exact other c hc hj
        · rename_i hno
          by_cases hj : j = k
          · subst hj
            obtain ⟨u', e1, e2, e3⟩ := OwnL.get cs 0 _ h8 j c hc
            refine ⟨u', e1, e2, Own.flat hp ?_ e3⟩
            match c, hno with
            | .s true sz' len' cs', hno => exact (hno _ _ _ hc).elim
            | .i .., _ => rfl
            | .b .., _ => rfl
            | .s false .., _ => rfl
            | .und, _ => rfl
            | .ref .., _ => rfl
            | .ptr .., _ => rfl
            | .ep _, _ => rfl
            | .agg _, _ => rfl
            | .tup _, _ => rfl
            | .ub, _ => rfl
          · exact other c hc hj

/-- Cutting out leaves no node at the place, and none that was not there. -/
theorem getP_cut [Use] : ∀ (path : List Nat) (sz len : Nat) (cs : List A) (q : List Nat), path ≠ [] → getP sz len (setC cs path .und) q ≠ none → getP sz len cs q ≠ none ∧ ¬ path <+: q
  | [], _, _, _, _, h, _ => (h rfl).elim
  | [k], sz, len, cs, [], _, _ => ⟨by simp [getP], by simp⟩
  | [k], sz, len, cs, c :: q, _, hg => by
    simp only [setC, getP] at hg ⊢
    by_cases hck : c = k
    · subst hck
      rw [List.getElem?_set_self'] at hg
      cases hc : cs[c]? <;> simp [hc] at hg
    · rw [List.getElem?_set_ne (fun e => hck e.symm)] at hg
      exact ⟨hg, by simp; intro h; exact hck h.symm⟩
  | k :: k' :: path, sz, len, cs, [], _, _ => ⟨by simp [getP], by simp⟩
  | k :: k' :: path, sz, len, cs, c :: q, _, hg => by
    simp only [setC] at hg
    split at hg
    · rename_i sz' len' cs' hk
      simp only [getP] at hg ⊢
      by_cases hck : c = k
      · subst hck
        have hlt : c < cs.length := (List.getElem?_eq_some_iff.1 hk).1
        rw [List.getElem?_set_self hlt] at hg
        simp only at hg
        rw [hk]
        simp only
        obtain ⟨h1, h2⟩ := getP_cut (k' :: path) sz' len' cs' q (by simp) hg
        exact ⟨h1, by simpa using h2⟩
      · rw [List.getElem?_set_ne (fun e => hck e.symm)] at hg
        exact ⟨hg, by simp; intro h; exact (hck h.symm).elim⟩
    · rename_i hno
      refine ⟨hg, fun hpre => ?_⟩
      simp only [getP] at hg
      have : c = k := by simp at hpre; exact hpre.1.symm
      subst this
      split at hg
      · rename_i sz' len' cs' hk
        exact hno _ _ _ hk
      · exact hg rfl

/-- The labels when the array at (id, p1) goes to (tid, tp). -/
def relab (L : Lab) (id : Id) (p1 : List Nat) (tid : Id) (tp : List Nat) : Lab := fun b => match L b with
  | .at i p => if i = id ∧ p1 <+: p then .at tid (tp ++ p.drop p1.length) else .at i p
  | x => x

theorem relab_other {id : Id} {p1 : List Nat} {tid : Id} {tp : List Nat} {b : Nat} (h : ∀ q, L b ≠ .at id (p1 ++ q)) : relab L id p1 tid tp b = L b := by
  unfold relab
  split
  · rename_i i p hl
    split
    · rename_i hc
      obtain ⟨rfl, q, rfl⟩ := hc
      exact (h q hl).elim
    · exact hl.symm
  · rfl

theorem relab_moved {id : Id} {p1 : List Nat} {tid : Id} {tp : List Nat} {b : Nat} {q : List Nat} (h : L b = .at id (p1 ++ q)) : relab L id p1 tid tp b = .at tid (tp ++ q) := by
  unfold relab
  rw [h]
  simp

theorem relab_cases (L : Lab) (id : Id) (p1 : List Nat) (tid : Id) (tp : List Nat) (b : Nat) :
    (∃ q, L b = .at id (p1 ++ q) ∧ relab L id p1 tid tp b = .at tid (tp ++ q)) ∨ ((∀ q, L b ≠ .at id (p1 ++ q)) ∧ relab L id p1 tid tp b = L b) := by
  by_cases h : ∃ q, L b = .at id (p1 ++ q)
  · obtain ⟨q, h⟩ := h
    exact .inl ⟨q, h, relab_moved h⟩
  · have h' : ∀ q, L b ≠ .at id (p1 ++ q) := fun q hq => h ⟨q, hq⟩
    exact .inr ⟨h', relab_other h'⟩

/-- What a step over owned parts does to the labels: nothing but this. A label that is not under the target is an old one; a label under the target is old, or new from the k-th place to before the m-th. -/
structure Moved (L L' : Lab) (ids : List Id) (tid : Id) (tp : List Nat) (k m : Nat) : Prop where
  keep : ∀ b, (∀ i p, L b = .at i p → i ∉ ids) → L' b = L b
  back : ∀ b i p, L' b = .at i p → L b = .at i p ∨ (i = tid ∧ ∃ j q, p = tp ++ j :: q ∧ k ≤ j ∧ j < m)

theorem Moved.refl' (L : Lab) (ids : List Id) (tid : Id) (tp : List Nat) (k m : Nat) : Moved L L ids tid tp k m := ⟨fun _ _ => rfl, fun _ _ _ h => .inl h⟩

/-- The heap without the array at a path. -/
def cutH (hp : Hp) (id : Id) (path : List Nat) (r : Root) : List (Id × Option Root) := [(id, match path with | [] => none | _ => some { r with cs := setC r.cs path .und })]

/-- An array goes from its place in a root to another label. -/
theorem move_ok [Use] (h : HRel w0 L0 U hp w L) {id : Id} {path : List Nat} {r : Root} (hr : hp id = some r) (tid : Id) (tq : List Nat) (hU : U tid.1) (hfree : ∀ b q, L b ≠ .at tid (tq ++ q)) :
    HRel w0 L0 U (applyH hp (cutH hp id path r)) w (relab L id path tid tq) ∧ Keeps U w L hp U w (relab L id path tid tq) (applyH hp (cutH hp id path r)) ∧
      (∀ b, L b = .prot → relab L id path tid tq b = .prot ∧ w.heap[b]? = w.heap[b]?) := by
  have hprot : ∀ b, L b = .prot → relab L id path tid tq b = .prot ∧ w.heap[b]? = w.heap[b]? := fun b hb => ⟨by rw [relab_other (by simp [hb])]; exact hb, rfl⟩
  refine ⟨?_, ?_, hprot⟩
  · refine ⟨fun i r' hr' => ?_, fun b b' i p hb hb' => ?_, fun b hb => ?_, fun b i p hb => ?_, fun i r' hr' => ?_, fun b hb => ?_, h.size, h.os, h.tape, h.output, h.use, h.frz⟩
    · unfold cutH at hr'
      rw [applyH_one] at hr'
      by_cases hi : i = id
      · subst hi
        rw [upd_same] at hr'
        split at hr'
        · cases hr'
        · rename_i hpath
          cases hr'
          obtain ⟨u0, hu0⟩ := h.roots i r hr
          refine ⟨u0, Own.cut hprot path [] _ _ _ u0 (by simpa using hpath) (fun b q hq hnp => ⟨?_, rfl⟩) hu0⟩
          rw [relab_other]
          · exact hq
          · intro q' hq'
            rw [hq] at hq'
            simp only [List.nil_append, Lbl.at.injEq, true_and] at hq'
            exact hnp ⟨q', hq'.symm⟩
      · rw [upd_ne _ _ _ _ hi] at hr'
        obtain ⟨u0, hu0⟩ := h.roots i r' hr'
        refine ⟨u0, Own.move hprot _ [] [] u0 (fun b q hq => ⟨?_, rfl⟩) hu0⟩
        rw [relab_other]
        · exact hq
        · intro q' hq'
          rw [hq] at hq'
          simp only [Lbl.at.injEq] at hq'
          exact hi hq'.1
    · rcases relab_cases L id path tid tq b with ⟨q, e1, e2⟩ | ⟨e1, e2⟩ <;> rcases relab_cases L id path tid tq b' with ⟨q', f1, f2⟩ | ⟨f1, f2⟩
      · rw [e2] at hb
        rw [f2, ← hb] at hb'
        simp only [Lbl.at.injEq, List.append_cancel_left_eq, true_and] at hb'
        subst hb'
        exact h.inj b b' id _ e1 f1
      · rw [e2] at hb
        rw [f2, ← hb] at hb'
        exact (hfree b' q hb').elim
      · rw [f2] at hb'
        rw [e2, ← hb'] at hb
        exact (hfree b q' hb).elim
      · rw [e2] at hb
        rw [f2] at hb'
        exact h.inj b b' i p hb hb'
    · rw [relab_other]
      · exact h.free b hb
      · intro q hq
        rw [h.free b hb] at hq
        cases hq
    · rcases relab_cases L id path tid tq b with ⟨q, e1, e2⟩ | ⟨e1, e2⟩
      · rw [e2] at hb
        cases hb
        exact hU
      · rw [e2] at hb
        exact h.used b i p hb
    · unfold cutH at hr'
      rw [applyH_one] at hr'
      by_cases hi : i = id
      · subst hi
        exact h.usedR i r hr
      · rw [upd_ne _ _ _ _ hi] at hr'
        exact h.usedR i r' hr'
    · obtain ⟨e1, e2⟩ := h.prot b hb
      exact ⟨(hprot b e1).1, e2⟩
  · refine ⟨fun _ hk => hk, fun b hb => hprot b hb, fun i r' hr' hu => ?_, fun i p v hu hvl hnn => ?_⟩
    · unfold cutH at hr'
      rw [applyH_one] at hr'
      by_cases hi : i = id
      · subst hi
        rw [upd_same] at hr'
        split at hr'
        · cases hr'
        · cases hr'
          exact ⟨r, hr, fun _ => Nat.le_refl _⟩
      · rw [upd_ne _ _ _ _ hi] at hr'
        exact ⟨r', hr', fun _ => Nat.le_refl _⟩
    · have key : node hp i p v ≠ none ∧ (i = id → ¬ path <+: p) := by
        unfold cutH at hnn
        rw [applyH_one] at hnn
        unfold node at hnn ⊢
        by_cases hi : i = id
        · subst hi
          rw [upd_same] at hnn
          rw [hr]
          cases path with
          | nil => simp at hnn
          | cons c0 p0 =>
            simp only at hnn ⊢
            have hvv : ∀ r' : Root, r'.ver = r.ver → verOk r' p v = verOk r p v := fun r' e => by unfold verOk; split <;> simp [e]
            have hv2 := hvv ⟨r.sz, r.len, setC r.cs (c0 :: p0) .und, r.ver⟩ rfl
            rw [hv2] at hnn
            split at hnn
            · rename_i hvk
              rw [if_pos hvk]
              obtain ⟨g1, g2⟩ := getP_cut (c0 :: p0) _ _ _ p (by simp) hnn
              exact ⟨g1, fun _ => g2⟩
            · exact (hnn rfl).elim
        · rw [upd_ne _ _ _ _ hi] at hnn
          exact ⟨hnn, fun e => (hi e).elim⟩
      refine ⟨key.1, fun b hb => ⟨?_, fun cur e hce => ⟨cur, hce, rfl⟩⟩⟩
      rw [relab_other]
      · exact hb
      · intro q hq
        rw [hb] at hq
        simp only [Lbl.at.injEq] at hq
        exact key.2 hq.1 ⟨q, hq.2.symm⟩

/-- A value on its way into a cell. -/
theorem close1_ok [Use] (h : HRel w0 L0 U hp w L) {x c : A} {u : Value} {ups : List (Id × Option Root)} {rd : List Id} (hx : Rep U w L hp x u) (hc : close1 hp x = some (c, ups, rd)) (tid : Id) (tp : List Nat) (k : Nat) (hU : U tid.1)
    (hfree : ∀ b q, L b ≠ .at tid (tp ++ k :: q)) : ∃ L', HRel w0 L0 U (applyH hp ups) w L' ∧ Own w L' c tid (tp ++ [k]) u ∧ Keeps U w L hp U w L' (applyH hp ups) ∧ Moved L L' (ups.map (·.1)) tid tp k (k + 1) ∧ u.oneCell' = true := by
  unfold close1 at hc
  split at hc
  · cases hc
    obtain ⟨rfl, hw⟩ := rep_i hx
    exact ⟨L, h, by simp [Own, hw], Keeps.rfl', Moved.refl' .., rfl⟩
  · cases hc
    obtain rfl := rep_b hx
    exact ⟨L, h, by simp [Own], Keeps.rfl', Moved.refl' .., rfl⟩
  · cases hc
    have hx' := hx
    simp only [Rep, Imm] at hx'
    obtain ⟨ao, cap, rfl, _⟩ := hx'
    exact ⟨L, h, by simpa [Own, Rep] using hx, Keeps.rfl', Moved.refl' .., rfl⟩
  · cases hc
    simp only [Rep] at hx
    obtain ⟨rfl, _, _⟩ := hx
    exact ⟨L, h, by simp [Own], Keeps.rfl', Moved.refl' .., rfl⟩
  · rename_i id path ver off sz len
    split at hc
    · cases hc
    · rename_i r hr
      split at hc
      · rename_i hcond
        obtain ⟨rfl, hv⟩ := hcond
        split at hc
        · rename_i sz' len' cs' hg
          split at hc
          · rename_i hsl
            obtain ⟨rfl, rfl⟩ := hsl
            cases hc
            have hn : node hp id path ver = some (sz', len', cs') := by simp [node, hr, hv, hg]
            have hown := ref_own h hx hn
            have hone : u.oneCell' = true := by
              simp only [Rep] at hx
              obtain ⟨_, _, ao, cap, rfl, _⟩ := hx
              rfl
            obtain ⟨m1, m2, m3⟩ := move_ok (path := path) h hr tid (tp ++ [k]) hU (fun b q hb => hfree b q (by simpa using hb))
            refine ⟨relab L id path tid (tp ++ [k]), m1, Own.move m3 _ path (tp ++ [k]) u (fun b q hq => ⟨relab_moved hq, rfl⟩) hown, m2, ?_, hone⟩
            refine ⟨fun b hb => relab_other fun q hq => hb _ _ hq (by simp), fun b i p hb => ?_⟩
            rcases relab_cases L id path tid (tp ++ [k]) b with ⟨q, e1, e2⟩ | ⟨e1, e2⟩
            · rw [e2] at hb
              cases hb
              exact .inr ⟨rfl, k, q, by simp, Nat.le_refl _, by omega⟩
            · rw [e2] at hb
              exact .inl hb
          · cases hc
        · cases hc
      · cases hc
  · cases hc

theorem closeL_ok [Use] (tid : Id) (tp : List Nat) (hU : U tid.1) : ∀ (xs : List A) (us : List Value) (k : Nat) (hp : Hp) (L : Lab) (cs : List A) (ups : List (Id × Option Root)) (rd : List Id),
    HRel w0 L0 U hp w L → RepL U w L hp xs us → closeL hp xs = some (cs, ups, rd) → tid ∉ ups.map (·.1) → (∀ b j q, k ≤ j → j < k + xs.length → L b ≠ .at tid (tp ++ j :: q)) →
    ∃ L', HRel w0 L0 U (applyH hp ups) w L' ∧ OwnL w L' cs tid tp k us ∧ Keeps U w L hp U w L' (applyH hp ups) ∧ Moved L L' (ups.map (·.1)) tid tp k (k + xs.length) ∧ cs.length = xs.length ∧ us.length = xs.length
  | [], us, k, hp, L, cs, ups, rd, h, hx, hc, _, _ => by
    cases us with
    | nil =>
      simp only [closeL, Option.some.injEq, Prod.mk.injEq] at hc
      obtain ⟨rfl, rfl, rfl⟩ := hc
      exact ⟨L, h, by simp [OwnL], Keeps.rfl', Moved.refl' .., rfl, rfl⟩
    | cons u us => simp [RepL] at hx
  | x :: xs, us, k, hp, L, cs, ups, rd, h, hx, hc, htid, hfree => by
    cases us with
    | nil => simp [RepL] at hx
    | cons u us =>
      simp only [RepL] at hx
      simp only [closeL] at hc
      split at hc
      · cases hc
      · rename_i c u1 rd1 hc1
        split at hc
        · cases hc
        · rename_i cs2 u2 rd2 hc2
          cases hc
          simp only [List.map_append, List.mem_append, not_or] at htid
          obtain ⟨L1, h1, h2, h3, h4, h5⟩ := close1_ok h hx.1 hc1 tid tp k hU (fun b q => hfree b k q (Nat.le_refl _) (by simp))
          obtain ⟨L2, g1, g2, g3, g4, g5, g6⟩ := closeL_ok tid tp hU xs us (k + 1) _ L1 cs2 u2 rd2 h1 (RepL.mono h3 xs us hx.2) hc2 htid.2 (fun b j q hj hj' hb => by
            rcases h4.back b tid _ hb with hb | ⟨_, j', q', e, hj1, hj2⟩
            · exact hfree b j q (by omega) (by simp; omega) hb
            · simp at e
              omega)
          refine ⟨L2, by rw [applyH_append]; exact g1, ?_, by rw [applyH_append]; exact h3.trans g3, ⟨fun b hb => ?_, fun b i p hb => ?_⟩, by simp [g5], by simp [g6]⟩
          · simp only [OwnL]
            refine ⟨⟨h5, Own.move (fun b hb => ?_) c _ _ u (fun b q hq => ⟨?_, rfl⟩) h2⟩, g2⟩
            · exact g3.prot b hb
            · rw [g4.keep b (fun i p hip => ?_)]
              · exact hq
              · rw [hq] at hip
                cases hip
                exact htid.2
          · have e1 : L1 b = L b := h4.keep b fun i p hip hm => hb i p hip (by simp only [List.map_append, List.mem_append]; exact .inl hm)
            rw [g4.keep b fun i p hip hm => hb i p (by rw [← e1]; exact hip) (by simp only [List.map_append, List.mem_append]; exact .inr hm), e1]
          · rcases g4.back b i p hb with hb | ⟨e, j, q, e1, e2, e3⟩
            · rcases h4.back b i p hb with hb | ⟨e, j, q, e1, e2, e3⟩
              · exact .inl hb
              · exact .inr ⟨e, j, q, e1, e2, by simp; omega⟩
            · exact .inr ⟨e, j, q, e1, by omega, by simp; omega⟩

theorem Keeps.restrict [Use] {U1 U2 : Nat → Prop} {hp' : Hp} (h : Keeps U1 w L hp U2 w' L' hp') (hU : ∀ k, U k → U1 k) : Keeps U w L hp U w' L' hp' :=
  ⟨fun _ hk => hk, h.prot, fun id r hr hu => h.root id r hr (hU _ hu), fun id p v hu hv hn => h.node id p v (hU _ hu) hv hn⟩

/-! ### A new root -/

def addU (U : Nat → Prop) (m : Nat) : Nat → Prop := fun k => U k ∨ k = m

theorem HRel.mono [Use] {U' : Nat → Prop} (h : HRel w0 L0 U hp w L) (hU : ∀ k, U k → U' k) : HRel w0 L0 U' hp w L :=
  ⟨h.roots, h.inj, h.free, fun b id p hb => hU _ (h.used b id p hb), fun id r hr => hU _ (h.usedR id r hr), h.prot, h.size, h.os, h.tape, h.output, h.use, h.frz⟩

theorem heap_alloc_lt [Use] (w : World) (o : Obj) {b : Nat} (h : b < w.heap.size) : (w.alloc o).heap[b]? = w.heap[b]? := by
  show (w.heap.push o)[b]? = _
  rw [Array.getElem?_push, if_neg (by omega)]

theorem heap_alloc_eq [Use] (w : World) (o : Obj) : (w.alloc o).heap[w.heap.size]? = some o := by
  show (w.heap.push o)[w.heap.size]? = _
  simp

/-- A block that nobody holds, new in the world, becomes the root (m, k), whose cells are held already. (w': the world with the block; nothing that is held has turned.) -/
theorem adopt [Use] (h : HRel w0 L0 U hp w L) {id : Id} (hU : U id.1) {sz len cap : Nat} {cs : List A} {cur : Array Value} {e : Nat} (hown : OwnL w L cs id [] 0 cur.toList) (hcs : cs.length = len * sz) (hcur : cur.size = cap * sz)
    (hcap : len ≤ cap) (hmax : cap ≤ maxLen) (hnew : ∀ b, L b ≠ .at id []) (hnone : hp id = none)
    (hw : w'.heap[w.heap.size]? = some (.cells cur e (0, 0))) (hold : ∀ b, b < w.heap.size → w'.heap[b]? = w.heap[b]?) (hsz : w'.heap.size = w.heap.size + 1)
    (hos : w'.os = w.os) (htape : w'.tape = w.tape) (hout : w'.output = w.output) :
    ∃ L', HRel w0 L0 U (upd hp id (some (newRoot sz len cs))) w' L' ∧ L' w.heap.size = .at id [] ∧ (∀ b, b ≠ w.heap.size → L' b = L b) ∧
      (∀ b, L b ≠ .free → L' b = L b ∧ w'.heap[b]? = w.heap[b]?) := by
  have hfree : ∀ b, L b ≠ .free → b < w.heap.size := fun b hb => own_isSome w L b h hb
  have hkeep : ∀ b, L b ≠ .free → upd L w.heap.size (.at id []) b = L b ∧ w'.heap[b]? = w.heap[b]? := by
    intro b hb
    have := hfree b hb
    exact ⟨upd_ne _ _ _ _ (by omega), hold b this⟩
  have hprot : ∀ b, L b = .prot → upd L w.heap.size (.at id []) b = .prot ∧ w'.heap[b]? = w.heap[b]? := by
    intro b hb
    have := hkeep b (by simp [hb])
    exact ⟨this.1.trans hb, this.2⟩
  refine ⟨upd L w.heap.size (.at id []), ⟨fun i r hr => ?_, fun b b' i p hb hb' => ?_, fun b hb => ?_, fun b i p hb => ?_, fun i r hr => ?_, fun b hb => ?_, by have := h.size; omega, hos.trans h.os, htape.trans h.tape, hout.trans h.output, h.use, fun b c e f hb hc => by
    rcases Nat.lt_trichotomy b w.heap.size with hlt | rfl | hgt
    · rw [hold b hlt] at hc; exact h.frz b c e f hb hc
    · rw [hw] at hc; cases hc; rfl
    · rw [Array.getElem?_eq_none (by omega)] at hc; cases hc⟩,
    upd_same .., fun b hb => upd_ne _ _ _ _ hb, hkeep⟩
  · by_cases hi : i = id
    · subst hi
      rw [upd_same] at hr
      cases hr
      refine ⟨.slice (some ⟨w.heap.size, 0, none⟩) len cap, ?_⟩
      simp only [Own, newRoot]
      refine .inr ⟨w.heap.size, cur, e, cap, rfl, upd_same .., hw, hcur, hcap, hmax, hcs, ?_⟩
      exact OwnL.move hprot cs [] [] 0 _ (fun b q hb => by have := hkeep b (by simp [hb]); exact ⟨this.1.trans hb, this.2⟩) hown
    · rw [upd_ne _ _ _ _ hi] at hr
      obtain ⟨u, hu⟩ := h.roots i r hr
      exact ⟨u, Own.move hprot _ [] [] u (fun b q hb => by have := hkeep b (by simp [hb]); exact ⟨this.1.trans hb, this.2⟩) hu⟩
  · have key : ∀ b, upd L w.heap.size (.at id []) b = .at i p → (b = w.heap.size ∧ i = id ∧ p = []) ∨ (b ≠ w.heap.size ∧ L b = .at i p) := by
      intro b hb
      by_cases hbn : b = w.heap.size
      · subst hbn
        rw [upd_same] at hb
        cases hb
        exact .inl ⟨rfl, rfl, rfl⟩
      · rw [upd_ne _ _ _ _ hbn] at hb
        exact .inr ⟨hbn, hb⟩
    rcases key b hb with ⟨e1, e2, e3⟩ | ⟨e1, e2⟩ <;> rcases key b' hb' with ⟨f1, f2, f3⟩ | ⟨f1, f2⟩
    · rw [e1, f1]
    · subst e2 e3
      exact (hnew b' f2).elim
    · subst f2 f3
      exact (hnew b e2).elim
    · exact h.inj b b' i p e2 f2
  · rw [upd_ne _ _ _ _ (by omega)]
    exact h.free b (by omega)
  · by_cases hbn : b = w.heap.size
    · subst hbn
      rw [upd_same] at hb
      cases hb
      exact hU
    · rw [upd_ne _ _ _ _ hbn] at hb
      exact h.used b i p hb
  · by_cases hi : i = id
    · subst hi; exact hU
    · rw [upd_ne _ _ _ _ hi] at hr
      exact h.usedR i r hr
  · obtain ⟨e1, e2⟩ := h.prot b hb
    exact ⟨(hprot b e1).1, (hprot b e1).2.trans e2⟩

/-- A new root turns nothing for the values that are there; its id has not been used. -/
theorem keeps_root [Use] {U' : Nat → Prop} {id : Id} {r : Root} (hUU : ∀ k, U k → U' k) (hid : ¬ U id.1) (hkeep : ∀ b, L b ≠ .free → L' b = L b ∧ w'.heap[b]? = w.heap[b]?) : Keeps U w L hp U' w' L' (upd hp id (some r)) := by
  refine ⟨hUU, fun b hb => ?_, fun i r' hr hu => ?_, fun i p v hu hv hn => ?_⟩
  · have := hkeep b (by simp [hb])
    exact ⟨this.1.trans hb, this.2⟩
  · rw [upd_ne _ _ _ _ (by rintro rfl; exact hid hu)] at hr
    exact ⟨r', hr, fun _ => Nat.le_refl _⟩
  · have hi : i ≠ id := by rintro rfl; exact hid hu
    have : node (upd hp id (some r)) i p v = node hp i p v := by unfold node; rw [upd_ne _ _ _ _ hi]
    rw [this] at hn
    refine ⟨hn, fun b hb => ?_⟩
    have := hkeep b (by simp [hb])
    exact ⟨this.1.trans hb, fun cur e hc => ⟨cur, by rw [this.2]; exact hc, rfl⟩⟩

end
end Go.TM

/-! The tree machine, 6: cells of a root are written. -/
namespace Go.TM
set_option linter.unusedVariables false
set_option linter.unusedSimpArgs false

theorem setR_length [Use] : ∀ (vs : List A) (off : Nat) (cs : List A), (setR off vs cs).length = cs.length
  | [], _, _ => rfl
  | v :: vs, off, cs => by simp [setR, setR_length vs (off + 1)]

theorem setR_get [Use] : ∀ (vs : List A) (off : Nat) (cs : List A) (j : Nat), (setR off vs cs)[j]? = if off ≤ j ∧ j < off + vs.length ∧ j < cs.length then vs[j - off]? else cs[j]?
  | [], off, cs, j => by rw [if_neg (by simp; omega)]; rfl
  | v :: vs, off, cs, j => by
    simp only [setR]
    rw [setR_get vs (off + 1) (cs.set off v) j]
    simp only [List.length_set, List.length_cons]
    by_cases h1 : off + 1 ≤ j ∧ j < off + 1 + vs.length ∧ j < cs.length
    · rw [if_pos h1, if_pos (by omega)]
      rw [show j - off = (j - (off + 1)) + 1 from by omega, List.getElem?_cons_succ]
    · rw [if_neg h1]
      by_cases h2 : j = off
      · subst h2
        by_cases h3 : j < cs.length
        · rw [if_pos ⟨Nat.le_refl _, by omega, h3⟩, List.getElem?_set_self h3]
          simp
        · rw [if_neg (by omega)]
          simp [List.getElem?_eq_none (Nat.le_of_not_lt h3)]
          omega
      · rw [List.getElem?_set_ne (fun e => h2 e.symm), if_neg (by omega)]

section
variable {P : Program} {T : Nat → Option TI} {w0 : World} {L0 : Lab} {U : Nat → Prop} {w w' : World} {L L' : Lab} {hp : Hp}

/-- The cells of the node at a path are turned. -/
theorem Own.modP [Use] {id : Id} (hp : ∀ b, L b = .prot → L' b = .prot ∧ w'.heap[b]? = w.heap[b]?) (f : List A → List A) (hf0 : f [] = []) : ∀ (path p : List Nat) (sz len : Nat) (cs : List A) (u : Value),
    (∀ b q, L b = .at id (p ++ q) → ¬ path <+: q → L' b = .at id (p ++ q) ∧ w'.heap[b]? = w.heap[b]?) →
    (∀ sz' len' cs' b cur e, TM.getP sz len cs path = some (sz', len', cs') → L b = .at id (p ++ path) → w.heap[b]? = some (.cells cur e (0, 0)) → OwnL w L cs' id (p ++ path) 0 cur.toList →
      L' b = .at id (p ++ path) ∧ ∃ cur', w'.heap[b]? = some (.cells cur' e (0, 0)) ∧ cur'.size = cur.size ∧ (f cs').length = cs'.length ∧ OwnL w' L' (f cs') id (p ++ path) 0 cur'.toList) →
    Own w L (.s true sz len cs) id p u → Own w' L' (.s true sz len (TM.modP f path cs)) id p u
  | [], p, sz, len, cs, u, hout, hin, hi => by
    simp only [Own, TM.modP] at hi ⊢
    rcases hi with ⟨h1, h2, rfl⟩ | ⟨b, cur, e, cap, h1, h2, h3, h4, h5, h6, h7, h8⟩
    · exact .inl ⟨h1, h2, hf0⟩
    · obtain ⟨g1, cur', g2, g3, g4, g5⟩ := hin sz len cs b cur e (by simp [TM.getP]) (by simpa using h2) h3 (by simpa using h8)
      exact .inr ⟨b, cur', e, cap, h1, by simpa using g1, g2, by omega, h5, h6, by omega, by simpa using g5⟩
  | k :: path, p, sz, len, cs, u, hout, hin, hi => by
    simp only [Own, TM.modP] at hi ⊢
    rcases hi with ⟨h1, h2, rfl⟩ | ⟨b, cur, e, cap, h1, h2, h3, h4, h5, h6, h7, h8⟩
    · exact .inl ⟨h1, h2, by simp⟩
    · have hb := hout b [] (by simpa using h2) (by simp)
      refine .inr ⟨b, cur, e, cap, h1, by simpa using hb.1, hb.2.trans h3, h4, h5, h6, by split <;> simpa using h7, ?_⟩
      refine OwnL.intro _ _ _ fun j c hc => ?_
      have other : ∀ c, cs[j]? = some c → j ≠ k → ∃ u, cur.toList[j]? = some u ∧ u.oneCell' = true ∧ Own w' L' c id (p ++ [0 + j]) u := by
        intro c hc hj
        obtain ⟨u', e1, e2, e3⟩ := OwnL.get cs 0 _ h8 j c hc
        refine ⟨u', e1, e2, Own.move hp c _ _ u' (fun b q hq => ?_) e3⟩
        simp only [List.append_assoc] at hq ⊢
        exact hout b _ hq (by simp; intro h; exact (hj (by omega)).elim)
      split at hc
      · rename_i sz' len' cs' hk
        by_cases hj : j = k
        · subst hj
          have hlt : j < cs.length := (List.getElem?_eq_some_iff.1 hk).1
          rw [List.getElem?_set_self hlt] at hc
          cases hc
          obtain ⟨u', e1, e2, e3⟩ := OwnL.get cs 0 _ h8 j _ hk
          refine ⟨u', e1, e2, ?_⟩
          refine Own.modP hp f hf0 path _ sz' len' cs' u' (fun b q hq hnp => ?_) (fun sz2 len2 cs2 b2 cur2 ee hg hl hh ho => ?_) e3
          · simp only [List.append_assoc] at hq ⊢
            exact hout b _ hq (by simpa using hnp)
          · have := hin sz2 len2 cs2 b2 cur2 ee (by simp only [TM.getP, hk]; exact hg) (by simpa using hl) hh (by simpa using ho)
            simpa using this
        · rw [List.getElem?_set_ne (fun e => hj e.symm)] at hc
          exact other c hc hj
      · rename_i hno
        by_cases hj : j = k
        · subst hj
          obtain ⟨u', e1, e2, e3⟩ := OwnL.get cs 0 _ h8 j c hc
          refine ⟨u', e1, e2, Own.flat hp ?_ e3⟩
          match c, hno with
          | .s true sz' len' cs', hno => exact (hno _ _ _ hc).elim
          | .i .., _ => rfl
          | .b .., _ => rfl
          | .s false .., _ => rfl
          | .und, _ => rfl
          | .ref .., _ => rfl
          | .ptr .., _ => rfl
          | .ep _, _ => rfl
          | .agg _, _ => rfl
          | .tup _, _ => rfl
          | .ub, _ => rfl
        · exact other c hc hj

/-- Where the turned cells bear no owned array, no node comes into being. -/
theorem getP_modP [Use] (f : List A → List A) : ∀ (path : List Nat) (sz len : Nat) (cs : List A) (q : List Nat),
    (∀ (cs' : List A) (j : Nat) (s' l' : Nat) (c' : List A), (f cs')[j]? = some (.s true s' l' c') → cs'[j]? = some (.s true s' l' c') ∧ True) →
    getP sz len (TM.modP f path cs) q ≠ none → getP sz len cs q ≠ none
  | [], sz, len, cs, [], hf, _ => by simp [getP]
  | [], sz, len, cs, c :: q, hf, hg => by
    simp only [TM.modP, getP] at hg ⊢
    split at hg
    · rename_i s' l' c' hc
      rw [(hf cs c s' l' c' hc).1]
      exact hg
    · exact (hg rfl).elim
  | k :: path, sz, len, cs, [], hf, _ => by simp [getP]
  | k :: path, sz, len, cs, c :: q, hf, hg => by
    simp only [TM.modP] at hg
    split at hg
    · rename_i sz' len' cs' hk
      simp only [getP] at hg ⊢
      by_cases hck : c = k
      · subst hck
        have hlt : c < cs.length := (List.getElem?_eq_some_iff.1 hk).1
        rw [List.getElem?_set_self hlt] at hg
        simp only at hg
        rw [hk]
        exact getP_modP f path sz' len' cs' q hf hg
      · rw [List.getElem?_set_ne (fun e => hck e.symm)] at hg
        exact hg
    · exact hg

/-- ... and none lies behind a cell that has been turned. -/
theorem getP_setR_no [Use] {off : Nat} {vs : List A} (hvs : ∀ v ∈ vs, isOwnS v = false) : ∀ (path : List Nat) (sz len : Nat) (cs : List A) (j : Nat) (q : List Nat), off ≤ j → j < off + vs.length →
    getP sz len (TM.modP (setR off vs) path cs) (path ++ j :: q) = none
  | [], sz, len, cs, j, q, h1, h2 => by
    simp only [TM.modP, List.nil_append, getP]
    rw [setR_get]
    split
    · rename_i s' l' c' hc
      split at hc
      · have := hvs _ (List.mem_of_getElem? hc)
        simp [isOwnS] at this
      · rename_i hn
        have : cs.length ≤ j := by omega
        rw [List.getElem?_eq_none this] at hc
        cases hc
    · rfl
  | k :: path, sz, len, cs, j, q, h1, h2 => by
    simp only [TM.modP, List.cons_append, getP]
    split
    · rename_i s' l' c' hc
      split at hc
      · rename_i sz' len' cs' hk
        have hlt : k < cs.length := (List.getElem?_eq_some_iff.1 hk).1
        rw [List.getElem?_set_self hlt] at hc
        cases hc
        exact getP_setR_no hvs path _ _ cs' j q h1 h2
      · rename_i hno
        exact (hno _ _ _ hc).elim
    · rfl

theorem setR_own [Use] {off : Nat} {vs : List A} (hvs : ∀ v ∈ vs, isOwnS v = false) (cs' : List A) (j s' l' : Nat) (c' : List A) (h : (setR off vs cs')[j]? = some (.s true s' l' c')) : cs'[j]? = some (.s true s' l' c') ∧ True := by
  rw [setR_get] at h
  split at h
  · have := hvs _ (List.mem_of_getElem? h)
    simp [isOwnS] at this
  · exact ⟨h, trivial⟩

/-- Away from the turned cells a node is found as before. -/
theorem getP_modP_ne [Use] {off : Nat} {vs : List A} (sz len : Nat) (cs : List A) : ∀ (path : List Nat) (c : Nat) (q : List Nat), (match path with | [] => ¬ (off ≤ c ∧ c < off + vs.length) | k :: _ => c ≠ k) →
    getP sz len (TM.modP (setR off vs) path cs) (c :: q) = getP sz len cs (c :: q)
  | [], c, q, h => by
    simp only [TM.modP, getP]
    rw [setR_get, if_neg (fun hh => h ⟨hh.1, hh.2.1⟩)]
  | k :: path, c, q, h => by
    simp only [TM.modP]
    split
    · simp only [getP]
      rw [List.getElem?_set_ne (fun e => h e.symm)]
    · rfl

theorem close_okPart [Use] {v : A} {r : List A × List (Id × Option Root) × List Id} (h : closeL hp (cellsA v) = some r) : okPart v = true := by
  cases v <;> simp_all [okPart, cellsA, closeL, close1]

theorem run_storeVar' [Use] {t : Nat} {ti : TI} (ht : TIok P t ti) {b off : Nat} {cur : Array Value} {e : Nat} {vu : Value} (hb : w.heap[b]? = some (.cells cur e (0, 0))) (hsz : vu.cells.size = ti.sz) (hfit : off + ti.sz ≤ cur.size)
    (h1 : ∀ u ∈ vu.cells.toList, u.oneCell' = true) :
    (storeVar t ⟨b, off, none⟩ vu).run P w = .ok () (w.setRow b (cur.toList.take off ++ vu.cells.toList ++ cur.toList.drop (off + ti.sz)).toArray) := by
  have := run_storeCells_at P b off e vu.cells.toList 0 cur w hb (by simp; omega) h1
  unfold storeVar
  simp only [Sem.run_bind, run_sizeOf' ht, Result.andThen_ok, hsz, ne_eq, not_true_eq_false, if_false]
  simp only [Nat.add_zero, Array.length_toList, hsz] at this
  simpa using this

open Classical in
/-- The labels behind a store: what lay under the written cells is let go; what was held ready goes there. -/
noncomputable def relabS (L : Lab) (tmp id : Id) (path : List Nat) (off n : Nat) : Lab := fun b => match L b with
  | .at i p => if i = tmp then .at id (path ++ p) else if i = id ∧ (∃ j q, p = path ++ j :: q ∧ off ≤ j ∧ j < off + n) then .free else .at i p
  | x => x

open Classical in
theorem relabS_cases [Use] (L : Lab) (tmp id : Id) (path : List Nat) (off n : Nat) (b : Nat) :
    (∃ p, L b = .at tmp p ∧ relabS L tmp id path off n b = .at id (path ++ p)) ∨
    (∃ j q, L b = .at id (path ++ j :: q) ∧ id ≠ tmp ∧ off ≤ j ∧ j < off + n ∧ relabS L tmp id path off n b = .free) ∨
    ((∀ p, L b ≠ .at tmp p) ∧ (∀ j q, off ≤ j → j < off + n → L b ≠ .at id (path ++ j :: q)) ∧ relabS L tmp id path off n b = L b) := by
  unfold relabS
  cases hL : L b with
  | free => exact .inr (.inr ⟨by simp, by simp, rfl⟩)
  | prot => exact .inr (.inr ⟨by simp, by simp, rfl⟩)
  | «at» i p =>
    simp only
    by_cases h1 : i = tmp
    · subst h1
      exact .inl ⟨p, rfl, by simp⟩
    · rw [if_neg h1]
      by_cases h2 : i = id ∧ (∃ j q, p = path ++ j :: q ∧ off ≤ j ∧ j < off + n)
      · rw [if_pos h2]
        obtain ⟨rfl, j, q, rfl, h3, h4⟩ := h2
        exact .inr (.inl ⟨j, q, rfl, h1, h3, h4, rfl⟩)
      · rw [if_neg h2]
        refine .inr (.inr ⟨fun p' hp' => ?_, fun j q h3 h4 hh => ?_, rfl⟩)
        · cases hp'
          exact h1 rfl
        · cases hh
          exact h2 ⟨rfl, j, q, rfl, h3, h4⟩

theorem bumpR_nil [Use] (f : Nat → Nat) (off n k : Nat) : bumpR f [] off n k = if off ≤ k ∧ k < off + n then f k + 1 else f k := rfl
theorem bumpR_cons [Use] (f : Nat → Nat) (c : Nat) (p : List Nat) (off n k : Nat) : bumpR f (c :: p) off n k = if k = c then f k + 1 else f k := rfl
theorem le_bumpR [Use] (f : Nat → Nat) (path : List Nat) (off n k : Nat) : f k ≤ bumpR f path off n k := by
  cases path with
  | nil => rw [bumpR_nil]; split <;> omega
  | cons c p => rw [bumpR_cons]; split <;> omega

theorem applyH_other {i : Id} : ∀ (l : List (Id × Option Root)) (hp1 : Hp), i ∉ l.map (·.1) → applyH hp1 l i = hp1 i
  | [], _, _ => rfl
  | z :: zs, hp1, hz => by
    simp only [List.map_cons, List.mem_cons, not_or] at hz
    show applyH (upd hp1 z.1 z.2) zs i = _
    rw [applyH_other zs _ hz.2, upd_ne _ _ _ _ hz.1]

theorem applyH_used : ∀ (l : List (Id × Option Root)) (hp1 : Hp), (∀ i r, hp1 i = some r → U i.1) → (∀ i ∈ l.map (·.1), U i.1) → ∀ i r, applyH hp1 l i = some r → U i.1
  | [], _, h1, _, i, r, hr => h1 i r hr
  | z :: zs, hp1, h1, hz, i, r, hr => by
    refine applyH_used zs (upd hp1 z.1 z.2) (fun i r hr => ?_) (fun i hi => hz i (by simp at hi ⊢; exact .inr hi)) i r hr
    by_cases hiz : i = z.1
    · subst hiz; exact hz _ (by simp)
    · rw [upd_ne _ _ _ _ hiz] at hr; exact h1 i r hr

theorem close1_used [Use] {x c : A} {u : List (Id × Option Root)} {rd : List Id} (h0 : ∀ i r, hp i = some r → U i.1) (hc : close1 hp x = some (c, u, rd)) : ∀ i ∈ u.map (·.1), U i.1 := by
  unfold close1 at hc
  split at hc
  · cases hc; simp
  · cases hc; simp
  · cases hc; simp
  · cases hc; simp
  · split at hc
    · cases hc
    · rename_i r1 hr1
      split at hc
      · split at hc
        · split at hc
          · cases hc
            simp only [List.map_cons, List.map_nil, List.mem_singleton]
            rintro i rfl
            exact h0 _ _ hr1
          · cases hc
        · cases hc
      · cases hc
  · cases hc

theorem closeL_used [Use] : ∀ (xs : List A) (hp0 : Hp) (cs : List A) (us : List (Id × Option Root)) (rd : List Id), (∀ i r, hp0 i = some r → U i.1) → closeL hp0 xs = some (cs, us, rd) → ∀ i ∈ us.map (·.1), U i.1
  | [], _, _, _, _, _, hc => by simp [closeL] at hc; obtain ⟨_, rfl, _⟩ := hc; simp
  | y :: ys, hp0, cs, us, rd, h0, hc => by
    simp only [closeL] at hc
    split at hc
    · cases hc
    · rename_i c1 u1 rd1 hc1
      split at hc
      · cases hc
      · rename_i cs2 u2 rd2 hc2
        cases hc
        have hu1 := close1_used h0 hc1
        intro i hi
        simp only [List.map_append, List.mem_append] at hi
        rcases hi with hi | hi
        · exact hu1 i hi
        · exact closeL_used ys _ cs2 u2 rd2 (applyH_used u1 hp0 h0 hu1) hc2 i hi

theorem setRow_frz {w : World} {g b : Nat} {cs c : Array Value} {e : Nat} {f : Nat × Nat} (h : (w.setRow g cs).heap[b]? = some (.cells c e f)) : ∃ c', w.heap[b]? = some (.cells c' e f) := by
  simp only [World.setRow, Array.getElem?_modify] at h
  split at h
  · cases hb : w.heap[b]? with
    | none => rw [hb] at h; cases h
    | some o =>
      rw [hb] at h
      cases o with
      | cells c1 e1 f1 => simp at h; obtain ⟨_, rfl, rfl⟩ := h; exact ⟨c1, rfl⟩
      | _ => simp at h
  · exact ⟨c, h⟩

theorem store_ok [Use] (hT : TabOk P T) (h : HRel w0 L0 U hp w L) {m : Nat} (hm : ¬ U m) {t : Nat} {ti : TI} (ht : T t = some ti) {x v : A} {xu vu : Value} {e : Eff} (hx : Rep U w L hp x xu) (hv : Rep U w L hp v vu) (he : storeA ti hp x v = some e) :
    ∃ w' L', (Instr.storeAt t xu vu).run P w = .ok () w' ∧ HRel w0 L0 (addU U m) (applyH hp e.ups) w' L' ∧ Keeps U w L hp (addU U m) w' L' (applyH hp e.ups) ∧ e.val = .und := by
  have hti := hT t ti ht
  unfold storeA at he
  split at he
  · rename_i id path ver off
    split at he
    · rename_i sz len ncs cs us rd hn hcl
      split at he
      · rename_i hcond
        obtain ⟨hcsl, hti0, hfit, hids⟩ := hcond
        split at he
        · cases he
        · rename_i r hr
          cases he
          obtain ⟨hUid, hvl, b, rfl, hLb⟩ := valid_ptr hx (by simp [hn])
          have hcells := rep_cells hv (close_okPart hcl)
          have hU' : ∀ k, U k → addU U m k := fun k hk => .inl hk
          have h' : HRel w0 L0 (addU U m) hp w L := h.mono hU'
          have hk0 : Keeps U w L hp (addU U m) w L hp := ⟨hU', fun _ h => ⟨h, rfl⟩, fun _ r h _ => ⟨r, h, fun _ => Nat.le_refl _⟩, fun _ _ _ _ _ h => ⟨h, fun _ hb => ⟨hb, fun cur _ hc => ⟨cur, hc, rfl⟩⟩⟩⟩
          have htmpU : (m, 999).1 = m := rfl
          have hnoL : ∀ b p, L b ≠ .at (m, 999) p := fun b p hb => hm (h.used b _ p hb)
          have htmpups : (m, 999) ∉ us.map (·.1) := fun hmem => hm (closeL_used _ _ _ _ _ h.usedR hcl _ hmem)
          obtain ⟨L2, g1, g2, g3, g4, g5, g6⟩ := closeL_ok (w0 := w0) (L0 := L0) (U := addU U m) (w := w) (m, 999) [] (.inr rfl) (cellsA v) vu.cells.toList off hp L cs us rd h'
            (RepL.mono hk0 _ _ hcells) hcl htmpups (fun b j q _ _ => hnoL b _)
          have hL2b : L2 b = .at id path := by
            rw [g4.keep b fun i p hip => by rw [hLb] at hip; cases hip; exact hids]
            exact hLb
          have hnlen : vu.cells.size = ti.sz := by rw [← hcsl, g5]; simpa using g6
          have hr2 : applyH hp us id = some r := by
            rw [applyH_other us hp hids]
            exact hr
          have hvok := node_root hr (ver := ver) (path := path) (by simp [hn])
          have hgp : TM.getP r.sz r.len r.cs path = some (sz, len, ncs) := by
            unfold node at hn
            rw [hr] at hn
            simpa [hvok] using hn
          -- the block
          obtain ⟨u0, hu0⟩ := g1.roots id r hr2
          have hn2 : node (applyH hp us) id path ver = some (sz, len, ncs) := by simp [node, hr2, hvok, hgp]
          · have hne : ncs ≠ [] := by
              rintro rfl
              obtain ⟨u, hu⟩ := h.node hn
              simp only [Own] at hu
              rcases hu with ⟨_, rfl, _⟩ | ⟨b', cur, e, cap, k1, k2, k3, k4, k5, k6, k7, k8⟩
              · simp at hfit; omega
              · simp at k7; omega
            obtain ⟨cur, ee, cap, k3, k4, k5, k6, k7, k8⟩ := g1.block hn2 hL2b hne
            have hcap : len * sz ≤ cap * sz := Nat.mul_le_mul_right sz k5
            have hone : ∀ u ∈ vu.cells.toList, u.oneCell' = true := by
              intro u hu
              obtain ⟨j, hj⟩ := List.getElem?_of_mem hu
              have hjl : j < cs.length := by
                have := (List.getElem?_eq_some_iff.1 hj).1
                omega
              obtain ⟨u', e1, e2, _⟩ := OwnL.get cs off _ g2 j _ (List.getElem?_eq_getElem hjl)
              rw [hj] at e1
              cases e1
              exact e2
            have hrun := run_storeVar' (P := P) (w := w) (off := off) hti k3 hnlen (by omega) hone
            generalize hcur' : (cur.toList.take off ++ vu.cells.toList ++ cur.toList.drop (off + ti.sz)).toArray = cur' at hrun
            have hcur'sz : cur'.size = cur.size := by rw [← hcur']; simp; omega
            have hcur'get : ∀ j, cur'.toList[j]? = if off ≤ j ∧ j < off + ti.sz then vu.cells.toList[j - off]? else cur.toList[j]? := by
              intro j
              rw [← hcur']
              simp only
              by_cases hj : off ≤ j ∧ j < off + ti.sz
              · rw [if_pos hj, List.append_assoc, List.getElem?_append_right (by simp; omega), List.getElem?_append_left (by simp; omega)]
                congr 1
                simp
                omega
              · rw [if_neg hj]
                by_cases hj2 : j < off
                · rw [List.append_assoc, List.getElem?_append_left (by simp; omega)]
                  simp [List.getElem?_take, hj2]
                · rw [List.getElem?_append_right (by simp; omega)]
                  simp
                  congr 1
                  omega
            have hwb : (w.setRow b cur').heap[b]? = some (.cells cur' ee (0, 0)) := setRow_heap w b cur cur' ee _ k3
            have hwo : ∀ b', b' ≠ b → (w.setRow b cur').heap[b']? = w.heap[b']? := fun b' hb' => setRow_other w b b' cur' hb'
            have hwsz : (w.setRow b cur').heap.size = w.heap.size := by simp [World.setRow]
            -- the new labels
            have hidtmp : id ≠ (m, 999) := by rintro rfl; exact hm hUid
            have hLprot : ∀ b', L2 b' = .prot → relabS L2 (m, 999) id path off ti.sz b' = .prot ∧ (w.setRow b cur').heap[b']? = w.heap[b']? := by
              intro b' hb'
              refine ⟨?_, hwo b' (by rintro rfl; rw [hL2b] at hb'; cases hb')⟩
              rcases relabS_cases L2 (m, 999) id path off ti.sz b' with ⟨p, e1, e2⟩ | ⟨j, q, e1, _⟩ | ⟨_, _, e2⟩
              · rw [hb'] at e1; cases e1
              · rw [hb'] at e1; cases e1
              · rw [e2]; exact hb'
            have hLkeep : ∀ b' i p, L2 b' = .at i p → i ≠ (m, 999) → (i = id → ¬ ∃ j q, p = path ++ j :: q ∧ off ≤ j ∧ j < off + ti.sz) → relabS L2 (m, 999) id path off ti.sz b' = .at i p := by
              intro b' i p hb' hi hno
              rcases relabS_cases L2 (m, 999) id path off ti.sz b' with ⟨p', e1, e2⟩ | ⟨j, q, e1, e3, e4, e5, e2⟩ | ⟨_, _, e2⟩
              · rw [hb'] at e1; cases e1; exact (hi rfl).elim
              · rw [hb'] at e1; cases e1; exact (hno rfl ⟨j, q, rfl, e4, e5⟩).elim
              · rw [e2]; exact hb'
            have hLnew : ∀ b' j q, L2 b' = .at (m, 999) (j :: q) → relabS L2 (m, 999) id path off ti.sz b' = .at id (path ++ j :: q) := by
              intro b' j q hb'
              rcases relabS_cases L2 (m, 999) id path off ti.sz b' with ⟨p', e1, e2⟩ | ⟨j', q', e1, e3, _⟩ | ⟨e1, _, e2⟩
              · rw [hb'] at e1; cases e1; exact e2
              · rw [hb'] at e1; simp only [Lbl.at.injEq] at e1; exact (e3 e1.1.symm).elim
              · exact (e1 _ hb').elim
            have htmpL : ∀ b' p, L2 b' = .at (m, 999) p → ∃ j q, p = j :: q ∧ off ≤ j ∧ j < off + ti.sz := by
              intro b' p hb'
              rcases g4.back b' _ p hb' with hh | ⟨_, j, q, e1, e2, e3⟩
              · exact (hnoL b' p hh).elim
              · exact ⟨j, q, by simpa using e1, e2, by omega⟩
            have hinjk : ∀ b', b' ≠ b → ∀ q, L2 b' = .at id q → q ≠ path := by
              intro b' hb' q hq e
              subst e
              exact hb' (g1.inj b' b id q hq hL2b)
            refine ⟨w.setRow b cur', relabS L2 (m, 999) id path off ti.sz, by simp [Instr.storeAt, Instr.sureAddr, hrun], ?_, ?_, rfl⟩
            · rw [applyH_append, applyH_one]
              refine ⟨fun i r' hr' => ?_, fun b1 b2 i p hb1 hb2 => ?_, fun b1 hb1 => ?_, fun b1 i p hb1 => ?_, fun i r' hr' => ?_, fun b1 hb1 => ?_, by rw [hwsz]; exact g1.size, g1.os, g1.tape, g1.output, g1.use, fun b3 c3 e3 f3 hb3 hc3 => by
                obtain ⟨c4, hc4⟩ := setRow_frz hc3
                exact g1.frz b3 c4 e3 f3 hb3 hc4⟩
              · by_cases hi : i = id
                · subst hi
                  rw [upd_same] at hr'
                  cases hr'
                  refine ⟨u0, Own.modP hLprot (setR off cs) ?_ path [] _ _ _ u0 (fun b' q hq hnp => ?_) (fun sz' len' cs' b' cur2 e2 hg2 hl2 hh2 ho2 => ?_) hu0⟩
                  · exact List.eq_nil_of_length_eq_zero (by rw [setR_length]; rfl)
                  · simp only [List.nil_append] at hq ⊢
                    refine ⟨hLkeep b' _ q hq hidtmp fun _ => ?_, hwo b' ?_⟩
                    · rintro ⟨j, q', rfl, _⟩
                      exact hnp (by simp)
                    · rintro rfl
                      rw [hL2b] at hq
                      cases hq
                      exact hnp (by simp)
                  · rw [hgp] at hg2
                    cases hg2
                    simp only [List.nil_append] at hl2 ho2 ⊢
                    obtain rfl := g1.inj b' b _ _ hl2 hL2b
                    rw [k3] at hh2
                    cases hh2
                    refine ⟨hLkeep _ _ _ hL2b hidtmp fun _ => ?_, cur', hwb, hcur'sz, setR_length _ _ _, ?_⟩
                    · rintro ⟨j, q', e1, _⟩
                      have := congrArg List.length e1
                      simp at this
                    · refine OwnL.intro _ _ _ fun j c hc => ?_
                      rw [setR_get] at hc
                      rw [hcur'get j]
                      by_cases hj : off ≤ j ∧ j < off + cs.length ∧ j < ncs.length
                      · rw [if_pos hj] at hc
                        rw [if_pos (by omega)]
                        obtain ⟨u', e1, e2, e3⟩ := OwnL.get cs off _ g2 (j - off) c hc
                        refine ⟨u', e1, e2, Own.move hLprot c _ _ u' (fun b' q hq => ?_) e3⟩
                        rw [show off + (j - off) = j from by omega] at hq
                        simp only [List.nil_append, List.singleton_append] at hq
                        refine ⟨by simpa using hLnew b' j q hq, hwo b' ?_⟩
                        rintro rfl
                        rw [hL2b] at hq
                        cases hq
                        exact hidtmp rfl
                      · rw [if_neg hj] at hc
                        have hjn : j < ncs.length := (List.getElem?_eq_some_iff.1 hc).1
                        rw [if_neg (by omega)]
                        obtain ⟨u', e1, e2, e3⟩ := OwnL.get ncs 0 _ k8 j c hc
                        refine ⟨u', e1, e2, Own.move hLprot c _ _ u' (fun b' q hq => ?_) e3⟩
                        simp only [List.append_assoc, List.singleton_append, Nat.zero_add] at hq ⊢
                        refine ⟨hLkeep b' _ _ hq hidtmp fun _ => ?_, hwo b' ?_⟩
                        · rintro ⟨j', q', e4, e5, e6⟩
                          simp at e4
                          omega
                        · rintro rfl
                          rw [hL2b] at hq
                          have := (Lbl.at.injEq ..).mp hq
                          have := congrArg List.length this.2
                          simp at this
                · rw [upd_ne _ _ _ _ hi] at hr'
                  obtain ⟨u, hu⟩ := g1.roots i r' hr'
                  refine ⟨u, Own.move hLprot _ [] [] u (fun b' q hq => ⟨hLkeep b' i q hq ?_ (fun e => (hi e).elim), hwo b' ?_⟩) hu⟩
                  · rintro rfl
                    have hU2 : ∀ i r, applyH hp us i = some r → i ≠ (m, 999) := by
                      intro i r hir e
                      subst e
                      rw [applyH_other us hp htmpups] at hir
                      exact hm (h.usedR _ _ hir)
                    exact hU2 _ _ hr' rfl
                  · rintro rfl
                    rw [hL2b] at hq
                    cases hq
                    exact hi rfl
              · -- inj
                rcases relabS_cases L2 (m, 999) id path off ti.sz b1 with ⟨p1, e1, e2⟩ | ⟨j, q, e1, e3, e4, e5, e2⟩ | ⟨e1, e3, e2⟩
                · rw [e2] at hb1
                  cases hb1
                  obtain ⟨j, q, rfl, hj1, hj2⟩ := htmpL b1 p1 e1
                  rcases relabS_cases L2 (m, 999) id path off ti.sz b2 with ⟨p2, f1, f2⟩ | ⟨j', q', f1, f3, f4, f5, f2⟩ | ⟨f1, f3, f2⟩
                  · rw [f2] at hb2
                    simp only [Lbl.at.injEq, List.append_cancel_left_eq, true_and] at hb2
                    subst hb2
                    exact g1.inj b1 b2 _ _ e1 f1
                  · rw [f2] at hb2; cases hb2
                  · rw [f2] at hb2
                    exact (f3 j q hj1 hj2 hb2).elim
                · rw [e2] at hb1; cases hb1
                · rw [e2] at hb1
                  rcases relabS_cases L2 (m, 999) id path off ti.sz b2 with ⟨p2, f1, f2⟩ | ⟨j', q', f1, f3, f4, f5, f2⟩ | ⟨f1, f3, f2⟩
                  · rw [f2] at hb2
                    cases hb2
                    obtain ⟨j, q, rfl, hj1, hj2⟩ := htmpL b2 p2 f1
                    exact (e3 j q hj1 hj2 hb1).elim
                  · rw [f2] at hb2; cases hb2
                  · rw [f2] at hb2
                    exact g1.inj b1 b2 i p hb1 hb2
              · rw [hwsz] at hb1
                have hf := g1.free b1 hb1
                rcases relabS_cases L2 (m, 999) id path off ti.sz b1 with ⟨p1, e1, e2⟩ | ⟨j, q, e1, e3, e4, e5, e2⟩ | ⟨e1, e3, e2⟩
                · rw [hf] at e1; cases e1
                · exact e2
                · rw [e2]; exact hf
              · rcases relabS_cases L2 (m, 999) id path off ti.sz b1 with ⟨p1, e1, e2⟩ | ⟨j, q, e1, e3, e4, e5, e2⟩ | ⟨e1, e3, e2⟩
                · rw [e2] at hb1; cases hb1; exact .inl hUid
                · rw [e2] at hb1; cases hb1
                · rw [e2] at hb1; exact g1.used b1 i p hb1
              · by_cases hi : i = id
                · subst hi; exact .inl hUid
                · rw [upd_ne _ _ _ _ hi] at hr'; exact g1.usedR i r' hr'
              · obtain ⟨e1, e2⟩ := g1.prot b1 hb1
                exact ⟨(hLprot b1 e1).1, (hLprot b1 e1).2.trans e2⟩
            · -- what the slots ask
              rw [applyH_append, applyH_one]
              refine ⟨hU', fun b' hb' => ?_, fun i r' hr' hu => ?_, fun i p v' hu hvl' hnn => ?_⟩
              · obtain ⟨e1, e2⟩ := g3.prot b' hb'
                exact ⟨(hLprot b' e1).1, (hLprot b' e1).2.trans e2⟩
              · by_cases hi : i = id
                · subst hi
                  rw [upd_same] at hr'
                  cases hr'
                  refine ⟨r, hr, fun c => ?_⟩
                  show r.ver c ≤ (if cs.all isScalar = true then r.ver else bumpR r.ver path off cs.length) c
                  by_cases hsc : cs.all isScalar = true
                  · rw [if_pos hsc]
                    exact Nat.le_refl _
                  · rw [if_neg hsc]
                    exact le_bumpR ..
                · rw [upd_ne _ _ _ _ hi] at hr'
                  exact g3.root i r' hr' (.inl hu)
              · have key : node (applyH hp us) i p v' ≠ none ∧ (i = id → ¬ ∃ j q, p = path ++ j :: q ∧ off ≤ j ∧ j < off + ti.sz) := by
                  by_cases hi : i = id
                  · subst hi
                    unfold node at hnn ⊢
                    rw [upd_same] at hnn
                    rw [hr2]
                    simp only at hnn ⊢
                    cases p with
                    | nil => exact ⟨by simp [verOk, TM.getP], fun _ => by rintro ⟨j, q, e1, _⟩; simp at e1⟩
                    | cons c0 p0 =>
                      have hle : v' ≤ r.ver c0 := hvl' r hr c0 p0 rfl
                      simp only [verOk, beq_iff_eq] at hnn ⊢
                      by_cases hsc : cs.all isScalar = true
                      · rw [if_pos hsc] at hnn
                        have hno : ∀ v ∈ cs, isOwnS v = false := by
                          intro v hv
                          have := List.all_eq_true.1 hsc v hv
                          cases v <;> simp_all [isScalar, isOwnS]
                        by_cases hv1 : r.ver c0 = v'
                        · rw [if_pos hv1] at hnn ⊢
                          refine ⟨getP_modP _ path _ _ _ _ (fun cs' j s' l' c' hh => setR_own hno cs' j s' l' c' hh) hnn, fun _ => ?_⟩
                          rintro ⟨j, q, e1, e2, e3⟩
                          rw [e1] at hnn
                          exact hnn (getP_setR_no hno path _ _ _ j q e2 (by omega))
                        · rw [if_neg hv1] at hnn
                          exact (hnn rfl).elim
                      · rw [if_neg hsc] at hnn
                        cases path with
                        | nil =>
                          by_cases hr1 : off ≤ c0 ∧ c0 < off + cs.length
                          · have hb : bumpR r.ver [] off cs.length c0 = r.ver c0 + 1 := by rw [bumpR_nil, if_pos hr1]
                            rw [hb, if_neg (by omega)] at hnn
                            exact (hnn rfl).elim
                          · have hb : bumpR r.ver [] off cs.length c0 = r.ver c0 := by rw [bumpR_nil, if_neg hr1]
                            rw [hb] at hnn
                            by_cases hv1 : r.ver c0 = v'
                            · rw [if_pos hv1] at hnn ⊢
                              rw [getP_modP_ne _ _ _ [] c0 p0 (by simpa using hr1)] at hnn
                              refine ⟨hnn, fun _ => ?_⟩
                              rintro ⟨j, q, e1, e2, e3⟩
                              simp at e1
                              omega
                            · rw [if_neg hv1] at hnn
                              exact (hnn rfl).elim
                        | cons k path' =>
                          by_cases hr1 : c0 = k
                          · have hb : bumpR r.ver (k :: path') off cs.length c0 = r.ver c0 + 1 := by rw [bumpR_cons, if_pos hr1]
                            rw [hb, if_neg (by omega)] at hnn
                            exact (hnn rfl).elim
                          · have hb : bumpR r.ver (k :: path') off cs.length c0 = r.ver c0 := by rw [bumpR_cons, if_neg hr1]
                            rw [hb] at hnn
                            by_cases hv1 : r.ver c0 = v'
                            · rw [if_pos hv1] at hnn ⊢
                              rw [getP_modP_ne _ _ _ (k :: path') c0 p0 hr1] at hnn
                              refine ⟨hnn, fun _ => ?_⟩
                              rintro ⟨j, q, e1, e2, e3⟩
                              simp at e1
                              exact hr1 e1.1
                            · rw [if_neg hv1] at hnn
                              exact (hnn rfl).elim
                  · unfold node at hnn ⊢
                    rw [upd_ne _ _ _ _ hi] at hnn
                    exact ⟨hnn, fun e => (hi e).elim⟩
                obtain ⟨f1, f2⟩ := g3.node i p v' (.inl hu) hvl' key.1
                refine ⟨f1, fun b' hb' => ?_⟩
                obtain ⟨f3, f4⟩ := f2 b' hb'
                refine ⟨hLkeep b' i p f3 (by rintro rfl; exact hm hu) key.2, fun cur2 e2 hc2 => ?_⟩
                by_cases hbb : b' = b
                · subst hbb
                  rw [k3] at hc2
                  cases hc2
                  exact ⟨cur', hwb, hcur'sz⟩
                · exact ⟨cur2, (hwo b' hbb).trans hc2, rfl⟩
      · cases he
    · cases he
  · cases he

end
end Go.TM

/-! The tree machine, 7: the operations that make a root. -/
namespace Go.TM
set_option linter.unusedVariables false
set_option linter.unusedSimpArgs false

/-- The operation gives a value; the heap turns as the machine says. -/
def StepOk [Use] (P : Program) (w0 : World) (L0 : Lab) (U : Nat → Prop) (hp : Hp) (w : World) (L : Lab) (a : Act) (o : Oper) (m : Nat) (e : Eff) : Prop :=
  ∃ v w' L', (execOp a.eval o).run P w = .ok (.value v) w' ∧ HRel w0 L0 (addU U m) (applyH hp e.ups) w' L' ∧ Keeps U w L hp (addU U m) w' L' (applyH hp e.ups) ∧ Rep (addU U m) w' L' (applyH hp e.ups) e.val v

section
variable {P : Program} {T : Nat → Option TI} {w0 : World} {L0 : Lab} {U : Nat → Prop} {w w' : World} {L L' : Lab} {hp : Hp} {sl : Nat → A} {a : Act} {o : Oper} {e : Eff} {m : Nat}

theorem flat_get [Use] (l : List A) : ∀ (n j : Nat), ((List.replicate n l).flatten)[j]? = if j < n * l.length then l[j % l.length]? else none
  | 0, j => by simp
  | n + 1, j => by
    rw [List.replicate_succ, List.flatten_cons]
    by_cases h : j < l.length
    · rw [List.getElem?_append_left h, if_pos (by rw [Nat.add_mul]; omega), Nat.mod_eq_of_lt h]
    · rw [List.getElem?_append_right (by omega), flat_get l n (j - l.length)]
      have e1 : (j - l.length) % l.length = j % l.length := by
        rw [Nat.mod_eq_sub_mod (a := j) (by omega)]
      rw [e1, Nat.add_mul, Nat.one_mul]
      by_cases h2 : j - l.length < n * l.length
      · rw [if_pos h2, if_pos (by omega)]
      · rw [if_neg h2, if_neg (by omega)]

theorem own_zv [Use] {id : Id} {p : List Nat} {x : A} (h : zok x = true) : Own w L x id p (zv x) ∧ (zv x).oneCell' = true := by
  match x, h with
  | .i k n, h => exact ⟨by simp only [Own, zv]; exact ⟨trivial, h⟩, rfl⟩
  | .b v, _ => exact ⟨by simp [Own, zv], rfl⟩
  | .s true sz 0 [], _ => exact ⟨by simp [Own, zv], rfl⟩
  | .und, _ => exact ⟨by simp [Own], rfl⟩

/-- Rows of zero cells. -/
theorem own_zeros [Use] {t : Nat} {ti : TI} (hti : TIok P t ti) {id : Id} {p : List Nat} (n : Nat) {us : List Value} (hl : us.length = n * ti.sz) (hu : ∀ j, j < n * ti.sz → us[j]? = (ti.zero.map zv)[j % ti.sz]?) :
    OwnL w L ((List.replicate n ti.zero).flatten) id p 0 us := by
  refine OwnL.intro _ _ _ fun j c hc => ?_
  rw [flat_get] at hc
  rw [hti.zlen] at hc
  split at hc
  · rename_i hj
    have h1 := own_zv (w := w) (L := L) (id := id) (p := p ++ [0 + j]) (List.all_eq_true.1 hti.zok c (List.mem_of_getElem? hc))
    refine ⟨zv c, ?_, h1.2, h1.1⟩
    rw [hu j hj, List.getElem?_map, hc]
    rfl
  · cases hc

theorem fresh_lab [Use] (h : HRel w0 L0 U hp w L) (hm : ¬ U m) (k : Nat) : ∀ b p, L b ≠ .at (m, k) p := fun b p hb => hm (h.used b _ p hb)

theorem fresh_root [Use] (h : HRel w0 L0 U hp w L) (hm : ¬ U m) (k : Nat) : hp (m, k) = none := by
  cases hr : hp (m, k) with
  | none => rfl
  | some r => exact (hm (h.usedR _ r hr)).elim

theorem rep_newptr [Use] {b : Nat} {id : Id} {r : Root} (hU : U id.1) (hb : L b = .at id []) : Rep U w L (upd hp id (some r)) (.ptr id [] 0 0) (.pointer (some ⟨b, 0, none⟩)) := by
  refine rep_ptr hU ?_ hb
  intro r' _ c p hp'
  cases hp'

theorem rep_newref [Use] {b sz len cap : Nat} {id : Id} {r : Root} {cur : Array Value} {e : Nat} (hU : U id.1) (hb : L b = .at id []) (hw : w.heap[b]? = some (.cells cur e (0, 0))) (hcur : cur.size = cap * sz) (h1 : len ≤ cap) (h2 : cap ≤ maxLen) :
    Rep U w L (upd hp id (some r)) (.ref id [] 0 0 sz len) (.slice (some ⟨b, 0, none⟩) len cap) := by
  simp only [Rep]
  refine ⟨hU, ?_, _, cap, rfl, h1, h2, fun _ => .inr ⟨b, cur, e, rfl, hb, hw, by omega⟩⟩
  intro r' _ c p hp'
  cases hp'

/-- A new block under a root that has not been used. -/
theorem step_new [Use] (h : HRel w0 L0 U hp w L) (hm : ¬ U m) {hp1 : Hp} {L1 : Lab} (h1 : HRel w0 L0 (addU U m) hp1 w L1) (hk1 : Keeps U w L hp U w L1 hp1) {sz len cap : Nat} {cs : List A} {cur : Array Value} {e : Nat} (k : Nat)
    (hown : OwnL w L1 cs (m, k) [] 0 cur.toList) (hcs : cs.length = len * sz) (hcur : cur.size = cap * sz) (hcap : len ≤ cap) (hmax : cap ≤ maxLen) (hnew : ∀ b, L1 b ≠ .at (m, k) []) (hnone : hp1 (m, k) = none) (w1 : World)
    (hw1 : w1 = w ∨ w1 = w.drew) :
    ∃ L', HRel w0 L0 (addU U m) (upd hp1 (m, k) (some (newRoot sz len cs))) (w1.alloc (.cells cur e)) L' ∧ Keeps U w L hp (addU U m) (w1.alloc (.cells cur e)) L' (upd hp1 (m, k) (some (newRoot sz len cs))) ∧
      L' w.heap.size = .at (m, k) [] ∧ (w1.alloc (.cells cur e)).heap[w.heap.size]? = some (.cells cur e (0, 0)) ∧ (∀ b, b ≠ w.heap.size → L' b = L1 b) := by
  have hh : w1.heap = w.heap := by rcases hw1 with rfl | rfl <;> rfl
  have hos : w1.os = w.os := by rcases hw1 with rfl | rfl <;> rfl
  have htp : w1.tape = w.tape := by rcases hw1 with rfl | rfl <;> rfl
  have hout : w1.output = w.output := by rcases hw1 with rfl | rfl <;> rfl
  have hw : (w1.alloc (.cells cur e)).heap[w.heap.size]? = some (.cells cur e (0, 0)) := by rw [← hh]; exact heap_alloc_eq w1 _
  have hold : ∀ b, b < w.heap.size → (w1.alloc (.cells cur e)).heap[b]? = w.heap[b]? := fun b hb => by rw [heap_alloc_lt w1 _ (by rw [hh]; exact hb), hh]
  obtain ⟨L', g1, g2, g3, g4⟩ := adopt (w' := w1.alloc (.cells cur e)) h1 (id := (m, k)) (.inr rfl) hown hcs hcur hcap hmax hnew hnone hw hold (by rw [World.size_alloc, hh]) hos htp hout
  exact ⟨L', g1, hk1.trans (keeps_root (fun k hk => .inl hk) hm g4), g2, hw, g3⟩

theorem addU_l {k : Nat} (h : U k) : addU U m k := .inl h

theorem eff_alloc [Use] (hT : TabOk P T) (h : HRel w0 L0 U hp w L) (hm : ¬ U m) {t : Nat} (ho : o.op = .alloc t)
    (he : (match T t with
    | some ti => some (⟨.ptr (m, 0) [] 0 0, [((m, 0), some (newRoot ti.sz 1 ti.zero))], []⟩ : Eff)
    | none => none) = some e) : StepOk P w0 L0 U hp w L a o m e := by
  split at he
  · rename_i ti ht
    cases he
    have hti := hT t ti ht
    obtain ⟨i, z, h1, h2, h3, h4, h5⟩ := hti.info
    have hzl : z.cells.size = ti.sz := by have := congrArg List.length h5; simpa [hti.zlen] using this
    have hz := own_zeros (w := w) (L := L) hti (id := (m, 0)) (p := []) 1 (us := z.cells.toList) (by simp [hzl]) (fun j hj => by rw [h5, Nat.mod_eq_of_lt (by omega)])
    simp only [List.replicate_one, List.flatten_cons, List.flatten_nil, List.append_nil] at hz
    obtain ⟨L', g1, g2, g3, g4, g5⟩ := step_new h hm (h.mono fun k hk => addU_l hk) Keeps.rfl' (sz := ti.sz) (len := 1) (cap := 1) 0 hz (by simp [hti.zlen]) (by simp [hzl]) (Nat.le_refl _) (by decide) (fun b => fresh_lab h hm 0 b []) (fresh_root h hm 0) w (.inl rfl) (e := t)
    refine ⟨.pointer (some ⟨w.heap.size, 0, none⟩), _, L', ?_, g1, g2, rep_newptr (.inr rfl) g3⟩
    simp [execOp, ho, Instr.alloc, zeroValue, typeInfo, h1, h4, newVar, newRow]
  · cases he

theorem eff_box [Use] (hT : TabOk P T) (h : HRel w0 L0 U hp w L) (hs : Slots U w L hp sl a.tmps) (hm : ¬ U m) {t : Nat} {x : Operand} (ho : o.op = .box t x)
    (he : (match T t, closeL hp (cellsA (ev T sl t x)) with
    | some ti, some (cs, us, rd) => if cs.length = ti.sz then some (⟨.ptr (m, 0) [] 0 0, us ++ [((m, 0), some (newRoot ti.sz 1 cs))], rd⟩ : Eff) else none
    | _, _ => none) = some e) : StepOk P w0 L0 U hp w L a o m e := by
  split at he
  · rename_i ti cs us rd ht hcl
    split at he
    · rename_i hlen
      cases he
      have hti := hT t ti ht
      have hcells := rep_cells (rep_ev (T := T) hs t x) (close_okPart hcl)
      have hups := closeL_used _ _ _ _ _ h.usedR hcl
      have hmu : (m, 0) ∉ us.map (·.1) := fun hmem => hm (hups _ hmem)
      have hk0 : Keeps U w L hp (addU U m) w L hp := ⟨fun k hk => addU_l hk, fun _ h => ⟨h, rfl⟩, fun _ r h _ => ⟨r, h, fun _ => Nat.le_refl _⟩, fun _ _ _ _ _ h => ⟨h, fun _ hb => ⟨hb, fun cur _ hc => ⟨cur, hc, rfl⟩⟩⟩⟩
      obtain ⟨L1, g1, g2, g3, g4, g5, g6⟩ := closeL_ok (m, 0) [] (.inr rfl) _ _ 0 hp L cs us rd (h.mono fun k hk => addU_l (m := m) hk) (RepL.mono hk0 _ _ hcells) hcl hmu (fun b j q _ _ => fresh_lab h hm 0 b _)
      have hsz : (a.eval x).cells.size = ti.sz := by rw [← hlen, g5]; simpa using g6
      obtain ⟨L', f1, f2, f3, f4, f5⟩ := step_new h hm g1 (g3.restrict fun k hk => addU_l hk) (sz := ti.sz) (len := 1) (cap := 1) 0 g2 (by omega) (by omega) (Nat.le_refl _) (by decide) (fun b hb => by
          rcases g4.back b _ _ hb with hb | ⟨_, j, q, e1, _⟩
          · exact fresh_lab h hm 0 b _ hb
          · simp at e1) (by rw [applyH_other us hp hmu]; exact fresh_root h hm 0) w (.inl rfl) (e := t)
      rw [← applyH_one, ← applyH_append] at f1 f2
      refine ⟨.pointer (some ⟨w.heap.size, 0, none⟩), _, L', ?_, f1, f2, ?_⟩
      · simp [execOp, ho, Instr.box, newVar, newRow]
      · rw [applyH_append, applyH_one]
        exact rep_newptr (.inr rfl) f3
    · cases he
  · cases he

theorem zeros_get [Use] {z : Array Value} {n j : Nat} (hj : j < n) (hz : 0 < z.size) : (((Array.range n).map (z[· % z.size]!)).toList)[j]? = z.toList[j % z.size]? := by
  have : j % z.size < z.size := Nat.mod_lt _ hz
  simp [hj, getElem!_pos, this]

theorem eff_makeSlice [Use] (hT : TabOk P T) (h : HRel w0 L0 U hp w L) (hs : Slots U w L hp sl a.tmps) (hm : ¬ U m) {t : Nat} {l c : Operand} (ho : o.op = .makeSlice t l c)
    (he : (match kindOf T t, ev T sl 0 l, ev T sl 0 c with
    | .slice e, .i .i64 n, .i .i64 n' => match T e with
      | some ti => if n = n' ∧ 0 ≤ n ∧ n.toNat * ti.bytes ≤ 140737488355328 ∧ n.toNat ≤ 140737488355328 then some (⟨.ref (m, 0) [] 0 0 ti.sz n.toNat, [((m, 0), some (newRoot ti.sz n.toNat (List.replicate n.toNat ti.zero).flatten))], []⟩ : Eff) else none
      | none => none
    | _, _, _ => none) = some e) : StepOk P w0 L0 U hp w L a o m e := by
  split at he
  · rename_i el n n' hk hl hc
    have hu := hT.slice hk
    have r1 := rep_ev (T := T) hs 0 l
    have r2 := rep_ev (T := T) hs 0 c
    rw [hl] at r1
    rw [hc] at r2
    obtain ⟨r1, w1⟩ := rep_i r1
    obtain ⟨r2, w2⟩ := rep_i r2
    split at he
    · rename_i ti ht
      split at he
      · rename_i hcond
        obtain ⟨rfl, h0, hb, hb2⟩ := hcond
        cases he
        have hti := hT el ti ht
        obtain ⟨i, z, h1, h2, h3, h4, h5⟩ := hti.info
        have hzl : z.cells.size = ti.sz := by have := congrArg List.length h5; simpa [hti.zlen] using this
        have hrun := run_make (P := P) w t el i z hu h1 h4 .i64 .i64 n n h0 (Int.le_refl _) (by
          have : (i.bytes : Int) * n = ((n.toNat * ti.bytes : Nat) : Int) := by rw [h3, Int.natCast_mul, Int.toNat_of_nonneg h0, Int.mul_comm]
          rw [this]; omega) (by omega)
        rw [h2] at hrun
        have hmade : ∀ j, j < n.toNat * ti.sz → (madeCells z.cells (n.toNat * ti.sz)).toList[j]? = (ti.zero.map zv)[j % ti.sz]? := by
          intro j hj
          have hpos : 0 < ti.sz := by
            rcases Nat.eq_zero_or_pos ti.sz with h | h
            · rw [h] at hj; omega
            · exact h
          have := zeros_get (z := z.cells) (n := n.toNat * ti.sz) (j := j) hj (by omega)
          rw [hzl, h5] at this
          rw [← this]
          simp [madeCells, hzl]
        have hz := own_zeros (w := w) (L := L) hti (id := (m, 0)) (p := []) n.toNat (us := (madeCells z.cells (n.toNat * ti.sz)).toList) (by simp [size_madeCells]) hmade
        obtain ⟨L', g1, g2, g3, g4, g5⟩ := step_new h hm (h.mono fun k hk => addU_l hk) Keeps.rfl' (sz := ti.sz) (len := n.toNat) (cap := n.toNat) 0 hz (by
            have := flat_get ti.zero n.toNat
            simp [List.length_flatten, hti.zlen]) (by simp [size_madeCells]) (Nat.le_refl _) (by simp only [maxLen]; omega) (fun b => fresh_lab h hm 0 b []) (fresh_root h hm 0) w (.inl rfl) (e := el)
        refine ⟨.slice (some ⟨w.heap.size, 0, none⟩) n.toNat n.toNat, _, L', ?_, g1, g2, rep_newref (.inr rfl) g3 g4 (by simp [size_madeCells]) (Nat.le_refl _) (by simp only [maxLen]; omega)⟩
        simp [execOp, ho, r1, r2, hrun]
      · cases he
    · cases he
  · cases he

theorem fillA_length [Use] (place : Nat → Option (Nat × Nat)) : ∀ (ps : List (Nat × A)) (xs r : List A), fillA place xs ps = some r → r.length = xs.length
  | [], _, _, h => by simp [fillA] at h; rw [h]
  | (i, v) :: ps, xs, r, h => by
    simp only [fillA] at h
    split at h
    · cases h
    · rename_i off size _
      split at h
      · rename_i hc
        rw [fillA_length place ps _ r h]
        simp
        omega
      · cases h

theorem eff_buildSlice [Use] (hT : TabOk P T) (h : HRel w0 L0 U hp w L) (hs : Slots U w L hp sl a.tmps) (hm : ¬ U m) {t len : Nat} {parts : Array (Nat × Operand)} (ho : o.op = .buildSlice t len parts)
    (he : (match kindOf T t with
    | .slice e => match T e with
      | some ti => match fillA (fun i => some (i * ti.sz, ti.sz)) (List.replicate len ti.zero).flatten (parts.toList.map fun p => (p.1, ev T sl e p.2)) with
        | some vs => match closeL hp vs with
          | some (cs, us, rd) => if 0 < ti.sz ∧ len * ti.sz ≤ 2 ^ 24 then some (⟨.ref (m, 0) [] 0 0 ti.sz len, us ++ [((m, 0), some (newRoot ti.sz len cs))], rd⟩ : Eff) else none
          | none => none
        | none => none
      | none => none
    | _ => none) = some e) : StepOk P w0 L0 U hp w L a o m e := by
  split at he
  · rename_i el hk
    have hu := hT.slice hk
    split at he
    · rename_i ti ht
      split at he
      · rename_i vs hvs
        split at he
        · rename_i cs us rd hcl
          split at he
          · rename_i hsmall'
            obtain ⟨hpos0, hsmall⟩ := hsmall'
            cases he
            have hti := hT el ti ht
            obtain ⟨i, z, h1, h2, h3, h4, h5⟩ := hti.info
            have hzl : z.cells.size = ti.sz := by have := congrArg List.length h5; simpa [hti.zlen] using this
            -- the cells to begin with
            obtain ⟨c0, hc0, hc0l, hc0r⟩ : ∃ c0 : Array Value, (if len * ti.sz = 0 then c0 = #[] else c0 = (Array.range (len * ti.sz)).map (z.cells[· % z.cells.size]!)) ∧ c0.size = len * ti.sz ∧ RepL U w L hp (List.replicate len ti.zero).flatten c0.toList := by
              by_cases hz0 : len * ti.sz = 0
              · refine ⟨#[], by simp [hz0], by simp [hz0], ?_⟩
                have : (List.replicate len ti.zero).flatten = [] := List.eq_nil_of_length_eq_zero (by simp [List.length_flatten, hti.zlen, hz0])
                rw [this]
                simp [RepL]
              · refine ⟨_, by rw [if_neg hz0], by simp, ?_⟩
                refine repL_of (by simp [List.length_flatten, hti.zlen]) fun j x u hx hu' => ?_
                rw [flat_get, hti.zlen] at hx
                split at hx
                · rename_i hj
                  have hpos : 0 < ti.sz := by
                    rcases Nat.eq_zero_or_pos ti.sz with h | h
                    · rw [h] at hz0; simp at hz0
                    · exact h
                  rw [zeros_get hj (by omega), hzl, h5, List.getElem?_map, hx] at hu'
                  cases hu'
                  exact rep_zv (List.all_eq_true.1 hti.zok x (List.mem_of_getElem? hx))
                · cases hx
            obtain ⟨out, ho1, ho2⟩ := fill_rep (fun i => some (i * ti.sz, ti.sz)) _ (parts.map fun (i, x) => (i, a.eval x)).toList _ c0 vs hc0r (by simp) (parts_rep (T := T) hs parts (fun _ => el)) hvs
            have hvl : vs.length = len * ti.sz := by rw [fillA_length _ _ _ _ hvs]; simp [List.length_flatten, hti.zlen]
            have hups := closeL_used _ _ _ _ _ h.usedR hcl
            have hmu : (m, 0) ∉ us.map (·.1) := fun hmem => hm (hups _ hmem)
            have hk0 : Keeps U w L hp (addU U m) w L hp := ⟨fun k hk => addU_l hk, fun _ h => ⟨h, rfl⟩, fun _ r h _ => ⟨r, h, fun _ => Nat.le_refl _⟩, fun _ _ _ _ _ h => ⟨h, fun _ hb => ⟨hb, fun cur _ hc => ⟨cur, hc, rfl⟩⟩⟩⟩
            obtain ⟨L1, g1, g2, g3, g4, g5, g6⟩ := closeL_ok (m, 0) [] (.inr rfl) _ _ 0 hp L cs us rd (h.mono fun k hk => addU_l (m := m) hk) (RepL.mono hk0 _ _ ho2) hcl hmu (fun b j q _ _ => fresh_lab h hm 0 b _)
            have hosz : out.size = len * ti.sz := by rw [← hvl]; simpa using g6
            have hlenmax : len ≤ maxLen := by
              have := Nat.le_mul_of_pos_right len hpos0
              simp only [maxLen]
              omega
            obtain ⟨L', f1, f2, f3, f4, f5⟩ := step_new h hm g1 (g3.restrict fun k hk => addU_l hk) (sz := ti.sz) (len := len) (cap := len) 0 g2 (by omega) (by omega) (Nat.le_refl _) hlenmax (fun b hb => by
                rcases g4.back b _ _ hb with hb | ⟨_, j, q, e1, _⟩
                · exact fresh_lab h hm 0 b _ hb
                · simp at e1) (by rw [applyH_other us hp hmu]; exact fresh_root h hm 0) w (.inl rfl) (e := el)
            rw [← applyH_one, ← applyH_append] at f1 f2
            refine ⟨.slice (some ⟨w.heap.size, 0, none⟩) len len, _, L', ?_, f1, f2, ?_⟩
            · have hrun : (Instr.buildSlice t len (parts.map fun (i, x) => (i, a.eval x))).run P w = .ok (.slice (some ⟨w.heap.size, 0, none⟩) len len) (w.alloc (.cells out el)) := by
                by_cases hz0 : len * ti.sz = 0
                · rw [if_pos hz0] at hc0
                  subst hc0
                  have hz0' : len * i.size = 0 := by rw [h2]; exact hz0
                  rw [← h2] at ho1
                  have hr0 : Array.range 0 = #[] := rfl
                  have ho2 : Instr.fill (fun j => some (j * i.size, i.size)) #[] (List.map (fun x => (x.fst, a.eval x.snd)) parts.toList) = some out := by simpa using ho1
                  simp [Instr.buildSlice, run_underlying hu, sizeOf, typeInfo, h1, hz0', newRow, hr0, ho2]
                · rw [if_neg hz0] at hc0
                  refine run_buildSlice w t el len _ out i z hu h1 h4 (by rw [h2]; omega) (by rw [h2]; exact hz0) ?_
                  rw [h2, ← hc0]
                  exact ho1
              unfold execOp
              simp only [ho, Sem.run_bind, hrun, Result.andThen_ok, Sem.run_pure]
            · rw [applyH_append, applyH_one]
              exact rep_newref (.inr rfl) f3 f4 (by omega) (Nat.le_refl _) hlenmax
          · cases he
        · cases he
      · cases he
    · cases he
  · cases he

end
end Go.TM

/-! The tree machine, 8: append. -/
namespace Go.TM
set_option linter.unusedVariables false
set_option linter.unusedSimpArgs false

section
variable {P : Program} {T : Nat → Option TI} {w0 : World} {L0 : Lab} {U : Nat → Prop} {w w' : World} {L L' : Lab} {hp : Hp} {sl : Nat → A} {a : Act} {o : Oper} {e : Eff} {m : Nat}

/-! ### The run -/

/-- What an append's second operand holds. -/
def SrcV (w : World) (size : Nat) (x : Value) (n : Nat) (news : List Value) : Prop :=
  ∃ ao cap, x = .slice ao n cap ∧ news.length = n * size ∧ (∀ u ∈ news, u.oneCell' = true) ∧ (n = 0 ∨ ∃ a : Addr, ao = some a ∧ ∀ (j : Nat) (v : Value), news[j]? = some v → w.cell? (a.add j) = some v)

theorem SrcV.run [Use] {size n : Nat} {x : Value} {news : List Value} (h : SrcV w size x n news) (w1 : World) (hw : w1 = w ∨ w1 = w.drew) : (Builtin.firstCells size n x).run P w1 = .ok news.toArray w1 := by
  obtain ⟨ao, cap, rfl, hl, _, h3⟩ := h
  rcases h3 with rfl | ⟨a, rfl, h3⟩
  · have : news = [] := List.eq_nil_of_length_eq_zero (by simpa using hl)
    subst this
    cases ao with
    | none => exact run_firstCells_none w1 size 0 0 cap
    | some a => exact run_firstCells_some (P := P) w1 size 0 a 0 cap [] (by simp) (by simp)
  · exact run_firstCells_some (P := P) w1 size n a n cap news hl (fun j v hv => by rcases hw with rfl | rfl <;> exact h3 j v hv)

theorem SrcV.len [Use] {size n : Nat} {x : Value} {news : List Value} (h : SrcV w size x n news) (w1 : World) : (Builtin.lenOf x).run P w1 = .ok n w1 := by
  obtain ⟨ao, cap, rfl, _⟩ := h
  simp [Builtin.lenOf]

theorem run_app_room [Use] {t ty el e : Nat} {i : TypeInfo} (ht : P.underlying t = some (.slice el)) (hi : P.info? el = some i) {g sLen sCap : Nat} {cur : Array Value} (hg : w.heap[g]? = some (.cells cur e (0, 0)))
    {x : Value} {n : Nat} {news : List Value} (hx : SrcV w i.size x n news) (hroom : sLen + n ≤ sCap) (hfit : sLen * i.size + news.length ≤ cur.size) :
    (Builtin.append_ #[t, t] ty #[.slice (some ⟨g, 0, none⟩) sLen sCap, x]).run P w =
      .ok (.slice (some ⟨g, 0, none⟩) (sLen + n) sCap) (w.setRow g (cur.toList.take (sLen * i.size) ++ news ++ cur.toList.drop (sLen * i.size + news.length)).toArray) := by
  have hf := hx.run (P := P) w (.inl rfl)
  have hlen := hx.len (P := P) w
  have hst := run_storeCells_at P g (sLen * i.size) e news 0 cur w hg (by simpa using hfit) (by obtain ⟨_, _, _, _, h1, _⟩ := hx; exact h1)
  simp only [Nat.add_zero] at hst
  obtain ⟨ao, cap, rfl, _⟩ := hx
  simp [Builtin.append_, run_underlying ht, sizeOf, typeInfo, hi, Builtin.lenOf, hroom, hf, Addr.add_lit, hst]

theorem run_app_grow [Use] {t ty el : Nat} {i : TypeInfo} {z : Value} (ht : P.underlying t = some (.slice el)) (hi : P.info? el = some i) (hz : i.zero = some z) {d : Value} {sLen sCap : Nat} {olds : List Value} (hd : SrcV w i.size d sLen olds) (hdc : ∃ ao, d = .slice ao sLen sCap)
    {x : Value} {n : Nat} {news : List Value} (hx : SrcV w i.size x n news) (hg : sCap < sLen + n) (h63 : ((sLen + n : Nat) : Int) ≤ 9223372036854775807) (hfit : (sLen + n) * i.bytes ≤ 140737488355328) :
    (Builtin.append_ #[t, t] ty #[d, x]).run P w = .ok (.slice (some ⟨w.heap.size, 0, none⟩) (sLen + n) (grownCap w (sLen + n) sCap el))
        (w.drew.alloc (.cells (olds.toArray ++ news.toArray ++ Builtin.zeroCells z.cells (grownCap w (sLen + n) sCap el - (sLen + n))) el)) := by
  have hn : ¬ (sLen + n ≤ sCap) := by omega
  have h63' : ¬ (9223372036854775807 < ((sLen : Int) + (n : Int))) := by omega
  have h48 := growslice_fits (old := sCap) (by omega) hfit
  have h48' : ¬ (281474976710656 < Builtin.nextslicecap (sLen + n) sCap * i.bytes) := by omega
  have hf := hx.run (P := P) w.drew (.inr rfl)
  have hfo := hd.run (P := P) w.drew (.inr rfl)
  obtain ⟨ao, rfl⟩ := hdc
  obtain ⟨ao', cap', rfl, _⟩ := hx
  simp [Builtin.append_, run_underlying ht, sizeOf, typeInfo, zeroValue, hi, hz, Builtin.lenOf, hn, h63', h48', Question.forced, hf, hfo, newRow, grownCap]
  rw [← Array.append_assoc]
  simp

theorem run_app_nil [Use] {t ty el : Nat} {i : TypeInfo} (ht : P.underlying t = some (.slice el)) (hi : P.info? el = some i) {x : Value} {news : List Value} (hx : SrcV w i.size x 0 news) :
    (Builtin.append_ #[t, t] ty #[.slice none 0 0, x]).run P w = .ok (.slice none 0 0) w := by
  have hf := hx.run (P := P) w (.inl rfl)
  obtain ⟨ao', cap', rfl, _⟩ := hx
  simp [Builtin.append_, run_underlying ht, sizeOf, typeInfo, hi, Builtin.lenOf, hf]

/-! ### The source -/

theorem own_imm1 [Use] {id : Id} {p : List Nat} {c : A} {u : Value} (h : Imm w (isProt L) c u) : Own w L (imm1 c) id p u := by
  cases c <;> simp_all [Imm, imm1, Own]

theorem own_scal [Use] {id id' : Id} {p p' : List Nat} {c : A} {u : Value} (h : Own w L c id p u) : Own w L (scal c) id' p' u := by
  match c, h with
  | .i k n, h => simpa [scal, Own] using h
  | .b v, h => simpa [scal, Own] using h
  | .s .., _ => simp [scal, Own]
  | .und, _ => simp [scal, Own]
  | .ref .., h => simp [Own] at h
  | .ptr .., h => simp [Own] at h
  | .ep _, h => simp [Own] at h
  | .agg _, h => simp [Own] at h
  | .tup _, h => simp [Own] at h
  | .ub, h => simp [Own] at h

/-- The labels when some cells of a root are taken out. -/
def relabR (L : Lab) (id : Id) (off n : Nat) (tid : Id) : Lab := fun b => match L b with
  | .at i p => if i = id then (match p with
    | j :: q => if off ≤ j ∧ j < off + n then .at tid ((j - off) :: q) else .at i p
    | [] => .at i p) else .at i p
  | x => x

theorem relabR_cases [Use] (L : Lab) (id : Id) (off n : Nat) (tid : Id) (b : Nat) :
    (∃ j q, L b = .at id (j :: q) ∧ off ≤ j ∧ j < off + n ∧ relabR L id off n tid b = .at tid ((j - off) :: q)) ∨ ((∀ j q, off ≤ j → j < off + n → L b ≠ .at id (j :: q)) ∧ relabR L id off n tid b = L b) := by
  unfold relabR
  cases hL : L b with
  | free => exact .inr ⟨by simp, rfl⟩
  | prot => exact .inr ⟨by simp, rfl⟩
  | «at» i p =>
    simp only
    by_cases hi : i = id
    · subst hi
      rw [if_pos rfl]
      cases p with
      | nil => exact .inr ⟨by simp, rfl⟩
      | cons j q =>
        simp only
        by_cases hj : off ≤ j ∧ j < off + n
        · rw [if_pos hj]
          exact .inl ⟨j, q, rfl, hj.1, hj.2, rfl⟩
        · rw [if_neg hj]
          refine .inr ⟨fun j' q' h1 h2 h3 => ?_, rfl⟩
          cases h3
          exact hj ⟨h1, h2⟩
    · rw [if_neg hi]
      refine .inr ⟨fun j q _ _ h3 => ?_, rfl⟩
      cases h3
      exact hi rfl

theorem gone_get [Use] (cs : List A) (off n j : Nat) (h : off + n ≤ cs.length) : (goneR cs off n)[j]? = if off ≤ j ∧ j < off + n then (cs[j]?).map gone1 else cs[j]? := by
  unfold goneR
  have hr : (rng cs off n).length = n := by unfold rng; simp; omega
  by_cases h1 : j < off
  · rw [if_neg (by omega), List.append_assoc, List.getElem?_append_left (by simp; omega), List.getElem?_take, if_pos h1]
  · by_cases h2 : j < off + n
    · rw [if_pos ⟨by omega, h2⟩, List.append_assoc, List.getElem?_append_right (by simp; omega), List.getElem?_append_left (by simp [hr]; omega)]
      rw [List.getElem?_map, rng_get]
      simp only [List.length_take]
      rw [Nat.min_eq_left (by omega), if_pos (by omega), show off + (j - off) = j from by omega]
    · rw [if_neg (by omega), List.getElem?_append_right (by simp [hr]; omega)]
      simp [hr]
      congr 1
      omega

theorem own_gone [Use] {id : Id} {p : List Nat} {c : A} {u : Value} (hp : ∀ b, L b = .prot → L' b = .prot ∧ w'.heap[b]? = w.heap[b]?) (h : Own w L c id p u) : Own w' L' (gone1 c) id p u := by
  match c, h with
  | .s true sz len cs, _ => simp [gone1, Own]
  | .i k n, h => simpa [gone1, Own] using h
  | .b v, h => simpa [gone1, Own] using h
  | .s false sz len cs, h => exact Own.flat hp rfl h
  | .und, _ => simp [gone1, Own]
  | .ref .., h => simp [Own] at h
  | .ptr .., h => simp [Own] at h
  | .ep _, h => simp [Own] at h
  | .agg _, h => simp [Own] at h
  | .tup _, h => simp [Own] at h
  | .ub, h => simp [Own] at h

theorem getP_gone [Use] {sz len off n : Nat} {cs : List A} (h : off + n ≤ cs.length) (q : List Nat) (hg : TM.getP sz len (goneR cs off n) q ≠ none) : TM.getP sz len cs q ≠ none ∧ ∀ j q', q = j :: q' → ¬ (off ≤ j ∧ j < off + n) := by
  cases q with
  | nil => exact ⟨by simp [TM.getP], by simp⟩
  | cons c q =>
    simp only [TM.getP] at hg ⊢
    rw [gone_get cs off n c h] at hg
    by_cases hc : off ≤ c ∧ c < off + n
    · rw [if_pos hc] at hg
      exfalso
      cases hcc : cs[c]? with
      | none => simp [hcc] at hg
      | some x => rw [hcc] at hg; simp only [Option.map_some] at hg; cases x <;> simp [gone1] at hg; rename_i o' _ _ _; cases o' <;> simp at hg
    · rw [if_neg hc] at hg
      refine ⟨hg, fun j q' e => ?_⟩
      cases e
      exact hc

/-- What the source of an append gives. -/
theorem src_ok [Use] {sz : Nat} (hsz0 : 0 < sz) (h : HRel w0 L0 (addU U m) hp w L) (hm : ¬ U m) (hLm : ∀ b k p, L b ≠ .at (m, k) p) {flat : Bool} {x : A} {u : Value} {scs : List A} {slen : Nat} {ups : List (Id × Option Root)} {rd : List Id}
    (hx : Rep U w L hp x u) (hs : srcOf hp flat sz x = some (scs, slen, ups, rd)) :
    ∃ L1 news, SrcV w sz u slen news ∧ HRel w0 L0 (addU U m) (applyH hp ups) w L1 ∧ OwnL w L1 scs (m, 998) [] 0 news ∧ scs.length = news.length ∧ Keeps U w L hp U w L1 (applyH hp ups) ∧
      (∀ b p, L1 b = .at (m, 998) p → ∃ j q, p = j :: q ∧ j < news.length) ∧ (∀ b k p, k ≠ 998 → L1 b ≠ .at (m, k) p) ∧ (∀ i ∈ ups.map (·.1), U i.1) := by
  unfold srcOf at hs
  split at hs
  · rename_i o' sz' len cs
    split at hs
    · rename_i hsz
      subst hsz
      cases hs
      have hx' : ∃ ao cap, u = .slice ao slen cap ∧ slen ≤ cap ∧ cap ≤ maxLen ∧ cs.length = slen * sz' ∧
          (cs = [] ∨ ∃ ad : Addr, ao = some ad ∧ ad.spot = none ∧ isProt L ad.block ∧ ImmL w (isProt L) cs ad.block ad.off) := by
        cases o' with
        | true =>
          simp only [Rep] at hx
          obtain ⟨h1, rfl, rfl⟩ := hx
          exact ⟨none, 0, h1, by simp, by simp, by simp, .inl rfl⟩
        | false => simpa only [Rep, Imm] using hx
      obtain ⟨ao, cap, rfl, h2, h3, h4, h5⟩ := hx'
      rcases h5 with rfl | ⟨ad, rfl, e1, e2, e3⟩
      · refine ⟨L, [], ⟨ao, cap, rfl, by simpa using h4, by simp, ?_⟩, h, by simp [OwnL], rfl, Keeps.rfl', fun b p hb => (hLm b _ p hb).elim, fun b k p _ => hLm b k p, by simp⟩
        left
        simp only [List.length_nil] at h4
        rcases Nat.mul_eq_zero.1 h4.symm with h | h
        · exact h
        · omega
      · obtain ⟨us, f1, f2, f3⟩ := ImmL.vals cs ad.off e3
        refine ⟨L, us, ⟨_, cap, rfl, by rw [f1]; exact h4, ?_, .inr ⟨ad, rfl, ?_⟩⟩, h, ?_, by simp [f1], Keeps.rfl', fun b p hb => (hLm b _ p hb).elim, fun b k p _ => hLm b k p, by simp⟩
        · intro v hv
          obtain ⟨j, hj⟩ := List.getElem?_of_mem hv
          exact (f2 j v hj).2
        · intro j v hj
          have had : ad = ⟨ad.block, ad.off, none⟩ := by cases ad; simp_all
          rw [had, add_lit]
          exact (f2 j v hj).1
        · refine OwnL.intro _ _ _ fun j c hc => ?_
          rw [List.getElem?_map] at hc
          simp only [Option.map_eq_some_iff] at hc
          obtain ⟨c', hc', rfl⟩ := hc
          have hjl : j < us.length := by rw [f1]; exact (List.getElem?_eq_some_iff.1 hc').1
          have hv := List.getElem?_eq_getElem hjl
          exact ⟨_, hv, (f2 j _ hv).2, own_imm1 (f3 j c' _ hc' hv)⟩
    · cases hs
  · rename_i id path ver off sz' len
    split at hs
    · rename_i nsz nlen cs r hn hr
      split at hs
      · rename_i hcond
        obtain ⟨rfl, rfl, hfit⟩ := hcond
        have hxr := hx
        simp only [Rep] at hx
        obtain ⟨hU1, hvl, ao, cap, rfl, hlc, hmax, hx⟩ := hx
        -- the cells
        have hcells : ∃ news : List Value, SrcV w nsz (.slice ao len cap) len news ∧ OwnL w L (rng cs off (len * nsz)) id path off news ∧ (rng cs off (len * nsz)).length = news.length ∧ off + len * nsz ≤ cs.length := by
          obtain ⟨u1, hu1⟩ := h.node hn
          simp only [Own] at hu1
          have hlen : cs.length = nlen * nsz := by
            rcases hu1 with ⟨_, rfl, rfl⟩ | ⟨_, _, _, _, _, _, _, _, _, _, h7, _⟩
            · simp
            · exact h7
          have hrl : (rng cs off (len * nsz)).length = len * nsz := by unfold rng; simp; omega
          rcases hx (by simp [hn]) with ⟨rfl, rfl, rfl⟩ | ⟨b, cur, ee, rfl, hb, hh, hcap⟩
          · exact ⟨[], ⟨none, 0, rfl, by simp, by simp, .inl rfl⟩, by simp [rng, OwnL], by simp [rng], by omega⟩
          · by_cases hc0 : cs = []
            · subst hc0
              simp only [List.length_nil] at hlen
              have hl0 : len * nsz = 0 := by omega
              refine ⟨[], ⟨_, cap, rfl, by simp [hl0], by simp, ?_⟩, by simp [rng, OwnL], by simp [rng], by simp; omega⟩
              exact .inr ⟨_, rfl, by simp⟩
            · obtain ⟨cur', ee', cap', k1, k2, k3, k4, k5, k6⟩ := h.block hn hb hc0
              rw [hh] at k1
              cases k1
              have hle : nlen * nsz ≤ cap' * nsz := Nat.mul_le_mul_right _ k3
              have hcl : cur.toList.length = cur.size := by simp
              refine ⟨(cur.toList.drop off).take (len * nsz), ⟨_, cap, rfl, by simp; omega, ?_, .inr ⟨_, rfl, ?_⟩⟩, ?_, by rw [hrl]; simp; omega, by omega⟩
              · intro v hv
                obtain ⟨j, hj⟩ := List.getElem?_of_mem hv
                rw [List.getElem?_take] at hj
                split at hj
                · rename_i hjl
                  rw [List.getElem?_drop] at hj
                  have hlt : off + j < cs.length := by omega
                  obtain ⟨u', e1, e2, _⟩ := OwnL.get cs 0 _ k6 (off + j) _ (List.getElem?_eq_getElem hlt)
                  rw [e1] at hj
                  cases hj
                  exact e2
                · cases hj
              · intro j v hj
                rw [List.getElem?_take] at hj
                split at hj
                · rw [List.getElem?_drop] at hj
                  rw [add_lit, cell_row hh]
                  exact hj
                · cases hj
              · refine OwnL.intro _ _ _ fun j c hc => ?_
                rw [rng_get] at hc
                split at hc
                · rename_i hjl
                  obtain ⟨u', e1, e2, e3⟩ := OwnL.get cs 0 _ k6 (off + j) c hc
                  refine ⟨u', ?_, e2, by simpa using e3⟩
                  rw [List.getElem?_take, if_pos hjl, List.getElem?_drop]
                  exact e1
                · cases hc
        obtain ⟨news, hsv, hown, hnl, hbd⟩ := hcells
        split at hs
        · cases hs
          refine ⟨L, news, hsv, h, ?_, by simpa using hnl, Keeps.rfl', fun b p hb => (hLm b _ p hb).elim, fun b k p _ => hLm b k p, by simp⟩
          refine OwnL.intro _ _ _ fun j c hc => ?_
          rw [List.getElem?_map] at hc
          simp only [Option.map_eq_some_iff] at hc
          obtain ⟨c', hc', rfl⟩ := hc
          obtain ⟨u', e1, e2, e3⟩ := OwnL.get _ _ _ hown j c' hc'
          exact ⟨u', e1, e2, own_scal e3⟩
        · split at hs
          · rename_i hpath
            subst hpath
            cases hs
            have hcs : r.cs = cs := by
              unfold node at hn
              rw [hr] at hn
              simp [verOk, TM.getP] at hn
              exact hn.2.2
            subst hcs
            have hidm : ∀ k, id ≠ (m, k) := by rintro k rfl; exact hm hU1
            have hprot : ∀ b, L b = .prot → relabR L id off (slen * nsz) (m, 998) b = .prot ∧ w.heap[b]? = w.heap[b]? := by
              intro b hb
              refine ⟨?_, rfl⟩
              rcases relabR_cases L id off (slen * nsz) (m, 998) b with ⟨j, q, e1, _⟩ | ⟨_, e2⟩
              · rw [hb] at e1; cases e1
              · rw [e2]; exact hb
            refine ⟨relabR L id off (slen * nsz) (m, 998), news, hsv, ?_, ?_, hnl, ?_, ?_, ?_, by simpa using hU1⟩
            · rw [applyH_one]
              refine ⟨fun i r' hr' => ?_, fun b b' i p hb hb' => ?_, fun b hb => ?_, fun b i p hb => ?_, fun i r' hr' => ?_, fun b hb => ?_, h.size, h.os, h.tape, h.output, h.use, h.frz⟩
              · by_cases hi : i = id
                · subst hi
                  rw [upd_same] at hr'
                  cases hr'
                  obtain ⟨u0, hu0⟩ := h.roots i r hr
                  refine ⟨u0, ?_⟩
                  simp only [Own] at hu0 ⊢
                  rcases hu0 with ⟨h1, h2, h3⟩ | ⟨b, cur, e, cap', h1, h2, h3, h4, h5, h6, h7, h8⟩
                  · refine .inl ⟨h1, h2, ?_⟩
                    rw [h3]
                    simp [goneR, rng]
                  · refine .inr ⟨b, cur, e, cap', h1, ?_, h3, h4, h5, h6, ?_, ?_⟩
                    · rcases relabR_cases L i off (slen * nsz) (m, 998) b with ⟨j, q, e1, _⟩ | ⟨_, e2⟩
                      · rw [h2] at e1; cases e1
                      · rw [e2]; exact h2
                    · rw [← h7]
                      unfold goneR rng
                      simp
                      omega
                    · refine OwnL.intro _ _ _ fun j c hc => ?_
                      rw [gone_get _ _ _ _ hbd] at hc
                      split at hc
                      · rename_i hj
                        simp only [Option.map_eq_some_iff] at hc
                        obtain ⟨c', hc', rfl⟩ := hc
                        obtain ⟨u', e1, e2, e3⟩ := OwnL.get _ 0 _ h8 j c' hc'
                        exact ⟨u', e1, e2, own_gone hprot e3⟩
                      · rename_i hj
                        obtain ⟨u', e1, e2, e3⟩ := OwnL.get _ 0 _ h8 j c hc
                        refine ⟨u', e1, e2, Own.move hprot c _ _ u' (fun b' q hq => ⟨?_, rfl⟩) e3⟩
                        rcases relabR_cases L i off (slen * nsz) (m, 998) b' with ⟨j', q', e4, e5, e6, _⟩ | ⟨_, e4⟩
                        · rw [hq] at e4
                          simp only [List.nil_append, Nat.zero_add, List.singleton_append, Lbl.at.injEq, List.cons.injEq, true_and] at e4
                          omega
                        · rw [e4]; exact hq
                · rw [upd_ne _ _ _ _ hi] at hr'
                  obtain ⟨u0, hu0⟩ := h.roots i r' hr'
                  refine ⟨u0, Own.move hprot _ [] [] u0 (fun b q hq => ⟨?_, rfl⟩) hu0⟩
                  rcases relabR_cases L id off (slen * nsz) (m, 998) b with ⟨j', q', e4, _⟩ | ⟨_, e4⟩
                  · rw [hq] at e4; simp only [Lbl.at.injEq] at e4; exact (hi e4.1).elim
                  · rw [e4]; exact hq
              · rcases relabR_cases L id off (slen * nsz) (m, 998) b with ⟨j, q, e1, e2, e3, e4⟩ | ⟨e1, e2⟩ <;> rcases relabR_cases L id off (slen * nsz) (m, 998) b' with ⟨j', q', f1, f2, f3, f4⟩ | ⟨f1, f2⟩
                · rw [e4] at hb
                  rw [f4, ← hb] at hb'
                  simp only [Lbl.at.injEq, List.cons.injEq, true_and] at hb'
                  obtain ⟨g1, rfl⟩ := hb'
                  obtain rfl : j' = j := by omega
                  exact h.inj b b' _ _ e1 f1
                · rw [e4] at hb
                  rw [f2, ← hb] at hb'
                  exact (hLm b' _ _ hb').elim
                · rw [f4] at hb'
                  rw [e2, ← hb'] at hb
                  exact (hLm b _ _ hb).elim
                · rw [e2] at hb
                  rw [f2] at hb'
                  exact h.inj b b' i p hb hb'
              · rcases relabR_cases L id off (slen * nsz) (m, 998) b with ⟨j, q, e1, _⟩ | ⟨_, e2⟩
                · rw [h.free b hb] at e1; cases e1
                · rw [e2]; exact h.free b hb
              · rcases relabR_cases L id off (slen * nsz) (m, 998) b with ⟨j, q, e1, e2, e3, e4⟩ | ⟨_, e2⟩
                · rw [e4] at hb; cases hb; exact .inr rfl
                · rw [e2] at hb; exact h.used b i p hb
              · by_cases hi : i = id
                · subst hi; exact .inl hU1
                · rw [upd_ne _ _ _ _ hi] at hr'; exact h.usedR i r' hr'
              · obtain ⟨e1, e2⟩ := h.prot b hb
                exact ⟨(hprot b e1).1, e2⟩
            · refine OwnL.intro _ _ _ fun j c hc => ?_
              obtain ⟨u', e1, e2, e3⟩ := OwnL.get _ _ _ hown j c hc
              refine ⟨u', e1, e2, Own.move hprot c _ _ u' (fun b' q hq => ⟨?_, rfl⟩) e3⟩
              have hjl : j < slen * nsz := by
                have := (List.getElem?_eq_some_iff.1 hc).1
                unfold rng at this
                simp at this
                omega
              simp only [List.nil_append, List.singleton_append] at hq ⊢
              rcases relabR_cases L id off (slen * nsz) (m, 998) b' with ⟨j', q', e4, e5, e6, e7⟩ | ⟨e4, _⟩
              · rw [hq] at e4
                simp only [Lbl.at.injEq, List.cons.injEq, true_and] at e4
                obtain ⟨rfl, rfl⟩ := e4
                rw [e7]
                congr 2
                omega
              · exact (e4 (off + j) q (by omega) (by omega) hq).elim
            · rw [applyH_one]
              refine ⟨fun _ hk => hk, hprot, fun i r' hr' hu => ?_, fun i p v hu hv hnn => ?_⟩
              · by_cases hi : i = id
                · subst hi
                  rw [upd_same] at hr'
                  cases hr'
                  exact ⟨r, hr, fun _ => Nat.le_refl _⟩
                · rw [upd_ne _ _ _ _ hi] at hr'
                  exact ⟨r', hr', fun _ => Nat.le_refl _⟩
              · have key : node hp i p v ≠ none ∧ (i = id → ∀ j q, p = j :: q → ¬ (off ≤ j ∧ j < off + slen * nsz)) := by
                  unfold node at hnn ⊢
                  by_cases hi : i = id
                  · subst hi
                    rw [upd_same] at hnn
                    rw [hr]
                    simp only at hnn ⊢
                    have hv2 : verOk ⟨r.sz, r.len, goneR r.cs off (slen * nsz), r.ver⟩ p v = verOk r p v := by unfold verOk; split <;> rfl
                    rw [hv2] at hnn
                    split at hnn
                    · rename_i hvk
                      rw [if_pos hvk]
                      obtain ⟨g1, g2⟩ := getP_gone hbd p hnn
                      exact ⟨g1, fun _ => g2⟩
                    · exact (hnn rfl).elim
                  · rw [upd_ne _ _ _ _ hi] at hnn
                    exact ⟨hnn, fun e => (hi e).elim⟩
                refine ⟨key.1, fun b hb => ⟨?_, fun cur e hce => ⟨cur, hce, rfl⟩⟩⟩
                rcases relabR_cases L id off (slen * nsz) (m, 998) b with ⟨j', q', e4, e5, e6, _⟩ | ⟨_, e4⟩
                · rw [hb] at e4
                  simp only [Lbl.at.injEq] at e4
                  exact (key.2 e4.1 j' q' e4.2 ⟨e5, e6⟩).elim
                · rw [e4]; exact hb
            · intro b p hb
              rcases relabR_cases L id off (slen * nsz) (m, 998) b with ⟨j', q', e4, e5, e6, e7⟩ | ⟨_, e4⟩
              · rw [e7] at hb
                cases hb
                refine ⟨_, _, rfl, ?_⟩
                have : news.length = slen * nsz := by obtain ⟨_, _, _, h2, _⟩ := hsv; exact h2
                omega
              · rw [e4] at hb; exact (hLm b _ p hb).elim
            · intro b k p hk hb
              rcases relabR_cases L id off (slen * nsz) (m, 998) b with ⟨j', q', e4, e5, e6, e7⟩ | ⟨_, e4⟩
              · rw [e7] at hb; cases hb; exact hk rfl
              · rw [e4] at hb; exact hLm b k p hb
          · cases hs
      · cases hs
    · cases hs
  · cases hs

/-! ### The destination, and the new array -/

/-- The labels when the destination's array, and what is held ready, become the new root. -/
def relabA (L : Lab) (m : Nat) (keep : Bool) (k : Nat) : Lab := fun b => match L b with
  | .at i p => if i = (m, 998) then (match p with
      | j :: q => .at (m, 0) ((k + j) :: q)
      | [] => .free)
    else if i = (m, 0) then (match p with
      | [] => if keep then .at i p else .free
      | j :: q => if j < k then .at i p else .free)
    else .at i p
  | x => x

theorem relabA_far [Use] {keep : Bool} {k b : Nat} (h : ∀ c p, L b ≠ .at (m, c) p) : relabA L m keep k b = L b := by
  unfold relabA
  cases hL : L b with
  | free => rfl
  | prot => rfl
  | «at» i p =>
    simp only
    rw [if_neg (by rintro rfl; exact h _ _ hL), if_neg (by rintro rfl; exact h _ _ hL)]

theorem relabA_new [Use] {keep : Bool} {k b j : Nat} {q : List Nat} (h : L b = .at (m, 998) (j :: q)) : relabA L m keep k b = .at (m, 0) ((k + j) :: q) := by
  simp [relabA, h]

theorem relabA_old [Use] {keep : Bool} {k b j : Nat} {q : List Nat} (h : L b = .at (m, 0) (j :: q)) (hj : j < k) : relabA L m keep k b = .at (m, 0) (j :: q) := by
  simp [relabA, h, hj]

theorem relabA_block [Use] {k b : Nat} (h : L b = .at (m, 0) []) : relabA L m true k b = .at (m, 0) [] := by
  simp [relabA, h]

/-- Where a label comes from. -/
theorem relabA_back [Use] {keep : Bool} {k b : Nat} {i : Id} {p : List Nat} (h : relabA L m keep k b = .at i p) :
    (i.1 ≠ m ∧ L b = .at i p) ∨ (i.1 = m ∧ i ≠ (m, 998) ∧ i ≠ (m, 0) ∧ L b = .at i p) ∨ (i = (m, 0) ∧ ∃ j q, p = (k + j) :: q ∧ L b = .at (m, 998) (j :: q)) ∨ (i = (m, 0) ∧ ∃ j q, p = j :: q ∧ j < k ∧ L b = .at (m, 0) (j :: q)) ∨
      (keep = true ∧ i = (m, 0) ∧ p = [] ∧ L b = .at (m, 0) []) := by
  unfold relabA at h
  cases hL : L b with
  | free => rw [hL] at h; cases h
  | prot => rw [hL] at h; cases h
  | «at» i' p' =>
    rw [hL] at h
    simp only at h
    by_cases h1 : i' = (m, 998)
    · subst h1
      rw [if_pos rfl] at h
      cases p' with
      | nil => cases h
      | cons j q =>
        cases h
        exact .inr (.inr (.inl ⟨rfl, j, q, rfl, rfl⟩))
    · rw [if_neg h1] at h
      by_cases h2 : i' = (m, 0)
      · subst h2
        rw [if_pos rfl] at h
        cases p' with
        | nil =>
          simp only at h
          cases keep with
          | true => simp at h; obtain ⟨rfl, rfl⟩ := h; exact .inr (.inr (.inr (.inr ⟨rfl, rfl, rfl, rfl⟩)))
          | false => simp at h
        | cons j q =>
          simp only at h
          by_cases hj : j < k
          · rw [if_pos hj] at h
            cases h
            exact .inr (.inr (.inr (.inl ⟨rfl, j, q, rfl, hj, rfl⟩)))
          · rw [if_neg hj] at h; cases h
      · rw [if_neg h2] at h
        cases h
        by_cases h3 : i.1 = m
        · exact .inr (.inl ⟨h3, h1, h2, rfl⟩)
        · exact .inl ⟨h3, rfl⟩

theorem relabA_prot [Use] {keep : Bool} {k : Nat} : ∀ b, L b = .prot → relabA L m keep k b = .prot ∧ w.heap[b]? = w.heap[b]? := by
  intro b hb
  exact ⟨by simp [relabA, hb], rfl⟩

theorem relabA_ok [Use] (h : HRel w0 L0 (addU U m) hp w L) (hm : ¬ U m) (hno : ∀ k, hp (m, k) = none) (keep : Bool) (k : Nat) :
    HRel w0 L0 (addU U m) hp w (relabA L m keep k) ∧ Keeps U w L hp U w (relabA L m keep k) hp := by
  have hfar : ∀ b i p, i.1 ≠ m → L b = .at i p → relabA L m keep k b = .at i p := by
    intro b i p hi hb
    rw [relabA_far, hb]
    intro c p' hc
    rw [hb] at hc
    cases hc
    exact hi rfl
  refine ⟨⟨fun i r hr => ?_, fun b b' i p hb hb' => ?_, fun b hb => ?_, fun b i p hb => ?_, h.usedR, fun b hb => ?_, h.size, h.os, h.tape, h.output, h.use, h.frz⟩, ⟨fun _ hk => hk, relabA_prot, fun i r hr _ => ⟨r, hr, fun _ => Nat.le_refl _⟩, fun i p v hu _ hn => ⟨hn, fun b hb => ⟨hfar b i p (by rintro rfl; exact hm hu) hb, fun cur e hc => ⟨cur, hc, rfl⟩⟩⟩⟩⟩
  · obtain ⟨u, hu⟩ := h.roots i r hr
    have him : i.1 ≠ m := by rintro rfl; have := hno i.2; rw [show ((i.1, i.2) : Id) = i from rfl, hr] at this; cases this
    exact ⟨u, Own.move relabA_prot _ [] [] u (fun b q hq => ⟨hfar b i _ him hq, rfl⟩) hu⟩
  · rcases relabA_back hb with ⟨e1, e2⟩ | ⟨e1, e2, e3, e4⟩ | ⟨rfl, j, q, rfl, e2⟩ | ⟨rfl, j, q, rfl, e1, e2⟩ | ⟨e0, rfl, rfl, e2⟩ <;>
      rcases relabA_back hb' with ⟨f1, f2⟩ | ⟨f1, f2, f3, f4⟩ | ⟨f0, j', q', f1, f2⟩ | ⟨f0, j', q', f1, f2, f3⟩ | ⟨f0, f1, f2, f3⟩
    · exact h.inj _ _ _ _ e2 f2
    · exact (e1 f1).elim
    · subst f0; exact (e1 rfl).elim
    · subst f0; exact (e1 rfl).elim
    · subst f1; exact (e1 rfl).elim
    · exact (f1 e1).elim
    · exact h.inj _ _ _ _ e4 f4
    · exact (e3 f0).elim
    · exact (e3 f0).elim
    · exact (e3 f1).elim
    · exact (f1 rfl).elim
    · exact (f3 rfl).elim
    · simp at f1
      obtain ⟨f1, rfl⟩ := f1
      obtain rfl : j' = j := by omega
      exact h.inj _ _ _ _ e2 f2
    · simp at f1
      omega
    · cases f2
    · exact (f1 rfl).elim
    · exact (f3 rfl).elim
    · simp at f1
      omega
    · simp at f1
      obtain ⟨rfl, rfl⟩ := f1
      exact h.inj _ _ _ _ e2 f3
    · cases f2
    · exact (f1 rfl).elim
    · exact (f3 rfl).elim
    · cases f1
    · cases f1
    · exact h.inj _ _ _ _ e2 f3
  · unfold relabA
    rw [h.free b hb]
  · rcases relabA_back hb with ⟨e1, e2⟩ | ⟨e1, _⟩ | ⟨rfl, _⟩ | ⟨rfl, _⟩ | ⟨_, rfl, _⟩
    · exact h.used b i p e2
    · exact .inr e1
    · exact .inr rfl
    · exact .inr rfl
    · exact .inr rfl
  · obtain ⟨e1, e2⟩ := h.prot b hb
    exact ⟨(relabA_prot (w := w) b e1).1, e2⟩

/-- A block that no root and nobody from before holds is written. -/
theorem setRow_ok [Use] {U' : Nat → Prop} (h : HRel w0 L0 U' hp w L) {g : Nat} {id : Id} {p : List Nat} (hg : L g = .at id p) (hno : ∀ r, hp id ≠ some r) (cur' : Array Value) :
    HRel w0 L0 U' hp (w.setRow g cur') L ∧ (∀ b, b ≠ g → (w.setRow g cur').heap[b]? = w.heap[b]?) := by
  have hwo : ∀ b', b' ≠ g → (w.setRow g cur').heap[b']? = w.heap[b']? := fun b' hb' => setRow_other w g b' cur' hb'
  have hwsz : (w.setRow g cur').heap.size = w.heap.size := by simp [World.setRow]
  have hprot : ∀ b, L b = .prot → L b = .prot ∧ (w.setRow g cur').heap[b]? = w.heap[b]? := fun b hb => ⟨hb, hwo b (by rintro rfl; rw [hg] at hb; cases hb)⟩
  refine ⟨⟨fun i r hr => ?_, h.inj, fun b hb => h.free b (by rwa [hwsz] at hb), h.used, h.usedR, fun b hb => ?_, by rw [hwsz]; exact h.size, h.os, h.tape, h.output, h.use, fun b c e f hb hc => by
    obtain ⟨c', hc'⟩ := setRow_frz hc
    exact h.frz b c' e f hb hc'⟩, hwo⟩
  · obtain ⟨u, hu⟩ := h.roots i r hr
    refine ⟨u, Own.move hprot _ [] [] u (fun b q hq => ⟨hq, hwo b ?_⟩) hu⟩
    rintro rfl
    rw [hg] at hq
    cases hq
    exact hno r hr
  · obtain ⟨e1, e2⟩ := h.prot b hb
    exact ⟨e1, (hprot b e1).2.trans e2⟩

/-- A root is added whose array is held already. -/
theorem addRoot [Use] {U' : Nat → Prop} (h : HRel w0 L0 U' hp w L) {id : Id} {r : Root} {u : Value} (hown : Own w L (.s true r.sz r.len r.cs) id [] u) (hU : U' id.1) : HRel w0 L0 U' (upd hp id (some r)) w L :=
  ⟨fun i r' hr' => by
    by_cases hi : i = id
    · subst hi; rw [upd_same] at hr'; cases hr'; exact ⟨u, hown⟩
    · rw [upd_ne _ _ _ _ hi] at hr'; exact h.roots i r' hr',
   h.inj, h.free, h.used, fun i r' hr' => by
    by_cases hi : i = id
    · subst hi; exact hU
    · rw [upd_ne _ _ _ _ hi] at hr'; exact h.usedR i r' hr', h.prot, h.size, h.os, h.tape, h.output, h.use, h.frz⟩

theorem ownL_append [Use] {id : Id} {p : List Nat} {xs ys : List A} {us vs : List Value} (hl : us.length = xs.length) (h1 : OwnL w L xs id p 0 us) (h2 : OwnL w L ys id p xs.length vs) : OwnL w L (xs ++ ys) id p 0 (us ++ vs) := by
  refine OwnL.intro _ _ _ fun j c hc => ?_
  by_cases hj : j < xs.length
  · rw [List.getElem?_append_left hj] at hc
    obtain ⟨u, e1, e2, e3⟩ := OwnL.get _ _ _ h1 j c hc
    exact ⟨u, by rw [List.getElem?_append_left (by omega)]; exact e1, e2, e3⟩
  · rw [List.getElem?_append_right (by omega)] at hc
    obtain ⟨u, e1, e2, e3⟩ := OwnL.get _ _ _ h2 (j - xs.length) c hc
    exact ⟨u, by rw [List.getElem?_append_right (by omega), hl]; exact e1, e2, by rwa [show 0 + j = xs.length + (j - xs.length) from by omega]⟩

theorem ownL_more [Use] {id : Id} {p : List Nat} {xs : List A} {us vs : List Value} (h1 : OwnL w L xs id p 0 us) : OwnL w L xs id p 0 (us ++ vs) := by
  refine OwnL.intro _ _ _ fun j c hc => ?_
  obtain ⟨u, e1, e2, e3⟩ := OwnL.get _ _ _ h1 j c hc
  exact ⟨u, by rw [List.getElem?_append_left (List.getElem?_eq_some_iff.1 e1).1]; exact e1, e2, e3⟩

end
end Go.TM
