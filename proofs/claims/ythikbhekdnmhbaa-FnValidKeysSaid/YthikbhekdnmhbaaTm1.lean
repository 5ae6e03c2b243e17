/- The tree machine: an abstract machine over closed data, into which a Go function's code is read. Definitions only: nothing is claimed here. -/
import Derived.WalkKit
namespace Go.TM

abbrev Id := Nat × Nat

/-- Abstract values. 's o sz len cs': a slice of 'len' elements of 'sz' cells each, by its content; 'o': owned (in a slot: the nil slice, 's true sz 0 []'). 'ref', 'ptr': into the owned roots of the heap. 'ep': a pointer into data that nobody writes. -/
inductive A where
  | i (k : IntKind) (n : Int)
  | b (v : Bool)
  | s (o : Bool) (sz len : Nat) (cs : List A)
  | ref (id : Id) (path : List Nat) (ver off sz len : Nat)
  | ptr (id : Id) (path : List Nat) (ver off : Nat)
  | ep (cs : List A)
  | agg (xs : List A)
  | tup (xs : List A)
  | und
  deriving Inhabited

structure Root where
  sz : Nat
  len : Nat
  cs : List A
  ver : Nat → Nat

abbrev Hp := Id → Option Root

structure St where
  sl : Nat → A
  hp : Hp
  n : Nat

def upd {α β : Type} [DecidableEq α] (f : α → β) (a : α) (v : β) : α → β := fun x => if x = a then v else f x
theorem upd_same {α β : Type} [DecidableEq α] (f : α → β) (a : α) (v : β) : upd f a v a = v := by simp [upd]
theorem upd_ne {α β : Type} [DecidableEq α] (f : α → β) (a x : α) (v : β) (h : x ≠ a) : upd f a v x = f x := by simp [upd, h]

def applyH (hp : Hp) (ups : List (Id × Option Root)) : Hp := ups.foldl (fun h u => upd h u.1 u.2) hp

/-- The node at a path: its element size, its length, its cells. -/
def getP : Nat → Nat → List A → List Nat → Option (Nat × Nat × List A)
  | sz, len, cs, [] => some (sz, len, cs)
  | _, _, cs, c :: p => match cs[c]? with
    | some (.s true sz len cs') => getP sz len cs' p
    | _ => none

def verOk (r : Root) (path : List Nat) (ver : Nat) : Bool := match path with
  | [] => true
  | c :: _ => r.ver c == ver

def node (hp : Hp) (id : Id) (path : List Nat) (ver : Nat) : Option (Nat × Nat × List A) :=
  match hp id with
  | some r => if verOk r path ver then getP r.sz r.len r.cs path else none
  | none => none

/-- The cell at a full path is set. -/
def setC (cs : List A) : List Nat → A → List A
  | [], _ => cs
  | [k], v => cs.set k v
  | k :: p, v => match cs[k]? with
    | some (.s true sz len cs') => cs.set k (.s true sz len (setC cs' p v))
    | _ => cs

def isScalar : A → Bool
  | .i .. | .b _ => true
  | _ => false

structure Field where
  off : Nat
  ty : Nat

inductive K where
  | int (k : IntKind)
  | bool
  | slice (e : Nat)
  | struct (fs : List (Nat × Nat))
  | array (n e : Nat)
  | pointer (e : Nat)
  | other

structure TI where
  kind : K
  agg : Bool
  sz : Nat
  bytes : Nat
  zero : List A

inductive Kind where
  | ro | mv | io
  | ln (n : Nat)
  deriving DecidableEq

/-- A model of a function: how each parameter is taken ('ro': read only; 'mv': used up; 'io': a pointer to a root, given back turned; 'ln n': a value whose n arrays are lent, and given back turned); and, of the parameters' contents, the result and the new contents of what was lent. -/
structure Model where
  kinds : List Kind
  clean : Bool
  fn : List A → Option (A × List (List A))

structure Eff where
  val : A
  ups : List (Id × Option Root)
  rd : List Id

def Eff.pure (v : A) : Eff := ⟨v, [], []⟩

def ofConst (T : Nat → Option TI) (ty : Nat) : Value → A
  | .int .i64 n => if -2147483648 ≤ n ∧ n ≤ 2147483647 then .i .i64 n else .und
  | .bool v => .b v
  | .slice none 0 0 => match T ty with
    | some ti => match ti.kind with
      | .slice e => match T e with
        | some te => .s true te.sz 0 []
        | none => .und
      | _ => .und
    | none => .und
  | _ => .und

def ev (T : Nat → Option TI) (sl : Nat → A) (ty : Nat) : Operand → A
  | .tmp t => sl t
  | .const v => ofConst T ty v
  | _ => .und

def evL (T : Nat → Option TI) (sl : Nat → A) : List Operand → List Nat → List A
  | x :: xs, t :: ts => ev T sl t x :: evL T sl xs ts
  | x :: xs, [] => ev T sl 0 x :: evL T sl xs []
  | [], _ => []

/-- What a load of a cell of a root gives. -/
def view (r : Root) (id : Id) (path : List Nat) (ver : Nat) (k : Nat) : A → A
  | .i kd n => .i kd n
  | .b v => .b v
  | .s false sz len cs => .s false sz len cs
  | .s true sz len _ => .ref id (path ++ [k]) (match path with | [] => r.ver k | _ => ver) 0 sz len
  | _ => .und

def viewL (r : Root) (id : Id) (path : List Nat) (ver : Nat) : Nat → List A → List A
  | _, [] => []
  | k, c :: cs => view r id path ver k c :: viewL r id path ver (k + 1) cs

/-- What a cell of data that nobody writes gives. -/
def imm1 : A → A
  | .i kd n => .i kd n
  | .b v => .b v
  | .s _ sz len cs => .s false sz len cs
  | _ => .und

/-- A value on its way into a cell of the heap: a whole owned array is moved. -/
def close1 (hp : Hp) : A → Option (A × List (Id × Option Root) × List Id)
  | .i k n => some (.i k n, [], [])
  | .b v => some (.b v, [], [])
  | .s false sz len cs => some (.s false sz len cs, [], [])
  | .s true sz 0 [] => some (.s true sz 0 [], [], [])
  | .ref id path ver off sz len =>
    match hp id with
    | none => none
    | some r =>
      if off = 0 ∧ verOk r path ver = true then
        match getP r.sz r.len r.cs path with
        | some (sz', len', cs') =>
          if sz' = sz ∧ len' = len then
            some (.s true sz len cs', [(id, match path with | [] => none | _ => some { r with cs := setC r.cs path .und })], [id])
          else none
        | none => none
      else none
  | _ => none

def closeL (hp : Hp) : List A → Option (List A × List (Id × Option Root) × List Id)
  | [] => some ([], [], [])
  | v :: vs => match close1 hp v with
    | none => none
    | some (c, u, rd) => match closeL (applyH hp u) vs with
      | none => none
      | some (cs, us, rds) => some (c :: cs, u ++ us, rd ++ rds)

/-- The cells of a value. -/
def cellsA : A → List A
  | .agg xs => xs
  | v => [v]

/-- Some cells in a row are written. -/
def setR : Nat → List A → List A → List A
  | _, [], cs => cs
  | off, v :: vs, cs => setR (off + 1) vs (cs.set off v)

/-- The cells of the node at a path are turned. -/
def modP (f : List A → List A) : List Nat → List A → List A
  | [], cs => f cs
  | c :: p, cs => match cs[c]? with
    | some (.s true sz len cs') => cs.set c (.s true sz len (modP f p cs'))
    | _ => cs

def bumpR (ver : Nat → Nat) : List Nat → Nat → Nat → Nat → Nat
  | c :: _, _, _ => fun k => if k = c then ver k + 1 else ver k
  | [], off, n => fun k => if off ≤ k ∧ k < off + n then ver k + 1 else ver k

def rng (cs : List A) (off n : Nat) : List A := (cs.drop off).take n

def scal : A → A
  | .i k n => .i k n
  | .b v => .b v
  | _ => .und

/-- What is inside an owned array when it has been moved away, cell by cell. -/
def gone1 : A → A
  | .s true _ _ _ => .und
  | v => v

def goneR (cs : List A) (off n : Nat) : List A := cs.take off ++ (rng cs off n).map gone1 ++ cs.drop (off + n)

/-- The source of an append. -/
def srcOf (hp : Hp) (flat : Bool) (sz : Nat) : A → Option (List A × Nat × List (Id × Option Root) × List Id)
  | .s _ sz' len cs => if sz' = sz then some (cs.map imm1, len, [], []) else none
  | .ref id path ver off sz' len =>
    match node hp id path ver, hp id with
    | some (nsz, nlen, cs), some r =>
      if sz' = sz ∧ nsz = sz ∧ off + len * sz ≤ nlen * nsz then
        if flat then some ((rng cs off (len * sz)).map scal, len, [], [id])
        else if path = [] then some (rng cs off (len * sz), len, [(id, some { r with cs := goneR r.cs off (len * sz) })], [id])
        else none
      else none
    | _, _ => none
  | _ => none

/-- The first argument of an append: it is used up. -/
def dstOf (hp : Hp) (sz : Nat) : A → Option (List A × Nat × List (Id × Option Root) × List Id)
  | .s true sz' 0 [] => if sz' = sz then some ([], 0, [], []) else none
  | .ref id path ver off sz' len =>
    match node hp id path ver, hp id with
    | some (nsz, nlen, cs), some r =>
      if off = 0 ∧ sz' = sz ∧ nsz = sz ∧ len ≤ nlen then
        some (cs.take (len * sz), len, [(id, match path with | [] => none | _ => some { r with cs := setC r.cs path .und })], [id])
      else none
    | _, _ => none
  | _ => none

mutual
/-- Data that is only read, whoever held it. -/
def norm : A → A
  | .s _ sz len cs => .s false sz len (normL cs)
  | v => v
def normL : List A → List A
  | [] => []
  | c :: cs => norm c :: normL cs
end

/-- A value as closed data, to be read only. -/
def snap1 (hp : Hp) : A → Option (A × List Id)
  | .i k n => some (.i k n, [])
  | .b v => some (.b v, [])
  | .s _ sz len cs => some (.s false sz len (normL cs), [])
  | .ref id path ver off sz len =>
    match node hp id path ver with
    | some (nsz, nlen, cs) => if sz = nsz ∧ off + len * sz ≤ nlen * nsz then some (.s false sz len (normL (rng cs off (len * sz))), [id]) else none
    | none => none
  | _ => none

def snapL (hp : Hp) : List A → Option (List A × List Id)
  | [] => some ([], [])
  | v :: vs => match snap1 hp v, snapL hp vs with
    | some (c, rd), some (cs, rds) => some (c :: cs, rd ++ rds)
    | _, _ => none

def snap (hp : Hp) : A → Option (A × List Id)
  | .agg xs => (snapL hp xs).map fun (cs, rd) => (.agg cs, rd)
  | v => snap1 hp v

/-- The arguments that a call uses up. -/
def mvsOf {α : Type} : List Kind → List α → List α
  | .mv :: ks, v :: vs => v :: mvsOf ks vs
  | _ :: ks, _ :: vs => mvsOf ks vs
  | _, _ => []

/-- A value that is lent: its cells, closed; where its arrays lie. -/
def lnCell (hp : Hp) : A → Option (A × List (Id × List Nat))
  | .i k n => some (.i k n, [])
  | .b v => some (.b v, [])
  | .ref id path ver off sz len => match node hp id path ver with
    | some (nsz, nlen, cs) => if off = 0 ∧ sz = nsz ∧ len = nlen then some (.s true sz len cs, [(id, path)]) else none
    | none => none
  | _ => none

def lnCells (hp : Hp) : List A → Option (List A × List (Id × List Nat))
  | [] => some ([], [])
  | v :: vs => match lnCell hp v, lnCells hp vs with
    | some (c, e), some (cs, es) => some (c :: cs, e ++ es)
    | _, _ => none

def lnVal (hp : Hp) : A → Option (A × List (Id × List Nat))
  | .agg xs => (lnCells hp xs).map fun x => (.agg x.1, x.2)
  | v => lnCell hp v

/-- The arguments' contents, by their kinds (the third list: what 'closeL' gave for those that are used up); what is read of the heap; the arrays that are lent. -/
def contsOf (hp : Hp) : List Kind → List A → List A → Option (List A × List Id × List (Id × List Nat))
  | [], [], [] => some ([], [], [])
  | .ro :: ks, v :: vs, cs => match snap hp v, contsOf hp ks vs cs with
    | some (c, rd), some (xs, rds, ios) => some (c :: xs, rd ++ rds, ios)
    | _, _ => none
  | .mv :: ks, _ :: vs, c :: cs => (contsOf hp ks vs cs).map fun x => (c :: x.1, x.2.1, x.2.2)
  | .io :: ks, v :: vs, cs => match v with
    | .ptr id [] _ 0 => match hp id with
      | some r => if r.len = 1 then (contsOf hp ks vs cs).map fun x => (.agg r.cs :: x.1, x.2.1, (id, []) :: x.2.2) else none
      | none => none
    | _ => none
  | .ln n :: ks, v :: vs, cs => match lnVal hp v with
    | some (c, es) => if es.length = n then (contsOf hp ks vs cs).map fun x => (c :: x.1, x.2.1, es ++ x.2.2) else none
    | none => none
  | _, _, _ => none

def disjB (xs ys : List Id) : Bool := xs.all fun x => ys.all fun y => !(x == y)
def nodupB : List Id → Bool
  | [] => true
  | x :: xs => (xs.all fun y => !(x == y)) && nodupB xs

def newRoot (sz len : Nat) (cs : List A) : Root := ⟨sz, len, cs, fun _ => 0⟩

def rootRef (id : Id) : A → A
  | .s true sz len _ => .ref id [] 0 0 sz len
  | v => v

def rootOf : A → Option Root
  | .s true sz len cs => some (newRoot sz len cs)
  | _ => none

/-- Closed data that a call has handed back: its outermost arrays become roots. -/
def plantL (m : Nat) : Nat → List A → List A × List (Id × Option Root)
  | _, [] => ([], [])
  | k, v :: vs => (rootRef (m, k) v :: (plantL m (k + 1) vs).1, (match rootOf v with | some r => [((m, k), some r)] | none => []) ++ (plantL m (k + 1) vs).2)

def plant1 (m k : Nat) : A → A × List (Id × Option Root)
  | .agg xs => (.agg (plantL m k xs).1, (plantL m k xs).2)
  | .ep cs => (.ptr (m, k) [] 0 0, [((m, k), some (newRoot cs.length 1 cs))])
  | v => (((plantL m k [v]).1)[0]?.getD .und, (plantL m k [v]).2)

def plantT (m : Nat) : Nat → List A → List A × List (Id × Option Root)
  | _, [] => ([], [])
  | k, v :: vs => ((plant1 m k v).1 :: (plantT m (k + (cellsA v).length) vs).1, (plant1 m k v).2 ++ (plantT m (k + (cellsA v).length) vs).2)

def plant (m : Nat) : A → A × List (Id × Option Root)
  | .tup xs => (.tup (plantT m 0 xs).1, (plantT m 0 xs).2)
  | v => plant1 m 0 v

def bumpL (ver : Nat → Nat) : List Nat → Nat → Nat
  | [] => fun k => ver k + 1
  | c :: _ => fun k => if k = c then ver k + 1 else ver k

def lentRoot (r : Root) (path : List Nat) (cs : List A) : Root := ⟨r.sz, r.len, modP (fun _ => cs) path r.cs, bumpL r.ver path⟩

def outsOf (hp : Hp) : List (Id × List Nat) → List (List A) → Option (List (Id × Option Root))
  | [], [] => some []
  | e :: es, cs :: outs => match hp e.1, outsOf hp es outs with
    | some r, some us => match getP r.sz r.len r.cs e.2 with
      | some x => if cs.length = x.2.2.length then some ((e.1, some (lentRoot r e.2 cs)) :: us) else none
      | none => none
    | _, _ => none
  | _, _ => none

/-- A function that only hands parts of its arguments on. -/
inductive Out where
  | arg (j k : Nat)
  | nil (sz : Nat)
  | empty (sz : Nat)

def outCell (m idx : Nat) (args : List A) : Out → Option (A × List (Id × Option Root))
  | .arg j k => match args[j]? with
    | some v => ((cellsA v)[k]?).map fun c => (c, [])
    | none => none
  | .nil sz => some (.s true sz 0 [], [])
  | .empty sz => some (.ref (m, idx) [] 0 0 sz 0, [((m, idx), some (newRoot sz 0 []))])

def outCells (m : Nat) (args : List A) : Nat → List Out → Option (List A × List (Id × Option Root))
  | _, [] => some ([], [])
  | idx, o :: os => match outCell m idx args o, outCells m args (idx + 1) os with
    | some (c, u), some (cs, us) => some (c :: cs, u ++ us)
    | _, _ => none

inductive FM where
  | model (M : Model)
  | alias (outs : List Out)

def callA (G : Nat → Option FM) (m : Nat) (f : Nat) (args : List A) (hp : Hp) : Option Eff :=
  match G f with
  | none => none
  | some (.alias outs) => (outCells m args 0 outs).map fun (cs, us) => ⟨.agg cs, us, []⟩
  | some (.model M) => match closeL hp (mvsOf M.kinds args) with
    | none => none
    | some (cs, us, rd1) => match contsOf (applyH hp us) M.kinds args cs with
      | none => none
      | some (xs, rds, ios) => if nodupB (ios.map (·.1)) = true ∧ disjB (ios.map (·.1)) rds = true ∧ (rds = [] ∨ M.clean = true) then
          match M.fn xs with
          | none => none
          | some (r, outs) => match outsOf (applyH hp us) ios outs with
            | none => none
            | some us' => some ⟨(plant m r).1, us ++ us' ++ (plant m r).2, rd1 ++ rds ++ ios.map (·.1)⟩
        else none

def binI (op : BinOp) (k : IntKind) (x y : Int) : Option A :=
  match op with
  | .add => some (.i k (k.wrap (x + y)))
  | .sub => some (.i k (k.wrap (x - y)))
  | .mul => some (.i k (k.wrap (x * y)))
  | .quo => if y = 0 then none else some (.i k (k.wrap (x.tdiv y)))
  | .rem => if y = 0 then none else some (.i k (x.tmod y))
  | .xor => some (.i k (k.wrap (BitVec.ofInt k.bits x ^^^ BitVec.ofInt k.bits y).toNat))
  | .eql => some (.b (x == y))
  | .neq => some (.b (x != y))
  | .lss => some (.b (decide (x < y)))
  | .leq => some (.b (decide (x ≤ y)))
  | .gtr => some (.b (decide (x > y)))
  | .geq => some (.b (decide (x ≥ y)))
  | _ => none

def isBoolK : K → Bool
  | .bool => true
  | _ => false

def binA (kd : K) (op : BinOp) : A → A → Option A
  | .i k x, .i k' y => if k = k' then binI op k x y else none
  | .b x, .b y => if isBoolK kd then match op with
      | .eql => some (.b (x == y))
      | .neq => some (.b (x != y))
      | _ => none
    else none
  | _, _ => none

def unA : UnOp → A → Option A
  | .not, .b x => some (.b (!x))
  | .neg, .i k x => some (.i k (k.wrap (0 - x)))
  | _, _ => none

def okPart : A → Bool
  | .und => false
  | .tup _ => false
  | _ => true

def fillA (place : Nat → Option (Nat × Nat)) : List A → List (Nat × A) → Option (List A)
  | cs, [] => some cs
  | cs, (i, v) :: rest => match place i with
    | none => none
    | some (off, size) => if okPart v = true ∧ (cellsA v).length = size ∧ off + size ≤ cs.length then fillA place (cs.take off ++ cellsA v ++ cs.drop (off + size)) rest else none

/-- The value of type t in some cells. -/
def packA (ti : TI) (cs : List A) : Option A :=
  if cs.length = ti.sz then (if ti.agg then some (.agg cs) else cs[0]?) else none

def flatTI (ti : TI) : Bool := ti.zero.all isScalar

def loadA (ti : TI) (hp : Hp) : A → Option Eff
  | .ptr id path ver off => match node hp id path ver, hp id with
    | some (sz, len, cs), some r => if 0 < ti.sz ∧ off + ti.sz ≤ len * sz then (packA ti (viewL r id path ver off (rng cs off ti.sz))).map fun v => ⟨v, [], [id]⟩ else none
    | _, _ => none
  | .ep cs => if 0 < ti.sz ∧ ti.sz ≤ cs.length then (packA ti ((cs.take ti.sz).map imm1)).map Eff.pure else none
  | _ => none

def storeA (ti : TI) (hp : Hp) (addr v : A) : Option Eff :=
  match addr with
  | .ptr id path ver off =>
    match node hp id path ver, closeL hp (cellsA v) with
    | some (sz, len, _), some (cs, us, rd) =>
      if cs.length = ti.sz ∧ 0 < ti.sz ∧ off + ti.sz ≤ len * sz ∧ id ∉ us.map (·.1) then
        match hp id with
        | none => none
        | some r => some ⟨.und, us ++ [(id, some { r with cs := modP (setR off cs) path r.cs, ver := if cs.all isScalar then r.ver else bumpR r.ver path off cs.length })], id :: rd⟩
      else none
    | _, _ => none
  | _ => none

def intOfA : A → Option Int
  | .i _ n => some n
  | _ => none

def szOf (T : Nat → Option TI) (t : Nat) : Option Nat := (T t).map (·.sz)

/-- The value of an index expression's address. -/
def indexAddrA (T : Nat → Option TI) (k : K) (hp : Hp) (x ix : A) : Option Eff :=
  match k, x, ix with
  | .slice e, .ref id path ver off sz len, .i .i64 n =>
    match node hp id path ver with
    | some (nsz, nlen, _) => if szOf T e = some sz ∧ 0 ≤ n ∧ n < len then some ⟨.ptr id path ver (off + n.toNat * sz), [], [id]⟩ else none
    | none => none
  | .slice e, .s _ sz len cs, .i .i64 n => if 0 < sz ∧ szOf T e = some sz ∧ 0 ≤ n ∧ n < len then some (.pure (.ep (cs.drop (n.toNat * sz)))) else none
  | .array cnt e, .ptr id path ver off, .i .i64 n =>
    match T e, node hp id path ver with
    | some ti, some _ => if 0 ≤ n ∧ n < cnt then some ⟨.ptr id path ver (off + n.toNat * ti.sz), [], [id]⟩ else none
    | _, _ => none
  | _, _, _ => none

def boundA (d : Nat) : Option A → Option Nat
  | none => some d
  | some (.i .i64 n) => if 0 ≤ n then some n.toNat else none
  | _ => none

def sliceA (tsz : Option Nat) (x : A) (lo hi : Option A) : Option Eff :=
  match x with
  | .ref id path ver off sz len => match boundA 0 lo, boundA len hi with
    | some l, some h => if tsz = some sz ∧ l ≤ h ∧ h ≤ len then some (.pure (if h - l = 0 then .s false sz 0 [] else .ref id path ver (off + l * sz) sz (h - l))) else none
    | _, _ => none
  | .s _ sz len cs => match boundA 0 lo, boundA len hi with
    | some l, some h => if tsz = some sz ∧ l ≤ h ∧ h ≤ len then some (.pure (.s false sz (h - l) (rng cs (l * sz) ((h - l) * sz)))) else none
    | _, _ => none
  | _ => none

def lenA : A → Option A
  | .s _ _ len _ => some (.i .i64 len)
  | .ref _ _ _ _ _ len => some (.i .i64 len)
  | _ => none

def kindOf (T : Nat → Option TI) (t : Nat) : K := match T t with
  | some ti => ti.kind
  | none => .other

def eff (T : Nat → Option TI) (G : Nat → Option FM) (m ty : Nat) (o : Op) (sl : Nat → A) (hp : Hp) : Option Eff :=
  match o with
  | .move x | .assign x => some (.pure (ev T sl ty x))
  | .pick c a b => match ev T sl 0 c with
    | .b t => some (.pure (if t then ev T sl ty a else ev T sl ty b))
    | _ => none
  | .alloc e => match T e with
    | some ti => some ⟨.ptr (m, 0) [] 0 0, [((m, 0), some (newRoot ti.sz 1 ti.zero))], []⟩
    | none => none
  | .box e x => match T e, closeL hp (cellsA (ev T sl e x)) with
    | some ti, some (cs, us, rd) => if cs.length = ti.sz then some ⟨.ptr (m, 0) [] 0 0, us ++ [((m, 0), some (newRoot ti.sz 1 cs))], rd⟩ else none
    | _, _ => none
  | .build t parts => match T t with
    | some ti => match ti.kind with
      | .struct fs => (fillA (fun i => (fs[i]?).bind fun f => (T f.2).map fun fi => (f.1, fi.sz)) ti.zero (parts.toList.map fun p => (p.1, ev T sl ((fs[p.1]?).elim 0 (·.2)) p.2))).map fun cs => .pure (.agg cs)
      | _ => none
    | none => none
  | .buildSlice t len parts => match kindOf T t with
    | .slice e => match T e with
      | some ti => match fillA (fun i => some (i * ti.sz, ti.sz)) (List.replicate len ti.zero).flatten (parts.toList.map fun p => (p.1, ev T sl e p.2)) with
        | some vs => match closeL hp vs with
          | some (cs, us, rd) => if 0 < ti.sz ∧ len * ti.sz ≤ 2 ^ 24 then some ⟨.ref (m, 0) [] 0 0 ti.sz len, us ++ [((m, 0), some (newRoot ti.sz len cs))], rd⟩ else none
          | none => none
        | none => none
      | none => none
    | _ => none
  | .makeSlice t l c => match kindOf T t, ev T sl 0 l, ev T sl 0 c with
    | .slice e, .i .i64 n, .i .i64 n' => match T e with
      | some ti => if n = n' ∧ 0 ≤ n ∧ n.toNat * ti.bytes ≤ 140737488355328 ∧ n.toNat ≤ 140737488355328 then some ⟨.ref (m, 0) [] 0 0 ti.sz n.toNat, [((m, 0), some (newRoot ti.sz n.toNat (List.replicate n.toNat ti.zero).flatten))], []⟩ else none
      | none => none
    | _, _, _ => none
  | .load t a => match T t with
    | some ti => loadA ti hp (ev T sl 0 a)
    | none => none
  | .store t a x => match T t with
    | some ti => storeA ti hp (ev T sl 0 a) (ev T sl t x)
    | none => none
  | .fieldAddr s x f => match kindOf T s with
    | .struct fs => match fs[f]?, ev T sl 0 x with
      | some (off, _), .ptr id path ver o => match node hp id path ver with
        | some _ => some ⟨.ptr id path ver (o + off), [], [id]⟩
        | none => none
      | some (off, _), .ep cs => some (.pure (.ep (cs.drop off)))
      | _, _ => none
    | _ => none
  | .field s x f => match kindOf T s, ev T sl 0 x with
    | .struct fs, .agg xs => match fs[f]? with
      | some (off, ft) => match T ft with
        | some ti => (packA ti (rng xs off ti.sz)).map Eff.pure
        | none => none
      | none => none
    | _, _ => none
  | .indexAddr t x ix => indexAddrA T (kindOf T t) hp (ev T sl 0 x) (ev T sl 0 ix)
  | .slice t x lo hi mx => match kindOf T t, mx with
    | .slice e, none => sliceA (szOf T e) (ev T sl 0 x) (lo.map (ev T sl 0)) (hi.map (ev T sl 0))
    | _, _ => none
  | .extract t ix => match ev T sl 0 t with
    | .tup xs => (xs[ix]?).map Eff.pure
    | _ => none
  | .nilCheck x => match ev T sl 0 x with
    | .ptr id path ver o => match node hp id path ver with
      | some _ => some ⟨.ptr id path ver o, [], [id]⟩
      | none => none
    | .ep cs => some (.pure (.ep cs))
    | _ => none
  | .binOp op t x y _ => (binA (kindOf T t) op (ev T sl 0 x) (ev T sl 0 y)).map Eff.pure
  | .unOp op _ x => (unA op (ev T sl 0 x)).map Eff.pure
  | .convert src dst x => match kindOf T src, kindOf T dst, ev T sl 0 x with
    | .int _, .int k, .i _ n => some (.pure (.i k (k.wrap n)))
    | _, _, _ => none
  | .call c => match c.callee with
    | .builtin .len => match c.args.toList with
      | [x] => match (c.argTypes[0]?).map (kindOf T) with
        | some (.slice _) => (lenA (ev T sl 0 x)).map Eff.pure
        | _ => none
      | _ => none
    | .builtin .max => match c.args.toList with
      | [x, y] => match ev T sl 0 x, ev T sl 0 y with
        | .i .i64 a, .i .i64 b => some (.pure (.i .i64 (if b > a then b else a)))
        | _, _ => none
      | _ => none
    | .builtin .append => match c.args.toList, c.argTypes.toList with
      | [s, x], [t, t'] => if t = t' then match kindOf T t with
        | .slice e => match T e with
          | some ti => match srcOf hp (flatTI ti) ti.sz (ev T sl t x) with
            | some (scs, slen, us, rd) => match dstOf (applyH hp us) ti.sz (ev T sl t s) with
              | some (dcs, dlen, us', rd') =>
                if (dlen + slen) * ti.bytes ≤ 140737488355328 ∧ dlen + slen ≤ 140737488355328 ∧ 0 < ti.sz then
                  some ⟨.ref (m, 0) [] 0 0 ti.sz (dlen + slen), us ++ us' ++ [((m, 0), some (newRoot ti.sz (dlen + slen) (dcs ++ scs)))], rd ++ rd'⟩
                else none
              | none => none
            | none => none
          | none => none
        | _ => none
        else none
      | _, _ => none
    | .value (.func f) => callA G m f (evL T sl c.args.toList c.argTypes.toList) hp
    | _ => none
  | _ => none

def wantedA (ops : List Oper) (sl : Nat → A) (o : Oper) : Option Bool :=
  match o.guard with
  | none => some true
  | some (j, want) => match (ops[j]?).bind (·.dst) with
    | some d => match sl d with
      | .b v => some (v == want)
      | .tup [] => some false
      | _ => none
    | none => none

def setDst (sl : Nat → A) (d : Option Nat) (v : A) : Nat → A := match d with
  | some t => upd sl t v
  | none => sl

/-- One operation of a region; its number in the region is i; n: the region's first instance. -/
def opA (T : Nat → Option TI) (G : Nat → Option FM) (ops : List Oper) (n i : Nat) (o : Oper) (sl : Nat → A) (hp : Hp) : Option Eff :=
  match wantedA ops sl o with
  | some true => eff T G (n + i) o.type o.op sl hp
  | some false => some (.pure (.tup []))
  | none => none

/-- What each operation has changed and read, in the text's order. -/
abbrev Log := List (Nat × List Id × List Id)

def runOps (T : Nat → Option TI) (G : Nat → Option FM) (ops : List Oper) (n : Nat) : Nat → List Oper → (Nat → A) → Hp → Log → Option ((Nat → A) × Hp × Log)
  | _, [], sl, hp, log => some (sl, hp, log)
  | i, o :: rest, sl, hp, log => match opA T G ops n i o sl hp with
    | none => none
    | some e => runOps T G ops n (i + 1) rest (setDst sl o.dst e.val) (applyH hp e.ups) ((i, e.ups.map (·.1), e.rd) :: log)

/-- The pairs (i, j) of a region that may come in either order, i one that may change the heap: what i has changed is not what j has read or changed. -/
def logAt (log : Log) (i : Nat) : List Id × List Id := match log with
  | [] => ([], [])
  | (j, u, r) :: rest => if j = i then (u, r) else logAt rest i

def drawB (pairs : List (Nat × Nat)) (log : Log) : Bool := pairs.all fun p => disjB (logAt log p.1).1 ((logAt log p.2).1 ++ (logAt log p.2).2)

def thenA (next : St → Prop) (Q : Exit → St → Prop) : Exit → St → Prop
  | .normal, s => next s
  | e, s => Q e s

def inBlockA (id : Nat) (Q : Exit → St → Prop) : Exit → St → Prop
  | .exit id', s => if id' = id then Q .normal s else Q (.exit id') s
  | e, s => Q e s

/-- What the code leads to, on the abstract state. DT: of each region that draws its order, the pairs that have none. -/
def W (T : Nat → Option TI) (G : Nat → Option FM) (DT : Nat → List (Nat × Nat)) : Code → (Exit → St → Prop) → St → Prop
  | .skip, Q, st => Q .normal st
  | .region id ops draw, Q, st => match runOps T G ops.toList st.n 0 ops.toList st.sl st.hp [] with
    | some (sl, hp, log) => (draw = true → drawB (DT id) log = true) ∧ Q .normal ⟨sl, hp, st.n + ops.toList.length⟩
    | none => False
  | .seq x y, Q, st => W T G DT x (thenA (W T G DT y Q) Q) st
  | .cond c x y, Q, st => match ev T st.sl 0 c with
    | .b v => (v = true → W T G DT x Q st) ∧ (v = false → W T G DT y Q st)
    | _ => False
  | .block id c, Q, st => W T G DT c (inBlockA id Q) st
  | .loop c, Q, st => ∃ (I : St → Prop) (μ : St → Nat), I st ∧ ∀ s, I s → W T G DT c (thenA (fun s' => I s' ∧ μ s' < μ s) Q) s
  | .exit id, Q, st => Q (.exit id) st
  | .ret, Q, st => Q .ret st
  | _, _, _ => False

def resOf (T : Nat → Option TI) (st : St) : ResultVar → Option A
  | .tmp t => some (st.sl t)
  | .cell a t => match T t with
    | some ti => (loadA ti st.hp (st.sl a)).map (·.val)
    | none => none

def ressOf (T : Nat → Option TI) (st : St) : List ResultVar → Option (List A)
  | [] => some []
  | r :: rs => match resOf T st r, ressOf T st rs with
    | some v, some vs => some (v :: vs)
    | _, _ => none

def tupOf : List A → A
  | [v] => v
  | vs => .tup vs

/-- The element size and the length of each array that is lent. -/
def lnShs : List A → List (Nat × Nat)
  | [] => []
  | .s true sz len _ :: cs => (sz, len) :: lnShs cs
  | _ :: cs => lnShs cs

def shsOf : List Kind → List A → List (Nat × Nat)
  | .io :: ks, v :: vs => ((cellsA v).length, 1) :: shsOf ks vs
  | .ln _ :: ks, v :: vs => lnShs (cellsA v) ++ shsOf ks vs
  | .ro :: ks, _ :: vs => shsOf ks vs
  | .mv :: ks, _ :: vs => shsOf ks vs
  | _, _ => []

/-- The contents of what was lent, at the end. -/
def iosOf (hp : Hp) : Nat → List (Nat × Nat) → Option (List (List A))
  | _, [] => some []
  | t, sh :: shs => match hp (2, t), iosOf hp (t + 1) shs with
    | some r, some cs => if r.sz = sh.1 ∧ r.len = sh.2 then some (r.cs :: cs) else none
    | _, _ => none

/-- The closed cells, by the values whose cells they are. -/
def regroup : List A → List A → List A
  | [], _ => []
  | .agg xs :: vs, cs => .agg (cs.take xs.length) :: regroup vs (cs.drop xs.length)
  | _ :: vs, c :: cs => c :: regroup vs cs
  | _ :: _, [] => []

def flatA (vs : List A) : List A := (vs.map cellsA).flatten

/-- A result that is the rear part of an array is from here on only read. -/
def frz1 (hp : Hp) : A → Option (A × List (Id × Option Root))
  | .ref id [] ver (off + 1) sz len => (snap1 hp (.ref id [] ver (off + 1) sz len)).map fun x => (x.1, [(id, none)])
  | v => some (v, [])

def frzL (hp : Hp) : List A → Option (List A × List (Id × Option Root))
  | [] => some ([], [])
  | v :: vs => match frz1 hp v with
    | none => none
    | some (c, us) => match frzL (applyH hp us) vs with
      | none => none
      | some (cs, us') => some (c :: cs, us ++ us')

/-- The results as closed data. -/
def finV (hp : Hp) : List A → Option (A × List (Id × Option Root))
  | [.ptr id path _ off] => match hp id with
    | some r => if path = [] ∧ off = 0 ∧ r.len = 1 then some (.ep r.cs, [(id, none)]) else none
    | none => none
  | vs => match frzL hp (flatA vs) with
    | some (xs, us) => (closeL (applyH hp us) xs).map fun x => (tupOf (regroup vs x.1), us ++ x.2.1)
    | none => none

/-- What a call hands back, off the state at the body's end. -/
def finalA (T : Nat → Option TI) (rs : List ResultVar) (shs : List (Nat × Nat)) (st : St) : Option (A × List (List A)) :=
  match ressOf T st rs with
  | none => none
  | some vs => match finV st.hp vs with
    | none => none
    | some (r, us) => (iosOf (applyH st.hp us) 0 shs).map fun outs => (r, outs)

def immV : A → A
  | .agg xs => .agg (xs.map imm1)
  | v => imm1 v

/-- A lent value, as the callee has it: its arrays are the roots (2, b) and on. -/
def lnRefs : Nat → List A → List A
  | _, [] => []
  | b, .s true sz len _ :: cs => .ref (2, b) [] 0 0 sz len :: lnRefs (b + 1) cs
  | b, c :: cs => c :: lnRefs b cs

def lnSlot (b : Nat) : A → A
  | .agg xs => .agg (lnRefs b xs)
  | v => (lnRefs b [v])[0]?.getD .und

def lnRoots : Nat → List A → Hp
  | _, [] => fun _ => none
  | b, .s true sz len cs :: xs => fun id => if id = (2, b) then some (newRoot sz len cs) else lnRoots (b + 1) xs id
  | b, _ :: xs => lnRoots b xs

/-- The state in which a body begins: the k-th parameter that is used up has the root (1, k), the k-th 'io' parameter the root (2, k). j: the parameter's slot. -/
def initSl : Nat → Nat → Nat → List Kind → List A → Nat → A
  | j, a, b, .ro :: ks, v :: vs => fun t => if t = j then immV v else initSl (j + 1) a b ks vs t
  | j, a, b, .mv :: ks, v :: vs => fun t => if t = j then rootRef (1, a) v else initSl (j + 1) (a + 1) b ks vs t
  | j, a, b, .io :: ks, _ :: vs => fun t => if t = j then .ptr (2, b) [] 0 0 else initSl (j + 1) a (b + 1) ks vs t
  | j, a, b, .ln n :: ks, v :: vs => fun t => if t = j then lnSlot b v else initSl (j + 1) a (b + n) ks vs t
  | _, _, _, _, _ => fun _ => .und

def initHp : Nat → Nat → List Kind → List A → Hp
  | a, b, .mv :: ks, v :: vs => fun id => if id = (1, a) then rootOf v else initHp (a + 1) b ks vs id
  | a, b, .io :: ks, v :: vs => fun id => if id = (2, b) then some (newRoot (cellsA v).length 1 (cellsA v)) else initHp a (b + 1) ks vs id
  | a, b, .ln n :: ks, v :: vs => fun id => match lnRoots b (cellsA v) id with
    | some r => some r
    | none => initHp a (b + n) ks vs id
  | a, b, .ro :: ks, _ :: vs => initHp a b ks vs
  | _, _, _, _ => fun _ => none

def initSt (ks : List Kind) (args : List A) : St := ⟨initSl 0 0 0 ks args, initHp 0 0 ks args, 3⟩

mutual
/-- No data in it that somebody else holds. -/
def cleanA : A → Bool
  | .s true _ _ cs => cleanL cs
  | .s false _ _ cs => cs.isEmpty
  | .agg xs => cleanL xs
  | .tup xs => cleanL xs
  | .ep xs => cleanL xs
  | _ => true
def cleanL : List A → Bool
  | [] => true
  | c :: cs => cleanA c && cleanL cs
end

/-- The body computes what the model says. -/
def Does (T : Nat → Option TI) (G : Nat → Option FM) (DT : Nat → List (Nat × Nat)) (fn : Func) (M : Model) : Prop :=
  ∀ c, fn.body = some c → ∀ args r outs, M.fn args = some (r, outs) → (M.clean = true → cleanA r = true ∧ outs.all cleanL = true) ∧
    W T G DT c (fun e st => (e = .normal ∨ e = .ret) ∧ finalA T fn.results.toList (shsOf M.kinds args) st = some (r, outs)) (initSt M.kinds args)

end Go.TM
