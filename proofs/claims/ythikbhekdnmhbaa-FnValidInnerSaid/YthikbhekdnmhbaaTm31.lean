/- The tree machine, 31: data by their types, and how they are read and written. -/
import Derived.Test.YthikbhekdnmhbaaTm30
namespace Go.TM
set_option linter.unusedVariables false
set_option linter.unusedSimpArgs false

structure Pg where
  keys : List Int
  kids : List Int
  vals : List Int
  deriving DecidableEq, Inhabited

structure Tr where
  root : Int
  pages : List Pg
  deriving DecidableEq, Inhabited

structure Inn where
  keys : List Int
  kids : List Int
  deriving DecidableEq, Inhabited

abbrev Pr := Int × Int

def ePr (p : Pr) : List A := [eI p.1, eI p.2]
def ePg (o : Bool) (p : Pg) : List A := [eIs o p.keys, eIs o p.kids, eIs o p.vals]
abbrev eRow (o : Bool) (ps : List Pr) : A := .s o 2 ps.length (ps.flatMap ePr)
abbrev ePgs (o : Bool) (ps : List Pg) : A := .s o 3 ps.length (ps.flatMap (ePg o))
abbrev eIss (o : Bool) (xs : List (List Int)) : A := .s o 1 xs.length (xs.map (eIs o))
abbrev eTr (o : Bool) (t : Tr) : A := .agg [eI t.root, ePgs o t.pages]
abbrev ePage (o : Bool) (p : Pg) : A := .agg [eIs o p.keys, eIs o p.kids, eIs o p.vals]
abbrev eInn (o : Bool) (x : Inn) : A := .agg [eIs o x.keys, eIs o x.kids]
abbrev ePair (p : Pr) : A := .agg [eI p.1, eI p.2]

/-! ### Codes -/

structure Cod (α : Type) where
  e : α → A
  d : A → Option α
  de : ∀ x, d (e x) = some x
  ed : ∀ a x, d a = some x → a = e x

def dI : A → Option Int
  | .i .i64 n => some n
  | _ => none
def dB : A → Option Bool
  | .b v => some v
  | _ => none

theorem dI_some {a : A} {n : Int} (h : dI a = some n) : a = eI n := by
  unfold dI at h
  split at h
  · cases h; rfl
  · cases h

def cI : Cod Int := ⟨eI, dI, fun _ => rfl, fun _ _ h => dI_some h⟩
def cB : Cod Bool := ⟨.b, dB, fun _ => rfl, fun a x h => by
  unfold dB at h
  split at h
  · cases h; rfl
  · cases h⟩

def dL {α : Type} (d : A → Option α) : List A → Option (List α)
  | [] => some []
  | c :: cs => match d c, dL d cs with
    | some x, some xs => some (x :: xs)
    | _, _ => none

theorem dL_e {α : Type} (c : Cod α) : ∀ xs : List α, dL c.d (xs.map c.e) = some xs
  | [] => rfl
  | x :: xs => by simp [dL, c.de, dL_e c xs]

theorem dL_some {α : Type} (c : Cod α) : ∀ {cs : List A} {xs : List α}, dL c.d cs = some xs → cs = xs.map c.e
  | [], _, h => by cases h; rfl
  | a :: cs, xs, h => by
    unfold dL at h
    split at h
    · rename_i x xs' h1 h2
      cases h
      rw [c.ed _ _ h1, dL_some c h2]; rfl
    · cases h

/-- A slice whose elements have one cell. -/
def cS {α : Type} (o : Bool) (c : Cod α) : Cod (List α) where
  e xs := .s o 1 xs.length (xs.map c.e)
  d
    | .s o' sz len cs => if o' = o ∧ sz = 1 ∧ len = cs.length then dL c.d cs else none
    | _ => none
  de xs := by simp [dL_e]
  ed a xs h := by
    split at h
    · split at h
      · rename_i hc
        obtain ⟨rfl, rfl, rfl⟩ := hc
        have := dL_some c h
        rw [this]; simp
      · cases h
    · cases h

abbrev cIs (o : Bool) : Cod (List Int) := cS o cI
abbrev cIss (o : Bool) : Cod (List (List Int)) := cS o (cIs o)

def dPrs : List A → Option (List Pr)
  | [] => some []
  | a :: b :: cs => match dI a, dI b, dPrs cs with
    | some x, some y, some ps => some ((x, y) :: ps)
    | _, _, _ => none
  | [_] => none

theorem dPrs_e : ∀ ps : List Pr, dPrs (ps.flatMap ePr) = some ps
  | [] => rfl
  | p :: ps => by simp [List.flatMap_cons, ePr, dPrs, dI, dPrs_e ps]

theorem dPrs_some : ∀ {cs : List A} {ps : List Pr}, dPrs cs = some ps → cs = ps.flatMap ePr
  | [], _, h => by cases h; rfl
  | [_], _, h => by cases h
  | a :: b :: cs, ps, h => by
    unfold dPrs at h
    split at h
    · rename_i x y ps' h1 h2 h3
      cases h
      rw [dI_some h1, dI_some h2, dPrs_some h3]; rfl
    · cases h

theorem flatPr_len (ps : List Pr) : (ps.flatMap ePr).length = ps.length * 2 := by
  induction ps with
  | nil => rfl
  | cons p ps ih => simp [List.flatMap_cons, ePr, ih]; omega

def cRow (o : Bool) : Cod (List Pr) where
  e ps := eRow o ps
  d
    | .s o' sz len cs => if o' = o ∧ sz = 2 ∧ len * 2 = cs.length then dPrs cs else none
    | _ => none
  de ps := by
    show (if o = o ∧ 2 = 2 ∧ ps.length * 2 = (ps.flatMap ePr).length then dPrs (ps.flatMap ePr) else none) = some ps
    rw [if_pos ⟨rfl, rfl, (flatPr_len ps).symm⟩]; exact dPrs_e ps
  ed a ps h := by
    split at h
    · split at h
      · rename_i hc
        obtain ⟨rfl, rfl, hl⟩ := hc
        have := dPrs_some h
        rw [this, flatPr_len] at hl
        rw [this, Nat.eq_of_mul_eq_mul_right (by omega) hl]
      · cases h
    · cases h

def dPgs (o : Bool) : List A → Option (List Pg)
  | [] => some []
  | a :: b :: c :: cs => match (cIs o).d a, (cIs o).d b, (cIs o).d c, dPgs o cs with
    | some x, some y, some z, some ps => some (⟨x, y, z⟩ :: ps)
    | _, _, _, _ => none
  | _ => none

theorem cIs_de (o : Bool) (xs : List Int) : (cIs o).d (.s o 1 xs.length (xs.map eI)) = some xs := (cIs o).de xs

theorem dPgs_e (o : Bool) : ∀ ps : List Pg, dPgs o (ps.flatMap (ePg o)) = some ps
  | [] => rfl
  | p :: ps => by
    simp only [List.flatMap_cons, ePg, List.cons_append, List.nil_append, dPgs, cIs_de, dPgs_e o ps]

theorem dPgs_some (o : Bool) : ∀ {cs : List A} {ps : List Pg}, dPgs o cs = some ps → cs = ps.flatMap (ePg o)
  | [], _, h => by cases h; rfl
  | [_], _, h => by simp [dPgs] at h
  | [_, _], _, h => by simp [dPgs] at h
  | a :: b :: c :: cs, ps, h => by
    unfold dPgs at h
    split at h
    · rename_i x y z ps' h1 h2 h3 h4
      cases h
      rw [(cIs o).ed _ _ h1, (cIs o).ed _ _ h2, (cIs o).ed _ _ h3, dPgs_some o h4]; rfl
    · cases h

theorem flatPg_len (o : Bool) (ps : List Pg) : (ps.flatMap (ePg o)).length = ps.length * 3 := by
  induction ps with
  | nil => rfl
  | cons p ps ih => simp [List.flatMap_cons, ePg, ih]; omega

def cPgs (o : Bool) : Cod (List Pg) where
  e ps := ePgs o ps
  d
    | .s o' sz len cs => if o' = o ∧ sz = 3 ∧ len * 3 = cs.length then dPgs o cs else none
    | _ => none
  de ps := by
    show (if o = o ∧ 3 = 3 ∧ ps.length * 3 = (ps.flatMap (ePg o)).length then dPgs o (ps.flatMap (ePg o)) else none) = some ps
    rw [if_pos ⟨rfl, rfl, (flatPg_len o ps).symm⟩]; exact dPgs_e o ps
  ed a ps h := by
    split at h
    · split at h
      · rename_i hc
        obtain ⟨rfl, rfl, hl⟩ := hc
        have := dPgs_some _ h
        rw [this, flatPg_len] at hl
        rw [this, Nat.eq_of_mul_eq_mul_right (by omega) hl]
      · cases h
    · cases h

/-- A struct of two parts. -/
def c2 {α β : Type} (a : Cod α) (b : Cod β) : Cod (α × β) where
  e x := .agg [a.e x.1, b.e x.2]
  d
    | .agg [x, y] => match a.d x, b.d y with
      | some u, some v => some (u, v)
      | _, _ => none
    | _ => none
  de x := by simp [a.de, b.de]
  ed z x h := by
    split at h
    · split at h
      · rename_i h1 h2
        cases h
        rw [a.ed _ _ h1, b.ed _ _ h2]
      · cases h
    · cases h

def cTr (o : Bool) : Cod Tr where
  e t := eTr o t
  d a := ((c2 cI (cPgs o)).d a).map fun x => ⟨x.1, x.2⟩
  de t := by rw [show eTr o t = (c2 cI (cPgs o)).e (t.root, t.pages) from rfl, (c2 cI (cPgs o)).de]; rfl
  ed a t h := by
    rw [Option.map_eq_some_iff] at h
    obtain ⟨x, h1, h2⟩ := h
    rw [(c2 cI (cPgs o)).ed _ _ h1, ← h2]; rfl

def cInn (o : Bool) : Cod Inn where
  e t := eInn o t
  d a := ((c2 (cIs o) (cIs o)).d a).map fun x => ⟨x.1, x.2⟩
  de t := by rw [show eInn o t = (c2 (cIs o) (cIs o)).e (t.keys, t.kids) from rfl, (c2 (cIs o) (cIs o)).de]; rfl
  ed a t h := by
    rw [Option.map_eq_some_iff] at h
    obtain ⟨x, h1, h2⟩ := h
    rw [(c2 (cIs o) (cIs o)).ed _ _ h1, ← h2]; rfl

def cPair : Cod Pr := c2 cI cI

def cPage (o : Bool) : Cod Pg where
  e p := ePage o p
  d
    | .agg [x, y, z] => match (cIs o).d x, (cIs o).d y, (cIs o).d z with
      | some u, some v, some w => some ⟨u, v, w⟩
      | _, _, _ => none
    | _ => none
  de p := by simp only [cIs_de]
  ed a p h := by
    split at h
    · split at h
      · rename_i h1 h2 h3
        cases h
        rw [(cIs o).ed _ _ h1, (cIs o).ed _ _ h2, (cIs o).ed _ _ h3]; rfl
      · cases h
    · cases h

/-! ### Models -/

/-- What is only promised under a condition. -/
def gd {α : Type} (p : Prop) [Decidable p] (x : α) : Option α := if p then some x else none
theorem gd_pos {α : Type} {p : Prop} [Decidable p] (h : p) (x : α) : gd p x = some x := if_pos h
theorem gd_some {α : Type} {p : Prop} [Decidable p] {x y : α} (h : gd p x = some y) : p ∧ x = y := by
  unfold gd at h
  split at h
  · cases h; exact ⟨by assumption, rfl⟩
  · cases h

abbrev Out1 := Option (A × List (List A))

def M1 {α : Type} (k : Kind) (cl : Bool) (a : Cod α) (f : α → Out1) : Model := ⟨[k], cl, fun
  | [x] => (a.d x).bind f
  | _ => none⟩
def M2 {α β : Type} (k l : Kind) (cl : Bool) (a : Cod α) (b : Cod β) (f : α → β → Out1) : Model := ⟨[k, l], cl, fun
  | [x, y] => (a.d x).bind fun u => (b.d y).bind fun v => f u v
  | _ => none⟩
def M3 {α β γ : Type} (k l m : Kind) (cl : Bool) (a : Cod α) (b : Cod β) (c : Cod γ) (f : α → β → γ → Out1) : Model := ⟨[k, l, m], cl, fun
  | [x, y, z] => (a.d x).bind fun u => (b.d y).bind fun v => (c.d z).bind fun w => f u v w
  | _ => none⟩
def M4 {α β γ δ : Type} (k l m n : Kind) (cl : Bool) (a : Cod α) (b : Cod β) (c : Cod γ) (d : Cod δ) (f : α → β → γ → δ → Out1) : Model := ⟨[k, l, m, n], cl, fun
  | [x, y, z, t] => (a.d x).bind fun u => (b.d y).bind fun v => (c.d z).bind fun w => (d.d t).bind fun s => f u v w s
  | _ => none⟩
def M5 {α β γ δ ε : Type} (k l m n p : Kind) (cl : Bool) (a : Cod α) (b : Cod β) (c : Cod γ) (d : Cod δ) (e : Cod ε) (f : α → β → γ → δ → ε → Out1) : Model := ⟨[k, l, m, n, p], cl, fun
  | [x, y, z, t, q] => (a.d x).bind fun u => (b.d y).bind fun v => (c.d z).bind fun w => (d.d t).bind fun s => (e.d q).bind fun r => f u v w s r
  | _ => none⟩

section
variable {α β γ δ ε : Type} {k l m n p : Kind} {cl : Bool} {a : Cod α} {b : Cod β} {c : Cod γ} {d : Cod δ} {e : Cod ε}
theorem M1_fn {f : α → Out1} (x : A) : (M1 k cl a f).fn [x] = (a.d x).bind f := rfl
theorem M2_fn {f : α → β → Out1} (x y : A) : (M2 k l cl a b f).fn [x, y] = (a.d x).bind fun u => (b.d y).bind fun v => f u v := rfl
theorem M3_fn {f : α → β → γ → Out1} (x y z : A) : (M3 k l m cl a b c f).fn [x, y, z] = (a.d x).bind fun u => (b.d y).bind fun v => (c.d z).bind fun w => f u v w := rfl
theorem M4_fn {f : α → β → γ → δ → Out1} (x y z t : A) : (M4 k l m n cl a b c d f).fn [x, y, z, t] = (a.d x).bind fun u => (b.d y).bind fun v => (c.d z).bind fun w => (d.d t).bind fun s => f u v w s := rfl
theorem M5_fn {f : α → β → γ → δ → ε → Out1} (x y z t q : A) : (M5 k l m n p cl a b c d e f).fn [x, y, z, t, q] = (a.d x).bind fun u => (b.d y).bind fun v => (c.d z).bind fun w => (d.d t).bind fun s => (e.d q).bind fun r => f u v w s r := rfl
theorem M1_k {f : α → Out1} : (M1 k cl a f).kinds = [k] := rfl
theorem M2_k {f : α → β → Out1} : (M2 k l cl a b f).kinds = [k, l] := rfl
theorem M3_k {f : α → β → γ → Out1} : (M3 k l m cl a b c f).kinds = [k, l, m] := rfl
theorem M4_k {f : α → β → γ → δ → Out1} : (M4 k l m n cl a b c d f).kinds = [k, l, m, n] := rfl
theorem M5_k {f : α → β → γ → δ → ε → Out1} : (M5 k l m n p cl a b c d e f).kinds = [k, l, m, n, p] := rfl
theorem M1_c {f : α → Out1} : (M1 k cl a f).clean = cl := rfl
theorem M2_c {f : α → β → Out1} : (M2 k l cl a b f).clean = cl := rfl
theorem M3_c {f : α → β → γ → Out1} : (M3 k l m cl a b c f).clean = cl := rfl
theorem M4_c {f : α → β → γ → δ → Out1} : (M4 k l m n cl a b c d f).clean = cl := rfl
theorem M5_c {f : α → β → γ → δ → ε → Out1} : (M5 k l m n p cl a b c d e f).clean = cl := rfl

variable {T : Nat → Option TI} {G : Nat → Option FM} {DT : Nat → List (Nat × Nat)} {fn : Func}

/-- What a body's end owes. -/
def endP (T : Nat → Option TI) (rs : List ResultVar) (shs : List (Nat × Nat)) (ro : A × List (List A)) : Exit → St → Prop
  | .normal, st => finalA T rs shs st = some ro
  | .ret, st => finalA T rs shs st = some ro
  | _, _ => False
theorem endP_n (T : Nat → Option TI) (rs : List ResultVar) (shs : List (Nat × Nat)) (ro : A × List (List A)) (st : St) : endP T rs shs ro .normal st = (finalA T rs shs st = some ro) := rfl
theorem endP_r (T : Nat → Option TI) (rs : List ResultVar) (shs : List (Nat × Nat)) (ro : A × List (List A)) (st : St) : endP T rs shs ro .ret st = (finalA T rs shs st = some ro) := rfl

/-- What a body owes. -/
def Owes (T : Nat → Option TI) (G : Nat → Option FM) (DT : Nat → List (Nat × Nat)) (c : Code) (rs : List ResultVar) (cl : Bool) (ks : List Kind) (args : List A) (ro : A × List (List A)) : Prop :=
  (cl = true → cleanA ro.1 = true ∧ ro.2.all cleanL = true) ∧ W T G DT c (endP T rs (shsOf ks args) ro) ⟨initSl 0 0 0 ks args, initHp 0 0 ks args, 3⟩

variable {co : Code} {rs : List ResultVar}
theorem owes_w {ks : List Kind} {args : List A} {r : A} {outs : List (List A)} {c : Code} (hb : fn.body = some co) (hr : fn.results.toList = rs) (hc : fn.body = some c) (h : Owes T G DT co rs cl ks args (r, outs)) : (cl = true → cleanA r = true ∧ outs.all cleanL = true) ∧
    W T G DT c (fun e st => (e = .normal ∨ e = .ret) ∧ finalA T fn.results.toList (shsOf ks args) st = some (r, outs)) (initSt ks args) := by
  rw [hb] at hc
  cases hc
  rw [hr]
  refine ⟨h.1, ?_⟩
  have e : (fun e st => (e = Exit.normal ∨ e = .ret) ∧ finalA T rs (shsOf ks args) st = some (r, outs)) = endP T rs (shsOf ks args) (r, outs) := by
    funext e st
    cases e <;> simp [endP]
  rw [e]
  exact h.2

theorem does1 {f : α → Out1} (hb : fn.body = some co) (hr : fn.results.toList = rs) (h : ∀ x ro, f x = some ro → Owes T G DT co rs cl [k] [a.e x] ro) : Does T G DT fn (M1 k cl a f) := by
  intro c hc args r outs hM
  match args, hM with
  | [x], hM =>
    rw [M1_fn, Option.bind_eq_some_iff] at hM
    obtain ⟨u, h1, h2⟩ := hM
    rw [a.ed _ _ h1]
    exact owes_w hb hr hc (h u (r, outs) h2)
theorem does2 {f : α → β → Out1} (hb : fn.body = some co) (hr : fn.results.toList = rs) (h : ∀ x y ro, f x y = some ro → Owes T G DT co rs cl [k, l] [a.e x, b.e y] ro) : Does T G DT fn (M2 k l cl a b f) := by
  intro c hc args r outs hM
  match args, hM with
  | [x, y], hM =>
    simp only [M2_fn, Option.bind_eq_some_iff] at hM
    obtain ⟨u, h1, v, h2, h3⟩ := hM
    rw [a.ed _ _ h1, b.ed _ _ h2]
    exact owes_w hb hr hc (h u v (r, outs) h3)
theorem does3 {f : α → β → γ → Out1} (hb : fn.body = some co) (hr : fn.results.toList = rs) (h : ∀ x y z ro, f x y z = some ro → Owes T G DT co rs cl [k, l, m] [a.e x, b.e y, c.e z] ro) : Does T G DT fn (M3 k l m cl a b c f) := by
  intro cc hc args r outs hM
  match args, hM with
  | [x, y, z], hM =>
    simp only [M3_fn, Option.bind_eq_some_iff] at hM
    obtain ⟨u, h1, v, h2, w, h3, h4⟩ := hM
    rw [a.ed _ _ h1, b.ed _ _ h2, c.ed _ _ h3]
    exact owes_w hb hr hc (h u v w (r, outs) h4)
theorem does4 {f : α → β → γ → δ → Out1} (hb : fn.body = some co) (hr : fn.results.toList = rs) (h : ∀ x y z t ro, f x y z t = some ro → Owes T G DT co rs cl [k, l, m, n] [a.e x, b.e y, c.e z, d.e t] ro) : Does T G DT fn (M4 k l m n cl a b c d f) := by
  intro cc hc args r outs hM
  match args, hM with
  | [x, y, z, t], hM =>
    simp only [M4_fn, Option.bind_eq_some_iff] at hM
    obtain ⟨u, h1, v, h2, w, h3, s, h4, h5⟩ := hM
    rw [a.ed _ _ h1, b.ed _ _ h2, c.ed _ _ h3, d.ed _ _ h4]
    exact owes_w hb hr hc (h u v w s (r, outs) h5)
theorem does5 {f : α → β → γ → δ → ε → Out1} (hb : fn.body = some co) (hr : fn.results.toList = rs) (h : ∀ x y z t q ro, f x y z t q = some ro → Owes T G DT co rs cl [k, l, m, n, p] [a.e x, b.e y, c.e z, d.e t, e.e q] ro) : Does T G DT fn (M5 k l m n p cl a b c d e f) := by
  intro cc hc args r outs hM
  match args, hM with
  | [x, y, z, t, q], hM =>
    simp only [M5_fn, Option.bind_eq_some_iff] at hM
    obtain ⟨u, h1, v, h2, w, h3, s, h4, o, h5, h6⟩ := hM
    rw [a.ed _ _ h1, b.ed _ _ h2, c.ed _ _ h3, d.ed _ _ h4, e.ed _ _ h5]
    exact owes_w hb hr hc (h u v w s o (r, outs) h6)
end

/-! ### What a code reads -/

theorem cI_d (n : Int) : cI.d (.i .i64 n) = some n := rfl
theorem cB_d (v : Bool) : cB.d (.b v) = some v := rfl
theorem cIs_d {o : Bool} {n : Nat} {xs : List Int} (h : n = xs.length) : (cS o cI).d (.s o 1 n (xs.map eI)) = some xs := by rw [h]; exact cIs_de o xs
theorem cIs_nil {o : Bool} : (cS o cI).d (.s o 1 0 []) = some [] := cIs_de o []
theorem cIss_d {o : Bool} {n : Nat} {xs : List (List Int)} (h : n = xs.length) : (cS o (cS o cI)).d (.s o 1 n (xs.map (eIs o))) = some xs := by rw [h]; exact (cS o (cS o cI)).de xs
theorem cRow_d {o : Bool} {n : Nat} {xs : List Pr} (h : n = xs.length) : (cRow o).d (.s o 2 n (xs.flatMap ePr)) = some xs := by rw [h]; exact (cRow o).de xs
theorem cRow_nil {o : Bool} : (cRow o).d (.s o 2 0 []) = some [] := (cRow o).de []
theorem cPgs_d {o : Bool} {n : Nat} {xs : List Pg} (h : n = xs.length) : (cPgs o).d (.s o 3 n (xs.flatMap (ePg o))) = some xs := by rw [h]; exact (cPgs o).de xs
theorem cPgs_nil {o : Bool} : (cPgs o).d (.s o 3 0 []) = some [] := (cPgs o).de []
theorem cPair_d (x y : Int) : cPair.d (.agg [.i .i64 x, .i .i64 y]) = some (x, y) := rfl
theorem cTr_d {o : Bool} {r : Int} {n : Nat} {xs : List Pg} (h : n = xs.length) : (cTr o).d (.agg [.i .i64 r, .s o 3 n (xs.flatMap (ePg o))]) = some ⟨r, xs⟩ := by rw [h]; exact (cTr o).de ⟨r, xs⟩
theorem cInn_d {o : Bool} {n m : Nat} {xs ys : List Int} (h : n = xs.length ∧ m = ys.length) : (cInn o).d (.agg [.s o 1 n (xs.map eI), .s o 1 m (ys.map eI)]) = some ⟨xs, ys⟩ := by rw [h.1, h.2]; exact (cInn o).de ⟨xs, ys⟩
theorem cPage_d {o : Bool} {n m k : Nat} {xs ys zs : List Int} (h : n = xs.length ∧ m = ys.length ∧ k = zs.length) : (cPage o).d (.agg [.s o 1 n (xs.map eI), .s o 1 m (ys.map eI), .s o 1 k (zs.map eI)]) = some ⟨xs, ys, zs⟩ := by
  rw [h.1, h.2.1, h.2.2]; exact (cPage o).de ⟨xs, ys, zs⟩

/-! ### Normal data -/

theorem normL_eI (xs : List Int) : normL (xs.map eI) = xs.map eI := by
  rw [normL_map, List.map_map]; rfl
theorem normL_flat {α : Type} (f : α → List A) : ∀ xs : List α, normL (xs.flatMap f) = xs.flatMap fun x => normL (f x)
  | [] => rfl
  | x :: xs => by
    rw [normL_map, List.flatMap_cons, List.map_append, List.flatMap_cons, normL_map]
    have := normL_flat f xs
    rw [normL_map] at this
    rw [this]
theorem normL_row (xs : List Pr) : normL (xs.flatMap ePr) = xs.flatMap ePr := by rw [normL_flat]; rfl
theorem normL_pgs (o : Bool) (xs : List Pg) : normL (xs.flatMap (ePg o)) = xs.flatMap (ePg false) := by
  rw [normL_flat]
  congr 1
  funext p
  simp only [ePg, normL, norm, normL_eI]
theorem normL_iss (o : Bool) (xs : List (List Int)) : normL (xs.map (eIs o)) = xs.map (eIs false) := by
  rw [normL_map, List.map_map]
  refine List.map_congr_left fun x _ => ?_
  simp only [Function.comp, norm, normL_eI]

/-! ### Cells -/

theorem get_I {xs : List Int} {k : Nat} (h : k < xs.length) : (xs.map eI)[k]? = some (eI (xs.getD k 0)) := by
  simp [List.getElem?_map, List.getElem?_eq_getElem h]
theorem get_Is {o : Bool} {xs : List (List Int)} {k : Nat} (h : k < xs.length) : (xs.map (eIs o))[k]? = some (eIs o (xs.getD k [])) := by
  simp [List.getElem?_map, List.getElem?_eq_getElem h]

theorem drop_row : ∀ (xs : List Pr) (k : Nat), (xs.flatMap ePr).drop (k * 2) = (xs.drop k).flatMap ePr
  | [], k => by simp
  | x :: xs, 0 => by simp
  | x :: xs, k + 1 => by
    have := drop_row xs k
    rw [show (k + 1) * 2 = 2 + k * 2 from by omega, List.flatMap_cons, ← List.drop_drop]
    simpa [ePr] using this
theorem drop_pgs (o : Bool) : ∀ (xs : List Pg) (k : Nat), (xs.flatMap (ePg o)).drop (k * 3) = (xs.drop k).flatMap (ePg o)
  | [], k => by simp
  | x :: xs, 0 => by simp
  | x :: xs, k + 1 => by
    have := drop_pgs o xs k
    rw [show (k + 1) * 3 = 3 + k * 3 from by omega, List.flatMap_cons, ← List.drop_drop]
    simpa [ePg] using this

theorem drop_head {α : Type} [Inhabited α] {xs : List α} {k : Nat} (h : k < xs.length) : xs.drop k = xs.getD k default :: xs.drop (k + 1) := by
  rw [List.drop_eq_getElem_cons h]
  simp [h]

theorem get_row {xs : List Pr} {k j : Nat} (h : k < xs.length) (hj : j < 2) : (xs.flatMap ePr)[k * 2 + j]? = (ePr (xs.getD k default))[j]? := by
  rw [← List.getElem?_drop, drop_row, drop_head h, List.flatMap_cons, List.getElem?_append_left (by simpa [ePr] using hj)]
theorem get_row0 {xs : List Pr} {k : Nat} (h : k < xs.length) : (xs.flatMap ePr)[k * 2]? = some (eI (xs.getD k default).1) := get_row (j := 0) h (by omega)
theorem get_row1 {xs : List Pr} {k : Nat} (h : k < xs.length) : (xs.flatMap ePr)[k * 2 + 1]? = some (eI (xs.getD k default).2) := get_row (j := 1) h (by omega)
theorem get_pg {o : Bool} {xs : List Pg} {k j : Nat} (h : k < xs.length) (hj : j < 3) : (xs.flatMap (ePg o))[k * 3 + j]? = (ePg o (xs.getD k default))[j]? := by
  rw [← List.getElem?_drop, drop_pgs, drop_head h, List.flatMap_cons, List.getElem?_append_left (by simpa [ePg] using hj)]
theorem get_pg0 {o : Bool} {xs : List Pg} {k : Nat} (h : k < xs.length) : (xs.flatMap (ePg o))[k * 3]? = some (eIs o (xs.getD k default).keys) := get_pg (j := 0) h (by omega)
theorem get_pg1 {o : Bool} {xs : List Pg} {k : Nat} (h : k < xs.length) : (xs.flatMap (ePg o))[k * 3 + 1]? = some (eIs o (xs.getD k default).kids) := get_pg (j := 1) h (by omega)
theorem get_pg2 {o : Bool} {xs : List Pg} {k : Nat} (h : k < xs.length) : (xs.flatMap (ePg o))[k * 3 + 2]? = some (eIs o (xs.getD k default).vals) := get_pg (j := 2) h (by omega)

/-- Some cells in a row. -/
theorem rng_row {xs : List Pr} {k : Nat} (h : k < xs.length) : rng (xs.flatMap ePr) (k * 2) 2 = ePr (xs.getD k default) := by
  unfold rng
  rw [drop_row, drop_head h, List.flatMap_cons]
  simp [ePr]
theorem rng_pg {o : Bool} {xs : List Pg} {k : Nat} (h : k < xs.length) : rng (xs.flatMap (ePg o)) (k * 3) 3 = ePg o (xs.getD k default) := by
  unfold rng
  rw [drop_pgs, drop_head h, List.flatMap_cons]
  simp [ePg]
def sub {α : Type} (xs : List α) (a n : Nat) : List α := (xs.drop a).take n
theorem sub_length {α : Type} {xs : List α} {a n : Nat} (h : a + n ≤ xs.length) : (sub xs a n).length = n := by unfold sub; simp; omega
theorem rng_I (xs : List Int) (a n : Nat) : rng (xs.map eI) a n = (sub xs a n).map eI := by simp [rng, sub, List.map_drop, List.map_take]
theorem take_row : ∀ (xs : List Pr) (k : Nat), (xs.flatMap ePr).take (k * 2) = (xs.take k).flatMap ePr
  | [], k => by simp
  | x :: xs, 0 => by simp
  | x :: xs, k + 1 => by
    have := take_row xs k
    rw [show (k + 1) * 2 = k * 2 + 2 from by omega, List.flatMap_cons]
    simp only [ePr, List.cons_append, List.nil_append, List.take_succ_cons, List.flatMap_cons]
    rw [this]
theorem take_pgs (o : Bool) : ∀ (xs : List Pg) (k : Nat), (xs.flatMap (ePg o)).take (k * 3) = (xs.take k).flatMap (ePg o)
  | [], k => by simp
  | x :: xs, 0 => by simp
  | x :: xs, k + 1 => by
    have := take_pgs o xs k
    rw [show (k + 1) * 3 = k * 3 + 3 from by omega, List.flatMap_cons]
    simp only [ePg, List.cons_append, List.nil_append, List.take_succ_cons, List.flatMap_cons]
    rw [this]
theorem rng_rows (xs : List Pr) (a n : Nat) : rng (xs.flatMap ePr) (a * 2) (n * 2) = (sub xs a n).flatMap ePr := by simp [rng, sub, drop_row, take_row]
theorem rng_pgss (o : Bool) (xs : List Pg) (a n : Nat) : rng (xs.flatMap (ePg o)) (a * 3) (n * 3) = (sub xs a n).flatMap (ePg o) := by simp [rng, sub, drop_pgs, take_pgs]
theorem rng_0 (cs : List A) (n : Nat) : rng cs 0 n = cs.take n := by simp [rng]

/-! ### Cells that are written -/

theorem set_I (xs : List Int) (k : Nat) (v : Int) : (xs.map eI).set k (eI v) = (xs.set k v).map eI := by simp [List.map_set]

theorem set_flat {α : Type} [Inhabited α] (f : α → List A) (m : Nat) (hf : ∀ x, (f x).length = m) : ∀ (xs : List α) (k : Nat) (v : α), k < xs.length → (xs.flatMap f).take (k * m) ++ f v ++ (xs.flatMap f).drop (k * m + m) = (xs.set k v).flatMap f
  | [], k, v, h => by simp at h
  | x :: xs, 0, v, h => by
    have hm : m = (f x).length := (hf x).symm
    simp [List.flatMap_cons, hm]
  | x :: xs, k + 1, v, h => by
    have := set_flat f m hf xs k v (by simpa using h)
    have e : (k + 1) * m = (f x).length + k * m := by rw [hf x, Nat.add_mul]; omega
    simp only [List.flatMap_cons, List.set_cons_succ]
    rw [e, List.take_length_add_append, show (f x).length + k * m + m = (f x).length + (k * m + m) from by omega, List.drop_length_add_append, ← this]
    simp

theorem setR_eq : ∀ (vs : List A) (off : Nat) (cs : List A), off + vs.length ≤ cs.length → setR off vs cs = cs.take off ++ vs ++ cs.drop (off + vs.length)
  | [], off, cs, _ => by simp [setR]
  | v :: vs, off, cs, h => by
    simp only [List.length_cons] at h
    rw [setR, setR_eq vs (off + 1) (cs.set off v) (by simp; omega)]
    rw [List.take_add_one, List.take_set_of_le (Nat.le_refl _), List.getElem?_set_self (by omega)]
    rw [List.drop_set_of_lt (by omega)]
    simp only [Option.toList_some, List.length_cons, List.append_assoc, List.cons_append, List.nil_append]
    rw [show off + 1 + vs.length = off + (vs.length + 1) from by omega]

theorem set_row {xs : List Pr} {k : Nat} (h : k < xs.length) (v : Pr) : setR (k * 2) (ePr v) (xs.flatMap ePr) = (xs.set k v).flatMap ePr := by
  rw [setR_eq _ _ _ (by rw [flatPr_len]; simp [ePr]; omega)]
  exact set_flat ePr 2 (fun _ => rfl) xs k v h
theorem set_pg {o : Bool} {xs : List Pg} {k : Nat} (h : k < xs.length) (v : Pg) : setR (k * 3) (ePg o v) (xs.flatMap (ePg o)) = (xs.set k v).flatMap (ePg o) := by
  rw [setR_eq _ _ _ (by rw [flatPg_len]; simp [ePg]; omega)]
  exact set_flat (ePg o) 3 (fun _ => rfl) xs k v h

end Go.TM
