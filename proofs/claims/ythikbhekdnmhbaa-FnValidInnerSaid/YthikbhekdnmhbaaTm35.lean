/- The tree machine, 35: what a law is called with, as abstract data; and what its call leaves. -/
import Derived.Test.YthikbhekdnmhbaaTm34
import Derived.RowKit
import Derived.RowKit3
import Derived.ProofKit
import Derived.OpenShut
import Derived.Deep.Slices
namespace Go.TM
open Go.ChangeShapes Go.WideShapes Go.ChangeAt Go.RowKit
set_option linter.unusedVariables false
set_option linter.unusedSimpArgs false

/-- Types whose data are numbers, bools, and slices and structs of such. -/
inductive PlainT (P : Program) : TypeId → Prop
  | int {t : TypeId} {k : IntKind} (hu : P.underlying t = some (.int k)) : PlainT P t
  | bool {t : TypeId} (hu : P.underlying t = some .bool) : PlainT P t
  | slice {t e : TypeId} (hu : P.underlying t = some (.slice e)) (he : PlainT P e) (hc : P.cellsOf e ≠ 0) : PlainT P t
  | struct {t : TypeId} {fs : Array Go.Field} (hu : P.underlying t = some (.struct fs)) (hf : ∀ (i : Nat) (f : Go.Field), fs[i]? = some f → PlainT P f.type) : PlainT P t

section
variable {H : Type} {enc : TypeId × Value → H} {P : Program} {w w' : World} {sp : Nat → Bool} {held : Bool}

theorem mapM_of {α β : Type} {g : α → Option β} : ∀ {l : List α} {xs : List β}, xs.length = l.length → (∀ (i : Nat) x, l[i]? = some x → g x = xs[i]?) → l.mapM g = some xs
  | [], [], _, _ => by simp
  | a :: l, x :: xs, hl, h => by
    have h0 := h 0 a rfl
    simp only [List.getElem?_cons_zero] at h0
    have h1 := mapM_of (l := l) (xs := xs) (g := g) (by simpa using hl) fun i y hy => by simpa using h (i + 1) y (by simpa using hy)
    simp [List.mapM_cons, h0, h1]
  | [], _ :: _, hl, _ => by simp at hl
  | _ :: _, [], hl, _ => by simp at hl

/-- Read with less of the spare. -/
theorem trod_sp {t : TypeId} (ht : PlainT P t) : ∀ (n : Nat) (cs : List Value) (x : DataW H × List MemPlace), DataW.trod enc P w 0 (fun _ => true) held n t cs = some x → (∀ p ∈ x.2, sp p.block = true) →
    ∃ m, DataW.trod enc P w 0 sp held m t cs = some x := by
  induction ht with
  | int hu =>
    intro n cs x h hs
    obtain ⟨m, rfl, rfl, hw⟩ := DataW.trod_int hu h
    exact ⟨1, trod_int_mk 0 hu hw⟩
  | bool hu =>
    intro n cs x h hs
    cases n with
    | zero => simp [DataW.trod] at h
    | succ n =>
      refine ⟨1, ?_⟩
      unfold DataW.trod at h ⊢
      rw [hu] at h ⊢
      split at h <;> simp_all
  | @slice t e hu he hc ih =>
    intro n cs x h hs
    rcases Go.Deep.open_slice hu h with ⟨rfl, rfl⟩ | ⟨a, len, cap, m, n', D, Pl, rfl, hb, hl, hm, hmm, rfl, hx⟩
    · exact ⟨1, by unfold DataW.trod; rw [hu]; rfl⟩
    · simp only [if_true] at hmm
      subst hmm
      have hmem : ∀ i, i < m → ∀ p ∈ Pl i, sp p.block = true := fun i hi p hp => hs p (by
        simp only [List.mem_append, List.mem_flatMap, List.mem_range]
        exact .inr ⟨i, hi, hp⟩)
      have hx' : ∀ i, i < m → ∃ cs' k, w.cells? 0 (a.add (i * P.cellsOf e)) (P.cellsOf e) = some cs' ∧ DataW.trod enc P w 0 sp held k e cs' = some (D i, Pl i) := by
        intro i hi
        obtain ⟨cs', h1, h2⟩ := hx i hi
        obtain ⟨k, hk⟩ := ih _ cs' _ h2 (hmem i hi)
        exact ⟨cs', k, h1, hk⟩
      cases hsp : sp a.block with
      | true => exact Go.Deep.shut_slice_whole_cells hu hb hl hm hsp D Pl hx'
      | false =>
        have h0 : m = 0 := by
          rcases Nat.eq_zero_or_pos m with h0 | h0
          · exact h0
          · exfalso
            have := hs (.cell a.block (a.off + 0)) (by
              simp only [List.mem_append]
              exact .inl (MemPlace.mem_row.2 ⟨0, Nat.mul_pos h0 (Nat.pos_of_ne_zero hc), rfl⟩))
            simp [MemPlace.block, hsp] at this
        subst h0
        have hl0 : len = 0 := by omega
        subst hl0
        have := Go.Deep.shut_slice_cells (enc := enc) (w := w) (held := held) hu hb (Nat.le_refl _) hm hsp D Pl (fun i hi => by omega)
        simpa using this
  | @struct t fs hu hf ih =>
    intro n cs x h hs
    obtain ⟨xs, k, hk, rfl, hcl, hxl, hft⟩ := DataW.trod_struct hu h
    have hall : ∀ i, i < xs.length → ∃ m, ∀ f, fs[i]? = some f → DataW.trod enc P w 0 sp held m f.type ((cs.drop f.offset).take (P.cellsOf f.type)) = xs[i]? := by
      intro i hi
      have hi' : i < fs.size := by omega
      have hf' := hft i fs[i] (by simp [hi'])
      rw [List.getElem?_eq_getElem hi] at hf'
      obtain ⟨m, hm⟩ := ih i fs[i] (by simp [hi']) k _ _ hf' fun p hp => hs p (List.mem_flatMap.2 ⟨xs[i], List.getElem_mem hi, hp⟩)
      refine ⟨m, fun f hfi => ?_⟩
      have : f = fs[i] := by
        rw [Array.getElem?_eq_getElem hi'] at hfi
        exact (Option.some.inj hfi).symm
      rw [this, List.getElem?_eq_getElem hi]
      exact hm
    obtain ⟨m, hm⟩ := Go.Deep.fuel_lt (q := fun i m => ∀ f, fs[i]? = some f → DataW.trod enc P w 0 sp held m f.type ((cs.drop f.offset).take (P.cellsOf f.type)) = xs[i]?) (n := xs.length)
      (fun i a b hab hq f hfi => by
        have := hq f hfi
        rcases Nat.lt_or_ge i xs.length with hi | hi
        · rw [List.getElem?_eq_getElem hi] at this ⊢
          exact DataW.trod_le hab this
        · rw [List.getElem?_eq_none hi] at this ⊢
          have h2 : i < fs.size := (Array.getElem?_eq_some_iff.1 hfi).1
          omega) hall
    refine ⟨m + 1, trod_struct_mk hu hcl (mapM_of (by simpa using hxl) fun i f hfi => ?_)⟩
    rw [Array.getElem?_toList] at hfi
    exact hm i (by have := (Array.getElem?_eq_some_iff.1 hfi).1; omega) f hfi

/-- An argument reads behind the call as it read before. -/
theorem trod_again {t : TypeId} (ht : PlainT P t) {v : Value} {d : DataW H} {ps : List MemPlace} (h : DataW.Trod enc P w 0 (fun _ => true) held t v d ps) (hs : ∀ p ∈ ps, sp p.block = true) (hk : ∀ p ∈ ps, w.sameAt w' p) :
    DataW.Trod enc P w' 0 sp held t v d ps := by
  obtain ⟨n, hn⟩ := h
  obtain ⟨m, hm⟩ := trod_sp (sp := sp) ht n _ _ hn hs
  exact ⟨m, DataW.trod_carry m _ _ _ hm hk⟩

theorem trodAll_again : ∀ {ts : List TypeId} {vs : List Value} {ds : List (DataW H)} {ps : List MemPlace}, (∀ t ∈ ts, PlainT P t) → DataW.TrodAll enc P w 0 (fun _ => true) held ts vs ds ps → (∀ p ∈ ps, sp p.block = true) → (∀ p ∈ ps, w.sameAt w' p) →
    DataW.TrodAll enc P w' 0 sp held ts vs ds ps
  | [], [], [], ps, _, h, _, _ => h
  | t :: ts, v :: vs, d :: ds, ps, ht, h, hs, hk => by
    obtain ⟨p, q, h1, h2, rfl⟩ := h
    exact ⟨p, q, trod_again (ht t (by simp)) h1 (fun x hx => hs x (by simp [hx])) (fun x hx => hk x (by simp [hx])),
      trodAll_again (fun x hx => ht x (by simp [hx])) h2 (fun x hx => hs x (by simp [hx])) (fun x hx => hk x (by simp [hx])), rfl⟩
  | [], [], _ :: _, _, _, h, _, _ => by cases h
  | [], _ :: _, _, _, _, h, _, _ => by cases h
  | _ :: _, [], _, _, _, h, _, _ => by cases h
  | _ :: _, _ :: _, [], _, _, h, _, _ => by cases h

/-! ### Arguments as abstract data -/

abbrev oldB (w : World) : Nat → Prop := fun b => b < w.heap.size

/-- Some cells, as abstract data. -/
def CellsOk (w : World) (as : List A) (cs : List Value) : Prop := as.length = cs.length ∧ ∀ (j : Nat) a v, as[j]? = some a → cs[j]? = some v → v.oneCell' = true ∧ Imm w (oldB w) a v

theorem cellsOk_int {t : TypeId} (hu : P.underlying t = some (.int .i64)) {n : Nat} {cs : List Value} {x : DataW H × List MemPlace} (h : DataW.trod enc P w 0 sp held n t cs = some x) :
    ∃ k : Int, (Lit.int .i64 k).wf = true ∧ CellsOk w [eI k] cs ∧ cs = [.int .i64 k] := by
  obtain ⟨k, rfl, rfl, hw⟩ := DataW.trod_int hu h
  refine ⟨k, hw, ⟨rfl, fun j a v ha hv => ?_⟩, rfl⟩
  cases j with
  | zero => simp at ha hv; subst ha; subst hv; exact ⟨rfl, by simp [Imm, hw]⟩
  | succ j => simp at ha

theorem immL_flat {α : Type} (f : α → List A) (k : Nat) {b : Nat} : ∀ (ys : List α) (off : Nat), (∀ y, (f y).length = k) →
    (∀ (i : Nat) y, ys[i]? = some y → ∀ (r : Nat) a, (f y)[r]? = some a → ∃ v, w.cell? ⟨b, off + i * k + r, none⟩ = some v ∧ v.oneCell' = true ∧ Imm w (oldB w) a v) → ImmL w (oldB w) (ys.flatMap f) b off
  | [], off, _, _ => by simp [ImmL]
  | y :: ys, off, hk, h => by
    have h1 := immL_flat f k ys (off + k) hk fun i z hz r a ha => by
      have := h (i + 1) z (by simpa using hz) r a ha
      rwa [show off + (i + 1) * k + r = off + k + i * k + r from by rw [Nat.add_mul]; omega] at this
    have h0 := h 0 y rfl
    simp only [Nat.zero_mul, Nat.add_zero] at h0
    rw [List.flatMap_cons]
    have key : ∀ (as : List A) (r : Nat), (∀ (j : Nat) a, as[j]? = some a → ∃ v, w.cell? ⟨b, off + r + j, none⟩ = some v ∧ v.oneCell' = true ∧ Imm w (oldB w) a v) → r + as.length = k → ImmL w (oldB w) (as ++ ys.flatMap f) b (off + r) := by
      intro as
      induction as with
      | nil => intro r _ hr; simp at hr; subst hr; simpa using h1
      | cons a as ih =>
        intro r ha hr
        simp only [List.cons_append, ImmL]
        obtain ⟨v, g1, g2, g3⟩ := ha 0 a rfl
        refine ⟨⟨v, by simpa using g1, g2, g3⟩, ?_⟩
        have := ih (r + 1) (fun j a' ha' => by
          have := ha (j + 1) a' (by simpa using ha')
          rwa [show off + r + (j + 1) = off + (r + 1) + j from by omega] at this) (by simp at hr; omega)
        rwa [show off + (r + 1) = off + r + 1 from by omega] at this
    have := key (f y) 0 (fun j a ha => by simpa using h0 j a ha) (by simp [hk])
    simpa using this

theorem add_zero_addr (a : Addr) : a.add 0 = a := by simp [Addr.add]

theorem spot_none {a : Addr} {v : Value} (h : w.cell? a = some v) : a.spot = none ∧ a.block < w.heap.size := by
  unfold World.cell? at h
  split at h
  · rename_i hb
    refine ⟨?_, (Array.getElem?_eq_some_iff.1 hb).1⟩
    cases hs : a.spot with
    | none => rfl
    | some _ => rw [hs] at h; simp at h
  · cases h

/-- A slice, by how its elements read. -/
theorem cellsOk_slice {α : Type} [Inhabited α] {t e k : Nat} (hu : P.underlying t = some (.slice e)) (hk : P.cellsOf e = k) (hk0 : 0 < k) (f : α → List A) (hf : ∀ y, (f y).length = k) (Q : α → Prop)
    (he : ∀ (n : Nat) (cs : List Value) (x : DataW H × List MemPlace), DataW.trod enc P w 0 (fun _ => true) held n e cs = some x → ∃ y, Q y ∧ CellsOk w (f y) cs)
    {n : Nat} {cs : List Value} {x : DataW H × List MemPlace} (h : DataW.trod enc P w 0 (fun _ => true) held n t cs = some x) :
    ∃ ys : List α, (∀ y ∈ ys, Q y) ∧ ys.length ≤ maxLen ∧ CellsOk w [.s false k ys.length (ys.flatMap f)] cs := by
  have one : ∀ (a : A) (u : Value), u.oneCell' = true → Imm w (oldB w) a u → CellsOk w [a] [u] := fun a u h1 h2 => ⟨rfl, fun j a' v ha hv => by
    cases j with
    | zero => simp at ha hv; subst ha; subst hv; exact ⟨h1, h2⟩
    | succ j => simp at ha⟩
  rcases Go.Deep.open_slice hu h with ⟨rfl, rfl⟩ | ⟨a, len, cap, m, n', D, Pl, rfl, hb, hl, hm, hmm, rfl, hx⟩
  · refine ⟨[], by simp, Nat.zero_le _, one _ _ rfl ?_⟩
    simp only [Imm]
    exact ⟨none, 0, rfl, Nat.le_refl _, Nat.zero_le _, by simp, .inl (by simp)⟩
  · simp only [if_true] at hmm
    subst hmm
    rw [hk] at hx
    obtain ⟨Y, hY⟩ := Go.Deep.choose_lt (n := m) (p := fun i y => Q y ∧ ∃ cs', w.cells? 0 (a.add (i * k)) k = some cs' ∧ CellsOk w (f y) cs') (fun i hi => by
      obtain ⟨cs', h1, h2⟩ := hx i hi
      obtain ⟨y, g1, g2⟩ := he _ _ _ h2
      exact ⟨y, g1, cs', h1, g2⟩)
    have hlen : ((List.range len).map Y).length = len := by simp
    refine ⟨(List.range len).map Y, fun y hy => ?_, by rw [hlen]; omega, one _ _ rfl ?_⟩
    · obtain ⟨i, hi, rfl⟩ := List.mem_map.1 hy
      exact (hY i (by have := List.mem_range.1 hi; omega)).1
    · simp only [Imm]
      refine ⟨some a, m, by rw [hlen], by rw [hlen]; exact hl, hm, ?_, ?_⟩
      · rw [List.length_flatMap]
        have : ∀ ys : List α, (ys.map fun y => (f y).length).sum = ys.length * k := by
          intro ys
          induction ys with
          | nil => simp
          | cons y ys ih => rw [List.map_cons, List.sum_cons, ih, hf, List.length_cons, Nat.add_mul]; omega
        rw [this]
      · rcases Nat.eq_zero_or_pos len with h0 | h0
        · left; subst h0; simp
        · right
          obtain ⟨_, cs', g1, g2⟩ := hY 0 (by omega)
          obtain ⟨_, g3, g4⟩ := World.cells?_some g1
          have h00 := g4 0 hk0
          simp only [Nat.zero_mul, add_zero_addr] at h00
          have hc0 : ∃ v, w.cell? a = some v := by
            rw [h00, List.getElem?_eq_getElem (by omega)]
            exact ⟨_, rfl⟩
          obtain ⟨v0, hv0⟩ := hc0
          obtain ⟨hsn, hbl⟩ := spot_none hv0
          refine ⟨a, rfl, hsn, hbl, immL_flat f k _ _ hf fun i y hy r aa ha => ?_⟩
          simp only [List.getElem?_map, Option.map_eq_some_iff] at hy
          obtain ⟨i', hi', rfl⟩ := hy
          have hlt : i < len := by
            have := (List.getElem?_eq_some_iff.1 hi').1
            simpa using this
          rw [List.getElem?_range hlt] at hi'
          cases hi'
          obtain ⟨_, cs1, q1, q2⟩ := hY i (by omega)
          obtain ⟨_, q3, q4⟩ := World.cells?_some q1
          have hr : r < k := by rw [← hf (Y i)]; exact (List.getElem?_eq_some_iff.1 ha).1
          have q5 := q4 r hr
          rw [List.getElem?_eq_getElem (by omega)] at q5
          obtain ⟨q6, q7⟩ := q2.2 r aa cs1[r] ha (List.getElem?_eq_getElem (by omega))
          refine ⟨cs1[r], ?_, q6, q7⟩
          rw [← q5]
          congr 1
          rw [Go.Deep.add_add]
          unfold Addr.add
          by_cases hz : i * k + r = 0
          · rw [if_pos hz]
            obtain ⟨blk, off, spt⟩ := a
            simp only at hsn
            subst hsn
            simp only [Addr.mk.injEq, true_and, and_true]; omega
          · rw [if_neg hz]; rw [Nat.add_assoc]

/-! ### The call of a law -/

/-- An argument, as abstract data. -/
def ArgOk (w : World) : A → Value → Prop
  | .agg xs, u => ∃ us, u = .agg us ∧ CellsOk w xs us.toList
  | a, u => CellsOk w [a] [u]

abbrev topL (w : World) : Lab := fun b => if b < w.heap.size then .prot else .free
abbrev topU : Use := ⟨fun _ => True⟩

theorem cellsOk_rep {hp : Hp} {V : Nat → Prop} {a : A} {u : Value} (h : CellsOk w [a] [u]) : @Rep topU V w (topL w) hp (imm1 a) u := by
  have h1 := (h.2 0 a u rfl rfl).2
  have h2 : Imm w (@isProt topU (topL w)) a u := @Imm.mono topU _ _ _ _ (fun b hb => ⟨⟨if_pos hb, trivial⟩, rfl⟩) _ _ h1
  exact @rep_imm1 _ _ _ _ topU _ _ h2

theorem argOk_rep {hp : Hp} {V : Nat → Prop} {a : A} {u : Value} (h : ArgOk w a u) : @Rep topU V w (topL w) hp (immV a) u := by
  unfold ArgOk at h
  split at h
  · rename_i xs
    obtain ⟨us, rfl, h⟩ := h
    simp only [immV, Rep]
    refine ⟨us, rfl, @repL_of_get topU _ _ _ _ _ _ (by simpa using h.1) fun j c v hc hv => ?_⟩
    rw [List.getElem?_map, Option.map_eq_some_iff] at hc
    obtain ⟨a, ha, rfl⟩ := hc
    obtain ⟨h1, h2⟩ := h.2 j a v ha hv
    exact cellsOk_rep ⟨rfl, fun i a' v' ha' hv' => by
      cases i with
      | zero => simp at ha' hv'; subst ha'; subst hv'; exact ⟨h1, h2⟩
      | succ i => simp at ha'⟩
  · rename_i hno
    have e : immV a = imm1 a := by cases a <;> first | rfl | exact (hno _ rfl).elim
    rw [e]
    exact cellsOk_rep h

theorem initSl_ro : ∀ (args : List A) (us : List Value) (j0 : Nat) {V : Nat → Prop} {hp : Hp}, args.length = us.length → (∀ (j : Nat) a u, args[j]? = some a → us[j]? = some u → ArgOk w a u) →
    ∀ j, @Rep topU V w (topL w) hp (initSl j0 0 0 (args.map fun _ => .ro) args (j0 + j)) ((us[j]?).getD undef)
  | [], us, j0, V, hp, _, _, j => by simp [initSl, Rep]
  | a :: args, [], j0, V, hp, hl, _, _ => by simp at hl
  | a :: args, u :: us, j0, V, hp, hl, h, 0 => by
    simp only [List.map_cons, initSl, Nat.add_zero, if_true, List.getElem?_cons_zero, Option.getD_some]
    exact argOk_rep (h 0 a u rfl rfl)
  | a :: args, u :: us, j0, V, hp, hl, h, j + 1 => by
    have := initSl_ro args us (j0 + 1) (V := V) (hp := hp) (by simpa using hl) (fun j a u ha hu => h (j + 1) a u (by simpa using ha) (by simpa using hu)) j
    simp only [List.map_cons, initSl, List.getElem?_cons_succ]
    rw [if_neg (by omega), show j0 + (j + 1) = j0 + 1 + j from by omega]
    exact this

theorem initHp_ro : ∀ (args : List A) (a b : Nat) (id : Id), initHp a b (args.map fun _ => .ro) args id = none
  | [], _, _, _ => rfl
  | _ :: args, a, b, id => initHp_ro args a b id

theorem initSl_lt : ∀ (args : List A) (j0 : Nat) (t : Nat), t < j0 → initSl j0 0 0 (args.map fun _ => .ro) args t = .und
  | [], _, _, _ => rfl
  | _ :: args, j0, t, h => by
    simp only [List.map_cons, initSl]
    rw [if_neg (by omega)]
    exact initSl_lt args (j0 + 1) t (by omega)

theorem shsOf_ro : ∀ (args : List A), shsOf (args.map fun _ => .ro) args = []
  | [] => rfl
  | _ :: args => shsOf_ro args

/-- A law that its contract says is true returns true, and leaves all as it was. -/
theorem law_calls {f : Nat} {M : Model} (hC : Contract P f M) {args : List A} {us : List Value} (hk : M.kinds = args.map fun _ => .ro) (hl : args.length = us.length) (hargs : ∀ (j : Nat) a u, args[j]? = some a → us[j]? = some u → ArgOk w a u)
    (hM : M.fn args = some (.b true, [])) : Calls P f us.toArray w fun e w' => e = .returned (.bool true) ∧ Grown w w' := by
  have hh : @HRel topU w (topL w) lt3 (initHp 0 0 M.kinds args) w (topL w) := by
    rw [hk]
    refine @HRel.mk topU _ _ _ _ _ _ (fun id r hr => ?_) (fun b b' id p hb hb' => ?_) (fun b hb => ?_) (fun b id p hb => ?_) (fun id r hr => ?_) (fun b hb => ⟨hb, rfl⟩) (Nat.le_refl _) rfl rfl rfl (fun _ _ => trivial) (fun b c e f hb hc => ?_)
    · rw [initHp_ro] at hr; cases hr
    · simp only [topL] at hb; split at hb <;> cases hb
    · exact if_neg (by omega)
    · simp only [topL] at hb; split at hb <;> cases hb
    · rw [initHp_ro] at hr; cases hr
    · exfalso
      apply hb
      exact if_pos (Array.getElem?_eq_some_iff.1 hc).1
  refine (hC.calls topU w (topL w) us.toArray args (.b true) [] hM hh (fun j => ?_) (by simpa using hl.symm)).mono fun e w' hp => ?_
  · have := initSl_ro (w := w) args us 0 (V := lt3) (hp := initHp 0 0 M.kinds args) hl hargs j
    rw [hk]
    rw [hk] at this
    simpa [Array.getD_eq_getD_getElem?] using this
  · obtain ⟨v, L', rfl, h1, h2, _⟩ := hp
    letI : Use := topU
    simp only [ResOwn, Res1, Own] at h2
    obtain ⟨_, rfl⟩ := h2
    have hold : ∀ b, b < w.heap.size → w'.heap[b]? = w.heap[b]? := fun b hb => (h1.prot b (if_pos hb)).2
    refine ⟨rfl, ⟨h1.os, h1.output, fun i hi => ?_⟩, fun a => ?_, h1.size⟩
    · rw [hold i hi]
      cases w.heap[i]? with
      | none => simp
      | some o => cases o <;> simp
    · by_cases ha : a.block < w.heap.size
      · simp only [World.frozen?, hold a.block ha]
      · have e1 : w.heap[a.block]? = none := Array.getElem?_eq_none (by omega)
        simp only [World.frozen?, e1]
        cases hb : w'.heap[a.block]? with
        | none => rfl
        | some o =>
          cases o with
          | cells c e f =>
            have := h1.frz a.block c e f (by simp only [topL]; rw [if_neg ha]; simp) hb
            subst this
            simp
          | _ => rfl

theorem kept_same {w w' : World} (h : Grown w w') {ps : List MemPlace} (hlt : ∀ p ∈ ps, p.block < w.heap.size) : ∀ p ∈ ps, w.sameAt w' p := by
  intro p hp
  have hb := hlt p hp
  cases p with
  | cell b off => exact World.keptBut.cell h.1 hb (fun x => x)
  | map b => exact World.keptBut.block h.1 hb (fun _ x => x.elim)

theorem argOk_cell {a : A} {u : Value} (h : CellsOk w [a] [u]) (hn : ∀ xs, a ≠ .agg xs) : ArgOk w a u := by
  unfold ArgOk
  split
  · exact (hn _ rfl).elim
  · exact h
end
end Go.TM
