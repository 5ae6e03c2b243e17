/- The tree machine, 12: the state in which a call begins. -/
import Derived.Test.YthikbhekdnmhbaaTm11
namespace Go.TM
set_option linter.unusedVariables false
set_option linter.unusedSimpArgs false

def stripP : List Nat → List Nat → Option (List Nat)
  | [], q => some q
  | a :: p, b :: q => if a = b then stripP p q else none
  | _ :: _, [] => none

theorem stripP_app (p q : List Nat) : stripP p (p ++ q) = some q := by
  induction p with
  | nil => rfl
  | cons a p ih => simp [stripP, ih]

theorem stripP_some : ∀ {p q s : List Nat}, stripP p q = some s → q = p ++ s
  | [], q, s, h => by simp [stripP] at h; simp [h]
  | a :: p, b :: q, s, h => by
    unfold stripP at h
    split at h
    · rename_i e; rw [stripP_some h, e]; rfl
    · cases h
  | _ :: _, [], _, h => by simp [stripP] at h

theorem stripP_none {p q : List Nat} (h : ¬ p <+: q) : stripP p q = none := by
  cases hs : stripP p q with
  | none => rfl
  | some s => exact (h ⟨s, (stripP_some hs).symm⟩).elim

abbrev idsOf (ios : List (Id × List Nat)) : List Id := ios.map (·.1)

/-- The caller's labels as the callee has them. -/
def labC (L : Lab) (tid : Id) (ios : List (Id × List Nat)) : Lab := fun b => match L b with
  | .free => .free
  | .prot => .prot
  | .at i p => if i = tid then (match p with
      | k :: q => .at (1, k) q
      | [] => .prot) else match posOf (idsOf ios) i with
    | some t => (match ios[t]? with
      | some e => match stripP e.2 p with
        | some q => .at (2, t) q
        | none => .prot
      | none => .prot)
    | none => .prot

theorem labC_prot {L : Lab} {tid : Id} {ios : List (Id × List Nat)} {b : Nat} (h : L b = .prot) : labC L tid ios b = .prot := by simp [labC, h]
theorem labC_free {L : Lab} {tid : Id} {ios : List (Id × List Nat)} {b : Nat} (h : L b = .free) : labC L tid ios b = .free := by simp [labC, h]
theorem labC_mv {L : Lab} {tid : Id} {ios : List (Id × List Nat)} {b k : Nat} {q : List Nat} (h : L b = .at tid (k :: q)) : labC L tid ios b = .at (1, k) q := by simp [labC, h]
theorem labC_io {L : Lab} {tid : Id} {ios : List (Id × List Nat)} {b t : Nat} {id : Id} {path q : List Nat} (h : L b = .at id (path ++ q)) (hid : id ≠ tid) (ht : posOf (idsOf ios) id = some t) (hp : ios[t]? = some (id, path)) :
    labC L tid ios b = .at (2, t) q := by simp only [labC, h, if_neg hid, ht, hp, stripP_app]
theorem labC_other {L : Lab} {tid : Id} {ios : List (Id × List Nat)} {b : Nat} {id : Id} {q : List Nat} (h : L b = .at id q) (hid : id ≠ tid) (ht : id ∉ idsOf ios) : labC L tid ios b = .prot := by
  simp only [labC, h, if_neg hid]
  cases hp : posOf (idsOf ios) id with
  | none => rfl
  | some t => exact (ht (List.mem_of_getElem? (posOf_some hp))).elim
theorem labC_off {L : Lab} {tid : Id} {ios : List (Id × List Nat)} {b t : Nat} {id : Id} {path q : List Nat} (h : L b = .at id q) (hid : id ≠ tid) (ht : posOf (idsOf ios) id = some t) (hp : ios[t]? = some (id, path)) (hq : ¬ path <+: q) :
    labC L tid ios b = .prot := by simp only [labC, h, if_neg hid, ht, hp, stripP_none hq]

theorem labC_at {L : Lab} {tid : Id} {ios : List (Id × List Nat)} {b : Nat} {i : Id} {p : List Nat} (h : labC L tid ios b = .at i p) :
    (∃ k, i = (1, k) ∧ L b = .at tid (k :: p)) ∨ ∃ t id path, i = (2, t) ∧ posOf (idsOf ios) id = some t ∧ ios[t]? = some (id, path) ∧ id ≠ tid ∧ L b = .at id (path ++ p) := by
  unfold labC at h
  split at h
  · cases h
  · cases h
  · rename_i i' p' hb
    split at h
    · rename_i hi
      subst hi
      split at h
      · cases h; exact .inl ⟨_, rfl, hb⟩
      · cases h
    · rename_i hi
      split at h
      · rename_i t ht
        split at h
        · rename_i e he
          split at h
          · rename_i q hq
            cases h
            have h1 := posOf_some ht
            rw [List.getElem?_map, he] at h1
            simp only [Option.map_some, Option.some.injEq] at h1
            exact .inr ⟨t, i', e.2, rfl, ht, by rw [he, ← h1], hi, by rw [hb, stripP_some hq]⟩
          · cases h
        · cases h
      · cases h

/-- What the callee may use as data that nobody writes. -/
abbrev useC (B : Use) (L Lc : Lab) (bor : Bool) : Use := ⟨fun b => bor = true ∨ (@Use.B B b ∧ (L b = .prot ∨ Lc b ≠ .prot))⟩

theorem useC_prot {B : Use} {L : Lab} {bor : Bool} {tid : Id} {ios : List (Id × List Nat)} {b : Nat} (h : @isProt B L b) : @isProt (useC B L (labC L tid ios) bor) (labC L tid ios) b :=
  ⟨labC_prot h.1, .inr ⟨h.2, .inl h.1⟩⟩

theorem snap1_ids {hp : Hp} {v c : A} {rd : List Id} (h : snap1 hp v = some (c, rd)) : ∀ id ∈ rd, hp id ≠ none := by
  unfold snap1 at h
  split at h
  · cases h; simp
  · cases h; simp
  · cases h; simp
  · split at h
    · rename_i hn
      split at h
      · cases h
        simp only [List.mem_singleton, forall_eq]
        intro h0
        simp [node, h0] at hn
      · cases h
    · cases h
  · cases h

theorem snapL_ids {hp : Hp} : ∀ {vs cs : List A} {rd : List Id}, snapL hp vs = some (cs, rd) → ∀ id ∈ rd, hp id ≠ none
  | [], _, _, h => by cases h; simp
  | v :: vs, _, _, h => by
    unfold snapL at h
    split at h
    · rename_i h1 h2
      cases h
      intro id hid
      rcases List.mem_append.1 hid with hid | hid
      · exact snap1_ids h1 id hid
      · exact snapL_ids h2 id hid
    · cases h

theorem snap_ids {hp : Hp} {v c : A} {rd : List Id} (h : snap hp v = some (c, rd)) : ∀ id ∈ rd, hp id ≠ none := by
  unfold snap at h
  split at h
  · simp only [Option.map_eq_some_iff] at h
    obtain ⟨⟨cs, rd'⟩, h1, h2⟩ := h
    cases h2
    exact snapL_ids h1
  · exact snap1_ids h

/-- A cell that the callee owns under an id of its own, as its parameter. -/
theorem own_rootRef {B : Use} {w : World} {L : Lab} {hpc : Hp} {V : Nat → Prop} {id : Id} {c : A} {u : Value} (hV : V id.1) (h : Own w L c id [] u) : Rep V w L hpc (rootRef id c) u := by
  unfold rootRef
  split
  · rename_i sz len cs
    simp only [Rep]
    refine ⟨hV, fun r _ c p hp => (by cases hp), ?_⟩
    simp only [Own] at h
    rcases h with ⟨rfl, rfl, rfl⟩ | ⟨b, cur, e, cap, rfl, h2, h3, h4, h5, h6, h7, h8⟩
    · exact ⟨none, 0, rfl, Nat.le_refl _, Nat.zero_le _, fun _ => .inl ⟨rfl, rfl, rfl⟩⟩
    · exact ⟨_, cap, rfl, h5, h6, fun _ => .inr ⟨b, cur, e, rfl, h2, h3, by omega⟩⟩
  · rename_i hne
    cases c with
    | i k n => simpa [Own, Rep] using h
    | b v => simpa [Own, Rep] using h
    | s o sz len cs =>
      cases o with
      | true => exact (hne _ _ _ rfl).elim
      | false => simpa [Own, Rep] using h
    | und => simp [Rep]
    | _ => simp [Own] at h

theorem own_rootOf {B : Use} {w : World} {L : Lab} {id : Id} {c : A} {u : Value} {r : Root} (hr : rootOf c = some r) (h : Own w L c id [] u) : Own w L (.s true r.sz r.len r.cs) id [] u := by
  unfold rootOf at hr
  split at hr
  · cases hr; exact h
  · cases hr

theorem own_root1 {B : Use} {w0 w : World} {L0 L : Lab} {U : Nat → Prop} {hp : Hp} (h : HRel w0 L0 U hp w L) {id : Id} {r : Root} (hr : hp id = some r) (h1 : r.len = 1) :
    ∃ u, Own w L (.s true r.cs.length 1 r.cs) id [] u := by
  obtain ⟨u, hu⟩ := h.roots id r hr
  refine ⟨u, ?_⟩
  have hl : r.cs.length = r.sz := by
    simp only [Own] at hu
    rcases hu with ⟨_, h2, _⟩ | ⟨b, cur, e, cap, _, _, _, _, _, _, h7, _⟩
    · omega
    · rw [h7, h1, Nat.one_mul]
  rwa [hl, ← h1]

section
variable {w0 w : World} {L0 L : Lab} {U U' : Nat → Prop} {hp : Hp} {tid : Id}

/-- An array that is lent, as the callee has it. -/
theorem start_ln1 (B : Use) (h : HRel w0 L0 U' hp w L) (htid : hp tid = none) (IOS : List (Id × List Nat)) (bor : Bool) {v c : A} {u : Value} {es : List (Id × List Nat)} {b : Nat} (hv : Rep U' w L hp v u) (hl : lnCell hp v = some (c, es))
    (hio : ∀ t e, es[t]? = some e → posOf (idsOf IOS) e.1 = some (b + t) ∧ IOS[b + t]? = some e) :
    (es = [] ∧ isScalar c = true ∧ (∀ hpc, @Rep (useC B L (labC L tid IOS) bor) lt3 w (labC L tid IOS) hpc c u)) ∨
    (es.length = 1 ∧ ∃ sz len cs, c = .s true sz len cs ∧ (∀ hpc, @Rep (useC B L (labC L tid IOS) bor) lt3 w (labC L tid IOS) hpc (.ref (2, b) [] 0 0 sz len) u) ∧ ∃ u', @Own (useC B L (labC L tid IOS) bor) w (labC L tid IOS) (.s true sz len cs) (2, b) [] u') := by
  unfold lnCell at hl
  split at hl
  · cases hl
    exact .inl ⟨rfl, rfl, fun hpc => by simpa [Rep] using hv⟩
  · cases hl
    exact .inl ⟨rfl, rfl, fun hpc => by simpa [Rep] using hv⟩
  · rename_i id path ver off sz len
    split at hl
    · rename_i nsz nlen cs hn
      split at hl
      · rename_i hcond
        obtain ⟨rfl, rfl, rfl⟩ := hcond
        cases hl
        right
        obtain ⟨hpos, hpos2⟩ : posOf (idsOf IOS) id = some b ∧ IOS[b]? = some (id, path) := by simpa using hio 0 (id, path) (by simp)
        have hidt : id ≠ tid := by
          rintro rfl
          simp [node, htid] at hn
        obtain ⟨u0, hu0⟩ := h.node hn
        have hown : @Own (useC B L (labC L tid IOS) bor) w (labC L tid IOS) (.s true sz len cs) (2, b) [] u0 :=
          Own.moveU B _ _ path [] u0 (.inr fun b' hb' => ⟨useC_prot hb', rfl⟩) (fun b' q hq => ⟨by rw [labC_io hq hidt hpos hpos2]; rfl, rfl⟩) hu0
        refine ⟨rfl, sz, len, cs, rfl, fun hpc => ?_, u0, hown⟩
        simp only [Rep] at hv ⊢
        obtain ⟨_, _, ao, cap, rfl, g1, g2, g3⟩ := hv
        refine ⟨by simp [lt3], fun r _ c p hp => (by cases hp), ao, cap, rfl, g1, g2, fun _ => ?_⟩
        rcases g3 (by simp [hn]) with g4 | ⟨blk, cur, et, g4, g5, g6, g7⟩
        · exact .inl g4
        · exact .inr ⟨blk, cur, et, g4, labC_io (by simpa using g5) hidt hpos hpos2, g6, g7⟩
      · cases hl
    · cases hl
  · cases hl

theorem lnRefs_s (b sz len : Nat) (xs cs : List A) : lnRefs b (.s true sz len xs :: cs) = .ref (2, b) [] 0 0 sz len :: lnRefs (b + 1) cs := rfl
theorem lnRefs_c {c : A} (h : isScalar c = true) (b : Nat) (cs : List A) : lnRefs b (c :: cs) = c :: lnRefs b cs := by cases c <;> first | rfl | simp [isScalar] at h
theorem lnRoots_c {c : A} (h : isScalar c = true) (b : Nat) (cs : List A) : lnRoots b (c :: cs) = lnRoots b cs := by cases c <;> first | rfl | simp [isScalar] at h

theorem start_lnL (B : Use) (h : HRel w0 L0 U' hp w L) (htid : hp tid = none) (IOS : List (Id × List Nat)) (bor : Bool) : ∀ (vs cs : List A) (us : List Value) (es : List (Id × List Nat)) (b : Nat), RepL U' w L hp vs us → lnCells hp vs = some (cs, es) →
    (∀ t e, es[t]? = some e → posOf (idsOf IOS) e.1 = some (b + t) ∧ IOS[b + t]? = some e) →
    (∀ hpc, @RepL (useC B L (labC L tid IOS) bor) lt3 w (labC L tid IOS) hpc (lnRefs b cs) us) ∧ ∀ id r, lnRoots b cs id = some r → id.1 < 3 ∧ ∃ u, @Own (useC B L (labC L tid IOS) bor) w (labC L tid IOS) (.s true r.sz r.len r.cs) id [] u
  | [], cs, us, es, b, hr, hl, hio => by
    cases hl
    cases us with
    | nil => exact ⟨fun _ => by simp [lnRefs, RepL], fun id r hr => by simp [lnRoots] at hr⟩
    | cons u us => simp [RepL] at hr
  | v :: vs, cs, us, es, b, hr, hl, hio => by
    cases us with
    | nil => simp [RepL] at hr
    | cons u us =>
      simp only [RepL] at hr
      unfold lnCells at hl
      split at hl
      · rename_i c e cs' es' h1 h2
        cases hl
        rcases start_ln1 B h htid IOS bor hr.1 h1 (b := b) (fun t e' ht => hio t e' (by rw [List.getElem?_append_left (List.getElem?_eq_some_iff.1 ht).1]; exact ht)) with ⟨rfl, g1, g2⟩ | ⟨g0, sz, len, xs, rfl, g2, g3⟩
        · obtain ⟨f1, f2⟩ := start_lnL B h htid IOS bor vs cs' us es' b hr.2 h2 (by simpa using hio)
          rw [lnRefs_c g1, lnRoots_c g1]
          exact ⟨fun hpc => by simp only [RepL]; exact ⟨g2 hpc, f1 hpc⟩, f2⟩
        · obtain ⟨f1, f2⟩ := start_lnL B h htid IOS bor vs cs' us es' (b + 1) hr.2 h2 (fun t e' ht => by
            rw [show b + 1 + t = b + (1 + t) from by omega]
            refine hio (1 + t) e' ?_
            rw [List.getElem?_append_right (by omega), g0]
            simpa using ht)
          rw [lnRefs_s]
          refine ⟨fun hpc => by simp only [RepL]; exact ⟨g2 hpc, f1 hpc⟩, fun id r hr' => ?_⟩
          simp only [lnRoots] at hr'
          split at hr'
          · rename_i hid
            subst hid
            cases hr'
            exact ⟨by simp, g3⟩
          · exact f2 id r hr'
      · cases hl

theorem start_ln (B : Use) (h : HRel w0 L0 U' hp w L) (htid : hp tid = none) (IOS : List (Id × List Nat)) (bor : Bool) {v c : A} {u : Value} {es : List (Id × List Nat)} {b : Nat} (hv : Rep U' w L hp v u) (hl : lnVal hp v = some (c, es))
    (hio : ∀ t e, es[t]? = some e → posOf (idsOf IOS) e.1 = some (b + t) ∧ IOS[b + t]? = some e) :
    (∀ hpc, @Rep (useC B L (labC L tid IOS) bor) lt3 w (labC L tid IOS) hpc (lnSlot b c) u) ∧ ∀ id r, lnRoots b (cellsA c) id = some r → id.1 < 3 ∧ ∃ u, @Own (useC B L (labC L tid IOS) bor) w (labC L tid IOS) (.s true r.sz r.len r.cs) id [] u := by
  unfold lnVal at hl
  split at hl
  · simp only [Option.map_eq_some_iff] at hl
    obtain ⟨⟨cs, es'⟩, h1, h2⟩ := hl
    cases h2
    simp only [Rep] at hv
    obtain ⟨us, rfl, hv⟩ := hv
    obtain ⟨f1, f2⟩ := start_lnL B h htid IOS bor _ _ _ _ b hv h1 hio
    exact ⟨fun hpc => by simp only [lnSlot, Rep]; exact ⟨us, rfl, f1 hpc⟩, by simpa [cellsA] using f2⟩
  · rcases start_ln1 B h htid IOS bor hv hl hio with ⟨rfl, g1, g2⟩ | ⟨g0, sz, len, xs, rfl, g2, g3⟩
    · refine ⟨fun hpc => ?_, fun id r hr => ?_⟩
      · have : lnSlot b c = c := by cases c <;> first | rfl | simp [isScalar] at g1
        rw [this]; exact g2 hpc
      · have : cellsA c = [c] := by cases c <;> first | rfl | simp [isScalar] at g1
        rw [this, lnRoots_c g1] at hr
        simp [lnRoots] at hr
    · refine ⟨fun hpc => ?_, fun id r hr => ?_⟩
      · simpa [lnSlot, lnRefs] using g2 hpc
      · simp only [cellsA, lnRoots] at hr
        split at hr
        · rename_i hid
          subst hid
          cases hr
          exact ⟨by simp, g3⟩
        · cases hr

theorem start_go (B : Use) (h : HRel w0 L0 U' hp w L) (htid : hp tid = none) (IOS : List (Id × List Nat)) (bor : Bool) :
    ∀ (ks : List Kind) (vs : List A) (us : List Value) (cs xs : List A) (rds : List Id) (ios : List (Id × List Nat)) (j0 a b : Nat), contsOf hp ks vs cs = some (xs, rds, ios) → RepL U' w L hp vs us → OwnL w L cs tid [] a (mvsOf ks us) →
      (∀ t e, ios[t]? = some e → posOf (idsOf IOS) e.1 = some (b + t) ∧ IOS[b + t]? = some e) → (∀ id ∈ rds, id ∉ idsOf IOS ∧ bor = true) →
      (∀ hpc j, @Rep (useC B L (labC L tid IOS) bor) lt3 w (labC L tid IOS) hpc (initSl j0 a b ks xs (j0 + j)) ((us[j]?).getD undef)) ∧ (∀ j, j < j0 → initSl j0 a b ks xs j = .und) ∧
      ∀ id r, initHp a b ks xs id = some r → id.1 < 3 ∧ ∃ u, @Own (useC B L (labC L tid IOS) bor) w (labC L tid IOS) (.s true r.sz r.len r.cs) id [] u
  | [], [], us, [], xs, rds, ios, j0, a, b, hc, hr, ho, hio, hrd => by
    cases hc
    refine ⟨fun hpc j => by simp [initSl, Rep], fun j _ => by simp [initSl], fun id r hr => by simp [initHp] at hr⟩
  | .ro :: ks, v :: vs, us, cs, xs, rds, ios, j0, a, b, hc, hr, ho, hio, hrd => by
    cases us with
    | nil => simp [RepL] at hr
    | cons u us =>
      simp only [RepL] at hr
      unfold contsOf at hc
      split at hc
      · rename_i c rd xs' rds' ios' h1 h2
        cases hc
        obtain ⟨e1, e2, e3⟩ := start_go B h htid IOS bor ks vs us cs xs' rds' ios (j0 + 1) a b h2 hr.2 (by simpa [mvsOf] using ho) hio fun id hid => hrd id (by simp [hid])
        refine ⟨fun hpc j => ?_, fun j hj => ?_, e3⟩
        · cases j with
          | zero =>
            simp only [initSl, Nat.add_zero, if_pos, List.getElem?_cons_zero, Option.getD_some]
            refine snap_rep B _ h (fun b' hb' => useC_prot hb') hr.1 h1 fun id hid b' q hq => ⟨labC_other hq ?_ (hrd id (by simp [hid])).1, .inl (hrd id (by simp [hid])).2⟩
            rintro rfl
            exact snap_ids h1 _ hid htid
          | succ j =>
            have := e1 hpc j
            simp only [initSl, List.getElem?_cons_succ]
            rw [if_neg (by omega), show j0 + (j + 1) = j0 + 1 + j from by omega]
            exact this
        · simp only [initSl]
          rw [if_neg (by omega)]
          exact e2 j (by omega)
      · cases hc
  | .mv :: ks, v :: vs, us, [], xs, rds, ios, j0, a, b, hc, hr, ho, hio, hrd => by simp [contsOf] at hc
  | .mv :: ks, v :: vs, us, c :: cs, xs, rds, ios, j0, a, b, hc, hr, ho, hio, hrd => by
    cases us with
    | nil => simp [RepL] at hr
    | cons u us =>
      simp only [RepL] at hr
      simp only [contsOf, Option.map_eq_some_iff] at hc
      obtain ⟨⟨xs', rds', ios'⟩, h2, h3⟩ := hc
      cases h3
      simp only [mvsOf, OwnL] at ho
      obtain ⟨e1, e2, e3⟩ := start_go B h htid IOS bor ks vs us cs xs' rds' ios' (j0 + 1) (a + 1) b h2 hr.2 ho.2 hio hrd
      have hown : @Own (useC B L (labC L tid IOS) bor) w (labC L tid IOS) c (1, a) [] u := Own.moveU B _ c ([] ++ [a]) [] u (.inr fun b' hb' => ⟨useC_prot hb', rfl⟩) (fun b' q hq => ⟨labC_mv (by simpa using hq), rfl⟩) ho.1.2
      refine ⟨fun hpc j => ?_, fun j hj => ?_, fun id r hr' => ?_⟩
      · cases j with
        | zero =>
          simp only [initSl, Nat.add_zero, if_pos, List.getElem?_cons_zero, Option.getD_some]
          exact own_rootRef (by simp [lt3]) hown
        | succ j =>
          have := e1 hpc j
          simp only [initSl, List.getElem?_cons_succ]
          rw [if_neg (by omega), show j0 + (j + 1) = j0 + 1 + j from by omega]
          exact this
      · simp only [initSl]
        rw [if_neg (by omega)]
        exact e2 j (by omega)
      · simp only [initHp] at hr'
        split at hr'
        · rename_i hid
          subst hid
          exact ⟨by simp, u, own_rootOf hr' hown⟩
        · exact e3 id r hr'
  | .io :: ks, v :: vs, us, cs, xs, rds, ios, j0, a, b, hc, hr, ho, hio, hrd => by
    cases us with
    | nil => simp [RepL] at hr
    | cons u us =>
      simp only [RepL] at hr
      simp only [contsOf] at hc
      split at hc
      · rename_i id ver
        split at hc
        · rename_i r hid
          split at hc
          · rename_i hlen
            simp only [Option.map_eq_some_iff] at hc
            obtain ⟨⟨xs', rds', ios'⟩, h2, h3⟩ := hc
            cases h3
            have hidt : id ≠ tid := by rintro rfl; rw [htid] at hid; cases hid
            obtain ⟨hpos, hpos2⟩ : posOf (idsOf IOS) id = some b ∧ IOS[b]? = some (id, []) := by simpa using hio 0 (id, []) (by simp)
            obtain ⟨e1, e2, e3⟩ := start_go B h htid IOS bor ks vs us cs xs' _ ios' (j0 + 1) a (b + 1) h2 hr.2 (by simpa [mvsOf] using ho)
              (fun t id' ht => by rw [show b + 1 + t = b + (t + 1) from by omega]; exact hio (t + 1) id' (by simpa using ht)) hrd
            obtain ⟨u0, hu0⟩ := own_root1 h hid hlen
            have hown : @Own (useC B L (labC L tid IOS) bor) w (labC L tid IOS) (.s true r.cs.length 1 r.cs) (2, b) [] u0 :=
              Own.moveU B _ _ [] [] u0 (.inr fun b' hb' => ⟨useC_prot hb', rfl⟩) (fun b' q hq => ⟨labC_io (path := []) (by simpa using hq) hidt hpos hpos2, rfl⟩) hu0
            refine ⟨fun hpc j => ?_, fun j hj => ?_, fun id' r' hr' => ?_⟩
            · cases j with
              | zero =>
                simp only [initSl, Nat.add_zero, if_pos, List.getElem?_cons_zero, Option.getD_some]
                have hrep := hr.1
                simp only [Rep] at hrep ⊢
                obtain ⟨_, _, ad, rfl, h5⟩ := hrep
                obtain ⟨blk, rfl, h6⟩ := h5 (by simp [node, hid, verOk, getP])
                exact ⟨by simp [lt3], fun r _ c p hp => (by cases hp), _, rfl, fun _ => ⟨blk, rfl, labC_io (path := []) (by simpa using h6) hidt hpos hpos2⟩⟩
              | succ j =>
                have := e1 hpc j
                simp only [initSl, List.getElem?_cons_succ]
                rw [if_neg (by omega), show j0 + (j + 1) = j0 + 1 + j from by omega]
                exact this
            · simp only [initSl]
              rw [if_neg (by omega)]
              exact e2 j (by omega)
            · simp only [initHp] at hr'
              split at hr'
              · rename_i hid'
                subst hid'
                cases hr'
                exact ⟨by simp, u0, by simpa [newRoot, cellsA] using hown⟩
              · exact e3 id' r' hr'
          · cases hc
        · cases hc
      · cases hc
  | [], _ :: _, us, cs, xs, rds, ios, j0, a, b, hc, hr, ho, hio, hrd => by simp [contsOf] at hc
  | [], [], us, _ :: _, xs, rds, ios, j0, a, b, hc, hr, ho, hio, hrd => by simp [contsOf] at hc
  | .ro :: _, [], us, cs, xs, rds, ios, j0, a, b, hc, hr, ho, hio, hrd => by simp [contsOf] at hc
  | .mv :: _, [], us, cs, xs, rds, ios, j0, a, b, hc, hr, ho, hio, hrd => by simp [contsOf] at hc
  | .io :: _, [], us, cs, xs, rds, ios, j0, a, b, hc, hr, ho, hio, hrd => by simp [contsOf] at hc
  | .ln n :: ks, v :: vs, us, cs, xs, rds, ios, j0, a, b, hc, hr, ho, hio, hrd => by
    cases us with
    | nil => simp [RepL] at hr
    | cons u us =>
      simp only [RepL] at hr
      simp only [contsOf] at hc
      split at hc
      · rename_i c es hv
        split at hc
        · rename_i hn
          simp only [Option.map_eq_some_iff] at hc
          obtain ⟨⟨xs', rds', ios'⟩, h2, h3⟩ := hc
          cases h3
          obtain ⟨e1, e2, e3⟩ := start_go B h htid IOS bor ks vs us cs xs' _ ios' (j0 + 1) a (b + n) h2 hr.2 (by simpa [mvsOf] using ho)
            (fun t e' ht => by
              rw [show b + n + t = b + (n + t) from by omega]
              refine hio (n + t) e' ?_
              rw [List.getElem?_append_right (by omega), hn]
              simpa using ht) hrd
          obtain ⟨s1, s2⟩ := start_ln B h htid IOS bor hr.1 hv (b := b) fun t e' ht => hio t e' (by
            rw [List.getElem?_append_left (List.getElem?_eq_some_iff.1 ht).1]; exact ht)
          refine ⟨fun hpc j => ?_, fun j hj => ?_, fun id' r' hr' => ?_⟩
          · cases j with
            | zero =>
              simp only [initSl, Nat.add_zero, if_pos, List.getElem?_cons_zero, Option.getD_some]
              exact s1 hpc
            | succ j =>
              have := e1 hpc j
              simp only [initSl, List.getElem?_cons_succ]
              rw [if_neg (by omega), show j0 + (j + 1) = j0 + 1 + j from by omega]
              exact this
          · simp only [initSl]
            rw [if_neg (by omega)]
            exact e2 j (by omega)
          · simp only [initHp] at hr'
            split at hr'
            · rename_i r1 hr1
              cases hr'
              exact s2 id' r' hr1
            · exact e3 id' r' hr'
        · cases hc
      · cases hc
  | .ln _ :: _, [], us, cs, xs, rds, ios, j0, a, b, hc, hr, ho, hio, hrd => by simp [contsOf] at hc

end
end Go.TM
