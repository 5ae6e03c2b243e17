/- The tree machine, 13: how a call begins and ends. -/
import Derived.Test.YthikbhekdnmhbaaTm12
namespace Go.TM
set_option linter.unusedVariables false
set_option linter.unusedSimpArgs false

section
variable {w0 w w' : World} {L0 L L' : Lab} {U U' : Nat → Prop} {hp : Hp} {tid : Id} {m : Nat}

theorem start_h (B : Use) (h : HRel w0 L0 U' hp w L) (ios : List (Id × List Nat)) (bor : Bool) {hpc : Hp}
    (hr : ∀ id r, hpc id = some r → id.1 < 3 ∧ ∃ u, @Own (useC B L (labC L tid ios) bor) w (labC L tid ios) (.s true r.sz r.len r.cs) id [] u) :
    @HRel (useC B L (labC L tid ios) bor) w (labC L tid ios) lt3 hpc w (labC L tid ios) := by
  refine @HRel.mk (useC B L (labC L tid ios) bor) _ _ _ _ _ _ (fun id r h1 => (hr id r h1).2) (fun b b' i p hb hb' => ?_) (fun b hb => labC_free (h.free b hb)) (fun b i p hb => ?_) (fun id r h1 => (hr id r h1).1) (fun b hb => ⟨hb, rfl⟩) (Nat.le_refl _) rfl rfl rfl (fun b hb => .inr ⟨h.use b (fun hp => hb (labC_prot (h.prot b hp).1)), .inr hb⟩) (fun b c e f hb hc => h.frz b c e f (fun hp => hb (labC_prot (h.prot b hp).1)) hc)
  · rcases labC_at hb with ⟨k, rfl, e1⟩ | ⟨t, id, path, rfl, e1, e2, e3, e4⟩
    · rcases labC_at hb' with ⟨k', f1, f2⟩ | ⟨t', id', path', f1, _⟩
      · cases f1
        exact h.inj b b' _ _ e1 f2
      · cases f1
    · rcases labC_at hb' with ⟨k', f1, f2⟩ | ⟨t', id', path', f1, f2, f3, f4, f5⟩
      · cases f1
      · cases f1
        rw [e2] at f3
        cases f3
        exact h.inj b b' _ _ e4 f5
  · rcases labC_at hb with ⟨k, rfl, _⟩ | ⟨t, id, path, rfl, _⟩ <;> simp [lt3]

/-- The labels behind a call. -/
def labB (L Lc Lc' : Lab) (m : Nat) (ios : List (Id × List Nat)) : Lab := fun b => if Lc b = .prot then L b else match Lc' b with
  | .at i p => if i.1 = 0 then .at (m, i.2) p else if i.1 = 2 then (match ios[i.2]? with
      | some e => .at e.1 (e.2 ++ p)
      | none => .free) else .free
  | .prot => .prot
  | .free => .free

theorem labB_prot {Lc Lc' : Lab} {ios : List (Id × List Nat)} {b : Nat} (h : Lc b = .prot) : labB L Lc Lc' m ios b = L b := by simp [labB, h]
theorem labB_new {Lc Lc' : Lab} {ios : List (Id × List Nat)} {b k : Nat} {p : List Nat} (h : Lc b ≠ .prot) (h' : Lc' b = .at (0, k) p) : labB L Lc Lc' m ios b = .at (m, k) p := by simp [labB, h, h']
theorem labB_io {Lc Lc' : Lab} {ios : List (Id × List Nat)} {b t : Nat} {id : Id} {path p : List Nat} (h : Lc b ≠ .prot) (h' : Lc' b = .at (2, t) p) (ht : ios[t]? = some (id, path)) : labB L Lc Lc' m ios b = .at id (path ++ p) := by simp [labB, h, h', ht]
theorem labB_frz {Lc Lc' : Lab} {ios : List (Id × List Nat)} {b : Nat} (h : Lc b ≠ .prot) (h' : Lc' b = .prot) : labB L Lc Lc' m ios b = .prot := by simp [labB, h, h']
theorem labB_free {Lc Lc' : Lab} {ios : List (Id × List Nat)} {b : Nat} (h : Lc b ≠ .prot) (h' : Lc' b = .free) : labB L Lc Lc' m ios b = .free := by simp [labB, h, h']

theorem labB_at {Lc Lc' : Lab} {ios : List (Id × List Nat)} {b : Nat} {i : Id} {p : List Nat} (h : labB L Lc Lc' m ios b = .at i p) :
    (Lc b = .prot ∧ L b = .at i p) ∨ (Lc b ≠ .prot ∧ ∃ k, i = (m, k) ∧ Lc' b = .at (0, k) p) ∨ (Lc b ≠ .prot ∧ ∃ t path q, ios[t]? = some (i, path) ∧ p = path ++ q ∧ Lc' b = .at (2, t) q) := by
  unfold labB at h
  split at h
  · exact .inl ⟨by assumption, h⟩
  · rename_i hp
    split at h
    · rename_i i' p' hb
      split at h
      · rename_i h0
        cases h
        exact .inr (.inl ⟨hp, i'.2, rfl, by rw [hb]; congr 1; exact Prod.ext h0 rfl⟩)
      · split at h
        · rename_i h2
          split at h
          · rename_i e hid
            cases h
            exact .inr (.inr ⟨hp, i'.2, e.2, p', hid, rfl, by rw [hb]; congr 1; exact Prod.ext h2 rfl⟩)
          · cases h
        · cases h
    · cases h
    · cases h

theorem outs_ids : ∀ {ios : List (Id × List Nat)} {outs : List (List A)} {us : List (Id × Option Root)}, outsOf hp ios outs = some us → us.map (·.1) = idsOf ios ∧ ios.length = outs.length
  | [], [], us, h => by cases h; simp
  | e :: es, cs :: outs, us, h => by
    unfold outsOf at h
    split at h
    · rename_i r us' h1 h2
      split at h
      · split at h
        · cases h
          obtain ⟨e1, e2⟩ := outs_ids h2
          simp [e1, e2]
        · cases h
      · cases h
    · cases h
  | [], _ :: _, _, h => by cases h
  | _ :: _, [], _, h => by cases h

theorem outs_get : ∀ {ios : List (Id × List Nat)} {outs : List (List A)} {us : List (Id × Option Root)} (hp1 : Hp), outsOf hp ios outs = some us → nodupB (idsOf ios) = true → ∀ (t : Nat) (id : Id) (path : List Nat), ios[t]? = some (id, path) →
    ∃ r cs x, hp id = some r ∧ outs[t]? = some cs ∧ getP r.sz r.len r.cs path = some x ∧ cs.length = x.2.2.length ∧ applyH hp1 us id = some (lentRoot r path cs)
  | [], [], us, _, h, _, t, id, path, ht => by simp at ht
  | e :: es, cs :: outs, us, hp1, h, hn, t, id, path, ht => by
    unfold outsOf at h
    split at h
    · rename_i r us' h1 h2
      split at h
      · rename_i x hx
        split at h
        · rename_i hlen
          cases h
          simp only [List.map_cons, nodupB, Bool.and_eq_true, List.all_eq_true] at hn
          cases t with
          | zero =>
            simp at ht
            subst ht
            refine ⟨r, cs, x, h1, rfl, hx, hlen, ?_⟩
            have hno : id ∉ us'.map (·.1) := by
              rw [(outs_ids h2).1]
              intro hm
              have := hn.1 _ hm
              simp at this
            change applyH (upd hp1 id _) us' id = _
            rw [applyH_other _ _ hno, upd_same]
          | succ t =>
            obtain ⟨r', cs', x', e1, e2, e3, e4, e5⟩ := outs_get (upd hp1 e.1 (some (lentRoot r e.2 cs))) h2 hn.2 t id path (by simpa using ht)
            exact ⟨r', cs', x', e1, by simpa using e2, e3, e4, e5⟩
        · cases h
      · cases h
    · cases h
  | [], _ :: _, _, _, h, _, _, _, _, _ => by cases h
  | _ :: _, [], _, _, h, _, _, _, _, _ => by cases h

/-- What is put at a node is put there alone. -/
theorem modP_at (f g : List A → List A) : ∀ (path : List Nat) (sz len : Nat) (cs : List A), (∀ x, getP sz len cs path = some x → f x.2.2 = g x.2.2) → modP f path cs = modP g path cs
  | [], sz, len, cs, h => by simpa [modP] using h (sz, len, cs) rfl
  | k :: path, sz, len, cs, h => by
    simp only [modP]
    split
    · rename_i sz' len' cs' hk
      rw [modP_at f g path sz' len' cs' fun x hx => h x (by simp only [getP, hk]; exact hx)]
    · rfl

theorem lent_shape {path : List Nat} (f : List A → List A) {sz len : Nat} {cs : List A} {x : Nat × Nat × List A} (h : getP sz len cs path = some x) : getP sz len (modP f path cs) path = some (x.1, x.2.1, f x.2.2) := by
  induction path generalizing sz len cs with
  | nil => simp [getP] at h; subst h; simp [getP, modP]
  | cons k path ih =>
    simp only [getP] at h
    split at h
    · rename_i sz' len' cs' hk
      have hlt : k < cs.length := (List.getElem?_eq_some_iff.1 hk).1
      simp only [modP, hk, getP, List.getElem?_set_self hlt]
      exact ih h
    · cases h

theorem modP_ne (f : List A → List A) {sz len : Nat} {cs : List A} {path : List Nat} {k : Nat} (c : Nat) (q : List Nat) (h : c ≠ k) : getP sz len (modP f (k :: path) cs) (c :: q) = getP sz len cs (c :: q) := by
  simp only [modP]
  split
  · simp only [getP]
    rw [List.getElem?_set_ne (fun e => h e.symm)]
  · rfl

/-- The lent array of a root has been turned. -/
theorem own_lent (B' B : Use) {w w' : World} {L L' Lc' : Lab} {id tid' : Id} {path : List Nat} {r : Root} {cs : List A} {x : Nat × Nat × List A} {u : Value}
    (hprot : ∀ b, L b = .prot → L' b = .prot ∧ w'.heap[b]? = w.heap[b]?) (hg : getP r.sz r.len r.cs path = some x) (hlen : cs.length = x.2.2.length)
    (hout : ∀ b q, L b = .at id q → ¬ path <+: q → L' b = .at id q ∧ w'.heap[b]? = w.heap[b]?)
    (hsz : ∀ b, L b = .at id path → Lc' b = .at tid' [] ∧ ∀ cur e, w.heap[b]? = some (.cells cur e (0, 0)) → ∃ cur', w'.heap[b]? = some (.cells cur' e (0, 0)) ∧ cur'.size = cur.size)
    (hinj : ∀ b b', Lc' b = .at tid' [] → Lc' b' = .at tid' [] → b = b')
    (hin : ∀ b q, Lc' b = .at tid' q → L' b = .at id (path ++ q)) (hcl : cleanL cs = true ∨ ∀ b, @isProt B' Lc' b → @isProt B L' b)
    {u' : Value} (hc : @Own B' w' Lc' (.s true x.1 x.2.1 cs) tid' [] u') (ho : Own w L (.s true r.sz r.len r.cs) id [] u) : Own w' L' (.s true r.sz r.len (lentRoot r path cs).cs) id [] u := by
  have e : (lentRoot r path cs).cs = modP (fun y => if y.length = cs.length then cs else y) path r.cs := by
    refine modP_at _ _ path r.sz r.len r.cs fun y hy => ?_
    rw [hg] at hy
    cases hy
    rw [if_pos hlen.symm]
  rw [e]
  refine Own.modP hprot _ (by cases cs <;> simp) path [] r.sz r.len r.cs u (fun b q hq hnp => by simpa using hout b q (by simpa using hq) hnp) (fun sz' len' cs' b cur et hg' hb hcur hol => ?_) ho
  rw [hg] at hg'
  cases hg'
  simp only [List.nil_append] at hb hol ⊢
  obtain ⟨f1, f2⟩ := hsz b hb
  obtain ⟨cur', f3, f4⟩ := f2 cur et hcur
  refine ⟨by simpa using hin b [] f1, cur', f3, f4, by rw [if_pos hlen.symm]; exact hlen, ?_⟩
  rw [if_pos hlen.symm]
  simp only [Own] at hc
  rcases hc with ⟨_, _, rfl⟩ | ⟨b', cur2, e2, cap, g1, g2, g3, g4, g5, g6, g7, g8⟩
  · simp [OwnL]
  · obtain rfl := hinj b b' f1 g2
    rw [f3] at g3
    cases g3
    have := OwnL.moveU B' B cs [] path 0 cur'.toList (hcl.imp (fun h => h) fun h b hb => ⟨h b hb, rfl⟩) (fun b q hq => ⟨hin b q (by simpa using hq), rfl⟩) g8
    exact this

theorem owns_move (B1 B2 : Use) {m1 m2 : Nat} : ∀ (cs : List A) (k : Nat) (us : List Value), (cleanL cs = true ∨ ∀ b, @isProt B1 L b → @isProt B2 L' b) → (∀ b j q, L b = .at (m1, j) q → L' b = .at (m2, j) q) →
    @Owns B1 w L m1 k cs us → @Owns B2 w L' m2 k cs us
  | [], k, [], _, _, _ => by simp [Owns]
  | c :: cs, k, u :: us, hc, hl, h => by
    simp only [Owns] at h ⊢
    exact ⟨⟨h.1.1, Own.moveU B1 B2 c [] [] u (hc.imp (fun e => by simp [cleanL] at e; exact e.1) fun e b hb => ⟨e b hb, rfl⟩) (fun b q hq => ⟨hl b k _ hq, rfl⟩) h.1.2⟩,
      owns_move B1 B2 cs (k + 1) us (hc.imp (fun e => by simp [cleanL] at e; exact e.2) fun e => e) hl h.2⟩
  | [], _, _ :: _, _, _, h => by simp [Owns] at h
  | _ :: _, _, [], _, _, h => by simp [Owns] at h

theorem res1_move (B1 B2 : Use) {m1 m2 : Nat} (r : A) (k : Nat) (u : Value) (hc : cleanA r = true ∨ ∀ b, @isProt B1 L b → @isProt B2 L' b) (hl : ∀ b j q, L b = .at (m1, j) q → L' b = .at (m2, j) q)
    (h : @Res1 B1 w L m1 k r u) : @Res1 B2 w L' m2 k r u := by
  cases r with
  | agg xs =>
    simp only [Res1] at h ⊢
    obtain ⟨us, rfl, h⟩ := h
    exact ⟨us, rfl, owns_move B1 B2 xs k _ (hc.imp (fun e => by simpa [cleanA] using e) fun e => e) hl h⟩
  | ep cs =>
    simp only [Res1] at h ⊢
    obtain ⟨b, cap, rfl, h1, h2⟩ := h
    exact ⟨b, cap, rfl, hl _ _ _ h1, Own.moveU B1 B2 _ [] [] _ (hc.imp (fun e => by simpa [cleanA] using e) fun e b hb => ⟨e b hb, rfl⟩) (fun b q hq => ⟨hl b k _ hq, rfl⟩) h2⟩
  | tup xs => simp [Res1] at h
  | _ =>
    simp only [Res1] at h ⊢
    exact ⟨h.1, Own.moveU B1 B2 _ [] [] u (hc.imp (fun e => e) fun e b hb => ⟨e b hb, rfl⟩) (fun b q hq => ⟨hl b k _ hq, rfl⟩) h.2⟩

theorem resT_move (B1 B2 : Use) {m1 m2 : Nat} (hl : ∀ b j q, L b = .at (m1, j) q → L' b = .at (m2, j) q) : ∀ (cs : List A) (k : Nat) (us : List Value), (cleanL cs = true ∨ ∀ b, @isProt B1 L b → @isProt B2 L' b) →
    @ResT B1 w L m1 k cs us → @ResT B2 w L' m2 k cs us
  | [], k, [], _, _ => by simp [ResT]
  | c :: cs, k, u :: us, hc, h => by
    simp only [ResT] at h ⊢
    exact ⟨res1_move B1 B2 c k u (hc.imp (fun e => by simp [cleanL] at e; exact e.1) fun e => e) hl h.1, resT_move B1 B2 hl cs _ us (hc.imp (fun e => by simp [cleanL] at e; exact e.2) fun e => e) h.2⟩
  | [], _, _ :: _, _, h => by simp [ResT] at h
  | _ :: _, _, [], _, h => by simp [ResT] at h

theorem resOwn_move (B1 B2 : Use) {m1 m2 : Nat} (r : A) (u : Value) (hc : cleanA r = true ∨ ∀ b, @isProt B1 L b → @isProt B2 L' b) (hl : ∀ b j q, L b = .at (m1, j) q → L' b = .at (m2, j) q)
    (h : @ResOwn B1 w L m1 r u) : @ResOwn B2 w L' m2 r u := by
  unfold ResOwn at h ⊢
  split at h
  · obtain ⟨us, rfl, h⟩ := h
    exact ⟨us, rfl, resT_move B1 B2 hl _ 0 _ (hc.imp (fun e => by simpa [cleanA] using e) fun e => e) h⟩
  · exact res1_move B1 B2 r 0 u hc hl h

end
end Go.TM
