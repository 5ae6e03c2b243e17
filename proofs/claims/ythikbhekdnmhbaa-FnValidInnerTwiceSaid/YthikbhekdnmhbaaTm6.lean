/- The tree machine, 6: cells of a root are written. -/
import Derived.Test.YthikbhekdnmhbaaTm5
namespace Go.TM
set_option linter.unusedVariables false
set_option linter.unusedSimpArgs false

theorem setR_length [Use] : ∀ (vs : List A) (off : Nat) (cs : List A), (setR off vs cs).length = cs.length
  | [], _, _ => rfl
  | v :: vs, off, cs => by simp [setR, setR_length vs (off + 1)]

theorem setR_get [Use] : ∀ (vs : List A) (off : Nat) (cs : List A) (j : Nat), (setR off vs cs)[j]? = if off ≤ j ∧ j < off + vs.length ∧ j < cs.length then vs[j - off]? else cs[j]?
  | [], off, cs, j => by rw [if_neg (by simp; omega)]; rfl
  | v :: vs, off, cs, j => by
    simp only [setR]
    rw [setR_get vs (off + 1) (cs.set off v) j]
    simp only [List.length_set, List.length_cons]
    by_cases h1 : off + 1 ≤ j ∧ j < off + 1 + vs.length ∧ j < cs.length
    · rw [if_pos h1, if_pos (by omega)]
      rw [show j - off = (j - (off + 1)) + 1 from by omega, List.getElem?_cons_succ]
    · rw [if_neg h1]
      by_cases h2 : j = off
      · subst h2
        by_cases h3 : j < cs.length
        · rw [if_pos ⟨Nat.le_refl _, by omega, h3⟩, List.getElem?_set_self h3]
          simp
        · rw [if_neg (by omega)]
          simp [List.getElem?_eq_none (Nat.le_of_not_lt h3)]
          omega
      · rw [List.getElem?_set_ne (fun e => h2 e.symm), if_neg (by omega)]

section
variable {P : Program} {T : Nat → Option TI} {w0 : World} {L0 : Lab} {U : Nat → Prop} {w w' : World} {L L' : Lab} {hp : Hp}

/-- The cells of the node at a path are turned. -/
theorem Own.modP [Use] {id : Id} (hp : ∀ b, L b = .prot → L' b = .prot ∧ w'.heap[b]? = w.heap[b]?) (f : List A → List A) (hf0 : f [] = []) : ∀ (path p : List Nat) (sz len : Nat) (cs : List A) (u : Value),
    (∀ b q, L b = .at id (p ++ q) → ¬ path <+: q → L' b = .at id (p ++ q) ∧ w'.heap[b]? = w.heap[b]?) →
    (∀ sz' len' cs' b cur e, TM.getP sz len cs path = some (sz', len', cs') → L b = .at id (p ++ path) → w.heap[b]? = some (.cells cur e (0, 0)) → OwnL w L cs' id (p ++ path) 0 cur.toList →
      L' b = .at id (p ++ path) ∧ ∃ cur', w'.heap[b]? = some (.cells cur' e (0, 0)) ∧ cur'.size = cur.size ∧ (f cs').length = cs'.length ∧ OwnL w' L' (f cs') id (p ++ path) 0 cur'.toList) →
    Own w L (.s true sz len cs) id p u → Own w' L' (.s true sz len (TM.modP f path cs)) id p u
  | [], p, sz, len, cs, u, hout, hin, hi => by
    simp only [Own, TM.modP] at hi ⊢
    rcases hi with ⟨h1, h2, rfl⟩ | ⟨b, cur, e, cap, h1, h2, h3, h4, h5, h6, h7, h8⟩
    · exact .inl ⟨h1, h2, hf0⟩
    · obtain ⟨g1, cur', g2, g3, g4, g5⟩ := hin sz len cs b cur e (by simp [TM.getP]) (by simpa using h2) h3 (by simpa using h8)
      exact .inr ⟨b, cur', e, cap, h1, by simpa using g1, g2, by omega, h5, h6, by omega, by simpa using g5⟩
  | k :: path, p, sz, len, cs, u, hout, hin, hi => by
    simp only [Own, TM.modP] at hi ⊢
    rcases hi with ⟨h1, h2, rfl⟩ | ⟨b, cur, e, cap, h1, h2, h3, h4, h5, h6, h7, h8⟩
    · exact .inl ⟨h1, h2, by simp⟩
    · have hb := hout b [] (by simpa using h2) (by simp)
      refine .inr ⟨b, cur, e, cap, h1, by simpa using hb.1, hb.2.trans h3, h4, h5, h6, by split <;> simpa using h7, ?_⟩
      refine OwnL.intro _ _ _ fun j c hc => ?_
      have other : ∀ c, cs[j]? = some c → j ≠ k → ∃ u, cur.toList[j]? = some u ∧ u.oneCell' = true ∧ Own w' L' c id (p ++ [0 + j]) u := by
        intro c hc hj
        obtain ⟨u', e1, e2, e3⟩ := OwnL.get cs 0 _ h8 j c hc
        refine ⟨u', e1, e2, Own.move hp c _ _ u' (fun b q hq => ?_) e3⟩
        simp only [List.append_assoc] at hq ⊢
        exact hout b _ hq (by simp; intro h; exact (hj (by omega)).elim)
      split at hc
      · rename_i sz' len' cs' hk
        by_cases hj : j = k
        · subst hj
          have hlt : j < cs.length := (List.getElem?_eq_some_iff.1 hk).1
          rw [List.getElem?_set_self hlt] at hc
          cases hc
          obtain ⟨u', e1, e2, e3⟩ := OwnL.get cs 0 _ h8 j _ hk
          refine ⟨u', e1, e2, ?_⟩
          refine Own.modP hp f hf0 path _ sz' len' cs' u' (fun b q hq hnp => ?_) (fun sz2 len2 cs2 b2 cur2 ee hg hl hh ho => ?_) e3
          · simp only [List.append_assoc] at hq ⊢
            exact hout b _ hq (by simpa using hnp)
          · have := hin sz2 len2 cs2 b2 cur2 ee (by simp only [TM.getP, hk]; exact hg) (by simpa using hl) hh (by simpa using ho)
            simpa using this
        · rw [List.getElem?_set_ne (fun e => hj e.symm)] at hc
          exact other c hc hj
      · rename_i hno
        by_cases hj : j = k
        · subst hj
          obtain ⟨u', e1, e2, e3⟩ := OwnL.get cs 0 _ h8 j c hc
          refine ⟨u', e1, e2, Own.flat hp ?_ e3⟩
          match c, hno with
          | .s true sz' len' cs', hno => exact (hno _ _ _ hc).elim
          | .i .., _ => rfl
          | .b .., _ => rfl
          | .s false .., _ => rfl
          | .und, _ => rfl
          | .ref .., _ => rfl
          | .ptr .., _ => rfl
          | .ep _, _ => rfl
          | .agg _, _ => rfl
          | .tup _, _ => rfl
        · exact other c hc hj

/-- Where the turned cells bear no owned array, no node comes into being. -/
theorem getP_modP [Use] (f : List A → List A) : ∀ (path : List Nat) (sz len : Nat) (cs : List A) (q : List Nat),
    (∀ (cs' : List A) (j : Nat) (s' l' : Nat) (c' : List A), (f cs')[j]? = some (.s true s' l' c') → cs'[j]? = some (.s true s' l' c') ∧ True) →
    getP sz len (TM.modP f path cs) q ≠ none → getP sz len cs q ≠ none
  | [], sz, len, cs, [], hf, _ => by simp [getP]
  | [], sz, len, cs, c :: q, hf, hg => by
    simp only [TM.modP, getP] at hg ⊢
    split at hg
    · rename_i s' l' c' hc
      rw [(hf cs c s' l' c' hc).1]
      exact hg
    · exact (hg rfl).elim
  | k :: path, sz, len, cs, [], hf, _ => by simp [getP]
  | k :: path, sz, len, cs, c :: q, hf, hg => by
    simp only [TM.modP] at hg
    split at hg
    · rename_i sz' len' cs' hk
      simp only [getP] at hg ⊢
      by_cases hck : c = k
      · subst hck
        have hlt : c < cs.length := (List.getElem?_eq_some_iff.1 hk).1
        rw [List.getElem?_set_self hlt] at hg
        simp only at hg
        rw [hk]
        exact getP_modP f path sz' len' cs' q hf hg
      · rw [List.getElem?_set_ne (fun e => hck e.symm)] at hg
        exact hg
    · exact hg

/-- ... and none lies behind a cell that has been turned. -/
theorem getP_setR_no [Use] {off : Nat} {vs : List A} (hvs : ∀ v ∈ vs, isOwnS v = false) : ∀ (path : List Nat) (sz len : Nat) (cs : List A) (j : Nat) (q : List Nat), off ≤ j → j < off + vs.length →
    getP sz len (TM.modP (setR off vs) path cs) (path ++ j :: q) = none
  | [], sz, len, cs, j, q, h1, h2 => by
    simp only [TM.modP, List.nil_append, getP]
    rw [setR_get]
    split
    · rename_i s' l' c' hc
      split at hc
      · have := hvs _ (List.mem_of_getElem? hc)
        simp [isOwnS] at this
      · rename_i hn
        have : cs.length ≤ j := by omega
        rw [List.getElem?_eq_none this] at hc
        cases hc
    · rfl
  | k :: path, sz, len, cs, j, q, h1, h2 => by
    simp only [TM.modP, List.cons_append, getP]
    split
    · rename_i s' l' c' hc
      split at hc
      · rename_i sz' len' cs' hk
        have hlt : k < cs.length := (List.getElem?_eq_some_iff.1 hk).1
        rw [List.getElem?_set_self hlt] at hc
        cases hc
        exact getP_setR_no hvs path _ _ cs' j q h1 h2
      · rename_i hno
        exact (hno _ _ _ hc).elim
    · rfl

theorem setR_own [Use] {off : Nat} {vs : List A} (hvs : ∀ v ∈ vs, isOwnS v = false) (cs' : List A) (j s' l' : Nat) (c' : List A) (h : (setR off vs cs')[j]? = some (.s true s' l' c')) : cs'[j]? = some (.s true s' l' c') ∧ True := by
  rw [setR_get] at h
  split at h
  · have := hvs _ (List.mem_of_getElem? h)
    simp [isOwnS] at this
  · exact ⟨h, trivial⟩

/-- Away from the turned cells a node is found as before. -/
theorem getP_modP_ne [Use] {off : Nat} {vs : List A} (sz len : Nat) (cs : List A) : ∀ (path : List Nat) (c : Nat) (q : List Nat), (match path with | [] => ¬ (off ≤ c ∧ c < off + vs.length) | k :: _ => c ≠ k) →
    getP sz len (TM.modP (setR off vs) path cs) (c :: q) = getP sz len cs (c :: q)
  | [], c, q, h => by
    simp only [TM.modP, getP]
    rw [setR_get, if_neg (fun hh => h ⟨hh.1, hh.2.1⟩)]
  | k :: path, c, q, h => by
    simp only [TM.modP]
    split
    · simp only [getP]
      rw [List.getElem?_set_ne (fun e => h e.symm)]
    · rfl

theorem close_okPart [Use] {v : A} {r : List A × List (Id × Option Root) × List Id} (h : closeL hp (cellsA v) = some r) : okPart v = true := by
  cases v <;> simp_all [okPart, cellsA, closeL, close1]

theorem run_storeVar' [Use] {t : Nat} {ti : TI} (ht : TIok P t ti) {b off : Nat} {cur : Array Value} {e : Nat} {vu : Value} (hb : w.heap[b]? = some (.cells cur e (0, 0))) (hsz : vu.cells.size = ti.sz) (hfit : off + ti.sz ≤ cur.size)
    (h1 : ∀ u ∈ vu.cells.toList, u.oneCell' = true) :
    (storeVar t ⟨b, off, none⟩ vu).run P w = .ok () (w.setRow b (cur.toList.take off ++ vu.cells.toList ++ cur.toList.drop (off + ti.sz)).toArray) := by
  have := run_storeCells_at P b off e vu.cells.toList 0 cur w hb (by simp; omega) h1
  unfold storeVar
  simp only [Sem.run_bind, run_sizeOf' ht, Result.andThen_ok, hsz, ne_eq, not_true_eq_false, if_false]
  simp only [Nat.add_zero, Array.length_toList, hsz] at this
  simpa using this

open Classical in
/-- The labels behind a store: what lay under the written cells is let go; what was held ready goes there. -/
noncomputable def relabS (L : Lab) (tmp id : Id) (path : List Nat) (off n : Nat) : Lab := fun b => match L b with
  | .at i p => if i = tmp then .at id (path ++ p) else if i = id ∧ (∃ j q, p = path ++ j :: q ∧ off ≤ j ∧ j < off + n) then .free else .at i p
  | x => x

open Classical in
theorem relabS_cases [Use] (L : Lab) (tmp id : Id) (path : List Nat) (off n : Nat) (b : Nat) :
    (∃ p, L b = .at tmp p ∧ relabS L tmp id path off n b = .at id (path ++ p)) ∨
    (∃ j q, L b = .at id (path ++ j :: q) ∧ id ≠ tmp ∧ off ≤ j ∧ j < off + n ∧ relabS L tmp id path off n b = .free) ∨
    ((∀ p, L b ≠ .at tmp p) ∧ (∀ j q, off ≤ j → j < off + n → L b ≠ .at id (path ++ j :: q)) ∧ relabS L tmp id path off n b = L b) := by
  unfold relabS
  cases hL : L b with
  | free => exact .inr (.inr ⟨by simp, by simp, rfl⟩)
  | prot => exact .inr (.inr ⟨by simp, by simp, rfl⟩)
  | «at» i p =>
    simp only
    by_cases h1 : i = tmp
    · subst h1
      exact .inl ⟨p, rfl, by simp⟩
    · rw [if_neg h1]
      by_cases h2 : i = id ∧ (∃ j q, p = path ++ j :: q ∧ off ≤ j ∧ j < off + n)
      · rw [if_pos h2]
        obtain ⟨rfl, j, q, rfl, h3, h4⟩ := h2
        exact .inr (.inl ⟨j, q, rfl, h1, h3, h4, rfl⟩)
      · rw [if_neg h2]
        refine .inr (.inr ⟨fun p' hp' => ?_, fun j q h3 h4 hh => ?_, rfl⟩)
        · cases hp'
          exact h1 rfl
        · cases hh
          exact h2 ⟨rfl, j, q, rfl, h3, h4⟩

theorem bumpR_nil [Use] (f : Nat → Nat) (off n k : Nat) : bumpR f [] off n k = if off ≤ k ∧ k < off + n then f k + 1 else f k := rfl
theorem bumpR_cons [Use] (f : Nat → Nat) (c : Nat) (p : List Nat) (off n k : Nat) : bumpR f (c :: p) off n k = if k = c then f k + 1 else f k := rfl
theorem le_bumpR [Use] (f : Nat → Nat) (path : List Nat) (off n k : Nat) : f k ≤ bumpR f path off n k := by
  cases path with
  | nil => rw [bumpR_nil]; split <;> omega
  | cons c p => rw [bumpR_cons]; split <;> omega

theorem applyH_other {i : Id} : ∀ (l : List (Id × Option Root)) (hp1 : Hp), i ∉ l.map (·.1) → applyH hp1 l i = hp1 i
  | [], _, _ => rfl
  | z :: zs, hp1, hz => by
    simp only [List.map_cons, List.mem_cons, not_or] at hz
    show applyH (upd hp1 z.1 z.2) zs i = _
    rw [applyH_other zs _ hz.2, upd_ne _ _ _ _ hz.1]

theorem applyH_used : ∀ (l : List (Id × Option Root)) (hp1 : Hp), (∀ i r, hp1 i = some r → U i.1) → (∀ i ∈ l.map (·.1), U i.1) → ∀ i r, applyH hp1 l i = some r → U i.1
  | [], _, h1, _, i, r, hr => h1 i r hr
  | z :: zs, hp1, h1, hz, i, r, hr => by
    refine applyH_used zs (upd hp1 z.1 z.2) (fun i r hr => ?_) (fun i hi => hz i (by simp at hi ⊢; exact .inr hi)) i r hr
    by_cases hiz : i = z.1
    · subst hiz; exact hz _ (by simp)
    · rw [upd_ne _ _ _ _ hiz] at hr; exact h1 i r hr

theorem close1_used [Use] {x c : A} {u : List (Id × Option Root)} {rd : List Id} (h0 : ∀ i r, hp i = some r → U i.1) (hc : close1 hp x = some (c, u, rd)) : ∀ i ∈ u.map (·.1), U i.1 := by
  unfold close1 at hc
  split at hc
  · cases hc; simp
  · cases hc; simp
  · cases hc; simp
  · cases hc; simp
  · split at hc
    · cases hc
    · rename_i r1 hr1
      split at hc
      · split at hc
        · split at hc
          · cases hc
            simp only [List.map_cons, List.map_nil, List.mem_singleton]
            rintro i rfl
            exact h0 _ _ hr1
          · cases hc
        · cases hc
      · cases hc
  · cases hc

theorem closeL_used [Use] : ∀ (xs : List A) (hp0 : Hp) (cs : List A) (us : List (Id × Option Root)) (rd : List Id), (∀ i r, hp0 i = some r → U i.1) → closeL hp0 xs = some (cs, us, rd) → ∀ i ∈ us.map (·.1), U i.1
  | [], _, _, _, _, _, hc => by simp [closeL] at hc; obtain ⟨_, rfl, _⟩ := hc; simp
  | y :: ys, hp0, cs, us, rd, h0, hc => by
    simp only [closeL] at hc
    split at hc
    · cases hc
    · rename_i c1 u1 rd1 hc1
      split at hc
      · cases hc
      · rename_i cs2 u2 rd2 hc2
        cases hc
        have hu1 := close1_used h0 hc1
        intro i hi
        simp only [List.map_append, List.mem_append] at hi
        rcases hi with hi | hi
        · exact hu1 i hi
        · exact closeL_used ys _ cs2 u2 rd2 (applyH_used u1 hp0 h0 hu1) hc2 i hi

theorem setRow_frz {w : World} {g b : Nat} {cs c : Array Value} {e : Nat} {f : Nat × Nat} (h : (w.setRow g cs).heap[b]? = some (.cells c e f)) : ∃ c', w.heap[b]? = some (.cells c' e f) := by
  simp only [World.setRow, Array.getElem?_modify] at h
  split at h
  · cases hb : w.heap[b]? with
    | none => rw [hb] at h; cases h
    | some o =>
      rw [hb] at h
      cases o with
      | cells c1 e1 f1 => simp at h; obtain ⟨_, rfl, rfl⟩ := h; exact ⟨c1, rfl⟩
      | _ => simp at h
  · exact ⟨c, h⟩

theorem store_ok [Use] (hT : TabOk P T) (h : HRel w0 L0 U hp w L) {m : Nat} (hm : ¬ U m) {t : Nat} {ti : TI} (ht : T t = some ti) {x v : A} {xu vu : Value} {e : Eff} (hx : Rep U w L hp x xu) (hv : Rep U w L hp v vu) (he : storeA ti hp x v = some e) :
    ∃ w' L', (Instr.storeAt t xu vu).run P w = .ok () w' ∧ HRel w0 L0 (addU U m) (applyH hp e.ups) w' L' ∧ Keeps U w L hp (addU U m) w' L' (applyH hp e.ups) ∧ e.val = .und := by
  have hti := hT t ti ht
  unfold storeA at he
  split at he
  · rename_i id path ver off
    split at he
    · rename_i sz len ncs cs us rd hn hcl
      split at he
      · rename_i hcond
        obtain ⟨hcsl, hti0, hfit, hids⟩ := hcond
        split at he
        · cases he
        · rename_i r hr
          cases he
          obtain ⟨hUid, hvl, b, rfl, hLb⟩ := valid_ptr hx (by simp [hn])
          have hcells := rep_cells hv (close_okPart hcl)
          have hU' : ∀ k, U k → addU U m k := fun k hk => .inl hk
          have h' : HRel w0 L0 (addU U m) hp w L := h.mono hU'
          have hk0 : Keeps U w L hp (addU U m) w L hp := ⟨hU', fun _ h => ⟨h, rfl⟩, fun _ r h _ => ⟨r, h, fun _ => Nat.le_refl _⟩, fun _ _ _ _ _ h => ⟨h, fun _ hb => ⟨hb, fun cur _ hc => ⟨cur, hc, rfl⟩⟩⟩⟩
          have htmpU : (m, 999).1 = m := rfl
          have hnoL : ∀ b p, L b ≠ .at (m, 999) p := fun b p hb => hm (h.used b _ p hb)
          have htmpups : (m, 999) ∉ us.map (·.1) := fun hmem => hm (closeL_used _ _ _ _ _ h.usedR hcl _ hmem)
          obtain ⟨L2, g1, g2, g3, g4, g5, g6⟩ := closeL_ok (w0 := w0) (L0 := L0) (U := addU U m) (w := w) (m, 999) [] (.inr rfl) (cellsA v) vu.cells.toList off hp L cs us rd h'
            (RepL.mono hk0 _ _ hcells) hcl htmpups (fun b j q _ _ => hnoL b _)
          have hL2b : L2 b = .at id path := by
            rw [g4.keep b fun i p hip => by rw [hLb] at hip; cases hip; exact hids]
            exact hLb
          have hnlen : vu.cells.size = ti.sz := by rw [← hcsl, g5]; simpa using g6
          have hr2 : applyH hp us id = some r := by
            rw [applyH_other us hp hids]
            exact hr
          have hvok := node_root hr (ver := ver) (path := path) (by simp [hn])
          have hgp : TM.getP r.sz r.len r.cs path = some (sz, len, ncs) := by
            unfold node at hn
            rw [hr] at hn
            simpa [hvok] using hn
          -- the block
          obtain ⟨u0, hu0⟩ := g1.roots id r hr2
          have hn2 : node (applyH hp us) id path ver = some (sz, len, ncs) := by simp [node, hr2, hvok, hgp]
          · have hne : ncs ≠ [] := by
              rintro rfl
              obtain ⟨u, hu⟩ := h.node hn
              simp only [Own] at hu
              rcases hu with ⟨_, rfl, _⟩ | ⟨b', cur, e, cap, k1, k2, k3, k4, k5, k6, k7, k8⟩
              · simp at hfit; omega
              · simp at k7; omega
            obtain ⟨cur, ee, cap, k3, k4, k5, k6, k7, k8⟩ := g1.block hn2 hL2b hne
            have hcap : len * sz ≤ cap * sz := Nat.mul_le_mul_right sz k5
            have hone : ∀ u ∈ vu.cells.toList, u.oneCell' = true := by
              intro u hu
              obtain ⟨j, hj⟩ := List.getElem?_of_mem hu
              have hjl : j < cs.length := by
                have := (List.getElem?_eq_some_iff.1 hj).1
                omega
              obtain ⟨u', e1, e2, _⟩ := OwnL.get cs off _ g2 j _ (List.getElem?_eq_getElem hjl)
              rw [hj] at e1
              cases e1
              exact e2
            have hrun := run_storeVar' (P := P) (w := w) (off := off) hti k3 hnlen (by omega) hone
            generalize hcur' : (cur.toList.take off ++ vu.cells.toList ++ cur.toList.drop (off + ti.sz)).toArray = cur' at hrun
            have hcur'sz : cur'.size = cur.size := by rw [← hcur']; simp; omega
            have hcur'get : ∀ j, cur'.toList[j]? = if off ≤ j ∧ j < off + ti.sz then vu.cells.toList[j - off]? else cur.toList[j]? := by
              intro j
              rw [← hcur']
              simp only
              by_cases hj : off ≤ j ∧ j < off + ti.sz
              · rw [if_pos hj, List.append_assoc, List.getElem?_append_right (by simp; omega), List.getElem?_append_left (by simp; omega)]
                congr 1
                simp
                omega
              · rw [if_neg hj]
                by_cases hj2 : j < off
                · rw [List.append_assoc, List.getElem?_append_left (by simp; omega)]
                  simp [List.getElem?_take, hj2]
                · rw [List.getElem?_append_right (by simp; omega)]
                  simp
                  congr 1
                  omega
            have hwb : (w.setRow b cur').heap[b]? = some (.cells cur' ee (0, 0)) := setRow_heap w b cur cur' ee _ k3
            have hwo : ∀ b', b' ≠ b → (w.setRow b cur').heap[b']? = w.heap[b']? := fun b' hb' => setRow_other w b b' cur' hb'
            have hwsz : (w.setRow b cur').heap.size = w.heap.size := by simp [World.setRow]
            -- the new labels
            have hidtmp : id ≠ (m, 999) := by rintro rfl; exact hm hUid
            have hLprot : ∀ b', L2 b' = .prot → relabS L2 (m, 999) id path off ti.sz b' = .prot ∧ (w.setRow b cur').heap[b']? = w.heap[b']? := by
              intro b' hb'
              refine ⟨?_, hwo b' (by rintro rfl; rw [hL2b] at hb'; cases hb')⟩
              rcases relabS_cases L2 (m, 999) id path off ti.sz b' with ⟨p, e1, e2⟩ | ⟨j, q, e1, _⟩ | ⟨_, _, e2⟩
              · rw [hb'] at e1; cases e1
              · rw [hb'] at e1; cases e1
              · rw [e2]; exact hb'
            have hLkeep : ∀ b' i p, L2 b' = .at i p → i ≠ (m, 999) → (i = id → ¬ ∃ j q, p = path ++ j :: q ∧ off ≤ j ∧ j < off + ti.sz) → relabS L2 (m, 999) id path off ti.sz b' = .at i p := by
              intro b' i p hb' hi hno
              rcases relabS_cases L2 (m, 999) id path off ti.sz b' with ⟨p', e1, e2⟩ | ⟨j, q, e1, e3, e4, e5, e2⟩ | ⟨_, _, e2⟩
              · rw [hb'] at e1; cases e1; exact (hi rfl).elim
              · rw [hb'] at e1; cases e1; exact (hno rfl ⟨j, q, rfl, e4, e5⟩).elim
              · rw [e2]; exact hb'
            have hLnew : ∀ b' j q, L2 b' = .at (m, 999) (j :: q) → relabS L2 (m, 999) id path off ti.sz b' = .at id (path ++ j :: q) := by
              intro b' j q hb'
              rcases relabS_cases L2 (m, 999) id path off ti.sz b' with ⟨p', e1, e2⟩ | ⟨j', q', e1, e3, _⟩ | ⟨e1, _, e2⟩
              · rw [hb'] at e1; cases e1; exact e2
              · rw [hb'] at e1; simp only [Lbl.at.injEq] at e1; exact (e3 e1.1.symm).elim
              · exact (e1 _ hb').elim
            have htmpL : ∀ b' p, L2 b' = .at (m, 999) p → ∃ j q, p = j :: q ∧ off ≤ j ∧ j < off + ti.sz := by
              intro b' p hb'
              rcases g4.back b' _ p hb' with hh | ⟨_, j, q, e1, e2, e3⟩
              · exact (hnoL b' p hh).elim
              · exact ⟨j, q, by simpa using e1, e2, by omega⟩
            have hinjk : ∀ b', b' ≠ b → ∀ q, L2 b' = .at id q → q ≠ path := by
              intro b' hb' q hq e
              subst e
              exact hb' (g1.inj b' b id q hq hL2b)
            refine ⟨w.setRow b cur', relabS L2 (m, 999) id path off ti.sz, by simp [Instr.storeAt, Instr.sureAddr, hrun], ?_, ?_, rfl⟩
            · rw [applyH_append, applyH_one]
              refine ⟨fun i r' hr' => ?_, fun b1 b2 i p hb1 hb2 => ?_, fun b1 hb1 => ?_, fun b1 i p hb1 => ?_, fun i r' hr' => ?_, fun b1 hb1 => ?_, by rw [hwsz]; exact g1.size, g1.os, g1.tape, g1.output, g1.use, fun b3 c3 e3 f3 hb3 hc3 => by
                obtain ⟨c4, hc4⟩ := setRow_frz hc3
                exact g1.frz b3 c4 e3 f3 hb3 hc4⟩
              · by_cases hi : i = id
                · subst hi
                  rw [upd_same] at hr'
                  cases hr'
                  refine ⟨u0, Own.modP hLprot (setR off cs) ?_ path [] _ _ _ u0 (fun b' q hq hnp => ?_) (fun sz' len' cs' b' cur2 e2 hg2 hl2 hh2 ho2 => ?_) hu0⟩
                  · exact List.eq_nil_of_length_eq_zero (by rw [setR_length]; rfl)
                  · simp only [List.nil_append] at hq ⊢
                    refine ⟨hLkeep b' _ q hq hidtmp fun _ => ?_, hwo b' ?_⟩
                    · rintro ⟨j, q', rfl, _⟩
                      exact hnp (by simp)
                    · rintro rfl
                      rw [hL2b] at hq
                      cases hq
                      exact hnp (by simp)
                  · rw [hgp] at hg2
                    cases hg2
                    simp only [List.nil_append] at hl2 ho2 ⊢
                    obtain rfl := g1.inj b' b _ _ hl2 hL2b
                    rw [k3] at hh2
                    cases hh2
                    refine ⟨hLkeep _ _ _ hL2b hidtmp fun _ => ?_, cur', hwb, hcur'sz, setR_length _ _ _, ?_⟩
                    · rintro ⟨j, q', e1, _⟩
                      have := congrArg List.length e1
                      simp at this
                    · refine OwnL.intro _ _ _ fun j c hc => ?_
                      rw [setR_get] at hc
                      rw [hcur'get j]
                      by_cases hj : off ≤ j ∧ j < off + cs.length ∧ j < ncs.length
                      · rw [if_pos hj] at hc
                        rw [if_pos (by omega)]
                        obtain ⟨u', e1, e2, e3⟩ := OwnL.get cs off _ g2 (j - off) c hc
                        refine ⟨u', e1, e2, Own.move hLprot c _ _ u' (fun b' q hq => ?_) e3⟩
                        rw [show off + (j - off) = j from by omega] at hq
                        simp only [List.nil_append, List.singleton_append] at hq
                        refine ⟨by simpa using hLnew b' j q hq, hwo b' ?_⟩
                        rintro rfl
                        rw [hL2b] at hq
                        cases hq
                        exact hidtmp rfl
                      · rw [if_neg hj] at hc
                        have hjn : j < ncs.length := (List.getElem?_eq_some_iff.1 hc).1
                        rw [if_neg (by omega)]
                        obtain ⟨u', e1, e2, e3⟩ := OwnL.get ncs 0 _ k8 j c hc
                        refine ⟨u', e1, e2, Own.move hLprot c _ _ u' (fun b' q hq => ?_) e3⟩
                        simp only [List.append_assoc, List.singleton_append, Nat.zero_add] at hq ⊢
                        refine ⟨hLkeep b' _ _ hq hidtmp fun _ => ?_, hwo b' ?_⟩
                        · rintro ⟨j', q', e4, e5, e6⟩
                          simp at e4
                          omega
                        · rintro rfl
                          rw [hL2b] at hq
                          have := (Lbl.at.injEq ..).mp hq
                          have := congrArg List.length this.2
                          simp at this
                · rw [upd_ne _ _ _ _ hi] at hr'
                  obtain ⟨u, hu⟩ := g1.roots i r' hr'
                  refine ⟨u, Own.move hLprot _ [] [] u (fun b' q hq => ⟨hLkeep b' i q hq ?_ (fun e => (hi e).elim), hwo b' ?_⟩) hu⟩
                  · rintro rfl
                    have hU2 : ∀ i r, applyH hp us i = some r → i ≠ (m, 999) := by
                      intro i r hir e
                      subst e
                      rw [applyH_other us hp htmpups] at hir
                      exact hm (h.usedR _ _ hir)
                    exact hU2 _ _ hr' rfl
                  · rintro rfl
                    rw [hL2b] at hq
                    cases hq
                    exact hi rfl
              · -- inj
                rcases relabS_cases L2 (m, 999) id path off ti.sz b1 with ⟨p1, e1, e2⟩ | ⟨j, q, e1, e3, e4, e5, e2⟩ | ⟨e1, e3, e2⟩
                · rw [e2] at hb1
                  cases hb1
                  obtain ⟨j, q, rfl, hj1, hj2⟩ := htmpL b1 p1 e1
                  rcases relabS_cases L2 (m, 999) id path off ti.sz b2 with ⟨p2, f1, f2⟩ | ⟨j', q', f1, f3, f4, f5, f2⟩ | ⟨f1, f3, f2⟩
                  · rw [f2] at hb2
                    simp only [Lbl.at.injEq, List.append_cancel_left_eq, true_and] at hb2
                    subst hb2
                    exact g1.inj b1 b2 _ _ e1 f1
                  · rw [f2] at hb2; cases hb2
                  · rw [f2] at hb2
                    exact (f3 j q hj1 hj2 hb2).elim
                · rw [e2] at hb1; cases hb1
                · rw [e2] at hb1
                  rcases relabS_cases L2 (m, 999) id path off ti.sz b2 with ⟨p2, f1, f2⟩ | ⟨j', q', f1, f3, f4, f5, f2⟩ | ⟨f1, f3, f2⟩
                  · rw [f2] at hb2
                    cases hb2
                    obtain ⟨j, q, rfl, hj1, hj2⟩ := htmpL b2 p2 f1
                    exact (e3 j q hj1 hj2 hb1).elim
                  · rw [f2] at hb2; cases hb2
                  · rw [f2] at hb2
                    exact g1.inj b1 b2 i p hb1 hb2
              · rw [hwsz] at hb1
                have hf := g1.free b1 hb1
                rcases relabS_cases L2 (m, 999) id path off ti.sz b1 with ⟨p1, e1, e2⟩ | ⟨j, q, e1, e3, e4, e5, e2⟩ | ⟨e1, e3, e2⟩
                · rw [hf] at e1; cases e1
                · exact e2
                · rw [e2]; exact hf
              · rcases relabS_cases L2 (m, 999) id path off ti.sz b1 with ⟨p1, e1, e2⟩ | ⟨j, q, e1, e3, e4, e5, e2⟩ | ⟨e1, e3, e2⟩
                · rw [e2] at hb1; cases hb1; exact .inl hUid
                · rw [e2] at hb1; cases hb1
                · rw [e2] at hb1; exact g1.used b1 i p hb1
              · by_cases hi : i = id
                · subst hi; exact .inl hUid
                · rw [upd_ne _ _ _ _ hi] at hr'; exact g1.usedR i r' hr'
              · obtain ⟨e1, e2⟩ := g1.prot b1 hb1
                exact ⟨(hLprot b1 e1).1, (hLprot b1 e1).2.trans e2⟩
            · -- what the slots ask
              rw [applyH_append, applyH_one]
              refine ⟨hU', fun b' hb' => ?_, fun i r' hr' hu => ?_, fun i p v' hu hvl' hnn => ?_⟩
              · obtain ⟨e1, e2⟩ := g3.prot b' hb'
                exact ⟨(hLprot b' e1).1, (hLprot b' e1).2.trans e2⟩
              · by_cases hi : i = id
                · subst hi
                  rw [upd_same] at hr'
                  cases hr'
                  refine ⟨r, hr, fun c => ?_⟩
                  show r.ver c ≤ (if cs.all isScalar = true then r.ver else bumpR r.ver path off cs.length) c
                  by_cases hsc : cs.all isScalar = true
                  · rw [if_pos hsc]
                    exact Nat.le_refl _
                  · rw [if_neg hsc]
                    exact le_bumpR ..
                · rw [upd_ne _ _ _ _ hi] at hr'
                  exact g3.root i r' hr' (.inl hu)
              · have key : node (applyH hp us) i p v' ≠ none ∧ (i = id → ¬ ∃ j q, p = path ++ j :: q ∧ off ≤ j ∧ j < off + ti.sz) := by
                  by_cases hi : i = id
                  · subst hi
                    unfold node at hnn ⊢
                    rw [upd_same] at hnn
                    rw [hr2]
                    simp only at hnn ⊢
                    cases p with
                    | nil => exact ⟨by simp [verOk, TM.getP], fun _ => by rintro ⟨j, q, e1, _⟩; simp at e1⟩
                    | cons c0 p0 =>
                      have hle : v' ≤ r.ver c0 := hvl' r hr c0 p0 rfl
                      simp only [verOk, beq_iff_eq] at hnn ⊢
                      by_cases hsc : cs.all isScalar = true
                      · rw [if_pos hsc] at hnn
                        have hno : ∀ v ∈ cs, isOwnS v = false := by
                          intro v hv
                          have := List.all_eq_true.1 hsc v hv
                          cases v <;> simp_all [isScalar, isOwnS]
                        by_cases hv1 : r.ver c0 = v'
                        · rw [if_pos hv1] at hnn ⊢
                          refine ⟨getP_modP _ path _ _ _ _ (fun cs' j s' l' c' hh => setR_own hno cs' j s' l' c' hh) hnn, fun _ => ?_⟩
                          rintro ⟨j, q, e1, e2, e3⟩
                          rw [e1] at hnn
                          exact hnn (getP_setR_no hno path _ _ _ j q e2 (by omega))
                        · rw [if_neg hv1] at hnn
                          exact (hnn rfl).elim
                      · rw [if_neg hsc] at hnn
                        cases path with
                        | nil =>
                          by_cases hr1 : off ≤ c0 ∧ c0 < off + cs.length
                          · have hb : bumpR r.ver [] off cs.length c0 = r.ver c0 + 1 := by rw [bumpR_nil, if_pos hr1]
                            rw [hb, if_neg (by omega)] at hnn
                            exact (hnn rfl).elim
                          · have hb : bumpR r.ver [] off cs.length c0 = r.ver c0 := by rw [bumpR_nil, if_neg hr1]
                            rw [hb] at hnn
                            by_cases hv1 : r.ver c0 = v'
                            · rw [if_pos hv1] at hnn ⊢
                              rw [getP_modP_ne _ _ _ [] c0 p0 (by simpa using hr1)] at hnn
                              refine ⟨hnn, fun _ => ?_⟩
                              rintro ⟨j, q, e1, e2, e3⟩
                              simp at e1
                              omega
                            · rw [if_neg hv1] at hnn
                              exact (hnn rfl).elim
                        | cons k path' =>
                          by_cases hr1 : c0 = k
                          · have hb : bumpR r.ver (k :: path') off cs.length c0 = r.ver c0 + 1 := by rw [bumpR_cons, if_pos hr1]
                            rw [hb, if_neg (by omega)] at hnn
                            exact (hnn rfl).elim
                          · have hb : bumpR r.ver (k :: path') off cs.length c0 = r.ver c0 := by rw [bumpR_cons, if_neg hr1]
                            rw [hb] at hnn
                            by_cases hv1 : r.ver c0 = v'
                            · rw [if_pos hv1] at hnn ⊢
                              rw [getP_modP_ne _ _ _ (k :: path') c0 p0 hr1] at hnn
                              refine ⟨hnn, fun _ => ?_⟩
                              rintro ⟨j, q, e1, e2, e3⟩
                              simp at e1
                              exact hr1 e1.1
                            · rw [if_neg hv1] at hnn
                              exact (hnn rfl).elim
                  · unfold node at hnn ⊢
                    rw [upd_ne _ _ _ _ hi] at hnn
                    exact ⟨hnn, fun e => (hi e).elim⟩
                obtain ⟨f1, f2⟩ := g3.node i p v' (.inl hu) hvl' key.1
                refine ⟨f1, fun b' hb' => ?_⟩
                obtain ⟨f3, f4⟩ := f2 b' hb'
                refine ⟨hLkeep b' i p f3 (by rintro rfl; exact hm hu) key.2, fun cur2 e2 hc2 => ?_⟩
                by_cases hbb : b' = b
                · subst hbb
                  rw [k3] at hc2
                  cases hc2
                  exact ⟨cur', hwb, hcur'sz⟩
                · exact ⟨cur2, (hwo b' hbb).trans hc2, rfl⟩
      · cases he
    · cases he
  · cases he

end
end Go.TM
