/- The tree machine, 5: an owned part is moved; a new root; cells are written. -/
import Derived.Test.YthikbhekdnmhbaaTm4
namespace Go.TM
set_option linter.unusedVariables false
set_option linter.unusedSimpArgs false

theorem applyH_append (hp : Hp) (us vs : List (Id × Option Root)) : applyH hp (us ++ vs) = applyH (applyH hp us) vs := by simp [applyH]
theorem applyH_nil (hp : Hp) : applyH hp [] = hp := rfl
theorem applyH_one (hp : Hp) (id : Id) (r : Option Root) : applyH hp [(id, r)] = upd hp id r := rfl

section
variable {P : Program} {T : Nat → Option TI} {w0 : World} {L0 : Lab} {U : Nat → Prop} {w w' : World} {L L' : Lab} {hp : Hp}

theorem own_isSome [Use] (w : World) (L : Lab) (b : Nat) (h : HRel w0 L0 U hp w L) (hb : L b ≠ .free) : b < w.heap.size := by
  rcases Nat.lt_or_ge b w.heap.size with h1 | h1
  · exact h1
  · exact (hb (h.free b h1)).elim

/-- The whole array that a slot's header leads to, as owned. -/
theorem ref_own [Use] (h : HRel w0 L0 U hp w L) {id : Id} {path : List Nat} {ver sz len : Nat} {cs : List A} {u : Value} (hx : Rep U w L hp (.ref id path ver 0 sz len) u)
    (hn : node hp id path ver = some (sz, len, cs)) : Own w L (.s true sz len cs) id path u := by
  obtain ⟨u1, hu⟩ := h.node hn
  simp only [Rep] at hx
  obtain ⟨_, _, ao, cap, rfl, h2, h3, h4⟩ := hx
  simp only [Own] at hu ⊢
  have hlen : cs.length = len * sz := by
    rcases hu with ⟨_, rfl, rfl⟩ | ⟨_, _, _, _, _, _, _, _, _, _, h7, _⟩
    · simp
    · exact h7
  rcases h4 (by simp [hn]) with ⟨rfl, rfl, rfl⟩ | ⟨b, cur, e, rfl, e1, e2, e3⟩
  · left
    refine ⟨rfl, rfl, ?_⟩
    simpa using hlen
  · right
    refine ⟨b, cur, e, cap, rfl, e1, e2, by omega, h2, h3, hlen, ?_⟩
    by_cases hc : cs = []
    · subst hc; simp [OwnL]
    · obtain ⟨cur', e', cap', f1, _, _, _, _, f2⟩ := h.block hn e1 hc
      rw [e2] at f1
      cases f1
      exact f2

def isOwnS : A → Bool
  | .s true _ _ _ => true
  | _ => false

/-- What is no owned array looks at no label of its own. -/
theorem Own.flat [Use] {id id' : Id} {p p' : List Nat} (hp : ∀ b, L b = .prot → L' b = .prot ∧ w'.heap[b]? = w.heap[b]?) {c : A} {u : Value} (hc : isOwnS c = false) (h : Own w L c id p u) : Own w' L' c id' p' u := by
  match c, hc, h with
  | .i k n, _, h => simpa [Own] using h
  | .b v, _, h => simpa [Own] using h
  | .s false sz len cs, _, h =>
    simp only [Own] at h ⊢
    exact Imm.mono (P := isProt L) (P' := isProt L') (isProt_mono hp) _ _ h
  | .und, _, h => simp [Own]
  | .ref .., _, h => simp [Own] at h
  | .ptr .., _, h => simp [Own] at h
  | .ep _, _, h => simp [Own] at h
  | .agg _, _, h => simp [Own] at h
  | .tup _, _, h => simp [Own] at h
  | .s true sz len cs, hc, _ => simp [isOwnS] at hc

/-- A part is cut out: the rest stays. -/
theorem Own.cut [Use] {id : Id} (hp : ∀ b, L b = .prot → L' b = .prot ∧ w'.heap[b]? = w.heap[b]?) : ∀ (path p : List Nat) (sz len : Nat) (cs : List A) (u : Value), path ≠ [] →
    (∀ b q, L b = .at id (p ++ q) → ¬ path <+: q → L' b = .at id (p ++ q) ∧ w'.heap[b]? = w.heap[b]?) → Own w L (.s true sz len cs) id p u → Own w' L' (.s true sz len (setC cs path .und)) id p u
  | [], _, _, _, _, _, h, _, _ => (h rfl).elim
  | [k], p, sz, len, cs, u, _, ha, hi => by
    simp only [Own, setC] at hi ⊢
    rcases hi with ⟨h1, h2, rfl⟩ | ⟨b, cur, e, cap, h1, h2, h3, h4, h5, h6, h7, h8⟩
    · exact .inl ⟨h1, h2, by simp⟩
    · have hb := ha b [] (by simpa using h2) (by simp)
      refine .inr ⟨b, cur, e, cap, h1, by simpa using hb.1, hb.2.trans h3, h4, h5, h6, by simpa using h7, ?_⟩
      refine OwnL.intro _ _ _ fun j c hc => ?_
      by_cases hj : j = k
      · subst hj
        have hlt : j < cs.length := by have := (List.getElem?_eq_some_iff.1 hc).1; simpa using this
        rw [List.getElem?_set_self hlt] at hc
        cases hc
        obtain ⟨u', e1, e2, _⟩ := OwnL.get cs 0 _ h8 j _ (List.getElem?_eq_getElem hlt)
        exact ⟨u', e1, e2, by simp [Own]⟩
      · rw [List.getElem?_set_ne (fun e => hj e.symm)] at hc
        obtain ⟨u', e1, e2, e3⟩ := OwnL.get cs 0 _ h8 j c hc
        refine ⟨u', e1, e2, Own.move hp c _ _ u' (fun b q hq => ?_) e3⟩
        simp only [List.append_assoc] at hq ⊢
        exact ha b _ hq (by simp; intro h; exact (hj (by omega)).elim)
  | k :: k' :: path, p, sz, len, cs, u, _, ha, hi => by
    simp only [Own, setC] at hi ⊢
    rcases hi with ⟨h1, h2, rfl⟩ | ⟨b, cur, e, cap, h1, h2, h3, h4, h5, h6, h7, h8⟩
    · exact .inl ⟨h1, h2, by simp⟩
    · have hb := ha b [] (by simpa using h2) (by simp)
      refine .inr ⟨b, cur, e, cap, h1, by simpa using hb.1, hb.2.trans h3, h4, h5, h6, ?_, ?_⟩
      · split <;> simpa using h7
      · refine OwnL.intro _ _ _ fun j c hc => ?_
        have other : ∀ c, cs[j]? = some c → j ≠ k → ∃ u, cur.toList[j]? = some u ∧ u.oneCell' = true ∧ Own w' L' c id (p ++ [0 + j]) u := by
          intro c hc hj
          obtain ⟨u', e1, e2, e3⟩ := OwnL.get cs 0 _ h8 j c hc
          refine ⟨u', e1, e2, Own.move hp c _ _ u' (fun b q hq => ?_) e3⟩
          simp only [List.append_assoc] at hq ⊢
          exact ha b _ hq (by simp; intro h; exact (hj (by omega)).elim)
        split at hc
        · rename_i sz' len' cs' hk
          by_cases hj : j = k
          · subst hj
            have hlt : j < cs.length := (List.getElem?_eq_some_iff.1 hk).1
            rw [List.getElem?_set_self hlt] at hc
            cases hc
            obtain ⟨u', e1, e2, e3⟩ := OwnL.get cs 0 _ h8 j _ hk
            refine ⟨u', e1, e2, ?_⟩
            refine Own.cut hp (k' :: path) _ sz' len' cs' u' (by simp) (fun b q hq hnp => ?_) e3
            simp only [List.append_assoc] at hq ⊢
            exact ha b _ hq (by simpa using hnp)
          · rw [List.getElem?_set_ne (fun e => hj e.symm)] at hc
            exact other c hc hj
        · rename_i hno
          by_cases hj : j = k
          · subst hj
            obtain ⟨u', e1, e2, e3⟩ := OwnL.get cs 0 _ h8 j c hc
            refine ⟨u', e1, e2, Own.flat hp ?_ e3⟩
            match c, hno with
            | .s true sz' len' cs', hno => exact (hno _ _ _ hc).elim
            | .i .., _ => rfl
            | .b .., _ => rfl
            | .s false .., _ => rfl
            | .und, _ => rfl
            | .ref .., _ => rfl
            | .ptr .., _ => rfl
            | .ep _, _ => rfl
            | .agg _, _ => rfl
            | .tup _, _ => rfl
          · exact other c hc hj

/-- Cutting out leaves no node at the place, and none that was not there. -/
theorem getP_cut [Use] : ∀ (path : List Nat) (sz len : Nat) (cs : List A) (q : List Nat), path ≠ [] → getP sz len (setC cs path .und) q ≠ none → getP sz len cs q ≠ none ∧ ¬ path <+: q
  | [], _, _, _, _, h, _ => (h rfl).elim
  | [k], sz, len, cs, [], _, _ => ⟨by simp [getP], by simp⟩
  | [k], sz, len, cs, c :: q, _, hg => by
    simp only [setC, getP] at hg ⊢
    by_cases hck : c = k
    · subst hck
      rw [List.getElem?_set_self'] at hg
      cases hc : cs[c]? <;> simp [hc] at hg
    · rw [List.getElem?_set_ne (fun e => hck e.symm)] at hg
      exact ⟨hg, by simp; intro h; exact hck h.symm⟩
  | k :: k' :: path, sz, len, cs, [], _, _ => ⟨by simp [getP], by simp⟩
  | k :: k' :: path, sz, len, cs, c :: q, _, hg => by
    simp only [setC] at hg
    split at hg
    · rename_i sz' len' cs' hk
      simp only [getP] at hg ⊢
      by_cases hck : c = k
      · subst hck
        have hlt : c < cs.length := (List.getElem?_eq_some_iff.1 hk).1
        rw [List.getElem?_set_self hlt] at hg
        simp only at hg
        rw [hk]
        simp only
        obtain ⟨h1, h2⟩ := getP_cut (k' :: path) sz' len' cs' q (by simp) hg
        exact ⟨h1, by simpa using h2⟩
      · rw [List.getElem?_set_ne (fun e => hck e.symm)] at hg
        exact ⟨hg, by simp; intro h; exact (hck h.symm).elim⟩
    · rename_i hno
      refine ⟨hg, fun hpre => ?_⟩
      simp only [getP] at hg
      have : c = k := by simp at hpre; exact hpre.1.symm
      subst this
      split at hg
      · rename_i sz' len' cs' hk
        exact hno _ _ _ hk
      · exact hg rfl

/-- The labels when the array at (id, p1) goes to (tid, tp). -/
def relab (L : Lab) (id : Id) (p1 : List Nat) (tid : Id) (tp : List Nat) : Lab := fun b => match L b with
  | .at i p => if i = id ∧ p1 <+: p then .at tid (tp ++ p.drop p1.length) else .at i p
  | x => x

theorem relab_other {id : Id} {p1 : List Nat} {tid : Id} {tp : List Nat} {b : Nat} (h : ∀ q, L b ≠ .at id (p1 ++ q)) : relab L id p1 tid tp b = L b := by
  unfold relab
  split
  · rename_i i p hl
    split
    · rename_i hc
      obtain ⟨rfl, q, rfl⟩ := hc
      exact (h q hl).elim
    · exact hl.symm
  · rfl

theorem relab_moved {id : Id} {p1 : List Nat} {tid : Id} {tp : List Nat} {b : Nat} {q : List Nat} (h : L b = .at id (p1 ++ q)) : relab L id p1 tid tp b = .at tid (tp ++ q) := by
  unfold relab
  rw [h]
  simp

theorem relab_cases (L : Lab) (id : Id) (p1 : List Nat) (tid : Id) (tp : List Nat) (b : Nat) :
    (∃ q, L b = .at id (p1 ++ q) ∧ relab L id p1 tid tp b = .at tid (tp ++ q)) ∨ ((∀ q, L b ≠ .at id (p1 ++ q)) ∧ relab L id p1 tid tp b = L b) := by
  by_cases h : ∃ q, L b = .at id (p1 ++ q)
  · obtain ⟨q, h⟩ := h
    exact .inl ⟨q, h, relab_moved h⟩
  · have h' : ∀ q, L b ≠ .at id (p1 ++ q) := fun q hq => h ⟨q, hq⟩
    exact .inr ⟨h', relab_other h'⟩

/-- What a step over owned parts does to the labels: nothing but this. A label that is not under the target is an old one; a label under the target is old, or new from the k-th place to before the m-th. -/
structure Moved (L L' : Lab) (ids : List Id) (tid : Id) (tp : List Nat) (k m : Nat) : Prop where
  keep : ∀ b, (∀ i p, L b = .at i p → i ∉ ids) → L' b = L b
  back : ∀ b i p, L' b = .at i p → L b = .at i p ∨ (i = tid ∧ ∃ j q, p = tp ++ j :: q ∧ k ≤ j ∧ j < m)

theorem Moved.refl' (L : Lab) (ids : List Id) (tid : Id) (tp : List Nat) (k m : Nat) : Moved L L ids tid tp k m := ⟨fun _ _ => rfl, fun _ _ _ h => .inl h⟩

/-- The heap without the array at a path. -/
def cutH (hp : Hp) (id : Id) (path : List Nat) (r : Root) : List (Id × Option Root) := [(id, match path with | [] => none | _ => some { r with cs := setC r.cs path .und })]

/-- An array goes from its place in a root to another label. -/
theorem move_ok [Use] (h : HRel w0 L0 U hp w L) {id : Id} {path : List Nat} {r : Root} (hr : hp id = some r) (tid : Id) (tq : List Nat) (hU : U tid.1) (hfree : ∀ b q, L b ≠ .at tid (tq ++ q)) :
    HRel w0 L0 U (applyH hp (cutH hp id path r)) w (relab L id path tid tq) ∧ Keeps U w L hp U w (relab L id path tid tq) (applyH hp (cutH hp id path r)) ∧
      (∀ b, L b = .prot → relab L id path tid tq b = .prot ∧ w.heap[b]? = w.heap[b]?) := by
  have hprot : ∀ b, L b = .prot → relab L id path tid tq b = .prot ∧ w.heap[b]? = w.heap[b]? := fun b hb => ⟨by rw [relab_other (by simp [hb])]; exact hb, rfl⟩
  refine ⟨?_, ?_, hprot⟩
  · refine ⟨fun i r' hr' => ?_, fun b b' i p hb hb' => ?_, fun b hb => ?_, fun b i p hb => ?_, fun i r' hr' => ?_, fun b hb => ?_, h.size, h.os, h.tape, h.output, h.use, h.frz⟩
    · unfold cutH at hr'
      rw [applyH_one] at hr'
      by_cases hi : i = id
      · subst hi
        rw [upd_same] at hr'
        split at hr'
        · cases hr'
        · rename_i hpath
          cases hr'
          obtain ⟨u0, hu0⟩ := h.roots i r hr
          refine ⟨u0, Own.cut hprot path [] _ _ _ u0 (by simpa using hpath) (fun b q hq hnp => ⟨?_, rfl⟩) hu0⟩
          rw [relab_other]
          · exact hq
          · intro q' hq'
            rw [hq] at hq'
            simp only [List.nil_append, Lbl.at.injEq, true_and] at hq'
            exact hnp ⟨q', hq'.symm⟩
      · rw [upd_ne _ _ _ _ hi] at hr'
        obtain ⟨u0, hu0⟩ := h.roots i r' hr'
        refine ⟨u0, Own.move hprot _ [] [] u0 (fun b q hq => ⟨?_, rfl⟩) hu0⟩
        rw [relab_other]
        · exact hq
        · intro q' hq'
          rw [hq] at hq'
          simp only [Lbl.at.injEq] at hq'
          exact hi hq'.1
    · rcases relab_cases L id path tid tq b with ⟨q, e1, e2⟩ | ⟨e1, e2⟩ <;> rcases relab_cases L id path tid tq b' with ⟨q', f1, f2⟩ | ⟨f1, f2⟩
      · rw [e2] at hb
        rw [f2, ← hb] at hb'
        simp only [Lbl.at.injEq, List.append_cancel_left_eq, true_and] at hb'
        subst hb'
        exact h.inj b b' id _ e1 f1
      · rw [e2] at hb
        rw [f2, ← hb] at hb'
        exact (hfree b' q hb').elim
      · rw [f2] at hb'
        rw [e2, ← hb'] at hb
        exact (hfree b q' hb).elim
      · rw [e2] at hb
        rw [f2] at hb'
        exact h.inj b b' i p hb hb'
    · rw [relab_other]
      · exact h.free b hb
      · intro q hq
        rw [h.free b hb] at hq
        cases hq
    · rcases relab_cases L id path tid tq b with ⟨q, e1, e2⟩ | ⟨e1, e2⟩
      · rw [e2] at hb
        cases hb
        exact hU
      · rw [e2] at hb
        exact h.used b i p hb
    · unfold cutH at hr'
      rw [applyH_one] at hr'
      by_cases hi : i = id
      · subst hi
        exact h.usedR i r hr
      · rw [upd_ne _ _ _ _ hi] at hr'
        exact h.usedR i r' hr'
    · obtain ⟨e1, e2⟩ := h.prot b hb
      exact ⟨(hprot b e1).1, e2⟩
  · refine ⟨fun _ hk => hk, fun b hb => hprot b hb, fun i r' hr' hu => ?_, fun i p v hu hvl hnn => ?_⟩
    · unfold cutH at hr'
      rw [applyH_one] at hr'
      by_cases hi : i = id
      · subst hi
        rw [upd_same] at hr'
        split at hr'
        · cases hr'
        · cases hr'
          exact ⟨r, hr, fun _ => Nat.le_refl _⟩
      · rw [upd_ne _ _ _ _ hi] at hr'
        exact ⟨r', hr', fun _ => Nat.le_refl _⟩
    · have key : node hp i p v ≠ none ∧ (i = id → ¬ path <+: p) := by
        unfold cutH at hnn
        rw [applyH_one] at hnn
        unfold node at hnn ⊢
        by_cases hi : i = id
        · subst hi
          rw [upd_same] at hnn
          rw [hr]
          cases path with
          | nil => simp at hnn
          | cons c0 p0 =>
            simp only at hnn ⊢
            have hvv : ∀ r' : Root, r'.ver = r.ver → verOk r' p v = verOk r p v := fun r' e => by unfold verOk; split <;> simp [e]
            have hv2 := hvv ⟨r.sz, r.len, setC r.cs (c0 :: p0) .und, r.ver⟩ rfl
            rw [hv2] at hnn
            split at hnn
            · rename_i hvk
              rw [if_pos hvk]
              obtain ⟨g1, g2⟩ := getP_cut (c0 :: p0) _ _ _ p (by simp) hnn
              exact ⟨g1, fun _ => g2⟩
            · exact (hnn rfl).elim
        · rw [upd_ne _ _ _ _ hi] at hnn
          exact ⟨hnn, fun e => (hi e).elim⟩
      refine ⟨key.1, fun b hb => ⟨?_, fun cur e hce => ⟨cur, hce, rfl⟩⟩⟩
      rw [relab_other]
      · exact hb
      · intro q hq
        rw [hb] at hq
        simp only [Lbl.at.injEq] at hq
        exact key.2 hq.1 ⟨q, hq.2.symm⟩

/-- A value on its way into a cell. -/
theorem close1_ok [Use] (h : HRel w0 L0 U hp w L) {x c : A} {u : Value} {ups : List (Id × Option Root)} {rd : List Id} (hx : Rep U w L hp x u) (hc : close1 hp x = some (c, ups, rd)) (tid : Id) (tp : List Nat) (k : Nat) (hU : U tid.1)
    (hfree : ∀ b q, L b ≠ .at tid (tp ++ k :: q)) : ∃ L', HRel w0 L0 U (applyH hp ups) w L' ∧ Own w L' c tid (tp ++ [k]) u ∧ Keeps U w L hp U w L' (applyH hp ups) ∧ Moved L L' (ups.map (·.1)) tid tp k (k + 1) ∧ u.oneCell' = true := by
  unfold close1 at hc
  split at hc
  · cases hc
    obtain ⟨rfl, hw⟩ := rep_i hx
    exact ⟨L, h, by simp [Own, hw], Keeps.rfl', Moved.refl' .., rfl⟩
  · cases hc
    obtain rfl := rep_b hx
    exact ⟨L, h, by simp [Own], Keeps.rfl', Moved.refl' .., rfl⟩
  · cases hc
    have hx' := hx
    simp only [Rep, Imm] at hx'
    obtain ⟨ao, cap, rfl, _⟩ := hx'
    exact ⟨L, h, by simpa [Own, Rep] using hx, Keeps.rfl', Moved.refl' .., rfl⟩
  · cases hc
    simp only [Rep] at hx
    obtain ⟨rfl, _, _⟩ := hx
    exact ⟨L, h, by simp [Own], Keeps.rfl', Moved.refl' .., rfl⟩
  · rename_i id path ver off sz len
    split at hc
    · cases hc
    · rename_i r hr
      split at hc
      · rename_i hcond
        obtain ⟨rfl, hv⟩ := hcond
        split at hc
        · rename_i sz' len' cs' hg
          split at hc
          · rename_i hsl
            obtain ⟨rfl, rfl⟩ := hsl
            cases hc
            have hn : node hp id path ver = some (sz', len', cs') := by simp [node, hr, hv, hg]
            have hown := ref_own h hx hn
            have hone : u.oneCell' = true := by
              simp only [Rep] at hx
              obtain ⟨_, _, ao, cap, rfl, _⟩ := hx
              rfl
            obtain ⟨m1, m2, m3⟩ := move_ok (path := path) h hr tid (tp ++ [k]) hU (fun b q hb => hfree b q (by simpa using hb))
            refine ⟨relab L id path tid (tp ++ [k]), m1, Own.move m3 _ path (tp ++ [k]) u (fun b q hq => ⟨relab_moved hq, rfl⟩) hown, m2, ?_, hone⟩
            refine ⟨fun b hb => relab_other fun q hq => hb _ _ hq (by simp), fun b i p hb => ?_⟩
            rcases relab_cases L id path tid (tp ++ [k]) b with ⟨q, e1, e2⟩ | ⟨e1, e2⟩
            · rw [e2] at hb
              cases hb
              exact .inr ⟨rfl, k, q, by simp, Nat.le_refl _, by omega⟩
            · rw [e2] at hb
              exact .inl hb
          · cases hc
        · cases hc
      · cases hc
  · cases hc

theorem closeL_ok [Use] (tid : Id) (tp : List Nat) (hU : U tid.1) : ∀ (xs : List A) (us : List Value) (k : Nat) (hp : Hp) (L : Lab) (cs : List A) (ups : List (Id × Option Root)) (rd : List Id),
    HRel w0 L0 U hp w L → RepL U w L hp xs us → closeL hp xs = some (cs, ups, rd) → tid ∉ ups.map (·.1) → (∀ b j q, k ≤ j → j < k + xs.length → L b ≠ .at tid (tp ++ j :: q)) →
    ∃ L', HRel w0 L0 U (applyH hp ups) w L' ∧ OwnL w L' cs tid tp k us ∧ Keeps U w L hp U w L' (applyH hp ups) ∧ Moved L L' (ups.map (·.1)) tid tp k (k + xs.length) ∧ cs.length = xs.length ∧ us.length = xs.length
  | [], us, k, hp, L, cs, ups, rd, h, hx, hc, _, _ => by
    cases us with
    | nil =>
      simp only [closeL, Option.some.injEq, Prod.mk.injEq] at hc
      obtain ⟨rfl, rfl, rfl⟩ := hc
      exact ⟨L, h, by simp [OwnL], Keeps.rfl', Moved.refl' .., rfl, rfl⟩
    | cons u us => simp [RepL] at hx
  | x :: xs, us, k, hp, L, cs, ups, rd, h, hx, hc, htid, hfree => by
    cases us with
    | nil => simp [RepL] at hx
    | cons u us =>
      simp only [RepL] at hx
      simp only [closeL] at hc
      split at hc
      · cases hc
      · rename_i c u1 rd1 hc1
        split at hc
        · cases hc
        · rename_i cs2 u2 rd2 hc2
          cases hc
          simp only [List.map_append, List.mem_append, not_or] at htid
          obtain ⟨L1, h1, h2, h3, h4, h5⟩ := close1_ok h hx.1 hc1 tid tp k hU (fun b q => hfree b k q (Nat.le_refl _) (by simp))
          obtain ⟨L2, g1, g2, g3, g4, g5, g6⟩ := closeL_ok tid tp hU xs us (k + 1) _ L1 cs2 u2 rd2 h1 (RepL.mono h3 xs us hx.2) hc2 htid.2 (fun b j q hj hj' hb => by
            rcases h4.back b tid _ hb with hb | ⟨_, j', q', e, hj1, hj2⟩
            · exact hfree b j q (by omega) (by simp; omega) hb
            · simp at e
              omega)
          refine ⟨L2, by rw [applyH_append]; exact g1, ?_, by rw [applyH_append]; exact h3.trans g3, ⟨fun b hb => ?_, fun b i p hb => ?_⟩, by simp [g5], by simp [g6]⟩
          · simp only [OwnL]
            refine ⟨⟨h5, Own.move (fun b hb => ?_) c _ _ u (fun b q hq => ⟨?_, rfl⟩) h2⟩, g2⟩
            · exact g3.prot b hb
            · rw [g4.keep b (fun i p hip => ?_)]
              · exact hq
              · rw [hq] at hip
                cases hip
                exact htid.2
          · have e1 : L1 b = L b := h4.keep b fun i p hip hm => hb i p hip (by simp only [List.map_append, List.mem_append]; exact .inl hm)
            rw [g4.keep b fun i p hip hm => hb i p (by rw [← e1]; exact hip) (by simp only [List.map_append, List.mem_append]; exact .inr hm), e1]
          · rcases g4.back b i p hb with hb | ⟨e, j, q, e1, e2, e3⟩
            · rcases h4.back b i p hb with hb | ⟨e, j, q, e1, e2, e3⟩
              · exact .inl hb
              · exact .inr ⟨e, j, q, e1, e2, by simp; omega⟩
            · exact .inr ⟨e, j, q, e1, by omega, by simp; omega⟩

theorem Keeps.restrict [Use] {U1 U2 : Nat → Prop} {hp' : Hp} (h : Keeps U1 w L hp U2 w' L' hp') (hU : ∀ k, U k → U1 k) : Keeps U w L hp U w' L' hp' :=
  ⟨fun _ hk => hk, h.prot, fun id r hr hu => h.root id r hr (hU _ hu), fun id p v hu hv hn => h.node id p v (hU _ hu) hv hn⟩

/-! ### A new root -/

def addU (U : Nat → Prop) (m : Nat) : Nat → Prop := fun k => U k ∨ k = m

theorem HRel.mono [Use] {U' : Nat → Prop} (h : HRel w0 L0 U hp w L) (hU : ∀ k, U k → U' k) : HRel w0 L0 U' hp w L :=
  ⟨h.roots, h.inj, h.free, fun b id p hb => hU _ (h.used b id p hb), fun id r hr => hU _ (h.usedR id r hr), h.prot, h.size, h.os, h.tape, h.output, h.use, h.frz⟩

theorem heap_alloc_lt [Use] (w : World) (o : Obj) {b : Nat} (h : b < w.heap.size) : (w.alloc o).heap[b]? = w.heap[b]? := by
  show (w.heap.push o)[b]? = _
  rw [Array.getElem?_push, if_neg (by omega)]

theorem heap_alloc_eq [Use] (w : World) (o : Obj) : (w.alloc o).heap[w.heap.size]? = some o := by
  show (w.heap.push o)[w.heap.size]? = _
  simp

/-- A block that nobody holds, new in the world, becomes the root (m, k), whose cells are held already. (w': the world with the block; nothing that is held has turned.) -/
theorem adopt [Use] (h : HRel w0 L0 U hp w L) {id : Id} (hU : U id.1) {sz len cap : Nat} {cs : List A} {cur : Array Value} {e : Nat} (hown : OwnL w L cs id [] 0 cur.toList) (hcs : cs.length = len * sz) (hcur : cur.size = cap * sz)
    (hcap : len ≤ cap) (hmax : cap ≤ maxLen) (hnew : ∀ b, L b ≠ .at id []) (hnone : hp id = none)
    (hw : w'.heap[w.heap.size]? = some (.cells cur e (0, 0))) (hold : ∀ b, b < w.heap.size → w'.heap[b]? = w.heap[b]?) (hsz : w'.heap.size = w.heap.size + 1)
    (hos : w'.os = w.os) (htape : w'.tape = w.tape) (hout : w'.output = w.output) :
    ∃ L', HRel w0 L0 U (upd hp id (some (newRoot sz len cs))) w' L' ∧ L' w.heap.size = .at id [] ∧ (∀ b, b ≠ w.heap.size → L' b = L b) ∧
      (∀ b, L b ≠ .free → L' b = L b ∧ w'.heap[b]? = w.heap[b]?) := by
  have hfree : ∀ b, L b ≠ .free → b < w.heap.size := fun b hb => own_isSome w L b h hb
  have hkeep : ∀ b, L b ≠ .free → upd L w.heap.size (.at id []) b = L b ∧ w'.heap[b]? = w.heap[b]? := by
    intro b hb
    have := hfree b hb
    exact ⟨upd_ne _ _ _ _ (by omega), hold b this⟩
  have hprot : ∀ b, L b = .prot → upd L w.heap.size (.at id []) b = .prot ∧ w'.heap[b]? = w.heap[b]? := by
    intro b hb
    have := hkeep b (by simp [hb])
    exact ⟨this.1.trans hb, this.2⟩
  refine ⟨upd L w.heap.size (.at id []), ⟨fun i r hr => ?_, fun b b' i p hb hb' => ?_, fun b hb => ?_, fun b i p hb => ?_, fun i r hr => ?_, fun b hb => ?_, by have := h.size; omega, hos.trans h.os, htape.trans h.tape, hout.trans h.output, h.use, fun b c e f hb hc => by
    rcases Nat.lt_trichotomy b w.heap.size with hlt | rfl | hgt
    · rw [hold b hlt] at hc; exact h.frz b c e f hb hc
    · rw [hw] at hc; cases hc; rfl
    · rw [Array.getElem?_eq_none (by omega)] at hc; cases hc⟩,
    upd_same .., fun b hb => upd_ne _ _ _ _ hb, hkeep⟩
  · by_cases hi : i = id
    · subst hi
      rw [upd_same] at hr
      cases hr
      refine ⟨.slice (some ⟨w.heap.size, 0, none⟩) len cap, ?_⟩
      simp only [Own, newRoot]
      refine .inr ⟨w.heap.size, cur, e, cap, rfl, upd_same .., hw, hcur, hcap, hmax, hcs, ?_⟩
      exact OwnL.move hprot cs [] [] 0 _ (fun b q hb => by have := hkeep b (by simp [hb]); exact ⟨this.1.trans hb, this.2⟩) hown
    · rw [upd_ne _ _ _ _ hi] at hr
      obtain ⟨u, hu⟩ := h.roots i r hr
      exact ⟨u, Own.move hprot _ [] [] u (fun b q hb => by have := hkeep b (by simp [hb]); exact ⟨this.1.trans hb, this.2⟩) hu⟩
  · have key : ∀ b, upd L w.heap.size (.at id []) b = .at i p → (b = w.heap.size ∧ i = id ∧ p = []) ∨ (b ≠ w.heap.size ∧ L b = .at i p) := by
      intro b hb
      by_cases hbn : b = w.heap.size
      · subst hbn
        rw [upd_same] at hb
        cases hb
        exact .inl ⟨rfl, rfl, rfl⟩
      · rw [upd_ne _ _ _ _ hbn] at hb
        exact .inr ⟨hbn, hb⟩
    rcases key b hb with ⟨e1, e2, e3⟩ | ⟨e1, e2⟩ <;> rcases key b' hb' with ⟨f1, f2, f3⟩ | ⟨f1, f2⟩
    · rw [e1, f1]
    · subst e2 e3
      exact (hnew b' f2).elim
    · subst f2 f3
      exact (hnew b e2).elim
    · exact h.inj b b' i p e2 f2
  · rw [upd_ne _ _ _ _ (by omega)]
    exact h.free b (by omega)
  · by_cases hbn : b = w.heap.size
    · subst hbn
      rw [upd_same] at hb
      cases hb
      exact hU
    · rw [upd_ne _ _ _ _ hbn] at hb
      exact h.used b i p hb
  · by_cases hi : i = id
    · subst hi; exact hU
    · rw [upd_ne _ _ _ _ hi] at hr
      exact h.usedR i r hr
  · obtain ⟨e1, e2⟩ := h.prot b hb
    exact ⟨(hprot b e1).1, (hprot b e1).2.trans e2⟩

/-- A new root turns nothing for the values that are there; its id has not been used. -/
theorem keeps_root [Use] {U' : Nat → Prop} {id : Id} {r : Root} (hUU : ∀ k, U k → U' k) (hid : ¬ U id.1) (hkeep : ∀ b, L b ≠ .free → L' b = L b ∧ w'.heap[b]? = w.heap[b]?) : Keeps U w L hp U' w' L' (upd hp id (some r)) := by
  refine ⟨hUU, fun b hb => ?_, fun i r' hr hu => ?_, fun i p v hu hv hn => ?_⟩
  · have := hkeep b (by simp [hb])
    exact ⟨this.1.trans hb, this.2⟩
  · rw [upd_ne _ _ _ _ (by rintro rfl; exact hid hu)] at hr
    exact ⟨r', hr, fun _ => Nat.le_refl _⟩
  · have hi : i ≠ id := by rintro rfl; exact hid hu
    have : node (upd hp id (some r)) i p v = node hp i p v := by unfold node; rw [upd_ne _ _ _ _ hi]
    rw [this] at hn
    refine ⟨hn, fun b hb => ?_⟩
    have := hkeep b (by simp [hb])
    exact ⟨this.1.trans hb, fun cur e hc => ⟨cur, by rw [this.2]; exact hc, rfl⟩⟩

end
end Go.TM
