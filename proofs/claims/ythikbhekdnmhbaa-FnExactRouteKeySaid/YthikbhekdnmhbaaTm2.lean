/- The tree machine, 2: how abstract values and roots lie in a world; and that they go on lying so where nothing of theirs turns. -/
import Derived.Test.YthikbhekdnmhbaaTm1
namespace Go.TM
set_option linter.unusedVariables false
set_option linter.unusedSimpArgs false

/-- Who holds a block: nobody; whoever was there before the call; the array at a path of a root. -/
inductive Lbl where
  | free
  | prot
  | at (id : Id) (p : List Nat)
  deriving DecidableEq

abbrev Lab := Nat → Lbl

mutual
/-- Data that is only read: it lies in blocks of which P holds. -/
def Imm (w : World) (P : Nat → Prop) : A → Value → Prop
  | .i k n, u => u = .int k n ∧ (Lit.int k n).wf = true
  | .b v, u => u = .bool v
  | .s _ sz len cs, u => ∃ ao cap, u = .slice ao len cap ∧ len ≤ cap ∧ cap ≤ maxLen ∧ cs.length = len * sz ∧
      (cs = [] ∨ ∃ a : Addr, ao = some a ∧ a.spot = none ∧ P a.block ∧ ImmL w P cs a.block a.off)
  | .und, _ => True
  | _, _ => False
def ImmL (w : World) (P : Nat → Prop) : List A → Nat → Nat → Prop
  | [], _, _ => True
  | c :: cs, b, k => (∃ u, w.cell? ⟨b, k, none⟩ = some u ∧ u.oneCell' = true ∧ Imm w P c u) ∧ ImmL w P cs b (k + 1)
end

/-- The blocks whose data a call may use as data that nobody writes. -/
class Use where
  B : Nat → Prop

def isProt [Use] (L : Lab) : Nat → Prop := fun b => L b = .prot ∧ Use.B b

theorem isProt_mono [Use] {w w' : World} {L L' : Lab} (h : ∀ b, L b = .prot → L' b = .prot ∧ w'.heap[b]? = w.heap[b]?) : ∀ b, isProt L b → isProt L' b ∧ w'.heap[b]? = w.heap[b]? :=
  fun b hb => ⟨⟨(h b hb.1).1, hb.2⟩, (h b hb.1).2⟩

mutual
/-- A cell of a root: an owned array lies in a block of its own. -/
def Own [Use] (w : World) (L : Lab) : A → Id → List Nat → Value → Prop
  | .i k n, _, _, u => u = .int k n ∧ (Lit.int k n).wf = true
  | .b v, _, _, u => u = .bool v
  | .s true sz len cs, id, p, u => (u = .slice none 0 0 ∧ len = 0 ∧ cs = []) ∨
      ∃ b cur e cap, u = .slice (some ⟨b, 0, none⟩) len cap ∧ L b = .at id p ∧ w.heap[b]? = some (.cells cur e (0, 0)) ∧ cur.size = cap * sz ∧ len ≤ cap ∧ cap ≤ maxLen ∧
        cs.length = len * sz ∧ OwnL w L cs id p 0 cur.toList
  | .s false sz len cs, _, _, u => Imm w (isProt L) (.s false sz len cs) u
  | .und, _, _, _ => True
  | _, _, _, _ => False
def OwnL [Use] (w : World) (L : Lab) : List A → Id → List Nat → Nat → List Value → Prop
  | [], _, _, _, _ => True
  | c :: cs, id, p, k, u :: us => (u.oneCell' = true ∧ Own w L c id (p ++ [k]) u) ∧ OwnL w L cs id p (k + 1) us
  | _ :: _, _, _, _, [] => False
end

def verLe (hp : Hp) (id : Id) (path : List Nat) (ver : Nat) : Prop := ∀ r, hp id = some r → ∀ c p, path = c :: p → ver ≤ r.ver c

mutual
/-- A value in a slot. U: the instances that have been used. -/
def Rep [Use] (U : Nat → Prop) (w : World) (L : Lab) (hp : Hp) : A → Value → Prop
  | .i k n, u => u = .int k n ∧ (Lit.int k n).wf = true
  | .b v, u => u = .bool v
  | .s true _ len cs, u => u = .slice none 0 0 ∧ len = 0 ∧ cs = []
  | .s false sz len cs, u => Imm w (isProt L) (.s false sz len cs) u
  | .ref id path ver off sz len, u => U id.1 ∧ verLe hp id path ver ∧ ∃ ao cap, u = .slice ao len cap ∧ len ≤ cap ∧ cap ≤ maxLen ∧
      (node hp id path ver ≠ none → (ao = none ∧ len = 0 ∧ cap = 0) ∨
        ∃ b cur e, ao = some ⟨b, off, none⟩ ∧ L b = .at id path ∧ w.heap[b]? = some (.cells cur e (0, 0)) ∧ off + cap * sz = cur.size)
  | .ptr id path ver off, u => U id.1 ∧ verLe hp id path ver ∧ ∃ ad, u = .pointer (some ad) ∧ (node hp id path ver ≠ none → ∃ b, ad = ⟨b, off, none⟩ ∧ L b = .at id path)
  | .ep cs, u => ∃ a : Addr, u = .pointer (some a) ∧ a.spot = none ∧ (cs = [] ∨ (isProt L a.block ∧ ImmL w (isProt L) cs a.block a.off))
  | .agg xs, u => ∃ us : Array Value, u = .agg us ∧ RepL U w L hp xs us.toList
  | .tup xs, u => ∃ us : Array Value, u = .tuple us ∧ RepL U w L hp xs us.toList
  | .und, _ => True
def RepL [Use] (U : Nat → Prop) (w : World) (L : Lab) (hp : Hp) : List A → List Value → Prop
  | [], [] => True
  | x :: xs, u :: us => Rep U w L hp x u ∧ RepL U w L hp xs us
  | _, _ => False
end

theorem cell_of_heap [Use] {w w' : World} {b k : Nat} (h : w'.heap[b]? = w.heap[b]?) : w'.cell? ⟨b, k, none⟩ = w.cell? ⟨b, k, none⟩ := World.cell?_of_block (a := ⟨b, k, none⟩) h

mutual
theorem Imm.mono [Use] {w w' : World} {P P' : Nat → Prop} (h : ∀ b, P b → P' b ∧ w'.heap[b]? = w.heap[b]?) : ∀ (a : A) (u : Value), Imm w P a u → Imm w' P' a u
  | .i k n, u, hi => hi
  | .b v, u, hi => hi
  | .s o sz len cs, u, ⟨ao, cap, h1, h2, h3, h4, h5⟩ => ⟨ao, cap, h1, h2, h3, h4, h5.imp id fun ⟨a, e1, e2, e3, e4⟩ => ⟨a, e1, e2, (h _ e3).1, ImmL.mono h cs a.block a.off e3 e4⟩⟩
  | .und, _, _ => trivial
  | .ref .., _, hi => hi.elim
  | .ptr .., _, hi => hi.elim
  | .ep _, _, hi => hi.elim
  | .agg _, _, hi => hi.elim
  | .tup _, _, hi => hi.elim
theorem ImmL.mono [Use] {w w' : World} {P P' : Nat → Prop} (h : ∀ b, P b → P' b ∧ w'.heap[b]? = w.heap[b]?) : ∀ (cs : List A) (b k : Nat), P b → ImmL w P cs b k → ImmL w' P' cs b k
  | [], _, _, _, _ => trivial
  | c :: cs, b, k, hb, ⟨⟨u, hu, h1, hi⟩, hr⟩ => ⟨⟨u, (cell_of_heap (h b hb).2).trans hu, h1, Imm.mono h c u hi⟩, ImmL.mono h cs b (k + 1) hb hr⟩
end

mutual
/-- An owned part, in a world and under labels in which its own blocks, and all that is held from before, are as they were (its own labels moved along). -/
theorem Own.move [Use] {w w' : World} {L L' : Lab} {id id' : Id} (hp : ∀ b, L b = .prot → L' b = .prot ∧ w'.heap[b]? = w.heap[b]?) :
    ∀ (a : A) (p p' : List Nat) (u : Value), (∀ b q, L b = .at id (p ++ q) → L' b = .at id' (p' ++ q) ∧ w'.heap[b]? = w.heap[b]?) → Own w L a id p u → Own w' L' a id' p' u
  | .i k n, _, _, u, _, hi => hi
  | .b v, _, _, u, _, hi => hi
  | .s true sz len cs, p, p', u, ha, hi => by
    simp only [Own] at hi ⊢
    rcases hi with hi | ⟨b, cur, e, cap, h1, h2, h3, h4, h5, h6, h7, h8⟩
    · exact .inl hi
    · have hb := ha b [] (by simpa using h2)
      exact .inr ⟨b, cur, e, cap, h1, by simpa using hb.1, hb.2.trans h3, h4, h5, h6, h7, OwnL.move hp cs p p' 0 cur.toList ha h8⟩
  | .s false sz len cs, _, _, u, _, hi => by
    simp only [Own] at hi ⊢
    exact Imm.mono (P := isProt L) (P' := isProt L') (isProt_mono hp) _ _ hi
  | .und, _, _, _, _, _ => by simp [Own]
  | .ref .., _, _, _, _, hi => by simp [Own] at hi
  | .ptr .., _, _, _, _, hi => by simp [Own] at hi
  | .ep _, _, _, _, _, hi => by simp [Own] at hi
  | .agg _, _, _, _, _, hi => by simp [Own] at hi
  | .tup _, _, _, _, _, hi => by simp [Own] at hi
theorem OwnL.move [Use] {w w' : World} {L L' : Lab} {id id' : Id} (hp : ∀ b, L b = .prot → L' b = .prot ∧ w'.heap[b]? = w.heap[b]?) :
    ∀ (cs : List A) (p p' : List Nat) (k : Nat) (us : List Value), (∀ b q, L b = .at id (p ++ q) → L' b = .at id' (p' ++ q) ∧ w'.heap[b]? = w.heap[b]?) → OwnL w L cs id p k us → OwnL w' L' cs id' p' k us
  | [], _, _, _, _, _, _ => by simp [OwnL]
  | c :: cs, p, p', k, u :: us, ha, hi => by
    simp only [OwnL] at hi ⊢
    refine ⟨⟨hi.1.1, Own.move hp c (p ++ [k]) (p' ++ [k]) u (fun b q hb => ?_) hi.1.2⟩, OwnL.move hp cs p p' (k + 1) us ha hi.2⟩
    have := ha b ([k] ++ q) (by simpa using hb)
    simpa using this
  | _ :: _, _, _, _, [], _, hi => by simp [OwnL] at hi
end

/-- What a value in a slot asks of the world. -/
structure Keeps (U : Nat → Prop) (w : World) (L : Lab) (hp : Hp) (U' : Nat → Prop) (w' : World) (L' : Lab) (hp' : Hp) : Prop where
  used : ∀ k, U k → U' k
  prot : ∀ b, L b = .prot → L' b = .prot ∧ w'.heap[b]? = w.heap[b]?
  root : ∀ id r', hp' id = some r' → U id.1 → ∃ r, hp id = some r ∧ ∀ c, r.ver c ≤ r'.ver c
  node : ∀ id path ver, U id.1 → verLe hp id path ver → node hp' id path ver ≠ none → node hp id path ver ≠ none ∧ ∀ b, L b = .at id path → L' b = .at id path ∧
    ∀ cur e, w.heap[b]? = some (.cells cur e (0, 0)) → ∃ cur', w'.heap[b]? = some (.cells cur' e (0, 0)) ∧ cur'.size = cur.size

theorem Keeps.rfl' [Use] {U : Nat → Prop} {w : World} {L : Lab} {hp : Hp} : Keeps U w L hp U w L hp :=
  ⟨fun _ h => h, fun _ h => ⟨h, rfl⟩, fun _ r h _ => ⟨r, h, fun _ => Nat.le_refl _⟩, fun _ _ _ _ _ h => ⟨h, fun _ hb => ⟨hb, fun cur _ hc => ⟨cur, hc, rfl⟩⟩⟩⟩

theorem Keeps.verLe [Use] {U U' : Nat → Prop} {w w' : World} {L L' : Lab} {hp hp' : Hp} (h : Keeps U w L hp U' w' L' hp') {id : Id} {path : List Nat} {ver : Nat} (hu : U id.1) (hv : verLe hp id path ver) :
    TM.verLe hp' id path ver := by
  intro r' hr' c p hp
  obtain ⟨r, h1, h2⟩ := h.root id r' hr' hu
  exact Nat.le_trans (hv r h1 c p hp) (h2 c)

theorem Keeps.trans [Use] {U U' U'' : Nat → Prop} {w w' w'' : World} {L L' L'' : Lab} {hp hp' hp'' : Hp} (h : Keeps U w L hp U' w' L' hp') (h' : Keeps U' w' L' hp' U'' w'' L'' hp'') :
    Keeps U w L hp U'' w'' L'' hp'' := by
  refine ⟨fun k hk => h'.used k (h.used k hk), fun b hb => ?_, fun id r'' hr hu => ?_, fun id path ver hu hv hn => ?_⟩
  · obtain ⟨h1, h2⟩ := h.prot b hb
    obtain ⟨h3, h4⟩ := h'.prot b h1
    exact ⟨h3, h4.trans h2⟩
  · obtain ⟨r', h1, h2⟩ := h'.root id r'' hr (h.used _ hu)
    obtain ⟨r, h3, h4⟩ := h.root id r' h1 hu
    exact ⟨r, h3, fun c => Nat.le_trans (h4 c) (h2 c)⟩
  · obtain ⟨h1, h2⟩ := h'.node id path ver (h.used _ hu) (h.verLe hu hv) hn
    obtain ⟨h3, h4⟩ := h.node id path ver hu hv h1
    refine ⟨h3, fun b hb => ?_⟩
    obtain ⟨h5, h6⟩ := h4 b hb
    obtain ⟨h7, h8⟩ := h2 b h5
    refine ⟨h7, fun cur e hc => ?_⟩
    obtain ⟨c1, h9, h10⟩ := h6 cur e hc
    obtain ⟨c2, h11, h12⟩ := h8 c1 e h9
    exact ⟨c2, h11, h12.trans h10⟩

mutual
theorem Rep.mono [Use] {U U' : Nat → Prop} {w w' : World} {L L' : Lab} {hp hp' : Hp} (h : Keeps U w L hp U' w' L' hp') : ∀ (a : A) (u : Value), Rep U w L hp a u → Rep U' w' L' hp' a u
  | .i k n, u, hi => hi
  | .b v, u, hi => hi
  | .s true sz len cs, u, hi => by simpa [Rep] using hi
  | .s false sz len cs, u, hi => by
    simp only [Rep] at hi ⊢
    exact Imm.mono (P := isProt L) (P' := isProt L') (isProt_mono h.prot) _ _ hi
  | .ref id path ver off sz len, u, hi => by
    simp only [Rep] at hi ⊢
    obtain ⟨hu, hv, ao, cap, h1, h2, h3, h4⟩ := hi
    refine ⟨h.used _ hu, h.verLe hu hv, ao, cap, h1, h2, h3, fun hn => ?_⟩
    obtain ⟨hn', hb'⟩ := h.node id path ver hu hv hn
    rcases h4 hn' with h5 | ⟨b, cur, e, e1, e2, e3, e4⟩
    · exact .inl h5
    · obtain ⟨e5, e6⟩ := hb' b e2
      obtain ⟨cur', e7, e8⟩ := e6 cur e e3
      exact .inr ⟨b, cur', e, e1, e5, e7, by rw [e8]; exact e4⟩
  | .ptr id path ver off, u, hi => by
    simp only [Rep] at hi ⊢
    obtain ⟨hu, hv, ad, h1, h2⟩ := hi
    refine ⟨h.used _ hu, h.verLe hu hv, ad, h1, fun hn => ?_⟩
    obtain ⟨hn', hb'⟩ := h.node id path ver hu hv hn
    obtain ⟨b, e1, e2⟩ := h2 hn'
    exact ⟨b, e1, (hb' b e2).1⟩
  | .ep cs, u, hi => by
    simp only [Rep] at hi ⊢
    obtain ⟨a, h1, h2, h3⟩ := hi
    exact ⟨a, h1, h2, h3.imp id fun ⟨e1, e2⟩ => ⟨(isProt_mono h.prot _ e1).1, ImmL.mono (P := isProt L) (P' := isProt L') (isProt_mono h.prot) cs a.block a.off e1 e2⟩⟩
  | .agg xs, u, hi => by
    simp only [Rep] at hi ⊢
    obtain ⟨us, h1, h2⟩ := hi
    exact ⟨us, h1, RepL.mono h xs us.toList h2⟩
  | .tup xs, u, hi => by
    simp only [Rep] at hi ⊢
    obtain ⟨us, h1, h2⟩ := hi
    exact ⟨us, h1, RepL.mono h xs us.toList h2⟩
  | .und, _, _ => by simp [Rep]
theorem RepL.mono [Use] {U U' : Nat → Prop} {w w' : World} {L L' : Lab} {hp hp' : Hp} (h : Keeps U w L hp U' w' L' hp') : ∀ (xs : List A) (us : List Value), RepL U w L hp xs us → RepL U' w' L' hp' xs us
  | [], [], _ => by simp [RepL]
  | x :: xs, u :: us, hi => by
    simp only [RepL] at hi ⊢
    exact ⟨Rep.mono h x u hi.1, RepL.mono h xs us hi.2⟩
  | [], _ :: _, hi => by simp [RepL] at hi
  | _ :: _, [], hi => by simp [RepL] at hi
end

/-- The heap of roots lies in the world; what was there before the call is held as it was. -/
structure HRel [Use] (w0 : World) (L0 : Lab) (U : Nat → Prop) (hp : Hp) (w : World) (L : Lab) : Prop where
  roots : ∀ id r, hp id = some r → ∃ u, Own w L (.s true r.sz r.len r.cs) id [] u
  inj : ∀ b b' id p, L b = .at id p → L b' = .at id p → b = b'
  free : ∀ b, w.heap.size ≤ b → L b = .free
  used : ∀ b id p, L b = .at id p → U id.1
  usedR : ∀ id r, hp id = some r → U id.1
  prot : ∀ b, L0 b = .prot → L b = .prot ∧ w.heap[b]? = w0.heap[b]?
  size : w0.heap.size ≤ w.heap.size
  os : w.os = w0.os
  tape : w.tape = w0.tape
  output : w.output = w0.output
  use : ∀ b, L0 b ≠ .prot → Use.B b
  frz : ∀ b c e f, L0 b ≠ .prot → w.heap[b]? = some (.cells c e f) → f = (0, 0)

/-! ### Nodes -/

theorem OwnL.get [Use] {w : World} {L : Lab} {id : Id} {p : List Nat} : ∀ (cs : List A) (k : Nat) (us : List Value), OwnL w L cs id p k us → ∀ j c, cs[j]? = some c →
    ∃ u, us[j]? = some u ∧ u.oneCell' = true ∧ Own w L c id (p ++ [k + j]) u
  | [], _, _, _, j, c, h => by simp at h
  | c0 :: cs, k, u :: us, hi, 0, c, h => by
    simp only [OwnL] at hi
    simp at h
    subst h
    exact ⟨u, by simp, hi.1.1, by simpa using hi.1.2⟩
  | c0 :: cs, k, u :: us, hi, j + 1, c, h => by
    simp only [OwnL] at hi
    obtain ⟨u', h1, h2, h3⟩ := OwnL.get cs (k + 1) us hi.2 j c (by simpa using h)
    exact ⟨u', by simpa using h1, h2, by rwa [show k + (j + 1) = k + 1 + j from by omega]⟩
  | _ :: _, _, [], hi, _, _, _ => by simp [OwnL] at hi

theorem OwnL.intro [Use] {w : World} {L : Lab} {id : Id} {p : List Nat} : ∀ (cs : List A) (k : Nat) (us : List Value),
    (∀ j c, cs[j]? = some c → ∃ u, us[j]? = some u ∧ u.oneCell' = true ∧ Own w L c id (p ++ [k + j]) u) → OwnL w L cs id p k us
  | [], _, _, _ => by simp [OwnL]
  | c :: cs, k, [], h => by
    obtain ⟨u, h1, _⟩ := h 0 c (by simp)
    simp at h1
  | c :: cs, k, u :: us, h => by
    simp only [OwnL]
    obtain ⟨u', h1, h2, h3⟩ := h 0 c (by simp)
    simp at h1
    subst h1
    refine ⟨⟨h2, by simpa using h3⟩, OwnL.intro cs (k + 1) us fun j c' hc => ?_⟩
    obtain ⟨u', h4, h5, h6⟩ := h (j + 1) c' (by simpa using hc)
    exact ⟨u', by simpa using h4, h5, by rwa [show k + 1 + j = k + (j + 1) from by omega]⟩

/-- The node at a path is owned at that path. -/
theorem Own.getP [Use] {w : World} {L : Lab} {id : Id} : ∀ (q p : List Nat) (sz len : Nat) (cs : List A) (u : Value) (x : Nat × Nat × List A), Own w L (.s true sz len cs) id p u → getP sz len cs q = some x →
    ∃ u', Own w L (.s true x.1 x.2.1 x.2.2) id (p ++ q) u'
  | [], p, sz, len, cs, u, x, h, hg => by
    simp [TM.getP] at hg
    subst hg
    exact ⟨u, by simpa using h⟩
  | c :: q, p, sz, len, cs, u, x, h, hg => by
    simp only [TM.getP] at hg
    split at hg
    · rename_i sz' len' cs' hc
      simp only [Own] at h
      rcases h with ⟨_, _, rfl⟩ | ⟨b, cur, e, cap, h1, h2, h3, h4, h5, h6, h7, h8⟩
      · simp at hc
      · obtain ⟨u', h9, h10, h11⟩ := OwnL.get cs 0 cur.toList h8 c _ hc
        simp only [Nat.zero_add] at h11
        obtain ⟨u'', h12⟩ := Own.getP q (p ++ [c]) sz' len' cs' u' x h11 hg
        exact ⟨u'', by simpa using h12⟩
    · cases hg

/-- What is known of a node whose block is known. -/
theorem HRel.node [Use] {w0 : World} {L0 : Lab} {U : Nat → Prop} {hp : Hp} {w : World} {L : Lab} (h : HRel w0 L0 U hp w L) {id : Id} {path : List Nat} {ver sz len : Nat} {cs : List A}
    (hn : node hp id path ver = some (sz, len, cs)) : ∃ u, Own w L (.s true sz len cs) id path u := by
  unfold TM.node at hn
  split at hn
  · rename_i r hr
    split at hn
    · obtain ⟨u, hu⟩ := h.roots id r hr
      obtain ⟨u', h'⟩ := Own.getP path [] _ _ _ u _ hu hn
      exact ⟨u', by simpa using h'⟩
    · cases hn
  · cases hn

theorem HRel.block [Use] {w0 : World} {L0 : Lab} {U : Nat → Prop} {hp : Hp} {w : World} {L : Lab} (h : HRel w0 L0 U hp w L) {id : Id} {path : List Nat} {ver sz len : Nat} {cs : List A}
    (hn : TM.node hp id path ver = some (sz, len, cs)) {b : Nat} (hb : L b = .at id path) (hc : cs ≠ []) :
    ∃ cur e cap, w.heap[b]? = some (.cells cur e (0, 0)) ∧ cur.size = cap * sz ∧ len ≤ cap ∧ cap ≤ maxLen ∧ cs.length = len * sz ∧ OwnL w L cs id path 0 cur.toList := by
  obtain ⟨u, hu⟩ := h.node hn
  simp only [Own] at hu
  rcases hu with ⟨_, _, rfl⟩ | ⟨b', cur, e, cap, h1, h2, h3, h4, h5, h6, h7, h8⟩
  · exact (hc rfl).elim
  · obtain rfl := h.inj b b' id path hb h2
    exact ⟨cur, e, cap, h3, h4, h5, h6, h7, h8⟩

end Go.TM
