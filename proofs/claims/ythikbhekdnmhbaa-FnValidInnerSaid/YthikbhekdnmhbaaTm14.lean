/- The tree machine, 14: how a call ends. -/
import Derived.Test.YthikbhekdnmhbaaTm13
namespace Go.TM
set_option linter.unusedVariables false
set_option linter.unusedSimpArgs false

section
variable {w0 w w' : World} {L0 L Lc' : Lab} {U U' : Nat → Prop} {hp : Hp} {m : Nat}

theorem HRel.all {Bc : Use} (h : HRel w0 L0 U hp w L) : (∀ id r, hp id = some r → ∃ u, Own w L (.s true r.sz r.len r.cs) id [] u) ∧ (∀ b b' id p, L b = .at id p → L b' = .at id p → b = b') ∧ (∀ b, w.heap.size ≤ b → L b = .free) ∧
    (∀ b, L0 b = .prot → L b = .prot ∧ w.heap[b]? = w0.heap[b]?) ∧ w0.heap.size ≤ w.heap.size ∧ w.os = w0.os ∧ w.tape = w0.tape ∧ w.output = w0.output ∧ (∀ b c e f, L0 b ≠ .prot → w.heap[b]? = some (.cells c e f) → f = (0, 0)) :=
  ⟨h.roots, h.inj, h.free, h.prot, h.size, h.os, h.tape, h.output, h.frz⟩

theorem end_ok (B : Use) (h : HRel w0 L0 (addU U m) hp w L) (hm : ¬ U m) (hfresh : ∀ k, hp (m, k) = none) (hLm : ∀ b k p, L b = .at (m, k) p → k = 999 ∧ ∃ j q, p = j :: q)
    {ios : List (Id × List Nat)} {shs : List (Nat × Nat)} {outs : List (List A)} {us : List (Id × Option Root)} {r : A} {v : Value} {bor : Bool} (ho : outsOf hp ios outs = some us) (hn : nodupB (idsOf ios) = true)
    (hshl : shs.length = ios.length) (hsh : ∀ (t : Nat) id path, ios[t]? = some (id, path) → ∃ r x, hp id = some r ∧ getP r.sz r.len r.cs path = some x ∧ shs[t]? = some (x.1, x.2.1))
    (hc : @HRel (useC B L (labC L (m, 999) ios) bor) w (labC L (m, 999) ios) (fun _ => True) (ioHp shs outs) w' Lc') (hr : @ResOwn (useC B L (labC L (m, 999) ios) bor) w' Lc' 0 r v)
    (hsz : ∀ t b, t < shs.length → labC L (m, 999) ios b = .at (2, t) [] → Lc' b = .at (2, t) [] ∧ ∀ cur e, w.heap[b]? = some (.cells cur e (0, 0)) → ∃ cur', w'.heap[b]? = some (.cells cur' e (0, 0)) ∧ cur'.size = cur.size)
    (hcl : bor = true → cleanA r = true ∧ outs.all cleanL = true) :
    HRel w0 L0 (addU U m) (applyH hp us) w' (labB L (labC L (m, 999) ios) Lc' m ios) ∧ Keeps U w L hp U w' (labB L (labC L (m, 999) ios) Lc' m ios) (applyH hp us) ∧
      ResOwn w' (labB L (labC L (m, 999) ios) Lc' m ios) m r v ∧ ∀ k, applyH hp us (m, k) = none := by
  obtain ⟨c1, c2, c3, c4, c5, c6, c7, c8, c9⟩ := HRel.all hc
  obtain ⟨hids, hlen⟩ := outs_ids ho
  have hget := outs_get (hp := hp) hp ho hn
  have hpos : ∀ (t : Nat) id path, ios[t]? = some (id, path) → posOf (idsOf ios) id = some t := fun t id path ht => posOf_get hn (by rw [List.getElem?_map, ht]; rfl)
  have hio : ∀ id, id ∈ idsOf ios → ∃ (t : Nat) (path : List Nat), ios[t]? = some (id, path) := by
    intro id hid
    obtain ⟨⟨i, p⟩, he, rfl⟩ := List.mem_map.1 hid
    obtain ⟨t, ht⟩ := List.getElem?_of_mem he
    exact ⟨t, p, ht⟩
  have hmem : ∀ (t : Nat) id path, ios[t]? = some (id, path) → id ∈ idsOf ios := fun t id path ht => List.mem_map.2 ⟨(id, path), List.mem_of_getElem? ht, rfl⟩
  have hne : ∀ id, id ∈ idsOf ios → hp id ≠ none := by
    intro id hid
    obtain ⟨t, path, ht⟩ := hio id hid
    obtain ⟨r, cs, x, e1, _⟩ := hget t id path ht
    simp [e1]
  have hnm : ∀ id, id ∈ idsOf ios → id.1 ≠ m := by
    rintro ⟨i, k⟩ hid rfl
    exact hne _ hid (hfresh k)
  have hnt : ∀ id, id ∈ idsOf ios → id ≠ (m, 999) := by
    rintro id hid rfl
    exact hnm _ hid rfl
  have hoth : ∀ id, id ∉ idsOf ios → applyH hp us id = hp id := fun id hid => applyH_other us hp (by rw [hids]; exact hid)
  -- what the callee held from before
  have hold : ∀ b, labC L (m, 999) ios b = .prot → Lc' b = .prot ∧ w'.heap[b]? = w.heap[b]? := c4
  have hnp : ∀ b i p, Lc' b = .at i p → labC L (m, 999) ios b ≠ .prot := by
    intro b i p hb hp'
    rw [(hold b hp').1] at hb
    cases hb
  have hprot : ∀ b, L b = .prot → labB L (labC L (m, 999) ios) Lc' m ios b = .prot ∧ w'.heap[b]? = w.heap[b]? := by
    intro b hb
    exact ⟨by rw [labB_prot (labC_prot hb)]; exact hb, (hold b (labC_prot hb)).2⟩
  have hother : ∀ b id p, L b = .at id p → id.1 ≠ m → id ∉ idsOf ios → labB L (labC L (m, 999) ios) Lc' m ios b = .at id p ∧ w'.heap[b]? = w.heap[b]? := by
    intro b id p hb h1 h2
    have := labC_other (tid := (m, 999)) hb (by rintro rfl; exact h1 rfl) h2
    exact ⟨by rw [labB_prot this]; exact hb, (hold b this).2⟩
  have hoff : ∀ (t : Nat) id path b q, ios[t]? = some (id, path) → L b = .at id q → ¬ path <+: q → labB L (labC L (m, 999) ios) Lc' m ios b = .at id q ∧ w'.heap[b]? = w.heap[b]? := by
    intro t id path b q ht hb hq
    have := labC_off hb (hnt id (hmem t id path ht)) (hpos t id path ht) ht hq
    exact ⟨by rw [labB_prot this]; exact hb, (hold b this).2⟩
  have huse : bor = false → ∀ b, @isProt (useC B L (labC L (m, 999) ios) bor) Lc' b → @isProt B (labB L (labC L (m, 999) ios) Lc' m ios) b := by
    rintro rfl b ⟨h1, h2⟩
    rcases h2 with h2 | ⟨h2, h3⟩
    · cases h2
    · rcases h3 with h3 | h3
      · exact ⟨(hprot b h3).1, h2⟩
      · exact ⟨labB_frz h3 h1, h2⟩
  have hroot : ∀ id, id ∉ idsOf ios → hp id ≠ none → id.1 ≠ m := by
    rintro ⟨i, k⟩ _ h2 rfl
    exact h2 (hfresh k)
  refine ⟨⟨fun id r' hr' => ?_, fun b b' i p hb hb' => ?_, fun b hb => ?_, fun b i p hb => ?_, fun id r' hr' => ?_, fun b hb => ?_, Nat.le_trans h.size c5, c6.trans h.os, c7.trans h.tape, c8.trans h.output, h.use, fun b c e f hb hcl' => ?_⟩, ?_, ?_, ?_⟩
  · by_cases hid : id ∈ idsOf ios
    · obtain ⟨t, path, ht⟩ := hio id hid
      obtain ⟨r0, cs, x, e1, e2, e3, e4, e5⟩ := hget t id path ht
      rw [e5] at hr'
      cases hr'
      obtain ⟨r1, x1, g1, g2, g3⟩ := hsh t id path ht
      rw [e1] at g1
      cases g1
      rw [e3] at g2
      cases g2
      obtain ⟨u0, hu0⟩ := h.roots id r0 e1
      obtain ⟨u, hu⟩ := c1 (2, t) (newRoot x.1 x.2.1 cs) (by simp [ioHp, e2, g3])
      refine ⟨u0, own_lent (useC B L (labC L (m, 999) ios) bor) B hprot e3 e4 (fun b q hq hnp => hoff t id path b q ht hq hnp) (fun b hb => ?_) (fun b b' hb hb' => c2 b b' _ _ hb hb') (fun b q hq => labB_io (hnp _ _ _ hq) hq ht) ?_ (u' := u) hu hu0⟩
      · exact hsz t b (by rw [hshl]; exact (List.getElem?_eq_some_iff.1 ht).1) (labC_io (by simpa using hb) (hnt id hid) (hpos t id path ht) ht)
      · cases hb : bor with
        | true =>
          left
          have := (hcl hb).2
          simp only [List.all_eq_true] at this
          exact this cs (List.mem_of_getElem? e2)
        | false => subst hb; exact .inr fun b hb => huse rfl b hb
    · rw [hoth id hid] at hr'
      obtain ⟨u, hu⟩ := h.roots id r' hr'
      exact ⟨u, Own.move hprot _ [] [] u (fun b q hq => hother b id _ hq (hroot id hid (by simp [hr'])) hid) hu⟩
  · have mix : ∀ b b', labC L (m, 999) ios b = .prot → L b = .at i p → labC L (m, 999) ios b' ≠ .prot → ((∃ k, i = (m, k) ∧ Lc' b' = .at (0, k) p) ∨ ∃ t path q, ios[t]? = some (i, path) ∧ p = path ++ q ∧ Lc' b' = .at (2, t) q) → b = b' := by
      rintro b b' h1 h2 _ (⟨k, rfl, _⟩ | ⟨t, path, q, ht, rfl, _⟩)
      · obtain ⟨rfl, j, q, rfl⟩ := hLm b k p h2
        rw [labC_mv h2] at h1
        cases h1
      · rw [labC_io h2 (hnt _ (hmem t i path ht)) (hpos t i path ht) ht] at h1
        cases h1
    rcases labB_at hb with ⟨h1, h2⟩ | ⟨h1, k, rfl, h3⟩ | ⟨h1, t, path, q, h2, hpq, h3⟩
    · rcases labB_at hb' with ⟨g1, g2⟩ | ⟨g1, g2⟩ | ⟨g1, g2⟩
      · exact h.inj b b' i p h2 g2
      · exact mix b b' h1 h2 g1 (.inl g2)
      · exact mix b b' h1 h2 g1 (.inr g2)
    · rcases labB_at hb' with ⟨g1, g2⟩ | ⟨g1, k', g2, g3⟩ | ⟨g1, t', path', q', g2, _, g3⟩
      · exact (mix b' b g1 g2 h1 (.inl ⟨k, rfl, h3⟩)).symm
      · cases g2
        exact c2 b b' _ _ h3 g3
      · exact (hnm _ (hmem _ _ _ g2) rfl).elim
    · rcases labB_at hb' with ⟨g1, g2⟩ | ⟨g1, k', rfl, g3⟩ | ⟨g1, t', path', q', g2, hpq', g3⟩
      · exact (mix b' b g1 g2 h1 (.inr ⟨t, path, q, h2, hpq, h3⟩)).symm
      · exact (hnm _ (hmem _ _ _ h2) rfl).elim
      · have e1 := hpos _ _ _ h2
        rw [hpos _ _ _ g2] at e1
        cases e1
        rw [h2] at g2
        cases g2
        rw [hpq] at hpq'
        have := List.append_cancel_left hpq'
        subst this
        exact c2 b b' _ _ h3 g3
  · have h1 : L b = .free := h.free b (Nat.le_trans c5 hb)
    exact labB_free (by rw [labC_free h1]; simp) (c3 b hb)
  · rcases labB_at hb with ⟨_, h2⟩ | ⟨_, k, rfl, _⟩ | ⟨_, t, path, q, h2, _, _⟩
    · exact h.used b i p h2
    · exact .inr rfl
    · cases h3 : hp i with
      | none => exact (hne i (hmem _ _ _ h2) h3).elim
      | some r0 => exact h.usedR i r0 h3
  · by_cases hid : id ∈ idsOf ios
    · cases h3 : hp id with
      | none => exact (hne id hid h3).elim
      | some r0 => exact h.usedR id r0 h3
    · rw [hoth id hid] at hr'
      exact h.usedR id r' hr'
  · obtain ⟨e1, e2⟩ := h.prot b hb
    exact ⟨(hprot b e1).1, (hprot b e1).2.trans e2⟩
  · by_cases hl : labC L (m, 999) ios b = .prot
    · rw [(hold b hl).2] at hcl'
      exact h.frz b c e f hb hcl'
    · exact c9 b c e f hl hcl'
  · refine ⟨fun _ hk => hk, hprot, fun id r' hr' hu => ?_, fun id path ver hu hv hno => ?_⟩
    · by_cases hid : id ∈ idsOf ios
      · obtain ⟨t, path, ht⟩ := hio id hid
        obtain ⟨r0, cs, x, e1, e2, e3, e4, e5⟩ := hget t id path ht
        rw [e5] at hr'
        cases hr'
        refine ⟨r0, e1, fun c => ?_⟩
        simp only [lentRoot, bumpL]
        split
        · exact Nat.le_succ _
        · split <;> omega
      · rw [hoth id hid] at hr'
        exact ⟨r', hr', fun c => Nat.le_refl _⟩
    · have hidm : id.1 ≠ m := by intro e; rw [e] at hu; exact hm hu
      by_cases hid : id ∈ idsOf ios
      · obtain ⟨t, lp, ht⟩ := hio id hid
        obtain ⟨r0, cs, x, e1, e2, e3, e4, e5⟩ := hget t id lp ht
        have htl : t < shs.length := by rw [hshl]; exact (List.getElem?_eq_some_iff.1 ht).1
        -- a path that leads through what was lent is out of date
        cases lp with
        | nil =>
          cases path with
          | nil =>
            refine ⟨by simp [node, e1, verOk, getP], fun b hb => ?_⟩
            obtain ⟨f1, f2⟩ := hsz t b htl (labC_io (path := []) (by simpa using hb) (hnt id hid) (hpos t id [] ht) ht)
            exact ⟨by simpa using labB_io (hnp _ _ _ f1) f1 ht, f2⟩
          | cons c p =>
            exfalso
            apply hno
            have := hv r0 e1 c p rfl
            have hv' : verOk (lentRoot r0 [] cs) (c :: p) ver = false := by simp [verOk, lentRoot, bumpL]; omega
            simp [node, e5, hv']
        | cons c0 p0 =>
          cases path with
          | nil =>
            refine ⟨by simp [node, e1, verOk, getP], fun b hb => ?_⟩
            obtain ⟨f1, f2⟩ := hoff t id _ b [] ht hb (by simp)
            exact ⟨f1, fun cur e hcur => ⟨cur, by rw [f2]; exact hcur, rfl⟩⟩
          | cons c p =>
            by_cases hcc : c = c0
            · exfalso
              subst hcc
              apply hno
              have := hv r0 e1 c p rfl
              have hv' : verOk (lentRoot r0 (c :: p0) cs) (c :: p) ver = false := by simp [verOk, lentRoot, bumpL]; omega
              simp [node, e5, hv']
            · have hnode : node (applyH hp us) id (c :: p) ver = node hp id (c :: p) ver := by
                have : ∀ b, verOk (lentRoot r0 (c0 :: p0) cs) (c :: p) b = verOk r0 (c :: p) b := fun b => by simp [verOk, lentRoot, bumpL, hcc]
                simp only [node, e5, e1, this]
                simp only [lentRoot]
                rw [modP_ne _ c p hcc]
              rw [hnode] at hno
              refine ⟨hno, fun b hb => ?_⟩
              obtain ⟨f1, f2⟩ := hoff t id _ b _ ht hb (by simp; intro h; exact (hcc h.symm).elim)
              exact ⟨f1, fun cur e hcur => ⟨cur, by rw [f2]; exact hcur, rfl⟩⟩
      · have hnode : node (applyH hp us) id path ver = node hp id path ver := by unfold node; rw [hoth id hid]
        rw [hnode] at hno
        refine ⟨hno, fun b hb => ?_⟩
        obtain ⟨f1, f2⟩ := hother b id path hb hidm hid
        exact ⟨f1, fun cur e hcur => ⟨cur, by rw [f2]; exact hcur, rfl⟩⟩
  · refine resOwn_move (useC B L (labC L (m, 999) ios) bor) B r v ?_ (fun b j q hq => labB_new (hnp _ _ _ hq) hq) hr
    cases hb : bor with
    | true => exact .inl (hcl hb).1
    | false => subst hb; exact .inr (huse rfl)
  · intro k
    rw [hoth _ fun hid => hnm _ hid rfl]
    exact hfresh k

end
end Go.TM
