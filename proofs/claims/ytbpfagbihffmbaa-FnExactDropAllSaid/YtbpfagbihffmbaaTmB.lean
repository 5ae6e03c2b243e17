/- The tree machine, part B. -/
import Derived.Test.YtbpfagbihffmbaaTmA

/-! The tree machine, 9: append, on the frame. -/
namespace Go.TM
set_option linter.unusedVariables false
set_option linter.unusedSimpArgs false

section
variable {P : Program} {T : Nat → Option TI} {w0 : World} {L0 : Lab} {U : Nat → Prop} {w w' : World} {L L' : Lab} {hp : Hp} {sl : Nat → A} {a : Act} {o : Oper} {e : Eff} {m : Nat}

theorem keeps_row [Use] {U' : Nat → Prop} {id : Id} {r : Root} (hUU : ∀ k, U k → U' k) (hid : ¬ U id.1) (hk1 : ∀ b, L b = .prot → w'.heap[b]? = w.heap[b]?)
    (hk2 : ∀ i p b, U i.1 → L b = .at i p → w'.heap[b]? = w.heap[b]?) : Keeps U w L hp U' w' L (upd hp id (some r)) := by
  refine ⟨hUU, fun b hb => ⟨hb, hk1 b hb⟩, fun i r' hr hu => ?_, fun i p v hu hv hn => ?_⟩
  · rw [upd_ne _ _ _ _ (by rintro rfl; exact hid hu)] at hr
    exact ⟨r', hr, fun _ => Nat.le_refl _⟩
  · have hi : i ≠ id := by rintro rfl; exact hid hu
    have : node (upd hp id (some r)) i p v = node hp i p v := by unfold node; rw [upd_ne _ _ _ _ hi]
    rw [this] at hn
    exact ⟨hn, fun b hb => ⟨hb, fun cur e hc => ⟨cur, by rw [hk2 i p b hu hb]; exact hc, rfl⟩⟩⟩

/-- What the first argument of an append gives. -/
theorem dst_ok [Use] {sz : Nat} (hsz0 : 0 < sz) (h : HRel w0 L0 (addU U m) hp w L) (hm : ¬ U m) (hLm : ∀ b k p, k ≠ 998 → L b ≠ .at (m, k) p) (hno : ∀ k, hp (m, k) = none) {x : A} {u : Value} {dcs : List A} {dlen : Nat} {ups : List (Id × Option Root)} {rd : List Id}
    (hx : Rep U w L hp x u) (hs : dstOf hp sz x = some (dcs, dlen, ups, rd)) :
    ∃ L2 olds ao cap, u = .slice ao dlen cap ∧ olds.length = dlen * sz ∧ dlen ≤ cap ∧ cap ≤ maxLen ∧ OwnL w L2 dcs (m, 0) [] 0 olds ∧ dcs.length = olds.length ∧
      ((ao = none ∧ cap = 0 ∧ dlen = 0) ∨ ∃ b cur e, ao = some ⟨b, 0, none⟩ ∧ L2 b = .at (m, 0) [] ∧ w.heap[b]? = some (.cells cur e (0, 0)) ∧ cap * sz = cur.size ∧ olds = cur.toList.take (dlen * sz)) ∧
      HRel w0 L0 (addU U m) (applyH hp ups) w L2 ∧ Keeps U w L hp U w L2 (applyH hp ups) ∧ (∀ k, applyH hp ups (m, k) = none) ∧
      (∀ b p, L b = .at (m, 998) p → L2 b = .at (m, 998) p) ∧ (∀ b, L b = .prot → L2 b = .prot ∧ w.heap[b]? = w.heap[b]?) ∧ (∀ i ∈ ups.map (·.1), U i.1) := by
  unfold dstOf at hs
  split at hs
  · split at hs
    · cases hs
      simp only [Rep] at hx
      obtain ⟨rfl, _, _⟩ := hx
      exact ⟨L, [], none, 0, rfl, by simp, Nat.le_refl _, Nat.zero_le _, by simp [OwnL], rfl, .inl ⟨rfl, rfl, rfl⟩, h, Keeps.rfl', hno, fun _ _ hb => hb, fun _ hb => ⟨hb, rfl⟩, by simp⟩
    · cases hs
  · rename_i id path ver off sz' len
    split at hs
    · rename_i nsz nlen cs r hn hr
      split at hs
      · rename_i hcond
        obtain ⟨rfl, rfl, rfl, hle⟩ := hcond
        cases hs
        simp only [Rep] at hx
        obtain ⟨hU1, hvl, ao, cap, rfl, hlc, hmax, hx⟩ := hx
        obtain ⟨m1, m2, m3⟩ := move_ok (path := path) h hr (m, 0) [] (.inr rfl) (fun b q => hLm b 0 _ (by decide))
        have hidm : ∀ k, id ≠ (m, k) := by rintro k rfl; exact hm hU1
        obtain ⟨u1, hu1⟩ := h.node hn
        have hcsl : cs.length = nlen * nsz := by
          simp only [Own] at hu1
          rcases hu1 with ⟨_, rfl, rfl⟩ | ⟨_, _, _, _, _, _, _, _, _, _, h7, _⟩
          · simp
          · exact h7
        have hle' : dlen * nsz ≤ nlen * nsz := Nat.mul_le_mul_right _ hle
        have rest : HRel w0 L0 (addU U m) (applyH hp (cutH hp id path r)) w (relab L id path (m, 0) []) ∧ Keeps U w L hp U w (relab L id path (m, 0) []) (applyH hp (cutH hp id path r)) ∧ (∀ k, applyH hp (cutH hp id path r) (m, k) = none) ∧
            (∀ b p, L b = .at (m, 998) p → relab L id path (m, 0) [] b = .at (m, 998) p) ∧ (∀ b, L b = .prot → relab L id path (m, 0) [] b = .prot ∧ w.heap[b]? = w.heap[b]?) ∧ (∀ i ∈ (cutH hp id path r).map (·.1), U i.1) := by
          refine ⟨m1, m2.restrict fun k hk => addU_l hk, fun k => ?_, fun b p hb => ?_, m3, by simpa [cutH] using hU1⟩
          · rw [applyH_other _ _ (by simp only [cutH, List.map_cons, List.map_nil, List.mem_singleton]; exact fun e => hidm k e.symm)]
            exact hno k
          · rw [relab_other]
            · exact hb
            · intro q hq
              rw [hb] at hq
              simp only [Lbl.at.injEq] at hq
              exact hidm 998 hq.1.symm
        rcases hx (by simp [hn]) with ⟨rfl, rfl, rfl⟩ | ⟨b, cur, ee, rfl, hb, hh, hcap⟩
        · exact ⟨relab L id path (m, 0) [], [], none, 0, rfl, by simp, Nat.le_refl _, Nat.zero_le _, by simp [OwnL], by simp, .inl ⟨rfl, rfl, rfl⟩, rest⟩
        · have hb2 : relab L id path (m, 0) [] b = .at (m, 0) [] := by
            have := relab_moved (tid := (m, 0)) (tp := []) (q := []) (L := L) (b := b) (id := id) (p1 := path) (by simpa using hb)
            simpa using this
          have hcl : cur.toList.length = cur.size := by simp
          have hsz2 : dlen * nsz ≤ cap * nsz := Nat.mul_le_mul_right _ hlc
          refine ⟨relab L id path (m, 0) [], cur.toList.take (dlen * nsz), _, cap, rfl, by simp; omega, hlc, hmax, ?_, by simp; omega, .inr ⟨b, cur, ee, rfl, hb2, hh, by omega, rfl⟩, rest⟩
          by_cases hc0 : cs = []
          · subst hc0
            simp [OwnL]
          · obtain ⟨cur', ee', cap', k1, k2, k3, k4, k5, k6⟩ := h.block hn hb hc0
            rw [hh] at k1
            cases k1
            refine OwnL.intro _ _ _ fun j c hc => ?_
            rw [List.getElem?_take] at hc
            split at hc
            · rename_i hj
              obtain ⟨u', e1, e2, e3⟩ := OwnL.get cs 0 _ k6 j c hc
              refine ⟨u', by rw [List.getElem?_take, if_pos hj]; exact e1, e2, Own.move m3 c _ _ u' (fun b' q hq => ⟨?_, rfl⟩) e3⟩
              simp only [List.append_assoc, List.singleton_append] at hq
              have := relab_moved (tid := (m, 0)) (tp := []) hq
              simpa using this
            · cases hc
      · cases hs
    · cases hs
  · cases hs

theorem eff_append [Use] (hT : TabOk P T) (h : HRel w0 L0 U hp w L) (hs : Slots U w L hp sl a.tmps) (hm : ¬ U m) {c : Call} (ho : o.op = .call c) (hb : c.callee = .builtin .append)
    (he : (match c.args.toList, c.argTypes.toList with
      | [s, x], [t, t'] => if t = t' then match kindOf T t with
        | .slice e => match T e with
          | some ti => match srcOf hp (flatTI ti) ti.sz (ev T sl t x) with
            | some (scs, slen, us, rd) => match dstOf (applyH hp us) ti.sz (ev T sl t s) with
              | some (dcs, dlen, us', rd') =>
                if (dlen + slen) * ti.bytes ≤ 140737488355328 ∧ dlen + slen ≤ 140737488355328 ∧ 0 < ti.sz then
                  some (⟨.ref (m, 0) [] 0 0 ti.sz (dlen + slen), us ++ us' ++ [((m, 0), some (newRoot ti.sz (dlen + slen) (dcs ++ scs)))], rd ++ rd'⟩ : Eff)
                else none
              | none => none
            | none => none
          | none => none
        | _ => none
        else none
      | _, _ => none) = some e) : StepOk P w0 L0 U hp w L a o m e := by
  split at he
  · rename_i s x t t' hargs htys
    split at he
    · rename_i htt
      subst htt
      split at he
      · rename_i el hk
        have hu := hT.slice hk
        split at he
        · rename_i ti ht
          split at he
          · rename_i scs slen us rd hsrc
            split at he
            · rename_i dcs dlen us' rd' hdst
              split at he
              · rename_i hcond
                obtain ⟨hbytes, hlen, hsz0⟩ := hcond
                cases he
                have hti := hT el ti ht
                obtain ⟨i, z, i1, i2, i3, i4, i5⟩ := hti.info
                have hzl : z.cells.size = ti.sz := by have := congrArg List.length i5; simpa [hti.zlen] using this
                have h' : HRel w0 L0 (addU U m) hp w L := h.mono fun k hk => addU_l hk
                obtain ⟨L1, news, s1, s2, s3, s4, s5, s6, s7, s8⟩ := src_ok hsz0 h' hm (fun b k p => fresh_lab h hm k b p) (rep_ev (T := T) hs t x) hsrc
                have hmu : ∀ k, (m, k) ∉ us.map (·.1) := fun k hmem => hm (s8 _ hmem)
                obtain ⟨L2, olds, ao, cap, d1, d2, d3, d4, d5, d6, d7, d8, d9, d10, d11, d12, d13⟩ := dst_ok hsz0 s2 hm s7 (fun k => by rw [applyH_other _ _ (hmu k)]; exact fresh_root h hm k)
                  (Rep.mono s5 _ _ (rep_ev (T := T) hs t s)) hdst
                have hmu' : ∀ k, (m, k) ∉ us'.map (·.1) := fun k hmem => hm (d13 _ hmem)
                -- what is held ready, under the labels of the destination
                have hscs : OwnL w L2 scs (m, 998) [] 0 news := by
                  refine OwnL.intro _ _ _ fun j c hc => ?_
                  obtain ⟨u', e1, e2, e3⟩ := OwnL.get _ _ _ s3 j c hc
                  exact ⟨u', e1, e2, Own.move d12 c _ _ u' (fun b q hq => ⟨d11 b _ hq, rfl⟩) e3⟩
                have key : ∀ keep, HRel w0 L0 (addU U m) (applyH (applyH hp us) us') w (relabA L2 m keep (dlen * ti.sz)) ∧ Keeps U w L hp U w (relabA L2 m keep (dlen * ti.sz)) (applyH (applyH hp us) us') ∧
                    OwnL w (relabA L2 m keep (dlen * ti.sz)) (dcs ++ scs) (m, 0) [] 0 (olds ++ news) := by
                  intro keep
                  obtain ⟨r1, r2⟩ := relabA_ok d8 hm d10 keep (dlen * ti.sz)
                  refine ⟨r1, (s5.trans d9).trans r2, ownL_append d6.symm ?_ ?_⟩
                  · refine OwnL.intro _ _ _ fun j c hc => ?_
                    obtain ⟨u', e1, e2, e3⟩ := OwnL.get _ _ _ d5 j c hc
                    refine ⟨u', e1, e2, Own.move relabA_prot c _ _ u' (fun b q hq => ⟨?_, rfl⟩) e3⟩
                    simp only [List.nil_append, List.singleton_append] at hq ⊢
                    exact relabA_old hq (by have := (List.getElem?_eq_some_iff.1 hc).1; omega)
                  · refine OwnL.intro _ _ _ fun j c hc => ?_
                    obtain ⟨u', e1, e2, e3⟩ := OwnL.get _ _ _ hscs j c hc
                    refine ⟨u', e1, e2, Own.move relabA_prot c _ _ u' (fun b q hq => ⟨?_, rfl⟩) e3⟩
                    simp only [List.nil_append, List.singleton_append, Nat.zero_add] at hq ⊢
                    rw [relabA_new hq, d6, d2]
                have hcsl : (dcs ++ scs).length = (dlen + slen) * ti.sz := by
                  obtain ⟨_, _, _, n1, _⟩ := s1
                  rw [List.length_append, d6, d2, s4, n1, Nat.add_mul]
                have hnl : news.length = slen * ti.sz := by obtain ⟨_, _, _, n1, _⟩ := s1; exact n1
                have hups : applyH hp (us ++ us' ++ [((m, 0), some (newRoot ti.sz (dlen + slen) (dcs ++ scs)))]) = upd (applyH (applyH hp us) us') (m, 0) (some (newRoot ti.sz (dlen + slen) (dcs ++ scs))) := by
                  rw [applyH_append, applyH_append, applyH_one]
                have hca : c.args = #[s, x] := by cases hc : c.args; simp_all
                have hct : c.argTypes = #[t, t] := by cases hc : c.argTypes; simp_all
                have hexec : ∀ v w', (Builtin.append_ #[t, t] o.type #[a.eval s, a.eval x]).run P w = .ok v w' → (execOp a.eval o).run P w = .ok (.value v) w' := by
                  intro v w' hr
                  simp [execOp, ho, resolve, hb, hca, hct, invoke, builtin, hr]
                have s1' : SrcV w i.size (a.eval x) slen news := by rw [i2]; exact s1
                rw [show (⟨A.ref (m, 0) [] 0 0 ti.sz (dlen + slen), us ++ us' ++ [((m, 0), some (newRoot ti.sz (dlen + slen) (dcs ++ scs)))], rd ++ rd'⟩ : Eff) = ⟨A.ref (m, 0) [] 0 0 ti.sz (dlen + slen), us ++ us' ++ [((m, 0), some (newRoot ti.sz (dlen + slen) (dcs ++ scs)))], rd ++ rd'⟩ from rfl]
                unfold StepOk
                simp only [hups]
                -- the way on which a new array is made
                have grow : cap < dlen + slen → SrcV w i.size (a.eval s) dlen olds →
                    ∃ v w' L', (execOp a.eval o).run P w = .ok (.value v) w' ∧ HRel w0 L0 (addU U m) (upd (applyH (applyH hp us) us') (m, 0) (some (newRoot ti.sz (dlen + slen) (dcs ++ scs)))) w' L' ∧
                      Keeps U w L hp (addU U m) w' L' (upd (applyH (applyH hp us) us') (m, 0) (some (newRoot ti.sz (dlen + slen) (dcs ++ scs)))) ∧
                      Rep (addU U m) w' L' (upd (applyH (applyH hp us) us') (m, 0) (some (newRoot ti.sz (dlen + slen) (dcs ++ scs)))) (.ref (m, 0) [] 0 0 ti.sz (dlen + slen)) v := by
                  intro hc1 hsv
                  obtain ⟨k1, k2, k3⟩ := key false
                  have hrun := run_app_grow (P := P) (w := w) (ty := o.type) hu i1 i4 hsv ⟨ao, d1⟩ s1' hc1 (by omega) (by rw [i3]; exact hbytes)
                  have hge := grownCap_ge w (dlen + slen) cap el
                  have hmx := grownCap_le_maxLen w (dlen + slen) cap el (by simp only [maxLen]; omega)
                  have hsize : (olds.toArray ++ news.toArray ++ Builtin.zeroCells z.cells (grownCap w (dlen + slen) cap el - (dlen + slen))).size = grownCap w (dlen + slen) cap el * ti.sz := by
                    simp only [Array.size_append, List.size_toArray, size_zeroCells, hzl, d2, hnl, ← Nat.add_mul]
                    congr 1
                    omega
                  obtain ⟨L', f1, f2, f3, f4, f5⟩ := step_new h hm k1 k2 (sz := ti.sz) (len := dlen + slen) (cap := grownCap w (dlen + slen) cap el) (cur := olds.toArray ++ news.toArray ++ Builtin.zeroCells z.cells (grownCap w (dlen + slen) cap el - (dlen + slen))) 0
                    (by simpa using ownL_more (vs := (Builtin.zeroCells z.cells (grownCap w (dlen + slen) cap el - (dlen + slen))).toList) k3) hcsl hsize hge hmx (fun b hb' => by
                      rcases relabA_back hb' with ⟨e1, _⟩ | ⟨_, _, e1, _⟩ | ⟨_, j, q, e1, _⟩ | ⟨_, j, q, e1, _⟩ | ⟨e1, _⟩
                      · exact e1 rfl
                      · exact e1 rfl
                      · cases e1
                      · cases e1
                      · cases e1) (d10 0) w.drew (.inr rfl) (e := el)
                  exact ⟨_, _, L', hexec _ _ hrun, f1, f2, rep_newref (.inr rfl) f3 f4 hsize hge hmx⟩
                rcases d7 with ⟨rfl, rfl, rfl⟩ | ⟨b, cur, ee, rfl, q1, q2, q3, q4⟩
                · have holds : olds = [] := List.eq_nil_of_length_eq_zero (by simpa using d2)
                  subst holds
                  by_cases hsl : slen = 0
                  · subst hsl
                    have hdc0 : dcs ++ scs = [] := List.eq_nil_of_length_eq_zero (by simpa using hcsl)
                    obtain ⟨k1, k2, k3⟩ := key false
                    refine ⟨.slice none 0 0, w, relabA L2 m false (0 * ti.sz), ?_, ?_, ?_, ?_⟩
                    · refine hexec _ _ ?_
                      rw [d1]
                      exact run_app_nil hu i1 s1'
                    · refine addRoot k1 (u := .slice none 0 0) ?_ (.inr rfl)
                      simp only [newRoot, hdc0, Own]
                      left; simp
                    · exact k2.trans (keeps_root (fun k hk => addU_l hk) hm fun b hb => ⟨rfl, rfl⟩)
                    · simp only [Rep]
                      refine ⟨.inr rfl, fun r' _ c p hp' => (by cases hp'), none, 0, rfl, Nat.le_refl _, Nat.zero_le _, fun _ => .inl (by simp)⟩
                  · exact grow (by omega) ⟨none, 0, d1, by simp, by simp, .inl rfl⟩
                · have hone : ∀ u ∈ olds, u.oneCell' = true := by
                    intro u hu'
                    obtain ⟨j, hj⟩ := List.getElem?_of_mem hu'
                    have hjl : j < dcs.length := by rw [d6]; exact (List.getElem?_eq_some_iff.1 hj).1
                    obtain ⟨u', e1, e2, _⟩ := OwnL.get _ _ _ d5 j _ (List.getElem?_eq_getElem hjl)
                    rw [hj] at e1
                    cases e1
                    exact e2
                  by_cases hroom : dlen + slen ≤ cap
                  · obtain ⟨k1, k2, k3⟩ := key true
                    have hmul : (dlen + slen) * ti.sz ≤ cap * ti.sz := Nat.mul_le_mul_right _ hroom
                    rw [Nat.add_mul] at hmul
                    have hrun := run_app_room (P := P) (w := w) (ty := o.type) hu i1 q2 s1' hroom (by rw [i2, hnl]; omega)
                    rw [i2, ← d1] at hrun
                    generalize hcur' : (cur.toList.take (dlen * ti.sz) ++ news ++ cur.toList.drop (dlen * ti.sz + news.length)).toArray = cur' at hrun
                    have hcl : cur.toList.length = cur.size := by simp
                    have hcur'sz : cur'.size = cap * ti.sz := by rw [← hcur']; simp; omega
                    have hcur'l : cur'.toList = olds ++ news ++ cur.toList.drop (dlen * ti.sz + news.length) := by rw [← hcur', q4]
                    have hLb : relabA L2 m true (dlen * ti.sz) b = .at (m, 0) [] := relabA_block q1
                    obtain ⟨f1, f2⟩ := setRow_ok k1 hLb (fun r hr => by rw [d10 0] at hr; cases hr) cur'
                    have hwb : (w.setRow b cur').heap[b]? = some (.cells cur' ee (0, 0)) := setRow_heap w b cur cur' ee _ q2
                    have hown : Own (w.setRow b cur') (relabA L2 m true (dlen * ti.sz)) (.s true (newRoot ti.sz (dlen + slen) (dcs ++ scs)).sz (newRoot ti.sz (dlen + slen) (dcs ++ scs)).len (newRoot ti.sz (dlen + slen) (dcs ++ scs)).cs) (m, 0) [] (.slice (some ⟨b, 0, none⟩) (dlen + slen) cap) := by
                      simp only [newRoot, Own]
                      refine .inr ⟨b, cur', ee, cap, rfl, hLb, hwb, hcur'sz, hroom, d4, hcsl, ?_⟩
                      rw [hcur'l]
                      refine OwnL.intro _ _ _ fun j c hc => ?_
                      obtain ⟨u', e1, e2, e3⟩ := OwnL.get _ _ _ (ownL_more (vs := cur.toList.drop (dlen * ti.sz + news.length)) k3) j c hc
                      refine ⟨u', e1, e2, Own.move (fun b' hb' => ⟨hb', f2 b' (by rintro rfl; rw [hLb] at hb'; cases hb')⟩) c _ _ u' (fun b' q hq => ⟨hq, f2 b' ?_⟩) e3⟩
                      rintro rfl
                      rw [hLb] at hq
                      simp at hq
                    refine ⟨_, _, relabA L2 m true (dlen * ti.sz), hexec _ _ hrun, addRoot f1 hown (.inr rfl), ?_, ?_⟩
                    · refine k2.trans (keeps_row (fun k hk => addU_l hk) hm (fun b' hb' => f2 b' (by rintro rfl; rw [hLb] at hb'; cases hb')) fun i p b' hi hb' => f2 b' ?_)
                      rintro rfl
                      rw [hLb] at hb'
                      cases hb'
                      exact hm hi
                    · exact rep_newref (.inr rfl) hLb hwb hcur'sz hroom d4
                  · exact grow (by omega) ⟨_, cap, d1, by rw [i2]; exact d2, hone, .inr ⟨_, rfl, fun j v hj => by
                      rw [add_lit, cell_row q2, Nat.zero_add]
                      rw [q4, List.getElem?_take] at hj
                      split at hj
                      · exact hj
                      · cases hj⟩⟩
              · cases he
            · cases he
          · cases he
        · cases he
      · cases he
    · cases he
  · cases he

end
end Go.TM

/-! The tree machine, 10: what is held, seen by two calls. -/
namespace Go.TM
set_option linter.unusedVariables false
set_option linter.unusedSimpArgs false

mutual
/-- An owned part, held for one call and for another. -/
theorem Own.moveU (B1 B2 : Use) {w w' : World} {L L' : Lab} {id id' : Id} :
    ∀ (a : A) (p p' : List Nat) (u : Value), (cleanA a = true ∨ ∀ b, @isProt B1 L b → @isProt B2 L' b ∧ w'.heap[b]? = w.heap[b]?) →
      (∀ b q, L b = .at id (p ++ q) → L' b = .at id' (p' ++ q) ∧ w'.heap[b]? = w.heap[b]?) → @Own B1 w L a id p u → @Own B2 w' L' a id' p' u
  | .i k n, _, _, u, _, _, hi => by simpa [Own] using hi
  | .b v, _, _, u, _, _, hi => by simpa [Own] using hi
  | .s true sz len cs, p, p', u, hc, ha, hi => by
    simp only [Own] at hi ⊢
    rcases hi with hi | ⟨b, cur, e, cap, h1, h2, h3, h4, h5, h6, h7, h8⟩
    · exact .inl hi
    · have hb := ha b [] (by simpa using h2)
      exact .inr ⟨b, cur, e, cap, h1, by simpa using hb.1, hb.2.trans h3, h4, h5, h6, h7, OwnL.moveU B1 B2 cs p p' 0 cur.toList (hc.imp (fun h => by simpa [cleanA] using h) (fun h => h)) ha h8⟩
  | .s false sz len cs, _, _, u, hc, _, hi => by
    simp only [Own] at hi ⊢
    rcases hc with hc | hc
    · simp only [cleanA, List.isEmpty_iff] at hc
      subst hc
      simp only [Imm] at hi ⊢
      obtain ⟨ao, cap, h1, h2, h3, h4, _⟩ := hi
      exact ⟨ao, cap, h1, h2, h3, h4, by simp⟩
    · exact Imm.mono hc _ _ hi
  | .und, _, _, _, _, _, _ => by simp [Own]
  | .ref .., _, _, _, _, _, hi => by simp [Own] at hi
  | .ptr .., _, _, _, _, _, hi => by simp [Own] at hi
  | .ep _, _, _, _, _, _, hi => by simp [Own] at hi
  | .agg _, _, _, _, _, _, hi => by simp [Own] at hi
  | .tup _, _, _, _, _, _, hi => by simp [Own] at hi
  | .ub, _, _, _, _, _, hi => by simp [Own] at hi
theorem OwnL.moveU (B1 B2 : Use) {w w' : World} {L L' : Lab} {id id' : Id} :
    ∀ (cs : List A) (p p' : List Nat) (k : Nat) (us : List Value), (cleanL cs = true ∨ ∀ b, @isProt B1 L b → @isProt B2 L' b ∧ w'.heap[b]? = w.heap[b]?) →
      (∀ b q, L b = .at id (p ++ q) → L' b = .at id' (p' ++ q) ∧ w'.heap[b]? = w.heap[b]?) → @OwnL B1 w L cs id p k us → @OwnL B2 w' L' cs id' p' k us
  | [], _, _, _, _, _, _, _ => by simp [OwnL]
  | c :: cs, p, p', k, u :: us, hc, ha, hi => by
    simp only [OwnL] at hi ⊢
    refine ⟨⟨hi.1.1, Own.moveU B1 B2 c (p ++ [k]) (p' ++ [k]) u (hc.imp (fun h => by simp [cleanL] at h; exact h.1) (fun h => h)) (fun b q hb => ?_) hi.1.2⟩,
      OwnL.moveU B1 B2 cs p p' (k + 1) us (hc.imp (fun h => by simp [cleanL] at h; exact h.2) (fun h => h)) ha hi.2⟩
    have := ha b ([k] ++ q) (by simpa using hb)
    simpa using this
  | _ :: _, _, _, _, [], _, _, hi => by simp [OwnL] at hi
end

mutual
/-- What is owned, as data that is read only. -/
theorem Own.imm [Use] {w : World} {L : Lab} {P : Nat → Prop} {id : Id} (hI : ∀ b, isProt L b → P b) :
    ∀ (a : A) (p : List Nat) (u : Value), (∀ b q, L b = .at id (p ++ q) → P b) → Own w L a id p u → Imm w P a u
  | .i k n, _, u, _, hi => by simpa [Own, Imm] using hi
  | .b v, _, u, _, hi => by simpa [Own, Imm] using hi
  | .s true sz len cs, p, u, ha, hi => by
    simp only [Own] at hi
    simp only [Imm]
    rcases hi with ⟨rfl, rfl, rfl⟩ | ⟨b, cur, e, cap, rfl, h2, h3, h4, h5, h6, h7, h8⟩
    · exact ⟨none, 0, rfl, Nat.le_refl _, Nat.zero_le _, by simp, .inl rfl⟩
    · refine ⟨_, cap, rfl, h5, h6, h7, .inr ⟨_, rfl, rfl, ha b [] (by simpa using h2), ?_⟩⟩
      refine OwnL.imm hI cs p 0 cur.toList b 0 ha (fun j v hj => ?_) h8
      rw [cell_row h3]
      simpa using hj
  | .s false sz len cs, _, u, _, hi => by
    simp only [Own] at hi
    exact Imm.mono (fun b hb => ⟨hI b hb, rfl⟩) _ _ hi
  | .und, _, _, _, _ => by simp [Imm]
  | .ref .., _, _, _, hi => by simp [Own] at hi
  | .ptr .., _, _, _, hi => by simp [Own] at hi
  | .ep _, _, _, _, hi => by simp [Own] at hi
  | .agg _, _, _, _, hi => by simp [Own] at hi
  | .tup _, _, _, _, hi => by simp [Own] at hi
  | .ub, _, _, _, hi => by simp [Own] at hi
theorem OwnL.imm [Use] {w : World} {L : Lab} {P : Nat → Prop} {id : Id} (hI : ∀ b, isProt L b → P b) :
    ∀ (cs : List A) (p : List Nat) (k : Nat) (us : List Value) (b j : Nat), (∀ b q, L b = .at id (p ++ q) → P b) → (∀ i v, us[i]? = some v → w.cell? ⟨b, j + i, none⟩ = some v) → OwnL w L cs id p k us → ImmL w P cs b j
  | [], _, _, _, _, _, _, _, _ => by simp [ImmL]
  | c :: cs, p, k, u :: us, b, j, ha, hb, hi => by
    simp only [OwnL] at hi
    simp only [ImmL]
    refine ⟨⟨u, by simpa using hb 0 u rfl, hi.1.1, Own.imm hI c (p ++ [k]) u (fun b q hq => ha b ([k] ++ q) (by simpa using hq)) hi.1.2⟩, OwnL.imm hI cs p (k + 1) us b (j + 1) ha (fun i v hv => ?_) hi.2⟩
    have := hb (i + 1) v (by simpa using hv)
    rwa [show j + (i + 1) = j + 1 + i from by omega] at this
  | _ :: _, _, _, [], _, _, _, _, hi => by simp [OwnL] at hi
end

/-- Where an id stands in a list. -/
def posOf : List Id → Id → Option Nat
  | [], _ => none
  | x :: xs, i => if x = i then some 0 else (posOf xs i).map (· + 1)

theorem posOf_some : ∀ {xs : List Id} {i : Id} {t : Nat}, posOf xs i = some t → xs[t]? = some i
  | [], _, _, h => by simp [posOf] at h
  | x :: xs, i, t, h => by
    unfold posOf at h
    split at h
    · cases h; simp_all
    · cases hp : posOf xs i with
      | none => simp [hp] at h
      | some t' => simp [hp] at h; subst h; simpa using posOf_some hp

theorem posOf_none : ∀ {xs : List Id} {i : Id}, posOf xs i = none → i ∉ xs
  | [], _, _ => by simp
  | x :: xs, i, h => by
    unfold posOf at h
    split at h
    · cases h
    · rename_i hx
      cases hp : posOf xs i with
      | none => simp only [List.mem_cons, not_or]; exact ⟨fun e => hx e.symm, posOf_none hp⟩
      | some t' => simp [hp] at h

theorem posOf_mem : ∀ {xs : List Id} {i : Id}, i ∈ xs → ∃ t, posOf xs i = some t := by
  intro xs i h
  cases hp : posOf xs i with
  | none => exact (posOf_none hp h).elim
  | some t => exact ⟨t, rfl⟩

theorem posOf_get : ∀ {xs : List Id} {i : Id} {t : Nat}, nodupB xs = true → xs[t]? = some i → posOf xs i = some t
  | [], _, _, _, h => by simp at h
  | x :: xs, i, 0, _, h => by simp at h; simp [posOf, h]
  | x :: xs, i, t + 1, hn, h => by
    simp only [List.getElem?_cons_succ] at h
    simp only [nodupB, Bool.and_eq_true, List.all_eq_true] at hn
    have hx : x ≠ i := by
      have := hn.1 i (List.mem_of_getElem? h)
      rintro rfl
      simp at this
    simp [posOf, hx, posOf_get hn.2 h]

end Go.TM

/-! The tree machine, 11: what a call is given. -/
namespace Go.TM
set_option linter.unusedVariables false
set_option linter.unusedSimpArgs false

/-- Closed cells, each owned under an id of its own. -/
def Owns [Use] (w : World) (L : Lab) (m : Nat) : Nat → List A → List Value → Prop
  | _, [], [] => True
  | k, c :: cs, u :: us => (u.oneCell' = true ∧ Own w L c (m, k) [] u) ∧ Owns w L m (k + 1) cs us
  | _, _, _ => False

def Res1 [Use] (w : World) (L : Lab) (m k : Nat) : A → Value → Prop
  | .agg xs, u => ∃ us : Array Value, u = .agg us ∧ Owns w L m k xs us.toList
  | .ep cs, u => ∃ b cap, u = .pointer (some ⟨b, 0, none⟩) ∧ L b = .at (m, k) [] ∧ Own w L (.s true cs.length 1 cs) (m, k) [] (.slice (some ⟨b, 0, none⟩) 1 cap)
  | .tup _, _ => False
  | c, u => u.oneCell' = true ∧ Own w L c (m, k) [] u

def ResT [Use] (w : World) (L : Lab) (m : Nat) : Nat → List A → List Value → Prop
  | _, [], [] => True
  | k, c :: cs, u :: us => Res1 w L m k c u ∧ ResT w L m (k + (cellsA c).length) cs us
  | _, _, _ => False

/-- A result, closed, whose arrays are held under the instance m. -/
def ResOwn [Use] (w : World) (L : Lab) (m : Nat) : A → Value → Prop
  | .tup xs, u => ∃ us : Array Value, u = .tuple us ∧ ResT w L m 0 xs us.toList
  | c, u => Res1 w L m 0 c u

def ioHp (shs : List (Nat × Nat)) (outs : List (List A)) : Hp := fun id => if id.1 = 2 then (match shs[id.2]?, outs[id.2]? with
    | some sh, some cs => some (newRoot sh.1 sh.2 cs)
    | _, _ => none) else none

/-- What holds when a call has returned. -/
def Post [Use] (w : World) (L : Lab) (shs : List (Nat × Nat)) (r : A) (outs : List (List A)) (e : Ending) (w' : World) : Prop :=
  ∃ v L', e = .returned v ∧ HRel w L (fun _ => True) (ioHp shs outs) w' L' ∧ ResOwn w' L' 0 r v ∧
    ∀ t b, t < shs.length → L b = .at (2, t) [] → L' b = .at (2, t) [] ∧ ∀ cur e, w.heap[b]? = some (.cells cur e (0, 0)) → ∃ cur', w'.heap[b]? = some (.cells cur' e (0, 0)) ∧ cur'.size = cur.size

def lt3 : Nat → Prop := fun k => k < 3

/-- A function's call does what the model says. -/
structure Contract (P : Program) (f : Nat) (M : Model) : Prop where
  calls : ∀ (B : Use) (w : World) (L : Lab) (vals : Array Value) (args : List A) (r : A) (outs : List (List A)), M.fn args = some (r, outs) → HRel w L lt3 (initHp 0 0 M.kinds args) w L →
    (∀ j, Rep lt3 w L (initHp 0 0 M.kinds args) (initSl 0 0 0 M.kinds args j) (vals.getD j undef)) → vals.size = args.length → Calls P f vals w (Post w L (shsOf M.kinds args) r outs)
  clean : M.clean = true → ∀ args r outs, M.fn args = some (r, outs) → cleanA r = true ∧ outs.all cleanL = true

section
variable {P : Program} {T : Nat → Option TI} {w0 : World} {L0 : Lab} {U : Nat → Prop} {w w' : World} {L L' : Lab} {hp : Hp} {m : Nat}

theorem normL_map : ∀ (cs : List A), normL cs = cs.map norm
  | [] => rfl
  | c :: cs => by simp only [normL, List.map_cons]; rw [normL_map cs]

mutual
theorem Imm.norm {Q : Nat → Prop} : ∀ (a : A) (u : Value), Imm w Q a u → Imm w Q (TM.norm a) u
  | .s o sz len cs, u, h => by
    simp only [Imm, TM.norm] at h ⊢
    obtain ⟨ao, cap, h1, h2, h3, h4, h5⟩ := h
    refine ⟨ao, cap, h1, h2, h3, by rw [normL_map]; simpa using h4, h5.imp (fun e => by rw [e]; rfl) fun ⟨a, e1, e2, e3, e4⟩ => ⟨a, e1, e2, e3, ImmL.norm cs _ _ e4⟩⟩
  | .i k n, _, h => h
  | .b v, _, h => h
  | .und, _, h => h
  | .ref .., _, h => h
  | .ptr .., _, h => h
  | .ep _, _, h => h
  | .agg _, _, h => h
  | .tup _, _, h => h
  | .ub, _, h => h
theorem ImmL.norm {Q : Nat → Prop} : ∀ (cs : List A) (b k : Nat), ImmL w Q cs b k → ImmL w Q (normL cs) b k
  | [], _, _, _ => by simp [normL, ImmL]
  | c :: cs, b, k, h => by
    simp only [ImmL, normL] at h ⊢
    obtain ⟨⟨u, h1, h2, h3⟩, h4⟩ := h
    exact ⟨⟨u, h1, h2, Imm.norm c u h3⟩, ImmL.norm cs b (k + 1) h4⟩
end

theorem snap1_imm {B : Use} (h : HRel w0 L0 U hp w L) {Q : Nat → Prop} (hI : ∀ b, isProt L b → Q b) {v c : A} {u : Value} {rd : List Id} (hv : Rep U w L hp v u) (hs : snap1 hp v = some (c, rd))
    (hR : ∀ id ∈ rd, ∀ b q, L b = .at id q → Q b) : Imm w Q c u := by
  unfold snap1 at hs
  split at hs
  · cases hs; simpa [Rep, Imm] using hv
  · cases hs; simpa [Rep, Imm] using hv
  · rename_i o sz len cs
    cases hs
    suffices h0 : Imm w Q (.s false sz len cs) u by simpa only [TM.norm] using Imm.norm _ _ h0
    cases o with
    | true =>
      simp only [Rep] at hv
      obtain ⟨rfl, rfl, rfl⟩ := hv
      simp only [Imm]
      exact ⟨none, 0, rfl, Nat.le_refl _, Nat.zero_le _, by simp, by simp⟩
    | false =>
      simp only [Rep] at hv
      have := Imm.mono (P' := Q) (fun b hb => ⟨hI b hb, rfl⟩) _ _ hv
      simpa [Imm] using this
  · rename_i id path ver off sz len
    split at hs
    · rename_i nsz nlen cs hn
      split at hs
      · rename_i hcond
        obtain ⟨rfl, hfit⟩ := hcond
        cases hs
        suffices h0 : Imm w Q (.s false sz len (rng cs off (len * sz))) u by simpa only [TM.norm] using Imm.norm _ _ h0
        obtain ⟨u1, hu1⟩ := h.node hn
        simp only [Rep] at hv
        obtain ⟨_, _, ao, cap, rfl, hlc, hmax, hv⟩ := hv
        have hcsl : cs.length = nlen * sz := by
          simp only [Own] at hu1
          rcases hu1 with ⟨_, rfl, rfl⟩ | ⟨_, _, _, _, _, _, _, _, _, _, h7, _⟩
          · simp
          · exact h7
        simp only [Imm]
        refine ⟨ao, cap, rfl, hlc, hmax, by simp [rng]; omega, ?_⟩
        rcases hv (by simp [hn]) with ⟨rfl, rfl, rfl⟩ | ⟨b, cur, e, rfl, hb, hh, hc⟩
        · left; simp [rng]
        · by_cases hc0 : cs = []
          · subst hc0; left; simp [rng]
          · right
            obtain ⟨cur', e', cap', k1, _, _, _, _, k6⟩ := h.block hn hb hc0
            refine ⟨_, rfl, rfl, hR id (by simp) b path hb, ?_⟩
            have := OwnL.imm (P := Q) hI cs path 0 cur'.toList b 0 (fun b' q hq => hR id (by simp) b' _ hq) (fun i v hv => by rw [cell_row k1]; simpa using hv) k6
            simpa using ImmL.rng cs 0 off (len * sz) this
      · cases hs
    · cases hs
  · cases hs

theorem imm_rep3 {B : Use} {V : Nat → Prop} {hpc : Hp} {c : A} {u : Value} (h : Imm w (isProt L) c u) : Rep V w L hpc (imm1 c) u := by
  cases c <;> simp_all [Imm, imm1, Rep]

theorem imm_agg {Q : Nat → Prop} {c : A} {u : Value} (h : Imm w Q c u) : immV c = imm1 c := by
  cases c <;> simp_all [Imm, immV]

theorem snapL_imm {B : Use} (h : HRel w0 L0 U hp w L) {Q : Nat → Prop} (hI : ∀ b, isProt L b → Q b) : ∀ {vs cs : List A} {us : List Value} {rd : List Id}, RepL U w L hp vs us → snapL hp vs = some (cs, rd) →
    (∀ id ∈ rd, ∀ b q, L b = .at id q → Q b) → cs.length = us.length ∧ ∀ (j : Nat) c u, cs[j]? = some c → us[j]? = some u → Imm w Q c u
  | [], _, us, _, hv, hs, _ => by
    cases us with
    | nil => cases hs; simp
    | cons u us => simp [RepL] at hv
  | v :: vs, _, us, _, hv, hs, hR => by
    cases us with
    | nil => simp [RepL] at hv
    | cons u us =>
      simp only [RepL] at hv
      unfold snapL at hs
      split at hs
      · rename_i c rd cs rds h1 h2
        cases hs
        have e1 := snap1_imm h hI hv.1 h1 fun id hid => hR id (by simp [hid])
        obtain ⟨e2, e3⟩ := snapL_imm h hI hv.2 h2 fun id hid => hR id (by simp [hid])
        refine ⟨by simp [e2], fun j c' u' hc hu => ?_⟩
        cases j with
        | zero => simp at hc hu; subst hc; subst hu; exact e1
        | succ j => exact e3 j c' u' (by simpa using hc) (by simpa using hu)
      · cases hs

end

theorem repL_of_get {B : Use} {V : Nat → Prop} {w : World} {L : Lab} {hp : Hp} : ∀ {xs : List A} {us : List Value}, xs.length = us.length → (∀ (j : Nat) c u, xs[j]? = some c → us[j]? = some u → Rep V w L hp c u) → RepL V w L hp xs us
  | [], [], _, _ => by simp [RepL]
  | [], _ :: _, h, _ => by simp at h
  | _ :: _, [], h, _ => by simp at h
  | x :: xs, u :: us, h, hj => by
    simp only [RepL]
    exact ⟨hj 0 x u rfl rfl, repL_of_get (by simpa using h) fun j c v hc hv => hj (j + 1) c v (by simpa using hc) (by simpa using hv)⟩

/-- An argument that is only read, as the callee has it. -/
theorem snap_rep (B Bc : Use) {w0 w : World} {L0 L Lc : Lab} {U V : Nat → Prop} {hp hpc : Hp} (h : @HRel B w0 L0 U hp w L) (hI : ∀ b, @isProt B L b → @isProt Bc Lc b) {v c : A} {u : Value} {rd : List Id}
    (hv : @Rep B U w L hp v u) (hs : snap hp v = some (c, rd)) (hR : ∀ id ∈ rd, ∀ b q, L b = .at id q → @isProt Bc Lc b) : @Rep Bc V w Lc hpc (immV c) u := by
  unfold snap at hs
  split at hs
  · rename_i xs
    simp only [Option.map_eq_some_iff] at hs
    obtain ⟨⟨cs, rd'⟩, h1, h2⟩ := hs
    cases h2
    simp only [Rep] at hv
    obtain ⟨us, rfl, hv⟩ := hv
    obtain ⟨e1, e2⟩ := snapL_imm h hI hv h1 hR
    simp only [immV, Rep]
    refine ⟨us, rfl, repL_of_get (by simpa using e1) fun j c u hc hu => ?_⟩
    rw [List.getElem?_map] at hc
    cases hj : cs[j]? with
    | none => simp [hj] at hc
    | some c' =>
      simp [hj] at hc
      subst hc
      exact imm_rep3 (e2 j c' u hj hu)
  · have := snap1_imm h hI hv hs hR
    rw [imm_agg this]
    exact imm_rep3 this

end Go.TM

/-! The tree machine, 12: the state in which a call begins. -/
namespace Go.TM
set_option linter.unusedVariables false
set_option linter.unusedSimpArgs false

def stripP : List Nat → List Nat → Option (List Nat)
  | [], q => some q
  | a :: p, b :: q => if a = b then stripP p q else none
  | _ :: _, [] => none

theorem stripP_app (p q : List Nat) : stripP p (p ++ q) = some q := by
  induction p with
  | nil => rfl
  | cons a p ih => simp [stripP, ih]

theorem stripP_some : ∀ {p q s : List Nat}, stripP p q = some s → q = p ++ s
  | [], q, s, h => by simp [stripP] at h; simp [h]
  | a :: p, b :: q, s, h => by
    unfold stripP at h
    split at h
    · rename_i e; rw [stripP_some h, e]; rfl
    · cases h
  | _ :: _, [], _, h => by simp [stripP] at h

theorem stripP_none {p q : List Nat} (h : ¬ p <+: q) : stripP p q = none := by
  cases hs : stripP p q with
  | none => rfl
  | some s => exact (h ⟨s, (stripP_some hs).symm⟩).elim

abbrev idsOf (ios : List (Id × List Nat)) : List Id := ios.map (·.1)

/-- The caller's labels as the callee has them. -/
def labC (L : Lab) (tid : Id) (ios : List (Id × List Nat)) : Lab := fun b => match L b with
  | .free => .free
  | .prot => .prot
  | .at i p => if i = tid then (match p with
      | k :: q => .at (1, k) q
      | [] => .prot) else match posOf (idsOf ios) i with
    | some t => (match ios[t]? with
      | some e => match stripP e.2 p with
        | some q => .at (2, t) q
        | none => .prot
      | none => .prot)
    | none => .prot

theorem labC_prot {L : Lab} {tid : Id} {ios : List (Id × List Nat)} {b : Nat} (h : L b = .prot) : labC L tid ios b = .prot := by simp [labC, h]
theorem labC_free {L : Lab} {tid : Id} {ios : List (Id × List Nat)} {b : Nat} (h : L b = .free) : labC L tid ios b = .free := by simp [labC, h]
theorem labC_mv {L : Lab} {tid : Id} {ios : List (Id × List Nat)} {b k : Nat} {q : List Nat} (h : L b = .at tid (k :: q)) : labC L tid ios b = .at (1, k) q := by simp [labC, h]
theorem labC_io {L : Lab} {tid : Id} {ios : List (Id × List Nat)} {b t : Nat} {id : Id} {path q : List Nat} (h : L b = .at id (path ++ q)) (hid : id ≠ tid) (ht : posOf (idsOf ios) id = some t) (hp : ios[t]? = some (id, path)) :
    labC L tid ios b = .at (2, t) q := by simp only [labC, h, if_neg hid, ht, hp, stripP_app]
theorem labC_other {L : Lab} {tid : Id} {ios : List (Id × List Nat)} {b : Nat} {id : Id} {q : List Nat} (h : L b = .at id q) (hid : id ≠ tid) (ht : id ∉ idsOf ios) : labC L tid ios b = .prot := by
  simp only [labC, h, if_neg hid]
  cases hp : posOf (idsOf ios) id with
  | none => rfl
  | some t => exact (ht (List.mem_of_getElem? (posOf_some hp))).elim
theorem labC_off {L : Lab} {tid : Id} {ios : List (Id × List Nat)} {b t : Nat} {id : Id} {path q : List Nat} (h : L b = .at id q) (hid : id ≠ tid) (ht : posOf (idsOf ios) id = some t) (hp : ios[t]? = some (id, path)) (hq : ¬ path <+: q) :
    labC L tid ios b = .prot := by simp only [labC, h, if_neg hid, ht, hp, stripP_none hq]

theorem labC_at {L : Lab} {tid : Id} {ios : List (Id × List Nat)} {b : Nat} {i : Id} {p : List Nat} (h : labC L tid ios b = .at i p) :
    (∃ k, i = (1, k) ∧ L b = .at tid (k :: p)) ∨ ∃ t id path, i = (2, t) ∧ posOf (idsOf ios) id = some t ∧ ios[t]? = some (id, path) ∧ id ≠ tid ∧ L b = .at id (path ++ p) := by
  unfold labC at h
  split at h
  · cases h
  · cases h
  · rename_i i' p' hb
    split at h
    · rename_i hi
      subst hi
      split at h
      · cases h; exact .inl ⟨_, rfl, hb⟩
      · cases h
    · rename_i hi
      split at h
      · rename_i t ht
        split at h
        · rename_i e he
          split at h
          · rename_i q hq
            cases h
            have h1 := posOf_some ht
            rw [List.getElem?_map, he] at h1
            simp only [Option.map_some, Option.some.injEq] at h1
            exact .inr ⟨t, i', e.2, rfl, ht, by rw [he, ← h1], hi, by rw [hb, stripP_some hq]⟩
          · cases h
        · cases h
      · cases h

/-- What the callee may use as data that nobody writes. -/
abbrev useC (B : Use) (L Lc : Lab) (bor : Bool) : Use := ⟨fun b => bor = true ∨ (@Use.B B b ∧ (L b = .prot ∨ Lc b ≠ .prot))⟩

theorem useC_prot {B : Use} {L : Lab} {bor : Bool} {tid : Id} {ios : List (Id × List Nat)} {b : Nat} (h : @isProt B L b) : @isProt (useC B L (labC L tid ios) bor) (labC L tid ios) b :=
  ⟨labC_prot h.1, .inr ⟨h.2, .inl h.1⟩⟩

theorem snap1_ids {hp : Hp} {v c : A} {rd : List Id} (h : snap1 hp v = some (c, rd)) : ∀ id ∈ rd, hp id ≠ none := by
  unfold snap1 at h
  split at h
  · cases h; simp
  · cases h; simp
  · cases h; simp
  · split at h
    · rename_i hn
      split at h
      · cases h
        simp only [List.mem_singleton, forall_eq]
        intro h0
        simp [node, h0] at hn
      · cases h
    · cases h
  · cases h

theorem snapL_ids {hp : Hp} : ∀ {vs cs : List A} {rd : List Id}, snapL hp vs = some (cs, rd) → ∀ id ∈ rd, hp id ≠ none
  | [], _, _, h => by cases h; simp
  | v :: vs, _, _, h => by
    unfold snapL at h
    split at h
    · rename_i h1 h2
      cases h
      intro id hid
      rcases List.mem_append.1 hid with hid | hid
      · exact snap1_ids h1 id hid
      · exact snapL_ids h2 id hid
    · cases h

theorem snap_ids {hp : Hp} {v c : A} {rd : List Id} (h : snap hp v = some (c, rd)) : ∀ id ∈ rd, hp id ≠ none := by
  unfold snap at h
  split at h
  · simp only [Option.map_eq_some_iff] at h
    obtain ⟨⟨cs, rd'⟩, h1, h2⟩ := h
    cases h2
    exact snapL_ids h1
  · exact snap1_ids h

/-- A cell that the callee owns under an id of its own, as its parameter. -/
theorem own_rootRef {B : Use} {w : World} {L : Lab} {hpc : Hp} {V : Nat → Prop} {id : Id} {c : A} {u : Value} (hV : V id.1) (h : Own w L c id [] u) : Rep V w L hpc (rootRef id c) u := by
  unfold rootRef
  split
  · rename_i sz len cs
    simp only [Rep]
    refine ⟨hV, fun r _ c p hp => (by cases hp), ?_⟩
    simp only [Own] at h
    rcases h with ⟨rfl, rfl, rfl⟩ | ⟨b, cur, e, cap, rfl, h2, h3, h4, h5, h6, h7, h8⟩
    · exact ⟨none, 0, rfl, Nat.le_refl _, Nat.zero_le _, fun _ => .inl ⟨rfl, rfl, rfl⟩⟩
    · exact ⟨_, cap, rfl, h5, h6, fun _ => .inr ⟨b, cur, e, rfl, h2, h3, by omega⟩⟩
  · rename_i hne
    cases c with
    | i k n => simpa [Own, Rep] using h
    | b v => simpa [Own, Rep] using h
    | s o sz len cs =>
      cases o with
      | true => exact (hne _ _ _ rfl).elim
      | false => simpa [Own, Rep] using h
    | und => simp [Rep]
    | _ => simp [Own] at h

theorem own_rootOf {B : Use} {w : World} {L : Lab} {id : Id} {c : A} {u : Value} {r : Root} (hr : rootOf c = some r) (h : Own w L c id [] u) : Own w L (.s true r.sz r.len r.cs) id [] u := by
  unfold rootOf at hr
  split at hr
  · cases hr; exact h
  · cases hr

theorem own_root1 {B : Use} {w0 w : World} {L0 L : Lab} {U : Nat → Prop} {hp : Hp} (h : HRel w0 L0 U hp w L) {id : Id} {r : Root} (hr : hp id = some r) (h1 : r.len = 1) :
    ∃ u, Own w L (.s true r.cs.length 1 r.cs) id [] u := by
  obtain ⟨u, hu⟩ := h.roots id r hr
  refine ⟨u, ?_⟩
  have hl : r.cs.length = r.sz := by
    simp only [Own] at hu
    rcases hu with ⟨_, h2, _⟩ | ⟨b, cur, e, cap, _, _, _, _, _, _, h7, _⟩
    · omega
    · rw [h7, h1, Nat.one_mul]
  rwa [hl, ← h1]

section
variable {w0 w : World} {L0 L : Lab} {U U' : Nat → Prop} {hp : Hp} {tid : Id}

/-- An array that is lent, as the callee has it. -/
theorem start_ln1 (B : Use) (h : HRel w0 L0 U' hp w L) (htid : hp tid = none) (IOS : List (Id × List Nat)) (bor : Bool) {v c : A} {u : Value} {es : List (Id × List Nat)} {b : Nat} (hv : Rep U' w L hp v u) (hl : lnCell hp v = some (c, es))
    (hio : ∀ t e, es[t]? = some e → posOf (idsOf IOS) e.1 = some (b + t) ∧ IOS[b + t]? = some e) :
    (es = [] ∧ isScalar c = true ∧ (∀ hpc, @Rep (useC B L (labC L tid IOS) bor) lt3 w (labC L tid IOS) hpc c u)) ∨
    (es.length = 1 ∧ ∃ sz len cs, c = .s true sz len cs ∧ (∀ hpc, @Rep (useC B L (labC L tid IOS) bor) lt3 w (labC L tid IOS) hpc (.ref (2, b) [] 0 0 sz len) u) ∧ ∃ u', @Own (useC B L (labC L tid IOS) bor) w (labC L tid IOS) (.s true sz len cs) (2, b) [] u') := by
  unfold lnCell at hl
  split at hl
  · cases hl
    exact .inl ⟨rfl, rfl, fun hpc => by simpa [Rep] using hv⟩
  · cases hl
    exact .inl ⟨rfl, rfl, fun hpc => by simpa [Rep] using hv⟩
  · rename_i id path ver off sz len
    split at hl
    · rename_i nsz nlen cs hn
      split at hl
      · rename_i hcond
        obtain ⟨rfl, rfl, rfl⟩ := hcond
        cases hl
        right
        obtain ⟨hpos, hpos2⟩ : posOf (idsOf IOS) id = some b ∧ IOS[b]? = some (id, path) := by simpa using hio 0 (id, path) (by simp)
        have hidt : id ≠ tid := by
          rintro rfl
          simp [node, htid] at hn
        obtain ⟨u0, hu0⟩ := h.node hn
        have hown : @Own (useC B L (labC L tid IOS) bor) w (labC L tid IOS) (.s true sz len cs) (2, b) [] u0 :=
          Own.moveU B _ _ path [] u0 (.inr fun b' hb' => ⟨useC_prot hb', rfl⟩) (fun b' q hq => ⟨by rw [labC_io hq hidt hpos hpos2]; rfl, rfl⟩) hu0
        refine ⟨rfl, sz, len, cs, rfl, fun hpc => ?_, u0, hown⟩
        simp only [Rep] at hv ⊢
        obtain ⟨_, _, ao, cap, rfl, g1, g2, g3⟩ := hv
        refine ⟨by simp [lt3], fun r _ c p hp => (by cases hp), ao, cap, rfl, g1, g2, fun _ => ?_⟩
        rcases g3 (by simp [hn]) with g4 | ⟨blk, cur, et, g4, g5, g6, g7⟩
        · exact .inl g4
        · exact .inr ⟨blk, cur, et, g4, labC_io (by simpa using g5) hidt hpos hpos2, g6, g7⟩
      · cases hl
    · cases hl
  · cases hl

theorem lnRefs_s (b sz len : Nat) (xs cs : List A) : lnRefs b (.s true sz len xs :: cs) = .ref (2, b) [] 0 0 sz len :: lnRefs (b + 1) cs := rfl
theorem lnRefs_c {c : A} (h : isScalar c = true) (b : Nat) (cs : List A) : lnRefs b (c :: cs) = c :: lnRefs b cs := by cases c <;> first | rfl | simp [isScalar] at h
theorem lnRoots_c {c : A} (h : isScalar c = true) (b : Nat) (cs : List A) : lnRoots b (c :: cs) = lnRoots b cs := by cases c <;> first | rfl | simp [isScalar] at h

theorem start_lnL (B : Use) (h : HRel w0 L0 U' hp w L) (htid : hp tid = none) (IOS : List (Id × List Nat)) (bor : Bool) : ∀ (vs cs : List A) (us : List Value) (es : List (Id × List Nat)) (b : Nat), RepL U' w L hp vs us → lnCells hp vs = some (cs, es) →
    (∀ t e, es[t]? = some e → posOf (idsOf IOS) e.1 = some (b + t) ∧ IOS[b + t]? = some e) →
    (∀ hpc, @RepL (useC B L (labC L tid IOS) bor) lt3 w (labC L tid IOS) hpc (lnRefs b cs) us) ∧ ∀ id r, lnRoots b cs id = some r → id.1 < 3 ∧ ∃ u, @Own (useC B L (labC L tid IOS) bor) w (labC L tid IOS) (.s true r.sz r.len r.cs) id [] u
  | [], cs, us, es, b, hr, hl, hio => by
    cases hl
    cases us with
    | nil => exact ⟨fun _ => by simp [lnRefs, RepL], fun id r hr => by simp [lnRoots] at hr⟩
    | cons u us => simp [RepL] at hr
  | v :: vs, cs, us, es, b, hr, hl, hio => by
    cases us with
    | nil => simp [RepL] at hr
    | cons u us =>
      simp only [RepL] at hr
      unfold lnCells at hl
      split at hl
      · rename_i c e cs' es' h1 h2
        cases hl
        rcases start_ln1 B h htid IOS bor hr.1 h1 (b := b) (fun t e' ht => hio t e' (by rw [List.getElem?_append_left (List.getElem?_eq_some_iff.1 ht).1]; exact ht)) with ⟨rfl, g1, g2⟩ | ⟨g0, sz, len, xs, rfl, g2, g3⟩
        · obtain ⟨f1, f2⟩ := start_lnL B h htid IOS bor vs cs' us es' b hr.2 h2 (by simpa using hio)
          rw [lnRefs_c g1, lnRoots_c g1]
          exact ⟨fun hpc => by simp only [RepL]; exact ⟨g2 hpc, f1 hpc⟩, f2⟩
        · obtain ⟨f1, f2⟩ := start_lnL B h htid IOS bor vs cs' us es' (b + 1) hr.2 h2 (fun t e' ht => by
            rw [show b + 1 + t = b + (1 + t) from by omega]
            refine hio (1 + t) e' ?_
            rw [List.getElem?_append_right (by omega), g0]
            simpa using ht)
          rw [lnRefs_s]
          refine ⟨fun hpc => by simp only [RepL]; exact ⟨g2 hpc, f1 hpc⟩, fun id r hr' => ?_⟩
          simp only [lnRoots] at hr'
          split at hr'
          · rename_i hid
            subst hid
            cases hr'
            exact ⟨by simp, g3⟩
          · exact f2 id r hr'
      · cases hl

theorem start_ln (B : Use) (h : HRel w0 L0 U' hp w L) (htid : hp tid = none) (IOS : List (Id × List Nat)) (bor : Bool) {v c : A} {u : Value} {es : List (Id × List Nat)} {b : Nat} (hv : Rep U' w L hp v u) (hl : lnVal hp v = some (c, es))
    (hio : ∀ t e, es[t]? = some e → posOf (idsOf IOS) e.1 = some (b + t) ∧ IOS[b + t]? = some e) :
    (∀ hpc, @Rep (useC B L (labC L tid IOS) bor) lt3 w (labC L tid IOS) hpc (lnSlot b c) u) ∧ ∀ id r, lnRoots b (cellsA c) id = some r → id.1 < 3 ∧ ∃ u, @Own (useC B L (labC L tid IOS) bor) w (labC L tid IOS) (.s true r.sz r.len r.cs) id [] u := by
  unfold lnVal at hl
  split at hl
  · simp only [Option.map_eq_some_iff] at hl
    obtain ⟨⟨cs, es'⟩, h1, h2⟩ := hl
    cases h2
    simp only [Rep] at hv
    obtain ⟨us, rfl, hv⟩ := hv
    obtain ⟨f1, f2⟩ := start_lnL B h htid IOS bor _ _ _ _ b hv h1 hio
    exact ⟨fun hpc => by simp only [lnSlot, Rep]; exact ⟨us, rfl, f1 hpc⟩, by simpa [cellsA] using f2⟩
  · rcases start_ln1 B h htid IOS bor hv hl hio with ⟨rfl, g1, g2⟩ | ⟨g0, sz, len, xs, rfl, g2, g3⟩
    · refine ⟨fun hpc => ?_, fun id r hr => ?_⟩
      · have : lnSlot b c = c := by cases c <;> first | rfl | simp [isScalar] at g1
        rw [this]; exact g2 hpc
      · have : cellsA c = [c] := by cases c <;> first | rfl | simp [isScalar] at g1
        rw [this, lnRoots_c g1] at hr
        simp [lnRoots] at hr
    · refine ⟨fun hpc => ?_, fun id r hr => ?_⟩
      · simpa [lnSlot, lnRefs] using g2 hpc
      · simp only [cellsA, lnRoots] at hr
        split at hr
        · rename_i hid
          subst hid
          cases hr
          exact ⟨by simp, g3⟩
        · cases hr

theorem start_go (B : Use) (h : HRel w0 L0 U' hp w L) (htid : hp tid = none) (IOS : List (Id × List Nat)) (bor : Bool) :
    ∀ (ks : List Kind) (vs : List A) (us : List Value) (cs xs : List A) (rds : List Id) (ios : List (Id × List Nat)) (j0 a b : Nat), contsOf hp ks vs cs = some (xs, rds, ios) → RepL U' w L hp vs us → OwnL w L cs tid [] a (mvsOf ks us) →
      (∀ t e, ios[t]? = some e → posOf (idsOf IOS) e.1 = some (b + t) ∧ IOS[b + t]? = some e) → (∀ id ∈ rds, id ∉ idsOf IOS ∧ bor = true) →
      (∀ hpc j, @Rep (useC B L (labC L tid IOS) bor) lt3 w (labC L tid IOS) hpc (initSl j0 a b ks xs (j0 + j)) ((us[j]?).getD undef)) ∧ (∀ j, j < j0 → initSl j0 a b ks xs j = .und) ∧
      ∀ id r, initHp a b ks xs id = some r → id.1 < 3 ∧ ∃ u, @Own (useC B L (labC L tid IOS) bor) w (labC L tid IOS) (.s true r.sz r.len r.cs) id [] u
  | [], [], us, [], xs, rds, ios, j0, a, b, hc, hr, ho, hio, hrd => by
    cases hc
    refine ⟨fun hpc j => by simp [initSl, Rep], fun j _ => by simp [initSl], fun id r hr => by simp [initHp] at hr⟩
  | .ro :: ks, v :: vs, us, cs, xs, rds, ios, j0, a, b, hc, hr, ho, hio, hrd => by
    cases us with
    | nil => simp [RepL] at hr
    | cons u us =>
      simp only [RepL] at hr
      unfold contsOf at hc
      split at hc
      · rename_i c rd xs' rds' ios' h1 h2
        cases hc
        obtain ⟨e1, e2, e3⟩ := start_go B h htid IOS bor ks vs us cs xs' rds' ios (j0 + 1) a b h2 hr.2 (by simpa [mvsOf] using ho) hio fun id hid => hrd id (by simp [hid])
        refine ⟨fun hpc j => ?_, fun j hj => ?_, e3⟩
        · cases j with
          | zero =>
            simp only [initSl, Nat.add_zero, if_pos, List.getElem?_cons_zero, Option.getD_some]
            refine snap_rep B _ h (fun b' hb' => useC_prot hb') hr.1 h1 fun id hid b' q hq => ⟨labC_other hq ?_ (hrd id (by simp [hid])).1, .inl (hrd id (by simp [hid])).2⟩
            rintro rfl
            exact snap_ids h1 _ hid htid
          | succ j =>
            have := e1 hpc j
            simp only [initSl, List.getElem?_cons_succ]
            rw [if_neg (by omega), show j0 + (j + 1) = j0 + 1 + j from by omega]
            exact this
        · simp only [initSl]
          rw [if_neg (by omega)]
          exact e2 j (by omega)
      · cases hc
  | .mv :: ks, v :: vs, us, [], xs, rds, ios, j0, a, b, hc, hr, ho, hio, hrd => by simp [contsOf] at hc
  | .mv :: ks, v :: vs, us, c :: cs, xs, rds, ios, j0, a, b, hc, hr, ho, hio, hrd => by
    cases us with
    | nil => simp [RepL] at hr
    | cons u us =>
      simp only [RepL] at hr
      simp only [contsOf, Option.map_eq_some_iff] at hc
      obtain ⟨⟨xs', rds', ios'⟩, h2, h3⟩ := hc
      cases h3
      simp only [mvsOf, OwnL] at ho
      obtain ⟨e1, e2, e3⟩ := start_go B h htid IOS bor ks vs us cs xs' rds' ios' (j0 + 1) (a + 1) b h2 hr.2 ho.2 hio hrd
      have hown : @Own (useC B L (labC L tid IOS) bor) w (labC L tid IOS) c (1, a) [] u := Own.moveU B _ c ([] ++ [a]) [] u (.inr fun b' hb' => ⟨useC_prot hb', rfl⟩) (fun b' q hq => ⟨labC_mv (by simpa using hq), rfl⟩) ho.1.2
      refine ⟨fun hpc j => ?_, fun j hj => ?_, fun id r hr' => ?_⟩
      · cases j with
        | zero =>
          simp only [initSl, Nat.add_zero, if_pos, List.getElem?_cons_zero, Option.getD_some]
          exact own_rootRef (by simp [lt3]) hown
        | succ j =>
          have := e1 hpc j
          simp only [initSl, List.getElem?_cons_succ]
          rw [if_neg (by omega), show j0 + (j + 1) = j0 + 1 + j from by omega]
          exact this
      · simp only [initSl]
        rw [if_neg (by omega)]
        exact e2 j (by omega)
      · simp only [initHp] at hr'
        split at hr'
        · rename_i hid
          subst hid
          exact ⟨by simp, u, own_rootOf hr' hown⟩
        · exact e3 id r hr'
  | .io :: ks, v :: vs, us, cs, xs, rds, ios, j0, a, b, hc, hr, ho, hio, hrd => by
    cases us with
    | nil => simp [RepL] at hr
    | cons u us =>
      simp only [RepL] at hr
      simp only [contsOf] at hc
      split at hc
      · rename_i id ver
        split at hc
        · rename_i r hid
          split at hc
          · rename_i hlen
            simp only [Option.map_eq_some_iff] at hc
            obtain ⟨⟨xs', rds', ios'⟩, h2, h3⟩ := hc
            cases h3
            have hidt : id ≠ tid := by rintro rfl; rw [htid] at hid; cases hid
            obtain ⟨hpos, hpos2⟩ : posOf (idsOf IOS) id = some b ∧ IOS[b]? = some (id, []) := by simpa using hio 0 (id, []) (by simp)
            obtain ⟨e1, e2, e3⟩ := start_go B h htid IOS bor ks vs us cs xs' _ ios' (j0 + 1) a (b + 1) h2 hr.2 (by simpa [mvsOf] using ho)
              (fun t id' ht => by rw [show b + 1 + t = b + (t + 1) from by omega]; exact hio (t + 1) id' (by simpa using ht)) hrd
            obtain ⟨u0, hu0⟩ := own_root1 h hid hlen
            have hown : @Own (useC B L (labC L tid IOS) bor) w (labC L tid IOS) (.s true r.cs.length 1 r.cs) (2, b) [] u0 :=
              Own.moveU B _ _ [] [] u0 (.inr fun b' hb' => ⟨useC_prot hb', rfl⟩) (fun b' q hq => ⟨labC_io (path := []) (by simpa using hq) hidt hpos hpos2, rfl⟩) hu0
            refine ⟨fun hpc j => ?_, fun j hj => ?_, fun id' r' hr' => ?_⟩
            · cases j with
              | zero =>
                simp only [initSl, Nat.add_zero, if_pos, List.getElem?_cons_zero, Option.getD_some]
                have hrep := hr.1
                simp only [Rep] at hrep ⊢
                obtain ⟨_, _, ad, rfl, h5⟩ := hrep
                obtain ⟨blk, rfl, h6⟩ := h5 (by simp [node, hid, verOk, getP])
                exact ⟨by simp [lt3], fun r _ c p hp => (by cases hp), _, rfl, fun _ => ⟨blk, rfl, labC_io (path := []) (by simpa using h6) hidt hpos hpos2⟩⟩
              | succ j =>
                have := e1 hpc j
                simp only [initSl, List.getElem?_cons_succ]
                rw [if_neg (by omega), show j0 + (j + 1) = j0 + 1 + j from by omega]
                exact this
            · simp only [initSl]
              rw [if_neg (by omega)]
              exact e2 j (by omega)
            · simp only [initHp] at hr'
              split at hr'
              · rename_i hid'
                subst hid'
                cases hr'
                exact ⟨by simp, u0, by simpa [newRoot, cellsA] using hown⟩
              · exact e3 id' r' hr'
          · cases hc
        · cases hc
      · cases hc
  | [], _ :: _, us, cs, xs, rds, ios, j0, a, b, hc, hr, ho, hio, hrd => by simp [contsOf] at hc
  | [], [], us, _ :: _, xs, rds, ios, j0, a, b, hc, hr, ho, hio, hrd => by simp [contsOf] at hc
  | .ro :: _, [], us, cs, xs, rds, ios, j0, a, b, hc, hr, ho, hio, hrd => by simp [contsOf] at hc
  | .mv :: _, [], us, cs, xs, rds, ios, j0, a, b, hc, hr, ho, hio, hrd => by simp [contsOf] at hc
  | .io :: _, [], us, cs, xs, rds, ios, j0, a, b, hc, hr, ho, hio, hrd => by simp [contsOf] at hc
  | .ln n :: ks, v :: vs, us, cs, xs, rds, ios, j0, a, b, hc, hr, ho, hio, hrd => by
    cases us with
    | nil => simp [RepL] at hr
    | cons u us =>
      simp only [RepL] at hr
      simp only [contsOf] at hc
      split at hc
      · rename_i c es hv
        split at hc
        · rename_i hn
          simp only [Option.map_eq_some_iff] at hc
          obtain ⟨⟨xs', rds', ios'⟩, h2, h3⟩ := hc
          cases h3
          obtain ⟨e1, e2, e3⟩ := start_go B h htid IOS bor ks vs us cs xs' _ ios' (j0 + 1) a (b + n) h2 hr.2 (by simpa [mvsOf] using ho)
            (fun t e' ht => by
              rw [show b + n + t = b + (n + t) from by omega]
              refine hio (n + t) e' ?_
              rw [List.getElem?_append_right (by omega), hn]
              simpa using ht) hrd
          obtain ⟨s1, s2⟩ := start_ln B h htid IOS bor hr.1 hv (b := b) fun t e' ht => hio t e' (by
            rw [List.getElem?_append_left (List.getElem?_eq_some_iff.1 ht).1]; exact ht)
          refine ⟨fun hpc j => ?_, fun j hj => ?_, fun id' r' hr' => ?_⟩
          · cases j with
            | zero =>
              simp only [initSl, Nat.add_zero, if_pos, List.getElem?_cons_zero, Option.getD_some]
              exact s1 hpc
            | succ j =>
              have := e1 hpc j
              simp only [initSl, List.getElem?_cons_succ]
              rw [if_neg (by omega), show j0 + (j + 1) = j0 + 1 + j from by omega]
              exact this
          · simp only [initSl]
            rw [if_neg (by omega)]
            exact e2 j (by omega)
          · simp only [initHp] at hr'
            split at hr'
            · rename_i r1 hr1
              cases hr'
              exact s2 id' r' hr1
            · exact e3 id' r' hr'
        · cases hc
      · cases hc
  | .ln _ :: _, [], us, cs, xs, rds, ios, j0, a, b, hc, hr, ho, hio, hrd => by simp [contsOf] at hc

end
end Go.TM

/-! The tree machine, 13: how a call begins and ends. -/
namespace Go.TM
set_option linter.unusedVariables false
set_option linter.unusedSimpArgs false

section
variable {w0 w w' : World} {L0 L L' : Lab} {U U' : Nat → Prop} {hp : Hp} {tid : Id} {m : Nat}

theorem start_h (B : Use) (h : HRel w0 L0 U' hp w L) (ios : List (Id × List Nat)) (bor : Bool) {hpc : Hp}
    (hr : ∀ id r, hpc id = some r → id.1 < 3 ∧ ∃ u, @Own (useC B L (labC L tid ios) bor) w (labC L tid ios) (.s true r.sz r.len r.cs) id [] u) :
    @HRel (useC B L (labC L tid ios) bor) w (labC L tid ios) lt3 hpc w (labC L tid ios) := by
  refine @HRel.mk (useC B L (labC L tid ios) bor) _ _ _ _ _ _ (fun id r h1 => (hr id r h1).2) (fun b b' i p hb hb' => ?_) (fun b hb => labC_free (h.free b hb)) (fun b i p hb => ?_) (fun id r h1 => (hr id r h1).1) (fun b hb => ⟨hb, rfl⟩) (Nat.le_refl _) rfl rfl rfl (fun b hb => .inr ⟨h.use b (fun hp => hb (labC_prot (h.prot b hp).1)), .inr hb⟩) (fun b c e f hb hc => h.frz b c e f (fun hp => hb (labC_prot (h.prot b hp).1)) hc)
  · rcases labC_at hb with ⟨k, rfl, e1⟩ | ⟨t, id, path, rfl, e1, e2, e3, e4⟩
    · rcases labC_at hb' with ⟨k', f1, f2⟩ | ⟨t', id', path', f1, _⟩
      · cases f1
        exact h.inj b b' _ _ e1 f2
      · cases f1
    · rcases labC_at hb' with ⟨k', f1, f2⟩ | ⟨t', id', path', f1, f2, f3, f4, f5⟩
      · cases f1
      · cases f1
        rw [e2] at f3
        cases f3
        exact h.inj b b' _ _ e4 f5
  · rcases labC_at hb with ⟨k, rfl, _⟩ | ⟨t, id, path, rfl, _⟩ <;> simp [lt3]

/-- The labels behind a call. -/
def labB (L Lc Lc' : Lab) (m : Nat) (ios : List (Id × List Nat)) : Lab := fun b => if Lc b = .prot then L b else match Lc' b with
  | .at i p => if i.1 = 0 then .at (m, i.2) p else if i.1 = 2 then (match ios[i.2]? with
      | some e => .at e.1 (e.2 ++ p)
      | none => .free) else .free
  | .prot => .prot
  | .free => .free

theorem labB_prot {Lc Lc' : Lab} {ios : List (Id × List Nat)} {b : Nat} (h : Lc b = .prot) : labB L Lc Lc' m ios b = L b := by simp [labB, h]
theorem labB_new {Lc Lc' : Lab} {ios : List (Id × List Nat)} {b k : Nat} {p : List Nat} (h : Lc b ≠ .prot) (h' : Lc' b = .at (0, k) p) : labB L Lc Lc' m ios b = .at (m, k) p := by simp [labB, h, h']
theorem labB_io {Lc Lc' : Lab} {ios : List (Id × List Nat)} {b t : Nat} {id : Id} {path p : List Nat} (h : Lc b ≠ .prot) (h' : Lc' b = .at (2, t) p) (ht : ios[t]? = some (id, path)) : labB L Lc Lc' m ios b = .at id (path ++ p) := by simp [labB, h, h', ht]
theorem labB_frz {Lc Lc' : Lab} {ios : List (Id × List Nat)} {b : Nat} (h : Lc b ≠ .prot) (h' : Lc' b = .prot) : labB L Lc Lc' m ios b = .prot := by simp [labB, h, h']
theorem labB_free {Lc Lc' : Lab} {ios : List (Id × List Nat)} {b : Nat} (h : Lc b ≠ .prot) (h' : Lc' b = .free) : labB L Lc Lc' m ios b = .free := by simp [labB, h, h']

theorem labB_at {Lc Lc' : Lab} {ios : List (Id × List Nat)} {b : Nat} {i : Id} {p : List Nat} (h : labB L Lc Lc' m ios b = .at i p) :
    (Lc b = .prot ∧ L b = .at i p) ∨ (Lc b ≠ .prot ∧ ∃ k, i = (m, k) ∧ Lc' b = .at (0, k) p) ∨ (Lc b ≠ .prot ∧ ∃ t path q, ios[t]? = some (i, path) ∧ p = path ++ q ∧ Lc' b = .at (2, t) q) := by
  unfold labB at h
  split at h
  · exact .inl ⟨by assumption, h⟩
  · rename_i hp
    split at h
    · rename_i i' p' hb
      split at h
      · rename_i h0
        cases h
        exact .inr (.inl ⟨hp, i'.2, rfl, by rw [hb]; congr 1; exact Prod.ext h0 rfl⟩)
      · split at h
        · rename_i h2
          split at h
          · rename_i e hid
            cases h
            exact .inr (.inr ⟨hp, i'.2, e.2, p', hid, rfl, by rw [hb]; congr 1; exact Prod.ext h2 rfl⟩)
          · cases h
        · cases h
    · cases h
    · cases h

theorem outs_ids : ∀ {ios : List (Id × List Nat)} {outs : List (List A)} {us : List (Id × Option Root)}, outsOf hp ios outs = some us → us.map (·.1) = idsOf ios ∧ ios.length = outs.length
  | [], [], us, h => by cases h; simp
  | e :: es, cs :: outs, us, h => by
    unfold outsOf at h
    split at h
    · rename_i r us' h1 h2
      split at h
      · split at h
        · cases h
          obtain ⟨e1, e2⟩ := outs_ids h2
          simp [e1, e2]
        · cases h
      · cases h
    · cases h
  | [], _ :: _, _, h => by cases h
  | _ :: _, [], _, h => by cases h

theorem outs_get : ∀ {ios : List (Id × List Nat)} {outs : List (List A)} {us : List (Id × Option Root)} (hp1 : Hp), outsOf hp ios outs = some us → nodupB (idsOf ios) = true → ∀ (t : Nat) (id : Id) (path : List Nat), ios[t]? = some (id, path) →
    ∃ r cs x, hp id = some r ∧ outs[t]? = some cs ∧ getP r.sz r.len r.cs path = some x ∧ cs.length = x.2.2.length ∧ applyH hp1 us id = some (lentRoot r path cs)
  | [], [], us, _, h, _, t, id, path, ht => by simp at ht
  | e :: es, cs :: outs, us, hp1, h, hn, t, id, path, ht => by
    unfold outsOf at h
    split at h
    · rename_i r us' h1 h2
      split at h
      · rename_i x hx
        split at h
        · rename_i hlen
          cases h
          simp only [List.map_cons, nodupB, Bool.and_eq_true, List.all_eq_true] at hn
          cases t with
          | zero =>
            simp at ht
            subst ht
            refine ⟨r, cs, x, h1, rfl, hx, hlen, ?_⟩
            have hno : id ∉ us'.map (·.1) := by
              rw [(outs_ids h2).1]
              intro hm
              have := hn.1 _ hm
              simp at this
            change applyH (upd hp1 id _) us' id = _
            rw [applyH_other _ _ hno, upd_same]
          | succ t =>
            obtain ⟨r', cs', x', e1, e2, e3, e4, e5⟩ := outs_get (upd hp1 e.1 (some (lentRoot r e.2 cs))) h2 hn.2 t id path (by simpa using ht)
            exact ⟨r', cs', x', e1, by simpa using e2, e3, e4, e5⟩
        · cases h
      · cases h
    · cases h
  | [], _ :: _, _, _, h, _, _, _, _, _ => by cases h
  | _ :: _, [], _, _, h, _, _, _, _, _ => by cases h

/-- What is put at a node is put there alone. -/
theorem modP_at (f g : List A → List A) : ∀ (path : List Nat) (sz len : Nat) (cs : List A), (∀ x, getP sz len cs path = some x → f x.2.2 = g x.2.2) → modP f path cs = modP g path cs
  | [], sz, len, cs, h => by simpa [modP] using h (sz, len, cs) rfl
  | k :: path, sz, len, cs, h => by
    simp only [modP]
    split
    · rename_i sz' len' cs' hk
      rw [modP_at f g path sz' len' cs' fun x hx => h x (by simp only [getP, hk]; exact hx)]
    · rfl

theorem lent_shape {path : List Nat} (f : List A → List A) {sz len : Nat} {cs : List A} {x : Nat × Nat × List A} (h : getP sz len cs path = some x) : getP sz len (modP f path cs) path = some (x.1, x.2.1, f x.2.2) := by
  induction path generalizing sz len cs with
  | nil => simp [getP] at h; subst h; simp [getP, modP]
  | cons k path ih =>
    simp only [getP] at h
    split at h
    · rename_i sz' len' cs' hk
      have hlt : k < cs.length := (List.getElem?_eq_some_iff.1 hk).1
      simp only [modP, hk, getP, List.getElem?_set_self hlt]
      exact ih h
    · cases h

theorem modP_ne (f : List A → List A) {sz len : Nat} {cs : List A} {path : List Nat} {k : Nat} (c : Nat) (q : List Nat) (h : c ≠ k) : getP sz len (modP f (k :: path) cs) (c :: q) = getP sz len cs (c :: q) := by
  simp only [modP]
  split
  · simp only [getP]
    rw [List.getElem?_set_ne (fun e => h e.symm)]
  · rfl

/-- The lent array of a root has been turned. -/
theorem own_lent (B' B : Use) {w w' : World} {L L' Lc' : Lab} {id tid' : Id} {path : List Nat} {r : Root} {cs : List A} {x : Nat × Nat × List A} {u : Value}
    (hprot : ∀ b, L b = .prot → L' b = .prot ∧ w'.heap[b]? = w.heap[b]?) (hg : getP r.sz r.len r.cs path = some x) (hlen : cs.length = x.2.2.length)
    (hout : ∀ b q, L b = .at id q → ¬ path <+: q → L' b = .at id q ∧ w'.heap[b]? = w.heap[b]?)
    (hsz : ∀ b, L b = .at id path → Lc' b = .at tid' [] ∧ ∀ cur e, w.heap[b]? = some (.cells cur e (0, 0)) → ∃ cur', w'.heap[b]? = some (.cells cur' e (0, 0)) ∧ cur'.size = cur.size)
    (hinj : ∀ b b', Lc' b = .at tid' [] → Lc' b' = .at tid' [] → b = b')
    (hin : ∀ b q, Lc' b = .at tid' q → L' b = .at id (path ++ q)) (hcl : cleanL cs = true ∨ ∀ b, @isProt B' Lc' b → @isProt B L' b)
    {u' : Value} (hc : @Own B' w' Lc' (.s true x.1 x.2.1 cs) tid' [] u') (ho : Own w L (.s true r.sz r.len r.cs) id [] u) : Own w' L' (.s true r.sz r.len (lentRoot r path cs).cs) id [] u := by
  have e : (lentRoot r path cs).cs = modP (fun y => if y.length = cs.length then cs else y) path r.cs := by
    refine modP_at _ _ path r.sz r.len r.cs fun y hy => ?_
    rw [hg] at hy
    cases hy
    rw [if_pos hlen.symm]
  rw [e]
  refine Own.modP hprot _ (by cases cs <;> simp) path [] r.sz r.len r.cs u (fun b q hq hnp => by simpa using hout b q (by simpa using hq) hnp) (fun sz' len' cs' b cur et hg' hb hcur hol => ?_) ho
  rw [hg] at hg'
  cases hg'
  simp only [List.nil_append] at hb hol ⊢
  obtain ⟨f1, f2⟩ := hsz b hb
  obtain ⟨cur', f3, f4⟩ := f2 cur et hcur
  refine ⟨by simpa using hin b [] f1, cur', f3, f4, by rw [if_pos hlen.symm]; exact hlen, ?_⟩
  rw [if_pos hlen.symm]
  simp only [Own] at hc
  rcases hc with ⟨_, _, rfl⟩ | ⟨b', cur2, e2, cap, g1, g2, g3, g4, g5, g6, g7, g8⟩
  · simp [OwnL]
  · obtain rfl := hinj b b' f1 g2
    rw [f3] at g3
    cases g3
    have := OwnL.moveU B' B cs [] path 0 cur'.toList (hcl.imp (fun h => h) fun h b hb => ⟨h b hb, rfl⟩) (fun b q hq => ⟨hin b q (by simpa using hq), rfl⟩) g8
    exact this

theorem owns_move (B1 B2 : Use) {m1 m2 : Nat} : ∀ (cs : List A) (k : Nat) (us : List Value), (cleanL cs = true ∨ ∀ b, @isProt B1 L b → @isProt B2 L' b) → (∀ b j q, L b = .at (m1, j) q → L' b = .at (m2, j) q) →
    @Owns B1 w L m1 k cs us → @Owns B2 w L' m2 k cs us
  | [], k, [], _, _, _ => by simp [Owns]
  | c :: cs, k, u :: us, hc, hl, h => by
    simp only [Owns] at h ⊢
    exact ⟨⟨h.1.1, Own.moveU B1 B2 c [] [] u (hc.imp (fun e => by simp [cleanL] at e; exact e.1) fun e b hb => ⟨e b hb, rfl⟩) (fun b q hq => ⟨hl b k _ hq, rfl⟩) h.1.2⟩,
      owns_move B1 B2 cs (k + 1) us (hc.imp (fun e => by simp [cleanL] at e; exact e.2) fun e => e) hl h.2⟩
  | [], _, _ :: _, _, _, h => by simp [Owns] at h
  | _ :: _, _, [], _, _, h => by simp [Owns] at h

theorem res1_move (B1 B2 : Use) {m1 m2 : Nat} (r : A) (k : Nat) (u : Value) (hc : cleanA r = true ∨ ∀ b, @isProt B1 L b → @isProt B2 L' b) (hl : ∀ b j q, L b = .at (m1, j) q → L' b = .at (m2, j) q)
    (h : @Res1 B1 w L m1 k r u) : @Res1 B2 w L' m2 k r u := by
  cases r with
  | agg xs =>
    simp only [Res1] at h ⊢
    obtain ⟨us, rfl, h⟩ := h
    exact ⟨us, rfl, owns_move B1 B2 xs k _ (hc.imp (fun e => by simpa [cleanA] using e) fun e => e) hl h⟩
  | ep cs =>
    simp only [Res1] at h ⊢
    obtain ⟨b, cap, rfl, h1, h2⟩ := h
    exact ⟨b, cap, rfl, hl _ _ _ h1, Own.moveU B1 B2 _ [] [] _ (hc.imp (fun e => by simpa [cleanA] using e) fun e b hb => ⟨e b hb, rfl⟩) (fun b q hq => ⟨hl b k _ hq, rfl⟩) h2⟩
  | tup xs => simp [Res1] at h
  | _ =>
    simp only [Res1] at h ⊢
    exact ⟨h.1, Own.moveU B1 B2 _ [] [] u (hc.imp (fun e => e) fun e b hb => ⟨e b hb, rfl⟩) (fun b q hq => ⟨hl b k _ hq, rfl⟩) h.2⟩

theorem resT_move (B1 B2 : Use) {m1 m2 : Nat} (hl : ∀ b j q, L b = .at (m1, j) q → L' b = .at (m2, j) q) : ∀ (cs : List A) (k : Nat) (us : List Value), (cleanL cs = true ∨ ∀ b, @isProt B1 L b → @isProt B2 L' b) →
    @ResT B1 w L m1 k cs us → @ResT B2 w L' m2 k cs us
  | [], k, [], _, _ => by simp [ResT]
  | c :: cs, k, u :: us, hc, h => by
    simp only [ResT] at h ⊢
    exact ⟨res1_move B1 B2 c k u (hc.imp (fun e => by simp [cleanL] at e; exact e.1) fun e => e) hl h.1, resT_move B1 B2 hl cs _ us (hc.imp (fun e => by simp [cleanL] at e; exact e.2) fun e => e) h.2⟩
  | [], _, _ :: _, _, h => by simp [ResT] at h
  | _ :: _, _, [], _, h => by simp [ResT] at h

theorem resOwn_move (B1 B2 : Use) {m1 m2 : Nat} (r : A) (u : Value) (hc : cleanA r = true ∨ ∀ b, @isProt B1 L b → @isProt B2 L' b) (hl : ∀ b j q, L b = .at (m1, j) q → L' b = .at (m2, j) q)
    (h : @ResOwn B1 w L m1 r u) : @ResOwn B2 w L' m2 r u := by
  unfold ResOwn at h ⊢
  split at h
  · obtain ⟨us, rfl, h⟩ := h
    exact ⟨us, rfl, resT_move B1 B2 hl _ 0 _ (hc.imp (fun e => by simpa [cleanA] using e) fun e => e) h⟩
  · exact res1_move B1 B2 r 0 u hc hl h

end
end Go.TM

/-! The tree machine, 14: how a call ends. -/
namespace Go.TM
set_option linter.unusedVariables false
set_option linter.unusedSimpArgs false

section
variable {w0 w w' : World} {L0 L Lc' : Lab} {U U' : Nat → Prop} {hp : Hp} {m : Nat}

theorem HRel.all {Bc : Use} (h : HRel w0 L0 U hp w L) : (∀ id r, hp id = some r → ∃ u, Own w L (.s true r.sz r.len r.cs) id [] u) ∧ (∀ b b' id p, L b = .at id p → L b' = .at id p → b = b') ∧ (∀ b, w.heap.size ≤ b → L b = .free) ∧
    (∀ b, L0 b = .prot → L b = .prot ∧ w.heap[b]? = w0.heap[b]?) ∧ w0.heap.size ≤ w.heap.size ∧ w.os = w0.os ∧ w.tape = w0.tape ∧ w.output = w0.output ∧ (∀ b c e f, L0 b ≠ .prot → w.heap[b]? = some (.cells c e f) → f = (0, 0)) :=
  ⟨h.roots, h.inj, h.free, h.prot, h.size, h.os, h.tape, h.output, h.frz⟩

theorem end_ok (B : Use) (h : HRel w0 L0 (addU U m) hp w L) (hm : ¬ U m) (hfresh : ∀ k, hp (m, k) = none) (hLm : ∀ b k p, L b = .at (m, k) p → k = 999 ∧ ∃ j q, p = j :: q)
    {ios : List (Id × List Nat)} {shs : List (Nat × Nat)} {outs : List (List A)} {us : List (Id × Option Root)} {r : A} {v : Value} {bor : Bool} (ho : outsOf hp ios outs = some us) (hn : nodupB (idsOf ios) = true)
    (hshl : shs.length = ios.length) (hsh : ∀ (t : Nat) id path, ios[t]? = some (id, path) → ∃ r x, hp id = some r ∧ getP r.sz r.len r.cs path = some x ∧ shs[t]? = some (x.1, x.2.1))
    (hc : @HRel (useC B L (labC L (m, 999) ios) bor) w (labC L (m, 999) ios) (fun _ => True) (ioHp shs outs) w' Lc') (hr : @ResOwn (useC B L (labC L (m, 999) ios) bor) w' Lc' 0 r v)
    (hsz : ∀ t b, t < shs.length → labC L (m, 999) ios b = .at (2, t) [] → Lc' b = .at (2, t) [] ∧ ∀ cur e, w.heap[b]? = some (.cells cur e (0, 0)) → ∃ cur', w'.heap[b]? = some (.cells cur' e (0, 0)) ∧ cur'.size = cur.size)
    (hcl : bor = true → cleanA r = true ∧ outs.all cleanL = true) :
    HRel w0 L0 (addU U m) (applyH hp us) w' (labB L (labC L (m, 999) ios) Lc' m ios) ∧ Keeps U w L hp U w' (labB L (labC L (m, 999) ios) Lc' m ios) (applyH hp us) ∧
      ResOwn w' (labB L (labC L (m, 999) ios) Lc' m ios) m r v ∧ ∀ k, applyH hp us (m, k) = none := by
  obtain ⟨c1, c2, c3, c4, c5, c6, c7, c8, c9⟩ := HRel.all hc
  obtain ⟨hids, hlen⟩ := outs_ids ho
  have hget := outs_get (hp := hp) hp ho hn
  have hpos : ∀ (t : Nat) id path, ios[t]? = some (id, path) → posOf (idsOf ios) id = some t := fun t id path ht => posOf_get hn (by rw [List.getElem?_map, ht]; rfl)
  have hio : ∀ id, id ∈ idsOf ios → ∃ (t : Nat) (path : List Nat), ios[t]? = some (id, path) := by
    intro id hid
    obtain ⟨⟨i, p⟩, he, rfl⟩ := List.mem_map.1 hid
    obtain ⟨t, ht⟩ := List.getElem?_of_mem he
    exact ⟨t, p, ht⟩
  have hmem : ∀ (t : Nat) id path, ios[t]? = some (id, path) → id ∈ idsOf ios := fun t id path ht => List.mem_map.2 ⟨(id, path), List.mem_of_getElem? ht, rfl⟩
  have hne : ∀ id, id ∈ idsOf ios → hp id ≠ none := by
    intro id hid
    obtain ⟨t, path, ht⟩ := hio id hid
    obtain ⟨r, cs, x, e1, _⟩ := hget t id path ht
    simp [e1]
  have hnm : ∀ id, id ∈ idsOf ios → id.1 ≠ m := by
    rintro ⟨i, k⟩ hid rfl
    exact hne _ hid (hfresh k)
  have hnt : ∀ id, id ∈ idsOf ios → id ≠ (m, 999) := by
    rintro id hid rfl
    exact hnm _ hid rfl
  have hoth : ∀ id, id ∉ idsOf ios → applyH hp us id = hp id := fun id hid => applyH_other us hp (by rw [hids]; exact hid)
  -- what the callee held from before
  have hold : ∀ b, labC L (m, 999) ios b = .prot → Lc' b = .prot ∧ w'.heap[b]? = w.heap[b]? := c4
  have hnp : ∀ b i p, Lc' b = .at i p → labC L (m, 999) ios b ≠ .prot := by
    intro b i p hb hp'
    rw [(hold b hp').1] at hb
    cases hb
  have hprot : ∀ b, L b = .prot → labB L (labC L (m, 999) ios) Lc' m ios b = .prot ∧ w'.heap[b]? = w.heap[b]? := by
    intro b hb
    exact ⟨by rw [labB_prot (labC_prot hb)]; exact hb, (hold b (labC_prot hb)).2⟩
  have hother : ∀ b id p, L b = .at id p → id.1 ≠ m → id ∉ idsOf ios → labB L (labC L (m, 999) ios) Lc' m ios b = .at id p ∧ w'.heap[b]? = w.heap[b]? := by
    intro b id p hb h1 h2
    have := labC_other (tid := (m, 999)) hb (by rintro rfl; exact h1 rfl) h2
    exact ⟨by rw [labB_prot this]; exact hb, (hold b this).2⟩
  have hoff : ∀ (t : Nat) id path b q, ios[t]? = some (id, path) → L b = .at id q → ¬ path <+: q → labB L (labC L (m, 999) ios) Lc' m ios b = .at id q ∧ w'.heap[b]? = w.heap[b]? := by
    intro t id path b q ht hb hq
    have := labC_off hb (hnt id (hmem t id path ht)) (hpos t id path ht) ht hq
    exact ⟨by rw [labB_prot this]; exact hb, (hold b this).2⟩
  have huse : bor = false → ∀ b, @isProt (useC B L (labC L (m, 999) ios) bor) Lc' b → @isProt B (labB L (labC L (m, 999) ios) Lc' m ios) b := by
    rintro rfl b ⟨h1, h2⟩
    rcases h2 with h2 | ⟨h2, h3⟩
    · cases h2
    · rcases h3 with h3 | h3
      · exact ⟨(hprot b h3).1, h2⟩
      · exact ⟨labB_frz h3 h1, h2⟩
  have hroot : ∀ id, id ∉ idsOf ios → hp id ≠ none → id.1 ≠ m := by
    rintro ⟨i, k⟩ _ h2 rfl
    exact h2 (hfresh k)
  refine ⟨⟨fun id r' hr' => ?_, fun b b' i p hb hb' => ?_, fun b hb => ?_, fun b i p hb => ?_, fun id r' hr' => ?_, fun b hb => ?_, Nat.le_trans h.size c5, c6.trans h.os, c7.trans h.tape, c8.trans h.output, h.use, fun b c e f hb hcl' => ?_⟩, ?_, ?_, ?_⟩
  · by_cases hid : id ∈ idsOf ios
    · obtain ⟨t, path, ht⟩ := hio id hid
      obtain ⟨r0, cs, x, e1, e2, e3, e4, e5⟩ := hget t id path ht
      rw [e5] at hr'
      cases hr'
      obtain ⟨r1, x1, g1, g2, g3⟩ := hsh t id path ht
      rw [e1] at g1
      cases g1
      rw [e3] at g2
      cases g2
      obtain ⟨u0, hu0⟩ := h.roots id r0 e1
      obtain ⟨u, hu⟩ := c1 (2, t) (newRoot x.1 x.2.1 cs) (by simp [ioHp, e2, g3])
      refine ⟨u0, own_lent (useC B L (labC L (m, 999) ios) bor) B hprot e3 e4 (fun b q hq hnp => hoff t id path b q ht hq hnp) (fun b hb => ?_) (fun b b' hb hb' => c2 b b' _ _ hb hb') (fun b q hq => labB_io (hnp _ _ _ hq) hq ht) ?_ (u' := u) hu hu0⟩
      · exact hsz t b (by rw [hshl]; exact (List.getElem?_eq_some_iff.1 ht).1) (labC_io (by simpa using hb) (hnt id hid) (hpos t id path ht) ht)
      · cases hb : bor with
        | true =>
          left
          have := (hcl hb).2
          simp only [List.all_eq_true] at this
          exact this cs (List.mem_of_getElem? e2)
        | false => subst hb; exact .inr fun b hb => huse rfl b hb
    · rw [hoth id hid] at hr'
      obtain ⟨u, hu⟩ := h.roots id r' hr'
      exact ⟨u, Own.move hprot _ [] [] u (fun b q hq => hother b id _ hq (hroot id hid (by simp [hr'])) hid) hu⟩
  · have mix : ∀ b b', labC L (m, 999) ios b = .prot → L b = .at i p → labC L (m, 999) ios b' ≠ .prot → ((∃ k, i = (m, k) ∧ Lc' b' = .at (0, k) p) ∨ ∃ t path q, ios[t]? = some (i, path) ∧ p = path ++ q ∧ Lc' b' = .at (2, t) q) → b = b' := by
      rintro b b' h1 h2 _ (⟨k, rfl, _⟩ | ⟨t, path, q, ht, rfl, _⟩)
      · obtain ⟨rfl, j, q, rfl⟩ := hLm b k p h2
        rw [labC_mv h2] at h1
        cases h1
      · rw [labC_io h2 (hnt _ (hmem t i path ht)) (hpos t i path ht) ht] at h1
        cases h1
    rcases labB_at hb with ⟨h1, h2⟩ | ⟨h1, k, rfl, h3⟩ | ⟨h1, t, path, q, h2, hpq, h3⟩
    · rcases labB_at hb' with ⟨g1, g2⟩ | ⟨g1, g2⟩ | ⟨g1, g2⟩
      · exact h.inj b b' i p h2 g2
      · exact mix b b' h1 h2 g1 (.inl g2)
      · exact mix b b' h1 h2 g1 (.inr g2)
    · rcases labB_at hb' with ⟨g1, g2⟩ | ⟨g1, k', g2, g3⟩ | ⟨g1, t', path', q', g2, _, g3⟩
      · exact (mix b' b g1 g2 h1 (.inl ⟨k, rfl, h3⟩)).symm
      · cases g2
        exact c2 b b' _ _ h3 g3
      · exact (hnm _ (hmem _ _ _ g2) rfl).elim
    · rcases labB_at hb' with ⟨g1, g2⟩ | ⟨g1, k', rfl, g3⟩ | ⟨g1, t', path', q', g2, hpq', g3⟩
      · exact (mix b' b g1 g2 h1 (.inr ⟨t, path, q, h2, hpq, h3⟩)).symm
      · exact (hnm _ (hmem _ _ _ h2) rfl).elim
      · have e1 := hpos _ _ _ h2
        rw [hpos _ _ _ g2] at e1
        cases e1
        rw [h2] at g2
        cases g2
        rw [hpq] at hpq'
        have := List.append_cancel_left hpq'
        subst this
        exact c2 b b' _ _ h3 g3
  · have h1 : L b = .free := h.free b (Nat.le_trans c5 hb)
    exact labB_free (by rw [labC_free h1]; simp) (c3 b hb)
  · rcases labB_at hb with ⟨_, h2⟩ | ⟨_, k, rfl, _⟩ | ⟨_, t, path, q, h2, _, _⟩
    · exact h.used b i p h2
    · exact .inr rfl
    · cases h3 : hp i with
      | none => exact (hne i (hmem _ _ _ h2) h3).elim
      | some r0 => exact h.usedR i r0 h3
  · by_cases hid : id ∈ idsOf ios
    · cases h3 : hp id with
      | none => exact (hne id hid h3).elim
      | some r0 => exact h.usedR id r0 h3
    · rw [hoth id hid] at hr'
      exact h.usedR id r' hr'
  · obtain ⟨e1, e2⟩ := h.prot b hb
    exact ⟨(hprot b e1).1, (hprot b e1).2.trans e2⟩
  · by_cases hl : labC L (m, 999) ios b = .prot
    · rw [(hold b hl).2] at hcl'
      exact h.frz b c e f hb hcl'
    · exact c9 b c e f hl hcl'
  · refine ⟨fun _ hk => hk, hprot, fun id r' hr' hu => ?_, fun id path ver hu hv hno => ?_⟩
    · by_cases hid : id ∈ idsOf ios
      · obtain ⟨t, path, ht⟩ := hio id hid
        obtain ⟨r0, cs, x, e1, e2, e3, e4, e5⟩ := hget t id path ht
        rw [e5] at hr'
        cases hr'
        refine ⟨r0, e1, fun c => ?_⟩
        simp only [lentRoot, bumpL]
        split
        · exact Nat.le_succ _
        · split <;> omega
      · rw [hoth id hid] at hr'
        exact ⟨r', hr', fun c => Nat.le_refl _⟩
    · have hidm : id.1 ≠ m := by intro e; rw [e] at hu; exact hm hu
      by_cases hid : id ∈ idsOf ios
      · obtain ⟨t, lp, ht⟩ := hio id hid
        obtain ⟨r0, cs, x, e1, e2, e3, e4, e5⟩ := hget t id lp ht
        have htl : t < shs.length := by rw [hshl]; exact (List.getElem?_eq_some_iff.1 ht).1
        -- a path that leads through what was lent is out of date
        cases lp with
        | nil =>
          cases path with
          | nil =>
            refine ⟨by simp [node, e1, verOk, getP], fun b hb => ?_⟩
            obtain ⟨f1, f2⟩ := hsz t b htl (labC_io (path := []) (by simpa using hb) (hnt id hid) (hpos t id [] ht) ht)
            exact ⟨by simpa using labB_io (hnp _ _ _ f1) f1 ht, f2⟩
          | cons c p =>
            exfalso
            apply hno
            have := hv r0 e1 c p rfl
            have hv' : verOk (lentRoot r0 [] cs) (c :: p) ver = false := by simp [verOk, lentRoot, bumpL]; omega
            simp [node, e5, hv']
        | cons c0 p0 =>
          cases path with
          | nil =>
            refine ⟨by simp [node, e1, verOk, getP], fun b hb => ?_⟩
            obtain ⟨f1, f2⟩ := hoff t id _ b [] ht hb (by simp)
            exact ⟨f1, fun cur e hcur => ⟨cur, by rw [f2]; exact hcur, rfl⟩⟩
          | cons c p =>
            by_cases hcc : c = c0
            · exfalso
              subst hcc
              apply hno
              have := hv r0 e1 c p rfl
              have hv' : verOk (lentRoot r0 (c :: p0) cs) (c :: p) ver = false := by simp [verOk, lentRoot, bumpL]; omega
              simp [node, e5, hv']
            · have hnode : node (applyH hp us) id (c :: p) ver = node hp id (c :: p) ver := by
                have : ∀ b, verOk (lentRoot r0 (c0 :: p0) cs) (c :: p) b = verOk r0 (c :: p) b := fun b => by simp [verOk, lentRoot, bumpL, hcc]
                simp only [node, e5, e1, this]
                simp only [lentRoot]
                rw [modP_ne _ c p hcc]
              rw [hnode] at hno
              refine ⟨hno, fun b hb => ?_⟩
              obtain ⟨f1, f2⟩ := hoff t id _ b _ ht hb (by simp; intro h; exact (hcc h.symm).elim)
              exact ⟨f1, fun cur e hcur => ⟨cur, by rw [f2]; exact hcur, rfl⟩⟩
      · have hnode : node (applyH hp us) id path ver = node hp id path ver := by unfold node; rw [hoth id hid]
        rw [hnode] at hno
        refine ⟨hno, fun b hb => ?_⟩
        obtain ⟨f1, f2⟩ := hother b id path hb hidm hid
        exact ⟨f1, fun cur e hcur => ⟨cur, by rw [f2]; exact hcur, rfl⟩⟩
  · refine resOwn_move (useC B L (labC L (m, 999) ios) bor) B r v ?_ (fun b j q hq => labB_new (hnp _ _ _ hq) hq) hr
    cases hb : bor with
    | true => exact .inl (hcl hb).1
    | false => subst hb; exact .inr (huse rfl)
  · intro k
    rw [hoth _ fun hid => hnm _ hid rfl]
    exact hfresh k

end
end Go.TM

/-! The tree machine, 15: a call. -/
namespace Go.TM
set_option linter.unusedVariables false
set_option linter.unusedSimpArgs false

section
variable {P : Program} {w0 w w' : World} {L0 L L' : Lab} {U V : Nat → Prop} {hp : Hp} {m : Nat}

theorem plantL_cons (k : Nat) (v : A) (vs : List A) : (plantL m k (v :: vs)).1 = rootRef (m, k) v :: (plantL m (k + 1) vs).1 ∧
    (plantL m k (v :: vs)).2 = (match rootOf v with | some r => [((m, k), some r)] | none => []) ++ (plantL m (k + 1) vs).2 := by
  exact ⟨rfl, rfl⟩

theorem plantL_rep [Use] (hV : V m) (hp' : Hp) : ∀ (cs : List A) (k : Nat) (us : List Value), Owns w L m k cs us → RepL V w L hp' (plantL m k cs).1 us
  | [], k, [], _ => by simp [plantL, RepL]
  | c :: cs, k, u :: us, h => by
    simp only [Owns] at h
    rw [(plantL_cons k c cs).1]
    simp only [RepL]
    exact ⟨own_rootRef hV h.1.2, plantL_rep hV hp' cs (k + 1) us h.2⟩
  | [], _, _ :: _, h => by simp [Owns] at h
  | _ :: _, _, [], h => by simp [Owns] at h

theorem plantL_h [Use] (hV : V m) : ∀ (cs : List A) (k : Nat) (us : List Value) (hp : Hp), HRel w0 L0 V hp w L → Owns w L m k cs us → HRel w0 L0 V (applyH hp (plantL m k cs).2) w L
  | [], k, [], hp, h, _ => by simpa [plantL, applyH_nil] using h
  | c :: cs, k, u :: us, hp, h, ho => by
    simp only [Owns] at ho
    rw [(plantL_cons k c cs).2, applyH_append]
    refine plantL_h hV cs (k + 1) us _ ?_ ho.2
    cases hr : rootOf c with
    | none => simpa [applyH_nil] using h
    | some r =>
      simp only [applyH_one]
      exact addRoot h (own_rootOf hr ho.1.2) hV
  | [], _, _ :: _, _, _, h => by simp [Owns] at h
  | _ :: _, _, [], _, _, h => by simp [Owns] at h

theorem plantL_ids : ∀ (cs : List A) (k : Nat), ∀ i ∈ (plantL m k cs).2.map (·.1), i.1 = m
  | [], k => by simp [plantL]
  | c :: cs, k => by
    intro i hi
    rw [(plantL_cons k c cs).2] at hi
    simp only [List.map_append, List.mem_append] at hi
    rcases hi with hi | hi
    · cases hr : rootOf c <;> simp [hr] at hi
      rw [hi]
    · exact plantL_ids cs (k + 1) i hi

theorem plant1_ids (k : Nat) (r : A) : ∀ i ∈ (plant1 m k r).2.map (·.1), i.1 = m := by
  intro i hi
  unfold plant1 at hi
  split at hi
  · exact plantL_ids _ _ i hi
  · simp at hi; rw [hi]
  · exact plantL_ids _ _ i hi

theorem plantT_ids : ∀ (cs : List A) (k : Nat), ∀ i ∈ (plantT m k cs).2.map (·.1), i.1 = m
  | [], k => by simp [plantT]
  | c :: cs, k => by
    intro i hi
    simp only [plantT, List.map_append, List.mem_append] at hi
    rcases hi with hi | hi
    · exact plant1_ids k c i hi
    · exact plantT_ids cs _ i hi

theorem plant_ids (r : A) : ∀ i ∈ (plant m r).2.map (·.1), i.1 = m := by
  intro i hi
  unfold plant at hi
  split at hi
  · exact plantT_ids _ _ i hi
  · exact plant1_ids _ _ i hi

theorem plant1_cell [Use] (hV : V m) (k : Nat) (r : A) (u : Value) (hp : Hp) (h : HRel w0 L0 V hp w L) (hr : u.oneCell' = true ∧ Own w L r (m, k) [] u)
    (he : plant1 m k r = (((plantL m k [r]).1)[0]?.getD .und, (plantL m k [r]).2)) : HRel w0 L0 V (applyH hp (plant1 m k r).2) w L ∧ ∀ hp', Rep V w L hp' (plant1 m k r).1 u := by
  have ho : Owns w L m k [r] [u] := by simp only [Owns]; exact ⟨hr, trivial⟩
  rw [he]
  refine ⟨plantL_h hV _ k _ hp h ho, fun hp' => ?_⟩
  have := plantL_rep hV hp' _ k _ ho
  simpa [RepL, plantL] using this

theorem plant1_ok [Use] (hV : V m) (k : Nat) (r : A) (u : Value) (hp : Hp) (h : HRel w0 L0 V hp w L) (hr : Res1 w L m k r u) :
    HRel w0 L0 V (applyH hp (plant1 m k r).2) w L ∧ ∀ hp', Rep V w L hp' (plant1 m k r).1 u := by
  cases r with
  | agg xs =>
    simp only [Res1] at hr
    obtain ⟨us, rfl, hr⟩ := hr
    refine ⟨plantL_h hV xs k _ hp h hr, fun hp' => ?_⟩
    simp only [plant1, Rep]
    exact ⟨us, rfl, plantL_rep hV hp' xs k _ hr⟩
  | ep cs =>
    simp only [Res1] at hr
    obtain ⟨b, cap, rfl, h1, h2⟩ := hr
    refine ⟨?_, fun hp' => ?_⟩
    · simp only [plant1, applyH_one]
      exact addRoot h (r := newRoot cs.length 1 cs) h2 hV
    · simp only [plant1, Rep]
      exact ⟨hV, fun r _ c p hp => (by cases hp), _, rfl, fun _ => ⟨b, rfl, h1⟩⟩
  | tup xs => simp [Res1] at hr
  | i k' n => exact plant1_cell hV k _ u hp h (by simpa only [Res1] using hr) rfl
  | b v => exact plant1_cell hV k _ u hp h (by simpa only [Res1] using hr) rfl
  | s o sz len cs => exact plant1_cell hV k _ u hp h (by simpa only [Res1] using hr) rfl
  | ref id path ver off sz len => exact plant1_cell hV k _ u hp h (by simpa only [Res1] using hr) rfl
  | ptr id path ver off => exact plant1_cell hV k _ u hp h (by simpa only [Res1] using hr) rfl
  | und => exact plant1_cell hV k _ u hp h (by simpa only [Res1] using hr) rfl
  | ub => exact plant1_cell hV k _ u hp h (by simpa only [Res1] using hr) rfl

theorem plantT_ok [Use] (hV : V m) : ∀ (cs : List A) (k : Nat) (us : List Value) (hp : Hp), HRel w0 L0 V hp w L → ResT w L m k cs us →
    HRel w0 L0 V (applyH hp (plantT m k cs).2) w L ∧ ∀ hp', RepL V w L hp' (plantT m k cs).1 us
  | [], k, [], hp, h, _ => ⟨by simpa [plantT, applyH_nil] using h, fun hp' => by simp [plantT, RepL]⟩
  | c :: cs, k, u :: us, hp, h, hr => by
    simp only [ResT] at hr
    obtain ⟨e1, e2⟩ := plant1_ok hV k c u hp h hr.1
    obtain ⟨e3, e4⟩ := plantT_ok hV cs _ us _ e1 hr.2
    refine ⟨by simp only [plantT]; rw [applyH_append]; exact e3, fun hp' => ?_⟩
    simp only [plantT, RepL]
    exact ⟨e2 hp', e4 hp'⟩
  | [], _, _ :: _, _, _, h => by simp [ResT] at h
  | _ :: _, _, [], _, _, h => by simp [ResT] at h

theorem plant_ok [Use] (hV : V m) (r : A) (u : Value) (h : HRel w0 L0 V hp w L) (hr : ResOwn w L m r u) : HRel w0 L0 V (applyH hp (plant m r).2) w L ∧ ∀ hp', Rep V w L hp' (plant m r).1 u := by
  unfold ResOwn at hr
  split at hr
  · obtain ⟨us, rfl, hr⟩ := hr
    obtain ⟨e1, e2⟩ := plantT_ok hV _ 0 _ hp h hr
    refine ⟨e1, fun hp' => ?_⟩
    simp only [plant, Rep]
    exact ⟨us, rfl, e2 hp'⟩
  · rename_i hne
    have : plant m r = plant1 m 0 r := by
      unfold plant
      split
      · exact (hne _ rfl).elim
      · rfl
    rw [this]
    exact plant1_ok hV 0 r u hp h hr

theorem keeps_ups [Use] (ups : List (Id × Option Root)) (h : ∀ i ∈ ups.map (·.1), ¬ U i.1) (hV : ∀ k, U k → V k) : Keeps U w L hp V w L (applyH hp ups) := by
  have hh : ∀ id : Id, U id.1 → applyH hp ups id = hp id := fun id hu => applyH_other ups hp fun hm => h id hm hu
  refine ⟨hV, fun b hb => ⟨hb, rfl⟩, fun id r' hr hu => ?_, fun id p v hu hv hn => ?_⟩
  · rw [hh id hu] at hr
    exact ⟨r', hr, fun _ => Nat.le_refl _⟩
  · have : node (applyH hp ups) id p v = node hp id p v := by unfold node; rw [hh id hu]
    rw [this] at hn
    exact ⟨hn, fun b hb => ⟨hb, fun cur e hc => ⟨cur, hc, rfl⟩⟩⟩

theorem mvs_rep [Use] : ∀ (ks : List Kind) (vs : List A) (us : List Value), RepL U w L hp vs us → RepL U w L hp (mvsOf ks vs) (mvsOf ks us)
  | [], [], [], _ => by simp [mvsOf, RepL]
  | [], _ :: _, _ :: _, _ => by simp [mvsOf, RepL]
  | .mv :: ks, v :: vs, u :: us, h => by simp only [RepL, mvsOf] at h ⊢; exact ⟨h.1, mvs_rep ks vs us h.2⟩
  | .ro :: ks, v :: vs, u :: us, h => by simp only [RepL, mvsOf] at h ⊢; exact mvs_rep ks vs us h.2
  | .io :: ks, v :: vs, u :: us, h => by simp only [RepL, mvsOf] at h ⊢; exact mvs_rep ks vs us h.2
  | .ln _ :: ks, v :: vs, u :: us, h => by simp only [RepL, mvsOf] at h ⊢; exact mvs_rep ks vs us h.2
  | _ :: _, [], [], _ => by simp [mvsOf, RepL]
  | _, [], _ :: _, h => by simp [RepL] at h
  | _, _ :: _, [], h => by simp [RepL] at h

/-- Where what is lent lies, and its shape. -/
def LentAt (hp : Hp) (shs : List (Nat × Nat)) (ios : List (Id × List Nat)) : Prop :=
  shs.length = ios.length ∧ ∀ (t : Nat) id path, ios[t]? = some (id, path) → ∃ r x, hp id = some r ∧ getP r.sz r.len r.cs path = some x ∧ shs[t]? = some (x.1, x.2.1)

theorem LentAt.append {s1 s2 : List (Nat × Nat)} {i1 i2 : List (Id × List Nat)} (h1 : LentAt hp s1 i1) (h2 : LentAt hp s2 i2) : LentAt hp (s1 ++ s2) (i1 ++ i2) := by
  refine ⟨by simp [h1.1, h2.1], fun t id path ht => ?_⟩
  by_cases hlt : t < i1.length
  · rw [List.getElem?_append_left hlt] at ht
    rw [List.getElem?_append_left (by rw [h1.1]; exact hlt)]
    exact h1.2 t id path ht
  · rw [List.getElem?_append_right (by omega)] at ht
    rw [List.getElem?_append_right (by rw [h1.1]; omega), h1.1]
    exact h2.2 _ id path ht

theorem lentAt_cell {v c : A} {es : List (Id × List Nat)} (h : lnCell hp v = some (c, es)) : LentAt hp (lnShs [c]) es := by
  unfold lnCell at h
  split at h
  · cases h; exact ⟨rfl, by simp⟩
  · cases h; exact ⟨rfl, by simp⟩
  · rename_i id path ver off sz len
    split at h
    · rename_i nsz nlen cs hn
      split at h
      · rename_i hc
        obtain ⟨rfl, rfl, rfl⟩ := hc
        cases h
        refine ⟨rfl, fun t id' path' ht => ?_⟩
        cases t with
        | zero =>
          simp at ht
          obtain ⟨rfl, rfl⟩ := ht
          unfold node at hn
          split at hn
          · rename_i r hr
            split at hn
            · exact ⟨r, _, hr, hn, rfl⟩
            · cases hn
          · cases hn
        | succ t => simp at ht
      · cases h
    · cases h
  · cases h

theorem lnShs_cons (c : A) (cs : List A) : lnShs (c :: cs) = lnShs [c] ++ lnShs cs := by
  cases c with
  | s o sz len xs => cases o <;> rfl
  | _ => rfl

theorem lentAt_cells : ∀ {vs cs : List A} {es : List (Id × List Nat)}, lnCells hp vs = some (cs, es) → LentAt hp (lnShs cs) es
  | [], _, _, h => by cases h; exact ⟨rfl, by simp⟩
  | v :: vs, cs, es, h => by
    unfold lnCells at h
    split at h
    · rename_i c e cs' es' h1 h2
      cases h
      rw [lnShs_cons]
      exact (lentAt_cell h1).append (lentAt_cells h2)
    · cases h

theorem lentAt_val {v c : A} {es : List (Id × List Nat)} (h : lnVal hp v = some (c, es)) : LentAt hp (lnShs (cellsA c)) es := by
  unfold lnVal at h
  split at h
  · simp only [Option.map_eq_some_iff] at h
    obtain ⟨⟨cs, es'⟩, h1, h2⟩ := h
    cases h2
    exact lentAt_cells h1
  · have := lentAt_cell h
    unfold lnCell at h
    split at h
    · cases h; exact this
    · cases h; exact this
    · split at h
      · split at h
        · cases h; exact this
        · cases h
      · cases h
    · cases h

theorem lentAt_conts [Use] (h : HRel w0 L0 U hp w L) : ∀ {ks : List Kind} {vs cs xs : List A} {rds : List Id} {ios : List (Id × List Nat)}, contsOf hp ks vs cs = some (xs, rds, ios) → LentAt hp (shsOf ks xs) ios
  | [], [], [], _, _, _, hc => by cases hc; exact ⟨rfl, by simp⟩
  | .ro :: ks, v :: vs, cs, xs, rds, ios, hc => by
    unfold contsOf at hc
    split at hc
    · rename_i c rd xs1 rds1 ios1 h1 h2
      cases hc
      have := lentAt_conts h h2
      simpa only [shsOf] using this
    · cases hc
  | .mv :: ks, v :: vs, c :: cs, xs, rds, ios, hc => by
    simp only [contsOf, Option.map_eq_some_iff] at hc
    obtain ⟨⟨xs1, rds1, ios1⟩, h1, h2⟩ := hc
    cases h2
    have := lentAt_conts h h1
    simpa only [shsOf] using this
  | .mv :: ks, v :: vs, [], xs, rds, ios, hc => by simp [contsOf] at hc
  | .io :: ks, v :: vs, cs, xs, rds, ios, hc => by
    simp only [contsOf] at hc
    split at hc
    · rename_i id ver
      split at hc
      · rename_i r hr
        split at hc
        · rename_i hlen
          simp only [Option.map_eq_some_iff] at hc
          obtain ⟨⟨xs1, rds1, ios1⟩, h1, h2⟩ := hc
          cases h2
          have h3 : LentAt hp [(r.cs.length, 1)] [(id, [])] := by
            refine ⟨rfl, fun t id' path' ht => ?_⟩
            cases t with
            | zero =>
              simp at ht
              obtain ⟨rfl, rfl⟩ := ht
              refine ⟨r, _, hr, rfl, ?_⟩
              obtain ⟨u, hu⟩ := h.roots id r hr
              simp only [Own] at hu
              rcases hu with ⟨_, h0, _⟩ | ⟨_, _, _, _, _, _, _, _, _, _, h7, _⟩
              · omega
              · simp [h7, hlen]
            | succ t => simp at ht
          exact h3.append (lentAt_conts h h1)
        · cases hc
      · cases hc
    · cases hc
  | .ln n :: ks, v :: vs, cs, xs, rds, ios, hc => by
    simp only [contsOf] at hc
    split at hc
    · rename_i c es hv
      split at hc
      · simp only [Option.map_eq_some_iff] at hc
        obtain ⟨⟨xs1, rds1, ios1⟩, h1, h2⟩ := hc
        cases h2
        exact (lentAt_val hv).append (lentAt_conts h h1)
      · cases hc
    · cases hc
  | [], _ :: _, _, _, _, _, hc => by simp [contsOf] at hc
  | [], [], _ :: _, _, _, _, hc => by simp [contsOf] at hc
  | .ro :: _, [], _, _, _, _, hc => by simp [contsOf] at hc
  | .mv :: _, [], _, _, _, _, hc => by simp [contsOf] at hc
  | .io :: _, [], _, _, _, _, hc => by simp [contsOf] at hc
  | .ln _ :: _, [], _, _, _, _, hc => by simp [contsOf] at hc

/-- What a call leaves. -/
def CallOk [Use] (P : Program) (w0 : World) (L0 : Lab) (U : Nat → Prop) (hp : Hp) (w : World) (L : Lab) (f : Nat) (us : List Value) (m : Nat) (e : Eff) : Prop :=
  Calls P f us.toArray w fun en w' => ∃ v L', en = .returned v ∧ HRel w0 L0 (addU U m) (applyH hp e.ups) w' L' ∧ Keeps U w L hp (addU U m) w' L' (applyH hp e.ups) ∧ Rep (addU U m) w' L' (applyH hp e.ups) e.val v

theorem repL_len [Use] {U : Nat → Prop} {w : World} {L : Lab} {hp : Hp} : ∀ {xs : List A} {us : List Value}, RepL U w L hp xs us → xs.length = us.length
  | [], [], _ => rfl
  | x :: xs, u :: us, h => by simp only [RepL] at h; simp [repL_len h.2]
  | [], _ :: _, h => by simp [RepL] at h
  | _ :: _, [], h => by simp [RepL] at h

theorem contsOf_len {hp : Hp} : ∀ {ks : List Kind} {vs cs xs : List A} {rds : List Id} {ios : List (Id × List Nat)}, contsOf hp ks vs cs = some (xs, rds, ios) → xs.length = vs.length
  | [], [], [], _, _, _, hc => by cases hc; rfl
  | .ro :: ks, v :: vs, cs, xs, rds, ios, hc => by
    unfold contsOf at hc
    split at hc
    · rename_i c rd xs1 rds1 ios1 h1 h2
      cases hc
      simp [contsOf_len h2]
    · cases hc
  | .mv :: ks, v :: vs, c :: cs, xs, rds, ios, hc => by
    simp only [contsOf, Option.map_eq_some_iff] at hc
    obtain ⟨⟨xs1, rds1, ios1⟩, h1, h2⟩ := hc
    cases h2
    simp [contsOf_len h1]
  | .mv :: ks, v :: vs, [], xs, rds, ios, hc => by simp [contsOf] at hc
  | .io :: ks, v :: vs, cs, xs, rds, ios, hc => by
    simp only [contsOf] at hc
    split at hc
    · split at hc
      · split at hc
        · simp only [Option.map_eq_some_iff] at hc
          obtain ⟨⟨xs1, rds1, ios1⟩, h1, h2⟩ := hc
          cases h2
          simp [contsOf_len h1]
        · cases hc
      · cases hc
    · cases hc
  | .ln n :: ks, v :: vs, cs, xs, rds, ios, hc => by
    simp only [contsOf] at hc
    split at hc
    · split at hc
      · simp only [Option.map_eq_some_iff] at hc
        obtain ⟨⟨xs1, rds1, ios1⟩, h1, h2⟩ := hc
        cases h2
        simp [contsOf_len h1]
      · cases hc
    · cases hc
  | [], _ :: _, _, _, _, _, hc => by simp [contsOf] at hc
  | [], [], _ :: _, _, _, _, hc => by simp [contsOf] at hc
  | .ro :: _, [], _, _, _, _, hc => by simp [contsOf] at hc
  | .mv :: _, [], _, _, _, _, hc => by simp [contsOf] at hc
  | .io :: _, [], _, _, _, _, hc => by simp [contsOf] at hc
  | .ln _ :: _, [], _, _, _, _, hc => by simp [contsOf] at hc

theorem call_ok [B : Use] (h : HRel w0 L0 U hp w L) (hm : ¬ U m) {vs : List A} {us : List Value} (hv : RepL U w L hp vs us) {M : Model} {f : Nat} (hM : Contract P f M) {cs : List A} {ups : List (Id × Option Root)} {rd1 : List Id}
    (h1 : closeL hp (mvsOf M.kinds vs) = some (cs, ups, rd1)) {xs : List A} {rds : List Id} {ios : List (Id × List Nat)} (h2 : contsOf (applyH hp ups) M.kinds vs cs = some (xs, rds, ios)) (h3 : nodupB (idsOf ios) = true ∧ disjB (idsOf ios) rds = true ∧ (rds = [] ∨ M.clean = true))
    {r : A} {outs : List (List A)} (h4 : M.fn xs = some (r, outs)) {us' : List (Id × Option Root)} (h5 : outsOf (applyH hp ups) ios outs = some us') (rd : List Id) :
    CallOk P w0 L0 U hp w L f us m ⟨(plant m r).1, ups ++ us' ++ (plant m r).2, rd⟩ := by
  obtain ⟨hnd, hdj, hcl⟩ := h3
  have h' : HRel w0 L0 (addU U m) hp w L := h.mono fun k hk => addU_l hk
  have hups := closeL_used (U := U) _ _ _ _ _ h.usedR h1
  have hmu : ∀ k, (m, k) ∉ ups.map (·.1) := fun k hmem => hm (hups _ hmem)
  have hv' : RepL (addU U m) w L hp vs us := RepL.mono (keeps_ups (U := U) (V := addU U m) [] (by simp) fun k hk => addU_l hk) _ _ hv
  obtain ⟨L1, k1, k2, k3, k4, k5, k6⟩ := closeL_ok (m, 999) [] (.inr rfl) (mvsOf M.kinds vs) (mvsOf M.kinds us) 0 hp L cs ups rd1 h' (mvs_rep _ _ _ hv') h1 (hmu 999) fun b j q _ _ => fresh_lab h hm 999 b _
  have hfresh : ∀ k, applyH hp ups (m, k) = none := fun k => by rw [applyH_other _ _ (hmu k)]; exact fresh_root h hm k
  have hLm : ∀ b k p, L1 b = .at (m, k) p → k = 999 ∧ ∃ j q, p = j :: q := by
    intro b k p hb
    rcases k4.back b _ p hb with h6 | ⟨h6, j, q, h7, _, _⟩
    · exact (fresh_lab h hm k b p h6).elim
    · cases h6
      exact ⟨rfl, j, q, by simpa using h7⟩
  have hv1 : RepL (addU U m) w L1 (applyH hp ups) vs us := RepL.mono k3 _ _ hv'
  -- whether something is borrowed
  obtain ⟨bor, hbor⟩ : ∃ bor : Bool, bor = !rds.isEmpty := ⟨_, rfl⟩
  have hrd : ∀ id ∈ rds, id ∉ idsOf ios ∧ bor = true := by
    intro id hid
    refine ⟨fun hio => ?_, by rw [hbor]; cases rds <;> simp_all⟩
    simp only [disjB, List.all_eq_true] at hdj
    have := hdj id hio id hid
    simp at this
  obtain ⟨s1, s2, s3⟩ := start_go B k1 (hfresh 999) ios bor M.kinds vs us cs xs rds ios 0 0 0 h2 hv1 k2 (fun t e ht => by rw [Nat.zero_add]; exact ⟨posOf_get hnd (by rw [List.getElem?_map, ht]; rfl), ht⟩) hrd
  have hst := start_h B k1 ios bor (tid := (m, 999)) s3
  have hcall := hM.calls (useC B L1 (labC L1 (m, 999) ios) bor) w (labC L1 (m, 999) ios) us.toArray xs r outs h4 hst (fun j => by
    have := s1 (initHp 0 0 M.kinds xs) j
    simpa [Array.getD_eq_getD_getElem?] using this) (by simp [contsOf_len h2, repL_len hv])
  refine hcall.mono fun en w' hpost => ?_
  simp only [Post] at hpost
  obtain ⟨v, Lc', rfl, p1, p2, p3⟩ := hpost
  have hclean : bor = true → cleanA r = true ∧ outs.all cleanL = true := by
    intro hb
    refine hM.clean ?_ xs r outs h4
    rcases hcl with hcl | hcl
    · rw [hbor, hcl] at hb; simp at hb
    · exact hcl
  obtain ⟨q1, q2, q3, q4⟩ := end_ok B k1 hm hfresh hLm h5 hnd (lentAt_conts k1 h2).1 (lentAt_conts k1 h2).2 p1 p2 p3 hclean
  obtain ⟨f1, f2⟩ := plant_ok (.inr rfl) r v q1 q3
  refine ⟨v, _, rfl, ?_, ?_, f2 _⟩
  · simp only [applyH_append]
    exact f1
  · simp only [applyH_append]
    exact ((k3.restrict fun k hk => addU_l hk).trans q2).trans (keeps_ups _ (fun i hi hu => hm (by rw [← plant_ids r i hi]; exact hu)) fun k hk => addU_l hk)

end
end Go.TM

/-! The tree machine, 16: every operation. -/
namespace Go.TM
set_option linter.unusedVariables false
set_option linter.unusedSimpArgs false

def AliasOk (P : Program) (f : Nat) (ar : List Nat) (outs : List Out) : Prop := ∀ (B : Use) (w0 : World) (L0 : Lab) (U : Nat → Prop) (hp : Hp) (w : World) (L : Lab) (vs : List A) (us : List Value) (m : Nat),
  HRel w0 L0 U hp w L → RepL U w L hp vs us → ¬ U m → (vs.map fun a => (cellsA a).length) = ar → ∀ cs ups, outCells m vs 0 outs = some (cs, ups) → CallOk P w0 L0 U hp w L f us m ⟨.agg cs, ups, []⟩

def EachOk (P : Program) (f : Nat) (ar : Nat) (js : List Nat) (M : Model) : Prop := ∀ (B : Use) (w0 : World) (L0 : Lab) (U : Nat → Prop) (hp : Hp) (w : World) (L : Lab) (vs : List A) (us : List Value) (m : Nat) (e : Eff),
  HRel w0 L0 U hp w L → RepL U w L hp vs us → ¬ U m → eachC M ar js hp vs = some e → CallOk P w0 L0 U hp w L f us m e

/-- slices.Grow, at elements of sz cells. -/
def GrowOk (P : Program) (f sz : Nat) : Prop := ∀ (w : World) (n : Int), 0 ≤ n → n ≤ 1099511627776 →
  Calls P f #[.slice none 0 0, .int .i64 n] w fun e w' => (e = .returned (.slice none 0 0) ∧ w' = w) ∨
    ∃ (cap : Nat) (cur : Array Value) (et : Nat), e = .returned (.slice (some ⟨w.heap.size, 0, none⟩) 0 cap) ∧ cap ≤ maxLen ∧ cur.size = cap * sz ∧ w' = w.drew.alloc (.cells cur et)

/-- A function that can be entered. -/
def FnOk (P : Program) (f : Nat) : Prop := ∃ fn, P.funcs[f]? = some fn ∧ (fn.name == "runtime.NumGoroutine") = false ∧ fn.body.isNone = false

def GOk (P : Program) (G : Nat → Option FM) : Prop := ∀ f fm, G f = some fm → FnOk P f ∧ match fm with
  | .model M => Contract P f M
  | .each ar js M => EachOk P f ar js M
  | .alias ar outs => AliasOk P f ar outs
  | .grow sz => GrowOk P f sz

/-- An operation, on the frame: whatever comes next holds of what it leaves. -/
def OpOk [Use] (P : Program) (w0 : World) (L0 : Lab) (U : Nat → Prop) (hp : Hp) (w : World) (L : Lab) (a : Act) (o : Oper) (m : Nat) (e : Eff) : Prop :=
  ∀ (next : Act → World → Prop) (Q : Exit → Act → World → Prop), (∀ v w' L', HRel w0 L0 (addU U m) (applyH hp e.ups) w' L' → Keeps U w L hp (addU U m) w' L' (applyH hp e.ups) → Rep (addU U m) w' L' (applyH hp e.ups) e.val v →
    next (a.put o.dst v) w') → o.wp P a w next Q

section
variable {P : Program} {T : Nat → Option TI} {G : Nat → Option FM} {w0 : World} {L0 : Lab} {U : Nat → Prop} {w w' : World} {L L' : Lab} {hp : Hp} {sl : Nat → A} {a : Act} {o : Oper} {e : Eff} {m : Nat}

theorem StepOk.op [Use] (h : StepOk P w0 L0 U hp w L a o m e) : OpOk P w0 L0 U hp w L a o m e := by
  intro next Q hn
  obtain ⟨v, w', L', h1, h2, h3, h4⟩ := h
  unfold Oper.wp
  rw [h1, Oper.upon_value]
  exact hn v w' L' h2 h3 h4

theorem PureOk.op [Use] (h : HRel w0 L0 U hp w L) (hp' : PureOk P U w L hp a o e) : OpOk P w0 L0 U hp w L a o m e := by
  obtain ⟨h1, v, h2, h3⟩ := hp'
  have hk : Keeps U w L hp (addU U m) w L hp := keeps_ups [] (by simp) fun k hk => addU_l hk
  refine StepOk.op ⟨v, w, L, h2, ?_, ?_, ?_⟩
  · rw [h1]; exact h.mono fun k hk => addU_l hk
  · rw [h1]; exact hk
  · rw [h1]; exact Rep.mono hk _ _ h3

theorem repL_evL [Use] (hs : Slots U w L hp sl a.tmps) : ∀ (xs : List Operand) (ts : List Nat), RepL U w L hp (evL T sl xs ts) (xs.map a.eval)
  | [], ts => by cases ts <;> simp [evL, RepL]
  | x :: xs, [] => by simp only [evL, RepL, List.map_cons]; exact ⟨rep_ev hs 0 x, repL_evL hs xs []⟩
  | x :: xs, t :: ts => by simp only [evL, RepL, List.map_cons]; exact ⟨rep_ev hs t x, repL_evL hs xs ts⟩

theorem CallOk.op [Use] {f : Nat} {c : Call} (ho : o.op = .call c) (hc : c.callee = .value (.func f)) (hf : FnOk P f) (h : CallOk P w0 L0 U hp w L f (c.args.toList.map a.eval) m e) : OpOk P w0 L0 U hp w L a o m e := by
  intro next Q hn
  unfold Oper.wp
  have hrun : (execOp a.eval o).run P w = .ok (.enter f (c.args.map a.eval)) w := by
    obtain ⟨fn, h1, h2, h3⟩ := hf
    have h2' : fn.name ≠ "runtime.NumGoroutine" := by simpa using h2
    have h3' : fn.body ≠ none := by intro e; rw [e] at h3; cases h3
    simp [execOp, ho, resolve, hc, Act.eval, invoke, Deferred.ofValue, callFunc, h1]
    rw [if_neg h2', if_neg h3']
  rw [hrun, Oper.upon_enter]
  unfold CallOk at h
  rw [show (c.args.toList.map a.eval).toArray = c.args.map a.eval from by apply Array.ext'; simp] at h
  refine h.mono fun en w' hh => ?_
  obtain ⟨v, L', rfl, h2, h3, h4⟩ := hh
  exact hn v w' L' h2 h3 h4

theorem grow_call [B : Use] {f sz : Nat} (hg : GrowOk P f sz) (h : HRel w0 L0 U hp w L) (hm : ¬ U m) {vs : List A} {us : List Value} (hv : RepL U w L hp vs us) (he : growA m sz vs = some e) : CallOk P w0 L0 U hp w L f us m e := by
  unfold growA at he
  split at he
  · rename_i sz' n
    split at he
    · rename_i hc
      obtain ⟨rfl, h0, h1⟩ := hc
      cases he
      match us, hv with
      | [u, v], hv =>
        simp only [RepL, Rep] at hv
        obtain ⟨⟨rfl, _⟩, ⟨rfl, _⟩, _⟩ := hv
        unfold CallOk
        refine (hg w n h0 h1).mono fun en w' hh => ?_
        have hnone := fresh_root h hm 0
        rcases hh with ⟨rfl, rfl⟩ | ⟨cap, cur, et, rfl, hcap, hcur, rfl⟩
        · refine ⟨_, L, rfl, ?_, ?_, ?_⟩
          · have := h.mono fun k hk => addU_l (m := m) hk
            refine ⟨fun id r hr => ?_, this.inj, this.free, this.used, fun id r hr => ?_, this.prot, this.size, this.os, this.tape, this.output, this.use, this.frz⟩
            · by_cases hid : id = (m, 0)
              · subst hid
                simp only [applyH_one, upd_same, Option.some.injEq] at hr
                subst hr
                exact ⟨.slice none 0 0, by simp [Own, newRoot]⟩
              · simp only [applyH_one] at hr
                rw [upd_ne _ _ _ _ hid] at hr
                exact this.roots id r hr
            · by_cases hid : id = (m, 0)
              · subst hid; exact .inr rfl
              · simp only [applyH_one] at hr
                rw [upd_ne _ _ _ _ hid] at hr
                exact this.usedR id r hr
          · rw [applyH_one]
            exact keeps_root (fun k hk => addU_l hk) hm fun b _ => ⟨rfl, rfl⟩
          · simp only [Rep]
            refine ⟨.inr rfl, ?_, none, 0, rfl, Nat.le_refl _, by decide, fun _ => .inl (by simp)⟩
            intro r' _ c p hp'
            cases hp'
        · obtain ⟨L', f1, f2, f3, f4, f5⟩ := step_new h hm (h.mono fun k hk => addU_l hk) Keeps.rfl' (sz := sz') (len := 0) (cap := cap) (cs := []) (cur := cur) (e := et) 0 (by simp [OwnL]) (by simp) hcur (Nat.zero_le _) hcap (fun b => fresh_lab h hm 0 b []) hnone w.drew (.inr rfl)
          refine ⟨_, L', rfl, by rw [applyH_one]; exact f1, by rw [applyH_one]; exact f2, by rw [applyH_one]; exact rep_newref (.inr rfl) f3 f4 hcur (Nat.zero_le _) hcap⟩
    · cases he
  · cases he

theorem eff_call [B : Use] (hG : GOk P G) (h : HRel w0 L0 U hp w L) (hm : ¬ U m) {f : Nat} {vs : List A} {us : List Value} (hv : RepL U w L hp vs us) (he : callA G m f vs hp = some e) : CallOk P w0 L0 U hp w L f us m e := by
  unfold callA at he
  split at he
  · cases he
  · rename_i ar outs hf
    split at he
    · rename_i har
      simp only [Option.map_eq_some_iff] at he
      obtain ⟨⟨cs, ups⟩, h1, h2⟩ := he
      cases h2
      exact (hG f _ hf).2 B w0 L0 U hp w L vs us m h hv hm har cs ups h1
    · cases he
  · rename_i sz hf
    exact grow_call (hG f _ hf).2 h hm hv he
  · rename_i ar js M hf
    exact (hG f _ hf).2 B w0 L0 U hp w L vs us m e h hv hm he
  · rename_i M hf
    split at he
    · cases he
    · rename_i cs ups rd1 h1
      split at he
      · cases he
      · rename_i xs rds ios h2
        split at he
        · rename_i h3
          split at he
          · cases he
          · rename_i r outs h4
            split at he
            · cases he
            · rename_i us' h5
              cases he
              exact call_ok h hm hv (hG f _ hf).2 h1 h2 h3 h4 h5 _
        · cases he

theorem eff_store [Use] (hT : TabOk P T) (h : HRel w0 L0 U hp w L) (hs : Slots U w L hp sl a.tmps) (hm : ¬ U m) {t : Nat} {x v : Operand} (ho : o.op = .store t x v)
    (he : (match T t with
    | some ti => storeA ti hp (ev T sl 0 x) (ev T sl t v)
    | none => none) = some e) : OpOk P w0 L0 U hp w L a o m e := by
  split at he
  · rename_i ti ht
    obtain ⟨w', L', h1, h2, h3, h4⟩ := store_ok (P := P) hT h hm ht (rep_ev (T := T) hs 0 x) (rep_ev (T := T) hs t v) he
    intro next Q hn
    unfold Oper.wp
    have hrun : (execOp a.eval o).run P w = .ok .skip w' := by simp [execOp, ho, h1]
    rw [hrun, Oper.upon_skip]
    exact hn undef w' L' h2 h3 (by rw [h4]; simp [Rep])
  · cases he

end
end Go.TM

/-! The tree machine, 17: every operation is as 'eff' says. -/
namespace Go.TM
set_option linter.unusedVariables false
set_option linter.unusedSimpArgs false

section
variable {P : Program} {T : Nat → Option TI} {G : Nat → Option FM} {w0 : World} {L0 : Lab} {U : Nat → Prop} {w w' : World} {L L' : Lab} {hp : Hp} {sl : Nat → A} {a : Act} {o : Oper} {e : Eff} {m : Nat}

theorem eff_ok [B : Use] (hT : TabOk P T) (hG : GOk P G) (h : HRel w0 L0 U hp w L) (hs : Slots U w L hp sl a.tmps) (hm : ¬ U m) (he : eff T G m o.type o.op sl hp = some e) : OpOk P w0 L0 U hp w L a o m e := by
  cases ho : o.op with
  | move x => rw [ho] at he; exact PureOk.op h (eff_move hs (.inl ho) he)
  | assign x => rw [ho] at he; exact PureOk.op h (eff_move hs (.inr ho) he)
  | pick c x y => rw [ho] at he; exact PureOk.op h (eff_pick hs ho he)
  | alloc t => rw [ho] at he; exact StepOk.op (eff_alloc hT h hm ho he)
  | box t x => rw [ho] at he; exact StepOk.op (eff_box hT h hs hm ho he)
  | build t ps => rw [ho] at he; exact PureOk.op h (eff_build hT hs ho he)
  | buildSlice t n ps => rw [ho] at he; exact StepOk.op (eff_buildSlice hT h hs hm ho he)
  | makeSlice t l c => rw [ho] at he; exact StepOk.op (eff_makeSlice hT h hs hm ho he)
  | load t x => rw [ho] at he; exact PureOk.op h (eff_load hT h hs ho he)
  | store t x v => rw [ho] at he; exact eff_store hT h hs hm ho he
  | fieldAddr s x f => rw [ho] at he; exact PureOk.op h (eff_fieldAddr hT hs ho he)
  | field s x f => rw [ho] at he; exact PureOk.op h (eff_field hT hs ho he)
  | indexAddr t x ix => rw [ho] at he; exact PureOk.op h (eff_indexAddr hT h hs ho he)
  | slice t x lo hi mx =>
    rw [ho] at he
    refine PureOk.op h (eff_slice (T := T) hT hs ho ?_)
    simp only [eff] at he
    cases hk : kindOf T t <;> cases mx <;> simp only [hk] at he ⊢ <;> first | exact he | cases he
  | extract x ix => rw [ho] at he; exact PureOk.op h (eff_extract hs ho he)
  | nilCheck x => rw [ho] at he; exact PureOk.op h (eff_nilCheck hs ho he)
  | binOp op t x y t' => rw [ho] at he; exact PureOk.op h (eff_binOp hT hs ho he)
  | unOp op t x => rw [ho] at he; exact PureOk.op h (eff_unOp hs ho he)
  | convert s d x => rw [ho] at he; exact PureOk.op h (eff_convert hT hs ho he)
  | call c =>
    rw [ho] at he
    simp only [eff] at he
    split at he
    · rename_i hc
      exact PureOk.op h (eff_len hT hs ho hc he)
    · rename_i hc
      exact PureOk.op h (eff_max hs ho hc he)
    · rename_i hc
      exact StepOk.op (eff_append hT h hs hm ho hc he)
    · rename_i f hc
      have hf : FnOk P f := by
        unfold callA at he
        split at he
        · cases he
        all_goals (rename_i hg; exact (hG f _ hg).1)
      exact CallOk.op ho hc hf (eff_call hG h hm (repL_evL hs _ _) he)
    · cases he
  | _ => rw [ho] at he; simp [eff] at he

end
end Go.TM

/-! The tree machine, 18: regions in the text's order. -/
namespace Go.TM
set_option linter.unusedVariables false
set_option linter.unusedSimpArgs false

section
variable {P : Program} {T : Nat → Option TI} {G : Nat → Option FM} {w0 : World} {L0 : Lab} {U : Nat → Prop} {w w' : World} {L L' : Lab} {hp : Hp} {sl : Nat → A} {a : Act} {o : Oper} {e : Eff} {m : Nat}

theorem slots_bool [Use] {tmps : Array Value} (hs : Slots U w L hp sl tmps) {d : Nat} {v : Bool} (h : sl d = .b v) : tmps[d]? = some (.bool v) := by
  have := hs d
  rw [h] at this
  simp only [Rep] at this
  rw [Array.getD_eq_getD_getElem?] at this
  cases hd : tmps[d]? with
  | none => rw [hd] at this; simp [undef] at this
  | some u => rw [hd] at this; simp at this; rw [this]

theorem slots_skip [Use] {tmps : Array Value} (hs : Slots U w L hp sl tmps) {d : Nat} (h : sl d = .tup []) : tmps[d]? = none ∨ tmps[d]? = some (.tuple #[]) := by
  have := hs d
  rw [h] at this
  simp only [Rep] at this
  obtain ⟨us, h1, h2⟩ := this
  have : us = #[] := by
    cases us with
    | mk l => cases l with
      | nil => rfl
      | cons x l => simp [RepL] at h2
  subst this
  rw [Array.getD_eq_getD_getElem?] at h1
  cases hd : tmps[d]? with
  | none => exact .inl rfl
  | some u => rw [hd] at h1; simp at h1; exact .inr (by rw [h1])

theorem wanted_ok [Use] {ops : Array Oper} {tmps : Array Value} (hs : Slots U w L hp sl tmps) {b : Bool} (h : wantedA ops.toList sl o = some b) : Region.wanted o (yielded ops tmps) = b := by
  unfold wantedA at h
  unfold Region.wanted
  split at h
  · rename_i hg; cases h; rw [hg]
  · rename_i j want hg
    rw [hg]
    simp only
    unfold yielded
    rw [Array.getElem?_toList] at h
    split at h
    · rename_i d hd
      rw [hd]
      simp only [Option.bind_some]
      split at h
      · rename_i v hv
        cases h
        rw [slots_bool hs hv]
        simp
      · rename_i hv
        cases h
        rcases slots_skip hs hv with h' | h' <;> rw [h'] <;> simp
      · cases h
    · cases h

theorem slots_put [Use] {V : Nat → Prop} (hs : Slots V w L hp sl a.tmps) (d : Option Nat) {x : A} {v : Value} (hd : ∀ t, d = some t → t < a.tmps.size) (hv : Rep V w L hp x v) : Slots V w L hp (setDst sl d x) (a.put d v).tmps := by
  cases d with
  | none => exact hs
  | some t =>
    intro s
    simp only [setDst, Act.put]
    by_cases hst : s = t
    · subst hst
      rw [upd_same, Array.getD_eq_getD_getElem?, Array.getElem?_setIfInBounds_self_of_lt (hd s rfl)]
      exact hv
    · rw [upd_ne _ _ _ _ hst, Array.getD_eq_getD_getElem?, Array.getElem?_setIfInBounds_ne (fun e => hst e.symm), ← Array.getD_eq_getD_getElem?]
      exact hs s

theorem put_size (a : Act) (d : Option Nat) (v : Value) : (a.put d v).tmps.size = a.tmps.size := by
  cases d <;> simp [Act.put]

theorem put_defers (a : Act) (d : Option Nat) (v : Value) : (a.put d v).defers = a.defers := by
  cases d <;> rfl

def ltN (n : Nat) : Nat → Prop := fun k => k < n

theorem addU_ltN (n : Nat) : addU (ltN n) n = ltN (n + 1) := by
  funext k
  simp only [addU, ltN, eq_iff_iff]
  omega

theorem keeps_lt [Use] {n n' : Nat} (h : n ≤ n') : Keeps (ltN n) w L hp (ltN n') w L hp := keeps_ups [] (by simp) fun k hk => Nat.lt_of_lt_of_le hk h

theorem runOps_ok [B : Use] (hT : TabOk P T) (hG : GOk P G) {ops : Array Oper} {Q : Exit → Act → World → Prop} {n : Nat} {sl' : Nat → A} {hp' : Hp} {log' : Log} {N : Nat} : ∀ (rest : List Oper) (i : Nat) (sl : Nat → A) (hp : Hp) (log : Log) (a : Act) (w : World) (L : Lab),
    runOps T G ops.toList n i rest sl hp log = some (sl', hp', log') → HRel w0 L0 (ltN (n + i)) hp w L → Slots (ltN (n + i)) w L hp sl a.tmps → a.tmps.size = N → (∀ o ∈ rest, ∀ t, o.dst = some t → t < N) →
    (∀ a' w' L', HRel w0 L0 (ltN (n + i + rest.length)) hp' w' L' → Slots (ltN (n + i + rest.length)) w' L' hp' sl' a'.tmps → a'.tmps.size = N → a'.defers = a.defers → Keeps (ltN (n + i)) w L hp (ltN (n + i + rest.length)) w' L' hp' → Q .normal a' w') →
    wpList P ops Q rest a w
  | [], i, sl, hp, log, a, w, L, he, h, hs, hN, hd, hk => by
    cases he
    exact hk a w L h hs hN rfl Keeps.rfl'
  | o :: rest, i, sl, hp, log, a, w, L, he, h, hs, hN, hd, hk => by
    unfold runOps at he
    split at he
    · cases he
    · rename_i e hop
      have hd1 : ∀ t, o.dst = some t → t < a.tmps.size := fun t ht => by rw [hN]; exact hd o (by simp) t ht
      have hm : ¬ ltN (n + i) (n + i) := Nat.lt_irrefl _
      have hlen : n + i + (o :: rest).length = n + (i + 1) + rest.length := by simp only [List.length_cons]; omega
      have next : ∀ v w' L', HRel w0 L0 (ltN (n + (i + 1))) (applyH hp e.ups) w' L' → Keeps (ltN (n + i)) w L hp (ltN (n + (i + 1))) w' L' (applyH hp e.ups) → Rep (ltN (n + (i + 1))) w' L' (applyH hp e.ups) e.val v → wpList P ops Q rest (a.put o.dst v) w' := by
        intro v w' L' h1 h2 h3
        refine runOps_ok hT hG rest (i + 1) _ _ _ (a.put o.dst v) w' L' he h1 (slots_put (fun t => Rep.mono h2 _ _ (hs t)) o.dst hd1 h3) (by rw [put_size, hN]) (fun o' ho' => hd o' (by simp [ho'])) fun a' w'' L'' g1 g2 g3 g4 g5 => ?_
        rw [hlen] at hk
        exact hk a' w'' L'' g1 g2 g3 (by rw [g4, put_defers]) (h2.trans g5)
      unfold opA at hop
      split at hop
      · rename_i hw
        have hwant := wanted_ok hs hw
        have hok := eff_ok hT hG h hs hm hop
        unfold wpList
        rw [if_pos hwant]
        refine .inl (hok _ _ fun v w' L' h1 h2 h3 => ?_)
        rw [addU_ltN] at h1 h2 h3
        exact next v w' L' h1 h2 h3
      · rename_i hw
        have hwant := wanted_ok hs hw
        cases hop
        unfold wpList
        rw [if_neg (by simp [hwant])]
        refine next undef w L (h.mono fun k hk' => Nat.lt_succ_of_lt hk') (keeps_lt (by omega)) ?_
        simp only [Eff.pure, Rep]
        exact ⟨#[], rfl, by simp [RepL]⟩
      · cases hop

end
end Go.TM
