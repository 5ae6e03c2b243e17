/- The tree machine, 9: append, on the frame. -/
import Derived.Test.YthikbhekdnmhbaaTm8
namespace Go.TM
set_option linter.unusedVariables false
set_option linter.unusedSimpArgs false

section
variable {P : Program} {T : Nat → Option TI} {w0 : World} {L0 : Lab} {U : Nat → Prop} {w w' : World} {L L' : Lab} {hp : Hp} {sl : Nat → A} {a : Act} {o : Oper} {e : Eff} {m : Nat}

theorem keeps_row [Use] {U' : Nat → Prop} {id : Id} {r : Root} (hUU : ∀ k, U k → U' k) (hid : ¬ U id.1) (hk1 : ∀ b, L b = .prot → w'.heap[b]? = w.heap[b]?)
    (hk2 : ∀ i p b, U i.1 → L b = .at i p → w'.heap[b]? = w.heap[b]?) : Keeps U w L hp U' w' L (upd hp id (some r)) := by
  refine ⟨hUU, fun b hb => ⟨hb, hk1 b hb⟩, fun i r' hr hu => ?_, fun i p v hu hv hn => ?_⟩
  · rw [upd_ne _ _ _ _ (by rintro rfl; exact hid hu)] at hr
    exact ⟨r', hr, fun _ => Nat.le_refl _⟩
  · have hi : i ≠ id := by rintro rfl; exact hid hu
    have : node (upd hp id (some r)) i p v = node hp i p v := by unfold node; rw [upd_ne _ _ _ _ hi]
    rw [this] at hn
    exact ⟨hn, fun b hb => ⟨hb, fun cur e hc => ⟨cur, by rw [hk2 i p b hu hb]; exact hc, rfl⟩⟩⟩

/-- What the first argument of an append gives. -/
theorem dst_ok [Use] {sz : Nat} (hsz0 : 0 < sz) (h : HRel w0 L0 (addU U m) hp w L) (hm : ¬ U m) (hLm : ∀ b k p, k ≠ 998 → L b ≠ .at (m, k) p) (hno : ∀ k, hp (m, k) = none) {x : A} {u : Value} {dcs : List A} {dlen : Nat} {ups : List (Id × Option Root)} {rd : List Id}
    (hx : Rep U w L hp x u) (hs : dstOf hp sz x = some (dcs, dlen, ups, rd)) :
    ∃ L2 olds ao cap, u = .slice ao dlen cap ∧ olds.length = dlen * sz ∧ dlen ≤ cap ∧ cap ≤ maxLen ∧ OwnL w L2 dcs (m, 0) [] 0 olds ∧ dcs.length = olds.length ∧
      ((ao = none ∧ cap = 0 ∧ dlen = 0) ∨ ∃ b cur e, ao = some ⟨b, 0, none⟩ ∧ L2 b = .at (m, 0) [] ∧ w.heap[b]? = some (.cells cur e (0, 0)) ∧ cap * sz = cur.size ∧ olds = cur.toList.take (dlen * sz)) ∧
      HRel w0 L0 (addU U m) (applyH hp ups) w L2 ∧ Keeps U w L hp U w L2 (applyH hp ups) ∧ (∀ k, applyH hp ups (m, k) = none) ∧
      (∀ b p, L b = .at (m, 998) p → L2 b = .at (m, 998) p) ∧ (∀ b, L b = .prot → L2 b = .prot ∧ w.heap[b]? = w.heap[b]?) ∧ (∀ i ∈ ups.map (·.1), U i.1) := by
  unfold dstOf at hs
  split at hs
  · split at hs
    · cases hs
      simp only [Rep] at hx
      obtain ⟨rfl, _, _⟩ := hx
      exact ⟨L, [], none, 0, rfl, by simp, Nat.le_refl _, Nat.zero_le _, by simp [OwnL], rfl, .inl ⟨rfl, rfl, rfl⟩, h, Keeps.rfl', hno, fun _ _ hb => hb, fun _ hb => ⟨hb, rfl⟩, by simp⟩
    · cases hs
  · rename_i id path ver off sz' len
    split at hs
    · rename_i nsz nlen cs r hn hr
      split at hs
      · rename_i hcond
        obtain ⟨rfl, rfl, rfl, hle⟩ := hcond
        cases hs
        simp only [Rep] at hx
        obtain ⟨hU1, hvl, ao, cap, rfl, hlc, hmax, hx⟩ := hx
        obtain ⟨m1, m2, m3⟩ := move_ok (path := path) h hr (m, 0) [] (.inr rfl) (fun b q => hLm b 0 _ (by decide))
        have hidm : ∀ k, id ≠ (m, k) := by rintro k rfl; exact hm hU1
        obtain ⟨u1, hu1⟩ := h.node hn
        have hcsl : cs.length = nlen * nsz := by
          simp only [Own] at hu1
          rcases hu1 with ⟨_, rfl, rfl⟩ | ⟨_, _, _, _, _, _, _, _, _, _, h7, _⟩
          · simp
          · exact h7
        have hle' : dlen * nsz ≤ nlen * nsz := Nat.mul_le_mul_right _ hle
        have rest : HRel w0 L0 (addU U m) (applyH hp (cutH hp id path r)) w (relab L id path (m, 0) []) ∧ Keeps U w L hp U w (relab L id path (m, 0) []) (applyH hp (cutH hp id path r)) ∧ (∀ k, applyH hp (cutH hp id path r) (m, k) = none) ∧
            (∀ b p, L b = .at (m, 998) p → relab L id path (m, 0) [] b = .at (m, 998) p) ∧ (∀ b, L b = .prot → relab L id path (m, 0) [] b = .prot ∧ w.heap[b]? = w.heap[b]?) ∧ (∀ i ∈ (cutH hp id path r).map (·.1), U i.1) := by
          refine ⟨m1, m2.restrict fun k hk => addU_l hk, fun k => ?_, fun b p hb => ?_, m3, by simpa [cutH] using hU1⟩
          · rw [applyH_other _ _ (by simp only [cutH, List.map_cons, List.map_nil, List.mem_singleton]; exact fun e => hidm k e.symm)]
            exact hno k
          · rw [relab_other]
            · exact hb
            · intro q hq
              rw [hb] at hq
              simp only [Lbl.at.injEq] at hq
              exact hidm 998 hq.1.symm
        rcases hx (by simp [hn]) with ⟨rfl, rfl, rfl⟩ | ⟨b, cur, ee, rfl, hb, hh, hcap⟩
        · exact ⟨relab L id path (m, 0) [], [], none, 0, rfl, by simp, Nat.le_refl _, Nat.zero_le _, by simp [OwnL], by simp, .inl ⟨rfl, rfl, rfl⟩, rest⟩
        · have hb2 : relab L id path (m, 0) [] b = .at (m, 0) [] := by
            have := relab_moved (tid := (m, 0)) (tp := []) (q := []) (L := L) (b := b) (id := id) (p1 := path) (by simpa using hb)
            simpa using this
          have hcl : cur.toList.length = cur.size := by simp
          have hsz2 : dlen * nsz ≤ cap * nsz := Nat.mul_le_mul_right _ hlc
          refine ⟨relab L id path (m, 0) [], cur.toList.take (dlen * nsz), _, cap, rfl, by simp; omega, hlc, hmax, ?_, by simp; omega, .inr ⟨b, cur, ee, rfl, hb2, hh, by omega, rfl⟩, rest⟩
          by_cases hc0 : cs = []
          · subst hc0
            simp [OwnL]
          · obtain ⟨cur', ee', cap', k1, k2, k3, k4, k5, k6⟩ := h.block hn hb hc0
            rw [hh] at k1
            cases k1
            refine OwnL.intro _ _ _ fun j c hc => ?_
            rw [List.getElem?_take] at hc
            split at hc
            · rename_i hj
              obtain ⟨u', e1, e2, e3⟩ := OwnL.get cs 0 _ k6 j c hc
              refine ⟨u', by rw [List.getElem?_take, if_pos hj]; exact e1, e2, Own.move m3 c _ _ u' (fun b' q hq => ⟨?_, rfl⟩) e3⟩
              simp only [List.append_assoc, List.singleton_append] at hq
              have := relab_moved (tid := (m, 0)) (tp := []) hq
              simpa using this
            · cases hc
      · cases hs
    · cases hs
  · cases hs

theorem eff_append [Use] (hT : TabOk P T) (h : HRel w0 L0 U hp w L) (hs : Slots U w L hp sl a.tmps) (hm : ¬ U m) {c : Call} (ho : o.op = .call c) (hb : c.callee = .builtin .append)
    (he : (match c.args.toList, c.argTypes.toList with
      | [s, x], [t, t'] => if t = t' then match kindOf T t with
        | .slice e => match T e with
          | some ti => match srcOf hp (flatTI ti) ti.sz (ev T sl t x) with
            | some (scs, slen, us, rd) => match dstOf (applyH hp us) ti.sz (ev T sl t s) with
              | some (dcs, dlen, us', rd') =>
                if (dlen + slen) * ti.bytes ≤ 140737488355328 ∧ dlen + slen ≤ 140737488355328 ∧ 0 < ti.sz then
                  some (⟨.ref (m, 0) [] 0 0 ti.sz (dlen + slen), us ++ us' ++ [((m, 0), some (newRoot ti.sz (dlen + slen) (dcs ++ scs)))], rd ++ rd'⟩ : Eff)
                else none
              | none => none
            | none => none
          | none => none
        | _ => none
        else none
      | _, _ => none) = some e) : StepOk P w0 L0 U hp w L a o m e := by
  split at he
  · rename_i s x t t' hargs htys
    split at he
    · rename_i htt
      subst htt
      split at he
      · rename_i el hk
        have hu := hT.slice hk
        split at he
        · rename_i ti ht
          split at he
          · rename_i scs slen us rd hsrc
            split at he
            · rename_i dcs dlen us' rd' hdst
              split at he
              · rename_i hcond
                obtain ⟨hbytes, hlen, hsz0⟩ := hcond
                cases he
                have hti := hT el ti ht
                obtain ⟨i, z, i1, i2, i3, i4, i5⟩ := hti.info
                have hzl : z.cells.size = ti.sz := by have := congrArg List.length i5; simpa [hti.zlen] using this
                have h' : HRel w0 L0 (addU U m) hp w L := h.mono fun k hk => addU_l hk
                obtain ⟨L1, news, s1, s2, s3, s4, s5, s6, s7, s8⟩ := src_ok hsz0 h' hm (fun b k p => fresh_lab h hm k b p) (rep_ev (T := T) hs t x) hsrc
                have hmu : ∀ k, (m, k) ∉ us.map (·.1) := fun k hmem => hm (s8 _ hmem)
                obtain ⟨L2, olds, ao, cap, d1, d2, d3, d4, d5, d6, d7, d8, d9, d10, d11, d12, d13⟩ := dst_ok hsz0 s2 hm s7 (fun k => by rw [applyH_other _ _ (hmu k)]; exact fresh_root h hm k)
                  (Rep.mono s5 _ _ (rep_ev (T := T) hs t s)) hdst
                have hmu' : ∀ k, (m, k) ∉ us'.map (·.1) := fun k hmem => hm (d13 _ hmem)
                -- what is held ready, under the labels of the destination
                have hscs : OwnL w L2 scs (m, 998) [] 0 news := by
                  refine OwnL.intro _ _ _ fun j c hc => ?_
                  obtain ⟨u', e1, e2, e3⟩ := OwnL.get _ _ _ s3 j c hc
                  exact ⟨u', e1, e2, Own.move d12 c _ _ u' (fun b q hq => ⟨d11 b _ hq, rfl⟩) e3⟩
                have key : ∀ keep, HRel w0 L0 (addU U m) (applyH (applyH hp us) us') w (relabA L2 m keep (dlen * ti.sz)) ∧ Keeps U w L hp U w (relabA L2 m keep (dlen * ti.sz)) (applyH (applyH hp us) us') ∧
                    OwnL w (relabA L2 m keep (dlen * ti.sz)) (dcs ++ scs) (m, 0) [] 0 (olds ++ news) := by
                  intro keep
                  obtain ⟨r1, r2⟩ := relabA_ok d8 hm d10 keep (dlen * ti.sz)
                  refine ⟨r1, (s5.trans d9).trans r2, ownL_append d6.symm ?_ ?_⟩
                  · refine OwnL.intro _ _ _ fun j c hc => ?_
                    obtain ⟨u', e1, e2, e3⟩ := OwnL.get _ _ _ d5 j c hc
                    refine ⟨u', e1, e2, Own.move relabA_prot c _ _ u' (fun b q hq => ⟨?_, rfl⟩) e3⟩
                    simp only [List.nil_append, List.singleton_append] at hq ⊢
                    exact relabA_old hq (by have := (List.getElem?_eq_some_iff.1 hc).1; omega)
                  · refine OwnL.intro _ _ _ fun j c hc => ?_
                    obtain ⟨u', e1, e2, e3⟩ := OwnL.get _ _ _ hscs j c hc
                    refine ⟨u', e1, e2, Own.move relabA_prot c _ _ u' (fun b q hq => ⟨?_, rfl⟩) e3⟩
                    simp only [List.nil_append, List.singleton_append, Nat.zero_add] at hq ⊢
                    rw [relabA_new hq, d6, d2]
                have hcsl : (dcs ++ scs).length = (dlen + slen) * ti.sz := by
                  obtain ⟨_, _, _, n1, _⟩ := s1
                  rw [List.length_append, d6, d2, s4, n1, Nat.add_mul]
                have hnl : news.length = slen * ti.sz := by obtain ⟨_, _, _, n1, _⟩ := s1; exact n1
                have hups : applyH hp (us ++ us' ++ [((m, 0), some (newRoot ti.sz (dlen + slen) (dcs ++ scs)))]) = upd (applyH (applyH hp us) us') (m, 0) (some (newRoot ti.sz (dlen + slen) (dcs ++ scs))) := by
                  rw [applyH_append, applyH_append, applyH_one]
                have hca : c.args = #[s, x] := by cases hc : c.args; simp_all
                have hct : c.argTypes = #[t, t] := by cases hc : c.argTypes; simp_all
                have hexec : ∀ v w', (Builtin.append_ #[t, t] o.type #[a.eval s, a.eval x]).run P w = .ok v w' → (execOp a.eval o).run P w = .ok (.value v) w' := by
                  intro v w' hr
                  simp [execOp, ho, resolve, hb, hca, hct, invoke, builtin, hr]
                have s1' : SrcV w i.size (a.eval x) slen news := by rw [i2]; exact s1
                rw [show (⟨A.ref (m, 0) [] 0 0 ti.sz (dlen + slen), us ++ us' ++ [((m, 0), some (newRoot ti.sz (dlen + slen) (dcs ++ scs)))], rd ++ rd'⟩ : Eff) = ⟨A.ref (m, 0) [] 0 0 ti.sz (dlen + slen), us ++ us' ++ [((m, 0), some (newRoot ti.sz (dlen + slen) (dcs ++ scs)))], rd ++ rd'⟩ from rfl]
                unfold StepOk
                simp only [hups]
                -- the way on which a new array is made
                have grow : cap < dlen + slen → SrcV w i.size (a.eval s) dlen olds →
                    ∃ v w' L', (execOp a.eval o).run P w = .ok (.value v) w' ∧ HRel w0 L0 (addU U m) (upd (applyH (applyH hp us) us') (m, 0) (some (newRoot ti.sz (dlen + slen) (dcs ++ scs)))) w' L' ∧
                      Keeps U w L hp (addU U m) w' L' (upd (applyH (applyH hp us) us') (m, 0) (some (newRoot ti.sz (dlen + slen) (dcs ++ scs)))) ∧
                      Rep (addU U m) w' L' (upd (applyH (applyH hp us) us') (m, 0) (some (newRoot ti.sz (dlen + slen) (dcs ++ scs)))) (.ref (m, 0) [] 0 0 ti.sz (dlen + slen)) v := by
                  intro hc1 hsv
                  obtain ⟨k1, k2, k3⟩ := key false
                  have hrun := run_app_grow (P := P) (w := w) (ty := o.type) hu i1 i4 hsv ⟨ao, d1⟩ s1' hc1 (by omega) (by rw [i3]; exact hbytes)
                  have hge := grownCap_ge w (dlen + slen) cap el
                  have hmx := grownCap_le_maxLen w (dlen + slen) cap el (by simp only [maxLen]; omega)
                  have hsize : (olds.toArray ++ news.toArray ++ Builtin.zeroCells z.cells (grownCap w (dlen + slen) cap el - (dlen + slen))).size = grownCap w (dlen + slen) cap el * ti.sz := by
                    simp only [Array.size_append, List.size_toArray, size_zeroCells, hzl, d2, hnl, ← Nat.add_mul]
                    congr 1
                    omega
                  obtain ⟨L', f1, f2, f3, f4, f5⟩ := step_new h hm k1 k2 (sz := ti.sz) (len := dlen + slen) (cap := grownCap w (dlen + slen) cap el) (cur := olds.toArray ++ news.toArray ++ Builtin.zeroCells z.cells (grownCap w (dlen + slen) cap el - (dlen + slen))) 0
                    (by simpa using ownL_more (vs := (Builtin.zeroCells z.cells (grownCap w (dlen + slen) cap el - (dlen + slen))).toList) k3) hcsl hsize hge hmx (fun b hb' => by
                      rcases relabA_back hb' with ⟨e1, _⟩ | ⟨_, _, e1, _⟩ | ⟨_, j, q, e1, _⟩ | ⟨_, j, q, e1, _⟩ | ⟨e1, _⟩
                      · exact e1 rfl
                      · exact e1 rfl
                      · cases e1
                      · cases e1
                      · cases e1) (d10 0) w.drew (.inr rfl) (e := el)
                  exact ⟨_, _, L', hexec _ _ hrun, f1, f2, rep_newref (.inr rfl) f3 f4 hsize hge hmx⟩
                rcases d7 with ⟨rfl, rfl, rfl⟩ | ⟨b, cur, ee, rfl, q1, q2, q3, q4⟩
                · have holds : olds = [] := List.eq_nil_of_length_eq_zero (by simpa using d2)
                  subst holds
                  by_cases hsl : slen = 0
                  · subst hsl
                    have hdc0 : dcs ++ scs = [] := List.eq_nil_of_length_eq_zero (by simpa using hcsl)
                    obtain ⟨k1, k2, k3⟩ := key false
                    refine ⟨.slice none 0 0, w, relabA L2 m false (0 * ti.sz), ?_, ?_, ?_, ?_⟩
                    · refine hexec _ _ ?_
                      rw [d1]
                      exact run_app_nil hu i1 s1'
                    · refine addRoot k1 (u := .slice none 0 0) ?_ (.inr rfl)
                      simp only [newRoot, hdc0, Own]
                      left; simp
                    · exact k2.trans (keeps_root (fun k hk => addU_l hk) hm fun b hb => ⟨rfl, rfl⟩)
                    · simp only [Rep]
                      refine ⟨.inr rfl, fun r' _ c p hp' => (by cases hp'), none, 0, rfl, Nat.le_refl _, Nat.zero_le _, fun _ => .inl (by simp)⟩
                  · exact grow (by omega) ⟨none, 0, d1, by simp, by simp, .inl rfl⟩
                · have hone : ∀ u ∈ olds, u.oneCell' = true := by
                    intro u hu'
                    obtain ⟨j, hj⟩ := List.getElem?_of_mem hu'
                    have hjl : j < dcs.length := by rw [d6]; exact (List.getElem?_eq_some_iff.1 hj).1
                    obtain ⟨u', e1, e2, _⟩ := OwnL.get _ _ _ d5 j _ (List.getElem?_eq_getElem hjl)
                    rw [hj] at e1
                    cases e1
                    exact e2
                  by_cases hroom : dlen + slen ≤ cap
                  · obtain ⟨k1, k2, k3⟩ := key true
                    have hmul : (dlen + slen) * ti.sz ≤ cap * ti.sz := Nat.mul_le_mul_right _ hroom
                    rw [Nat.add_mul] at hmul
                    have hrun := run_app_room (P := P) (w := w) (ty := o.type) hu i1 q2 s1' hroom (by rw [i2, hnl]; omega)
                    rw [i2, ← d1] at hrun
                    generalize hcur' : (cur.toList.take (dlen * ti.sz) ++ news ++ cur.toList.drop (dlen * ti.sz + news.length)).toArray = cur' at hrun
                    have hcl : cur.toList.length = cur.size := by simp
                    have hcur'sz : cur'.size = cap * ti.sz := by rw [← hcur']; simp; omega
                    have hcur'l : cur'.toList = olds ++ news ++ cur.toList.drop (dlen * ti.sz + news.length) := by rw [← hcur', q4]
                    have hLb : relabA L2 m true (dlen * ti.sz) b = .at (m, 0) [] := relabA_block q1
                    obtain ⟨f1, f2⟩ := setRow_ok k1 hLb (fun r hr => by rw [d10 0] at hr; cases hr) cur'
                    have hwb : (w.setRow b cur').heap[b]? = some (.cells cur' ee (0, 0)) := setRow_heap w b cur cur' ee _ q2
                    have hown : Own (w.setRow b cur') (relabA L2 m true (dlen * ti.sz)) (.s true (newRoot ti.sz (dlen + slen) (dcs ++ scs)).sz (newRoot ti.sz (dlen + slen) (dcs ++ scs)).len (newRoot ti.sz (dlen + slen) (dcs ++ scs)).cs) (m, 0) [] (.slice (some ⟨b, 0, none⟩) (dlen + slen) cap) := by
                      simp only [newRoot, Own]
                      refine .inr ⟨b, cur', ee, cap, rfl, hLb, hwb, hcur'sz, hroom, d4, hcsl, ?_⟩
                      rw [hcur'l]
                      refine OwnL.intro _ _ _ fun j c hc => ?_
                      obtain ⟨u', e1, e2, e3⟩ := OwnL.get _ _ _ (ownL_more (vs := cur.toList.drop (dlen * ti.sz + news.length)) k3) j c hc
                      refine ⟨u', e1, e2, Own.move (fun b' hb' => ⟨hb', f2 b' (by rintro rfl; rw [hLb] at hb'; cases hb')⟩) c _ _ u' (fun b' q hq => ⟨hq, f2 b' ?_⟩) e3⟩
                      rintro rfl
                      rw [hLb] at hq
                      simp at hq
                    refine ⟨_, _, relabA L2 m true (dlen * ti.sz), hexec _ _ hrun, addRoot f1 hown (.inr rfl), ?_, ?_⟩
                    · refine k2.trans (keeps_row (fun k hk => addU_l hk) hm (fun b' hb' => f2 b' (by rintro rfl; rw [hLb] at hb'; cases hb')) fun i p b' hi hb' => f2 b' ?_)
                      rintro rfl
                      rw [hLb] at hb'
                      cases hb'
                      exact hm hi
                    · exact rep_newref (.inr rfl) hLb hwb hcur'sz hroom d4
                  · exact grow (by omega) ⟨_, cap, d1, by rw [i2]; exact d2, hone, .inr ⟨_, rfl, fun j v hj => by
                      rw [add_lit, cell_row q2, Nat.zero_add]
                      rw [q4, List.getElem?_take] at hj
                      split at hj
                      · exact hj
                      · cases hj⟩⟩
              · cases he
            · cases he
          · cases he
        · cases he
      · cases he
    · cases he
  · cases he

end
end Go.TM
