/- The tree machine, 7: the operations that make a root. -/
import Derived.Test.YthikbhekdnmhbaaTm6
namespace Go.TM
set_option linter.unusedVariables false
set_option linter.unusedSimpArgs false

/-- The operation gives a value; the heap turns as the machine says. -/
def StepOk [Use] (P : Program) (w0 : World) (L0 : Lab) (U : Nat → Prop) (hp : Hp) (w : World) (L : Lab) (a : Act) (o : Oper) (m : Nat) (e : Eff) : Prop :=
  ∃ v w' L', (execOp a.eval o).run P w = .ok (.value v) w' ∧ HRel w0 L0 (addU U m) (applyH hp e.ups) w' L' ∧ Keeps U w L hp (addU U m) w' L' (applyH hp e.ups) ∧ Rep (addU U m) w' L' (applyH hp e.ups) e.val v

section
variable {P : Program} {T : Nat → Option TI} {w0 : World} {L0 : Lab} {U : Nat → Prop} {w w' : World} {L L' : Lab} {hp : Hp} {sl : Nat → A} {a : Act} {o : Oper} {e : Eff} {m : Nat}

theorem flat_get [Use] (l : List A) : ∀ (n j : Nat), ((List.replicate n l).flatten)[j]? = if j < n * l.length then l[j % l.length]? else none
  | 0, j => by simp
  | n + 1, j => by
    rw [List.replicate_succ, List.flatten_cons]
    by_cases h : j < l.length
    · rw [List.getElem?_append_left h, if_pos (by rw [Nat.add_mul]; omega), Nat.mod_eq_of_lt h]
    · rw [List.getElem?_append_right (by omega), flat_get l n (j - l.length)]
      have e1 : (j - l.length) % l.length = j % l.length := by
        rw [Nat.mod_eq_sub_mod (a := j) (by omega)]
      rw [e1, Nat.add_mul, Nat.one_mul]
      by_cases h2 : j - l.length < n * l.length
      · rw [if_pos h2, if_pos (by omega)]
      · rw [if_neg h2, if_neg (by omega)]

theorem own_zv [Use] {id : Id} {p : List Nat} {x : A} (h : zok x = true) : Own w L x id p (zv x) ∧ (zv x).oneCell' = true := by
  match x, h with
  | .i k n, h => exact ⟨by simp only [Own, zv]; exact ⟨trivial, h⟩, rfl⟩
  | .b v, _ => exact ⟨by simp [Own, zv], rfl⟩
  | .s true sz 0 [], _ => exact ⟨by simp [Own, zv], rfl⟩
  | .und, _ => exact ⟨by simp [Own], rfl⟩

/-- Rows of zero cells. -/
theorem own_zeros [Use] {t : Nat} {ti : TI} (hti : TIok P t ti) {id : Id} {p : List Nat} (n : Nat) {us : List Value} (hl : us.length = n * ti.sz) (hu : ∀ j, j < n * ti.sz → us[j]? = (ti.zero.map zv)[j % ti.sz]?) :
    OwnL w L ((List.replicate n ti.zero).flatten) id p 0 us := by
  refine OwnL.intro _ _ _ fun j c hc => ?_
  rw [flat_get] at hc
  rw [hti.zlen] at hc
  split at hc
  · rename_i hj
    have h1 := own_zv (w := w) (L := L) (id := id) (p := p ++ [0 + j]) (List.all_eq_true.1 hti.zok c (List.mem_of_getElem? hc))
    refine ⟨zv c, ?_, h1.2, h1.1⟩
    rw [hu j hj, List.getElem?_map, hc]
    rfl
  · cases hc

theorem fresh_lab [Use] (h : HRel w0 L0 U hp w L) (hm : ¬ U m) (k : Nat) : ∀ b p, L b ≠ .at (m, k) p := fun b p hb => hm (h.used b _ p hb)

theorem fresh_root [Use] (h : HRel w0 L0 U hp w L) (hm : ¬ U m) (k : Nat) : hp (m, k) = none := by
  cases hr : hp (m, k) with
  | none => rfl
  | some r => exact (hm (h.usedR _ r hr)).elim

theorem rep_newptr [Use] {b : Nat} {id : Id} {r : Root} (hU : U id.1) (hb : L b = .at id []) : Rep U w L (upd hp id (some r)) (.ptr id [] 0 0) (.pointer (some ⟨b, 0, none⟩)) := by
  refine rep_ptr hU ?_ hb
  intro r' _ c p hp'
  cases hp'

theorem rep_newref [Use] {b sz len cap : Nat} {id : Id} {r : Root} {cur : Array Value} {e : Nat} (hU : U id.1) (hb : L b = .at id []) (hw : w.heap[b]? = some (.cells cur e (0, 0))) (hcur : cur.size = cap * sz) (h1 : len ≤ cap) (h2 : cap ≤ maxLen) :
    Rep U w L (upd hp id (some r)) (.ref id [] 0 0 sz len) (.slice (some ⟨b, 0, none⟩) len cap) := by
  simp only [Rep]
  refine ⟨hU, ?_, _, cap, rfl, h1, h2, fun _ => .inr ⟨b, cur, e, rfl, hb, hw, by omega⟩⟩
  intro r' _ c p hp'
  cases hp'

/-- A new block under a root that has not been used. -/
theorem step_new [Use] (h : HRel w0 L0 U hp w L) (hm : ¬ U m) {hp1 : Hp} {L1 : Lab} (h1 : HRel w0 L0 (addU U m) hp1 w L1) (hk1 : Keeps U w L hp U w L1 hp1) {sz len cap : Nat} {cs : List A} {cur : Array Value} {e : Nat} (k : Nat)
    (hown : OwnL w L1 cs (m, k) [] 0 cur.toList) (hcs : cs.length = len * sz) (hcur : cur.size = cap * sz) (hcap : len ≤ cap) (hmax : cap ≤ maxLen) (hnew : ∀ b, L1 b ≠ .at (m, k) []) (hnone : hp1 (m, k) = none) (w1 : World)
    (hw1 : w1 = w ∨ w1 = w.drew) :
    ∃ L', HRel w0 L0 (addU U m) (upd hp1 (m, k) (some (newRoot sz len cs))) (w1.alloc (.cells cur e)) L' ∧ Keeps U w L hp (addU U m) (w1.alloc (.cells cur e)) L' (upd hp1 (m, k) (some (newRoot sz len cs))) ∧
      L' w.heap.size = .at (m, k) [] ∧ (w1.alloc (.cells cur e)).heap[w.heap.size]? = some (.cells cur e (0, 0)) ∧ (∀ b, b ≠ w.heap.size → L' b = L1 b) := by
  have hh : w1.heap = w.heap := by rcases hw1 with rfl | rfl <;> rfl
  have hos : w1.os = w.os := by rcases hw1 with rfl | rfl <;> rfl
  have htp : w1.tape = w.tape := by rcases hw1 with rfl | rfl <;> rfl
  have hout : w1.output = w.output := by rcases hw1 with rfl | rfl <;> rfl
  have hw : (w1.alloc (.cells cur e)).heap[w.heap.size]? = some (.cells cur e (0, 0)) := by rw [← hh]; exact heap_alloc_eq w1 _
  have hold : ∀ b, b < w.heap.size → (w1.alloc (.cells cur e)).heap[b]? = w.heap[b]? := fun b hb => by rw [heap_alloc_lt w1 _ (by rw [hh]; exact hb), hh]
  obtain ⟨L', g1, g2, g3, g4⟩ := adopt (w' := w1.alloc (.cells cur e)) h1 (id := (m, k)) (.inr rfl) hown hcs hcur hcap hmax hnew hnone hw hold (by rw [World.size_alloc, hh]) hos htp hout
  exact ⟨L', g1, hk1.trans (keeps_root (fun k hk => .inl hk) hm g4), g2, hw, g3⟩

theorem addU_l {k : Nat} (h : U k) : addU U m k := .inl h

theorem eff_alloc [Use] (hT : TabOk P T) (h : HRel w0 L0 U hp w L) (hm : ¬ U m) {t : Nat} (ho : o.op = .alloc t)
    (he : (match T t with
    | some ti => some (⟨.ptr (m, 0) [] 0 0, [((m, 0), some (newRoot ti.sz 1 ti.zero))], []⟩ : Eff)
    | none => none) = some e) : StepOk P w0 L0 U hp w L a o m e := by
  split at he
  · rename_i ti ht
    cases he
    have hti := hT t ti ht
    obtain ⟨i, z, h1, h2, h3, h4, h5⟩ := hti.info
    have hzl : z.cells.size = ti.sz := by have := congrArg List.length h5; simpa [hti.zlen] using this
    have hz := own_zeros (w := w) (L := L) hti (id := (m, 0)) (p := []) 1 (us := z.cells.toList) (by simp [hzl]) (fun j hj => by rw [h5, Nat.mod_eq_of_lt (by omega)])
    simp only [List.replicate_one, List.flatten_cons, List.flatten_nil, List.append_nil] at hz
    obtain ⟨L', g1, g2, g3, g4, g5⟩ := step_new h hm (h.mono fun k hk => addU_l hk) Keeps.rfl' (sz := ti.sz) (len := 1) (cap := 1) 0 hz (by simp [hti.zlen]) (by simp [hzl]) (Nat.le_refl _) (by decide) (fun b => fresh_lab h hm 0 b []) (fresh_root h hm 0) w (.inl rfl) (e := t)
    refine ⟨.pointer (some ⟨w.heap.size, 0, none⟩), _, L', ?_, g1, g2, rep_newptr (.inr rfl) g3⟩
    simp [execOp, ho, Instr.alloc, zeroValue, typeInfo, h1, h4, newVar, newRow]
  · cases he

theorem eff_box [Use] (hT : TabOk P T) (h : HRel w0 L0 U hp w L) (hs : Slots U w L hp sl a.tmps) (hm : ¬ U m) {t : Nat} {x : Operand} (ho : o.op = .box t x)
    (he : (match T t, closeL hp (cellsA (ev T sl t x)) with
    | some ti, some (cs, us, rd) => if cs.length = ti.sz then some (⟨.ptr (m, 0) [] 0 0, us ++ [((m, 0), some (newRoot ti.sz 1 cs))], rd⟩ : Eff) else none
    | _, _ => none) = some e) : StepOk P w0 L0 U hp w L a o m e := by
  split at he
  · rename_i ti cs us rd ht hcl
    split at he
    · rename_i hlen
      cases he
      have hti := hT t ti ht
      have hcells := rep_cells (rep_ev (T := T) hs t x) (close_okPart hcl)
      have hups := closeL_used _ _ _ _ _ h.usedR hcl
      have hmu : (m, 0) ∉ us.map (·.1) := fun hmem => hm (hups _ hmem)
      have hk0 : Keeps U w L hp (addU U m) w L hp := ⟨fun k hk => addU_l hk, fun _ h => ⟨h, rfl⟩, fun _ r h _ => ⟨r, h, fun _ => Nat.le_refl _⟩, fun _ _ _ _ _ h => ⟨h, fun _ hb => ⟨hb, fun cur _ hc => ⟨cur, hc, rfl⟩⟩⟩⟩
      obtain ⟨L1, g1, g2, g3, g4, g5, g6⟩ := closeL_ok (m, 0) [] (.inr rfl) _ _ 0 hp L cs us rd (h.mono fun k hk => addU_l (m := m) hk) (RepL.mono hk0 _ _ hcells) hcl hmu (fun b j q _ _ => fresh_lab h hm 0 b _)
      have hsz : (a.eval x).cells.size = ti.sz := by rw [← hlen, g5]; simpa using g6
      obtain ⟨L', f1, f2, f3, f4, f5⟩ := step_new h hm g1 (g3.restrict fun k hk => addU_l hk) (sz := ti.sz) (len := 1) (cap := 1) 0 g2 (by omega) (by omega) (Nat.le_refl _) (by decide) (fun b hb => by
          rcases g4.back b _ _ hb with hb | ⟨_, j, q, e1, _⟩
          · exact fresh_lab h hm 0 b _ hb
          · simp at e1) (by rw [applyH_other us hp hmu]; exact fresh_root h hm 0) w (.inl rfl) (e := t)
      rw [← applyH_one, ← applyH_append] at f1 f2
      refine ⟨.pointer (some ⟨w.heap.size, 0, none⟩), _, L', ?_, f1, f2, ?_⟩
      · simp [execOp, ho, Instr.box, newVar, newRow]
      · rw [applyH_append, applyH_one]
        exact rep_newptr (.inr rfl) f3
    · cases he
  · cases he

theorem zeros_get [Use] {z : Array Value} {n j : Nat} (hj : j < n) (hz : 0 < z.size) : (((Array.range n).map (z[· % z.size]!)).toList)[j]? = z.toList[j % z.size]? := by
  have : j % z.size < z.size := Nat.mod_lt _ hz
  simp [hj, getElem!_pos, this]

theorem eff_makeSlice [Use] (hT : TabOk P T) (h : HRel w0 L0 U hp w L) (hs : Slots U w L hp sl a.tmps) (hm : ¬ U m) {t : Nat} {l c : Operand} (ho : o.op = .makeSlice t l c)
    (he : (match kindOf T t, ev T sl 0 l, ev T sl 0 c with
    | .slice e, .i .i64 n, .i .i64 n' => match T e with
      | some ti => if n = n' ∧ 0 ≤ n ∧ n.toNat * ti.bytes ≤ 140737488355328 ∧ n.toNat ≤ 140737488355328 then some (⟨.ref (m, 0) [] 0 0 ti.sz n.toNat, [((m, 0), some (newRoot ti.sz n.toNat (List.replicate n.toNat ti.zero).flatten))], []⟩ : Eff) else none
      | none => none
    | _, _, _ => none) = some e) : StepOk P w0 L0 U hp w L a o m e := by
  split at he
  · rename_i el n n' hk hl hc
    have hu := hT.slice hk
    have r1 := rep_ev (T := T) hs 0 l
    have r2 := rep_ev (T := T) hs 0 c
    rw [hl] at r1
    rw [hc] at r2
    obtain ⟨r1, w1⟩ := rep_i r1
    obtain ⟨r2, w2⟩ := rep_i r2
    split at he
    · rename_i ti ht
      split at he
      · rename_i hcond
        obtain ⟨rfl, h0, hb, hb2⟩ := hcond
        cases he
        have hti := hT el ti ht
        obtain ⟨i, z, h1, h2, h3, h4, h5⟩ := hti.info
        have hzl : z.cells.size = ti.sz := by have := congrArg List.length h5; simpa [hti.zlen] using this
        have hrun := run_make (P := P) w t el i z hu h1 h4 .i64 .i64 n n h0 (Int.le_refl _) (by
          have : (i.bytes : Int) * n = ((n.toNat * ti.bytes : Nat) : Int) := by rw [h3, Int.natCast_mul, Int.toNat_of_nonneg h0, Int.mul_comm]
          rw [this]; omega) (by omega)
        rw [h2] at hrun
        have hmade : ∀ j, j < n.toNat * ti.sz → (madeCells z.cells (n.toNat * ti.sz)).toList[j]? = (ti.zero.map zv)[j % ti.sz]? := by
          intro j hj
          have hpos : 0 < ti.sz := by
            rcases Nat.eq_zero_or_pos ti.sz with h | h
            · rw [h] at hj; omega
            · exact h
          have := zeros_get (z := z.cells) (n := n.toNat * ti.sz) (j := j) hj (by omega)
          rw [hzl, h5] at this
          rw [← this]
          simp [madeCells, hzl]
        have hz := own_zeros (w := w) (L := L) hti (id := (m, 0)) (p := []) n.toNat (us := (madeCells z.cells (n.toNat * ti.sz)).toList) (by simp [size_madeCells]) hmade
        obtain ⟨L', g1, g2, g3, g4, g5⟩ := step_new h hm (h.mono fun k hk => addU_l hk) Keeps.rfl' (sz := ti.sz) (len := n.toNat) (cap := n.toNat) 0 hz (by
            have := flat_get ti.zero n.toNat
            simp [List.length_flatten, hti.zlen]) (by simp [size_madeCells]) (Nat.le_refl _) (by simp only [maxLen]; omega) (fun b => fresh_lab h hm 0 b []) (fresh_root h hm 0) w (.inl rfl) (e := el)
        refine ⟨.slice (some ⟨w.heap.size, 0, none⟩) n.toNat n.toNat, _, L', ?_, g1, g2, rep_newref (.inr rfl) g3 g4 (by simp [size_madeCells]) (Nat.le_refl _) (by simp only [maxLen]; omega)⟩
        simp [execOp, ho, r1, r2, hrun]
      · cases he
    · cases he
  · cases he

theorem fillA_length [Use] (place : Nat → Option (Nat × Nat)) : ∀ (ps : List (Nat × A)) (xs r : List A), fillA place xs ps = some r → r.length = xs.length
  | [], _, _, h => by simp [fillA] at h; rw [h]
  | (i, v) :: ps, xs, r, h => by
    simp only [fillA] at h
    split at h
    · cases h
    · rename_i off size _
      split at h
      · rename_i hc
        rw [fillA_length place ps _ r h]
        simp
        omega
      · cases h

theorem eff_buildSlice [Use] (hT : TabOk P T) (h : HRel w0 L0 U hp w L) (hs : Slots U w L hp sl a.tmps) (hm : ¬ U m) {t len : Nat} {parts : Array (Nat × Operand)} (ho : o.op = .buildSlice t len parts)
    (he : (match kindOf T t with
    | .slice e => match T e with
      | some ti => match fillA (fun i => some (i * ti.sz, ti.sz)) (List.replicate len ti.zero).flatten (parts.toList.map fun p => (p.1, ev T sl e p.2)) with
        | some vs => match closeL hp vs with
          | some (cs, us, rd) => if 0 < ti.sz ∧ len * ti.sz ≤ 2 ^ 24 then some (⟨.ref (m, 0) [] 0 0 ti.sz len, us ++ [((m, 0), some (newRoot ti.sz len cs))], rd⟩ : Eff) else none
          | none => none
        | none => none
      | none => none
    | _ => none) = some e) : StepOk P w0 L0 U hp w L a o m e := by
  split at he
  · rename_i el hk
    have hu := hT.slice hk
    split at he
    · rename_i ti ht
      split at he
      · rename_i vs hvs
        split at he
        · rename_i cs us rd hcl
          split at he
          · rename_i hsmall'
            obtain ⟨hpos0, hsmall⟩ := hsmall'
            cases he
            have hti := hT el ti ht
            obtain ⟨i, z, h1, h2, h3, h4, h5⟩ := hti.info
            have hzl : z.cells.size = ti.sz := by have := congrArg List.length h5; simpa [hti.zlen] using this
            -- the cells to begin with
            obtain ⟨c0, hc0, hc0l, hc0r⟩ : ∃ c0 : Array Value, (if len * ti.sz = 0 then c0 = #[] else c0 = (Array.range (len * ti.sz)).map (z.cells[· % z.cells.size]!)) ∧ c0.size = len * ti.sz ∧ RepL U w L hp (List.replicate len ti.zero).flatten c0.toList := by
              by_cases hz0 : len * ti.sz = 0
              · refine ⟨#[], by simp [hz0], by simp [hz0], ?_⟩
                have : (List.replicate len ti.zero).flatten = [] := List.eq_nil_of_length_eq_zero (by simp [List.length_flatten, hti.zlen, hz0])
                rw [this]
                simp [RepL]
              · refine ⟨_, by rw [if_neg hz0], by simp, ?_⟩
                refine repL_of (by simp [List.length_flatten, hti.zlen]) fun j x u hx hu' => ?_
                rw [flat_get, hti.zlen] at hx
                split at hx
                · rename_i hj
                  have hpos : 0 < ti.sz := by
                    rcases Nat.eq_zero_or_pos ti.sz with h | h
                    · rw [h] at hz0; simp at hz0
                    · exact h
                  rw [zeros_get hj (by omega), hzl, h5, List.getElem?_map, hx] at hu'
                  cases hu'
                  exact rep_zv (List.all_eq_true.1 hti.zok x (List.mem_of_getElem? hx))
                · cases hx
            obtain ⟨out, ho1, ho2⟩ := fill_rep (fun i => some (i * ti.sz, ti.sz)) _ (parts.map fun (i, x) => (i, a.eval x)).toList _ c0 vs hc0r (by simp) (parts_rep (T := T) hs parts (fun _ => el)) hvs
            have hvl : vs.length = len * ti.sz := by rw [fillA_length _ _ _ _ hvs]; simp [List.length_flatten, hti.zlen]
            have hups := closeL_used _ _ _ _ _ h.usedR hcl
            have hmu : (m, 0) ∉ us.map (·.1) := fun hmem => hm (hups _ hmem)
            have hk0 : Keeps U w L hp (addU U m) w L hp := ⟨fun k hk => addU_l hk, fun _ h => ⟨h, rfl⟩, fun _ r h _ => ⟨r, h, fun _ => Nat.le_refl _⟩, fun _ _ _ _ _ h => ⟨h, fun _ hb => ⟨hb, fun cur _ hc => ⟨cur, hc, rfl⟩⟩⟩⟩
            obtain ⟨L1, g1, g2, g3, g4, g5, g6⟩ := closeL_ok (m, 0) [] (.inr rfl) _ _ 0 hp L cs us rd (h.mono fun k hk => addU_l (m := m) hk) (RepL.mono hk0 _ _ ho2) hcl hmu (fun b j q _ _ => fresh_lab h hm 0 b _)
            have hosz : out.size = len * ti.sz := by rw [← hvl]; simpa using g6
            have hlenmax : len ≤ maxLen := by
              have := Nat.le_mul_of_pos_right len hpos0
              simp only [maxLen]
              omega
            obtain ⟨L', f1, f2, f3, f4, f5⟩ := step_new h hm g1 (g3.restrict fun k hk => addU_l hk) (sz := ti.sz) (len := len) (cap := len) 0 g2 (by omega) (by omega) (Nat.le_refl _) hlenmax (fun b hb => by
                rcases g4.back b _ _ hb with hb | ⟨_, j, q, e1, _⟩
                · exact fresh_lab h hm 0 b _ hb
                · simp at e1) (by rw [applyH_other us hp hmu]; exact fresh_root h hm 0) w (.inl rfl) (e := el)
            rw [← applyH_one, ← applyH_append] at f1 f2
            refine ⟨.slice (some ⟨w.heap.size, 0, none⟩) len len, _, L', ?_, f1, f2, ?_⟩
            · have hrun : (Instr.buildSlice t len (parts.map fun (i, x) => (i, a.eval x))).run P w = .ok (.slice (some ⟨w.heap.size, 0, none⟩) len len) (w.alloc (.cells out el)) := by
                by_cases hz0 : len * ti.sz = 0
                · rw [if_pos hz0] at hc0
                  subst hc0
                  have hz0' : len * i.size = 0 := by rw [h2]; exact hz0
                  rw [← h2] at ho1
                  have hr0 : Array.range 0 = #[] := rfl
                  have ho2 : Instr.fill (fun j => some (j * i.size, i.size)) #[] (List.map (fun x => (x.fst, a.eval x.snd)) parts.toList) = some out := by simpa using ho1
                  simp [Instr.buildSlice, run_underlying hu, sizeOf, typeInfo, h1, hz0', newRow, hr0, ho2]
                · rw [if_neg hz0] at hc0
                  refine run_buildSlice w t el len _ out i z hu h1 h4 (by rw [h2]; omega) (by rw [h2]; exact hz0) ?_
                  rw [h2, ← hc0]
                  exact ho1
              unfold execOp
              simp only [ho, Sem.run_bind, hrun, Result.andThen_ok, Sem.run_pure]
            · rw [applyH_append, applyH_one]
              exact rep_newref (.inr rfl) f3 f4 (by omega) (Nat.le_refl _) hlenmax
          · cases he
        · cases he
      · cases he
    · cases he
  · cases he

end
end Go.TM
