/- Contracts, 27: slices.Insert of one element. (Printed by gen27.py.) -/
import Derived.Test.YtbpfagbihffmbaaF26
import Derived.Shelf.Spec.SlicesInsertGrow
import Derived.Lib.AppendZeros
import Derived.Lib.Overlaps
namespace Go.Proofs
open Go.Shelf Go.RowKit Go.TM Go.Lib
set_option linter.unusedVariables false
set_option linter.unusedSimpArgs false

theorem run_copy_sized {P : Program} (w : World) (dT sT ty elem : TypeId) (size : Nat) (b o dLen dCap : Nat) (a : Addr) (sLen sCap : Nat) (cs : List Value)
    (hu : P.underlying dT = some (.slice elem)) (hs : (P.info? elem).map (·.size) = some size) (hn : cs.length = Nat.min sLen dLen * size)
    (hsrc : ∀ j v, cs[j]? = some v → w.cell? (a.add j) = some v) (hc : ∀ j, j < cs.length → (w.cell? ⟨b, o + j, none⟩).isSome = true) (hf : ∀ j, j < cs.length → w.frozen? ⟨b, o + j, none⟩ = false) (h1 : ∀ v ∈ cs, v.oneCell' = true) :
    (Builtin.copy_ #[dT, sT] ty #[.slice (some ⟨b, o, none⟩) dLen dCap, .slice (some a) sLen sCap]).run P w = .ok (goInt (Nat.min sLen dLen)) (w.setCells b o cs) := by
  have hl := run_loadCells_list (P := P) w a cs hsrc
  have hst := run_storeCells_cells (P := P) b o cs 0 w (by simpa using hc) (by simpa using hf) h1
  cases hq : P.info? elem with
  | none => simp [hq] at hs
  | some i =>
    have hi : i.size = size := by simpa [hq] using hs
    simp [Builtin.copy_, run_underlying hu, Builtin.lenOf, Builtin.firstCells, sizeOf, typeInfo, hq, hi, ← hn, hl, hst]

end Go.Proofs
namespace Go.TM
open Go.Proofs Go.RowKit Go.Shelf
set_option linter.unusedVariables false
set_option linter.unusedSimpArgs false
set_option maxRecDepth 100000

/-- What slices.Insert leaves: the result's cells hold the numbers zs. -/
def InsPost (w : World) (ob : Option Nat) (sz n : Nat) (zs : List Int) (e : Ending) (w' : World) : Prop :=
  ∃ (b cap : Nat) (cur : Array Value) (et : Nat), e = .returned (.slice (some ⟨b, 0, none⟩) n cap) ∧ n ≤ cap ∧ cap ≤ maxLen ∧ w'.heap[b]? = some (.cells cur et (0, 0)) ∧ cur.size = cap * sz ∧ (∀ t, t < n * sz → cur[t]? = some (.int .i64 (zs.getD t 0))) ∧
    w'.os = w.os ∧ w'.tape = w.tape ∧ w'.output = w.output ∧ w.heap.size ≤ w'.heap.size ∧ (∀ x, x < w.heap.size → x ≠ b → w'.heap[x]? = w.heap[x]?) ∧ (∀ x c e f, w.heap.size ≤ x → w'.heap[x]? = some (.cells c e f) → f = (0, 0)) ∧
    (ob = some b ∨ w.heap.size ≤ b)

/-- The numbers of the result. -/
def insN (zs : List Int) (k : Nat) (vs : List Int) : List Int := zs.take k ++ vs ++ zs.drop k
theorem insN_len {zs vs : List Int} {k : Nat} (h : k ≤ zs.length) : (insN zs k vs).length = zs.length + vs.length := by
  simp only [insN, List.length_append, List.length_take, List.length_drop]; omega
theorem insN_get {zs vs : List Int} {k t : Nat} (h : k ≤ zs.length) : (insN zs k vs).getD t 0 = if t < k then zs.getD t 0 else if t < k + vs.length then vs.getD (t - k) 0 else zs.getD (t - vs.length) 0 := by
  have hl : (zs.take k).length = k := by rw [List.length_take]; omega
  unfold insN
  rw [List.append_assoc, getD_app, hl]
  split
  · rename_i h1
    rw [getD_take h1]
  · rename_i h1
    rw [getD_app]
    by_cases h2 : t < k + vs.length
    · rw [if_pos (by omega), if_pos h2]
    · rw [if_neg (by omega), if_neg h2, getD_drop]
      congr 1
      omega
theorem insN_mem {zs vs : List Int} {k : Nat} {y : Int} (h : y ∈ insN zs k vs) : y ∈ zs ∨ y ∈ vs := by
  unfold insN at h
  rw [List.mem_append, List.mem_append] at h
  rcases h with (h | h) | h
  · exact .inl (List.mem_of_mem_take h)
  · exact .inr h
  · exact .inl (List.mem_of_mem_drop h)

/-- What the walks of slices.Insert show, all roads together. -/
def InsRaw (P : Program) (f sz : Nat) : Prop := ∀ (w : World) (ob : Option Nat) (n c i vb vc : Nat) (zs vs : List Int), zs.length = n * sz → vs.length = sz → i ≤ n → n ≤ c → c ≤ maxLen → n ≤ 4294967296 → (ob = none → n = 0 ∧ c = 0) →
  (∀ b, ob = some b → b ≠ vb ∧ ∃ (cur : Array Value) (et : Nat), w.heap[b]? = some (.cells cur et (0, 0)) ∧ cur.size = c * sz ∧ ∀ t, t < n * sz → cur[t]? = some (.int .i64 (zs.getD t 0))) →
  (∃ (cv : Array Value) (ev : Nat), w.heap[vb]? = some (.cells cv ev (0, 0)) ∧ ∀ t, t < sz → cv[t]? = some (.int .i64 (vs.getD t 0))) →
  Calls P f #[.slice (ob.map fun b => ⟨b, 0, none⟩) n c, .int .i64 i, .slice (some ⟨vb, 0, none⟩) 1 vc] w (InsPost w ob sz (n + 1) (insN zs (i * sz) vs))

theorem ints_get {xs : List Int} {t : Nat} (h : t < xs.length) : (xs.map (Value.int .i64))[t]? = some (.int .i64 (xs.getD t 0)) := by
  rw [List.getElem?_map, List.getElem?_eq_getElem h]
  simp [h]

/-- In place: what stood behind is moved, then the new cells are written. -/
theorem ins_shape {w : World} {b n c i sz : Nat} {zs vs : List Int} {cur : Array Value} {et : Nat} (hz : zs.length = n * sz) (hv : vs.length = sz) (hi : i ≤ n) (hroom : n + 1 ≤ c) (hh : w.heap[b]? = some (.cells cur et (0, 0))) (hcs : cur.size = c * sz) (h1 : (n - i) * sz = zs.length - i * sz) (h2 : (i + 1) * sz + (zs.length - i * sz) ≤ c * sz) (h3 : i * sz ≤ zs.length) (h4 : (i + 1) * sz = i * sz + sz)
    (hg : ∀ t, t < i * sz → cur[t]? = some (.int .i64 (zs.getD t 0))) (w1 : World) (hw1 : w1 = (w.setCells b ((i + 1) * sz) ((zs.drop (i * sz)).map (Value.int .i64))).setCells b (i * sz) (vs.map (Value.int .i64)) ∨ w1 = ((w.setCells b (i * sz) (vs.map (Value.int .i64))).drew).setCells b ((i + 1) * sz) ((zs.drop (i * sz)).map (Value.int .i64))) :
    w1.os = w.os ∧ w1.tape = w.tape ∧ w1.output = w.output ∧ w1.heap.size = w.heap.size ∧ (∀ x, x ≠ b → w1.heap[x]? = w.heap[x]?) ∧ ∃ cur', w1.heap[b]? = some (.cells cur' et (0, 0)) ∧ cur'.size = cur.size ∧ ∀ t, t < zs.length + sz → cur'[t]? = some (.int .i64 ((insN zs (i * sz) vs).getD t 0)) := by
  have hdl : ((zs.drop (i * sz)).map (Value.int .i64)).length = zs.length - i * sz := by rw [List.length_map, List.length_drop]
  have hvl : (vs.map (Value.int .i64)).length = sz := by rw [List.length_map, hv]
  have fin : ∀ cur' : Array Value, (∀ t, t < i * sz → cur'[t]? = cur[t]?) → (∀ t, i * sz ≤ t → t < i * sz + sz → cur'[t]? = (vs.map (Value.int .i64))[t - i * sz]?) → (∀ t, i * sz + sz ≤ t → t < zs.length + sz → cur'[t]? = ((zs.drop (i * sz)).map (Value.int .i64))[t - (i * sz + sz)]?) →
      ∀ t, t < zs.length + sz → cur'[t]? = some (.int .i64 ((insN zs (i * sz) vs).getD t 0)) := by
    intro cur' f1 f2 f3 t ht
    rw [insN_get h3, hv]
    by_cases c1 : t < i * sz
    · rw [if_pos c1, f1 t c1, hg t c1]
    · by_cases c2 : t < i * sz + sz
      · rw [if_neg c1, if_pos c2, f2 t (by omega) c2, ints_get (by omega)]
      · rw [if_neg c1, if_neg c2, f3 t (by omega) ht, ints_get (by rw [List.length_drop]; omega), getD_drop]
        congr 3
        omega
  rcases hw1 with rfl | rfl
  · obtain ⟨a1, a2, a3, a4, a5, c1, a6, a7, a8⟩ := setCells_heap b ((zs.drop (i * sz)).map (Value.int .i64)) ((i + 1) * sz) w cur et (0, 0) hh (by rw [hdl]; omega)
    obtain ⟨b1, b2, b3, b4, b5, c2, b6, b7, b8⟩ := setCells_heap b (vs.map (Value.int .i64)) (i * sz) _ c1 et (0, 0) a6 (by rw [hvl]; omega)
    refine ⟨b1.trans a1, b2.trans a2, b3.trans a3, b4.trans a4, fun x hx => (b5 x hx).trans (a5 x hx), c2, b6, b7.trans a7, fin c2 (fun t ht => ?_) (fun t t1 t2 => ?_) (fun t t1 t2 => ?_)⟩
    · rw [b8, if_neg (by omega), a8, if_neg (by omega)]
    · rw [b8, if_pos (by rw [hvl]; omega)]
    · rw [b8, if_neg (by rw [hvl]; omega), a8, if_pos (by rw [hdl]; omega), h4]
  · obtain ⟨a1, a2, a3, a4, a5, c1, a6, a7, a8⟩ := setCells_heap b (vs.map (Value.int .i64)) (i * sz) w cur et (0, 0) hh (by rw [hvl]; omega)
    have a6' : ((w.setCells b (i * sz) (vs.map (Value.int .i64))).drew).heap[b]? = some (.cells c1 et (0, 0)) := a6
    obtain ⟨b1, b2, b3, b4, b5, c2, b6, b7, b8⟩ := setCells_heap b ((zs.drop (i * sz)).map (Value.int .i64)) ((i + 1) * sz) _ c1 et (0, 0) a6' (by rw [hdl]; omega)
    refine ⟨b1.trans a1, b2.trans a2, b3.trans a3, b4.trans a4, fun x hx => (b5 x hx).trans (a5 x hx), c2, b6, b7.trans a7, fin c2 (fun t ht => ?_) (fun t t1 t2 => ?_) (fun t t1 t2 => ?_)⟩
    · rw [b8, if_neg (by omega), a8, if_neg (by omega)]
    · rw [b8, if_neg (by omega), a8, if_pos (by rw [hvl]; omega)]
    · rw [b8, if_pos (by rw [hdl]; omega), h4]

theorem alloc_new (w : World) (c : Array Value) (t : TypeId) : (w.alloc (.cells c t)).heap[w.heap.size]? = some (.cells c t (0, 0)) := @heap_alloc_eq topU w (.cells c t)

theorem contract_ins {P : Program} {f sz : Nat} (hsz : 1 ≤ sz) {M : Model} (hk : M.kinds = [.mv, .ro, .mv])
    (hM : ∀ args r outs, M.fn args = some (r, outs) → ∃ (n i : Nat) (zs vs : List Int), args = [.s true sz n (zs.map eI), eI i, .s true sz 1 (vs.map eI)] ∧ zs.length = n * sz ∧ vs.length = sz ∧ i ≤ n ∧ n ≤ 4294967296 ∧ r = .s true sz (n + 1) ((insN zs (i * sz) vs).map eI) ∧ outs = [])
    (raw : InsRaw P f sz) : Contract P f M := by
  refine ⟨fun B w L vals args r outs hM0 hh hs hsz0 => ?_, fun _ args r outs hM0 => ?_⟩
  · obtain ⟨n, i, zs, vs, rfl, hz, hv, hi, hbig, rfl, rfl⟩ := hM _ _ _ hM0
    letI := B
    rw [hk] at hh hs ⊢
    obtain ⟨u, v1, v2, rfl⟩ : ∃ u v1 v2, vals = #[u, v1, v2] := by
      have hl : vals.toList.length = 3 := by simpa using hsz0
      obtain ⟨l, rfl⟩ : ∃ l : List Value, vals = l.toArray := ⟨vals.toList, by simp⟩
      match l, hl with
      | [u, v1, v2], _ => exact ⟨u, v1, v2, rfl⟩
    obtain ⟨hp0, hhp⟩ : ∃ hp0, hp0 = initHp 0 0 [.mv, .ro, .mv] [.s true sz n (zs.map eI), eI i, .s true sz 1 (vs.map eI)] := ⟨_, rfl⟩
    rw [← hhp] at hh hs
    have r0 : Rep lt3 w L hp0 (.ref (1, 0) [] 0 0 sz n) u := hs 0
    have r1 : Rep lt3 w L hp0 (eI i) v1 := hs 1
    have r2 : Rep lt3 w L hp0 (.ref (1, 1) [] 0 0 sz 1) v2 := hs 2
    have hn0 : TM.node hp0 (1, 0) [] 0 = some (sz, n, zs.map eI) := by rw [hhp]; rfl
    have hn1 : TM.node hp0 (1, 1) [] 0 = some (sz, 1, vs.map eI) := by rw [hhp]; rfl
    simp only [Rep] at r0 r1 r2
    obtain ⟨rfl, _⟩ := r1
    -- the new element
    obtain ⟨_, _, ao2, vc, rfl, hlc2, hmax2, hb2⟩ := r2
    have hne2 : vs.map eI ≠ [] := by
      intro h0
      have := congrArg List.length h0
      simp only [List.length_map, List.length_nil] at this
      omega
    rcases hb2 (by rw [hn1]; simp) with ⟨_, h0, _⟩ | ⟨vb, cv, ev, rfl, hLv, hhv, hcv⟩
    · omega
    obtain ⟨cv1, ev1, capv, k1, k2, k3, k4, k5, k6⟩ := hh.block hn1 hLv hne2
    rw [hhv] at k1
    cases k1
    have hvg : ∀ t, t < sz → cv[t]? = some (.int .i64 (vs.getD t 0)) ∧ (Lit.int .i64 (vs.getD t 0)).wf = true := by
      intro t ht
      obtain ⟨u', g1, g2, g3⟩ := OwnL.get (vs.map eI) 0 cv.toList k6 t (eI (vs.getD t 0)) (by rw [List.getElem?_map, List.getElem?_eq_getElem (by omega)]; simp [show t < vs.length by omega])
      simp only [Own] at g3
      rw [Array.getElem?_toList] at g1
      exact ⟨by rw [g1, g3.1], g3.2⟩
    -- the slice
    obtain ⟨_, _, ao, c, rfl, hlc, hmax, hb⟩ := r0
    obtain ⟨ob, hob, hobn, hobs, hzw⟩ : ∃ ob : Option Nat, ao = ob.map (fun b => (⟨b, 0, none⟩ : Addr)) ∧ (ob = none → n = 0 ∧ c = 0) ∧ (∀ b, ob = some b → L b = .at (1, 0) [] ∧ ∃ (cur : Array Value) (et : Nat), w.heap[b]? = some (.cells cur et (0, 0)) ∧ cur.size = c * sz ∧ ∀ t, t < n * sz → cur[t]? = some (.int .i64 (zs.getD t 0))) ∧
        (∀ y ∈ zs, (Lit.int .i64 y).wf = true) := by
      rcases hb (by rw [hn0]; simp) with ⟨rfl, h0, h1⟩ | ⟨b, cur, et, rfl, hLb, hheap, hcur⟩
      · refine ⟨none, rfl, fun _ => ⟨h0, h1⟩, fun b hb => (by cases hb), fun y hy => ?_⟩
        have : zs.length = 0 := by rw [hz, h0]; omega
        rw [List.length_eq_zero_iff.1 this] at hy
        cases hy
      · have hcells : ∀ t, t < n * sz → cur[t]? = some (.int .i64 (zs.getD t 0)) ∧ (Lit.int .i64 (zs.getD t 0)).wf = true := by
          intro t ht
          have hne : zs.map eI ≠ [] := by
            intro h0
            have := congrArg List.length h0
            simp only [List.length_map, List.length_nil] at this
            omega
          obtain ⟨cur1, et1, cap1, q1, q2, q3, q4, q5, q6⟩ := hh.block hn0 hLb hne
          rw [hheap] at q1
          cases q1
          obtain ⟨u', g1, g2, g3⟩ := OwnL.get (zs.map eI) 0 cur.toList q6 t (eI (zs.getD t 0)) (by rw [List.getElem?_map, List.getElem?_eq_getElem (by omega)]; simp [show t < zs.length by omega])
          simp only [Own] at g3
          rw [Array.getElem?_toList] at g1
          exact ⟨by rw [g1, g3.1], g3.2⟩
        refine ⟨some b, rfl, fun h => (by cases h), fun b' hb' => ?_, fun y hy => ?_⟩
        · cases hb'
          exact ⟨hLb, cur, et, hheap, by omega, fun t ht => (hcells t ht).1⟩
        · obtain ⟨j, hj, rfl⟩ := List.getElem_of_mem hy
          have := (hcells j (by omega)).2
          simpa [hj] using this
    subst hob
    have hvw : ∀ y ∈ vs, (Lit.int .i64 y).wf = true := by
      intro y hy
      obtain ⟨j, hj, rfl⟩ := List.getElem_of_mem hy
      have := (hvg j (by omega)).2
      simpa [hj] using this
    refine (raw w ob n c i vb vc zs vs hz hv hi hlc hmax hbig hobn (fun b hb => ⟨?_, (hobs b hb).2⟩) ⟨cv, ev, hhv, fun t ht => (hvg t ht).1⟩).mono fun e w' hp => ?_
    · rintro rfl
      rw [(hobs b hb).1] at hLv
      cases hLv
    obtain ⟨b, cap, cur, et, rfl, p1, p2, p3, p4, p5, p6, p7, p8, p9, p10, p11, p12⟩ := hp
    have hbl : b < w'.heap.size := (Array.getElem?_eq_some_iff.1 p3).1
    have hbp : ∀ x, L x = .prot → x ≠ b := by
      rintro x hx rfl
      rcases p12 with h | h
      · rw [(hobs x h).1] at hx; cases hx
      · rw [hh.free x h] at hx; cases hx
    have hyl : (insN zs (i * sz) vs).length = (n + 1) * sz := by
      have : i * sz ≤ n * sz := Nat.mul_le_mul_right sz hi
      rw [insN_len (by omega), hz, hv, Nat.succ_mul]
    refine ⟨_, fun x => if x = b then .at (0, 0) [] else match L x with | .prot => .prot | _ => .free, rfl, ⟨fun id r hr => ?_, fun x x' id p hx hx' => ?_, fun x hx => ?_, fun _ _ _ _ => trivial, fun _ _ _ => trivial, fun x hx => ?_, p9, p6, p7, p8, hh.use, fun x c' e f hx hc => ?_⟩, ?_, fun t x ht => ?_⟩
    · exfalso
      simp [shsOf, ioHp] at hr
    · have key : ∀ x, (if x = b then Lbl.at (0, 0) [] else match L x with | .prot => .prot | _ => .free) = .at id p → x = b := by
        intro x hx
        by_cases hxb : x = b
        · exact hxb
        · rw [if_neg hxb] at hx
          split at hx <;> cases hx
      rw [key x hx, key x' hx']
    · have : x ≠ b := by omega
      simp only [if_neg this]
      rw [hh.free x (by omega)]
    · have hxb := hbp x hx
      have hxl : x < w.heap.size := by
        by_cases hl : x < w.heap.size
        · exact hl
        · rw [hh.free x (by omega)] at hx; cases hx
      simp only [if_neg hxb, hx]
      exact ⟨trivial, p10 x hxl hxb⟩
    · by_cases hxb : x = b
      · subst hxb
        rw [p3] at hc
        cases hc
        rfl
      · by_cases hl : x < w.heap.size
        · rw [p10 x hl hxb] at hc
          exact hh.frz x c' e f hx hc
        · exact p11 x c' e f (by omega) hc
    · simp only [ResOwn, Res1, Own]
      refine ⟨rfl, .inr ⟨b, cur, et, cap, rfl, by simp, p3, by omega, by omega, p2, by rw [List.length_map, hyl], OwnL.intro _ _ _ fun t c' hc => ?_⟩⟩
      rw [List.getElem?_map, Option.map_eq_some_iff] at hc
      obtain ⟨v, hv', rfl⟩ := hc
      have ht : t < (insN zs (i * sz) vs).length := (List.getElem?_eq_some_iff.1 hv').1
      have g1 := p5 t (by omega)
      have hgv : (insN zs (i * sz) vs).getD t 0 = v := by rw [List.getD_eq_getElem?_getD, hv']; rfl
      rw [hgv] at g1
      refine ⟨.int .i64 v, by rw [Array.getElem?_toList]; exact g1, rfl, ?_⟩
      simp only [Own]
      refine ⟨trivial, ?_⟩
      rcases insN_mem (List.mem_of_getElem? hv') with hm | hm
      · exact hzw v hm
      · exact hvw v hm
    · simp [shsOf] at ht
  · obtain ⟨n, i, zs, vs, rfl, hz, hv, hi, hbig, rfl, rfl⟩ := hM _ _ _ hM0
    exact ⟨by simp only [cleanA]; exact clean_ints _, rfl⟩




end Go.TM

