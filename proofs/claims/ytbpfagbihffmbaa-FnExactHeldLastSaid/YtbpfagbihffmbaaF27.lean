/- Contracts, 27: slices.Insert of one element. (Printed by gen27.py.) -/
import Derived.Test.YtbpfagbihffmbaaF26
import Derived.Shelf.Spec.SlicesInsertGrow
import Derived.Lib.AppendZeros
import Derived.Lib.Overlaps
namespace Go.Proofs
open Go.Shelf Go.RowKit Go.TM Go.Lib
set_option linter.unusedVariables false
set_option linter.unusedSimpArgs false

theorem run_copy_sized {P : Program} (w : World) (dT sT ty elem : TypeId) (size : Nat) (b o dLen dCap : Nat) (a : Addr) (sLen sCap : Nat) (cs : List Value)
    (hu : P.underlying dT = some (.slice elem)) (hs : (P.info? elem).map (·.size) = some size) (hn : cs.length = Nat.min sLen dLen * size)
    (hsrc : ∀ j v, cs[j]? = some v → w.cell? (a.add j) = some v) (hc : ∀ j, j < cs.length → (w.cell? ⟨b, o + j, none⟩).isSome = true) (hf : ∀ j, j < cs.length → w.frozen? ⟨b, o + j, none⟩ = false) (h1 : ∀ v ∈ cs, v.oneCell' = true) :
    (Builtin.copy_ #[dT, sT] ty #[.slice (some ⟨b, o, none⟩) dLen dCap, .slice (some a) sLen sCap]).run P w = .ok (goInt (Nat.min sLen dLen)) (w.setCells b o cs) := by
  have hl := run_loadCells_list (P := P) w a cs hsrc
  have hst := run_storeCells_cells (P := P) b o cs 0 w (by simpa using hc) (by simpa using hf) h1
  cases hq : P.info? elem with
  | none => simp [hq] at hs
  | some i =>
    have hi : i.size = size := by simpa [hq] using hs
    simp [Builtin.copy_, run_underlying hu, Builtin.lenOf, Builtin.firstCells, sizeOf, typeInfo, hq, hi, ← hn, hl, hst]

theorem ins_infoI : ∃ i z, Try.prog.info? 3 = some i ∧ i.size = 1 ∧ i.bytes = 8 ∧ i.zero = some z ∧ z.cells = #[.int .i64 0] := by
  have h : (match Try.prog.info? 3 with
    | some i => decide (i.size = 1) && (decide (i.bytes = 8) && (match i.zero with
      | some z => (match z.cells.toList with
        | [.int .i64 a] => decide (a = 0)
        | _ => false)
      | none => false))
    | none => false) = true := by kernel_rfl
  split at h
  · rename_i i hi
    simp only [Bool.and_eq_true, decide_eq_true_eq] at h
    obtain ⟨h1, h2, h3⟩ := h
    split at h3
    · rename_i z hz
      split at h3
      · rename_i a hc
        simp only [Bool.and_eq_true, decide_eq_true_eq] at h3
        obtain rfl := h3
        refine ⟨i, z, hi, h1, h2, hz, ?_⟩
        rw [← Array.toList_inj]
        exact hc
      · cases h3
    · cases h3
  · cases h

theorem ins_sizeI (w : World) : (Go.sizeOf 3).run Try.prog w = .ok 1 w := by
  obtain ⟨i0, z, h1, h2, _⟩ := ins_infoI
  simp [Go.sizeOf, typeInfo, h1, h2]

theorem ins_overI (w : World) (vb b off lb cb vc : Nat) (hne : vb ≠ b) (cur : Array Value) (et : Nat) (hv : w.heap[vb]? = some (.cells cur et (0, 0))) (cb' : Array Value) (et' : Nat) (hb : w.heap[b]? = some (.cells cb' et' (0, 0))) (hpos : 0 < cb'.size) :
    (callFunc 164 #[.slice (some ⟨vb, 0, none⟩) 1 vc, .slice (some ⟨b, off, none⟩) lb cb]).run Try.prog w = .ok (.value (.bool false)) w := by
  rw [run_callFunc_extern Try.func164 (by kernel_rfl) (by kernel_rfl) (by kernel_rfl) (e := Extern.SlicesOverlaps.overlaps #[35, 35] #[4]) (by kernel_rfl),
    Lib.run_overlaps_apart w 35 4 3 Try.underlying35 1 ins_sizeI ⟨vb, 0, none⟩ ⟨b, off, none⟩ 1 vc lb cb hne et et' cur.size cb'.size (by simp [World.shape?, hv]) (by simp [World.shape?, hb]) (by omega) (by simp [World.frozen?, hv]) (by simp [World.frozen?, hv])]
  rfl

set_option maxHeartbeats 4000000 in
set_option maxRecDepth 1000000 in
/-- There is room, not at the end. -/
theorem ins_shiftI (w : World) (b n c i vb vc : Nat) (zs vs : List Int) (hz : zs.length = n * 1) (hv : vs.length = 1) (hi : i < n) (hroom : n + 1 ≤ c) (hc : c ≤ 9223372036854775807) (hne : vb ≠ b)
    (cur : Array Value) (et : Nat) (hh : w.heap[b]? = some (.cells cur et (0, 0))) (hcs : cur.size = c * 1) (hg : ∀ t, t < n * 1 → cur[t]? = some (.int .i64 (zs.getD t 0)))
    (cv : Array Value) (ev : Nat) (hhv : w.heap[vb]? = some (.cells cv ev (0, 0))) (hgv : ∀ t, t < 1 → cv[t]? = some (.int .i64 (vs.getD t 0))) :
    Calls Try.prog 135 #[.slice (some ⟨b, 0, none⟩) n c, .int .i64 i, .slice (some ⟨vb, 0, none⟩) 1 vc] w fun e w' =>
      e = .returned (.slice (some ⟨b, 0, none⟩) (n + 1) c) ∧ w' = (w.drew.setCells b (i + 1) ((zs.drop (i * 1)).map (Value.int .i64))).setCells b (i) (vs.map (Value.int .i64)) := by
  have hov : ∀ lb cb, (callFunc 164 #[.slice (some ⟨vb, 0, none⟩) 1 vc, .slice (some ⟨b, i + 1, none⟩) lb cb]).run Try.prog w = .ok (.value (.bool false)) w := fun lb cb =>
    ins_overI w vb b _ lb cb vc hne cv ev hhv cur et hh (by omega)
  obtain ⟨i0, z, hi0, hsz0, _, _, _⟩ := ins_infoI
  have hsz : (Try.prog.info? 3).map (·.size) = some 1 := by rw [hi0]; simp [hsz0]
  have hz2 : ¬ ((i : Int) = (n : Int)) := by omega
  have hw1 : IntKind.i64.wrap ((i : Int) + 1) = (i : Int) + 1 := by rw [IntKind.wrap_i64]; omega
  have hw2 : wrap64 ((i : Int) + 1) = (i : Int) + 1 := by unfold wrap64; omega
  have hb1 : (0 : Int) ≤ (i : Int) + 1 := by omega
  have hin : i ≤ n := by omega
  have htn : ((i : Int) + 1).toNat = i + 1 := by omega
  have hb2 : ¬ (c = i + 1) := by omega
  have hb3 : (i : Int) ≤ (n : Int) + 1 := by omega
  have hb4 : ¬ (c = i) := by omega
  have hcap : ¬ ((c : Int) < (n : Int) + 1) := by omega
  have hcell : ∀ t, t < c * 1 → (w.cell? ⟨b, t, none⟩).isSome = true := fun t ht => by
    simp only [World.cell?, hh]
    rw [Array.getElem?_eq_getElem (by omega)]; rfl
  have hfz : ∀ t, w.frozen? ⟨b, t, none⟩ = false := fun t => by simp [World.frozen?, hh]
  have hdl : ((zs.drop (i * 1)).map (Value.int .i64)).length = (n - i) * 1 := by rw [List.length_map, List.length_drop, hz]; omega
  have hvl : (vs.map (Value.int .i64)).length = 1 := by simp [hv]
  have h1d : ∀ v ∈ (zs.drop (i * 1)).map (Value.int .i64), v.oneCell' = true := by
    intro v hv; obtain ⟨x, _, rfl⟩ := List.mem_map.1 hv; rfl
  have h1v : ∀ v ∈ vs.map (Value.int .i64), v.oneCell' = true := by
    intro v hv; obtain ⟨x, _, rfl⟩ := List.mem_map.1 hv; rfl
  obtain ⟨W1, hW1⟩ : ∃ W1, W1 = w.drew.setCells b (i + 1) ((zs.drop (i * 1)).map (Value.int .i64)) := ⟨_, rfl⟩
  have hcp1 : ∀ ty dc sc, (Builtin.copy_ #[35, 35] ty #[.slice (some ⟨b, i + 1, none⟩) (n - i) dc, .slice (some ⟨b, i, none⟩) (n + 1 - i) sc]).run Try.prog w.drew = .ok (goInt (Nat.min (n + 1 - i) (n - i))) W1 := fun ty dc sc => by
    rw [hW1]
    refine run_copy_sized w.drew _ _ ty 3 1 b (i + 1) (n - i) dc ⟨b, i, none⟩ (n + 1 - i) sc _ Try.underlying35 hsz ?_ (fun j v hj => ?_) (fun j hj => hcell _ (by rw [hdl] at hj; omega)) (fun j hj => hfz _) h1d
    · rw [hdl]; simp only [Nat.min_def]; split <;> omega
    · have hj' := (List.getElem?_eq_some_iff.1 hj).1
      rw [hdl] at hj'
      rw [Addr.add_lit]
      rw [List.getElem?_map, List.getElem?_drop, List.getElem?_eq_getElem (by omega)] at hj
      simp only [Option.map_some, Option.some.injEq] at hj
      subst hj
      show w.cell? _ = _
      simp only [World.cell?, hh]
      have := hg (i * 1 + j) (by omega)
      simp only [List.getD_eq_getElem?_getD, List.getElem?_eq_getElem (show i * 1 + j < zs.length by omega), Option.getD_some] at this
      simpa using this
  have hsp1 : ∀ t, t < c * 1 → (W1.cell? ⟨b, t, none⟩).isSome = true := fun t ht => by
    rw [hW1]
    exact isSome_setCells b _ _ w.drew (fun j hj => hcell (i + 1 + j) (by rw [hdl] at hj; omega)) _ (hcell t ht)
  have hcp2 : ∀ (W : World), (∀ x, W.cell? x = W1.cell? x) → (∀ x, W.frozen? x = W1.frozen? x) → ∀ ty dc, (Builtin.copy_ #[35, 35] ty #[.slice (some ⟨b, i, none⟩) (n + 1 - i) dc, .slice (some ⟨vb, 0, none⟩) 1 vc]).run Try.prog W = .ok (goInt (Nat.min 1 (n + 1 - i))) (W.setCells b (i) (vs.map (Value.int .i64))) := fun W hWc hWf ty dc => by
    refine run_copy_sized W _ _ ty 3 1 b (i) (n + 1 - i) dc ⟨vb, 0, none⟩ 1 vc _ Try.underlying35 hsz ?_ (fun j v hj => ?_) (fun j hj => by rw [hWc]; exact hsp1 _ (by rw [hvl] at hj; omega)) (fun j hj => by rw [hWf, hW1, World.frozen?_setCells]; exact hfz _) h1v
    · rw [hvl]; simp only [Nat.min_def]; split <;> omega
    · have hj' := (List.getElem?_eq_some_iff.1 hj).1
      rw [hvl] at hj'
      rw [Addr.add_lit, hWc, hW1, World.cell?_setCells_out b _ _ _ _ (fun h _ => absurd h hne)]
      rw [List.getElem?_map, List.getElem?_eq_getElem (by omega)] at hj
      simp only [Option.map_some, Option.some.injEq] at hj
      subst hj
      show w.cell? _ = _
      simp only [World.cell?, hhv]
      have := hgv j hj'
      simp only [List.getD_eq_getElem?_getD, List.getElem?_eq_getElem (show j < vs.length by omega), Option.getD_some] at this
      simpa using this
  have X1 : Hid (W1 = w.drew.setCells b (i + 1) ((zs.drop (i * 1)).map (Value.int .i64))) := hW1
  have mixed := Try.checked.mixed
  clear hW1 hg hgv hcell hsp1 hh hhv hfz
  go_enter Try.func135, Try.ntmps135
  go_wp2_with (simp only [hov])
  go_region_law_o (refine step_copy_runI rfl _ _ 35 35 rfl _ _ (by simp [Act.eval, Act.put]) (by simp [Act.eval, Act.put]) (hcp1 _ _ _) ?_)
  go_wp2_with (at_builtin; refine wpList_copy_runI _ rfl _ _ 35 35 rfl _ _ rfl rfl (hcp2 _ (fun _ => rfl) (fun _ => rfl) _ _) ?_)
  go_ret
  first | exact ⟨rfl, by rw [X1.out]⟩ | exact ⟨rfl, rfl⟩

set_option maxHeartbeats 4000000 in
set_option maxRecDepth 1000000 in
/-- At the end, there is room. -/
theorem ins_roomI (w : World) (b n c vb vc : Nat) (vs : List Int) (hv : vs.length = 1) (hroom : n + 1 ≤ c) (hc : c ≤ 9223372036854775807)
    (cur : Array Value) (et : Nat) (hh : w.heap[b]? = some (.cells cur et (0, 0))) (hcs : cur.size = c * 1)
    (cv : Array Value) (ev : Nat) (hhv : w.heap[vb]? = some (.cells cv ev (0, 0))) (hgv : ∀ t, t < 1 → cv[t]? = some (.int .i64 (vs.getD t 0))) :
    Calls Try.prog 135 #[.slice (some ⟨b, 0, none⟩) n c, .int .i64 n, .slice (some ⟨vb, 0, none⟩) 1 vc] w fun e w' =>
      e = .returned (.slice (some ⟨b, 0, none⟩) (n + 1) c) ∧ w' = w.setCells b (n * 1) (vs.map (Value.int .i64)) := by
  obtain ⟨i0, z, hi0, hsz0, _, _, _⟩ := ins_infoI
  have hvl : (vs.map (Value.int .i64)).length = 1 * i0.size := by rw [hsz0]; simp [hv]
  have hsrc : Src Try.prog i0.size 35 (.slice (some ⟨vb, 0, none⟩) 1 vc) 1 (vs.map (Value.int .i64)) w := Src.ofSlice w Try.underlying35 ⟨vb, 0, none⟩ 1 vc _ hvl (fun j u hj => by
    have hj' := (List.getElem?_eq_some_iff.1 hj).1
    rw [hvl, hsz0] at hj'
    rw [Addr.add_lit]
    rw [List.getElem?_map, List.getElem?_eq_getElem (by omega)] at hj
    simp only [Option.map_some, Option.some.injEq] at hj
    subst hj
    simp only [World.cell?, hhv]
    have := hgv j (by omega)
    simp only [List.getD_eq_getElem?_getD, List.getElem?_eq_getElem (show j < vs.length by omega), Option.getD_some] at this
    simpa using this) (by intro v hv; obtain ⟨x, _, rfl⟩ := List.mem_map.1 hv; rfl)
  have hr0 := fun ty => run_append_room_src w 35 35 ty 3 i0 Try.underlying35 hi0 b 0 n c _ 1 _ hsrc hroom (fun j hj => by
      rw [hvl, hsz0] at hj
      simp only [World.cell?, hh, hsz0]
      rw [Array.getElem?_eq_getElem (by omega)]; rfl) (fun j hj => by simp [World.frozen?, hh])
  have e0 : 0 + n * i0.size = n * 1 := by rw [hsz0]; omega
  rw [e0] at hr0
  have mixed := Try.checked.mixed
  have hcap : ¬ ((c : Int) < (n : Int) + 1) := by omega
  clear hsrc hvl hgv hcs
  go_enter Try.func135, Try.ntmps135
  go_wp2_with (at_builtin; refine Lib.wpList_append_run _ rfl _ _ _ _ rfl _ _ rfl rfl _ _ (hr0 _) ?_)
  go_ret
  exact ⟨rfl, rfl⟩

set_option maxHeartbeats 4000000 in
set_option maxRecDepth 1000000 in
/-- At the end, there is no room. -/
theorem ins_newI (w : World) (ob : Option Nat) (n c vb vc : Nat) (zs vs : List Int) (hz : zs.length = n * 1) (hv : vs.length = 1) (hn : n ≤ c) (hroom : c < n + 1) (hbig : n ≤ 4294967296) (hnil : ob = none → n = 0)
    (hg : ∀ b, ob = some b → ∃ (cur : Array Value) (et : Nat), w.heap[b]? = some (.cells cur et (0, 0)) ∧ ∀ t, t < n * 1 → cur[t]? = some (.int .i64 (zs.getD t 0)))
    (cv : Array Value) (ev : Nat) (hhv : w.heap[vb]? = some (.cells cv ev (0, 0))) (hgv : ∀ t, t < 1 → cv[t]? = some (.int .i64 (vs.getD t 0))) :
    Calls Try.prog 135 #[.slice (ob.map fun b => ⟨b, 0, none⟩) n c, .int .i64 n, .slice (some ⟨vb, 0, none⟩) 1 vc] w fun e w' =>
      ∃ (g : Nat) (rest : Array Value), n + 1 ≤ g ∧ g ≤ maxLen ∧ rest.size = (g - (n + 1)) * 1 ∧ e = .returned (.slice (some ⟨w.heap.size, 0, none⟩) (n + 1) g) ∧ w' = w.drew.alloc (.cells (((zs ++ vs).map (Value.int .i64)).toArray ++ rest) 3) := by
  obtain ⟨i0, z, hi0, hsz0, hby0, hz0, hzc⟩ := ins_infoI
  have hvl : (vs.map (Value.int .i64)).length = 1 * i0.size := by rw [hsz0]; simp [hv]
  have hsrc : Src Try.prog i0.size 35 (.slice (some ⟨vb, 0, none⟩) 1 vc) 1 (vs.map (Value.int .i64)) w := Src.ofSlice w Try.underlying35 ⟨vb, 0, none⟩ 1 vc _ hvl (fun j u hj => by
    have hj' := (List.getElem?_eq_some_iff.1 hj).1
    rw [hvl, hsz0] at hj'
    rw [Addr.add_lit]
    rw [List.getElem?_map, List.getElem?_eq_getElem (by omega)] at hj
    simp only [Option.map_some, Option.some.injEq] at hj
    subst hj
    simp only [World.cell?, hhv]
    have := hgv j (by omega)
    simp only [List.getD_eq_getElem?_getD, List.getElem?_eq_getElem (show j < vs.length by omega), Option.getD_some] at this
    simpa using this) (by intro v hv; obtain ⟨x, _, rfl⟩ := List.mem_map.1 hv; rfl)
  have hold : (Builtin.firstCells i0.size n (.slice (ob.map fun b => ⟨b, 0, none⟩) n c)).run Try.prog w.drew = .ok (zs.map (Value.int .i64)).toArray w.drew := by
    rw [hsz0]
    cases ob with
    | none =>
      obtain rfl := hnil rfl
      obtain rfl : zs = [] := List.length_eq_zero_iff.1 (by omega)
      exact run_firstCells_none w.drew _ 0 0 c
    | some b =>
      obtain ⟨cur, et, hh, hgg⟩ := hg b rfl
      refine run_firstCells_some w.drew 1 n ⟨b, 0, none⟩ n c (zs.map (Value.int .i64)) (by rw [List.length_map, hz]) (fun j v hj => ?_)
      have hj' := (List.getElem?_eq_some_iff.1 hj).1
      rw [List.length_map] at hj'
      rw [Addr.add_lit]
      rw [List.getElem?_map, List.getElem?_eq_getElem (by omega)] at hj
      simp only [Option.map_some, Option.some.injEq] at hj
      subst hj
      show w.cell? _ = _
      simp only [World.cell?, hh]
      have := hgg j (by omega)
      simp only [List.getD_eq_getElem?_getD, List.getElem?_eq_getElem (show j < zs.length by omega), Option.getD_some] at this
      simpa using this
  have hrun := fun ty => run_append_grow_src w 35 35 ty 3 i0 z Try.underlying35 hi0 hz0 (ob.map fun b => ⟨b, 0, none⟩) n c _ hold _ 1 _ hsrc (by omega) (by omega) (by rw [hby0]; exact growslice_fits hroom (by omega))
  obtain ⟨G, hG⟩ : ∃ G, G = grownCap w (n + 1) c 3 := ⟨_, rfl⟩
  have hG1 : n + 1 ≤ G := by rw [hG]; exact grownCap_ge w _ _ _
  have hG2 : G ≤ maxLen := by rw [hG]; exact grownCap_le_maxLen w (n + 1) c _ (by unfold maxLen; omega)
  rw [← hG] at hrun
  obtain ⟨rest, hrest⟩ : ∃ rest, rest = Builtin.zeroCells z.cells (G - (n + 1)) := ⟨_, rfl⟩
  have hrs : rest.size = (G - (n + 1)) * 1 := by rw [hrest, zeroCells_size, hzc]; rfl
  rw [← hrest] at hrun
  have mixed := Try.checked.mixed
  obtain ⟨W1, hW1⟩ : ∃ W1, W1 = w.drew.alloc (.cells (((zs ++ vs).map (Value.int .i64)).toArray ++ rest) 3) := ⟨_, rfl⟩
  rw [← List.map_append, ← hW1] at hrun
  have X1 : Hid (n + 1 ≤ G) := hG1
  have X2 : Hid (G ≤ maxLen) := hG2
  have X3 : Hid (rest.size = (G - (n + 1)) * 1) := hrs
  have X4 : Hid (W1 = w.drew.alloc (.cells (((zs ++ vs).map (Value.int .i64)).toArray ++ rest) 3)) := hW1
  have hraw : Calls Try.prog 135 #[.slice (ob.map fun b => ⟨b, 0, none⟩) n c, .int .i64 n, .slice (some ⟨vb, 0, none⟩) 1 vc] w fun e w' => e = .returned (.slice (some ⟨w.heap.size, 0, none⟩) (n + 1) G) ∧ w' = W1 := by
    clear hsrc hvl hgv hg hold hG hrest hzc hz0 hi0 hG1 hG2 hrs hW1
    cases ob with
    | none =>
      obtain rfl := hnil rfl
      go_enter Try.func135, Try.ntmps135
      go_wp2_with (at_builtin; refine Lib.wpList_append_run _ rfl _ _ _ _ rfl _ _ rfl rfl _ _ (hrun _) ?_)
      all_goals (go_ret; exact ⟨rfl, rfl⟩)
    | some b =>
      go_enter Try.func135, Try.ntmps135
      go_wp2_with (at_builtin; refine Lib.wpList_append_run _ rfl _ _ _ _ rfl _ _ rfl rfl _ _ (hrun _) ?_)
      all_goals (go_ret; exact ⟨rfl, rfl⟩)
  exact hraw.mono fun e w' h => ⟨G, rest, X1.out, X2.out, X3.out, h.1, h.2.trans X4.out⟩

set_option maxHeartbeats 4000000 in
set_option maxRecDepth 1000000 in
/-- Not at the end, there is no room. -/
theorem ins_growI (w : World) (b n c i vb vc : Nat) (zs vs : List Int) (hz : zs.length = n * 1) (hv : vs.length = 1) (hi : i < n) (hn : n ≤ c) (hroom : c < n + 1) (hbig : n ≤ 4294967296)
    (cur : Array Value) (et : Nat) (hh : w.heap[b]? = some (.cells cur et (0, 0))) (hg : ∀ t, t < n * 1 → cur[t]? = some (.int .i64 (zs.getD t 0)))
    (cv : Array Value) (ev : Nat) (hhv : w.heap[vb]? = some (.cells cv ev (0, 0))) (hgv : ∀ t, t < 1 → cv[t]? = some (.int .i64 (vs.getD t 0))) :
    Calls Try.prog 135 #[.slice (some ⟨b, 0, none⟩) n c, .int .i64 i, .slice (some ⟨vb, 0, none⟩) 1 vc] w fun e w' =>
      ∃ (g : Nat) (row : Array Value), n + 1 ≤ g ∧ g ≤ maxLen ∧ row.size = g * 1 ∧ (∀ t, t < i * 1 → row[t]? = some (.int .i64 (zs.getD t 0))) ∧ e = .returned (.slice (some ⟨w.heap.size, 0, none⟩) (n + 1) g) ∧
        w' = (((w.alloc (.cells row 3)).drew.setCells w.heap.size (i) (vs.map (Value.int .i64))).drew).setCells w.heap.size (i + 1) ((zs.drop (i * 1)).map (Value.int .i64)) := by
  have hci : ¬ (c = i) := by omega
  have hz2 : ¬ ((i : Int) = (n : Int)) := by omega
  have hz3 : (c : Int) < (n : Int) + 1 := by omega
  have hw1 : IntKind.i64.wrap ((i : Int) + 1) = (i : Int) + 1 := by rw [IntKind.wrap_i64]; omega
  have hw2 : wrap64 ((i : Int) + 1) = (i : Int) + 1 := by unfold wrap64; omega
  have hb1 : (0 : Int) ≤ (i : Int) + 1 := by omega
  have hin : i ≤ n := by omega
  have hin2 : (i : Int) ≤ n := by omega
  have htn : ((i : Int) + 1).toNat = i + 1 := by omega
  obtain ⟨i0, z, hi0, hsz0, hby0, hz0, hzc⟩ := ins_infoI
  have hsz : (Try.prog.info? 3).map (·.size) = some 1 := by rw [hi0]; simp [hsz0]
  have hbw : b < w.heap.size := (Array.getElem?_eq_some_iff.1 hh).1
  have hvw : vb < w.heap.size := (Array.getElem?_eq_some_iff.1 hhv).1
  have hold : (Builtin.firstCells i0.size i (.slice (some ⟨b, 0, none⟩) i c)).run Try.prog w.drew = .ok ((zs.take (i * 1)).map (Value.int .i64)).toArray w.drew := by
    rw [hsz0]
    refine run_firstCells_some w.drew 1 i ⟨b, 0, none⟩ i c _ (by rw [List.length_map, List.length_take, hz]; omega) (fun j v hj => ?_)
    have hj' := (List.getElem?_eq_some_iff.1 hj).1
    rw [List.length_map, List.length_take, hz] at hj'
    rw [Addr.add_lit]
    rw [List.getElem?_map, List.getElem?_take, if_pos (by omega), List.getElem?_eq_getElem (by omega)] at hj
    simp only [Option.map_some, Option.some.injEq] at hj
    subst hj
    show w.cell? _ = _
    simp only [World.cell?, hh]
    have := hg j (by omega)
    simp only [List.getD_eq_getElem?_getD, List.getElem?_eq_getElem (show j < zs.length by omega), Option.getD_some] at this
    simpa using this
  have hkk : (n : Int) + 1 - (i : Int) = ((n + 1 - i : Nat) : Int) := by omega
  have hik : i + (n + 1 - i) = n + 1 := by omega
  obtain ⟨G, hG⟩ : ∃ G, G = grownCap w (n + 1) c 3 := ⟨_, rfl⟩
  have hrz0 : ∀ ty, (Builtin.append_ #[35, 3] ty #[.slice (some ⟨b, 0, none⟩) i c, .int .i64 ((n : Int) + 1 - (i : Int))]).run Try.prog w = .ok (.slice (some ⟨w.heap.size, 0, none⟩) (n + 1) (grownCap w (n + 1) c 3)) (w.drew.alloc (.cells (((zs.take (i * 1)).map (Value.int .i64)).toArray ++ Builtin.zeroCells z.cells (n + 1 - i) ++ Builtin.zeroCells z.cells (grownCap w (n + 1) c 3 - (n + 1))) 3)) := fun ty => by
    have h := Lib.run_append_grow_zeros w 35 3 ty 3 i0 z .i64 .i64 Try.underlying35 Try.underlying3 hi0 hz0 (some ⟨b, 0, none⟩) i c _ hold (n + 1 - i) (by omega) (by omega) (by omega) (by omega) (by rw [hby0]; omega) (by rw [hby0, hik]; exact growslice_fits hroom (by omega))
    rw [hik] at h
    rw [hkk]
    exact h
  rw [← hG] at hrz0
  obtain ⟨ROW, hROW⟩ : ∃ ROW : Array Value, ROW = ((zs.take (i * 1)).map (Value.int .i64)).toArray ++ Builtin.zeroCells z.cells (n + 1 - i) ++ Builtin.zeroCells z.cells (G - (n + 1)) := ⟨_, rfl⟩
  rw [← hROW] at hrz0
  have hG1 : n + 1 ≤ G := by rw [hG]; exact grownCap_ge w _ _ _
  have hG2 : G ≤ maxLen := by rw [hG]; exact grownCap_le_maxLen w (n + 1) c _ (by unfold maxLen; omega)
  have hG63 : G ≤ 9223372036854775807 := hG2
  have hRs : ROW.size = G * 1 := by
    rw [hROW, Array.size_append, Array.size_append, zeroCells_size, zeroCells_size, hzc, List.size_toArray, List.length_map, List.length_take, hz]
    show min (i * 1) (n * 1) + (n + 1 - i) * 1 + (G - (n + 1)) * 1 = G * 1
    omega
  have hRg : ∀ t, t < i * 1 → ROW[t]? = some (.int .i64 (zs.getD t 0)) := by
    intro t ht
    rw [hROW, Array.append_assoc, Array.getElem?_append_left (by rw [List.size_toArray, List.length_map, List.length_take, hz]; omega), List.getElem?_toArray, List.getElem?_map, List.getElem?_take, if_pos ht, List.getElem?_eq_getElem (by omega)]
    simp [show t < zs.length by omega]
  obtain ⟨W1, hW1⟩ : ∃ W1, W1 = w.drew.alloc (.cells ROW 3) := ⟨_, rfl⟩
  rw [← hW1] at hrz0
  have hN : ∀ j, j < G * 1 → (W1.cell? ⟨w.heap.size, j, none⟩).isSome = true := fun j hj => by
    rw [hW1, World.cell?_alloc_at (w := w.drew) ROW _ w.heap.size j rfl, Array.getElem?_eq_getElem (by omega)]; rfl
  have hNf : ∀ j, W1.frozen? ⟨w.heap.size, j, none⟩ = false := fun j => by rw [hW1]; exact World.frozen?_alloc_at (w := w.drew) ROW _ w.heap.size j rfl
  have hOb : ∀ j v, w.cell? ⟨b, j, none⟩ = some v → W1.cell? ⟨b, j, none⟩ = some v := fun j v h => by rw [hW1, World.cell?_alloc_past (w := w.drew) _ b j hbw]; exact h
  have hOv : ∀ j v, w.cell? ⟨vb, j, none⟩ = some v → W1.cell? ⟨vb, j, none⟩ = some v := fun j v h => by rw [hW1, World.cell?_alloc_past (w := w.drew) _ vb j hvw]; exact h
  have hdl : ((zs.drop (i * 1)).map (Value.int .i64)).length = (n - i) * 1 := by rw [List.length_map, List.length_drop, hz]; omega
  have hvl : (vs.map (Value.int .i64)).length = 1 := by simp [hv]
  have h1d : ∀ v ∈ (zs.drop (i * 1)).map (Value.int .i64), v.oneCell' = true := by
    intro v hv; obtain ⟨x, _, rfl⟩ := List.mem_map.1 hv; rfl
  have h1v : ∀ v ∈ vs.map (Value.int .i64), v.oneCell' = true := by
    intro v hv; obtain ⟨x, _, rfl⟩ := List.mem_map.1 hv; rfl
  have hbN : b ≠ w.heap.size := by omega
  have hvN : vb ≠ w.heap.size := by omega
  have hcpA : ∀ (W : World), (∀ x, W.cell? x = W1.cell? x) → (∀ x, W.frozen? x = W1.frozen? x) → ∀ ty dc, (Builtin.copy_ #[35, 35] ty #[.slice (some ⟨w.heap.size, i, none⟩) (n + 1 - i) dc, .slice (some ⟨vb, 0, none⟩) 1 vc]).run Try.prog W = .ok (goInt (Nat.min 1 (n + 1 - i))) (W.setCells w.heap.size (i) (vs.map (Value.int .i64))) := fun W hWc hWf ty dc => by
    refine run_copy_sized W _ _ ty 3 1 w.heap.size (i) (n + 1 - i) dc ⟨vb, 0, none⟩ 1 vc _ Try.underlying35 hsz ?_ (fun j v hj => ?_) (fun j hj => by rw [hWc]; exact hN (i + j) (by rw [hvl] at hj; omega)) (fun j hj => by rw [hWf]; exact hNf _) h1v
    · rw [hvl]; simp only [Nat.min_def]; split <;> omega
    · have hj' := (List.getElem?_eq_some_iff.1 hj).1
      rw [hvl] at hj'
      rw [Addr.add_lit, hWc]
      refine hOv _ v ?_
      rw [List.getElem?_map, List.getElem?_eq_getElem (by omega)] at hj
      simp only [Option.map_some, Option.some.injEq] at hj
      subst hj
      simp only [World.cell?, hhv]
      have := hgv j hj'
      simp only [List.getD_eq_getElem?_getD, List.getElem?_eq_getElem (show j < vs.length by omega), Option.getD_some] at this
      simpa using this
  have hcpB : ∀ (W : World), (∀ x, W.cell? x = (W1.setCells w.heap.size (i) (vs.map (Value.int .i64))).cell? x) → (∀ x, W.frozen? x = (W1.setCells w.heap.size (i) (vs.map (Value.int .i64))).frozen? x) → ∀ ty dc sc, (Builtin.copy_ #[35, 35] ty #[.slice (some ⟨w.heap.size, i + 1, none⟩) (n - i) dc, .slice (some ⟨b, i, none⟩) (n - i) sc]).run Try.prog W = .ok (goInt (Nat.min (n - i) (n - i))) (W.setCells w.heap.size (i + 1) ((zs.drop (i * 1)).map (Value.int .i64))) := fun W hWc hWf ty dc sc => by
    refine run_copy_sized W _ _ ty 3 1 w.heap.size (i + 1) (n - i) dc ⟨b, i, none⟩ (n - i) sc _ Try.underlying35 hsz ?_ (fun j v hj => ?_) (fun j hj => ?_) (fun j hj => by rw [hWf, World.frozen?_setCells]; exact hNf _) h1d
    · rw [hdl]; simp only [Nat.min_def]; split <;> omega
    · have hj' := (List.getElem?_eq_some_iff.1 hj).1
      rw [hdl] at hj'
      rw [Addr.add_lit, hWc, World.cell?_setCells_out _ _ _ _ _ (fun h _ => absurd h hbN)]
      refine hOb _ v ?_
      rw [List.getElem?_map, List.getElem?_drop, List.getElem?_eq_getElem (by omega)] at hj
      simp only [Option.map_some, Option.some.injEq] at hj
      subst hj
      simp only [World.cell?, hh]
      have := hg (i * 1 + j) (by omega)
      simp only [List.getD_eq_getElem?_getD, List.getElem?_eq_getElem (show i * 1 + j < zs.length by omega), Option.getD_some] at this
      simpa using this
    · rw [hWc]
      exact isSome_setCells _ _ _ W1 (fun t ht => hN (i + t) (by rw [hvl] at ht; omega)) _ (hN _ (by rw [hdl] at hj; omega))
  have hGi : ¬ (G = i) := by omega
  have hGim : ¬ (G = i + 1) := by omega
  have mixed := Try.checked.mixed
  have X1 : Hid (n + 1 ≤ G) := hG1
  have X2 : Hid (G ≤ maxLen) := hG2
  have X3 : Hid (ROW.size = G * 1) := hRs
  have X4 : Hid (∀ t, t < i * 1 → ROW[t]? = some (.int .i64 (zs.getD t 0))) := hRg
  subst hW1
  obtain ⟨W9, hW9⟩ : ∃ W9, W9 = (((w.alloc (.cells ROW 3)).drew.setCells w.heap.size (i) (vs.map (Value.int .i64))).drew).setCells w.heap.size (i + 1) ((zs.drop (i * 1)).map (Value.int .i64)) := ⟨_, rfl⟩
  have X5 : Hid (W9 = (((w.alloc (.cells ROW 3)).drew.setCells w.heap.size (i) (vs.map (Value.int .i64))).drew).setCells w.heap.size (i + 1) ((zs.drop (i * 1)).map (Value.int .i64))) := hW9
  have hE1 : ∀ x, ((w.alloc (.cells ROW 3)).drew).cell? x = (w.drew.alloc (.cells ROW 3)).cell? x := fun x => rfl
  have hE2 : ∀ x, ((w.alloc (.cells ROW 3)).drew).frozen? x = (w.drew.alloc (.cells ROW 3)).frozen? x := fun x => rfl
  have hF1 : ∀ x, (((w.alloc (.cells ROW 3)).drew.setCells w.heap.size (i) (vs.map (Value.int .i64))).drew).cell? x = ((w.drew.alloc (.cells ROW 3)).setCells w.heap.size (i) (vs.map (Value.int .i64))).cell? x := fun x => rfl
  have hF2 : ∀ x, (((w.alloc (.cells ROW 3)).drew.setCells w.heap.size (i) (vs.map (Value.int .i64))).drew).frozen? x = ((w.drew.alloc (.cells ROW 3)).setCells w.heap.size (i) (vs.map (Value.int .i64))).frozen? x := fun x => rfl
  have hraw : Calls Try.prog 135 #[.slice (some ⟨b, 0, none⟩) n c, .int .i64 i, .slice (some ⟨vb, 0, none⟩) 1 vc] w fun e w' => e = .returned (.slice (some ⟨w.heap.size, 0, none⟩) (n + 1) G) ∧ w' = W9 := by
    have hcpB' := hcpB _ hF1 hF2
    have hcpA' := hcpA _ hE1 hE2
    clear hcpA hcpB hkk hik hold hROW hG hRs hRg hN hNf hOb hOv hg hgv hzc hz0 hi0 hsz hG1 hG2 hE1 hE2 hF1 hF2 hh hhv
    go_enter Try.func135, Try.ntmps135
    go_wp2_with (first
      | (at_builtin; refine Lib.wpList_append_run _ rfl _ _ _ _ rfl _ _ rfl rfl _ _ (hrz0 _) ?_)
      | (at_builtin; refine wpList_copy_runI _ rfl _ _ 35 35 rfl _ _ rfl rfl (hcpA' _ _) ?_))
    go_region_law_o (refine step_copy_runI rfl _ _ 35 35 rfl (.slice (some ⟨w.heap.size, i + 1, none⟩) (n - i) (G - (i + 1))) (.slice (some ⟨b, i, none⟩) (n - i) (c - i)) (by simp [Act.eval, Act.put]) (by simp [Act.eval, Act.put]) (hcpB' 3 (G - (i + 1)) (c - i)) ?_)
    go_wp2
    go_ret
    refine ⟨rfl, ?_⟩
    rw [hW9]
    try simp only [List.map_drop, Nat.mul_one]
  exact hraw.mono fun e w' h => ⟨G, ROW, X1.out, X2.out, X3.out, X4.out, h.1, h.2.trans X5.out⟩
theorem ins_infoP : ∃ i z, Try.prog.info? 52 = some i ∧ i.size = 2 ∧ i.bytes = 16 ∧ i.zero = some z ∧ z.cells = #[.int .i64 0, .int .i64 0] := by
  have h : (match Try.prog.info? 52 with
    | some i => decide (i.size = 2) && (decide (i.bytes = 16) && (match i.zero with
      | some z => (match z.cells.toList with
        | [.int .i64 a, .int .i64 b] => decide (a = 0) && decide (b = 0)
        | _ => false)
      | none => false))
    | none => false) = true := by kernel_rfl
  split at h
  · rename_i i hi
    simp only [Bool.and_eq_true, decide_eq_true_eq] at h
    obtain ⟨h1, h2, h3⟩ := h
    split at h3
    · rename_i z hz
      split at h3
      · rename_i a b hc
        simp only [Bool.and_eq_true, decide_eq_true_eq] at h3
        obtain ⟨rfl, rfl⟩ := h3
        refine ⟨i, z, hi, h1, h2, hz, ?_⟩
        rw [← Array.toList_inj]
        exact hc
      · cases h3
    · cases h3
  · cases h

theorem ins_sizeP (w : World) : (Go.sizeOf 52).run Try.prog w = .ok 2 w := by
  obtain ⟨i0, z, h1, h2, _⟩ := ins_infoP
  simp [Go.sizeOf, typeInfo, h1, h2]

theorem ins_overP (w : World) (vb b off lb cb vc : Nat) (hne : vb ≠ b) (cur : Array Value) (et : Nat) (hv : w.heap[vb]? = some (.cells cur et (0, 0))) (cb' : Array Value) (et' : Nat) (hb : w.heap[b]? = some (.cells cb' et' (0, 0))) (hpos : 0 < cb'.size) :
    (callFunc 161 #[.slice (some ⟨vb, 0, none⟩) 1 vc, .slice (some ⟨b, off, none⟩) lb cb]).run Try.prog w = .ok (.value (.bool false)) w := by
  rw [run_callFunc_extern Try.func161 (by kernel_rfl) (by kernel_rfl) (by kernel_rfl) (e := Extern.SlicesOverlaps.overlaps #[44, 44] #[4]) (by kernel_rfl),
    Lib.run_overlaps_apart w 44 4 52 Try.underlying44 2 ins_sizeP ⟨vb, 0, none⟩ ⟨b, off, none⟩ 1 vc lb cb hne et et' cur.size cb'.size (by simp [World.shape?, hv]) (by simp [World.shape?, hb]) (by omega) (by simp [World.frozen?, hv]) (by simp [World.frozen?, hv])]
  rfl

set_option maxHeartbeats 4000000 in
set_option maxRecDepth 1000000 in
/-- There is room, not at the end. -/
theorem ins_shiftP (w : World) (b n c i vb vc : Nat) (zs vs : List Int) (hz : zs.length = n * 2) (hv : vs.length = 2) (hi : i < n) (hroom : n + 1 ≤ c) (hc : c ≤ 9223372036854775807) (hne : vb ≠ b)
    (cur : Array Value) (et : Nat) (hh : w.heap[b]? = some (.cells cur et (0, 0))) (hcs : cur.size = c * 2) (hg : ∀ t, t < n * 2 → cur[t]? = some (.int .i64 (zs.getD t 0)))
    (cv : Array Value) (ev : Nat) (hhv : w.heap[vb]? = some (.cells cv ev (0, 0))) (hgv : ∀ t, t < 2 → cv[t]? = some (.int .i64 (vs.getD t 0))) :
    Calls Try.prog 131 #[.slice (some ⟨b, 0, none⟩) n c, .int .i64 i, .slice (some ⟨vb, 0, none⟩) 1 vc] w fun e w' =>
      e = .returned (.slice (some ⟨b, 0, none⟩) (n + 1) c) ∧ w' = (w.drew.setCells b ((i + 1) * 2) ((zs.drop (i * 2)).map (Value.int .i64))).setCells b ((i) * 2) (vs.map (Value.int .i64)) := by
  have hov : ∀ lb cb, (callFunc 161 #[.slice (some ⟨vb, 0, none⟩) 1 vc, .slice (some ⟨b, (i + 1) * 2, none⟩) lb cb]).run Try.prog w = .ok (.value (.bool false)) w := fun lb cb =>
    ins_overP w vb b _ lb cb vc hne cv ev hhv cur et hh (by omega)
  obtain ⟨i0, z, hi0, hsz0, _, _, _⟩ := ins_infoP
  have hsz : (Try.prog.info? 52).map (·.size) = some 2 := by rw [hi0]; simp [hsz0]
  have hz2 : ¬ ((i : Int) = (n : Int)) := by omega
  have hw1 : IntKind.i64.wrap ((i : Int) + 1) = (i : Int) + 1 := by rw [IntKind.wrap_i64]; omega
  have hw2 : wrap64 ((i : Int) + 1) = (i : Int) + 1 := by unfold wrap64; omega
  have hb1 : (0 : Int) ≤ (i : Int) + 1 := by omega
  have hin : i ≤ n := by omega
  have htn : ((i : Int) + 1).toNat = i + 1 := by omega
  have hb2 : ¬ (c = i + 1) := by omega
  have hb3 : (i : Int) ≤ (n : Int) + 1 := by omega
  have hb4 : ¬ (c = i) := by omega
  have hcap : ¬ ((c : Int) < (n : Int) + 1) := by omega
  have hcell : ∀ t, t < c * 2 → (w.cell? ⟨b, t, none⟩).isSome = true := fun t ht => by
    simp only [World.cell?, hh]
    rw [Array.getElem?_eq_getElem (by omega)]; rfl
  have hfz : ∀ t, w.frozen? ⟨b, t, none⟩ = false := fun t => by simp [World.frozen?, hh]
  have hdl : ((zs.drop (i * 2)).map (Value.int .i64)).length = (n - i) * 2 := by rw [List.length_map, List.length_drop, hz]; omega
  have hvl : (vs.map (Value.int .i64)).length = 2 := by simp [hv]
  have h1d : ∀ v ∈ (zs.drop (i * 2)).map (Value.int .i64), v.oneCell' = true := by
    intro v hv; obtain ⟨x, _, rfl⟩ := List.mem_map.1 hv; rfl
  have h1v : ∀ v ∈ vs.map (Value.int .i64), v.oneCell' = true := by
    intro v hv; obtain ⟨x, _, rfl⟩ := List.mem_map.1 hv; rfl
  obtain ⟨W1, hW1⟩ : ∃ W1, W1 = w.drew.setCells b ((i + 1) * 2) ((zs.drop (i * 2)).map (Value.int .i64)) := ⟨_, rfl⟩
  have hcp1 : ∀ ty dc sc, (Builtin.copy_ #[44, 44] ty #[.slice (some ⟨b, (i + 1) * 2, none⟩) (n - i) dc, .slice (some ⟨b, (i) * 2, none⟩) (n + 1 - i) sc]).run Try.prog w.drew = .ok (goInt (Nat.min (n + 1 - i) (n - i))) W1 := fun ty dc sc => by
    rw [hW1]
    refine run_copy_sized w.drew _ _ ty 52 2 b ((i + 1) * 2) (n - i) dc ⟨b, (i) * 2, none⟩ (n + 1 - i) sc _ Try.underlying44 hsz ?_ (fun j v hj => ?_) (fun j hj => hcell _ (by rw [hdl] at hj; omega)) (fun j hj => hfz _) h1d
    · rw [hdl]; simp only [Nat.min_def]; split <;> omega
    · have hj' := (List.getElem?_eq_some_iff.1 hj).1
      rw [hdl] at hj'
      rw [Addr.add_lit]
      rw [List.getElem?_map, List.getElem?_drop, List.getElem?_eq_getElem (by omega)] at hj
      simp only [Option.map_some, Option.some.injEq] at hj
      subst hj
      show w.cell? _ = _
      simp only [World.cell?, hh]
      have := hg (i * 2 + j) (by omega)
      simp only [List.getD_eq_getElem?_getD, List.getElem?_eq_getElem (show i * 2 + j < zs.length by omega), Option.getD_some] at this
      simpa using this
  have hsp1 : ∀ t, t < c * 2 → (W1.cell? ⟨b, t, none⟩).isSome = true := fun t ht => by
    rw [hW1]
    exact isSome_setCells b _ _ w.drew (fun j hj => hcell ((i + 1) * 2 + j) (by rw [hdl] at hj; omega)) _ (hcell t ht)
  have hcp2 : ∀ (W : World), (∀ x, W.cell? x = W1.cell? x) → (∀ x, W.frozen? x = W1.frozen? x) → ∀ ty dc, (Builtin.copy_ #[44, 44] ty #[.slice (some ⟨b, (i) * 2, none⟩) (n + 1 - i) dc, .slice (some ⟨vb, 0, none⟩) 1 vc]).run Try.prog W = .ok (goInt (Nat.min 1 (n + 1 - i))) (W.setCells b ((i) * 2) (vs.map (Value.int .i64))) := fun W hWc hWf ty dc => by
    refine run_copy_sized W _ _ ty 52 2 b ((i) * 2) (n + 1 - i) dc ⟨vb, 0, none⟩ 1 vc _ Try.underlying44 hsz ?_ (fun j v hj => ?_) (fun j hj => by rw [hWc]; exact hsp1 _ (by rw [hvl] at hj; omega)) (fun j hj => by rw [hWf, hW1, World.frozen?_setCells]; exact hfz _) h1v
    · rw [hvl]; simp only [Nat.min_def]; split <;> omega
    · have hj' := (List.getElem?_eq_some_iff.1 hj).1
      rw [hvl] at hj'
      rw [Addr.add_lit, hWc, hW1, World.cell?_setCells_out b _ _ _ _ (fun h _ => absurd h hne)]
      rw [List.getElem?_map, List.getElem?_eq_getElem (by omega)] at hj
      simp only [Option.map_some, Option.some.injEq] at hj
      subst hj
      show w.cell? _ = _
      simp only [World.cell?, hhv]
      have := hgv j hj'
      simp only [List.getD_eq_getElem?_getD, List.getElem?_eq_getElem (show j < vs.length by omega), Option.getD_some] at this
      simpa using this
  have X1 : Hid (W1 = w.drew.setCells b ((i + 1) * 2) ((zs.drop (i * 2)).map (Value.int .i64))) := hW1
  have mixed := Try.checked.mixed
  clear hW1 hg hgv hcell hsp1 hh hhv hfz
  go_enter Try.func131, Try.ntmps131
  go_wp2_with (simp only [hov])
  go_region_law_o (refine step_copy_runI rfl _ _ 44 44 rfl _ _ (by simp [Act.eval, Act.put]) (by simp [Act.eval, Act.put]) (hcp1 _ _ _) ?_)
  go_wp2_with (at_builtin; refine wpList_copy_runI _ rfl _ _ 44 44 rfl _ _ rfl rfl (hcp2 _ (fun _ => rfl) (fun _ => rfl) _ _) ?_)
  go_ret
  first | exact ⟨rfl, by rw [X1.out]⟩ | exact ⟨rfl, rfl⟩

set_option maxHeartbeats 4000000 in
set_option maxRecDepth 1000000 in
/-- At the end, there is room. -/
theorem ins_roomP (w : World) (b n c vb vc : Nat) (vs : List Int) (hv : vs.length = 2) (hroom : n + 1 ≤ c) (hc : c ≤ 9223372036854775807)
    (cur : Array Value) (et : Nat) (hh : w.heap[b]? = some (.cells cur et (0, 0))) (hcs : cur.size = c * 2)
    (cv : Array Value) (ev : Nat) (hhv : w.heap[vb]? = some (.cells cv ev (0, 0))) (hgv : ∀ t, t < 2 → cv[t]? = some (.int .i64 (vs.getD t 0))) :
    Calls Try.prog 131 #[.slice (some ⟨b, 0, none⟩) n c, .int .i64 n, .slice (some ⟨vb, 0, none⟩) 1 vc] w fun e w' =>
      e = .returned (.slice (some ⟨b, 0, none⟩) (n + 1) c) ∧ w' = w.setCells b (n * 2) (vs.map (Value.int .i64)) := by
  obtain ⟨i0, z, hi0, hsz0, _, _, _⟩ := ins_infoP
  have hvl : (vs.map (Value.int .i64)).length = 1 * i0.size := by rw [hsz0]; simp [hv]
  have hsrc : Src Try.prog i0.size 44 (.slice (some ⟨vb, 0, none⟩) 1 vc) 1 (vs.map (Value.int .i64)) w := Src.ofSlice w Try.underlying44 ⟨vb, 0, none⟩ 1 vc _ hvl (fun j u hj => by
    have hj' := (List.getElem?_eq_some_iff.1 hj).1
    rw [hvl, hsz0] at hj'
    rw [Addr.add_lit]
    rw [List.getElem?_map, List.getElem?_eq_getElem (by omega)] at hj
    simp only [Option.map_some, Option.some.injEq] at hj
    subst hj
    simp only [World.cell?, hhv]
    have := hgv j (by omega)
    simp only [List.getD_eq_getElem?_getD, List.getElem?_eq_getElem (show j < vs.length by omega), Option.getD_some] at this
    simpa using this) (by intro v hv; obtain ⟨x, _, rfl⟩ := List.mem_map.1 hv; rfl)
  have hr0 := fun ty => run_append_room_src w 44 44 ty 52 i0 Try.underlying44 hi0 b 0 n c _ 1 _ hsrc hroom (fun j hj => by
      rw [hvl, hsz0] at hj
      simp only [World.cell?, hh, hsz0]
      rw [Array.getElem?_eq_getElem (by omega)]; rfl) (fun j hj => by simp [World.frozen?, hh])
  have e0 : 0 + n * i0.size = n * 2 := by rw [hsz0]; omega
  rw [e0] at hr0
  have mixed := Try.checked.mixed
  have hcap : ¬ ((c : Int) < (n : Int) + 1) := by omega
  clear hsrc hvl hgv hcs
  go_enter Try.func131, Try.ntmps131
  go_wp2_with (at_builtin; refine Lib.wpList_append_run _ rfl _ _ _ _ rfl _ _ rfl rfl _ _ (hr0 _) ?_)
  go_ret
  exact ⟨rfl, rfl⟩

set_option maxHeartbeats 4000000 in
set_option maxRecDepth 1000000 in
/-- At the end, there is no room. -/
theorem ins_newP (w : World) (ob : Option Nat) (n c vb vc : Nat) (zs vs : List Int) (hz : zs.length = n * 2) (hv : vs.length = 2) (hn : n ≤ c) (hroom : c < n + 1) (hbig : n ≤ 4294967296) (hnil : ob = none → n = 0)
    (hg : ∀ b, ob = some b → ∃ (cur : Array Value) (et : Nat), w.heap[b]? = some (.cells cur et (0, 0)) ∧ ∀ t, t < n * 2 → cur[t]? = some (.int .i64 (zs.getD t 0)))
    (cv : Array Value) (ev : Nat) (hhv : w.heap[vb]? = some (.cells cv ev (0, 0))) (hgv : ∀ t, t < 2 → cv[t]? = some (.int .i64 (vs.getD t 0))) :
    Calls Try.prog 131 #[.slice (ob.map fun b => ⟨b, 0, none⟩) n c, .int .i64 n, .slice (some ⟨vb, 0, none⟩) 1 vc] w fun e w' =>
      ∃ (g : Nat) (rest : Array Value), n + 1 ≤ g ∧ g ≤ maxLen ∧ rest.size = (g - (n + 1)) * 2 ∧ e = .returned (.slice (some ⟨w.heap.size, 0, none⟩) (n + 1) g) ∧ w' = w.drew.alloc (.cells (((zs ++ vs).map (Value.int .i64)).toArray ++ rest) 52) := by
  obtain ⟨i0, z, hi0, hsz0, hby0, hz0, hzc⟩ := ins_infoP
  have hvl : (vs.map (Value.int .i64)).length = 1 * i0.size := by rw [hsz0]; simp [hv]
  have hsrc : Src Try.prog i0.size 44 (.slice (some ⟨vb, 0, none⟩) 1 vc) 1 (vs.map (Value.int .i64)) w := Src.ofSlice w Try.underlying44 ⟨vb, 0, none⟩ 1 vc _ hvl (fun j u hj => by
    have hj' := (List.getElem?_eq_some_iff.1 hj).1
    rw [hvl, hsz0] at hj'
    rw [Addr.add_lit]
    rw [List.getElem?_map, List.getElem?_eq_getElem (by omega)] at hj
    simp only [Option.map_some, Option.some.injEq] at hj
    subst hj
    simp only [World.cell?, hhv]
    have := hgv j (by omega)
    simp only [List.getD_eq_getElem?_getD, List.getElem?_eq_getElem (show j < vs.length by omega), Option.getD_some] at this
    simpa using this) (by intro v hv; obtain ⟨x, _, rfl⟩ := List.mem_map.1 hv; rfl)
  have hold : (Builtin.firstCells i0.size n (.slice (ob.map fun b => ⟨b, 0, none⟩) n c)).run Try.prog w.drew = .ok (zs.map (Value.int .i64)).toArray w.drew := by
    rw [hsz0]
    cases ob with
    | none =>
      obtain rfl := hnil rfl
      obtain rfl : zs = [] := List.length_eq_zero_iff.1 (by omega)
      exact run_firstCells_none w.drew _ 0 0 c
    | some b =>
      obtain ⟨cur, et, hh, hgg⟩ := hg b rfl
      refine run_firstCells_some w.drew 2 n ⟨b, 0, none⟩ n c (zs.map (Value.int .i64)) (by rw [List.length_map, hz]) (fun j v hj => ?_)
      have hj' := (List.getElem?_eq_some_iff.1 hj).1
      rw [List.length_map] at hj'
      rw [Addr.add_lit]
      rw [List.getElem?_map, List.getElem?_eq_getElem (by omega)] at hj
      simp only [Option.map_some, Option.some.injEq] at hj
      subst hj
      show w.cell? _ = _
      simp only [World.cell?, hh]
      have := hgg j (by omega)
      simp only [List.getD_eq_getElem?_getD, List.getElem?_eq_getElem (show j < zs.length by omega), Option.getD_some] at this
      simpa using this
  have hrun := fun ty => run_append_grow_src w 44 44 ty 52 i0 z Try.underlying44 hi0 hz0 (ob.map fun b => ⟨b, 0, none⟩) n c _ hold _ 1 _ hsrc (by omega) (by omega) (by rw [hby0]; exact growslice_fits hroom (by omega))
  obtain ⟨G, hG⟩ : ∃ G, G = grownCap w (n + 1) c 52 := ⟨_, rfl⟩
  have hG1 : n + 1 ≤ G := by rw [hG]; exact grownCap_ge w _ _ _
  have hG2 : G ≤ maxLen := by rw [hG]; exact grownCap_le_maxLen w (n + 1) c _ (by unfold maxLen; omega)
  rw [← hG] at hrun
  obtain ⟨rest, hrest⟩ : ∃ rest, rest = Builtin.zeroCells z.cells (G - (n + 1)) := ⟨_, rfl⟩
  have hrs : rest.size = (G - (n + 1)) * 2 := by rw [hrest, zeroCells_size, hzc]; rfl
  rw [← hrest] at hrun
  have mixed := Try.checked.mixed
  obtain ⟨W1, hW1⟩ : ∃ W1, W1 = w.drew.alloc (.cells (((zs ++ vs).map (Value.int .i64)).toArray ++ rest) 52) := ⟨_, rfl⟩
  rw [← List.map_append, ← hW1] at hrun
  have X1 : Hid (n + 1 ≤ G) := hG1
  have X2 : Hid (G ≤ maxLen) := hG2
  have X3 : Hid (rest.size = (G - (n + 1)) * 2) := hrs
  have X4 : Hid (W1 = w.drew.alloc (.cells (((zs ++ vs).map (Value.int .i64)).toArray ++ rest) 52)) := hW1
  have hraw : Calls Try.prog 131 #[.slice (ob.map fun b => ⟨b, 0, none⟩) n c, .int .i64 n, .slice (some ⟨vb, 0, none⟩) 1 vc] w fun e w' => e = .returned (.slice (some ⟨w.heap.size, 0, none⟩) (n + 1) G) ∧ w' = W1 := by
    clear hsrc hvl hgv hg hold hG hrest hzc hz0 hi0 hG1 hG2 hrs hW1
    cases ob with
    | none =>
      obtain rfl := hnil rfl
      go_enter Try.func131, Try.ntmps131
      go_wp2_with (at_builtin; refine Lib.wpList_append_run _ rfl _ _ _ _ rfl _ _ rfl rfl _ _ (hrun _) ?_)
      all_goals (go_ret; exact ⟨rfl, rfl⟩)
    | some b =>
      go_enter Try.func131, Try.ntmps131
      go_wp2_with (at_builtin; refine Lib.wpList_append_run _ rfl _ _ _ _ rfl _ _ rfl rfl _ _ (hrun _) ?_)
      all_goals (go_ret; exact ⟨rfl, rfl⟩)
  exact hraw.mono fun e w' h => ⟨G, rest, X1.out, X2.out, X3.out, h.1, h.2.trans X4.out⟩

set_option maxHeartbeats 4000000 in
set_option maxRecDepth 1000000 in
/-- Not at the end, there is no room. -/
theorem ins_growP (w : World) (b n c i vb vc : Nat) (zs vs : List Int) (hz : zs.length = n * 2) (hv : vs.length = 2) (hi : i < n) (hn : n ≤ c) (hroom : c < n + 1) (hbig : n ≤ 4294967296)
    (cur : Array Value) (et : Nat) (hh : w.heap[b]? = some (.cells cur et (0, 0))) (hg : ∀ t, t < n * 2 → cur[t]? = some (.int .i64 (zs.getD t 0)))
    (cv : Array Value) (ev : Nat) (hhv : w.heap[vb]? = some (.cells cv ev (0, 0))) (hgv : ∀ t, t < 2 → cv[t]? = some (.int .i64 (vs.getD t 0))) :
    Calls Try.prog 131 #[.slice (some ⟨b, 0, none⟩) n c, .int .i64 i, .slice (some ⟨vb, 0, none⟩) 1 vc] w fun e w' =>
      ∃ (g : Nat) (row : Array Value), n + 1 ≤ g ∧ g ≤ maxLen ∧ row.size = g * 2 ∧ (∀ t, t < i * 2 → row[t]? = some (.int .i64 (zs.getD t 0))) ∧ e = .returned (.slice (some ⟨w.heap.size, 0, none⟩) (n + 1) g) ∧
        w' = (((w.alloc (.cells row 52)).drew.setCells w.heap.size ((i) * 2) (vs.map (Value.int .i64))).drew).setCells w.heap.size ((i + 1) * 2) ((zs.drop (i * 2)).map (Value.int .i64)) := by
  have hci : ¬ (c = i) := by omega
  have hz2 : ¬ ((i : Int) = (n : Int)) := by omega
  have hz3 : (c : Int) < (n : Int) + 1 := by omega
  have hw1 : IntKind.i64.wrap ((i : Int) + 1) = (i : Int) + 1 := by rw [IntKind.wrap_i64]; omega
  have hw2 : wrap64 ((i : Int) + 1) = (i : Int) + 1 := by unfold wrap64; omega
  have hb1 : (0 : Int) ≤ (i : Int) + 1 := by omega
  have hin : i ≤ n := by omega
  have hin2 : (i : Int) ≤ n := by omega
  have htn : ((i : Int) + 1).toNat = i + 1 := by omega
  obtain ⟨i0, z, hi0, hsz0, hby0, hz0, hzc⟩ := ins_infoP
  have hsz : (Try.prog.info? 52).map (·.size) = some 2 := by rw [hi0]; simp [hsz0]
  have hbw : b < w.heap.size := (Array.getElem?_eq_some_iff.1 hh).1
  have hvw : vb < w.heap.size := (Array.getElem?_eq_some_iff.1 hhv).1
  have hold : (Builtin.firstCells i0.size i (.slice (some ⟨b, 0, none⟩) i c)).run Try.prog w.drew = .ok ((zs.take (i * 2)).map (Value.int .i64)).toArray w.drew := by
    rw [hsz0]
    refine run_firstCells_some w.drew 2 i ⟨b, 0, none⟩ i c _ (by rw [List.length_map, List.length_take, hz]; omega) (fun j v hj => ?_)
    have hj' := (List.getElem?_eq_some_iff.1 hj).1
    rw [List.length_map, List.length_take, hz] at hj'
    rw [Addr.add_lit]
    rw [List.getElem?_map, List.getElem?_take, if_pos (by omega), List.getElem?_eq_getElem (by omega)] at hj
    simp only [Option.map_some, Option.some.injEq] at hj
    subst hj
    show w.cell? _ = _
    simp only [World.cell?, hh]
    have := hg j (by omega)
    simp only [List.getD_eq_getElem?_getD, List.getElem?_eq_getElem (show j < zs.length by omega), Option.getD_some] at this
    simpa using this
  have hkk : (n : Int) + 1 - (i : Int) = ((n + 1 - i : Nat) : Int) := by omega
  have hik : i + (n + 1 - i) = n + 1 := by omega
  obtain ⟨G, hG⟩ : ∃ G, G = grownCap w (n + 1) c 52 := ⟨_, rfl⟩
  have hrz0 : ∀ ty, (Builtin.append_ #[44, 3] ty #[.slice (some ⟨b, 0, none⟩) i c, .int .i64 ((n : Int) + 1 - (i : Int))]).run Try.prog w = .ok (.slice (some ⟨w.heap.size, 0, none⟩) (n + 1) (grownCap w (n + 1) c 52)) (w.drew.alloc (.cells (((zs.take (i * 2)).map (Value.int .i64)).toArray ++ Builtin.zeroCells z.cells (n + 1 - i) ++ Builtin.zeroCells z.cells (grownCap w (n + 1) c 52 - (n + 1))) 52)) := fun ty => by
    have h := Lib.run_append_grow_zeros w 44 3 ty 52 i0 z .i64 .i64 Try.underlying44 Try.underlying3 hi0 hz0 (some ⟨b, 0, none⟩) i c _ hold (n + 1 - i) (by omega) (by omega) (by omega) (by omega) (by rw [hby0]; omega) (by rw [hby0, hik]; exact growslice_fits hroom (by omega))
    rw [hik] at h
    rw [hkk]
    exact h
  rw [← hG] at hrz0
  obtain ⟨ROW, hROW⟩ : ∃ ROW : Array Value, ROW = ((zs.take (i * 2)).map (Value.int .i64)).toArray ++ Builtin.zeroCells z.cells (n + 1 - i) ++ Builtin.zeroCells z.cells (G - (n + 1)) := ⟨_, rfl⟩
  rw [← hROW] at hrz0
  have hG1 : n + 1 ≤ G := by rw [hG]; exact grownCap_ge w _ _ _
  have hG2 : G ≤ maxLen := by rw [hG]; exact grownCap_le_maxLen w (n + 1) c _ (by unfold maxLen; omega)
  have hG63 : G ≤ 9223372036854775807 := hG2
  have hRs : ROW.size = G * 2 := by
    rw [hROW, Array.size_append, Array.size_append, zeroCells_size, zeroCells_size, hzc, List.size_toArray, List.length_map, List.length_take, hz]
    show min (i * 2) (n * 2) + (n + 1 - i) * 2 + (G - (n + 1)) * 2 = G * 2
    omega
  have hRg : ∀ t, t < i * 2 → ROW[t]? = some (.int .i64 (zs.getD t 0)) := by
    intro t ht
    rw [hROW, Array.append_assoc, Array.getElem?_append_left (by rw [List.size_toArray, List.length_map, List.length_take, hz]; omega), List.getElem?_toArray, List.getElem?_map, List.getElem?_take, if_pos ht, List.getElem?_eq_getElem (by omega)]
    simp [show t < zs.length by omega]
  obtain ⟨W1, hW1⟩ : ∃ W1, W1 = w.drew.alloc (.cells ROW 52) := ⟨_, rfl⟩
  rw [← hW1] at hrz0
  have hN : ∀ j, j < G * 2 → (W1.cell? ⟨w.heap.size, j, none⟩).isSome = true := fun j hj => by
    rw [hW1, World.cell?_alloc_at (w := w.drew) ROW _ w.heap.size j rfl, Array.getElem?_eq_getElem (by omega)]; rfl
  have hNf : ∀ j, W1.frozen? ⟨w.heap.size, j, none⟩ = false := fun j => by rw [hW1]; exact World.frozen?_alloc_at (w := w.drew) ROW _ w.heap.size j rfl
  have hOb : ∀ j v, w.cell? ⟨b, j, none⟩ = some v → W1.cell? ⟨b, j, none⟩ = some v := fun j v h => by rw [hW1, World.cell?_alloc_past (w := w.drew) _ b j hbw]; exact h
  have hOv : ∀ j v, w.cell? ⟨vb, j, none⟩ = some v → W1.cell? ⟨vb, j, none⟩ = some v := fun j v h => by rw [hW1, World.cell?_alloc_past (w := w.drew) _ vb j hvw]; exact h
  have hdl : ((zs.drop (i * 2)).map (Value.int .i64)).length = (n - i) * 2 := by rw [List.length_map, List.length_drop, hz]; omega
  have hvl : (vs.map (Value.int .i64)).length = 2 := by simp [hv]
  have h1d : ∀ v ∈ (zs.drop (i * 2)).map (Value.int .i64), v.oneCell' = true := by
    intro v hv; obtain ⟨x, _, rfl⟩ := List.mem_map.1 hv; rfl
  have h1v : ∀ v ∈ vs.map (Value.int .i64), v.oneCell' = true := by
    intro v hv; obtain ⟨x, _, rfl⟩ := List.mem_map.1 hv; rfl
  have hbN : b ≠ w.heap.size := by omega
  have hvN : vb ≠ w.heap.size := by omega
  have hcpA : ∀ (W : World), (∀ x, W.cell? x = W1.cell? x) → (∀ x, W.frozen? x = W1.frozen? x) → ∀ ty dc, (Builtin.copy_ #[44, 44] ty #[.slice (some ⟨w.heap.size, (i) * 2, none⟩) (n + 1 - i) dc, .slice (some ⟨vb, 0, none⟩) 1 vc]).run Try.prog W = .ok (goInt (Nat.min 1 (n + 1 - i))) (W.setCells w.heap.size ((i) * 2) (vs.map (Value.int .i64))) := fun W hWc hWf ty dc => by
    refine run_copy_sized W _ _ ty 52 2 w.heap.size ((i) * 2) (n + 1 - i) dc ⟨vb, 0, none⟩ 1 vc _ Try.underlying44 hsz ?_ (fun j v hj => ?_) (fun j hj => by rw [hWc]; exact hN ((i) * 2 + j) (by rw [hvl] at hj; omega)) (fun j hj => by rw [hWf]; exact hNf _) h1v
    · rw [hvl]; simp only [Nat.min_def]; split <;> omega
    · have hj' := (List.getElem?_eq_some_iff.1 hj).1
      rw [hvl] at hj'
      rw [Addr.add_lit, hWc]
      refine hOv _ v ?_
      rw [List.getElem?_map, List.getElem?_eq_getElem (by omega)] at hj
      simp only [Option.map_some, Option.some.injEq] at hj
      subst hj
      simp only [World.cell?, hhv]
      have := hgv j hj'
      simp only [List.getD_eq_getElem?_getD, List.getElem?_eq_getElem (show j < vs.length by omega), Option.getD_some] at this
      simpa using this
  have hcpB : ∀ (W : World), (∀ x, W.cell? x = (W1.setCells w.heap.size ((i) * 2) (vs.map (Value.int .i64))).cell? x) → (∀ x, W.frozen? x = (W1.setCells w.heap.size ((i) * 2) (vs.map (Value.int .i64))).frozen? x) → ∀ ty dc sc, (Builtin.copy_ #[44, 44] ty #[.slice (some ⟨w.heap.size, (i + 1) * 2, none⟩) (n - i) dc, .slice (some ⟨b, (i) * 2, none⟩) (n - i) sc]).run Try.prog W = .ok (goInt (Nat.min (n - i) (n - i))) (W.setCells w.heap.size ((i + 1) * 2) ((zs.drop (i * 2)).map (Value.int .i64))) := fun W hWc hWf ty dc sc => by
    refine run_copy_sized W _ _ ty 52 2 w.heap.size ((i + 1) * 2) (n - i) dc ⟨b, (i) * 2, none⟩ (n - i) sc _ Try.underlying44 hsz ?_ (fun j v hj => ?_) (fun j hj => ?_) (fun j hj => by rw [hWf, World.frozen?_setCells]; exact hNf _) h1d
    · rw [hdl]; simp only [Nat.min_def]; split <;> omega
    · have hj' := (List.getElem?_eq_some_iff.1 hj).1
      rw [hdl] at hj'
      rw [Addr.add_lit, hWc, World.cell?_setCells_out _ _ _ _ _ (fun h _ => absurd h hbN)]
      refine hOb _ v ?_
      rw [List.getElem?_map, List.getElem?_drop, List.getElem?_eq_getElem (by omega)] at hj
      simp only [Option.map_some, Option.some.injEq] at hj
      subst hj
      simp only [World.cell?, hh]
      have := hg (i * 2 + j) (by omega)
      simp only [List.getD_eq_getElem?_getD, List.getElem?_eq_getElem (show i * 2 + j < zs.length by omega), Option.getD_some] at this
      simpa using this
    · rw [hWc]
      exact isSome_setCells _ _ _ W1 (fun t ht => hN ((i) * 2 + t) (by rw [hvl] at ht; omega)) _ (hN _ (by rw [hdl] at hj; omega))
  have hGi : ¬ (G = i) := by omega
  have hGim : ¬ (G = i + 1) := by omega
  have mixed := Try.checked.mixed
  have X1 : Hid (n + 1 ≤ G) := hG1
  have X2 : Hid (G ≤ maxLen) := hG2
  have X3 : Hid (ROW.size = G * 2) := hRs
  have X4 : Hid (∀ t, t < i * 2 → ROW[t]? = some (.int .i64 (zs.getD t 0))) := hRg
  subst hW1
  obtain ⟨W9, hW9⟩ : ∃ W9, W9 = (((w.alloc (.cells ROW 52)).drew.setCells w.heap.size ((i) * 2) (vs.map (Value.int .i64))).drew).setCells w.heap.size ((i + 1) * 2) ((zs.drop (i * 2)).map (Value.int .i64)) := ⟨_, rfl⟩
  have X5 : Hid (W9 = (((w.alloc (.cells ROW 52)).drew.setCells w.heap.size ((i) * 2) (vs.map (Value.int .i64))).drew).setCells w.heap.size ((i + 1) * 2) ((zs.drop (i * 2)).map (Value.int .i64))) := hW9
  have hE1 : ∀ x, ((w.alloc (.cells ROW 52)).drew).cell? x = (w.drew.alloc (.cells ROW 52)).cell? x := fun x => rfl
  have hE2 : ∀ x, ((w.alloc (.cells ROW 52)).drew).frozen? x = (w.drew.alloc (.cells ROW 52)).frozen? x := fun x => rfl
  have hF1 : ∀ x, (((w.alloc (.cells ROW 52)).drew.setCells w.heap.size ((i) * 2) (vs.map (Value.int .i64))).drew).cell? x = ((w.drew.alloc (.cells ROW 52)).setCells w.heap.size ((i) * 2) (vs.map (Value.int .i64))).cell? x := fun x => rfl
  have hF2 : ∀ x, (((w.alloc (.cells ROW 52)).drew.setCells w.heap.size ((i) * 2) (vs.map (Value.int .i64))).drew).frozen? x = ((w.drew.alloc (.cells ROW 52)).setCells w.heap.size ((i) * 2) (vs.map (Value.int .i64))).frozen? x := fun x => rfl
  have hraw : Calls Try.prog 131 #[.slice (some ⟨b, 0, none⟩) n c, .int .i64 i, .slice (some ⟨vb, 0, none⟩) 1 vc] w fun e w' => e = .returned (.slice (some ⟨w.heap.size, 0, none⟩) (n + 1) G) ∧ w' = W9 := by
    have hcpB' := hcpB _ hF1 hF2
    have hcpA' := hcpA _ hE1 hE2
    clear hcpA hcpB hkk hik hold hROW hG hRs hRg hN hNf hOb hOv hg hgv hzc hz0 hi0 hsz hG1 hG2 hE1 hE2 hF1 hF2 hh hhv
    go_enter Try.func131, Try.ntmps131
    go_wp2_with (first
      | (at_builtin; refine Lib.wpList_append_run _ rfl _ _ _ _ rfl _ _ rfl rfl _ _ (hrz0 _) ?_)
      | (at_builtin; refine wpList_copy_runI _ rfl _ _ 44 44 rfl _ _ rfl rfl (hcpA' _ _) ?_))
    go_region_law_o (refine step_copy_runI rfl _ _ 44 44 rfl (.slice (some ⟨w.heap.size, (i + 1) * 2, none⟩) (n - i) (G - (i + 1))) (.slice (some ⟨b, (i) * 2, none⟩) (n - i) (c - i)) (by simp [Act.eval, Act.put]) (by simp [Act.eval, Act.put]) (hcpB' 3 (G - (i + 1)) (c - i)) ?_)
    go_wp2
    go_ret
    refine ⟨rfl, ?_⟩
    rw [hW9]
    try simp only [List.map_drop, Nat.mul_one]
  exact hraw.mono fun e w' h => ⟨G, ROW, X1.out, X2.out, X3.out, X4.out, h.1, h.2.trans X5.out⟩
end Go.Proofs
namespace Go.TM
open Go.Proofs Go.RowKit Go.Shelf
set_option linter.unusedVariables false
set_option linter.unusedSimpArgs false
set_option maxRecDepth 100000

/-- What slices.Insert leaves: the result's cells hold the numbers zs. -/
def InsPost (w : World) (ob : Option Nat) (sz n : Nat) (zs : List Int) (e : Ending) (w' : World) : Prop :=
  ∃ (b cap : Nat) (cur : Array Value) (et : Nat), e = .returned (.slice (some ⟨b, 0, none⟩) n cap) ∧ n ≤ cap ∧ cap ≤ maxLen ∧ w'.heap[b]? = some (.cells cur et (0, 0)) ∧ cur.size = cap * sz ∧ (∀ t, t < n * sz → cur[t]? = some (.int .i64 (zs.getD t 0))) ∧
    w'.os = w.os ∧ w'.tape = w.tape ∧ w'.output = w.output ∧ w.heap.size ≤ w'.heap.size ∧ (∀ x, x < w.heap.size → x ≠ b → w'.heap[x]? = w.heap[x]?) ∧ (∀ x c e f, w.heap.size ≤ x → w'.heap[x]? = some (.cells c e f) → f = (0, 0)) ∧
    (ob = some b ∨ w.heap.size ≤ b)

/-- The numbers of the result. -/
def insN (zs : List Int) (k : Nat) (vs : List Int) : List Int := zs.take k ++ vs ++ zs.drop k
theorem insN_len {zs vs : List Int} {k : Nat} (h : k ≤ zs.length) : (insN zs k vs).length = zs.length + vs.length := by
  simp only [insN, List.length_append, List.length_take, List.length_drop]; omega
theorem insN_get {zs vs : List Int} {k t : Nat} (h : k ≤ zs.length) : (insN zs k vs).getD t 0 = if t < k then zs.getD t 0 else if t < k + vs.length then vs.getD (t - k) 0 else zs.getD (t - vs.length) 0 := by
  have hl : (zs.take k).length = k := by rw [List.length_take]; omega
  unfold insN
  rw [List.append_assoc, getD_app, hl]
  split
  · rename_i h1
    rw [getD_take h1]
  · rename_i h1
    rw [getD_app]
    by_cases h2 : t < k + vs.length
    · rw [if_pos (by omega), if_pos h2]
    · rw [if_neg (by omega), if_neg h2, getD_drop]
      congr 1
      omega
theorem insN_mem {zs vs : List Int} {k : Nat} {y : Int} (h : y ∈ insN zs k vs) : y ∈ zs ∨ y ∈ vs := by
  unfold insN at h
  rw [List.mem_append, List.mem_append] at h
  rcases h with (h | h) | h
  · exact .inl (List.mem_of_mem_take h)
  · exact .inr h
  · exact .inl (List.mem_of_mem_drop h)

/-- What the walks of slices.Insert show, all roads together. -/
def InsRaw (P : Program) (f sz : Nat) : Prop := ∀ (w : World) (ob : Option Nat) (n c i vb vc : Nat) (zs vs : List Int), zs.length = n * sz → vs.length = sz → i ≤ n → n ≤ c → c ≤ maxLen → n ≤ 4294967296 → (ob = none → n = 0 ∧ c = 0) →
  (∀ b, ob = some b → b ≠ vb ∧ ∃ (cur : Array Value) (et : Nat), w.heap[b]? = some (.cells cur et (0, 0)) ∧ cur.size = c * sz ∧ ∀ t, t < n * sz → cur[t]? = some (.int .i64 (zs.getD t 0))) →
  (∃ (cv : Array Value) (ev : Nat), w.heap[vb]? = some (.cells cv ev (0, 0)) ∧ ∀ t, t < sz → cv[t]? = some (.int .i64 (vs.getD t 0))) →
  Calls P f #[.slice (ob.map fun b => ⟨b, 0, none⟩) n c, .int .i64 i, .slice (some ⟨vb, 0, none⟩) 1 vc] w (InsPost w ob sz (n + 1) (insN zs (i * sz) vs))

theorem ints_get {xs : List Int} {t : Nat} (h : t < xs.length) : (xs.map (Value.int .i64))[t]? = some (.int .i64 (xs.getD t 0)) := by
  rw [List.getElem?_map, List.getElem?_eq_getElem h]
  simp [h]

/-- In place: what stood behind is moved, then the new cells are written. -/
theorem ins_shape {w : World} {b n c i sz : Nat} {zs vs : List Int} {cur : Array Value} {et : Nat} (hz : zs.length = n * sz) (hv : vs.length = sz) (hi : i ≤ n) (hroom : n + 1 ≤ c) (hh : w.heap[b]? = some (.cells cur et (0, 0))) (hcs : cur.size = c * sz) (h1 : (n - i) * sz = zs.length - i * sz) (h2 : (i + 1) * sz + (zs.length - i * sz) ≤ c * sz) (h3 : i * sz ≤ zs.length) (h4 : (i + 1) * sz = i * sz + sz)
    (hg : ∀ t, t < i * sz → cur[t]? = some (.int .i64 (zs.getD t 0))) (w1 : World) (hw1 : w1 = (w.setCells b ((i + 1) * sz) ((zs.drop (i * sz)).map (Value.int .i64))).setCells b (i * sz) (vs.map (Value.int .i64)) ∨ w1 = ((w.setCells b (i * sz) (vs.map (Value.int .i64))).drew).setCells b ((i + 1) * sz) ((zs.drop (i * sz)).map (Value.int .i64))) :
    w1.os = w.os ∧ w1.tape = w.tape ∧ w1.output = w.output ∧ w1.heap.size = w.heap.size ∧ (∀ x, x ≠ b → w1.heap[x]? = w.heap[x]?) ∧ ∃ cur', w1.heap[b]? = some (.cells cur' et (0, 0)) ∧ cur'.size = cur.size ∧ ∀ t, t < zs.length + sz → cur'[t]? = some (.int .i64 ((insN zs (i * sz) vs).getD t 0)) := by
  have hdl : ((zs.drop (i * sz)).map (Value.int .i64)).length = zs.length - i * sz := by rw [List.length_map, List.length_drop]
  have hvl : (vs.map (Value.int .i64)).length = sz := by rw [List.length_map, hv]
  have fin : ∀ cur' : Array Value, (∀ t, t < i * sz → cur'[t]? = cur[t]?) → (∀ t, i * sz ≤ t → t < i * sz + sz → cur'[t]? = (vs.map (Value.int .i64))[t - i * sz]?) → (∀ t, i * sz + sz ≤ t → t < zs.length + sz → cur'[t]? = ((zs.drop (i * sz)).map (Value.int .i64))[t - (i * sz + sz)]?) →
      ∀ t, t < zs.length + sz → cur'[t]? = some (.int .i64 ((insN zs (i * sz) vs).getD t 0)) := by
    intro cur' f1 f2 f3 t ht
    rw [insN_get h3, hv]
    by_cases c1 : t < i * sz
    · rw [if_pos c1, f1 t c1, hg t c1]
    · by_cases c2 : t < i * sz + sz
      · rw [if_neg c1, if_pos c2, f2 t (by omega) c2, ints_get (by omega)]
      · rw [if_neg c1, if_neg c2, f3 t (by omega) ht, ints_get (by rw [List.length_drop]; omega), getD_drop]
        congr 3
        omega
  rcases hw1 with rfl | rfl
  · obtain ⟨a1, a2, a3, a4, a5, c1, a6, a7, a8⟩ := setCells_heap b ((zs.drop (i * sz)).map (Value.int .i64)) ((i + 1) * sz) w cur et (0, 0) hh (by rw [hdl]; omega)
    obtain ⟨b1, b2, b3, b4, b5, c2, b6, b7, b8⟩ := setCells_heap b (vs.map (Value.int .i64)) (i * sz) _ c1 et (0, 0) a6 (by rw [hvl]; omega)
    refine ⟨b1.trans a1, b2.trans a2, b3.trans a3, b4.trans a4, fun x hx => (b5 x hx).trans (a5 x hx), c2, b6, b7.trans a7, fin c2 (fun t ht => ?_) (fun t t1 t2 => ?_) (fun t t1 t2 => ?_)⟩
    · rw [b8, if_neg (by omega), a8, if_neg (by omega)]
    · rw [b8, if_pos (by rw [hvl]; omega)]
    · rw [b8, if_neg (by rw [hvl]; omega), a8, if_pos (by rw [hdl]; omega), h4]
  · obtain ⟨a1, a2, a3, a4, a5, c1, a6, a7, a8⟩ := setCells_heap b (vs.map (Value.int .i64)) (i * sz) w cur et (0, 0) hh (by rw [hvl]; omega)
    have a6' : ((w.setCells b (i * sz) (vs.map (Value.int .i64))).drew).heap[b]? = some (.cells c1 et (0, 0)) := a6
    obtain ⟨b1, b2, b3, b4, b5, c2, b6, b7, b8⟩ := setCells_heap b ((zs.drop (i * sz)).map (Value.int .i64)) ((i + 1) * sz) _ c1 et (0, 0) a6' (by rw [hdl]; omega)
    refine ⟨b1.trans a1, b2.trans a2, b3.trans a3, b4.trans a4, fun x hx => (b5 x hx).trans (a5 x hx), c2, b6, b7.trans a7, fin c2 (fun t ht => ?_) (fun t t1 t2 => ?_) (fun t t1 t2 => ?_)⟩
    · rw [b8, if_neg (by omega), a8, if_neg (by omega)]
    · rw [b8, if_neg (by omega), a8, if_pos (by rw [hvl]; omega)]
    · rw [b8, if_pos (by rw [hdl]; omega), h4]

theorem alloc_new (w : World) (c : Array Value) (t : TypeId) : (w.alloc (.cells c t)).heap[w.heap.size]? = some (.cells c t (0, 0)) := @heap_alloc_eq topU w (.cells c t)

theorem contract_ins {P : Program} {f sz : Nat} (hsz : 1 ≤ sz) {M : Model} (hk : M.kinds = [.mv, .ro, .mv])
    (hM : ∀ args r outs, M.fn args = some (r, outs) → ∃ (n i : Nat) (zs vs : List Int), args = [.s true sz n (zs.map eI), eI i, .s true sz 1 (vs.map eI)] ∧ zs.length = n * sz ∧ vs.length = sz ∧ i ≤ n ∧ n ≤ 4294967296 ∧ r = .s true sz (n + 1) ((insN zs (i * sz) vs).map eI) ∧ outs = [])
    (raw : InsRaw P f sz) : Contract P f M := by
  refine ⟨fun B w L vals args r outs hM0 hh hs hsz0 => ?_, fun _ args r outs hM0 => ?_⟩
  · obtain ⟨n, i, zs, vs, rfl, hz, hv, hi, hbig, rfl, rfl⟩ := hM _ _ _ hM0
    letI := B
    rw [hk] at hh hs ⊢
    obtain ⟨u, v1, v2, rfl⟩ : ∃ u v1 v2, vals = #[u, v1, v2] := by
      have hl : vals.toList.length = 3 := by simpa using hsz0
      obtain ⟨l, rfl⟩ : ∃ l : List Value, vals = l.toArray := ⟨vals.toList, by simp⟩
      match l, hl with
      | [u, v1, v2], _ => exact ⟨u, v1, v2, rfl⟩
    obtain ⟨hp0, hhp⟩ : ∃ hp0, hp0 = initHp 0 0 [.mv, .ro, .mv] [.s true sz n (zs.map eI), eI i, .s true sz 1 (vs.map eI)] := ⟨_, rfl⟩
    rw [← hhp] at hh hs
    have r0 : Rep lt3 w L hp0 (.ref (1, 0) [] 0 0 sz n) u := hs 0
    have r1 : Rep lt3 w L hp0 (eI i) v1 := hs 1
    have r2 : Rep lt3 w L hp0 (.ref (1, 1) [] 0 0 sz 1) v2 := hs 2
    have hn0 : TM.node hp0 (1, 0) [] 0 = some (sz, n, zs.map eI) := by rw [hhp]; rfl
    have hn1 : TM.node hp0 (1, 1) [] 0 = some (sz, 1, vs.map eI) := by rw [hhp]; rfl
    simp only [Rep] at r0 r1 r2
    obtain ⟨rfl, _⟩ := r1
    -- the new element
    obtain ⟨_, _, ao2, vc, rfl, hlc2, hmax2, hb2⟩ := r2
    have hne2 : vs.map eI ≠ [] := by
      intro h0
      have := congrArg List.length h0
      simp only [List.length_map, List.length_nil] at this
      omega
    rcases hb2 (by rw [hn1]; simp) with ⟨_, h0, _⟩ | ⟨vb, cv, ev, rfl, hLv, hhv, hcv⟩
    · omega
    obtain ⟨cv1, ev1, capv, k1, k2, k3, k4, k5, k6⟩ := hh.block hn1 hLv hne2
    rw [hhv] at k1
    cases k1
    have hvg : ∀ t, t < sz → cv[t]? = some (.int .i64 (vs.getD t 0)) ∧ (Lit.int .i64 (vs.getD t 0)).wf = true := by
      intro t ht
      obtain ⟨u', g1, g2, g3⟩ := OwnL.get (vs.map eI) 0 cv.toList k6 t (eI (vs.getD t 0)) (by rw [List.getElem?_map, List.getElem?_eq_getElem (by omega)]; simp [show t < vs.length by omega])
      simp only [Own] at g3
      rw [Array.getElem?_toList] at g1
      exact ⟨by rw [g1, g3.1], g3.2⟩
    -- the slice
    obtain ⟨_, _, ao, c, rfl, hlc, hmax, hb⟩ := r0
    obtain ⟨ob, hob, hobn, hobs, hzw⟩ : ∃ ob : Option Nat, ao = ob.map (fun b => (⟨b, 0, none⟩ : Addr)) ∧ (ob = none → n = 0 ∧ c = 0) ∧ (∀ b, ob = some b → L b = .at (1, 0) [] ∧ ∃ (cur : Array Value) (et : Nat), w.heap[b]? = some (.cells cur et (0, 0)) ∧ cur.size = c * sz ∧ ∀ t, t < n * sz → cur[t]? = some (.int .i64 (zs.getD t 0))) ∧
        (∀ y ∈ zs, (Lit.int .i64 y).wf = true) := by
      rcases hb (by rw [hn0]; simp) with ⟨rfl, h0, h1⟩ | ⟨b, cur, et, rfl, hLb, hheap, hcur⟩
      · refine ⟨none, rfl, fun _ => ⟨h0, h1⟩, fun b hb => (by cases hb), fun y hy => ?_⟩
        have : zs.length = 0 := by rw [hz, h0]; omega
        rw [List.length_eq_zero_iff.1 this] at hy
        cases hy
      · have hcells : ∀ t, t < n * sz → cur[t]? = some (.int .i64 (zs.getD t 0)) ∧ (Lit.int .i64 (zs.getD t 0)).wf = true := by
          intro t ht
          have hne : zs.map eI ≠ [] := by
            intro h0
            have := congrArg List.length h0
            simp only [List.length_map, List.length_nil] at this
            omega
          obtain ⟨cur1, et1, cap1, q1, q2, q3, q4, q5, q6⟩ := hh.block hn0 hLb hne
          rw [hheap] at q1
          cases q1
          obtain ⟨u', g1, g2, g3⟩ := OwnL.get (zs.map eI) 0 cur.toList q6 t (eI (zs.getD t 0)) (by rw [List.getElem?_map, List.getElem?_eq_getElem (by omega)]; simp [show t < zs.length by omega])
          simp only [Own] at g3
          rw [Array.getElem?_toList] at g1
          exact ⟨by rw [g1, g3.1], g3.2⟩
        refine ⟨some b, rfl, fun h => (by cases h), fun b' hb' => ?_, fun y hy => ?_⟩
        · cases hb'
          exact ⟨hLb, cur, et, hheap, by omega, fun t ht => (hcells t ht).1⟩
        · obtain ⟨j, hj, rfl⟩ := List.getElem_of_mem hy
          have := (hcells j (by omega)).2
          simpa [hj] using this
    subst hob
    have hvw : ∀ y ∈ vs, (Lit.int .i64 y).wf = true := by
      intro y hy
      obtain ⟨j, hj, rfl⟩ := List.getElem_of_mem hy
      have := (hvg j (by omega)).2
      simpa [hj] using this
    refine (raw w ob n c i vb vc zs vs hz hv hi hlc hmax hbig hobn (fun b hb => ⟨?_, (hobs b hb).2⟩) ⟨cv, ev, hhv, fun t ht => (hvg t ht).1⟩).mono fun e w' hp => ?_
    · rintro rfl
      rw [(hobs b hb).1] at hLv
      cases hLv
    obtain ⟨b, cap, cur, et, rfl, p1, p2, p3, p4, p5, p6, p7, p8, p9, p10, p11, p12⟩ := hp
    have hbl : b < w'.heap.size := (Array.getElem?_eq_some_iff.1 p3).1
    have hbp : ∀ x, L x = .prot → x ≠ b := by
      rintro x hx rfl
      rcases p12 with h | h
      · rw [(hobs x h).1] at hx; cases hx
      · rw [hh.free x h] at hx; cases hx
    have hyl : (insN zs (i * sz) vs).length = (n + 1) * sz := by
      have : i * sz ≤ n * sz := Nat.mul_le_mul_right sz hi
      rw [insN_len (by omega), hz, hv, Nat.succ_mul]
    refine ⟨_, fun x => if x = b then .at (0, 0) [] else match L x with | .prot => .prot | _ => .free, rfl, ⟨fun id r hr => ?_, fun x x' id p hx hx' => ?_, fun x hx => ?_, fun _ _ _ _ => trivial, fun _ _ _ => trivial, fun x hx => ?_, p9, p6, p7, p8, hh.use, fun x c' e f hx hc => ?_⟩, ?_, fun t x ht => ?_⟩
    · exfalso
      simp [shsOf, ioHp] at hr
    · have key : ∀ x, (if x = b then Lbl.at (0, 0) [] else match L x with | .prot => .prot | _ => .free) = .at id p → x = b := by
        intro x hx
        by_cases hxb : x = b
        · exact hxb
        · rw [if_neg hxb] at hx
          split at hx <;> cases hx
      rw [key x hx, key x' hx']
    · have : x ≠ b := by omega
      simp only [if_neg this]
      rw [hh.free x (by omega)]
    · have hxb := hbp x hx
      have hxl : x < w.heap.size := by
        by_cases hl : x < w.heap.size
        · exact hl
        · rw [hh.free x (by omega)] at hx; cases hx
      simp only [if_neg hxb, hx]
      exact ⟨trivial, p10 x hxl hxb⟩
    · by_cases hxb : x = b
      · subst hxb
        rw [p3] at hc
        cases hc
        rfl
      · by_cases hl : x < w.heap.size
        · rw [p10 x hl hxb] at hc
          exact hh.frz x c' e f hx hc
        · exact p11 x c' e f (by omega) hc
    · simp only [ResOwn, Res1, Own]
      refine ⟨rfl, .inr ⟨b, cur, et, cap, rfl, by simp, p3, by omega, by omega, p2, by rw [List.length_map, hyl], OwnL.intro _ _ _ fun t c' hc => ?_⟩⟩
      rw [List.getElem?_map, Option.map_eq_some_iff] at hc
      obtain ⟨v, hv', rfl⟩ := hc
      have ht : t < (insN zs (i * sz) vs).length := (List.getElem?_eq_some_iff.1 hv').1
      have g1 := p5 t (by omega)
      have hgv : (insN zs (i * sz) vs).getD t 0 = v := by rw [List.getD_eq_getElem?_getD, hv']; rfl
      rw [hgv] at g1
      refine ⟨.int .i64 v, by rw [Array.getElem?_toList]; exact g1, rfl, ?_⟩
      simp only [Own]
      refine ⟨trivial, ?_⟩
      rcases insN_mem (List.mem_of_getElem? hv') with hm | hm
      · exact hzw v hm
      · exact hvw v hm
    · simp [shsOf] at ht
  · obtain ⟨n, i, zs, vs, rfl, hz, hv, hi, hbig, rfl, rfl⟩ := hM _ _ _ hM0
    exact ⟨by simp only [cleanA]; exact clean_ints _, rfl⟩

theorem ins_rawI : InsRaw Try.prog 135 1 := by
  intro w ob n c i vb vc zs vs hz hv hi hn hc hbig hnone hob ⟨cv, ev, hhv, hgv⟩
  by_cases hroom : n + 1 ≤ c
  · cases ob with
    | none => obtain ⟨h0, h1⟩ := hnone rfl; omega
    | some b =>
      obtain ⟨hne, cur, et, hh, hcs, hg⟩ := hob b rfl
      have hbl : b < w.heap.size := (Array.getElem?_eq_some_iff.1 hh).1
      have fin : ∀ w1 : World, (w1.os = w.os ∧ w1.tape = w.tape ∧ w1.output = w.output ∧ w1.heap.size = w.heap.size ∧ (∀ x, x ≠ b → w1.heap[x]? = w.heap[x]?) ∧ ∃ cur', w1.heap[b]? = some (.cells cur' et (0, 0)) ∧ cur'.size = cur.size ∧ ∀ t, t < zs.length + 1 → cur'[t]? = some (.int .i64 ((insN zs (i * 1) vs).getD t 0))) →
          ∀ e, e = .returned (.slice (some ⟨b, 0, none⟩) (n + 1) c) → InsPost w (some b) 1 (n + 1) (insN zs (i * 1) vs) e w1 := by
        rintro w1 ⟨a1, a2, a3, a4, a5, cur', a6, a7, a8⟩ e rfl
        exact ⟨b, c, cur', et, rfl, hroom, hc, a6, by omega, fun t ht => a8 t (by omega), a1, a2, a3, by omega, fun x _ hx => a5 x hx, fun x c' e' f hx h' => (by rw [Array.getElem?_eq_none (by omega)] at h'; cases h'), .inl rfl⟩
      by_cases hin : i < n
      · refine (Go.Proofs.ins_shiftI w b n c i vb vc zs vs hz hv hin hroom hc (fun h => hne h.symm) cur et hh hcs hg cv ev hhv hgv).mono fun e w' h => ?_
        have hd : w.drew.heap[b]? = some (.cells cur et (0, 0)) := hh
        have h2 : w' = (w.drew.setCells b ((i + 1) * 1) ((zs.drop (i * 1)).map (Value.int .i64))).setCells b (i * 1) (vs.map (Value.int .i64)) := by rw [h.2]; simp only [Nat.mul_one]
        exact fin w' (ins_shape (sz := 1) (w := w.drew) hz hv (by omega) hroom hd hcs (by omega) (by omega) (by omega) (by omega) (fun t ht => hg t (by omega)) w' (.inl h2)) e h.1
      · obtain rfl : i = n := by omega
        refine (Go.Proofs.ins_roomI w b i c vb vc vs hv hroom hc cur et hh hcs cv ev hhv hgv).mono fun e w' h => ?_
        have hnil : zs.drop (i * 1) = [] := List.drop_eq_nil_of_le (by omega)
        have h2 : w' = (w.setCells b ((i + 1) * 1) ((zs.drop (i * 1)).map (Value.int .i64))).setCells b (i * 1) (vs.map (Value.int .i64)) := by rw [h.2, hnil]; rfl
        exact fin w' (ins_shape (sz := 1) hz hv (by omega) hroom hh hcs (by omega) (by omega) (by omega) (by omega) (fun t ht => hg t (by omega)) w' (.inl h2)) e h.1
  · by_cases hin : i < n
    · cases ob with
      | none => obtain ⟨h0, h1⟩ := hnone rfl; omega
      | some b =>
        obtain ⟨hne, cur, et, hh, hcs, hg⟩ := hob b rfl
        refine (Go.Proofs.ins_growI w b n c i vb vc zs vs hz hv hin hn (by omega) hbig cur et hh hg cv ev hhv hgv).mono fun e w' h => ?_
        obtain ⟨g, row, g1, g2, g3, g4, rfl, h2⟩ := h
        have hd : ((w.alloc (.cells row 3)).drew).heap[w.heap.size]? = some (.cells row 3 (0, 0)) := alloc_new w row _
        have h2 : w' = (((w.alloc (.cells row 3)).drew.setCells w.heap.size (i * 1) (vs.map (Value.int .i64))).drew).setCells w.heap.size ((i + 1) * 1) ((zs.drop (i * 1)).map (Value.int .i64)) := by rw [h2]; simp only [Nat.mul_one]
        obtain ⟨a1, a2, a3, a4, a5, cur', a6, a7, a8⟩ := ins_shape (sz := 1) (w := (w.alloc (.cells row 3)).drew) (c := g) hz hv (by omega) g1 hd g3 (by omega) (by omega) (by omega) (by omega) g4 w' (.inr h2)
        have hsz : ((w.alloc (.cells row 3)).drew).heap.size = w.heap.size + 1 := World.size_alloc ..
        rw [hsz] at a4
        refine ⟨w.heap.size, g, cur', _, rfl, g1, g2, a6, by omega, fun t ht => a8 t (by omega), a1, a2, a3, by omega, fun x hx hxb => (a5 x hxb).trans (@heap_alloc_lt topU w _ _ hx), fun x c' e' f hx h' => ?_, .inr (Nat.le_refl _)⟩
        by_cases hxb : x = w.heap.size
        · subst hxb; rw [a6] at h'; cases h'; rfl
        · rw [Array.getElem?_eq_none (by omega)] at h'; cases h'
    · obtain rfl : i = n := by omega
      refine (Go.Proofs.ins_newI w ob i c vb vc zs vs hz hv hn (by omega) hbig (fun h => (hnone h).1) (fun b hb => by
        obtain ⟨_, cur, et, hh, _, hg⟩ := hob b hb
        exact ⟨cur, et, hh, hg⟩) cv ev hhv hgv).mono fun e w' h => ?_
      obtain ⟨g, rest, g1, g2, g3, rfl, rfl⟩ := h
      have hd : (w.drew.alloc (.cells (((zs ++ vs).map (Value.int .i64)).toArray ++ rest) 3)).heap[w.heap.size]? = some (.cells (((zs ++ vs).map (Value.int .i64)).toArray ++ rest) 3 (0, 0)) := alloc_new w.drew _ _
      have hins : insN zs (i * 1) vs = zs ++ vs := by
        rw [insN, List.take_of_length_le (by omega), List.drop_eq_nil_of_le (by omega), List.append_nil]
      have hl : ((zs ++ vs).map (Value.int .i64)).length = (i + 1) * 1 := by rw [List.length_map, List.length_append, hz, hv]; omega
      rw [hins]
      refine ⟨w.heap.size, g, _, _, rfl, g1, g2, hd, ?_, fun t ht => ?_, rfl, rfl, rfl, ?_, fun x hx _ => @heap_alloc_lt topU w.drew _ _ hx, fun x c' e' f hx h' => ?_, .inr (Nat.le_refl _)⟩
      · rw [Array.size_append, List.size_toArray, hl, g3]; omega
      · rw [Array.getElem?_append_left (by rw [List.size_toArray, hl]; exact ht), List.getElem?_toArray, ints_get (by rw [List.length_append, hz, hv]; omega)]
      · rw [World.size_alloc]; exact Nat.le_succ _
      · by_cases hxb : x = w.heap.size
        · subst hxb; rw [hd] at h'; cases h'; rfl
        · rw [Array.getElem?_eq_none (by rw [World.size_alloc]; show w.heap.size + 1 ≤ x; omega)] at h'; cases h'


theorem ins_rawP : InsRaw Try.prog 131 2 := by
  intro w ob n c i vb vc zs vs hz hv hi hn hc hbig hnone hob ⟨cv, ev, hhv, hgv⟩
  by_cases hroom : n + 1 ≤ c
  · cases ob with
    | none => obtain ⟨h0, h1⟩ := hnone rfl; omega
    | some b =>
      obtain ⟨hne, cur, et, hh, hcs, hg⟩ := hob b rfl
      have hbl : b < w.heap.size := (Array.getElem?_eq_some_iff.1 hh).1
      have fin : ∀ w1 : World, (w1.os = w.os ∧ w1.tape = w.tape ∧ w1.output = w.output ∧ w1.heap.size = w.heap.size ∧ (∀ x, x ≠ b → w1.heap[x]? = w.heap[x]?) ∧ ∃ cur', w1.heap[b]? = some (.cells cur' et (0, 0)) ∧ cur'.size = cur.size ∧ ∀ t, t < zs.length + 2 → cur'[t]? = some (.int .i64 ((insN zs (i * 2) vs).getD t 0))) →
          ∀ e, e = .returned (.slice (some ⟨b, 0, none⟩) (n + 1) c) → InsPost w (some b) 2 (n + 1) (insN zs (i * 2) vs) e w1 := by
        rintro w1 ⟨a1, a2, a3, a4, a5, cur', a6, a7, a8⟩ e rfl
        exact ⟨b, c, cur', et, rfl, hroom, hc, a6, by omega, fun t ht => a8 t (by omega), a1, a2, a3, by omega, fun x _ hx => a5 x hx, fun x c' e' f hx h' => (by rw [Array.getElem?_eq_none (by omega)] at h'; cases h'), .inl rfl⟩
      by_cases hin : i < n
      · refine (Go.Proofs.ins_shiftP w b n c i vb vc zs vs hz hv hin hroom hc (fun h => hne h.symm) cur et hh hcs hg cv ev hhv hgv).mono fun e w' h => ?_
        have hd : w.drew.heap[b]? = some (.cells cur et (0, 0)) := hh
        have h2 : w' = (w.drew.setCells b ((i + 1) * 2) ((zs.drop (i * 2)).map (Value.int .i64))).setCells b (i * 2) (vs.map (Value.int .i64)) := by rw [h.2]
        exact fin w' (ins_shape (sz := 2) (w := w.drew) hz hv (by omega) hroom hd hcs (by omega) (by omega) (by omega) (by omega) (fun t ht => hg t (by omega)) w' (.inl h2)) e h.1
      · obtain rfl : i = n := by omega
        refine (Go.Proofs.ins_roomP w b i c vb vc vs hv hroom hc cur et hh hcs cv ev hhv hgv).mono fun e w' h => ?_
        have hnil : zs.drop (i * 2) = [] := List.drop_eq_nil_of_le (by omega)
        have h2 : w' = (w.setCells b ((i + 1) * 2) ((zs.drop (i * 2)).map (Value.int .i64))).setCells b (i * 2) (vs.map (Value.int .i64)) := by rw [h.2, hnil]; rfl
        exact fin w' (ins_shape (sz := 2) hz hv (by omega) hroom hh hcs (by omega) (by omega) (by omega) (by omega) (fun t ht => hg t (by omega)) w' (.inl h2)) e h.1
  · by_cases hin : i < n
    · cases ob with
      | none => obtain ⟨h0, h1⟩ := hnone rfl; omega
      | some b =>
        obtain ⟨hne, cur, et, hh, hcs, hg⟩ := hob b rfl
        refine (Go.Proofs.ins_growP w b n c i vb vc zs vs hz hv hin hn (by omega) hbig cur et hh hg cv ev hhv hgv).mono fun e w' h => ?_
        obtain ⟨g, row, g1, g2, g3, g4, rfl, h2⟩ := h
        have hd : ((w.alloc (.cells row 52)).drew).heap[w.heap.size]? = some (.cells row 52 (0, 0)) := alloc_new w row _
        have h2 : w' = (((w.alloc (.cells row 52)).drew.setCells w.heap.size (i * 2) (vs.map (Value.int .i64))).drew).setCells w.heap.size ((i + 1) * 2) ((zs.drop (i * 2)).map (Value.int .i64)) := by rw [h2]
        obtain ⟨a1, a2, a3, a4, a5, cur', a6, a7, a8⟩ := ins_shape (sz := 2) (w := (w.alloc (.cells row 52)).drew) (c := g) hz hv (by omega) g1 hd g3 (by omega) (by omega) (by omega) (by omega) g4 w' (.inr h2)
        have hsz : ((w.alloc (.cells row 52)).drew).heap.size = w.heap.size + 1 := World.size_alloc ..
        rw [hsz] at a4
        refine ⟨w.heap.size, g, cur', _, rfl, g1, g2, a6, by omega, fun t ht => a8 t (by omega), a1, a2, a3, by omega, fun x hx hxb => (a5 x hxb).trans (@heap_alloc_lt topU w _ _ hx), fun x c' e' f hx h' => ?_, .inr (Nat.le_refl _)⟩
        by_cases hxb : x = w.heap.size
        · subst hxb; rw [a6] at h'; cases h'; rfl
        · rw [Array.getElem?_eq_none (by omega)] at h'; cases h'
    · obtain rfl : i = n := by omega
      refine (Go.Proofs.ins_newP w ob i c vb vc zs vs hz hv hn (by omega) hbig (fun h => (hnone h).1) (fun b hb => by
        obtain ⟨_, cur, et, hh, _, hg⟩ := hob b hb
        exact ⟨cur, et, hh, hg⟩) cv ev hhv hgv).mono fun e w' h => ?_
      obtain ⟨g, rest, g1, g2, g3, rfl, rfl⟩ := h
      have hd : (w.drew.alloc (.cells (((zs ++ vs).map (Value.int .i64)).toArray ++ rest) 52)).heap[w.heap.size]? = some (.cells (((zs ++ vs).map (Value.int .i64)).toArray ++ rest) 52 (0, 0)) := alloc_new w.drew _ _
      have hins : insN zs (i * 2) vs = zs ++ vs := by
        rw [insN, List.take_of_length_le (by omega), List.drop_eq_nil_of_le (by omega), List.append_nil]
      have hl : ((zs ++ vs).map (Value.int .i64)).length = (i + 1) * 2 := by rw [List.length_map, List.length_append, hz, hv]; omega
      rw [hins]
      refine ⟨w.heap.size, g, _, _, rfl, g1, g2, hd, ?_, fun t ht => ?_, rfl, rfl, rfl, ?_, fun x hx _ => @heap_alloc_lt topU w.drew _ _ hx, fun x c' e' f hx h' => ?_, .inr (Nat.le_refl _)⟩
      · rw [Array.size_append, List.size_toArray, hl, g3]; omega
      · rw [Array.getElem?_append_left (by rw [List.size_toArray, hl]; exact ht), List.getElem?_toArray, ints_get (by rw [List.length_append, hz, hv]; omega)]
      · rw [World.size_alloc]; exact Nat.le_succ _
      · by_cases hxb : x = w.heap.size
        · subst hxb; rw [hd] at h'; cases h'; rfl
        · rw [Array.getElem?_eq_none (by rw [World.size_alloc]; show w.heap.size + 1 ≤ x; omega)] at h'; cases h'

end Go.TM

