/- Contracts, 18: slices.Delete at numbers. -/
import Derived.Test.YtbpfagbihffmbaaF17
import Derived.Lib.SliceRun
import Derived.Deep.RegionLaw
import Derived.Laws.IdiomCopy
import Derived.Deep.MidRow
namespace Go.Proofs
open Go.Shelf Go.RowKit Go.TM
set_option linter.unusedVariables false
set_option linter.unusedSimpArgs false

theorem int_info : ∃ i, Try.prog.info? 3 = some i ∧ i.size = 1 ∧ i.zero = some (.int .i64 0) := by
  have h : (match Try.prog.info? 3 with
    | some i => decide (i.size = 1) && (match i.zero with
      | some (.int .i64 n) => decide (n = 0)
      | _ => false)
    | none => false) = true := by kernel_rfl
  split at h
  · rename_i i hi
    simp only [Bool.and_eq_true, decide_eq_true_eq] at h
    obtain ⟨h1, h2⟩ := h
    split at h2
    · rename_i n hz
      simp only [decide_eq_true_eq] at h2
      subst h2
      exact ⟨i, hi, h1, hz⟩
    · cases h2
  · cases h

set_option maxHeartbeats 4000000 in
set_option maxRecDepth 1000000 in
theorem delete_raw (b cap i j n : Nat) (zs : List Int) (hz : zs.length = n) (w : World) (hc : ∀ t, t < n → w.cell? ⟨b, t, none⟩ = some (.int .i64 (zs.getD t 0))) (hf : ∀ t, t < n → w.frozen? ⟨b, t, none⟩ = false)
    (hcap : n ≤ cap) (hm : cap ≤ 9223372036854775807) (hij : i < j) (hj : j ≤ n) :
    Calls Try.prog 171 #[.slice (some ⟨b, 0, none⟩) n cap, .int .i64 i, .int .i64 j] w fun e w' => e = .returned (.slice (some ⟨b, 0, none⟩) (n - (j - i)) cap) ∧
      ∃ q, w' = ((w.drewN q).setCells b i ((zs.drop j).map (Value.int .i64))).setCells b (i + (n - j)) (List.replicate (j - i) (.int .i64 0)) := by
  obtain ⟨news, hnews⟩ : ∃ news, news = (zs.drop j).map (Value.int .i64) := ⟨_, rfl⟩
  have hlen : news.length = n - j := by rw [hnews]; simp [hz]
  have hget : ∀ t, t < n - j → news[t]? = some (.int .i64 (zs.getD (j + t) 0)) := by
    intro t ht
    rw [hnews, List.getElem?_map, List.getElem?_drop, List.getElem?_eq_getElem (by omega)]
    simp [show j + t < zs.length by omega]
  obtain ⟨A, hA, hsrc⟩ : ∃ A : Addr, (if cap = j then some (⟨b, 0, none⟩ : Addr) else some ⟨b, j, none⟩) = some A ∧ Hid (∀ t u, news[t]? = some u → w.drew.cell? (A.add t) = some u) := by
    by_cases h : cap = j
    · refine ⟨⟨b, 0, none⟩, by simp [h], fun t u hu => ?_⟩
      have h0 : news.length = 0 := by rw [hlen]; omega
      rw [List.length_eq_zero_iff.1 h0] at hu
      simp at hu
    · refine ⟨⟨b, j, none⟩, by simp [h], fun t u hu => ?_⟩
      have ht : t < n - j := by
        have := (List.getElem?_eq_some_iff.1 hu).1
        rwa [hlen] at this
      rw [hget t ht] at hu
      rw [Addr.add_lit]
      exact (hc (j + t) (by omega)).trans hu
  have s1 : Hid (news.length = (n - j) * 1) := by rw [Nat.mul_one]; exact hlen
  have s2 : Hid (∀ u ∈ news, u.oneCell' = true) := by
    intro u hu
    rw [hnews] at hu
    obtain ⟨x, _, rfl⟩ := List.mem_map.1 hu
    rfl
  have s3 : Hid (∀ t, t < news.length → (w.drew.cell? ⟨b, 0 + i * 1 + t, none⟩).isSome = true ∧ w.drew.frozen? ⟨b, 0 + i * 1 + t, none⟩ = false) := by
    intro t ht
    rw [hlen] at ht
    rw [Nat.mul_one, Nat.zero_add]
    exact ⟨by show (w.cell? _).isSome = true; rw [hc (i + t) (by omega)]; rfl, hf (i + t) (by omega)⟩
  obtain ⟨i0, hi0, hz1, hz3⟩ := int_info
  obtain ⟨W1, hW1⟩ : ∃ W1, W1 = w.drew.setCells b (0 + i * 1) news := ⟨_, rfl⟩
  have hzv : ∀ w, (zeroValue 3).run Try.prog w = .ok (.int .i64 0) w := by
    intro w
    simp [zeroValue, typeInfo, hi0, hz3]
  have hcl : ∀ ty, (Builtin.clear_ #[35] ty #[.slice (some ⟨b, i + (n - j), none⟩) (n - (i + (n - j))) (cap - (i + (n - j)))]).run Try.prog W1 = .ok (.tuple #[]) (W1.setCells b (i + (n - j)) (List.replicate (n - (i + (n - j))) (.int .i64 0))) := by
    intro ty
    refine Lib.run_clear_slice W1 _ _ ty _ Try.underlying35 hzv rfl rfl b (i + (n - j)) _ _ (by omega) (fun t ht => ?_) (fun t ht => ?_)
    · rw [hW1]
      exact World.isSome_setCells b _ _ _ _ (by show (w.cell? _).isSome = true; rw [hc _ (by omega)]; rfl)
    · rw [hW1, World.frozen?_setCells]
      show w.frozen? _ = false
      exact hf _ (by omega)
  have hW : Hid (W1 = w.drew.setCells b (0 + i * 1) news) := hW1
  have hic : i ≤ cap := by omega
  have hjc : j ≤ cap := by omega
  have HN : Hid (news = (zs.drop j).map (Value.int .i64)) := hnews
  clear hW1 hget hnews hlen hc hf
  go_enter Try.func171, Try.ntmps171
  go_wp2_with fail
  go_region_law (refine step_append_room rfl (.tmp 22) (.tmp 25) 35 rfl 3 i0 1 Try.underlying35 hi0 hz1 b 0 i cap (by simp [Act.eval, Act.put]) A (n - j) (cap - j) news (by simp [Act.eval, Act.put, hA]) s1.out hsrc.out s2.out (by omega) s3.out ?_; rw [← hW.out])
  go_wp2
  go_ret
  refine ⟨by rw [show n - (j - i) = i + (n - j) by omega]; rfl, 1, ?_⟩
  show W1.setCells b (i + (n - j)) (List.replicate (n - (i + (n - j))) (.int .i64 0)) = _
  rw [hW.out, HN.out, show 0 + i * 1 = i by omega, show n - (i + (n - j)) = j - i by omega]
  rfl
end Go.Proofs
namespace Go.TM
open Go.Proofs Go.RowKit Go.Shelf
set_option linter.unusedVariables false
set_option linter.unusedSimpArgs false
set_option maxRecDepth 100000

/-- Some cells in a row are written: the heap. -/
theorem setCells_heap (b : Nat) : ∀ (vs : List Value) (o : Nat) (w : World) (cur : Array Value) (e : Nat) (f : Nat × Nat), w.heap[b]? = some (.cells cur e f) → o + vs.length ≤ cur.size →
    (w.setCells b o vs).os = w.os ∧ (w.setCells b o vs).tape = w.tape ∧ (w.setCells b o vs).output = w.output ∧ (w.setCells b o vs).heap.size = w.heap.size ∧ (∀ x, x ≠ b → (w.setCells b o vs).heap[x]? = w.heap[x]?) ∧
    ∃ cur', (w.setCells b o vs).heap[b]? = some (.cells cur' e f) ∧ cur'.size = cur.size ∧ ∀ t, cur'[t]? = if o ≤ t ∧ t < o + vs.length then vs[t - o]? else cur[t]?
  | [], o, w, cur, e, f, h, _ => by
    refine ⟨rfl, rfl, rfl, rfl, fun _ _ => rfl, cur, h, rfl, fun t => ?_⟩
    rw [if_neg (by simp only [List.length_nil]; omega)]
  | v :: vs, o, w, cur, e, f, h, hl => by
    have hlt : b < w.heap.size := (Array.getElem?_eq_some_iff.1 h).1
    have h1 : (w.setCell ⟨b, o, none⟩ v).heap[b]? = some (.cells (cur.setIfInBounds o v) e f) := by
      simp [World.setCell, Array.getElem?_modify, h]
    have h2 : ∀ x, x ≠ b → (w.setCell ⟨b, o, none⟩ v).heap[x]? = w.heap[x]? := fun x hx => by
      simp only [World.setCell, Array.getElem?_modify]
      rw [if_neg (fun hh => hx hh.symm)]
    have h3 : (w.setCell ⟨b, o, none⟩ v).heap.size = w.heap.size := by simp [World.setCell]
    simp only [List.length_cons] at hl
    obtain ⟨g1, g2, g3, g4, g5, cur', g6, g7, g8⟩ := setCells_heap b vs (o + 1) (w.setCell ⟨b, o, none⟩ v) _ e f h1 (by simp; omega)
    refine ⟨g1, g2, g3, g4.trans h3, fun x hx => (g5 x hx).trans (h2 x hx), cur', g6, by rw [g7]; simp, fun t => ?_⟩
    show cur'[t]? = _
    rw [g8, List.length_cons]
    by_cases ht : o + 1 ≤ t ∧ t < o + 1 + vs.length
    · rw [if_pos ht, if_pos (by omega), show t - o = t - (o + 1) + 1 from by omega]
      rfl
    · rw [if_neg ht]
      by_cases hto : t = o
      · subst hto
        rw [if_pos (by omega), Nat.sub_self]
        simp [show t < cur.size by omega]
      · rw [if_neg (by omega)]
        rw [Array.getElem?_setIfInBounds_ne (fun hh => hto hh.symm)]

def mDeleteI : Model := M3 .mv .ro .ro true (cIs true) cI cI fun xs i j => gd (0 ≤ i ∧ i < j ∧ j ≤ xs.length) (eIs true (xs.take i.toNat ++ xs.drop j.toNat), [])

theorem c_deleteI : Contract Try.prog 171 mDeleteI := by
  refine ⟨fun B w L vals args r outs hM hh hs hsz => ?_, fun _ args r outs hM => ?_⟩
  · obtain ⟨x, y, z, rfl⟩ : ∃ x y z, args = [x, y, z] := by
      match args, hM with
      | [x, y, z], _ => exact ⟨x, y, z, rfl⟩
      | [], h => simp [mDeleteI, M3] at h
      | [_], h => simp [mDeleteI, M3] at h
      | [_, _], h => simp [mDeleteI, M3] at h
      | _ :: _ :: _ :: _ :: _, h => simp [mDeleteI, M3] at h
    simp only [mDeleteI] at hM
    rw [M3_fn] at hM
    simp only [Option.bind_eq_some_iff] at hM
    obtain ⟨xs, hx, i, hy, j, hz, hM⟩ := hM
    obtain rfl := (cIs true).ed _ _ hx
    obtain rfl := cI.ed _ _ hy
    obtain rfl := cI.ed _ _ hz
    obtain ⟨⟨hi0, hij, hjl⟩, hM⟩ := gd_some hM
    cases hM
    letI := B
    obtain ⟨u, v1, v2, rfl⟩ : ∃ u v1 v2, vals = #[u, v1, v2] := by
      have hl : vals.toList.length = 3 := by simpa using hsz
      obtain ⟨l, rfl⟩ : ∃ l : List Value, vals = l.toArray := ⟨vals.toList, by simp⟩
      match l, hl with
      | [u, v1, v2], _ => exact ⟨u, v1, v2, rfl⟩
    have r0 : @Rep B lt3 w L (initHp 0 0 [.mv, .ro, .ro] [eIs true xs, eI i, eI j]) (.ref (1, 0) [] 0 0 1 xs.length) u := hs 0
    have r1 : @Rep B lt3 w L (initHp 0 0 [.mv, .ro, .ro] [eIs true xs, eI i, eI j]) (eI i) v1 := hs 1
    have r2 : @Rep B lt3 w L (initHp 0 0 [.mv, .ro, .ro] [eIs true xs, eI i, eI j]) (eI j) v2 := hs 2
    simp only [Rep] at r0 r1 r2
    obtain ⟨rfl, _⟩ := r1
    obtain ⟨rfl, _⟩ := r2
    have hroot : initHp 0 0 [.mv, .ro, .ro] [eIs true xs, eI i, eI j] (1, 0) = some (newRoot 1 xs.length (xs.map eI)) := rfl
    have hnode : TM.node (initHp 0 0 [.mv, .ro, .ro] [eIs true xs, eI i, eI j]) (1, 0) [] 0 = some (1, xs.length, xs.map eI) := rfl
    obtain ⟨_, _, ao, cap, rfl, hlc, hmax, hb⟩ := r0
    have hne : xs.map eI ≠ [] := by
      intro h0
      have : xs.length = 0 := by simpa using congrArg List.length h0
      omega
    rcases hb (by rw [hnode]; simp) with ⟨rfl, h0, _⟩ | ⟨b, cur, et, rfl, hLb, hheap, hcur⟩
    · omega
    obtain ⟨cur1, et1, cap1, k1, k2, k3, k4, k5, k6⟩ := hh.block (id := (1, 0)) (path := []) (ver := 0) hnode hLb hne
    rw [hheap] at k1
    cases k1
    have hcell : ∀ t, t < xs.length → cur[t]? = some (.int .i64 (xs.getD t 0)) ∧ (Lit.int .i64 (xs.getD t 0)).wf = true := by
      intro t ht
      obtain ⟨u', g1, g2, g3⟩ := OwnL.get (xs.map eI) 0 cur.toList k6 t (eI (xs.getD t 0)) (by rw [List.getElem?_map, List.getElem?_eq_getElem ht]; simp [ht])
      simp only [Own] at g3
      rw [Array.getElem?_toList] at g1
      exact ⟨by rw [g1, g3.1], g3.2⟩
    have hbl : b < w.heap.size := (Array.getElem?_eq_some_iff.1 hheap).1
    obtain ⟨i', rfl⟩ : ∃ i' : Nat, i = i' := ⟨i.toNat, by omega⟩
    obtain ⟨j', rfl⟩ : ∃ j' : Nat, j = j' := ⟨j.toNat, by omega⟩
    have hcapsz : cur.size = cap := by omega
    have hraw := delete_raw b cap i' j' xs.length xs rfl w (fun t ht => by simp only [World.cell?, hheap]; exact (hcell t ht).1) (fun t ht => by simp [World.frozen?, hheap]) hlc hmax (by omega) (by omega)
    refine hraw.mono fun e w' hp => ?_
    obtain ⟨rfl, q, rfl⟩ := hp
    have hh1 : (w.drewN q).heap[b]? = some (.cells cur et (0, 0)) := hheap
    obtain ⟨a1, a2, a3, a4, a5, c1, a6, a7, a8⟩ := setCells_heap b ((xs.drop j').map (Value.int .i64)) i' (w.drewN q) cur et (0, 0) hh1 (by simp; omega)
    obtain ⟨b1, b2, b3, b4, b5, c2, b6, b7, b8⟩ := setCells_heap b (List.replicate (j' - i') (.int .i64 0)) (i' + (xs.length - j')) _ c1 et (0, 0) a6 (by simp; omega)
    have hyl : (xs.take i' ++ xs.drop j').length = xs.length - (j' - i') := by rw [List.length_append, List.length_take, List.length_drop]; omega
    have hyg : ∀ t, t < (xs.take i' ++ xs.drop j').length → c2[t]? = some (.int .i64 ((xs.take i' ++ xs.drop j').getD t 0)) ∧ (Lit.int .i64 ((xs.take i' ++ xs.drop j').getD t 0)).wf = true := by
      intro t ht
      have hti : (xs.take i').length = i' := by rw [List.length_take]; omega
      rw [b8, if_neg (by rw [List.length_replicate]; omega), a8, getD_app, hti]
      by_cases h1 : t < i'
      · rw [if_neg (by omega), if_pos h1, getD_take h1]
        exact hcell t (by omega)
      · rw [if_pos (by simp; omega), if_neg h1, getD_drop]
        have hcl := hcell (j' + (t - i')) (by omega)
        refine ⟨?_, hcl.2⟩
        rw [List.getElem?_map, List.getElem?_drop, List.getElem?_eq_getElem (by omega)]
        simp [show j' + (t - i') < xs.length by omega]
    simp only [Int.toNat_natCast]
    rw [← hyl]
    refine ⟨_, fun x => if x = b then .at (0, 0) [] else match L x with | .prot => .prot | _ => .free, rfl, ⟨fun id r hr => ?_, fun x x' id p hx hx' => ?_, fun x hx => ?_, fun _ _ _ _ => trivial, fun _ _ _ => trivial, fun x hx => ?_, ?_, ?_, ?_, ?_, hh.use, fun x c e f hx hc => ?_⟩, ?_, fun t x ht => ?_⟩
    · exfalso
      simp [shsOf, mDeleteI, M3, ioHp] at hr
    · have key : ∀ x, (if x = b then Lbl.at (0, 0) [] else match L x with | .prot => .prot | _ => .free) = .at id p → x = b := by
        intro x hx
        by_cases hxb : x = b
        · exact hxb
        · rw [if_neg hxb] at hx
          split at hx <;> cases hx
      rw [key x hx, key x' hx']
    · rw [b4, a4] at hx
      have hxs : w.heap.size ≤ x := hx
      have : x ≠ b := by omega
      simp only [if_neg this]
      rw [hh.free x hxs]
    · have hxb : x ≠ b := by rintro rfl; rw [hx] at hLb; cases hLb
      simp only [if_neg hxb, hx]
      exact ⟨trivial, (b5 x hxb).trans (a5 x hxb)⟩
    · rw [b4, a4]
      exact Nat.le_refl _
    · exact b1.trans a1
    · exact b2.trans a2
    · exact b3.trans a3
    · by_cases hxb : x = b
      · subst hxb
        rw [b6] at hc
        cases hc
        rfl
      · rw [b5 x hxb, a5 x hxb] at hc
        exact hh.frz x c e f hx hc
    · simp only [ResOwn, Res1, Own]
      refine ⟨rfl, .inr ⟨b, c2, et, cap, rfl, by simp, b6, by omega, by omega, hmax, by simp, OwnL.intro _ _ _ fun t c hc => ?_⟩⟩
      rw [List.getElem?_map, Option.map_eq_some_iff] at hc
      obtain ⟨v, hv, rfl⟩ := hc
      have ht : t < (xs.take i' ++ xs.drop j').length := (List.getElem?_eq_some_iff.1 hv).1
      obtain ⟨g1, g2⟩ := hyg t ht
      have hgv : (xs.take i' ++ xs.drop j').getD t 0 = v := by rw [List.getD_eq_getElem?_getD, hv]; rfl
      rw [hgv] at g1 g2
      refine ⟨.int .i64 v, by rw [Array.getElem?_toList]; exact g1, rfl, ?_⟩
      simp only [Own]
      exact ⟨trivial, g2⟩
    · simp [shsOf, mDeleteI, M3] at ht
  · obtain ⟨x, y, z, rfl⟩ : ∃ x y z, args = [x, y, z] := by
      match args, hM with
      | [x, y, z], _ => exact ⟨x, y, z, rfl⟩
      | [], h => simp [mDeleteI, M3] at h
      | [_], h => simp [mDeleteI, M3] at h
      | [_, _], h => simp [mDeleteI, M3] at h
      | _ :: _ :: _ :: _ :: _, h => simp [mDeleteI, M3] at h
    simp only [mDeleteI] at hM
    rw [M3_fn] at hM
    simp only [Option.bind_eq_some_iff] at hM
    obtain ⟨xs, hx, i, hy, j, hz, hM⟩ := hM
    obtain ⟨_, hM⟩ := gd_some hM
    cases hM
    exact ⟨by simp only [cleanA]; exact clean_ints _, rfl⟩
theorem fo_deleteI : FnOk Try.prog 171 := fnOk_of Try.func171 (by kernel_rfl)

end Go.TM
