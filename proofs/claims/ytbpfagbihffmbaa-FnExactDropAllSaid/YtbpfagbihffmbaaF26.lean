/- Contracts, 26: slices.Delete at pairs; a pair is left out; a kid is left out. -/
import Derived.Test.YtbpfagbihffmbaaF25
import Derived.Lib.SliceRun
import Derived.Deep.RegionLaw
import Derived.Laws.IdiomCopy
import Derived.Deep.MidRow
namespace Go.Proofs
open Go.Shelf Go.RowKit Go.TM
set_option linter.unusedVariables false
set_option linter.unusedSimpArgs false

theorem run_clear_cells {P : Program} (w : World) (t e ty : TypeId) (z : Value) (ht : P.underlying t = some (.slice e)) (hv : ∀ w, (zeroValue e).run P w = .ok z w) (vs : List Value) (b o n c : Nat) (hn : 0 < n)
    (hz : (Builtin.zeroCells z.cells n).toList = vs) (h1 : ∀ v ∈ vs, v.oneCell' = true) (hc : ∀ j, j < vs.length → (w.cell? ⟨b, o + j, none⟩).isSome = true) (hf : ∀ j, j < vs.length → w.frozen? ⟨b, o + j, none⟩ = false) :
    (Builtin.clear_ #[t] ty #[.slice (some ⟨b, o, none⟩) n c]).run P w = .ok (.tuple #[]) (w.setCells b o vs) := by
  have hst := run_storeCells_cells (P := P) b o vs 0 w (by simpa using hc) (by simpa using hf) h1
  simp only [Nat.add_zero] at hst
  obtain ⟨m, rfl⟩ : ∃ m, n = m + 1 := ⟨n - 1, by omega⟩
  simp [Builtin.clear_, run_underlying ht, hv, hz, hst]

theorem pair_info3 : ∃ i z, Try.prog.info? 52 = some i ∧ i.size = 2 ∧ i.zero = some z ∧ z.cells = #[.int .i64 0, .int .i64 0] := by
  have h : (match Try.prog.info? 52 with
    | some i => decide (i.size = 2) && (match i.zero with
      | some z => (match z.cells.toList with
        | [.int .i64 a, .int .i64 b] => decide (a = 0) && decide (b = 0)
        | _ => false)
      | none => false)
    | none => false) = true := by kernel_rfl
  split at h
  · rename_i i hi
    simp only [Bool.and_eq_true, decide_eq_true_eq] at h
    obtain ⟨h1, h3⟩ := h
    split at h3
    · rename_i z hz
      split at h3
      · rename_i a b hc
        simp only [Bool.and_eq_true, decide_eq_true_eq] at h3
        obtain ⟨rfl, rfl⟩ := h3
        refine ⟨i, z, hi, h1, hz, ?_⟩
        rw [← Array.toList_inj]
        exact hc
      · cases h3
    · cases h3
  · cases h

theorem zero2 (n : Nat) : (Builtin.zeroCells #[Value.int .i64 0, .int .i64 0] n).toList = List.replicate (n * 2) (.int .i64 0) := by
  apply List.ext_getElem
  · simp [Builtin.zeroCells]
  · intro i h1 h2
    simp only [Builtin.zeroCells, Array.getElem_toList, Array.getElem_map, Array.getElem_range, List.getElem_replicate]
    have : i % (#[Value.int .i64 0, .int .i64 0] : Array Value).size = 0 ∨ i % (#[Value.int .i64 0, .int .i64 0] : Array Value).size = 1 := by
      have : i % 2 < 2 := Nat.mod_lt _ (by omega)
      show i % 2 = 0 ∨ i % 2 = 1
      omega
    rcases this with h | h <;> rw [h] <;> rfl

set_option maxHeartbeats 4000000 in
set_option maxRecDepth 1000000 in
theorem delete_rawP (b cap i j n : Nat) (zs : List Int) (hz : zs.length = n * 2) (w : World) (hc : ∀ t, t < n * 2 → w.cell? ⟨b, t, none⟩ = some (.int .i64 (zs.getD t 0))) (hf : ∀ t, t < n * 2 → w.frozen? ⟨b, t, none⟩ = false)
    (hcap : n ≤ cap) (hm : cap ≤ 9223372036854775807) (hij : i < j) (hj : j ≤ n) :
    Calls Try.prog 168 #[.slice (some ⟨b, 0, none⟩) n cap, .int .i64 i, .int .i64 j] w fun e w' => e = .returned (.slice (some ⟨b, 0, none⟩) (n - (j - i)) cap) ∧
      ∃ q, w' = ((w.drewN q).setCells b (i * 2) ((zs.drop (j * 2)).map (Value.int .i64))).setCells b ((i + (n - j)) * 2) (List.replicate ((j - i) * 2) (.int .i64 0)) := by
  obtain ⟨news, hnews⟩ : ∃ news, news = (zs.drop (j * 2)).map (Value.int .i64) := ⟨_, rfl⟩
  have hlen : news.length = (n - j) * 2 := by rw [hnews]; simp [hz]; omega
  have hget : ∀ t, t < (n - j) * 2 → news[t]? = some (.int .i64 (zs.getD (j * 2 + t) 0)) := by
    intro t ht
    rw [hnews, List.getElem?_map, List.getElem?_drop, List.getElem?_eq_getElem (by omega)]
    simp [show j * 2 + t < zs.length by omega]
  obtain ⟨A, hA, hsrc⟩ : ∃ A : Addr, (if cap = j then some (⟨b, 0, none⟩ : Addr) else some ⟨b, j * 2, none⟩) = some A ∧ Hid (∀ t u, news[t]? = some u → w.drew.cell? (A.add t) = some u) := by
    by_cases h : cap = j
    · refine ⟨⟨b, 0, none⟩, by simp [h], fun t u hu => ?_⟩
      have h0 : news.length = 0 := by rw [hlen]; omega
      rw [List.length_eq_zero_iff.1 h0] at hu
      simp at hu
    · refine ⟨⟨b, j * 2, none⟩, by simp [h], fun t u hu => ?_⟩
      have ht : t < (n - j) * 2 := by
        have := (List.getElem?_eq_some_iff.1 hu).1
        rwa [hlen] at this
      rw [hget t ht] at hu
      rw [Addr.add_lit]
      exact (hc (j * 2 + t) (by omega)).trans hu
  have s1 : Hid (news.length = (n - j) * 2) := hlen
  have s2 : Hid (∀ u ∈ news, u.oneCell' = true) := by
    intro u hu
    rw [hnews] at hu
    obtain ⟨x, _, rfl⟩ := List.mem_map.1 hu
    rfl
  have s3 : Hid (∀ t, t < news.length → (w.drew.cell? ⟨b, 0 + i * 2 + t, none⟩).isSome = true ∧ w.drew.frozen? ⟨b, 0 + i * 2 + t, none⟩ = false) := by
    intro t ht
    rw [hlen] at ht
    rw [Nat.zero_add]
    exact ⟨by show (w.cell? _).isSome = true; rw [hc (i * 2 + t) (by omega)]; rfl, hf (i * 2 + t) (by omega)⟩
  obtain ⟨i0, z, hi0, hz1, hz3, hzc⟩ := pair_info3
  obtain ⟨W1, hW1⟩ : ∃ W1, W1 = w.drew.setCells b (0 + i * 2) news := ⟨_, rfl⟩
  have hzv : ∀ w, (zeroValue 52).run Try.prog w = .ok z w := by
    intro w
    simp [zeroValue, typeInfo, hi0, hz3]
  have hcl : ∀ ty, (Builtin.clear_ #[44] ty #[.slice (some ⟨b, (i + (n - j)) * 2, none⟩) (n - (i + (n - j))) (cap - (i + (n - j)))]).run Try.prog W1 = .ok (.tuple #[]) (W1.setCells b ((i + (n - j)) * 2) (List.replicate ((n - (i + (n - j))) * 2) (.int .i64 0))) := by
    intro ty
    refine run_clear_cells W1 _ _ ty z Try.underlying44 hzv _ b ((i + (n - j)) * 2) _ _ (by omega) (by rw [hzc]; exact zero2 _) (fun v hv => by rw [List.eq_of_mem_replicate hv]; rfl) (fun t ht => ?_) (fun t ht => ?_)
    · rw [List.length_replicate] at ht
      rw [hW1]
      exact World.isSome_setCells b _ _ _ _ (by show (w.cell? _).isSome = true; rw [hc _ (by omega)]; rfl)
    · rw [List.length_replicate] at ht
      rw [hW1, World.frozen?_setCells]
      show w.frozen? _ = false
      exact hf _ (by omega)
  have hW : Hid (W1 = w.drew.setCells b (0 + i * 2) news) := hW1
  have hic : i ≤ cap := by omega
  have hjc : j ≤ cap := by omega
  have HN : Hid (news = (zs.drop (j * 2)).map (Value.int .i64)) := hnews
  clear hW1 hget hnews hlen hc hf
  go_enter Try.func168, Try.ntmps168
  go_wp2_with fail
  go_region_law (refine step_append_room rfl (.tmp 22) (.tmp 25) 44 rfl 52 i0 2 Try.underlying44 hi0 hz1 b 0 i cap (by simp [Act.eval, Act.put]) A (n - j) (cap - j) news (by simp [Act.eval, Act.put, hA]) s1.out hsrc.out s2.out (by omega) s3.out ?_; rw [← hW.out])
  go_wp2
  go_ret
  refine ⟨by rw [show n - (j - i) = i + (n - j) by omega]; rfl, 1, ?_⟩
  show W1.setCells b ((i + (n - j)) * 2) (List.replicate ((n - (i + (n - j))) * 2) (.int .i64 0)) = _
  rw [hW.out, HN.out, show 0 + i * 2 = i * 2 by omega, show n - (i + (n - j)) = j - i by omega]
  rfl
end Go.Proofs
namespace Go.TM
open Go.Proofs Go.RowKit Go.Shelf
set_option linter.unusedVariables false
set_option linter.unusedSimpArgs false
set_option maxRecDepth 100000

/-- Pairs as numbers. -/
def fl2 (zs : List Pr) : List Int := zs.flatMap fun p => [p.1, p.2]
theorem fl2_c (p : Pr) (zs : List Pr) : fl2 (p :: zs) = p.1 :: p.2 :: fl2 zs := rfl
theorem fl2_len : ∀ zs : List Pr, (fl2 zs).length = zs.length * 2
  | [] => rfl
  | p :: zs => by rw [fl2_c, List.length_cons, List.length_cons, List.length_cons, fl2_len zs]; omega
theorem fl2_e : ∀ zs : List Pr, zs.flatMap ePr = (fl2 zs).map eI
  | [] => rfl
  | p :: zs => by rw [fl2_c, List.flatMap_cons, fl2_e zs]; rfl
theorem fl2_app (a b : List Pr) : fl2 (a ++ b) = fl2 a ++ fl2 b := List.flatMap_append
theorem fl2_drop : ∀ (zs : List Pr) (k : Nat), fl2 (zs.drop k) = (fl2 zs).drop (k * 2)
  | zs, 0 => by simp
  | [], k + 1 => by simp [fl2]
  | p :: zs, k + 1 => by
    rw [fl2_c, show (k + 1) * 2 = k * 2 + 1 + 1 from by omega, List.drop_succ_cons, List.drop_succ_cons, List.drop_succ_cons, fl2_drop zs k]
theorem fl2_take : ∀ (zs : List Pr) (k : Nat), fl2 (zs.take k) = (fl2 zs).take (k * 2)
  | zs, 0 => by simp [fl2]
  | [], k + 1 => by simp [fl2]
  | p :: zs, k + 1 => by
    rw [fl2_c, show (k + 1) * 2 = k * 2 + 1 + 1 from by omega, List.take_succ_cons, List.take_succ_cons, List.take_succ_cons, fl2_c, fl2_take zs k]

def mDeleteP : Model := M3 .mv .ro .ro true (cRow true) cI cI fun xs i j => gd (0 ≤ i ∧ i < j ∧ j ≤ xs.length) (eRow true (xs.take i.toNat ++ xs.drop j.toNat), [])

theorem c_deleteP : Contract Try.prog 168 mDeleteP := by
  refine ⟨fun B w L vals args r outs hM hh hs hsz => ?_, fun _ args r outs hM => ?_⟩
  · obtain ⟨x, y, z, rfl⟩ : ∃ x y z, args = [x, y, z] := by
      match args, hM with
      | [x, y, z], _ => exact ⟨x, y, z, rfl⟩
      | [], h => simp [mDeleteP, M3] at h
      | [_], h => simp [mDeleteP, M3] at h
      | [_, _], h => simp [mDeleteP, M3] at h
      | _ :: _ :: _ :: _ :: _, h => simp [mDeleteP, M3] at h
    simp only [mDeleteP] at hM
    rw [M3_fn] at hM
    simp only [Option.bind_eq_some_iff] at hM
    obtain ⟨xs, hx, i, hy, j, hz, hM⟩ := hM
    obtain rfl := (cRow true).ed _ _ hx
    obtain rfl := cI.ed _ _ hy
    obtain rfl := cI.ed _ _ hz
    obtain ⟨⟨hi0, hij, hjl⟩, hM⟩ := gd_some hM
    cases hM
    letI := B
    obtain ⟨u, v1, v2, rfl⟩ : ∃ u v1 v2, vals = #[u, v1, v2] := by
      have hl : vals.toList.length = 3 := by simpa using hsz
      obtain ⟨l, rfl⟩ : ∃ l : List Value, vals = l.toArray := ⟨vals.toList, by simp⟩
      match l, hl with
      | [u, v1, v2], _ => exact ⟨u, v1, v2, rfl⟩
    have r0 : @Rep B lt3 w L (initHp 0 0 [.mv, .ro, .ro] [eRow true xs, eI i, eI j]) (.ref (1, 0) [] 0 0 2 xs.length) u := hs 0
    have r1 : @Rep B lt3 w L (initHp 0 0 [.mv, .ro, .ro] [eRow true xs, eI i, eI j]) (eI i) v1 := hs 1
    have r2 : @Rep B lt3 w L (initHp 0 0 [.mv, .ro, .ro] [eRow true xs, eI i, eI j]) (eI j) v2 := hs 2
    simp only [Rep] at r0 r1 r2
    obtain ⟨rfl, _⟩ := r1
    obtain ⟨rfl, _⟩ := r2
    have hfe := fl2_e xs
    have hfl := fl2_len xs
    have hnode : TM.node (initHp 0 0 [.mv, .ro, .ro] [eRow true xs, eI i, eI j]) (1, 0) [] 0 = some (2, xs.length, xs.flatMap ePr) := rfl
    obtain ⟨_, _, ao, cap, rfl, hlc, hmax, hb⟩ := r0
    have hne : xs.flatMap ePr ≠ [] := by
      intro h0
      have : xs.length * 2 = 0 := by rw [← flatPr_len, h0]; rfl
      omega
    rcases hb (by rw [hnode]; simp) with ⟨rfl, h0, _⟩ | ⟨b, cur, et, rfl, hLb, hheap, hcur⟩
    · omega
    obtain ⟨cur1, et1, cap1, k1, k2, k3, k4, k5, k6⟩ := hh.block (id := (1, 0)) (path := []) (ver := 0) hnode hLb hne
    rw [hheap] at k1
    cases k1
    rw [hfe] at k6
    have hcell : ∀ t, t < xs.length * 2 → cur[t]? = some (.int .i64 ((fl2 xs).getD t 0)) ∧ (Lit.int .i64 ((fl2 xs).getD t 0)).wf = true := by
      intro t ht
      obtain ⟨u', g1, g2, g3⟩ := OwnL.get ((fl2 xs).map eI) 0 cur.toList k6 t (eI ((fl2 xs).getD t 0)) (by rw [List.getElem?_map, List.getElem?_eq_getElem (by omega)]; simp [show t < (fl2 xs).length by omega])
      simp only [Own] at g3
      rw [Array.getElem?_toList] at g1
      exact ⟨by rw [g1, g3.1], g3.2⟩
    have hbl : b < w.heap.size := (Array.getElem?_eq_some_iff.1 hheap).1
    obtain ⟨i', rfl⟩ : ∃ i' : Nat, i = i' := ⟨i.toNat, by omega⟩
    obtain ⟨j', rfl⟩ : ∃ j' : Nat, j = j' := ⟨j.toNat, by omega⟩
    have hcapsz : cur.size = cap * 2 := by omega
    have hraw := delete_rawP b cap i' j' xs.length (fl2 xs) hfl w (fun t ht => by simp only [World.cell?, hheap]; exact (hcell t ht).1) (fun t ht => by simp [World.frozen?, hheap]) hlc hmax (by omega) (by omega)
    refine hraw.mono fun e w' hp => ?_
    obtain ⟨rfl, q, rfl⟩ := hp
    have hh1 : (w.drewN q).heap[b]? = some (.cells cur et (0, 0)) := hheap
    obtain ⟨a1, a2, a3, a4, a5, c1, a6, a7, a8⟩ := setCells_heap b (((fl2 xs).drop (j' * 2)).map (Value.int .i64)) (i' * 2) (w.drewN q) cur et (0, 0) hh1 (by simp; omega)
    obtain ⟨b1, b2, b3, b4, b5, c2, b6, b7, b8⟩ := setCells_heap b (List.replicate ((j' - i') * 2) (.int .i64 0)) ((i' + (xs.length - j')) * 2) _ c1 et (0, 0) a6 (by simp; omega)
    have hyl : (xs.take i' ++ xs.drop j').length = xs.length - (j' - i') := by rw [List.length_append, List.length_take, List.length_drop]; omega
    have hye : fl2 (xs.take i' ++ xs.drop j') = (fl2 xs).take (i' * 2) ++ (fl2 xs).drop (j' * 2) := by rw [fl2_app, fl2_take, fl2_drop]
    have hyn := fl2_len (xs.take i' ++ xs.drop j')
    have hyg : ∀ t, t < (fl2 (xs.take i' ++ xs.drop j')).length → c2[t]? = some (.int .i64 ((fl2 (xs.take i' ++ xs.drop j')).getD t 0)) ∧ (Lit.int .i64 ((fl2 (xs.take i' ++ xs.drop j')).getD t 0)).wf = true := by
      intro t ht
      have hti : ((fl2 xs).take (i' * 2)).length = i' * 2 := by rw [List.length_take]; omega
      rw [b8, if_neg (by rw [List.length_replicate]; omega), a8, hye, getD_app, hti]
      by_cases h1 : t < i' * 2
      · rw [if_neg (by omega), if_pos h1, getD_take h1]
        exact hcell t (by omega)
      · rw [if_pos (by simp; omega), if_neg h1, getD_drop]
        have hcl := hcell (j' * 2 + (t - i' * 2)) (by omega)
        refine ⟨?_, hcl.2⟩
        rw [List.getElem?_map, List.getElem?_drop, List.getElem?_eq_getElem (by omega)]
        simp [show j' * 2 + (t - i' * 2) < (fl2 xs).length by omega]
    simp only [Int.toNat_natCast]
    rw [← hyl]
    refine ⟨_, fun x => if x = b then .at (0, 0) [] else match L x with | .prot => .prot | _ => .free, rfl, ⟨fun id r hr => ?_, fun x x' id p hx hx' => ?_, fun x hx => ?_, fun _ _ _ _ => trivial, fun _ _ _ => trivial, fun x hx => ?_, ?_, ?_, ?_, ?_, hh.use, fun x c e f hx hc => ?_⟩, ?_, fun t x ht => ?_⟩
    · exfalso
      simp [shsOf, mDeleteP, M3, ioHp] at hr
    · have key : ∀ x, (if x = b then Lbl.at (0, 0) [] else match L x with | .prot => .prot | _ => .free) = .at id p → x = b := by
        intro x hx
        by_cases hxb : x = b
        · exact hxb
        · rw [if_neg hxb] at hx
          split at hx <;> cases hx
      rw [key x hx, key x' hx']
    · rw [b4, a4] at hx
      have hxs : w.heap.size ≤ x := hx
      have : x ≠ b := by omega
      simp only [if_neg this]
      rw [hh.free x hxs]
    · have hxb : x ≠ b := by rintro rfl; rw [hx] at hLb; cases hLb
      simp only [if_neg hxb, hx]
      exact ⟨trivial, (b5 x hxb).trans (a5 x hxb)⟩
    · rw [b4, a4]
      exact Nat.le_refl _
    · exact b1.trans a1
    · exact b2.trans a2
    · exact b3.trans a3
    · by_cases hxb : x = b
      · subst hxb
        rw [b6] at hc
        cases hc
        rfl
      · rw [b5 x hxb, a5 x hxb] at hc
        exact hh.frz x c e f hx hc
    · simp only [ResOwn, Res1, Own]
      refine ⟨rfl, .inr ⟨b, c2, et, cap, rfl, by simp, b6, by omega, by omega, hmax, by rw [flatPr_len], OwnL.intro _ _ _ fun t c hc => ?_⟩⟩
      rw [fl2_e, List.getElem?_map, Option.map_eq_some_iff] at hc
      obtain ⟨v, hv, rfl⟩ := hc
      have ht : t < (fl2 (xs.take i' ++ xs.drop j')).length := (List.getElem?_eq_some_iff.1 hv).1
      obtain ⟨g1, g2⟩ := hyg t ht
      have hgv : (fl2 (xs.take i' ++ xs.drop j')).getD t 0 = v := by rw [List.getD_eq_getElem?_getD, hv]; rfl
      rw [hgv] at g1 g2
      refine ⟨.int .i64 v, by rw [Array.getElem?_toList]; exact g1, rfl, ?_⟩
      simp only [Own]
      exact ⟨trivial, g2⟩
    · simp [shsOf, mDeleteP, M3] at ht
  · obtain ⟨x, y, z, rfl⟩ : ∃ x y z, args = [x, y, z] := by
      match args, hM with
      | [x, y, z], _ => exact ⟨x, y, z, rfl⟩
      | [], h => simp [mDeleteP, M3] at h
      | [_], h => simp [mDeleteP, M3] at h
      | [_, _], h => simp [mDeleteP, M3] at h
      | _ :: _ :: _ :: _ :: _, h => simp [mDeleteP, M3] at h
    simp only [mDeleteP] at hM
    rw [M3_fn] at hM
    simp only [Option.bind_eq_some_iff] at hM
    obtain ⟨xs, hx, i, hy, j, hz, hM⟩ := hM
    obtain ⟨_, hM⟩ := gd_some hM
    cases hM
    exact ⟨by simp only [cleanA]; exact clean_row _, rfl⟩
theorem fo_deleteP : FnOk Try.prog 168 := fnOk_of Try.func168 (by kernel_rfl)


/-! ### A pair is left out -/

noncomputable def dropV (xs : List Pr) (k : Int) : List Pr × Bool := if vRow xs = true ∧ k ∈ keysP xs then (xs.take (cntB (keysP xs) k) ++ xs.drop (cntB (keysP xs) k + 1), true) else ([], false)
theorem dropV_f {xs : List Pr} {k : Int} (h : ¬ (vRow xs = true ∧ k ∈ keysP xs)) : dropV xs k = ([], false) := if_neg h
theorem dropV_t {xs : List Pr} {k : Int} (h : vRow xs = true) (hk : k ∈ keysP xs) : dropV xs k = (xs.take (cntB (keysP xs) k) ++ xs.drop (cntB (keysP xs) k + 1), true) := if_pos ⟨h, hk⟩
noncomputable def mDropPair : Model := M2 .ro .ro true (cRow false) cI fun xs k => gd (xs.length ≤ 549755813888) (.tup [eRow true (dropV xs k).1, .b (dropV xs k).2], [])
noncomputable def dfrV (xs : List Pr) (k : Int) : List Pr × Bool := if thV xs k = true then (xs.take (cntB (keysP xs) k) ++ xs.drop (cntB (keysP xs) k + 1), true) else (xs, false)
noncomputable def mDropFrom : Model := M2 .ro .ro true (cRow false) cI fun xs k => gd (vk (keysP xs) = true ∧ xs.length ≤ 549755813888) (.tup [eRow true (dfrV xs k).1, .b (dfrV xs k).2], [])

theorem does_DropPairS {G : Nat → Option FM} (h_validRow : G 69 = some (.model mValidRow)) (h_keysOf : G 104 = some (.model mKeysOf)) (h_isIn : G 103 = some (.model mIsIn)) (h_below : G 147 = some (.model mBelow)) (h_copyRow : G 152 = some (.model mCopyRow)) : Does T G (fun id => match id with  | _ => []) Try.f106 mDropPair := by
  refine does2 (rs := [.tmp 4, .tmp 5]) rfl rfl fun xs k ro h => ?_
  obtain ⟨hs, rfl⟩ := gd_some h
  refine ⟨fun _ => ⟨by simp [cleanA, cleanL, clean_row], rfl⟩, ?_⟩
  have hkl : (keysP xs).length = xs.length := by simp [keysP]
  cases hv : vRow xs
  · rw [dropV_f (by rw [hv]; simp)]
    simp (config := {maxSteps := 1000000}) (disch := omega) only [go_sem, ↓reduceIte, Nat.reduceEqDiff, Nat.reduceAdd, Nat.reduceMul, Nat.reduceSub, Nat.reduceLeDiff, Nat.reduceLT, Int.reduceToNat, Int.reduceLE, Int.reduceLT, Int.reduceNeg, h_validRow, mValidRow, h_keysOf, mKeysOf, h_isIn, mIsIn, h_below, mBelow, h_copyRow, mCopyRow, hv]
    rfl
  · by_cases hm : k ∈ keysP xs
    · rw [dropV_t hv hm]
      obtain ⟨p1, p2, p3, p4⟩ := place_ok (k := k) (vRow_vk hv).1
      have hlt := p4 hm
      have e1 : decide (k ∈ keysP xs) = true := decide_eq_true hm
      have hl : (xs.take (cntB (keysP xs) k)).length = cntB (keysP xs) k := by rw [List.length_take]; omega
      simp (config := {maxSteps := 1000000}) (disch := omega) only [go_sem, ↓reduceIte, Nat.reduceEqDiff, Nat.reduceAdd, Nat.reduceMul, Nat.reduceSub, Nat.reduceLeDiff, Nat.reduceLT, Int.reduceToNat, Int.reduceLE, Int.reduceLT, Int.reduceNeg, h_validRow, mValidRow, h_keysOf, mKeysOf, h_isIn, mIsIn, h_below, mBelow, h_copyRow, mCopyRow, hv, e1, Nat.sub_zero, sub_zero, List.take_length, toNat_k1, app_PP, sub_restP, hl]
      exact row_eq2 (by rw [List.length_append, List.length_drop, hl])
    · rw [dropV_f (fun h => hm h.2)]
      have e1 : decide (k ∈ keysP xs) = false := decide_eq_false hm
      simp (config := {maxSteps := 1000000}) (disch := omega) only [go_sem, ↓reduceIte, Nat.reduceEqDiff, Nat.reduceAdd, Nat.reduceMul, Nat.reduceSub, Nat.reduceLeDiff, Nat.reduceLT, Int.reduceToNat, Int.reduceLE, Int.reduceLT, Int.reduceNeg, h_validRow, mValidRow, h_keysOf, mKeysOf, h_isIn, mIsIn, h_below, mBelow, h_copyRow, mCopyRow, hv, e1]
      rfl
theorem fo_DropPairS : FnOk Try.prog 106 := fnOk_of Try.func106 (by kernel_rfl)
theorem c_DropPairS : Contract Try.prog 106 mDropPair :=
  contract_of_does (DT := fun id => match id with  | _ => []) Try.checked.mixed tabOk (gok_model fo_validRow c_validRow (gok_model fo_keysOf c_keysOf (gok_model fo_isIn c_isIn (gok_model fo_below c_below (gok_model fo_copyRow c_copyRow gok_nil))))) Try.func106 rfl (by kernel_rfl) (does_DropPairS rfl rfl rfl rfl rfl)


theorem does_dropFromRow {G : Nat → Option FM} (h_placeInRow : G 129 = some (.model mPlace)) (h_cloneP : G 130 = some (.model mCopyRow)) (h_deleteP : G 168 = some (.model mDeleteP)) : Does T G (fun id => match id with  | _ => []) Try.f154 mDropFrom := by
  refine does2 (rs := [.tmp 4, .tmp 5]) rfl rfl fun xs k ro h => ?_
  obtain ⟨⟨hv, hs⟩, rfl⟩ := gd_some h
  refine ⟨fun _ => ⟨by simp [cleanA, cleanL, clean_row], rfl⟩, ?_⟩
  obtain ⟨p1, p2, p3, p4⟩ := place_ok (k := k) hv
  cases ht : thV xs k
  · rw [show dfrV xs k = (xs, false) from if_neg (by rw [ht]; simp)]
    simp (config := {maxSteps := 1000000}) (disch := omega) only [go_sem, ↓reduceIte, Nat.reduceEqDiff, Nat.reduceAdd, Nat.reduceMul, Nat.reduceSub, Nat.reduceLeDiff, Nat.reduceLT, Int.reduceToNat, Int.reduceLE, Int.reduceLT, Int.reduceNeg, h_placeInRow, mPlace, h_cloneP, mCopyRow, h_deleteP, mDeleteP, p1, ht]
  · rw [show dfrV xs k = (xs.take (cntB (keysP xs) k) ++ xs.drop (cntB (keysP xs) k + 1), true) from if_pos ht]
    have hlt := p4 (p3.1 ht)
    simp (config := {maxSteps := 1000000}) (disch := omega) only [go_sem, ↓reduceIte, Nat.reduceEqDiff, Nat.reduceAdd, Nat.reduceMul, Nat.reduceSub, Nat.reduceLeDiff, Nat.reduceLT, Int.reduceToNat, Int.reduceLE, Int.reduceLT, Int.reduceNeg, h_placeInRow, mPlace, h_cloneP, mCopyRow, h_deleteP, mDeleteP, p1, ht, toNat_k1]
theorem fo_dropFromRow : FnOk Try.prog 154 := fnOk_of Try.func154 (by kernel_rfl)
theorem c_dropFromRow : Contract Try.prog 154 mDropFrom :=
  contract_of_does (DT := fun id => match id with  | _ => []) Try.checked.mixed tabOk (gok_model fo_placeInRow c_placeInRow (gok_model fo_cloneP c_cloneP (gok_model fo_deleteP c_deleteP gok_nil))) Try.func154 rfl (by kernel_rfl) (does_dropFromRow rfl rfl rfl)


theorem does_DropPairI {G : Nat → Option FM} (h_ValidRowI : G 148 = some (.model mValidRow)) (h_dropFromRow : G 154 = some (.model mDropFrom)) : Does T G (fun id => match id with  | _ => []) Try.f112 mDropPair := by
  refine does2 (rs := [.tmp 4, .tmp 5]) rfl rfl fun xs k ro h => ?_
  obtain ⟨hs, rfl⟩ := gd_some h
  refine ⟨fun _ => ⟨by simp [cleanA, cleanL, clean_row], rfl⟩, ?_⟩
  cases hv : vRow xs
  · rw [dropV_f (by rw [hv]; simp)]
    simp (config := {maxSteps := 1000000}) (disch := omega) only [go_sem, ↓reduceIte, Nat.reduceEqDiff, Nat.reduceAdd, Nat.reduceMul, Nat.reduceSub, Nat.reduceLeDiff, Nat.reduceLT, Int.reduceToNat, Int.reduceLE, Int.reduceLT, Int.reduceNeg, h_ValidRowI, mValidRow, h_dropFromRow, mDropFrom, hv]
    rfl
  · have hvk := (vRow_vk hv).1
    obtain ⟨p1, p2, p3, p4⟩ := place_ok (k := k) hvk
    cases ht : thV xs k
    · rw [dropV_f (fun h => by rw [p3.2 h.2] at ht; cases ht)]
      have e : dfrV xs k = (xs, false) := if_neg (by rw [ht]; simp)
      simp (config := {maxSteps := 1000000}) (disch := omega) only [go_sem, ↓reduceIte, Nat.reduceEqDiff, Nat.reduceAdd, Nat.reduceMul, Nat.reduceSub, Nat.reduceLeDiff, Nat.reduceLT, Int.reduceToNat, Int.reduceLE, Int.reduceLT, Int.reduceNeg, h_ValidRowI, mValidRow, h_dropFromRow, mDropFrom, hv, hvk, e]
      rfl
    · rw [dropV_t hv (p3.1 ht)]
      have e : dfrV xs k = (xs.take (cntB (keysP xs) k) ++ xs.drop (cntB (keysP xs) k + 1), true) := if_pos ht
      simp (config := {maxSteps := 1000000}) (disch := omega) only [go_sem, ↓reduceIte, Nat.reduceEqDiff, Nat.reduceAdd, Nat.reduceMul, Nat.reduceSub, Nat.reduceLeDiff, Nat.reduceLT, Int.reduceToNat, Int.reduceLE, Int.reduceLT, Int.reduceNeg, h_ValidRowI, mValidRow, h_dropFromRow, mDropFrom, hv, hvk, e]
theorem fo_DropPairI : FnOk Try.prog 112 := fnOk_of Try.func112 (by kernel_rfl)
theorem c_DropPairI : Contract Try.prog 112 mDropPair :=
  contract_of_does (DT := fun id => match id with  | _ => []) Try.checked.mixed tabOk (gok_model fo_ValidRowI c_ValidRowI (gok_model fo_dropFromRow c_dropFromRow gok_nil)) Try.func112 rfl (by kernel_rfl) (does_DropPairI rfl rfl)


def cutV (x : Inn) (p : Nat) : Inn := ⟨x.keys.take (p - 1) ++ x.keys.drop p, x.kids.take p ++ x.kids.drop (p + 1)⟩
def mCutAt : Model := M2 .ro .ro true (cInn false) cI fun x p => gd (1 ≤ p ∧ p ≤ x.keys.length ∧ x.kids.length = x.keys.length + 1 ∧ x.keys.length ≤ 34359738368) (eInn true (cutV x p.toNat), [])

theorem does_cutKidS {G : Nat → Option FM} (h_copyInts : G 140 = some (.model mCopyInts)) : Does T G (fun id => match id with | 1 => [(5, 6), (5, 7)] | 2 => [(4, 5), (4, 6)] | _ => []) Try.f153 mCutAt := by
  refine does2 (rs := [.cell 4 93]) rfl rfl fun x p ro h => ?_
  obtain ⟨⟨h1, h2, h3, h4⟩, rfl⟩ := gd_some h
  refine ⟨fun _ => ⟨by simp [cleanA, cleanL, clean_ints], rfl⟩, ?_⟩
  obtain ⟨n, rfl⟩ : ∃ n : Nat, p = n + 1 := ⟨p.toNat - 1, by omega⟩
  have l1 : (x.keys.take n).length = n := by rw [List.length_take]; omega
  have l2 : (x.kids.take (n + 1)).length = n + 1 := by rw [List.length_take]; omega
  have e1 : ((n : Int) + 1 - 1).toNat = n := by omega
  have e2 : ((n : Int) + 1).toNat = n + 1 := by omega
  have e3 : ((n : Int) + 1 + 1).toNat = n + 1 + 1 := by omega
  simp (config := {maxSteps := 1000000}) (disch := omega) only [go_sem, ↓reduceIte, Nat.reduceEqDiff, Nat.reduceAdd, Nat.reduceMul, Nat.reduceSub, Nat.reduceLeDiff, Nat.reduceLT, Int.reduceToNat, Int.reduceLE, Int.reduceLT, Int.reduceNeg, h_copyInts, mCopyInts, drP_n, drP_c, logAt_n, logAt_c, disP_n, disP_c, notIn_n, notIn_c, e1, e2, e3, Nat.sub_zero, sub_zero, sub_rest, l1, l2, app_II]
  try simp only [cutV, eInn, eIs, List.length_append, l1, l2, List.length_drop, Nat.add_sub_cancel, e2]
theorem fo_cutKidS : FnOk Try.prog 153 := fnOk_of Try.func153 (by kernel_rfl)
theorem c_cutKidS : Contract Try.prog 153 mCutAt :=
  contract_of_does (DT := fun id => match id with | 1 => [(5, 6), (5, 7)] | 2 => [(4, 5), (4, 6)] | _ => []) Try.checked.mixed tabOk (gok_model fo_copyInts c_copyInts gok_nil) Try.func153 rfl (by kernel_rfl) (does_cutKidS rfl)


theorem does_cutAt {G : Nat → Option FM} (h_cloneI : G 90 = some (.model mCopyInts)) (h_deleteI : G 171 = some (.model mDeleteI)) : Does T G (fun id => match id with | 1 => [(2, 7), (6, 7), (2, 8), (6, 8)] | _ => []) Try.f157 mCutAt := by
  refine does2 (rs := [.cell 4 93]) rfl rfl fun x p ro h => ?_
  obtain ⟨⟨h1, h2, h3, h4⟩, rfl⟩ := gd_some h
  refine ⟨fun _ => ⟨by simp [cleanA, cleanL, clean_ints], rfl⟩, ?_⟩
  obtain ⟨n, rfl⟩ : ∃ n : Nat, p = n + 1 := ⟨p.toNat - 1, by omega⟩
  have e1 : ((n : Int) + 1 - 1).toNat = n := by omega
  have e2 : ((n : Int) + 1).toNat = n + 1 := by omega
  have e3 : ((n : Int) + 1 + 1).toNat = n + 1 + 1 := by omega
  simp (config := {maxSteps := 1000000}) (disch := omega) only [go_sem, ↓reduceIte, Nat.reduceEqDiff, Nat.reduceAdd, Nat.reduceMul, Nat.reduceSub, Nat.reduceLeDiff, Nat.reduceLT, Int.reduceToNat, Int.reduceLE, Int.reduceLT, Int.reduceNeg, h_cloneI, mCopyInts, h_deleteI, mDeleteI, drP_n, drP_c, logAt_n, logAt_c, disP_n, disP_c, notIn_n, notIn_c, e1, e2, e3]
  try simp only [cutV, eInn, eIs, e2, Nat.add_sub_cancel]
theorem fo_cutAt : FnOk Try.prog 157 := fnOk_of Try.func157 (by kernel_rfl)
theorem c_cutAt : Contract Try.prog 157 mCutAt :=
  contract_of_does (DT := fun id => match id with | 1 => [(2, 7), (6, 7), (2, 8), (6, 8)] | _ => []) Try.checked.mixed tabOk (gok_model fo_cloneI c_cloneI (gok_model fo_deleteI c_deleteI gok_nil)) Try.func157 rfl (by kernel_rfl) (does_cutAt rfl rfl)


end Go.TM
