/- Contracts, 50: do two trees have the same pairs. -/
import Derived.Test.YtbdiacopffnnbaaF49
namespace Go.TM
open Go.Proofs Go.RowKit Go.Shelf
set_option linter.unusedVariables false
set_option linter.unusedSimpArgs false
set_option maxRecDepth 100000

/-- A row that is read only: its cells. -/
theorem imm_row_cell {w : World} {Q : Nat → Prop} {xs : List Pr} {u : Value} (h : Imm w Q (eRow false xs) u) : ∃ ao cap, u = .slice ao xs.length cap ∧ xs.length ≤ cap ∧
    (xs = [] ∨ ∃ a : Addr, ao = some a ∧ a.spot = none ∧ Q a.block ∧ ∀ i, i < xs.length → w.cell? ⟨a.block, a.off + i * 2, none⟩ = some (.int .i64 (xs.getD i default).1) ∧ w.cell? ⟨a.block, a.off + i * 2 + 1, none⟩ = some (.int .i64 (xs.getD i default).2)) := by
  simp only [Imm] at h
  obtain ⟨ao, cap, h1, h2, h3, h4, h5⟩ := h
  refine ⟨ao, cap, h1, h2, ?_⟩
  rcases h5 with h5 | ⟨a, h5, h6, h7, h8⟩
  · left
    have := congrArg List.length h5
    rw [flatPr_len] at this
    simp at this
    exact List.length_eq_zero_iff.1 (by omega)
  · refine .inr ⟨a, h5, h6, h7, fun i hi => ?_⟩
    have key : ∀ (ys : List Pr) (k : Nat), ImmL w Q (ys.flatMap ePr) a.block k → ∀ i, i < ys.length → w.cell? ⟨a.block, k + i * 2, none⟩ = some (.int .i64 (ys.getD i default).1) ∧ w.cell? ⟨a.block, k + i * 2 + 1, none⟩ = some (.int .i64 (ys.getD i default).2) := by
      intro ys
      induction ys with
      | nil => intro k _ i hi; simp at hi
      | cons y ys ih =>
        intro k hk i hi
        simp only [List.flatMap_cons, ePr, List.cons_append, List.nil_append, ImmL, Imm] at hk
        obtain ⟨⟨v1, g1, g2, g3, g4⟩, ⟨v2, f1, f2, f3, f4⟩, hk⟩ := hk
        cases i with
        | zero =>
          rw [g3] at g1
          rw [f3] at f1
          exact ⟨by simpa using g1, by simpa using f1⟩
        | succ i =>
          have := ih (k + 1 + 1) hk i (by simpa using hi)
          rw [show k + (i + 1) * 2 = k + 1 + 1 + i * 2 from by omega]
          simpa using this
    exact key xs a.off h8 i hi


set_option maxHeartbeats 4000000 in
theorem eqg_raw (w : World) (xs ys : List Pr) (ao bo : Option Addr) (ca cb : Nat) (hl : xs.length ≤ 1099511627776) (hl2 : ys.length ≤ 1099511627776)
    (hx : xs = [] ∨ ∃ a : Addr, ao = some a ∧ a.spot = none ∧ ∀ i, i < xs.length → w.cell? ⟨a.block, a.off + i * 2, none⟩ = some (.int .i64 (xs.getD i default).1) ∧ w.cell? ⟨a.block, a.off + i * 2 + 1, none⟩ = some (.int .i64 (xs.getD i default).2))
    (hy : ys = [] ∨ ∃ a : Addr, bo = some a ∧ a.spot = none ∧ ∀ i, i < ys.length → w.cell? ⟨a.block, a.off + i * 2, none⟩ = some (.int .i64 (ys.getD i default).1) ∧ w.cell? ⟨a.block, a.off + i * 2 + 1, none⟩ = some (.int .i64 (ys.getD i default).2)) :
    Calls Try.prog 155 #[.slice ao xs.length ca, .slice bo ys.length cb] w fun e w' => e = .returned (.bool (decide (xs = ys))) ∧ ∃ q, w' = w.drewN q := by
  generalize hr : decide (xs = ys) = r
  have HR : Aside (decide (xs = ys) = r) := hr
  clear hr
  by_cases hne : xs.length = ys.length
  · have HX : Aside _ := hx
    have HY : Aside _ := hy
    clear hx hy
    go_enter Try.func155, Try.ntmps155
    go_wp2
    go_loopg [13] xs.length (fun kx s5 wr => ∃ (k q : Nat), s5 = .int .i64 k ∧ k ≤ xs.length ∧ xs.length - k ≤ kx ∧ wr = w.drewN q ∧ Aside (∀ t, t < k → xs.getD t default = ys.getD t default))
    case atStart => exact ⟨0, 0, rfl, Nat.zero_le _, by omega, rfl, (fun t ht => absurd ht (Nat.not_lt_zero _) : ∀ t, t < 0 → xs.getD t default = ys.getD t default)⟩
    case round =>
      obtain ⟨k, q, rfl, hk, hg, rfl, I⟩ := hrel
      by_cases hlt : k < xs.length
      · have hkz : (k : Int) < (xs.length : Int) := by omega
        have hkz2 : (k : Int) < (ys.length : Int) := by omega
        rcases HX.out with h0 | ⟨⟨ba, oa, sa⟩, rfl, hsa, hca⟩
        · rw [h0] at hlt; simp at hlt
        rcases HY.out with h0 | ⟨⟨bb, ob, sb⟩, rfl, hsb, hcb⟩
        · rw [h0] at hne; simp at hne; rw [hne] at hlt; simp at hlt
        dsimp only at hsa hca hsb hcb
        subst hsa
        subst hsb
        obtain ⟨c1, c2⟩ := hca k hlt
        obtain ⟨c3, c4⟩ := hcb k (by omega)
        clear hca hcb
        by_cases e : xs.getD k default = ys.getD k default
        · have I2 : Aside (∀ t, t < k + 1 → xs.getD t default = ys.getD t default) := fun t ht => by
            by_cases htk : t = k
            · rw [htk]; exact e
            · exact I.out t (by omega)
          rw [e] at c1 c2
          clear e
          generalize (ys.getD k default).1 = y1 at c1 c3
          generalize (ys.getD k default).2 = y2 at c2 c4
          go_wp2
          go_region
          all_goals go_wp2
          all_goals go_roundg (xs.length - (k + 1))
          case measure => omega
          case rel => exact ⟨k + 1, q + 1, rfl, by omega, Nat.le_refl _, rfl, I2⟩
        · obtain ⟨x1, x2, hxe⟩ : ∃ x1 x2, xs.getD k default = (x1, x2) := ⟨_, _, rfl⟩
          obtain ⟨y1, y2, hye⟩ : ∃ y1 y2, ys.getD k default = (y1, y2) := ⟨_, _, rfl⟩
          have hne2 : Aside (xs ≠ ys) := fun h => e (by rw [h])
          rw [hxe] at c1 c2
          rw [hye] at c3 c4
          rw [hxe, hye] at e
          dsimp only at c1 c2 c3 c4
          clear hxe hye
          by_cases e1 : x1 = y1
          · have e2 : ¬ x2 = y2 := fun h => e (by rw [e1, h])
            subst e1
            clear e
            go_wp2
            go_region
            all_goals go_wp2
            all_goals go_ret
            all_goals exact ⟨by rw [← HR.out, decide_eq_false hne2.out]; rfl, q + 1, rfl⟩
          · clear e
            go_wp2
            go_region
            all_goals go_wp2
            all_goals go_ret
            all_goals exact ⟨by rw [← HR.out, decide_eq_false hne2.out]; rfl, q + 1, rfl⟩
      · have hke : k = xs.length := by omega
        have heq : Aside (xs = ys) := list_ext (d := default) hne fun i hi => I.out i (by omega)
        go_wp2
        go_ret
        exact ⟨by rw [← HR.out, decide_eq_true heq.out]; rfl, q, rfl⟩
  · have hne2 : Aside (xs ≠ ys) := fun h => hne (by rw [h])
    have hnz : ¬ (xs.length : Int) = (ys.length : Int) := by omega
    clear hx hy
    go_enter Try.func155, Try.ntmps155
    go_wp2
    go_ret
    exact ⟨by rw [← HR.out, decide_eq_false hne2.out]; rfl, 0, rfl⟩

set_option maxHeartbeats 4000000 in
theorem eqs_raw (w : World) (xs ys : List Pr) (ao bo : Option Addr) (ca cb : Nat) (hl : xs.length ≤ 1099511627776) (hl2 : ys.length ≤ 1099511627776)
    (hx : xs = [] ∨ ∃ a : Addr, ao = some a ∧ a.spot = none ∧ ∀ i, i < xs.length → w.cell? ⟨a.block, a.off + i * 2, none⟩ = some (.int .i64 (xs.getD i default).1) ∧ w.cell? ⟨a.block, a.off + i * 2 + 1, none⟩ = some (.int .i64 (xs.getD i default).2))
    (hy : ys = [] ∨ ∃ a : Addr, bo = some a ∧ a.spot = none ∧ ∀ i, i < ys.length → w.cell? ⟨a.block, a.off + i * 2, none⟩ = some (.int .i64 (ys.getD i default).1) ∧ w.cell? ⟨a.block, a.off + i * 2 + 1, none⟩ = some (.int .i64 (ys.getD i default).2)) :
    Calls Try.prog 154 #[.slice ao xs.length ca, .slice bo ys.length cb] w fun e w' => e = .returned (.bool (decide (xs = ys))) ∧ ∃ q, w' = w.drewN q := by
  generalize hr : decide (xs = ys) = r
  have HR : Aside (decide (xs = ys) = r) := hr
  clear hr
  have HX : Aside _ := hx
  have HY : Aside _ := hy
  clear hx hy
  go_enter Try.func154, Try.ntmps154
  go_wp2
  go_loopg [5] xs.length (fun kx s5 wr => ∃ (k q : Nat), s5 = .int .i64 k ∧ k ≤ xs.length ∧ k ≤ ys.length ∧ xs.length - k ≤ kx ∧ wr = w.drewN q ∧ Aside (∀ t, t < k → xs.getD t default = ys.getD t default))
  case atStart => exact ⟨0, 0, rfl, Nat.zero_le _, Nat.zero_le _, by omega, rfl, (fun t ht => absurd ht (Nat.not_lt_zero _) : ∀ t, t < 0 → xs.getD t default = ys.getD t default)⟩
  case round =>
    obtain ⟨k, q, rfl, hk, hk2, hg, rfl, I⟩ := hrel
    by_cases hlt : k < xs.length
    · have hkz : (k : Int) < (xs.length : Int) := by omega
      by_cases hlt2 : k < ys.length
      · have hkz2 : (k : Int) < (ys.length : Int) := by omega
        rcases HX.out with h0 | ⟨⟨ba, oa, sa⟩, rfl, hsa, hca⟩
        · rw [h0] at hlt; simp at hlt
        rcases HY.out with h0 | ⟨⟨bb, ob, sb⟩, rfl, hsb, hcb⟩
        · rw [h0] at hlt2; simp at hlt2
        dsimp only at hsa hca hsb hcb
        subst hsa
        subst hsb
        obtain ⟨c1, c2⟩ := hca k hlt
        obtain ⟨c3, c4⟩ := hcb k hlt2
        clear hca hcb
        by_cases e : xs.getD k default = ys.getD k default
        · have I2 : Aside (∀ t, t < k + 1 → xs.getD t default = ys.getD t default) := fun t ht => by
            by_cases htk : t = k
            · rw [htk]; exact e
            · exact I.out t (by omega)
          rw [e] at c1 c2
          clear e
          generalize (ys.getD k default).1 = y1 at c1 c3
          generalize (ys.getD k default).2 = y2 at c2 c4
          go_wp2
          go_region
          all_goals go_wp2
          all_goals go_roundg (xs.length - (k + 1))
          case measure => omega
          case rel => exact ⟨k + 1, q + 1, rfl, by omega, by omega, Nat.le_refl _, rfl, I2⟩
        · obtain ⟨x1, x2, hxe⟩ : ∃ x1 x2, xs.getD k default = (x1, x2) := ⟨_, _, rfl⟩
          obtain ⟨y1, y2, hye⟩ : ∃ y1 y2, ys.getD k default = (y1, y2) := ⟨_, _, rfl⟩
          have hne2 : Aside (xs ≠ ys) := fun h => e (by rw [h])
          rw [hxe] at c1 c2
          rw [hye] at c3 c4
          rw [hxe, hye] at e
          dsimp only at c1 c2 c3 c4
          clear hxe hye
          by_cases e1 : x1 = y1
          · have e2 : ¬ x2 = y2 := fun h => e (by rw [e1, h])
            subst e1
            clear e
            go_wp2
            go_region
            all_goals go_wp2
            all_goals go_ret
            all_goals exact ⟨by rw [← HR.out, decide_eq_false hne2.out]; rfl, q + 1, rfl⟩
          · clear e
            go_wp2
            go_region
            all_goals go_wp2
            all_goals go_ret
            all_goals exact ⟨by rw [← HR.out, decide_eq_false hne2.out]; rfl, q + 1, rfl⟩
      · have hkz2 : ¬ (k : Int) < (ys.length : Int) := by omega
        have hnz : ¬ (xs.length : Int) = (ys.length : Int) := by omega
        have hne2 : Aside (xs ≠ ys) := fun h => hnz (by rw [h])
        have hbq : Aside (((xs.length : Int) == (ys.length : Int)) = false) := beq_eq_false_iff_ne.2 hnz
        go_wp2
        go_ret
        exact ⟨by rw [← HR.out, decide_eq_false hne2.out]; show Ending.returned (Value.bool ((xs.length : Int) == (ys.length : Int))) = _; rw [hbq.out], q, rfl⟩
    · have hkz : ¬ (k : Int) < (xs.length : Int) := by omega
      have hke : k = xs.length := by omega
      by_cases hne : xs.length = ys.length
      · have heq : Aside (xs = ys) := list_ext (d := default) hne fun i hi => I.out i (by omega)
        have hnz : (xs.length : Int) = (ys.length : Int) := by omega
        go_wp2
        go_ret
        exact ⟨by rw [← HR.out, decide_eq_true heq.out]; rfl, q, rfl⟩
      · have hnz : ¬ (xs.length : Int) = (ys.length : Int) := by omega
        have hne2 : Aside (xs ≠ ys) := fun h => hne (by rw [h])
        have hbq : Aside (((xs.length : Int) == (ys.length : Int)) = false) := beq_eq_false_iff_ne.2 hnz
        go_wp2
        go_ret
        exact ⟨by rw [← HR.out, decide_eq_false hne2.out]; show Ending.returned (Value.bool ((xs.length : Int) == (ys.length : Int))) = _; rw [hbq.out], q, rfl⟩

/-- From a walk by hand to the contract: two slices, read only; a truth value is given. -/
theorem contract_of_keptB {P : Program} {f : Nat} {α β : Type} {a : Cod α} {b : Cod β} {C : α → β → Prop} {g : α → β → Bool} {F : α → β → Out1} (ha : ∀ x, ∃ sz len cs, a.e x = .s false sz len cs) (hb : ∀ x, ∃ sz len cs, b.e x = .s false sz len cs)
    (hF : ∀ x y r outs, F x y = some (r, outs) → C x y ∧ r = .b (g x y) ∧ outs = [])
    (h : ∀ (w : World) (Q : Nat → Prop) (x : α) (y : β) (u v : Value), C x y → (∀ b, Q b → b < w.heap.size) → Imm w Q (a.e x) u → Imm w Q (b.e y) v → Calls P f #[u, v] w fun e w' => e = .returned (.bool (g x y)) ∧ Kept w w') :
    Contract P f (M2 .ro .ro true a b F) := by
  have hsplit : ∀ args r outs, (M2 .ro .ro true a b F).fn args = some (r, outs) → ∃ x y, args = [a.e x, b.e y] ∧ C x y ∧ r = .b (g x y) ∧ outs = [] := by
    intro args r outs hM
    obtain ⟨x, y, rfl⟩ : ∃ x y, args = [x, y] := by
      match args, hM with
      | [x, y], _ => exact ⟨x, y, rfl⟩
      | [], h => simp [M2] at h
      | [_], h => simp [M2] at h
      | _ :: _ :: _ :: _, h => simp [M2] at h
    rw [M2_fn] at hM
    simp only [Option.bind_eq_some_iff] at hM
    obtain ⟨xs, hx, k, hy, hM⟩ := hM
    exact ⟨xs, k, by rw [a.ed _ _ hx, b.ed _ _ hy], hF _ _ _ _ hM⟩
  refine ⟨fun B w L vals args r outs hM hh hs hsz => ?_, fun _ args r outs hM => ?_⟩
  · obtain ⟨x, y, rfl, hC, rfl, rfl⟩ := hsplit args r outs hM
    letI := B
    obtain ⟨u, v, rfl⟩ : ∃ u v, vals = #[u, v] := by
      have hl : vals.toList.length = 2 := by simpa using hsz
      obtain ⟨l, rfl⟩ : ∃ l : List Value, vals = l.toArray := ⟨vals.toList, by simp⟩
      match l, hl with
      | [u, v], _ => exact ⟨u, v, rfl⟩
    have h0 : @Rep B lt3 w L (initHp 0 0 [.ro, .ro] [a.e x, b.e y]) (immV (a.e x)) u := hs 0
    have h1 : @Rep B lt3 w L (initHp 0 0 [.ro, .ro] [a.e x, b.e y]) (immV (b.e y)) v := hs 1
    obtain ⟨s1, l1, c1, e1⟩ := ha x
    obtain ⟨s2, l2, c2, e2⟩ := hb y
    have h0' : Imm w (isProt L) (a.e x) u := by rw [e1] at h0 ⊢; simpa only [immV, imm1, Rep] using h0
    have h1' : Imm w (isProt L) (b.e y) v := by rw [e2] at h1 ⊢; simpa only [immV, imm1, Rep] using h1
    have hQ : ∀ b, isProt L b → b < w.heap.size := by
      intro b hb
      by_cases hlt : b < w.heap.size
      · exact hlt
      · have := hh.free b (by omega)
        have h1 := hb.1
        rw [this] at h1
        cases h1
    refine (h w (isProt L) x y u v hC hQ h0' h1').mono fun e w' hp => ?_
    obtain ⟨rfl, hkept⟩ := hp
    refine ⟨_, fun b => if b < w.heap.size then L b else .free, rfl, ?_, ?_, fun t b ht => ?_⟩
    · refine ⟨fun id r hr => ?_, fun b b' id p hb hb' => ?_, fun b hb => ?_, fun _ _ _ _ => trivial, fun _ _ _ => trivial, fun b hb => ?_, hkept.size, hkept.os, hkept.tape, hkept.output, hh.use, fun b c e f hb hc => ?_⟩
      · exfalso
        simp [shsOf, M2, ioHp] at hr
      · split at hb
        · split at hb'
          · exact hh.inj b b' id p hb hb'
          · cases hb'
        · cases hb
      · split
        · exact hh.free b (Nat.le_trans hkept.size hb)
        · rfl
      · have hlt : b < w.heap.size := by
          by_cases hlt : b < w.heap.size
          · exact hlt
          · rw [hh.free b (by omega)] at hb; cases hb
        exact ⟨by rw [if_pos hlt]; exact hb, hkept.old b hlt⟩
      · by_cases hlt : b < w.heap.size
        · rw [hkept.old b hlt] at hc
          exact hh.frz b c e f hb hc
        · exact hkept.fresh b c e f (by omega) hc
    · simp only [ResOwn, Res1, Own]
      exact ⟨by first | trivial | rfl, by first | rfl | trivial⟩
    · simp [shsOf, M2] at ht
  · obtain ⟨x, y, rfl, hC, rfl, rfl⟩ := hsplit args r outs hM
    exact ⟨rfl, rfl⟩



set_option maxHeartbeats 4000000
noncomputable def sameV (a b : Tr) : Bool := vTr a && (vTr b && decide (prV a = prV b))
noncomputable def mSameTree : Model := M2 .ro .ro true (cTr false) (cTr false) fun a b => gd (smT a.pages = true ∧ smT b.pages = true) (.b (sameV a b), [])



def mLawTrees : Model := M2 .ro .ro true (cTr false) (cTr false) fun a b => gd ((a.pages.length ≤ 9223372036854775807 ∧ a.pages.all bigP = true) ∧ b.pages.length ≤ 9223372036854775807 ∧ b.pages.all bigP = true) (.b true, [])
theorem szPs_bd {ps : List Pg} {n z : Int} (h : szPs ps n = z) (h0 : ¬ z < 0) (h1 : n ≤ 1048576) : 0 ≤ z ∧ z ≤ 1048576 ∧ smT ps = true := by
  unfold szPs at h
  split at h
  · omega
  · exact ⟨by omega, by omega, smT_iff.2 (by omega)⟩

theorem fn_FnExactSameTree (t : Tr) (h : TrW t) (u : Tr) (hu : TrW u) : mLawTrees.fn [eTr false t, eTr false u] = some (.b true, []) := by
  obtain ⟨h1, h2⟩ := bigP_of h
  obtain ⟨h3, h4⟩ := bigP_of hu
  simp (config := {maxSteps := 1000000}) (disch := omega) only [go_sem, ↓reduceIte, Nat.reduceEqDiff, Nat.reduceAdd, Nat.reduceMul, Nat.reduceSub, Nat.reduceLeDiff, Nat.reduceLT, Int.reduceToNat, Int.reduceLE, Int.reduceLT, Int.reduceNeg, mLawTrees, h2, h4]
end Go.TM
