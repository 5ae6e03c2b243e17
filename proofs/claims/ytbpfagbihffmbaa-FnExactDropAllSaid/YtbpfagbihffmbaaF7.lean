/- Contracts, 7: sort.Search; the keys below a number and up to it. -/
import Derived.Test.YtbpfagbihffmbaaF6
import Derived.Test.YtbpfagbihffmbaaTmD
import Derived.Shelf.RegionOpenPlain
import Derived.WalkKit
import Derived.Deep.LoopGhost
import Derived.Deep.Draws
import Derived.Deep.QuietTactic
import Derived.Shelf.Abstract
import Derived.RegionTactic
namespace Go.Proofs
open Go.Shelf Go.RowKit Go.TM
set_option linter.unusedVariables false
set_option linter.unusedSimpArgs false

set_option maxHeartbeats 4000000 in
set_option maxRecDepth 1000000 in
/-- sort.Search, with a closure that allocates nothing: the place from which on the closure says true. -/
theorem search_kept (g : Nat) (cb : Array Value) (n : Nat) (p : Nat → Bool) (w : World) (eg : ∀ args w, (callFunc g args).run Try.prog w = .ok (.enter g args) w) (hsz : n < 4611686018427387904)
    (hf : ∀ (m : Nat) (i : Nat), i < n → Calls Try.prog g (#[.int .i64 i] ++ cb) (w.drewN m) fun e w' => e = .returned (.bool (p i)) ∧ ∃ q, w' = (w.drewN m).drewN q)
    (hmono : ∀ a b, a ≤ b → b < n → p a = true → p b = true) :
    Calls Try.prog 172 #[.int .i64 n, .func (.func g) #[] cb] w fun e w' => ∃ (c q : Nat), e = .returned (.int .i64 c) ∧ c ≤ n ∧ (∀ t, t < c → p t = false) ∧ (∀ t, c ≤ t → t < n → p t = true) ∧ w' = w.drewN q := by
  have HF : Aside _ := hf
  have M : Aside _ := hmono
  clear hf hmono
  go_enter Try.func172, Try.ntmps172
  go_wp2
  go_loopg [5, 6] n (fun kx s5 s6 wr => ∃ (lo hi q : Nat), s5 = .int .i64 lo ∧ s6 = .int .i64 hi ∧ lo ≤ hi ∧ hi ≤ n ∧ hi - lo ≤ kx ∧ wr = w.drewN q ∧
    Aside ((∀ t, t < lo → p t = false) ∧ (∀ t, hi ≤ t → t < n → p t = true)))
  case atStart => exact ⟨0, n, 0, rfl, rfl, Nat.zero_le _, Nat.le_refl _, by omega, rfl, (⟨fun t ht => absurd ht (Nat.not_lt_zero _), fun t h1 h2 => by omega⟩ : (∀ t, t < 0 → p t = false) ∧ (∀ t, n ≤ t → t < n → p t = true))⟩
  case round =>
    obtain ⟨lo, hi, q, rfl, rfl, hlh, hin, hg, rfl, I⟩ := hrel
    by_cases hlt : lo < hi
    · have hc := HF.out q ((lo + hi) / 2) (by omega)
      rw [show (((lo + hi) / 2 : Nat) : Int) = ((lo : Int) + (hi : Int)) / 2 by omega] at hc
      cases hp : p ((lo + hi) / 2) <;> rw [hp] at hc
      · have HP : Aside (p ((lo + hi) / 2) = false) := hp
        clear hp
        go_wp2_with (go_at_fn g; refine hc.mono ?_; rintro e w' ⟨rfl, nq, rfl⟩)
        go_roundg (hi - ((lo + hi) / 2 + 1))
        case measure => omega
        case rel =>
          have I2 : Aside ((∀ t, t < (lo + hi) / 2 + 1 → p t = false) ∧ (∀ t, hi ≤ t → t < n → p t = true)) := ⟨fun t ht => (by
            cases h : p t with
            | false => rfl
            | true => have := M.out t ((lo + hi) / 2) (by omega) (by omega) h; rw [HP.out] at this; cases this), I.out.2⟩
          exact ⟨(lo + hi) / 2 + 1, hi, q + nq, by rw [show ((lo : Int) + (hi : Int)) / 2 + 1 = (((lo + hi) / 2 + 1 : Nat) : Int) by omega], rfl, by omega, hin, Nat.le_refl _, rfl, I2⟩
      · have HP : Aside (p ((lo + hi) / 2) = true) := hp
        clear hp
        go_wp2_with (go_at_fn g; refine hc.mono ?_; rintro e w' ⟨rfl, nq, rfl⟩)
        go_roundg ((lo + hi) / 2 - lo)
        case measure => omega
        case rel =>
          have I2 : Aside ((∀ t, t < lo → p t = false) ∧ (∀ t, (lo + hi) / 2 ≤ t → t < n → p t = true)) := ⟨I.out.1, fun t ht htn => M.out ((lo + hi) / 2) t ht htn HP.out⟩
          exact ⟨lo, (lo + hi) / 2, q + nq, rfl, by rw [show ((lo : Int) + (hi : Int)) / 2 = (((lo + hi) / 2 : Nat) : Int) by omega], by omega, by omega, Nat.le_refl _, rfl, I2⟩
    · obtain rfl : hi = lo := by omega
      go_wp2
      go_ret
      exact ⟨hi, q, rfl, hin, I.out.1, I.out.2, rfl⟩
end Go.Proofs
namespace Go.TM
open Go.Proofs Go.RowKit Go.Shelf
set_option linter.unusedVariables false
set_option linter.unusedSimpArgs false
set_option maxRecDepth 100000

theorem Imm.mono' {w w' : World} {Q Q' : Nat → Prop} (h : ∀ b, Q b → Q' b ∧ w'.heap[b]? = w.heap[b]?) {a : A} {u : Value} (hu : Imm w Q a u) : Imm w' Q' a u := @Imm.mono topU _ _ _ _ h _ _ hu
theorem cell_new (W : World) (v : Value) (t : TypeId) : (W.alloc (.cells #[v] t)).cell? ⟨W.heap.size, 0, none⟩ = some v := by
  rw [World.cell?_alloc_at _ _ _ _ (by simp)]; rfl
theorem wf_of_range {n : Int} (h1 : -9223372036854775808 ≤ n) (h2 : n ≤ 9223372036854775807) : (Lit.int .i64 n).wf = true := by
  simp only [Lit.wf, Bool.and_eq_true, decide_eq_true_eq]
  exact ⟨h1, h2⟩

theorem vk_mono {xs : List Int} (h : VK xs) : ∀ (d a : Nat), a + d < xs.length → xs.getD a 0 ≤ xs.getD (a + d) 0
  | 0, a, _ => Int.le_refl _
  | d + 1, a, hl => by
    have h1 := vk_mono h d a (by omega)
    have h2 := h.1 (a + d) (by omega)
    rw [show a + (d + 1) = a + d + 1 from by omega]
    omega

theorem vk_mono' {xs : List Int} (h : VK xs) {a b : Nat} (hab : a ≤ b) (hb : b < xs.length) : xs.getD a 0 ≤ xs.getD b 0 := by
  have := vk_mono h (b - a) a (by omega)
  rwa [show a + (b - a) = b from by omega] at this

/-- A slice of numbers that is read only: its cells. -/
theorem imm_ints_cell {w : World} {Q : Nat → Prop} {xs : List Int} {u : Value} (h : Imm w Q (eIs false xs) u) : ∃ ao cap, u = .slice ao xs.length cap ∧ xs.length ≤ cap ∧
    (xs = [] ∨ ∃ a : Addr, ao = some a ∧ a.spot = none ∧ Q a.block ∧ ∀ i, i < xs.length → w.cell? ⟨a.block, a.off + i, none⟩ = some (.int .i64 (xs.getD i 0))) := by
  simp only [Imm] at h
  obtain ⟨ao, cap, h1, h2, h3, h4, h5⟩ := h
  refine ⟨ao, cap, h1, h2, ?_⟩
  rcases h5 with h5 | ⟨a, h5, h6, h7, h8⟩
  · left
    simpa using h5
  · refine .inr ⟨a, h5, h6, h7, fun i hi => ?_⟩
    have key : ∀ (ys : List Int) (k : Nat), ImmL w Q (ys.map eI) a.block k → ∀ i, i < ys.length → w.cell? ⟨a.block, k + i, none⟩ = some (.int .i64 (ys.getD i 0)) := by
      intro ys
      induction ys with
      | nil => intro k _ i hi; simp at hi
      | cons y ys ih =>
        intro k hk i hi
        simp only [List.map_cons, ImmL, Imm] at hk
        cases i with
        | zero =>
          obtain ⟨⟨v, g1, g2, g3, g4⟩, _⟩ := hk
          rw [g3] at g1
          simpa using g1
        | succ i =>
          have := ih (k + 1) hk.2 i (by simpa using hi)
          rw [show k + (i + 1) = k + 1 + i from by omega]
          simpa using this
    exact key xs a.off h8 i hi

set_option maxHeartbeats 2000000 in
/-- The closure: 'list[i] >= key'. -/
theorem clo_KeysBelow (ba bx blk off cap : Nat) (xs : List Int) (k : Int) (i : Nat) (W : World) (hi : i < xs.length)
    (ha : W.cell? ⟨ba, 0, none⟩ = some (.slice (some ⟨blk, off, none⟩) xs.length cap)) (hx : W.cell? ⟨bx, 0, none⟩ = some (.int .i64 k)) (hc : W.cell? ⟨blk, off + i, none⟩ = some (.int .i64 (xs.getD i 0))) :
    Calls Try.prog 174 (#[.int .i64 i] ++ #[.pointer (some ⟨ba, 0, none⟩), .pointer (some ⟨bx, 0, none⟩)]) W fun e w' => e = .returned (.bool (decide (k ≤ xs.getD i 0))) ∧ ∃ q, w' = W.drewN q := by
  generalize xs.getD i 0 = y at hc ⊢
  have hiz : (i : Int) < (xs.length : Int) := by omega
  go_enter Try.func174, Try.ntmps174
  go_wp2
  go_region
  all_goals go_wp2
  all_goals go_ret
  all_goals exact ⟨by first | rfl | simp, 1, rfl⟩

theorem srch_KeysBelow (xs : List Int) (k : Int) (hl : xs.length ≤ 1099511627776) (hv : VK xs) (Q : Nat → Prop) (ao : Option Addr) (cap ba bx : Nat) (W : World)
    (ha : W.cell? ⟨ba, 0, none⟩ = some (.slice ao xs.length cap)) (hx : W.cell? ⟨bx, 0, none⟩ = some (.int .i64 k))
    (hc : xs = [] ∨ ∃ a : Addr, ao = some a ∧ a.spot = none ∧ Q a.block ∧ ∀ i, i < xs.length → W.cell? ⟨a.block, a.off + i, none⟩ = some (.int .i64 (xs.getD i 0))) :
    Calls Try.prog 172 #[.int .i64 xs.length, .func (.func 174) #[] #[.pointer (some ⟨ba, 0, none⟩), .pointer (some ⟨bx, 0, none⟩)]] W
      fun e w' => ∃ q, e = .returned (.int .i64 (cntB xs k : Nat)) ∧ w' = W.drewN q := by
  have eg : ∀ args w, (callFunc 174 args).run Try.prog w = .ok (.enter 174 args) w := enters_of Try.func174 (by kernel_rfl) rfl
  have keep : ∀ m (a : Addr) (v : Value), W.cell? a = some v → (W.drewN m).cell? a = some v := fun m a v h => (Kept.drewN W m).cell h
  refine (search_kept 174 #[.pointer (some ⟨ba, 0, none⟩), .pointer (some ⟨bx, 0, none⟩)] xs.length (fun i => decide (k ≤ xs.getD i 0)) W eg (by omega) (fun m i hi => ?_) (fun a b hab hb h => ?_)).mono ?_
  · rcases hc with rfl | ⟨⟨blk, off, sp⟩, rfl, hs, _, hc⟩
    · simp at hi
    · dsimp only at hs hc
      subst hs
      exact clo_KeysBelow ba bx blk off cap xs k i _ hi (keep m _ _ ha) (keep m _ _ hx) (keep m _ _ (hc i hi))
  · have := vk_mono' hv hab hb
    simp only [decide_eq_true_eq] at h ⊢
    omega
  · rintro e w' ⟨c, q, rfl, h1, h2, h3, rfl⟩
    refine ⟨q, ?_, rfl⟩
    have : cntB xs k = c := takeWhile_len h1 (fun i hi => by
      have := h2 i hi
      simp only [decide_eq_false_iff_not, decide_eq_true_eq] at this ⊢
      omega) (fun hc => by
      have := h3 c (Nat.le_refl _) hc
      simp only [decide_eq_false_iff_not, decide_eq_true_eq] at this ⊢
      omega)
    rw [this]

noncomputable def vKeysBelow (xs : List Int) (k : Int) : Int := if vk xs then (cntB xs k : Int) else -1
noncomputable def mKeysBelow : Model := M2 .ro .ro true (cIs false) cI fun xs k => gd (xs.length ≤ 1099511627776) (eI (vKeysBelow xs k), [])

set_option maxHeartbeats 2000000 in
theorem raw_KeysBelow (w : World) (Q : Nat → Prop) (xs : List Int) (k : Int) (u : Value) (hl : xs.length ≤ 1099511627776) (hQ : ∀ b, Q b → b < w.heap.size) (hu : Imm w Q (eIs false xs) u) (hk : (Lit.int .i64 k).wf = true) :
    Calls Try.prog 160 #[u, .int .i64 k] w fun e w' => e = .returned (.int .i64 (vKeysBelow xs k)) ∧ Kept w w' := by
  obtain ⟨ao, cap, rfl, hcap, hcells⟩ := imm_ints_cell hu
  obtain ⟨W0, hW0⟩ : ∃ W0, W0 = (w.alloc (.cells #[.slice ao xs.length cap] 35)).alloc (.cells #[.int .i64 k] 3) := ⟨_, rfl⟩
  have k0 : Kept w W0 := by rw [hW0]; exact (Kept.alloc _ _ _).trans (Kept.alloc _ _ _)
  have ca : W0.cell? ⟨w.heap.size, 0, none⟩ = some (.slice ao xs.length cap) := by
    rw [hW0]
    exact (Kept.alloc _ _ _).cell (cell_new w _ _)
  have cx : W0.cell? ⟨w.heap.size + 1, 0, none⟩ = some (.int .i64 k) := by
    rw [hW0]
    have := cell_new (w.alloc (.cells #[.slice ao xs.length cap] 35)) (.int .i64 k) 3
    rwa [World.size_alloc] at this
  have hV : Calls Try.prog 163 #[.slice ao xs.length cap] W0 fun e w' => e = .returned (.bool (vk xs)) ∧ Kept W0 w' :=
    model_calls (w := W0) c_ValidKeysI (args := [eIs false xs]) (us := [.slice ao xs.length cap]) rfl rfl (fun j a u ha hu' => by
      rcases j with _ | j
      · cases ha
        cases hu'
        refine argOk_cell ⟨rfl, fun j a v ha hv => ?_⟩ (by intro xs h; cases h)
        rcases j with _ | j
        · cases ha
          cases hv
          exact ⟨rfl, Imm.mono' (fun b hb => ⟨Nat.lt_of_lt_of_le (hQ b hb) k0.size, k0.old b (hQ b hb)⟩) hu⟩
        · cases ha
      · cases ha) (c := .b (vk xs)) rfl (by simp only [mValidKeys, M1_fn, cIs_d, Option.bind_some]; rw [gd_pos hl])
  have hS : vk xs = true → ∀ W1, Kept W0 W1 → Calls Try.prog 172 #[.int .i64 xs.length, .func (.func 174) #[] #[.pointer (some ⟨w.heap.size, 0, none⟩), .pointer (some ⟨w.heap.size + 1, 0, none⟩)]] W1
      fun e w' => ∃ q, e = .returned (.int .i64 (cntB xs k : Nat)) ∧ w' = W1.drewN q := by
    intro hv W1 h1
    exact srch_KeysBelow xs k hl (vk_iff.1 hv) Q ao cap _ _ W1 (h1.cell ca) (h1.cell cx) (hcells.imp id fun ⟨a, e1, e2, e3, e4⟩ => ⟨a, e1, e2, e3, fun i hi => h1.cell (k0.cell (e4 i hi))⟩)
  clear hcells hu
  unfold vKeysBelow
  cases hv : vk xs <;> rw [hv] at hV
  · clear hS
    simp only [Bool.false_eq_true, if_false]
    go_enter Try.func160, Try.ntmps160
    go_wp2_with (go_at_call 163; rw [← hW0]; refine hV.mono ?_; rintro e w' ⟨rfl, hk1⟩)
    go_ret
    exact ⟨rfl, k0.trans hk1⟩
  · have hS := hS hv
    simp only [if_true]
    go_enter Try.func160, Try.ntmps160
    go_wp2_with (first | (go_at_call 163; rw [← hW0]; refine hV.mono ?_; rintro e w' ⟨rfl, hk1⟩; have ca1 := hk1.cell ca) | (go_at_call 172; refine (hS _ hk1).mono ?_; rintro e w' ⟨q, rfl, rfl⟩))
    go_ret
    exact ⟨rfl, (k0.trans hk1).trans (Kept.drewN _ q)⟩

theorem vKeysBelow_wf (xs : List Int) (k : Int) (hl : xs.length ≤ 1099511627776) : (Lit.int .i64 (vKeysBelow xs k)).wf = true := by
  have h : cntB xs k ≤ xs.length := (List.takeWhile_prefix _).length_le
  unfold vKeysBelow
  split
  · exact wf_of_range (by omega) (by omega)
  · rfl

theorem c_KeysBelowI : Contract Try.prog 160 mKeysBelow :=
  contract_of_kept (C := fun xs _ => xs.length ≤ 1099511627776) (g := vKeysBelow) (fun xs k r outs h => by
    obtain ⟨h1, h2⟩ := gd_some h
    cases h2
    exact ⟨h1, rfl, rfl⟩) (fun xs k h => vKeysBelow_wf xs k h) (fun w Q xs k u h hQ hu hk => raw_KeysBelow w Q xs k u h hQ hu hk)

set_option maxHeartbeats 2000000 in
/-- The closure: 'list[i] > key'. -/
theorem clo_KeysUpTo (ba bx blk off cap : Nat) (xs : List Int) (k : Int) (i : Nat) (W : World) (hi : i < xs.length)
    (ha : W.cell? ⟨ba, 0, none⟩ = some (.slice (some ⟨blk, off, none⟩) xs.length cap)) (hx : W.cell? ⟨bx, 0, none⟩ = some (.int .i64 k)) (hc : W.cell? ⟨blk, off + i, none⟩ = some (.int .i64 (xs.getD i 0))) :
    Calls Try.prog 173 (#[.int .i64 i] ++ #[.pointer (some ⟨ba, 0, none⟩), .pointer (some ⟨bx, 0, none⟩)]) W fun e w' => e = .returned (.bool (decide (k < xs.getD i 0))) ∧ ∃ q, w' = W.drewN q := by
  generalize xs.getD i 0 = y at hc ⊢
  have hiz : (i : Int) < (xs.length : Int) := by omega
  go_enter Try.func173, Try.ntmps173
  go_wp2
  go_region
  all_goals go_wp2
  all_goals go_ret
  all_goals exact ⟨by first | rfl | simp, 1, rfl⟩

theorem srch_KeysUpTo (xs : List Int) (k : Int) (hl : xs.length ≤ 1099511627776) (hv : VK xs) (Q : Nat → Prop) (ao : Option Addr) (cap ba bx : Nat) (W : World)
    (ha : W.cell? ⟨ba, 0, none⟩ = some (.slice ao xs.length cap)) (hx : W.cell? ⟨bx, 0, none⟩ = some (.int .i64 k))
    (hc : xs = [] ∨ ∃ a : Addr, ao = some a ∧ a.spot = none ∧ Q a.block ∧ ∀ i, i < xs.length → W.cell? ⟨a.block, a.off + i, none⟩ = some (.int .i64 (xs.getD i 0))) :
    Calls Try.prog 172 #[.int .i64 xs.length, .func (.func 173) #[] #[.pointer (some ⟨ba, 0, none⟩), .pointer (some ⟨bx, 0, none⟩)]] W
      fun e w' => ∃ q, e = .returned (.int .i64 (cntU xs k : Nat)) ∧ w' = W.drewN q := by
  have eg : ∀ args w, (callFunc 173 args).run Try.prog w = .ok (.enter 173 args) w := enters_of Try.func173 (by kernel_rfl) rfl
  have keep : ∀ m (a : Addr) (v : Value), W.cell? a = some v → (W.drewN m).cell? a = some v := fun m a v h => (Kept.drewN W m).cell h
  refine (search_kept 173 #[.pointer (some ⟨ba, 0, none⟩), .pointer (some ⟨bx, 0, none⟩)] xs.length (fun i => decide (k < xs.getD i 0)) W eg (by omega) (fun m i hi => ?_) (fun a b hab hb h => ?_)).mono ?_
  · rcases hc with rfl | ⟨⟨blk, off, sp⟩, rfl, hs, _, hc⟩
    · simp at hi
    · dsimp only at hs hc
      subst hs
      exact clo_KeysUpTo ba bx blk off cap xs k i _ hi (keep m _ _ ha) (keep m _ _ hx) (keep m _ _ (hc i hi))
  · have := vk_mono' hv hab hb
    simp only [decide_eq_true_eq] at h ⊢
    omega
  · rintro e w' ⟨c, q, rfl, h1, h2, h3, rfl⟩
    refine ⟨q, ?_, rfl⟩
    have : cntU xs k = c := takeWhile_len h1 (fun i hi => by
      have := h2 i hi
      simp only [decide_eq_false_iff_not, decide_eq_true_eq] at this ⊢
      omega) (fun hc => by
      have := h3 c (Nat.le_refl _) hc
      simp only [decide_eq_false_iff_not, decide_eq_true_eq] at this ⊢
      omega)
    rw [this]

noncomputable def vKeysUpTo (xs : List Int) (k : Int) : Int := if vk xs then (cntU xs k : Int) else -1
noncomputable def mKeysUpTo : Model := M2 .ro .ro true (cIs false) cI fun xs k => gd (xs.length ≤ 1099511627776) (eI (vKeysUpTo xs k), [])

set_option maxHeartbeats 2000000 in
theorem raw_KeysUpTo (w : World) (Q : Nat → Prop) (xs : List Int) (k : Int) (u : Value) (hl : xs.length ≤ 1099511627776) (hQ : ∀ b, Q b → b < w.heap.size) (hu : Imm w Q (eIs false xs) u) (hk : (Lit.int .i64 k).wf = true) :
    Calls Try.prog 159 #[u, .int .i64 k] w fun e w' => e = .returned (.int .i64 (vKeysUpTo xs k)) ∧ Kept w w' := by
  obtain ⟨ao, cap, rfl, hcap, hcells⟩ := imm_ints_cell hu
  obtain ⟨W0, hW0⟩ : ∃ W0, W0 = (w.alloc (.cells #[.slice ao xs.length cap] 35)).alloc (.cells #[.int .i64 k] 3) := ⟨_, rfl⟩
  have k0 : Kept w W0 := by rw [hW0]; exact (Kept.alloc _ _ _).trans (Kept.alloc _ _ _)
  have ca : W0.cell? ⟨w.heap.size, 0, none⟩ = some (.slice ao xs.length cap) := by
    rw [hW0]
    exact (Kept.alloc _ _ _).cell (cell_new w _ _)
  have cx : W0.cell? ⟨w.heap.size + 1, 0, none⟩ = some (.int .i64 k) := by
    rw [hW0]
    have := cell_new (w.alloc (.cells #[.slice ao xs.length cap] 35)) (.int .i64 k) 3
    rwa [World.size_alloc] at this
  have hV : Calls Try.prog 163 #[.slice ao xs.length cap] W0 fun e w' => e = .returned (.bool (vk xs)) ∧ Kept W0 w' :=
    model_calls (w := W0) c_ValidKeysI (args := [eIs false xs]) (us := [.slice ao xs.length cap]) rfl rfl (fun j a u ha hu' => by
      rcases j with _ | j
      · cases ha
        cases hu'
        refine argOk_cell ⟨rfl, fun j a v ha hv => ?_⟩ (by intro xs h; cases h)
        rcases j with _ | j
        · cases ha
          cases hv
          exact ⟨rfl, Imm.mono' (fun b hb => ⟨Nat.lt_of_lt_of_le (hQ b hb) k0.size, k0.old b (hQ b hb)⟩) hu⟩
        · cases ha
      · cases ha) (c := .b (vk xs)) rfl (by simp only [mValidKeys, M1_fn, cIs_d, Option.bind_some]; rw [gd_pos hl])
  have hS : vk xs = true → ∀ W1, Kept W0 W1 → Calls Try.prog 172 #[.int .i64 xs.length, .func (.func 173) #[] #[.pointer (some ⟨w.heap.size, 0, none⟩), .pointer (some ⟨w.heap.size + 1, 0, none⟩)]] W1
      fun e w' => ∃ q, e = .returned (.int .i64 (cntU xs k : Nat)) ∧ w' = W1.drewN q := by
    intro hv W1 h1
    exact srch_KeysUpTo xs k hl (vk_iff.1 hv) Q ao cap _ _ W1 (h1.cell ca) (h1.cell cx) (hcells.imp id fun ⟨a, e1, e2, e3, e4⟩ => ⟨a, e1, e2, e3, fun i hi => h1.cell (k0.cell (e4 i hi))⟩)
  clear hcells hu
  unfold vKeysUpTo
  cases hv : vk xs <;> rw [hv] at hV
  · clear hS
    simp only [Bool.false_eq_true, if_false]
    go_enter Try.func159, Try.ntmps159
    go_wp2_with (go_at_call 163; rw [← hW0]; refine hV.mono ?_; rintro e w' ⟨rfl, hk1⟩)
    go_ret
    exact ⟨rfl, k0.trans hk1⟩
  · have hS := hS hv
    simp only [if_true]
    go_enter Try.func159, Try.ntmps159
    go_wp2_with (first | (go_at_call 163; rw [← hW0]; refine hV.mono ?_; rintro e w' ⟨rfl, hk1⟩; have ca1 := hk1.cell ca) | (go_at_call 172; refine (hS _ hk1).mono ?_; rintro e w' ⟨q, rfl, rfl⟩))
    go_ret
    exact ⟨rfl, (k0.trans hk1).trans (Kept.drewN _ q)⟩

theorem vKeysUpTo_wf (xs : List Int) (k : Int) (hl : xs.length ≤ 1099511627776) : (Lit.int .i64 (vKeysUpTo xs k)).wf = true := by
  have h : cntU xs k ≤ xs.length := (List.takeWhile_prefix _).length_le
  unfold vKeysUpTo
  split
  · exact wf_of_range (by omega) (by omega)
  · rfl

theorem c_KeysUpToI : Contract Try.prog 159 mKeysUpTo :=
  contract_of_kept (C := fun xs _ => xs.length ≤ 1099511627776) (g := vKeysUpTo) (fun xs k r outs h => by
    obtain ⟨h1, h2⟩ := gd_some h
    cases h2
    exact ⟨h1, rfl, rfl⟩) (fun xs k h => vKeysUpTo_wf xs k h) (fun w Q xs k u h hQ hu hk => raw_KeysUpTo w Q xs k u h hQ hu hk)


theorem fo_KeysBelowI : FnOk Try.prog 160 := fnOk_of Try.func160 (by kernel_rfl)


theorem fo_KeysUpToI : FnOk Try.prog 159 := fnOk_of Try.func159 (by kernel_rfl)




end Go.TM
