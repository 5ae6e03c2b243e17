/- Contracts, 54: trees are loaded: the program's side. -/
import Derived.Test.YtbdiacopffnnbaaF53
namespace Go.TM
open Go.Proofs
set_option linter.unusedVariables false
set_option linter.unusedSimpArgs false
set_option maxRecDepth 100000
set_option maxHeartbeats 4000000

theorem set_pgn2 {o : Bool} {xs : List Pg} {k a b : Nat} {x y : List Int} (h : k < xs.length ∧ a = x.length ∧ b = y.length) : setR (k * 3) [.s o 1 a (x.map eI), .s o 1 b (y.map eI), .s o 1 0 []] (xs.flatMap (ePg o)) = (xs.set k ⟨x, y, []⟩).flatMap (ePg o) :=
  set_pg' (z := []) h.1 h.2.1 h.2.2 rfl
theorem app_pg0 {R : List Pg} {k : Nat} (h : R.length = k) : (R.flatMap (ePg true)).take (k * 3) ++ [A.s true 1 0 [], A.s true 1 0 [], A.s true 1 0 []] = (R ++ [(⟨[], [], []⟩ : Pg)]).flatMap (ePg true) :=
  app_pg (x := []) (y := []) (z := []) ⟨h, rfl, rfl, rfl⟩

def inK (l : Ld) (a n : Nat) : List Pg := l.pages ++ innL ((l.parts.drop a).take n) (l.pages.length + 1) :: ((l.parts.drop a).take n).map leafP
def allNe (ps : List (List Pr)) : Prop := ∀ p ∈ ps, p ≠ []
noncomputable instance (ps : List (List Pr)) : Decidable (allNe ps) := Classical.propDecidable _
noncomputable def mInnerL : Model := M3 .io .ro .ro false cLd cI cI fun l a b => gd (ldOk l ∧ l.pages.length ≤ 50 ∧ 0 ≤ a ∧ a + 1 < b ∧ b ≤ l.parts.length ∧ allNe l.parts) (eI l.pages.length, [csLd ⟨l.parts, inK l a.toNat (b - a).toNat⟩])
def kyK (l : Ld) (a k : Nat) : List Int := ((l.parts.drop (a + 1)).take k).map key0
theorem kyK_succ {l : Ld} {a k : Nat} (h : a + 1 + k < l.parts.length) : kyK l a k ++ [key0 (l.parts.getD (a + 1 + k) [])] = kyK l a (k + 1) := by
  unfold kyK
  rw [map_take_succ (by rw [List.length_drop]; omega)]
  simp [h]
theorem kyK_len {l : Ld} {a k : Nat} (h : a + 1 + k ≤ l.parts.length) : (kyK l a k).length = k := by
  unfold kyK
  rw [List.length_map, List.length_take, List.length_drop]
  omega
theorem kyK_all (l : Ld) (a n : Nat) : kyK l a n = (((l.parts.drop a).take (n + 1)).drop 1).map key0 := by
  unfold kyK
  rw [List.drop_take, List.drop_drop]
  rfl

theorem get_r0 {P : List Pr} (h : 0 < P.length) : (P.flatMap ePr)[0]? = some (eI (P.getD 0 default).1) := get_row0 (k := 0) h
theorem inn_eq {l : Ld} {a k : Nat} (h : a + (k + 1) ≤ l.parts.length) : innL ((l.parts.drop a).take (k + 1)) (l.pages.length + 1) = ⟨kyK l a k, nmK ((l.pages.length : Int) + 1) (k + 1), []⟩ := by
  unfold innL
  rw [← kyK_all, List.length_take, List.length_drop, Nat.min_eq_left (by omega)]
  rfl
theorem in_set {l : Ld} {a k : Nat} (h : a + (k + 1) ≤ l.parts.length) : (lvK ⟨l.parts, l.pages ++ [⟨[], [], []⟩]⟩ a (k + 1)).set l.pages.length ⟨kyK l a k, nmK ((l.pages.length : Int) + 1) (k + 1), []⟩ = inK l a (k + 1) := by
  rw [← inn_eq h]
  unfold lvK inK
  dsimp only
  rw [List.append_assoc, List.set_append_right _ _ (Nat.le_refl _), Nat.sub_self]
  rfl

theorem does_ldInner {G : Nat → Option FM} (h_ldLeaves : G 147 = some (.model mLvs)) : Does T G (fun id => match id with  | _ => []) Try.f148 mInnerL := by
  refine does3 (rs := [.tmp 6]) rfl rfl fun l a0 b0 ro h => ?_
  obtain ⟨⟨⟨hp1, hp2, hp3⟩, hp4, ha, hab, hb, hne⟩, rfl⟩ := gd_some h
  refine ⟨fun hc => (by cases hc), ?_⟩
  clear h
  obtain ⟨a, rfl⟩ : ∃ a : Nat, a0 = a := ⟨a0.toNat, by omega⟩
  obtain ⟨n, rfl⟩ : ∃ n : Nat, b0 = ((a + (n + 1) : Nat) : Int) := ⟨(b0 - a - 1).toNat, by omega⟩
  have en : (((a + (n + 1) : Nat) : Int) - (a : Int)).toNat = n + 1 := by omega
  have en1 : ((a : Int) + 1).toNat = a + 1 := by omega
  have en2 : a + (n + 1) - (a + 1) = n := by omega
  have hn0 : ¬ n = 0 := by omega
  have hl1 : (l.pages ++ [(⟨[], [], []⟩ : Pg)]).length = l.pages.length + 1 := by simp
  have hok : ldOk ⟨l.parts, l.pages ++ [⟨[], [], []⟩]⟩ := ⟨hp1, by show (l.pages ++ [_]).length ≤ 100; rw [List.length_append, List.length_singleton]; omega, hp3⟩
  rw [en]
  simp (config := {maxSteps := 1000000}) (disch := omega) only [go_sem, ↓reduceIte, Nat.reduceEqDiff, Nat.reduceAdd, Nat.reduceMul, Nat.reduceSub, Nat.reduceLeDiff, Nat.reduceLT, Int.reduceToNat, Int.reduceLE, Int.reduceLT, Int.reduceNeg, h_ldLeaves, mLvs, drP_n, drP_c, logAt_n, logAt_c, disP_n, disP_c, notIn_n, notIn_c, csLd, en1, en2, hn0, app_pg0]
  refine W_loop_i (fun s => s.sl 0 = .ptr (2, 0) [] 0 0 ∧ s.sl 1 = eI a ∧ s.sl 2 = eI ((a + (n + 1) : Nat) : Int) ∧ s.sl 7 = eI l.pages.length ∧ s.sl 34 = .ref (2, 0) [0] 0 (a + 1) 1 n ∧ s.sl 35 = eI n ∧ 5 < s.n ∧ (∃ v, v 0 = 0 ∧ s.hp (2, 0) = some ⟨2, 1, [.s true 1 l.parts.length (l.parts.map (eRow false)), .s true 3 (l.pages.length + 1) ((l.pages ++ [(⟨[], [], []⟩ : Pg)]).flatMap (ePg true))], v⟩) ∧ ∃ k : Nat, k ≤ n ∧ s.sl 36 = eI k ∧
    ((k = 0 ∧ s.sl 8 = .s true 1 0 []) ∨ (0 < k ∧ ∃ m : Nat, 2 < m ∧ m < s.n ∧ s.sl 8 = .ref (m, 0) [] 0 0 1 k ∧ s.hp (m, 0) = some ⟨1, k, (kyK l a k).map eI, fun _ => 0⟩))) (fun s => n - iN (s.sl 36)) ?_ ?_
  · simp (config := {maxSteps := 1000000}) (disch := omega) only [go_sem, ↓reduceIte, Nat.reduceEqDiff, Nat.reduceAdd, Nat.reduceMul, Nat.reduceSub, Nat.reduceLeDiff, Nat.reduceLT, Int.reduceToNat, Int.reduceLE, Int.reduceLT, Int.reduceNeg, h_ldLeaves, mLvs, drP_n, drP_c, logAt_n, logAt_c, disP_n, disP_c, notIn_n, notIn_c]
    exact ⟨by rw [verS_lt (.inl (by omega))], ⟨_, by rw [verS_lt (.inl (by omega))], rfl⟩, 0, Nat.zero_le _, rfl, .inl rfl⟩
  · rintro sl hp q ⟨h0, h1, h2, h7, h34, h35, hq, ⟨v, hv0, hh2⟩, k, hk, h36, hn⟩
    dsimp only at h0 h1 h2 h7 h34 h35 hq hh2 h36 hn
    simp (config := {maxSteps := 1000000}) (disch := omega) only [go_sem, ↓reduceIte, Nat.reduceEqDiff, Nat.reduceAdd, Nat.reduceMul, Nat.reduceSub, Nat.reduceLeDiff, Nat.reduceLT, Int.reduceToNat, Int.reduceLE, Int.reduceLT, Int.reduceNeg, h_ldLeaves, mLvs, drP_n, drP_c, logAt_n, logAt_c, disP_n, disP_c, notIn_n, notIn_c, h0, h1, h2, h7, h34, h35, h36]
    (first | refine runKS_split (fun g1 => ?_) (fun g1 => ?_) | refine cond_split (fun g1 => ?_) (fun g1 => ?_) | refine runK_split (fun g1 => ?_) (fun g1 => ?_))
    · have g1' := of_decide_eq_true g1
      have ks := kyK_succ (l := l) (a := a) (k := k) (by omega)
      have kl := kyK_len (l := l) (a := a) (k := k) (by omega)
      have hm : l.parts.getD (a + 1 + k) [] ∈ l.parts := by rw [List.getD_eq_getElem?_getD, List.getElem?_eq_getElem (by omega)]; exact List.getElem_mem _
      have hpk := hp3 _ hm
      have hpn : 0 < (l.parts.getD (a + 1 + k) []).length := List.length_pos_iff.2 (hne _ hm)
      unfold key0 at ks
      generalize hP : l.parts.getD (a + 1 + k) [] = P at *
      rcases hn with ⟨k0, h8⟩ | ⟨k0, m, hm2, hmn, h8, hm8⟩
      · have k1 : kyK l a (k + 1) = [(P.getD 0 default).1] := by rw [← ks, List.length_eq_zero_iff.1 (kl.trans k0)]; rfl
        simp (config := {maxSteps := 1000000}) (disch := omega) only [go_sem, ↓reduceIte, Nat.reduceEqDiff, Nat.reduceAdd, Nat.reduceMul, Nat.reduceSub, Nat.reduceLeDiff, Nat.reduceLT, Int.reduceToNat, Int.reduceLE, Int.reduceLT, Int.reduceNeg, h_ldLeaves, mLvs, drP_n, drP_c, logAt_n, logAt_c, disP_n, disP_c, notIn_n, notIn_c, h0, h1, h2, h7, h34, h35, h36, hh2, h8, g1, get_Rs, hv0, hP, get_r0]
        refine ⟨⟨⟨v, hv0, rfl⟩, k + 1, by omega, rfl, .inr ⟨by omega, q + 1 + 3 + 6, by omega, by omega, by rw [k0], ?_⟩⟩, by omega⟩
        rw [k1]
        simp (config := {maxSteps := 1000000}) (disch := omega) only [go_sem, ↓reduceIte, Nat.reduceEqDiff, Nat.reduceAdd, Nat.reduceMul, Nat.reduceSub, Nat.reduceLeDiff, Nat.reduceLT, Int.reduceToNat, Int.reduceLE, Int.reduceLT, Int.reduceNeg, h_ldLeaves, mLvs, drP_n, drP_c, logAt_n, logAt_c, disP_n, disP_c, notIn_n, notIn_c, k0]
      · simp (config := {maxSteps := 1000000}) (disch := omega) only [go_sem, ↓reduceIte, Nat.reduceEqDiff, Nat.reduceAdd, Nat.reduceMul, Nat.reduceSub, Nat.reduceLeDiff, Nat.reduceLT, Int.reduceToNat, Int.reduceLE, Int.reduceLT, Int.reduceNeg, h_ldLeaves, mLvs, drP_n, drP_c, logAt_n, logAt_c, disP_n, disP_c, notIn_n, notIn_c, h0, h1, h2, h7, h34, h35, h36, hh2, h8, hm8, g1, get_Rs, hv0, hP, get_r0, app_I', ks]
        refine ⟨⟨⟨v, hv0, rfl⟩, k + 1, by omega, rfl, .inr ⟨by omega, q + 1 + 3 + 6, by omega, by omega, rfl, ?_⟩⟩, by omega⟩
        simp (config := {maxSteps := 1000000}) (disch := omega) only [go_sem, ↓reduceIte, Nat.reduceEqDiff, Nat.reduceAdd, Nat.reduceMul, Nat.reduceSub, Nat.reduceLeDiff, Nat.reduceLT, Int.reduceToNat, Int.reduceLE, Int.reduceLT, Int.reduceNeg, h_ldLeaves, mLvs, drP_n, drP_c, logAt_n, logAt_c, disP_n, disP_c, notIn_n, notIn_c]
    · have g1' := of_decide_eq_false g1
      obtain rfl : k = n := by omega
      rcases hn with ⟨k0, h8⟩ | ⟨k0, m, hm2, hmn, h8, hm8⟩
      · omega
      · have ky := kyK_all l a k
        have kl := kyK_len (l := l) (a := a) (k := k) (by omega)
        have hll := lvK_len (l := ⟨l.parts, l.pages ++ [⟨[], [], []⟩]⟩) (a := a) (k := k + 1) (by show a + (k + 1) ≤ l.parts.length; omega)
        have nl := nmK_len ((l.pages.length : Int) + 1) (k + 1)
        have ins := in_set (l := l) (a := a) (k := k) (by omega)
        dsimp only at hll
        rw [hl1] at hll
        have hci : ((l.pages.length + 1 : Nat) : Int) = (l.pages.length : Int) + 1 := by omega
        simp (config := {maxSteps := 1000000}) (disch := omega) only [go_sem, ↓reduceIte, Nat.reduceEqDiff, Nat.reduceAdd, Nat.reduceMul, Nat.reduceSub, Nat.reduceLeDiff, Nat.reduceLT, Int.reduceToNat, Int.reduceLE, Int.reduceLT, Int.reduceNeg, h_ldLeaves, mLvs, drP_n, drP_c, logAt_n, logAt_c, disP_n, disP_c, notIn_n, notIn_c, h0, h1, h2, h7, h34, h35, h36, hh2, h8, hm8, g1, hok, en, set_pgn2, csLd, hl1, hci, ins]
        rw [show (lvK ⟨l.parts, l.pages ++ [⟨[], [], []⟩]⟩ a (k + 1)).length = (inK l a (k + 1)).length from by rw [← ins, List.length_set]]
theorem fo_ldInner : FnOk Try.prog 148 := fnOk_of Try.func148 (by kernel_rfl)
theorem c_ldInner : Contract Try.prog 148 mInnerL :=
  contract_of_does (DT := fun id => match id with  | _ => []) Try.checked.mixed tabOk (gok_model fo_ldLeaves c_ldLeaves gok_nil) Try.func148 rfl (by kernel_rfl) (does_ldInner rfl)

end Go.TM
