/- Contracts, 85 86. -/
import Derived.Test.YtbpfagbihffmbaaF84
/- Contracts, 85: is a key in a tree. -/
namespace Go.TM
open Go.Proofs
set_option linter.unusedVariables false
set_option linter.unusedSimpArgs false
set_option maxRecDepth 100000
set_option maxHeartbeats 4000000

theorem keysP_flatI (f : Int → List Pr) : ∀ xs : List Int, keysP (xs.flatMap f) = xs.flatMap fun y => keysP (f y)
  | [] => rfl
  | x :: xs => by
    have ih := keysP_flatI f xs
    unfold keysP at ih ⊢
    rw [List.flatMap_cons, List.map_append, ih, List.flatMap_cons]
theorem has_leaf {t : Tr} {key : Int} : ∀ {h : Nat} {x low hi : Int}, PD t h x → pf t h x low hi = true → (key ∈ keysP (prF t h x) ↔ key ∈ (pgAt t (leafF t key h x)).keys)
  | 0, x, low, hi, hd, hp => by
    have e : prF t 0 x = prP (pgAt t x) := by simp [prF, lvF]
    rw [e, prP_keys]
    rfl
  | h + 1, x, low, hi, hd, hp => by
    obtain ⟨q1, q2, q3⟩ := pf_succ.1 hp
    obtain ⟨b1, b2, b3, b4⟩ := headOk_iff.1 q1
    have hin := hd.inn
    have hkl := hin.kids
    have hc := cntU_le (pgAt t x).keys key
    obtain ⟨u1, u2⟩ := cntU_split (pgAt t x).keys key
    have hlf : leafF t key (h + 1) x = leafF t key h ((pgAt t x).kids.getD (cntU (pgAt t x).keys key) 0) := rfl
    have hkm : (pgAt t x).kids.getD (cntU (pgAt t x).keys key) 0 ∈ (pgAt t x).kids := getD_mem (by omega)
    have ih := has_leaf (key := key) (hin.pd _ hkm) (q3 (cntU (pgAt t x).keys key) (by omega))
    rw [prF_succ, keysP_flatI, List.mem_flatMap, hlf, ← ih]
    constructor
    · rintro ⟨y, hy, hm⟩
      obtain ⟨j, hj, rfl⟩ := mem_getD hy
      have ha := (asc_pf (q3 j (by omega))).2 key hm
      have hjc : j = cntU (pgAt t x).keys key := by
        rcases Nat.lt_trichotomy j (cntU (pgAt t x).keys key) with h1 | h1 | h1
        · exfalso
          have h2 := u1 j h1
          have h3 := ha.2
          rw [show topK (pgAt t x).keys j hi = (pgAt t x).keys.getD j 0 - 1 from if_pos (by omega)] at h3
          omega
        · exact h1
        · exfalso
          have h2 := u2 (by omega)
          have h4 := vk_le b1 (i := cntU (pgAt t x).keys key) (j := j - 1) (by omega) (by omega)
          have h3 := ha.1
          rw [show lowK (pgAt t x).keys j low = (pgAt t x).keys.getD (j - 1) 0 from if_pos (by omega)] at h3
          omega
      rw [← hjc]
      exact hm
    · intro hm
      exact ⟨_, hkm, hm⟩
theorem hasT {t : Tr} {key : Int} (hv : TV t) : key ∈ keysP (prF t (htT t) t.root) ↔ key ∈ (pgAt t (leafT t key)).keys := has_leaf hv.pd hv.pf

noncomputable def mHasKey : Model := M2 .ro .ro true (cTr false) cI fun t k => gd (smT t.pages = true ∧ vTr t = true) (.b (decide (k ∈ (pgAt t (leafT t k)).keys)), [])

theorem does_hasKey {G : Nat → Option FM} (h_pairsOf : G 105 = some (.model mPairs)) (h_keysOf : G 104 = some (.model mKeysOf)) (h_isIn : G 103 = some (.model mIsIn)) : Does T G (fun id => match id with  | _ => []) Try.f58 mHasKey := by
  refine does2 (rs := [.tmp 4]) rfl rfl fun t k ro h => ?_
  obtain ⟨⟨hs, hv⟩, rfl⟩ := gd_some h
  refine ⟨fun _ => ⟨rfl, rfl⟩, ?_⟩
  clear h
  have hh := hasT (key := k) (vTr_iff.1 hv)
  have hd : decide (k ∈ keysP (prF t (htT t) t.root)) = decide (k ∈ (pgAt t (leafT t k)).keys) := decide_eq_decide.2 hh
  have hl := prF_len (vTr_iff.1 hv).pd
  have hkl := keysP_len (prF t (htT t) t.root)
  simp (config := {maxSteps := 1000000}) (disch := omega) only [go_sem, ↓reduceIte, Nat.reduceEqDiff, Nat.reduceAdd, Nat.reduceMul, Nat.reduceSub, Nat.reduceLeDiff, Nat.reduceLT, Int.reduceToNat, Int.reduceLE, Int.reduceLT, Int.reduceNeg, h_pairsOf, mPairs, h_keysOf, mKeysOf, h_isIn, mIsIn, drP_n, drP_c, logAt_n, logAt_c, disP_n, disP_c, notIn_n, notIn_c, hs, hv, hd]
  try rfl
theorem fo_hasKey : FnOk Try.prog 58 := fnOk_of Try.func58 (by kernel_rfl)
theorem c_hasKey : Contract Try.prog 58 mHasKey :=
  contract_of_does (DT := fun id => match id with  | _ => []) Try.checked.mixed tabOk (gok_model fo_pairsOf c_pairsOf (gok_model fo_keysOf c_keysOf (gok_model fo_isIn c_isIn gok_nil))) Try.func58 rfl (by kernel_rfl) (does_hasKey rfl rfl rfl)

end Go.TM
/- Contracts, 86: the pages stay small while kids are mended. -/
namespace Go.TM
open Go.Proofs
set_option linter.unusedVariables false
set_option linter.unusedSimpArgs false
set_option maxRecDepth 100000
set_option maxHeartbeats 4000000

structure SmQ (p : Pg) : Prop where
  keys : p.keys.length ≤ 9
  kids : p.kids.length ≤ 10
  vals : p.vals.length ≤ 9
theorem SmQ.tot {p : Pg} (h : SmQ p) : totP p ≤ 28 := by
  have := h.keys; have := h.kids; have := h.vals
  unfold totP
  omega
theorem SmP.smQ {p : Pg} (h : SmP p) : SmQ p := ⟨by have := h.keys; omega, by have := h.kids; omega, by have := h.vals; omega⟩
theorem smQ_leaf {r : List Pr} (h : r.length ≤ 9) : SmQ (leafP r) := ⟨by show (keysP r).length ≤ 9; rw [keysP_len]; exact h, by show 0 ≤ 10; omega, by show (r.map (·.2)).length ≤ 9; rw [List.length_map]; exact h⟩
theorem splP_smQ {p : Pg} (h : SmQ p) : SmQ (splP p).a ∧ SmQ (splP p).b := by
  have h1 := h.keys; have h2 := h.kids; have h3 := h.vals
  have hl := prP_len p
  by_cases hk : p.kids.length = 0
  · rw [splP_leaf hk]
    exact ⟨smQ_leaf (by rw [List.length_take]; omega), smQ_leaf (by rw [List.length_drop]; omega)⟩
  · rw [splP_inn hk]
    refine ⟨⟨?_, ?_, ?_⟩, ⟨?_, ?_, ?_⟩⟩
    · show (p.keys.take _).length ≤ 9; rw [List.length_take]; omega
    · show (p.kids.take _).length ≤ 10; rw [List.length_take]; omega
    · show 0 ≤ 9; omega
    · show (p.keys.drop _).length ≤ 9; rw [List.length_drop]; omega
    · show (p.kids.drop _).length ≤ 10; rw [List.length_drop]; omega
    · show 0 ≤ 9; omega
theorem two_smQ {t : Tr} {lf : Bool} {p : Pg} {f : Nat} {a b : Int} (tw : Two t lf p f a b) (k : Int) : SmQ (joinP (pgAt t a) k (pgAt t b)) := by
  have ka := tw.ka; have kb := tw.kb
  have pa := prP_len (pgAt t a); have pb := prP_len (pgAt t b)
  unfold joinP
  split
  · exact smQ_leaf (by rw [List.length_append]; omega)
  · rename_i hk
    cases lf
    · obtain ⟨i1, i2, _, _⟩ := tw.inn rfl
      refine ⟨?_, ?_, ?_⟩
      · show (_ ++ _ :: _ : List Int).length ≤ 9
        rw [List.length_append, List.length_cons]; omega
      · show (_ ++ _ : List Int).length ≤ 10
        rw [List.length_append]; omega
      · show 0 ≤ 9; omega
    · obtain ⟨⟨l1, _⟩, _⟩ := tw.leaf1 rfl
      rw [l1] at hk
      exact (hk rfl).elim
theorem set_smQ {ps : List Pg} {k : Nat} {q : Pg} (h : ∀ p ∈ ps, SmQ p) (hq : SmQ q) : ∀ p ∈ ps.set k q, SmQ p := fun p hp => by
  rcases List.mem_or_eq_of_mem_set hp with hp | rfl
  · exact h p hp
  · exact hq
theorem mendF_smQ {t : Tr} {lf : Bool} {up : Int} {f : Nat} (h : ∀ p ∈ t.pages, SmQ p) (hp : SmQ (pgAt t up)) (tw : Two t lf (pgAt t up) f ((pgAt t up).kids.getD f 0) ((pgAt t up).kids.getD (f + 1) 0)) : ∀ p ∈ (mendF t up f).1.pages, SmQ p := by
  have hj := two_smQ tw ((pgAt t up).keys.getD f 0)
  obtain ⟨s1, s2⟩ := splP_smQ hj
  have h1 := hp.keys; have h2 := hp.kids; have h3 := hp.vals
  have hc : SmQ (cutK (pgAt t up) (f + 1)) := by
    refine ⟨?_, ?_, ?_⟩
    · show (_ ++ _ : List Int).length ≤ 9
      rw [List.length_append, List.length_take, List.length_drop]; omega
    · show (_ ++ _ : List Int).length ≤ 10
      rw [List.length_append, List.length_take, List.length_drop]; omega
    · show 0 ≤ 9; omega
  by_cases h4 : (joinP (pgAt t ((pgAt t up).kids.getD f 0)) ((pgAt t up).keys.getD f 0) (pgAt t ((pgAt t up).kids.getD (f + 1) 0))).keys.length ≤ 4
  · rw [mend_t rfl rfl rfl rfl h4]
    exact set_smQ (set_smQ h hj) hc
  · rw [mend_f rfl rfl rfl rfl h4]
    refine set_smQ (set_smQ (set_smQ h s1) s2) ⟨?_, h2, h3⟩
    show (List.set _ _ _).length ≤ 9
    rw [List.length_set]; exact h1
/-- What holds at each level while kids are mended. -/
structure DropJ (t : Tr) (key : Int) (i : Nat) (u : Tr) (g : List Int) : Prop where
  inv : DropInv t key i u g
  sm : ∀ p ∈ u.pages, SmQ p
theorem DropJ.smT {t : Tr} {key : Int} {i : Nat} {u : Tr} {g : List Int} (hv : TV t) (h : DropJ t key i u g) : SmTr u := by
  have h1 := h.inv.len
  have h2 := hv.len.2
  have h4 := tot_le (m := 28) fun p hp => (h.sm p hp).tot
  exact ⟨by omega, by omega⟩
theorem dropJ_start {t : Tr} (hv : TV t) (key : Int) : DropJ t key (htT t) (dropL t key) [] := by
  refine ⟨drop_start hv key, set_smQ (fun p hp => (hv.smAll p hp).smQ) (smQ_leaf ?_)⟩
  have h1 := (remP_sub (prP (pgAt t (leafT t key))) key).length_le
  have h2 := (leafF_pd (key := key) hv.pd).leaf.len
  have h2' : (pgAt t (leafT t key)).keys.length ≤ 4 := h2
  rw [prP_len] at h1
  omega
theorem toNat_nodup : ∀ {g : List Int}, g.Nodup → (∀ x ∈ g, 0 ≤ x) → (g.map Int.toNat).Nodup
  | [], _, _ => by simp
  | x :: g, hn, h => by
    rw [List.nodup_cons] at hn
    rw [List.map_cons, List.nodup_cons]
    refine ⟨fun hm => ?_, toNat_nodup hn.2 fun y hy => h y (List.mem_cons_of_mem _ hy)⟩
    obtain ⟨y, hy, e⟩ := List.mem_map.1 hm
    have h1 := h x List.mem_cons_self
    have h2 := h y (List.mem_cons_of_mem _ hy)
    have h3 : y = x := by omega
    exact hn.1 (h3 ▸ hy)
theorem nodup_len {g : List Int} {n : Nat} (hn : g.Nodup) (h : ∀ x ∈ g, 0 ≤ x ∧ x < n) : g.length ≤ n := by
  have := sub_len (toNat_nodup hn fun x hx => (h x hx).1) (xs := List.range n) fun y hy => by
    obtain ⟨x, hx, rfl⟩ := List.mem_map.1 hy
    rw [List.mem_range]
    have := h x hx
    omega
  simpa using this
theorem DropInv.gl {t : Tr} {key : Int} {i : Nat} {u : Tr} {g : List Int} (hv : TV t) (h : DropInv t key i u g) : g.length ≤ 16 := by
  have h1 := nodup_len h.gn fun x hx => by
    obtain ⟨j, _, _, j3⟩ := h.gm x hx
    exact hv.kids _ x j3
  have := hv.len.2
  omega
end Go.TM
