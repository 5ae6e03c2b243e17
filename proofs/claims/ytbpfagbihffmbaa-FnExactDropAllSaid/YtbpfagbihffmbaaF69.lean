/- Contracts, 31 66 67 68 69. -/
import Derived.Test.YtbpfagbihffmbaaF64
/- Trees, in plain words: PutKey, PutAll, SplitsFor of both programs. -/
namespace Go.TM
set_option linter.unusedVariables false
set_option linter.unusedSimpArgs false

theorem prP_leafP (r : List Pr) : prP (leafP r) = r := by
  have hl : (keysP r).length = r.length := by simp [keysP]
  refine list_ext (d := default) (by simp [prP, leafP, hl]) fun i hi => ?_
  have h1 : i < (keysP r).length := by omega
  simp [prP, leafP, keysP, hi]

/-! ### A pair in a row -/


abbrev leafT (t : Tr) (key : Int) : Int := leafF t key (htT t) t.root
abbrev sqU (path : List Int) (i : Nat) (t : Tr) : Sp := splP (pgAt t (path.getD i 0))
abbrev adU (path : List Int) (i : Nat) (t : Tr) : Tr := addPg (setPg t (path.getD i 0) (sqU path i t).a) (sqU path i t).b
abbrev uqU (path : List Int) (i : Nat) (t : Tr) : Pg := addK (pgAt (adU path (i + 1) t) (path.getD i 0)) ((pgAt (adU path (i + 1) t) (path.getD i 0)).kids.idxOf (path.getD (i + 1) 0)) (sqU path (i + 1) t).key t.pages.length
end Go.TM
/- Contracts, 66: a page is split. -/
namespace Go.TM
open Go.Proofs
set_option linter.unusedVariables false
set_option linter.unusedSimpArgs false
set_option maxRecDepth 100000
set_option maxHeartbeats 4000000

/-! ### The place of a kid -/

def mPlaceKid : Model := M2 .ro .ro true (cPage false) cI fun p k => gd (p.kids.length ≤ 1099511627776) (eI (placeV p.kids k), [])

/-! ### A page is split -/

/-- A page that is not too large. -/
structure SmP (p : Pg) : Prop where
  keys : p.keys.length ≤ 5
  kids : p.kids.length ≤ 6
  vals : p.vals.length ≤ 5
theorem SmP.tot {p : Pg} (h : SmP p) : totP p ≤ 16 := by
  have := h.keys; have := h.kids; have := h.vals
  unfold totP
  omega
/-- A page that can be split. -/
structure SpP (p : Pg) : Prop where
  sm : SmP p
  two : 2 ≤ p.keys.length
  leaf : p.kids.length = 0 → vRow (prP p) = true ∧ p.vals.length = p.keys.length
  inn : p.kids.length ≠ 0 → p.kids.length = p.keys.length + 1
noncomputable instance (p : Pg) : Decidable (SpP p) := Classical.propDecidable _
theorem splP_leaf {p : Pg} (h : p.kids.length = 0) : splP p = ⟨leafP ((prP p).take ((p.keys.length + 1) / 2)), (((prP p).drop ((p.keys.length + 1) / 2)).getD 0 default).1, leafP ((prP p).drop ((p.keys.length + 1) / 2))⟩ := if_pos h
theorem splP_inn {p : Pg} (h : p.kids.length ≠ 0) : splP p = ⟨⟨(halfV ⟨p.keys, p.kids⟩).a.keys, (halfV ⟨p.keys, p.kids⟩).a.kids, []⟩, (halfV ⟨p.keys, p.kids⟩).key, ⟨(halfV ⟨p.keys, p.kids⟩).b.keys, (halfV ⟨p.keys, p.kids⟩).b.kids, []⟩⟩ := if_neg h
theorem does_placeOfKid {G : Nat → Option FM}  : Does T G (fun id => match id with  | _ => []) Try.f78 mPlaceKid := by
  refine does2 (rs := [.tmp 4]) rfl rfl fun p n ro h => ?_
  obtain ⟨hs, rfl⟩ := gd_some h
  refine ⟨fun _ => ⟨rfl, rfl⟩, ?_⟩
  clear h
  simp (config := {maxSteps := 1000000}) (disch := omega) only [go_sem, ↓reduceIte, Nat.reduceEqDiff, Nat.reduceAdd, Nat.reduceMul, Nat.reduceSub, Nat.reduceLeDiff, Nat.reduceLT, Int.reduceToNat, Int.reduceLE, Int.reduceLT, Int.reduceNeg, drP_n, drP_c, logAt_n, logAt_c, disP_n, disP_c, notIn_n, notIn_c]
  obtain ⟨xs, hxs⟩ : ∃ xs, p.kids = xs := ⟨_, rfl⟩
  rw [hxs] at hs ⊢
  refine W_loop_i (fun s => s.sl 1 = eI n ∧ s.sl 8 = eIs false xs ∧ s.sl 9 = eI xs.length ∧ ∃ k : Nat, k ≤ xs.length ∧ s.sl 10 = eI k ∧ ∀ i, i < k → xs.getD i 0 ≠ n) (fun s => xs.length - iN (s.sl 10)) ?_ ?_
  · exact ⟨rfl, rfl, rfl, 0, Nat.zero_le _, rfl, fun i hi => by omega⟩
  · rintro sl hp q ⟨h1, h8, h9, k, hk, h10, hall⟩
    dsimp only at h1 h8 h9 h10
    simp (config := {maxSteps := 1000000}) (disch := omega) only [go_sem, ↓reduceIte, Nat.reduceEqDiff, Nat.reduceAdd, Nat.reduceMul, Nat.reduceSub, Nat.reduceLeDiff, Nat.reduceLT, Int.reduceToNat, Int.reduceLE, Int.reduceLT, Int.reduceNeg, drP_n, drP_c, logAt_n, logAt_c, disP_n, disP_c, notIn_n, notIn_c, h1, h8, h9, h10]
    (first | refine runKS_split (fun g1 => ?_) (fun g1 => ?_) | refine cond_split (fun g1 => ?_) (fun g1 => ?_) | refine runK_split (fun g1 => ?_) (fun g1 => ?_))
    · have g1' := of_decide_eq_true g1
      by_cases hc : xs.getD k 0 = n
      · have e1 : decide (xs.getD k 0 = n) = true := decide_eq_true hc
        have ep := place_at (by omega) hc hall
        simp (config := {maxSteps := 1000000}) (disch := omega) only [go_sem, ↓reduceIte, Nat.reduceEqDiff, Nat.reduceAdd, Nat.reduceMul, Nat.reduceSub, Nat.reduceLeDiff, Nat.reduceLT, Int.reduceToNat, Int.reduceLE, Int.reduceLT, Int.reduceNeg, drP_n, drP_c, logAt_n, logAt_c, disP_n, disP_c, notIn_n, notIn_c, h1, h8, h9, h10, g1, e1]
        rw [ep]
      · have e1 : decide (xs.getD k 0 = n) = false := decide_eq_false hc
        simp (config := {maxSteps := 1000000}) (disch := omega) only [go_sem, ↓reduceIte, Nat.reduceEqDiff, Nat.reduceAdd, Nat.reduceMul, Nat.reduceSub, Nat.reduceLeDiff, Nat.reduceLT, Int.reduceToNat, Int.reduceLE, Int.reduceLT, Int.reduceNeg, drP_n, drP_c, logAt_n, logAt_c, disP_n, disP_c, notIn_n, notIn_c, h1, h8, h9, h10, g1, e1]
        refine ⟨⟨k + 1, by omega, rfl, fun i hi => ?_⟩, by omega⟩
        by_cases hik : i = k
        · rw [hik]; exact hc
        · exact hall i (by omega)
    · have g1' := of_decide_eq_false g1
      obtain rfl : k = xs.length := by omega
      simp (config := {maxSteps := 1000000}) (disch := omega) only [go_sem, ↓reduceIte, Nat.reduceEqDiff, Nat.reduceAdd, Nat.reduceMul, Nat.reduceSub, Nat.reduceLeDiff, Nat.reduceLT, Int.reduceToNat, Int.reduceLE, Int.reduceLT, Int.reduceNeg, drP_n, drP_c, logAt_n, logAt_c, disP_n, disP_c, notIn_n, notIn_c, h1, h8, h9, h10, g1]
      rw [place_no hall]
theorem fo_placeOfKid : FnOk Try.prog 78 := fnOk_of Try.func78 (by kernel_rfl)
theorem c_placeOfKid : Contract Try.prog 78 mPlaceKid :=
  contract_of_does (DT := fun id => match id with  | _ => []) Try.checked.mixed tabOk gok_nil Try.func78 rfl (by kernel_rfl) (does_placeOfKid )


end Go.TM
/- Contracts, 67: a pair is put into a tree: the program's side. -/
namespace Go.TM
open Go.Proofs
set_option linter.unusedVariables false
set_option linter.unusedSimpArgs false
set_option maxRecDepth 100000
set_option maxHeartbeats 8000000

/-! ### What holds at each level -/

theorem splP_sm {p : Pg} (h : SmP p) : SmP (splP p).a ∧ SmP (splP p).b := by
  have h1 := h.keys; have h2 := h.kids; have h3 := h.vals
  have hl := prP_len p
  by_cases hk : p.kids.length = 0
  · rw [splP_leaf hk]
    have k1 : ∀ r : List Pr, r.length ≤ 5 → SmP (leafP r) := fun r hr => ⟨by show (keysP r).length ≤ 5; rw [keysP_len]; exact hr, by show 0 ≤ 6; omega, by show (r.map (·.2)).length ≤ 5; rw [List.length_map]; exact hr⟩
    exact ⟨k1 _ (by rw [List.length_take]; omega), k1 _ (by rw [List.length_drop]; omega)⟩
  · rw [splP_inn hk]
    refine ⟨⟨?_, ?_, ?_⟩, ⟨?_, ?_, ?_⟩⟩
    · show (p.keys.take _).length ≤ 5; rw [List.length_take]; omega
    · show (p.kids.take _).length ≤ 6; rw [List.length_take]; omega
    · show 0 ≤ 5; omega
    · show (p.keys.drop _).length ≤ 5; rw [List.length_drop]; omega
    · show (p.kids.drop _).length ≤ 6; rw [List.length_drop]; omega
    · show 0 ≤ 5; omega
theorem PD.smP {t : Tr} : ∀ {h : Nat} {x : Int}, PD t h x → SmP (pgAt t x)
  | 0, x, p => by
    have l := p.leaf
    have := l.len; have := l.vals
    exact ⟨by omega, by rw [l.kids]; exact Nat.zero_le _, by omega⟩
  | h + 1, x, p => by
    have l := p.inn
    have := l.len; have := l.kids
    exact ⟨by omega, by omega, by rw [l.vals]; exact Nat.zero_le _⟩
structure PutJ (t : Tr) (key : Int) (i : Nat) (u : Tr) : Prop where
  inv : PutInv t key i u
  sm : ∀ p ∈ u.pages, SmP p
theorem TV.smAll {t : Tr} (h : TV t) : ∀ p ∈ t.pages, SmP p := fun p hp => by
  obtain ⟨i, hi, rfl⟩ := List.getElem_of_mem hp
  obtain ⟨h', pd⟩ := h.pg hi
  have := pd.smP
  rw [pgAt_nat] at this
  simpa [hi] using this
theorem PutJ.smT {t : Tr} {key : Int} {i : Nat} {u : Tr} (hv : TV t) (h : PutJ t key i u) : SmTr u := by
  have h1 := h.inv.len
  have h2 := hv.len.2
  have h3 := hv.ht
  have h4 := tot_le (m := 16) fun p hp => (h.sm p hp).tot
  exact ⟨by omega, by omega⟩
theorem PutJ.page {t : Tr} {key : Int} {i : Nat} {u : Tr} (hv : TV t) (h : PutJ t key i u) : 0 ≤ (pathF t key (htT t) t.root).getD i 0 ∧ (pathF t key (htT t) t.root).getD i 0 < u.pages.length := by
  have h1 := (pathF_pd (key := key) hv.pd i h.inv.il).rng
  have h2 := h.inv.len
  omega
theorem mem_app_set {ps : List Pg} {k : Nat} {a b : Pg} {P : Pg → Prop} (h : ∀ p ∈ ps, P p) (ha : P a) (hb : P b) : ∀ p ∈ ps.set k a ++ [b], P p := by
  intro p hp
  rcases List.mem_append.1 hp with hp | hp
  · rcases List.mem_or_eq_of_mem_set hp with hp | rfl
    · exact h p hp
    · exact ha
  · rw [List.mem_singleton] at hp
    rw [hp]; exact hb
theorem adU_sm {t : Tr} {key : Int} {i : Nat} {u : Tr} (hv : TV t) (h : PutJ t key i u) : ∀ p ∈ (adU (pathF t key (htT t) t.root) i u).pages, SmP p := by
  have hp := h.page hv
  have hm : pgAt u ((pathF t key (htT t) t.root).getD i 0) ∈ u.pages := by
    unfold pgAt
    rw [List.getD_eq_getElem?_getD, List.getElem?_eq_getElem (by omega)]
    exact List.getElem_mem _
  obtain ⟨s1, s2⟩ := splP_sm (h.sm _ hm)
  exact mem_app_set h.sm s1 s2
theorem PutJ.up {t : Tr} {key : Int} {i : Nat} {u : Tr} (hv : TV t) (hk : 0 ≤ key ∧ key ≤ 99) (h : PutJ t key (i + 1) u) (h4 : ¬ (pgAt u ((pathF t key (htT t) t.root).getD (i + 1) 0)).keys.length ≤ 4) :
    PutJ t key i (setPg (adU (pathF t key (htT t) t.root) (i + 1) u) ((pathF t key (htT t) t.root).getD i 0) (uqU (pathF t key (htT t) t.root) i u)) := by
  obtain ⟨s1, s2, s3, s4, s7, s8, s5⟩ := put_step hv hk h.inv (by omega) _ _ _ _ _ rfl rfl rfl rfl rfl
  refine ⟨s7, fun p hp => ?_⟩
  rcases List.mem_or_eq_of_mem_set hp with hp | rfl
  · exact adU_sm hv h p hp
  · have hpd := pathF_pd (key := key) hv.pd i (by have := h.inv.il; omega)
    obtain ⟨h', hh'⟩ : ∃ h', htT t - i = h' + 1 := ⟨htT t - i - 1, by have := h.inv.il; omega⟩
    rw [hh'] at hpd
    have hin := hpd.inn
    have q1 := hin.len
    have q2 := hin.kids
    rw [s1] at s3
    have e : uqU (pathF t key (htT t) t.root) i u = addK (pgAt t ((pathF t key (htT t) t.root).getD i 0)) ((pgAt t ((pathF t key (htT t) t.root).getD i 0)).kids.idxOf ((pathF t key (htT t) t.root).getD (i + 1) 0)) (sqU (pathF t key (htT t) t.root) (i + 1) u).key u.pages.length := by
      show addK (pgAt _ _) _ _ _ = _
      rw [s1]
    rw [e]
    refine ⟨?_, ?_, ?_⟩
    · show (insL _ _ _).length ≤ 5
      rw [insL_len (by omega)]; omega
    · show (insL _ _ _).length ≤ 6
      rw [insL_len (by omega)]; omega
    · show 0 ≤ 5; omega

theorem set_pgp {ps : List Pg} {k : Nat} {p : Pg} (h : k < ps.length) : setR (k * 3) [.s true 1 p.keys.length (p.keys.map eI), .s true 1 p.kids.length (p.kids.map eI), .s true 1 p.vals.length (p.vals.map eI)] (ps.flatMap (ePg true)) = (ps.set k p).flatMap (ePg true) := set_pg' h rfl rfl rfl

end Go.TM
/- Contracts, 68: a pair is put into a tree: the reference's side. -/
namespace Go.TM
open Go.Proofs
set_option linter.unusedVariables false
set_option linter.unusedSimpArgs false
set_option maxRecDepth 100000
set_option maxHeartbeats 8000000

theorem set_pgB {ps : List Pg} {k : Nat} {x y : List Int} (h : k < ps.length) : setR (k * 3) [.s true 1 x.length (x.map eI), .s true 1 y.length (y.map eI), .s true 1 0 []] (ps.flatMap (ePg true)) = (ps.set k ⟨x, y, []⟩).flatMap (ePg true) := set_pg' (z := []) h rfl rfl rfl
end Go.TM
/- Contracts, 69: PutKey: the reference's side, the law. -/
namespace Go.TM
open Go.Proofs
set_option linter.unusedVariables false
set_option linter.unusedSimpArgs false
set_option maxRecDepth 100000
set_option maxHeartbeats 4000000

end Go.TM
