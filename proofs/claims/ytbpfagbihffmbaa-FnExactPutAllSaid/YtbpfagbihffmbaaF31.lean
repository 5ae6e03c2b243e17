/- Trees, in plain words: PutKey, PutAll, SplitsFor of both programs. -/
import Derived.Test.YtbpfagbihffmbaaF77
namespace Go.TM
set_option linter.unusedVariables false
set_option linter.unusedSimpArgs false

theorem prP_leafP (r : List Pr) : prP (leafP r) = r := by
  have hl : (keysP r).length = r.length := by simp [keysP]
  refine list_ext (d := default) (by simp [prP, leafP, hl]) fun i hi => ?_
  have h1 : i < (keysP r).length := by omega
  simp [prP, leafP, keysP, hi]

/-! ### A pair in a row -/


theorem putV_keys {r : List Pr} {a b : Int} : keysP (putV r (a, b)) = if cntB (keysP r) a < r.length ∧ (r.getD (cntB (keysP r) a) default).1 = a then keysP r else insL (keysP r) (cntB (keysP r) a) a := by
  split
  · rename_i h
    rw [putV_t h.1 h.2]
    have e : r = r.take (cntB (keysP r) a) ++ r.getD (cntB (keysP r) a) default :: r.drop (cntB (keysP r) a + 1) := by
      rw [show r.getD (cntB (keysP r) a) default = r[cntB (keysP r) a] from by simp [h.1], ← List.drop_eq_getElem_cons h.1, List.take_append_drop]
    generalize hc : cntB (keysP r) a = c at *
    have : keysP r = (keysP (r.take c)) ++ a :: keysP (r.drop (c + 1)) := by
      conv => lhs; rw [e]
      simp only [keysP, List.map_append, List.map_cons, h.2]
    rw [this]
    simp [keysP]
  · rename_i h
    rw [putV_f h]
    simp [keysP, insL, List.map_take, List.map_drop]

theorem putV_vk {r : List Pr} {a b : Int} (hv : vk (keysP r) = true) (ha : 0 ≤ a ∧ a ≤ 99) : vk (keysP (putV r (a, b))) = true := by
  obtain ⟨c1, c2, c3⟩ := cntB_ok (k := a) (vk_iff.1 hv)
  rw [putV_keys]
  split
  · exact hv
  · rename_i h
    refine vk_ins hv c1 ha (fun h0 => c2 _ (by omega)) fun hl => ?_
    have h1 := c3 _ (Nat.le_refl _) hl
    have hl' : cntB (keysP r) a < r.length := by rw [keysP_len] at hl; exact hl
    have h2 : ¬ (r.getD (cntB (keysP r) a) default).1 = a := fun e => h ⟨hl', e⟩
    have h3 : (keysP r).getD (cntB (keysP r) a) 0 = (r.getD (cntB (keysP r) a) default).1 := keysP_get hl'
    omega

theorem putV_mem {r : List Pr} {a b : Int} : ∀ p ∈ putV r (a, b), p = (a, b) ∨ p ∈ r := by
  intro p hp
  unfold putV at hp
  rw [List.mem_append, List.mem_append, List.mem_singleton] at hp
  rcases hp with (hp | hp) | hp
  · exact .inr (List.mem_of_mem_take hp)
  · exact .inl hp
  · exact .inr (List.mem_of_mem_drop hp)

theorem putV_klen {r : List Pr} {a b : Int} : (putV r (a, b)).length = if cntB (keysP r) a < r.length ∧ (r.getD (cntB (keysP r) a) default).1 = a then r.length else r.length + 1 := by
  have h := congrArg List.length (putV_keys (r := r) (a := a) (b := b))
  rw [keysP_len] at h
  rw [h]
  split
  · exact keysP_len r
  · have : cntB (keysP r) a ≤ (keysP r).length := (List.takeWhile_prefix _).length_le
    rw [insL_len this, keysP_len]

/-! ### The leaf -/

abbrev leafT (t : Tr) (key : Int) : Int := leafF t key (htT t) t.root
def putL (t : Tr) (x : Pr) : Tr := setPg t (leafT t x.1) (leafP (putV (prP (pgAt t (leafT t x.1))) x))
def putT (t : Tr) (x : Pr) : Tr := putUp (pathF t x.1 (htT t) t.root) (htT t) (putL t x)

theorem put_start {t : Tr} (hv : TV t) {a b : Int} (ha : 0 ≤ a ∧ a ≤ 99) (hb : -1000 ≤ b ∧ b ≤ 1000) : PutInv t a (htT t) (putL t (a, b)) := by
  have hlast := pathF_last t a (htT t) t.root
  have hpd := leafF_pd (key := a) hv.pd
  have hlf := hpd.leaf
  have hr := hpd.rng
  have hcur : pgAt (putL t (a, b)) ((pathF t a (htT t) t.root).getD (htT t) 0) = leafP (putV (prP (pgAt t (leafT t a))) (a, b)) := by
    rw [hlast]
    exact pgAt_set (by show (leafF t a (htT t) t.root).toNat < t.pages.length; omega)
  have hpf := bd_pf (t := t) (key := a) (i := htT t) (h := htT t) (Nat.le_refl _) hv.pf
  rw [hlast, Nat.sub_self] at hpf
  obtain ⟨h1, _⟩ := pf_zero.1 hpf
  obtain ⟨b1, b2, b3, b4⟩ := headOk_iff.1 h1
  have hk := bd_key (t := t) (key := a) (htT t) t.root 0 99 ha.1 ha.2
  have hkr := prP_keys (pgAt t (leafT t a))
  refine ⟨Nat.le_refl _, by simp [putL, setPg], rfl, fun j hj => ?_, ?_, ?_, ?_, fun _ => ?_, fun h => by omega⟩
  · refine pgAt_set_ne ?_
    show (leafF t a (htT t) t.root).toNat ≠ _
    rw [← hlast]
    exact path_ne hv (Nat.le_refl _) (by omega) (by omega)
  · rw [hcur]
    exact putV_vk (by rw [hkr]; exact b1) ha
  · rw [hcur]
    show (keysP _).length ≤ 5
    rw [keysP_len]
    have := putV_len (prP (pgAt t (leafT t a))) (a, b)
    rw [prP_len] at this
    have b2' : (pgAt t (leafT t a)).keys.length ≤ 4 := b2
    omega
  · rw [hcur]
    show allR (keysP _) _ _ = true
    rw [allR, List.all_eq_true]
    intro y hy
    obtain ⟨p, hp, rfl⟩ := List.mem_map.1 hy
    rcases putV_mem p hp with rfl | hp
    · exact inR_iff.2 hk
    · have : p.1 ∈ keysP (prP (pgAt t (leafT t a))) := List.mem_map_of_mem hp
      rw [hkr] at this
      exact List.all_eq_true.1 b3 _ this
  · rw [hcur]
    refine ⟨rfl, by simp [leafP, keysP], ?_⟩
    show allR (List.map _ _) _ _ = true
    rw [allR, List.all_eq_true]
    intro y hy
    obtain ⟨p, hp, rfl⟩ := List.mem_map.1 hy
    rcases putV_mem p hp with rfl | hp
    · exact inR_iff.2 hb
    · obtain ⟨i, hi, rfl⟩ := List.mem_map.1 hp
      rw [List.mem_range] at hi
      refine List.all_eq_true.1 hlf.vrng _ (getD_mem ?_)
      rw [hlf.vals]
      exact hi

noncomputable def putKV (t : Tr) (x : Pr) : Tr × Bool := if vTr t = true ∧ (inR x.1 0 99 = true ∧ inR x.2 (-1000) 1000 = true) ∧ vTr (putT t x) = true then (putT t x, true) else (⟨0, []⟩, false)

/-- What the program's PutKey computes is what the reference computes. -/
theorem putI_eq {t : Tr} (hv : TV t) {a b : Int} (ha : 0 ≤ a ∧ a ≤ 99) (hb : -1000 ≤ b ∧ b ≤ 1000) :
    putUpI (pathF t a (htT t) t.root) (htT t) (putL t (a, b)) = some (putT t (a, b)) ∨ (putUpI (pathF t a (htT t) t.root) (htT t) (putL t (a, b)) = none ∧ vTr (putT t (a, b)) = false) := by
  rcases putUpI_eq hv ha (htT t) _ (put_start hv ha hb) with h | ⟨h1, h2⟩
  · exact .inl h
  · refine .inr ⟨h1, ?_⟩
    cases hh : vTr (putT t (a, b))
    · rfl
    · have := (vTr_iff.1 hh).len.2
      simp only [putT] at this
      omega

/-! ### How many pages are split -/

/-- How many pages are full, from a level of the path up. -/
def fullF (t : Tr) (path : List Int) : Nat → Nat
  | 0 => if (pgAt t (path.getD 0 0)).keys.length = 4 then 1 else 0
  | i + 1 => if (pgAt t (path.getD (i + 1) 0)).keys.length = 4 then fullF t path i + 1 else 0

theorem fullF_le (t : Tr) (path : List Int) : ∀ i, fullF t path i ≤ i + 1
  | 0 => by simp only [fullF]; split <;> omega
  | i + 1 => by
    have := fullF_le t path i
    simp only [fullF]; split <;> omega

abbrev sqU (path : List Int) (i : Nat) (t : Tr) : Sp := splP (pgAt t (path.getD i 0))
abbrev adU (path : List Int) (i : Nat) (t : Tr) : Tr := addPg (setPg t (path.getD i 0) (sqU path i t).a) (sqU path i t).b
abbrev uqU (path : List Int) (i : Nat) (t : Tr) : Pg := addK (pgAt (adU path (i + 1) t) (path.getD i 0)) ((pgAt (adU path (i + 1) t) (path.getD i 0)).kids.idxOf (path.getD (i + 1) 0)) (sqU path (i + 1) t).key t.pages.length
theorem putUp_le {path : List Int} {t : Tr} : ∀ {i : Nat}, (pgAt t (path.getD i 0)).keys.length ≤ 4 → putUp path i t = t
  | 0, h => by simp only [putUp]; exact if_pos h
  | i + 1, h => by simp only [putUp]; exact if_pos h
theorem putUp_0 {path : List Int} {t : Tr} (h : ¬ (pgAt t (path.getD 0 0)).keys.length ≤ 4) : putUp path 0 t = ⟨(t.pages.length : Int) + 1, (adU path 0 t).pages ++ [⟨[(sqU path 0 t).key], [path.getD 0 0, t.pages.length], []⟩]⟩ := by simp only [putUp]; exact if_neg h
theorem putUp_s {path : List Int} {t : Tr} {i : Nat} (h : ¬ (pgAt t (path.getD (i + 1) 0)).keys.length ≤ 4) : putUp path (i + 1) t = putUp path i (setPg (adU path (i + 1) t) (path.getD i 0) (uqU path i t)) := by simp only [putUp]; exact if_neg h
theorem putUpI_le {path : List Int} {t : Tr} : ∀ {i : Nat}, (pgAt t (path.getD i 0)).keys.length ≤ 4 → putUpI path i t = some t
  | 0, h => by simp only [putUpI]; exact if_pos h
  | i + 1, h => by simp only [putUpI]; exact if_pos h
theorem putUpI_0 {path : List Int} {t : Tr} (h : ¬ (pgAt t (path.getD 0 0)).keys.length ≤ 4) : putUpI path 0 t = some ⟨(t.pages.length : Int) + 1, (adU path 0 t).pages ++ [⟨[(sqU path 0 t).key], [path.getD 0 0, t.pages.length], []⟩]⟩ := by simp only [putUpI]; exact if_neg h
theorem putUpI_s {path : List Int} {t : Tr} {i : Nat} (h : ¬ (pgAt t (path.getD (i + 1) 0)).keys.length ≤ 4) (hc : vInn (inP (pgAt (adU path (i + 1) t) (path.getD i 0))) = true ∧ (pgAt (adU path (i + 1) t) (path.getD i 0)).kids.idxOf (path.getD (i + 1) 0) < (pgAt (adU path (i + 1) t) (path.getD i 0)).kids.length ∧ vInn (inP (uqU path i t)) = true) :
    putUpI path (i + 1) t = putUpI path i (setPg (adU path (i + 1) t) (path.getD i 0) (uqU path i t)) := by simp only [putUpI]; rw [if_neg h, if_pos hc]
theorem putUpI_n {path : List Int} {t : Tr} {i : Nat} (h : ¬ (pgAt t (path.getD (i + 1) 0)).keys.length ≤ 4) (hc : ¬ (vInn (inP (pgAt (adU path (i + 1) t) (path.getD i 0))) = true ∧ (pgAt (adU path (i + 1) t) (path.getD i 0)).kids.idxOf (path.getD (i + 1) 0) < (pgAt (adU path (i + 1) t) (path.getD i 0)).kids.length ∧ vInn (inP (uqU path i t)) = true)) :
    putUpI path (i + 1) t = none := by simp only [putUpI]; rw [if_neg h, if_neg hc]

theorem putUp_full {t : Tr} (hv : TV t) {key : Int} (hk : 0 ≤ key ∧ key ≤ 99) : ∀ (i : Nat) (u : Tr), PutInv t key i u →
    (pgAt u ((pathF t key (htT t) t.root).getD i 0)).keys.length = (pgAt t ((pathF t key (htT t) t.root).getD i 0)).keys.length + 1 →
    (putUp (pathF t key (htT t) t.root) i u).pages.length = u.pages.length + fullF t (pathF t key (htT t) t.root) i + (if fullF t (pathF t key (htT t) t.root) i = i + 1 then 1 else 0) ∧
      ((putUp (pathF t key (htT t) t.root) i u).root = t.root ↔ fullF t (pathF t key (htT t) t.root) i ≠ i + 1)
  | 0, u, hI, hl => by
    have hkl := hI.kl
    by_cases h4 : (pgAt u ((pathF t key (htT t) t.root).getD 0 0)).keys.length ≤ 4
    · have e1 : putUp (pathF t key (htT t) t.root) 0 u = u := by simp only [putUp]; exact if_pos h4
      have e2 : fullF t (pathF t key (htT t) t.root) 0 = 0 := by simp only [fullF]; exact if_neg (by omega)
      rw [e1, e2]
      exact ⟨by simp, by simp [hI.root]⟩
    · have e1 := putUp_0 h4
      have e2 : fullF t (pathF t key (htT t) t.root) 0 = 1 := by simp only [fullF]; exact if_pos (by omega)
      rw [e1, e2]
      have h1 := hI.len
      have h2 := hv.root
      refine ⟨by simp [addPg, setPg], ?_⟩
      show ((u.pages.length : Int) + 1 = t.root) ↔ _
      constructor
      · intro h; omega
      · intro h; simp at h
  | i + 1, u, hI, hl => by
    have hkl := hI.kl
    by_cases h4 : (pgAt u ((pathF t key (htT t) t.root).getD (i + 1) 0)).keys.length ≤ 4
    · have e1 : putUp (pathF t key (htT t) t.root) (i + 1) u = u := by simp only [putUp]; exact if_pos h4
      have e2 : fullF t (pathF t key (htT t) t.root) (i + 1) = 0 := by simp only [fullF]; exact if_neg (by omega)
      rw [e1, e2]
      exact ⟨by simp, by simp [hI.root]⟩
    · have f1 := putUp_s h4
      have f2 : fullF t (pathF t key (htT t) t.root) (i + 1) = fullF t (pathF t key (htT t) t.root) i + 1 := by simp only [fullF]; exact if_pos (by omega)
      rw [f1, f2]
      obtain ⟨s1, _, s3, _, s7, s8, _⟩ := put_step hv hk hI (by omega) _ _ _ _ _ rfl rfl rfl rfl rfl
      have hcur : (pgAt (setPg (addPg (setPg u ((pathF t key (htT t) t.root).getD (i + 1) 0) (splP (pgAt u ((pathF t key (htT t) t.root).getD (i + 1) 0))).a) (splP (pgAt u ((pathF t key (htT t) t.root).getD (i + 1) 0))).b) ((pathF t key (htT t) t.root).getD i 0)
          (addK (pgAt (addPg (setPg u ((pathF t key (htT t) t.root).getD (i + 1) 0) (splP (pgAt u ((pathF t key (htT t) t.root).getD (i + 1) 0))).a) (splP (pgAt u ((pathF t key (htT t) t.root).getD (i + 1) 0))).b) ((pathF t key (htT t) t.root).getD i 0))
            ((pgAt (addPg (setPg u ((pathF t key (htT t) t.root).getD (i + 1) 0) (splP (pgAt u ((pathF t key (htT t) t.root).getD (i + 1) 0))).a) (splP (pgAt u ((pathF t key (htT t) t.root).getD (i + 1) 0))).b) ((pathF t key (htT t) t.root).getD i 0)).kids.idxOf ((pathF t key (htT t) t.root).getD (i + 1) 0))
            (splP (pgAt u ((pathF t key (htT t) t.root).getD (i + 1) 0))).key u.pages.length)) ((pathF t key (htT t) t.root).getD i 0)).keys.length = (pgAt t ((pathF t key (htT t) t.root).getD i 0)).keys.length + 1 := by
        have hpd := pathF_pd (key := key) hv.pd i (by have := hI.il; omega)
        have hr := hpd.rng
        have h1 := hI.len
        rw [pgAt_set (by simp only [addPg, setPg, List.length_append, List.length_set, List.length_singleton]; omega)]
        show (insL _ _ _).length = _
        rw [insL_len, s8]
        obtain ⟨h', hh'⟩ : ∃ h', htT t - i = h' + 1 := ⟨htT t - i - 1, by have := hI.il; omega⟩
        rw [hh'] at hpd
        have := hpd.inn.kids
        rw [s1] at s3 ⊢
        omega
      obtain ⟨e1, e2⟩ := putUp_full hv hk i _ s7 hcur
      have hf := fullF_le t (pathF t key (htT t) t.root) i
      refine ⟨?_, ?_⟩
      · rw [e1]
        simp only [setPg, addPg, List.length_set, List.length_append, List.length_singleton]
        split <;> split <;> omega
      · rw [e2]
        constructor <;> intro h <;> omega

noncomputable def splitsV (t : Tr) (key : Int) : Int :=
  if vTr t = true ∧ inR key 0 99 = true then (if key ∈ (pgAt t (leafT t key)).keys then 0 else (fullF t (pathF t key (htT t) t.root) (htT t) : Int)) else -1

theorem putT_splits {t : Tr} (hv : TV t) {key : Int} (hk : 0 ≤ key ∧ key ≤ 99) :
    ((putT t (key, 0)).pages.length : Int) - t.pages.length - (if (putT t (key, 0)).root ≠ t.root then 1 else 0) = if key ∈ (pgAt t (leafT t key)).keys then 0 else (fullF t (pathF t key (htT t) t.root) (htT t) : Int) := by
  have hI := put_start (b := 0) hv hk (by omega)
  have hlast := pathF_last t key (htT t) t.root
  have hpd := leafF_pd (key := key) hv.pd
  have hr := hpd.rng
  have hcur : pgAt (putL t (key, 0)) ((pathF t key (htT t) t.root).getD (htT t) 0) = leafP (putV (prP (pgAt t (leafT t key))) (key, 0)) := by
    rw [hlast]
    exact pgAt_set (by show (leafF t key (htT t) t.root).toNat < t.pages.length; omega)
  have hkl : (leafP (putV (prP (pgAt t (leafT t key))) (key, 0))).keys.length = (putV (prP (pgAt t (leafT t key))) (key, 0)).length := keysP_len _
  have hll : (putL t (key, 0)).pages.length = t.pages.length := by simp [putL, setPg]
  rw [putV_klen, prP_len, prP_keys] at hkl
  have hma := mem_at (k := key) (vk_iff.1 hpd.leaf.vk)
  have hg : ∀ _ : cntB (pgAt t (leafT t key)).keys key < (pgAt t (leafT t key)).keys.length, ((prP (pgAt t (leafT t key))).getD (cntB (pgAt t (leafT t key)).keys key) default).1 = (pgAt t (leafT t key)).keys.getD (cntB (pgAt t (leafT t key)).keys key) 0 := by
    intro hlt
    simp [prP, hlt]
  by_cases hm : key ∈ (pgAt t (leafT t key)).keys
  · rw [if_pos hm]
    obtain ⟨m1, m2⟩ := hma.1 hm
    rw [if_pos ⟨m1, (hg m1).trans m2⟩] at hkl
    have h4 : (pgAt (putL t (key, 0)) ((pathF t key (htT t) t.root).getD (htT t) 0)).keys.length ≤ 4 := by
      rw [hcur, hkl]; exact hpd.leaf.len
    have e : putT t (key, 0) = putL t (key, 0) := by
      unfold putT
      cases hh : htT t with
      | zero => rw [hh] at h4; simp only [putUp]; exact if_pos h4
      | succ n => rw [hh] at h4; simp only [putUp]; exact if_pos h4
    rw [e, hll]
    simp [putL, setPg]
  · rw [if_neg hm]
    rw [if_neg (fun hh => hm (hma.2 ⟨hh.1, (hg hh.1).symm.trans hh.2⟩))] at hkl
    obtain ⟨e1, e2⟩ := putUp_full hv hk (htT t) _ hI (by rw [hcur, hkl, hlast])
    have e1' : (putT t (key, 0)).pages.length = _ := e1
    have e2' : (putT t (key, 0)).root = t.root ↔ _ := e2
    rw [e1', hll]
    by_cases hf : fullF t (pathF t key (htT t) t.root) (htT t) = htT t + 1
    · rw [if_pos hf, if_pos (fun h => (e2'.1 h) hf)]
      omega
    · rw [if_neg hf, if_neg (fun h => h (e2'.2 hf))]
      omega
end Go.TM
