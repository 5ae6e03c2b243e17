/- Contracts, 32 33 34. -/
import Derived.Test.YtbpfagbihffmbaaF69
/- Trees, in plain words: pages are taken out, and all others numbered anew. -/
namespace Go.TM
set_option linter.unusedVariables false
set_option linter.unusedSimpArgs false

def decK (x k : Int) : Int := k - if k > x then 1 else 0
/-- How many numbers below one are not gone. -/
def cntK (g : List Int) (x : Int) : Int := ((List.range x.toNat).filter fun (i : Nat) => !decide ((i : Int) ∈ g)).length
def renP (f : Int → Int) (p : Pg) : Pg := ⟨p.keys, p.kids.map f, p.vals⟩

/-- All pages that are gone are taken out at once. -/
def wog (u : Tr) (g : List Int) : Tr := ⟨cntK g u.root, ((List.range u.pages.length).filter fun (i : Nat) => !decide ((i : Int) ∈ g)).map fun i => renP (cntK g) (u.pages.getD i default)⟩
/-- One page is taken out. -/
def cut1 (u : Tr) (x : Int) : Tr := ⟨decK x u.root, ((List.range u.pages.length).filter fun (i : Nat) => !decide ((i : Int) = x)).map fun i => renP (decK x) (u.pages.getD i default)⟩
/-- .. and one after the other. -/
def cutN : Nat → List Int → Tr → Tr
  | 0, _, u => u
  | _ + 1, [], u => u
  | n + 1, x :: g, u => cutN n (g.map (decK x)) (cut1 u x)
def cutAll (g : List Int) (u : Tr) : Tr := cutN g.length g u
theorem cutAll_nil (u : Tr) : cutAll [] u = u := rfl
theorem cutAll_cons (x : Int) (g : List Int) (u : Tr) : cutAll (x :: g) u = cutAll (g.map (decK x)) (cut1 u x) := by
  show cutN g.length (g.map (decK x)) (cut1 u x) = cutN (g.map (decK x)).length (g.map (decK x)) (cut1 u x)
  rw [List.length_map]

def unN (x i : Nat) : Nat := if i < x then i else i + 1

/-- The numbers that are left, without one of them. -/
theorem un_range {x : Nat} {P Q : Nat → Bool} (h1 : ∀ i, i < x → Q i = P i) (h2 : Q x = false) (h3 : ∀ i, x ≤ i → Q (i + 1) = P i) : ∀ r, (List.range r).filter Q = ((List.range (if x < r then r - 1 else r)).filter P).map (unN x)
  | 0 => by simp
  | r + 1 => by
    have ih := un_range h1 h2 h3 r
    rw [List.range_succ, List.filter_append, ih]
    rcases Nat.lt_trichotomy r x with h | h | h
    · rw [if_neg (by omega), if_neg (by omega), List.range_succ, List.filter_append, List.map_append]
      congr 1
      simp only [List.filter_cons, List.filter_nil, h1 r h]
      cases P r
      · rfl
      · simp [unN, h]
    · subst h
      rw [if_neg (by omega), if_pos (by omega)]
      simp [List.filter_cons, h2]
    · obtain ⟨k, rfl⟩ : ∃ k, r = k + 1 := ⟨r - 1, by omega⟩
      rw [if_pos (by omega), if_pos (by omega), show k + 1 + 1 - 1 = k + 1 from rfl, show k + 1 - 1 = k from rfl, List.range_succ, List.filter_append, List.map_append]
      congr 1
      simp only [List.filter_cons, List.filter_nil, h3 k (by omega)]
      cases P k
      · rfl
      · simp [unN, show ¬ k < x by omega]

theorem mem_dec {g : List Int} {x : Int} (hg : x ∉ g) {k : Int} : (k < x → (k ∈ g.map (decK x) ↔ k ∈ g)) ∧ (x ≤ k → (k ∈ g.map (decK x) ↔ k + 1 ∈ g)) := by
  constructor <;> intro h <;> rw [List.mem_map] <;> constructor
  · rintro ⟨y, hy, he⟩
    have hne : y ≠ x := fun e => hg (e ▸ hy)
    unfold decK at he
    split at he
    · omega
    · obtain rfl : y = k := by omega
      exact hy
  · intro hk
    exact ⟨k, hk, by unfold decK; rw [if_neg (by omega)]; omega⟩
  · rintro ⟨y, hy, he⟩
    have hne : y ≠ x := fun e => hg (e ▸ hy)
    unfold decK at he
    split at he
    · obtain rfl : y = k + 1 := by omega
      exact hy
    · omega
  · intro hk
    exact ⟨k + 1, hk, by unfold decK; rw [if_pos (by omega)]; omega⟩

theorem left_un {g : List Int} {x : Nat} (hg : (x : Int) ∉ g) (r : Nat) : (List.range r).filter (fun (i : Nat) => !decide ((i : Int) ∈ (x : Int) :: g)) =
    ((List.range (if x < r then r - 1 else r)).filter fun (i : Nat) => !decide ((i : Int) ∈ g.map (decK x))).map (unN x) := by
  refine un_range (fun i hi => ?_) ?_ (fun i hi => ?_) r
  · congr 1
    rw [decide_eq_decide, (mem_dec hg).1 (by omega), List.mem_cons]
    constructor
    · rintro (h | h)
      · omega
      · exact h
    · exact .inr
  · simp
  · congr 1
    rw [decide_eq_decide, (mem_dec hg).2 (by omega), List.mem_cons]
    constructor
    · rintro (h | h)
      · omega
      · exact_mod_cast h
    · intro h
      exact .inr (by exact_mod_cast h)

theorem cnt_dec {g : List Int} {x : Nat} (hg : (x : Int) ∉ g) {k : Int} (hk : 0 ≤ k) : cntK (g.map (decK x)) (decK x k) = cntK ((x : Int) :: g) k := by
  unfold cntK
  rw [left_un hg, List.length_map]
  have : (decK x k).toNat = if x < k.toNat then k.toNat - 1 else k.toNat := by
    unfold decK
    split <;> split <;> omega
  rw [this]

theorem cnt_nil {k : Int} (hk : 0 ≤ k) : cntK [] k = k := by
  unfold cntK
  rw [List.filter_eq_self.2 (by simp), List.length_range]
  omega

theorem dec_nonneg {x : Nat} {k : Int} (hk : 0 ≤ k) : 0 ≤ decK x k := by
  unfold decK
  split <;> omega

theorem dec_nodup {g : List Int} {x : Int} (hg : x ∉ g) (hn : g.Nodup) : (g.map (decK x)).Nodup := by
  induction g with
  | nil => simp
  | cons y g ih =>
    rw [List.nodup_cons] at hn
    rw [List.map_cons, List.nodup_cons]
    refine ⟨fun hm => ?_, ih (fun h => hg (List.mem_cons_of_mem _ h)) hn.2⟩
    obtain ⟨z, hz, he⟩ := List.mem_map.1 hm
    have hy : y ≠ x := fun e => hg (e ▸ List.mem_cons_self)
    have hzx : z ≠ x := fun e => hg (e ▸ List.mem_cons_of_mem _ hz)
    have : z = y := by
      unfold decK at he
      split at he <;> split at he <;> omega
    exact hn.1 (this ▸ hz)

theorem cut1_pages {u : Tr} {x : Nat} (hx : x < u.pages.length) : (cut1 u x).pages = (List.range (u.pages.length - 1)).map fun i => renP (decK x) (u.pages.getD (unN x i) default) := by
  show ((List.range u.pages.length).filter fun (i : Nat) => !decide ((i : Int) = x)).map _ = _
  have h := un_range (x := x) (P := fun _ => true) (Q := fun i => !decide ((i : Int) = x)) (fun i hi => by simp; omega) (by simp) (fun i hi => by simp; omega) u.pages.length
  rw [h, if_pos hx, List.map_map, List.filter_eq_self.2 (by simp)]
  rfl

theorem cut1_len {u : Tr} {x : Nat} (hx : x < u.pages.length) : (cut1 u x).pages.length = u.pages.length - 1 := by
  rw [cut1_pages hx]; simp

/-- All at once, or one after the other: the same. -/
theorem cutAll_eq : ∀ (n : Nat) (g : List Int) (u : Tr), g.length = n → g.Nodup → (∀ x ∈ g, 0 ≤ x ∧ x < u.pages.length) → 0 ≤ u.root → (∀ p ∈ u.pages, ∀ k ∈ p.kids, 0 ≤ k) → cutAll g u = wog u g
  | 0, g, u, hl, _, _, hr, hk => by
    obtain rfl := List.length_eq_zero_iff.1 hl
    rw [cutAll_nil]
    obtain ⟨r, ps⟩ := u
    simp only [wog, cnt_nil hr, Tr.mk.injEq, true_and]
    rw [List.filter_eq_self.2 (by simp)]
    refine list_ext (d := default) (by simp) fun i hi => ?_
    simp only [List.length_map, List.length_range] at hi
    dsimp only at hk
    have hm : ps[i] ∈ ps := List.getElem_mem hi
    have e : renP (cntK []) ps[i] = ps[i] := by
      generalize ps[i] = q at hm
      obtain ⟨a, b, c⟩ := q
      have hb : b.map (cntK []) = b := (List.map_congr_left fun k hkk => cnt_nil (hk _ hm k hkk)).trans (List.map_id' b)
      simp only [renP, hb]
    simp [hi, e]
  | n + 1, [], u, hl, _, _, _, _ => by simp at hl
  | n + 1, x :: g, u, hl, hn, hr, hroot, hk => by
    rw [List.nodup_cons] at hn
    have hx := hr x List.mem_cons_self
    obtain ⟨x, rfl⟩ : ∃ m : Nat, x = m := ⟨x.toNat, by omega⟩
    have hxl : x < u.pages.length := by omega
    have hpg := cut1_pages hxl
    rw [cutAll_cons, cutAll_eq n _ _ (by simpa using hl) (dec_nodup hn.1 hn.2) (fun y hy => ?_) (dec_nonneg hroot) ?_]
    · have hlen := cut1_len hxl
      unfold wog
      simp only [Tr.mk.injEq]
      refine ⟨cnt_dec hn.1 hroot, ?_⟩
      rw [hlen, left_un hn.1, if_pos hxl, List.map_map]
      refine List.map_congr_left fun i hi => ?_
      have hi' : i < u.pages.length - 1 := List.mem_range.1 (List.mem_filter.1 hi).1
      have e1 : (cut1 u x).pages.getD i default = renP (decK x) (u.pages.getD (unN x i) default) := by
        rw [hpg]
        simp [hi']
      have hun : unN x i < u.pages.length := by unfold unN; split <;> omega
      rw [e1]
      show renP _ (renP _ _) = renP _ (u.pages.getD (unN x i) default)
      simp only [renP, List.map_map, Pg.mk.injEq, true_and, and_true]
      refine List.map_congr_left fun k hkk => ?_
      refine cnt_dec hn.1 (hk _ ?_ k hkk)
      simp [hun]
    · intro p hp k hkk
      rw [hpg] at hp
      obtain ⟨i, hi, rfl⟩ := List.mem_map.1 hp
      rw [List.mem_range] at hi
      obtain ⟨k0, hk0, rfl⟩ := List.mem_map.1 hkk
      have hun : unN x i < u.pages.length := by unfold unN; split <;> omega
      exact dec_nonneg (hk _ (by simp [hun]) k0 hk0)
    · obtain ⟨z, hz, rfl⟩ := List.mem_map.1 hy
      have h1 := hr z (List.mem_cons_of_mem _ hz)
      have hne : z ≠ x := fun e => hn.1 (e ▸ hz)
      rw [cut1_len hxl]
      unfold decK
      split <;> omega
end Go.TM
/- Trees, in plain words: a key is dropped. -/
namespace Go.TM
set_option linter.unusedVariables false
set_option linter.unusedSimpArgs false
set_option maxHeartbeats 4000000

def bothP (a : Pg) (k : Int) (b : Pg) : Pg := ⟨a.keys ++ k :: b.keys, a.kids ++ b.kids, []⟩
def joinP (a : Pg) (k : Int) (b : Pg) : Pg := if a.kids.length = 0 then leafP (prP a ++ prP b) else bothP a k b
def cutK (p : Pg) (pl : Nat) : Pg := ⟨p.keys.take (pl - 1) ++ p.keys.drop pl, p.kids.take pl ++ p.kids.drop (pl + 1), []⟩

/-- Two kids of a page, at the places f and f+1, are put together, or get their keys anew. -/
def mendF (t : Tr) (up : Int) (f : Nat) : Tr × Option Int :=
  let p := pgAt t up
  let a := p.kids.getD f 0
  let b := p.kids.getD (f + 1) 0
  let q := joinP (pgAt t a) (p.keys.getD f 0) (pgAt t b)
  if q.keys.length ≤ 4 then (setPg (setPg t a q) up (cutK p (f + 1)), some b)
  else (setPg (setPg (setPg t a (splP q).a) b (splP q).b) up ⟨p.keys.set f (splP q).key, p.kids, p.vals⟩, none)

def dropUp (path : List Int) : Nat → Tr → List Int → Tr × List Int
  | 0, t, g => (t, g)
  | i + 1, t, g =>
    if 2 ≤ (pgAt t (path.getD (i + 1) 0)).keys.length then (t, g) else
    let r := mendF t (path.getD i 0) ((pgAt t (path.getD i 0)).kids.idxOf (path.getD (i + 1) 0) - 1)
    dropUp path i r.1 (g ++ r.2.toList)

/-- A root without keys is left out. -/
def dropR (r : Tr × List Int) : Tr × List Int := if (pgAt r.1 r.1.root).kids.length = 1 then (⟨(pgAt r.1 r.1.root).kids.getD 0 0, r.1.pages⟩, r.2 ++ [r.1.root]) else r

def remP (r : List Pr) (k : Int) : List Pr := r.take (cntB (keysP r) k) ++ r.drop (cntB (keysP r) k + 1)
def dropL (t : Tr) (key : Int) : Tr := setPg t (leafT t key) (leafP (remP (prP (pgAt t (leafT t key))) key))
def dropM (t : Tr) (key : Int) : Tr × List Int := dropUp (pathF t key (htT t) t.root) (htT t) (dropL t key) []
def dropT (t : Tr) (key : Int) : Tr := wog (dropR (dropM t key)).1 (dropR (dropM t key)).2

/-! ### Levels of a tree -/

theorem flat_disj {f : Int → List Int} : ∀ {xs : List Int} {a b z : Int}, (xs.flatMap f).Nodup → a ∈ xs → b ∈ xs → a ≠ b → z ∈ f a → z ∈ f b → False
  | [], _, _, _, _, h, _, _, _, _ => by cases h
  | x :: xs, a, b, z, hn, ha, hb, hne, hza, hzb => by
    rw [List.flatMap_cons, List.nodup_append] at hn
    obtain ⟨n1, n2, n3⟩ := hn
    rcases List.mem_cons.1 ha with ha' | ha'
    · rcases List.mem_cons.1 hb with hb' | hb'
      · exact hne (ha'.trans hb'.symm)
      · rw [ha'] at hza
        exact n3 z hza z (List.mem_flatMap.2 ⟨b, hb', hzb⟩) rfl
    · rcases List.mem_cons.1 hb with hb' | hb'
      · rw [hb'] at hzb
        exact n3 z hzb z (List.mem_flatMap.2 ⟨a, ha', hza⟩) rfl
      · exact flat_disj n2 ha' hb' hne hza hzb

theorem kid_mem {t : Tr} {h : Nat} {x : Int} (hi : PInn t h x) (key : Int) : kidOf t key x ∈ (pgAt t x).kids := by
  refine getD_mem ?_
  have := cntU_le (pgAt t x).keys key
  have := hi.kids
  omega

/-- What is below a path's page is below the path's first page, and is not this page. -/
theorem below_ne {t : Tr} {key : Int} : ∀ {h : Nat} {x : Int} {i : Nat}, PD t h x → i < h → ∀ z ∈ (pgAt t ((pathF t key h x).getD i 0)).kids, z ∈ wk t h x ∧ z ≠ x
  | 0, _, _, _, hi, _, _ => by omega
  | h + 1, x, 0, hd, _, z, hz => by
    simp only [pathF, List.getD_cons_zero] at hz
    have hn := hd.nd
    simp only [wk, List.nodup_cons] at hn
    have hm : z ∈ (pgAt t x).kids.flatMap (wk t h) := List.mem_flatMap.2 ⟨z, hz, wk_self t h z⟩
    exact ⟨by simp only [wk, List.mem_cons]; exact .inr hm, fun e => hn.1 (e ▸ hm)⟩
  | h + 1, x, i + 1, hd, hi, z, hz => by
    simp only [pathF, List.getD_cons_succ] at hz
    have hn := hd.nd
    simp only [wk, List.nodup_cons] at hn
    obtain ⟨h1, _⟩ := below_ne (hd.inn.kid key) (i := i) (by omega) z hz
    have hm : z ∈ (pgAt t x).kids.flatMap (wk t h) := List.mem_flatMap.2 ⟨_, kid_mem hd.inn key, h1⟩
    exact ⟨by simp only [wk, List.mem_cons]; exact .inr hm, fun e => hn.1 (e ▸ hm)⟩

/-- Kids of different pages of a path are different. -/
theorem level_ne {t : Tr} {key : Int} : ∀ {h : Nat} {x : Int} {i j : Nat}, PD t h x → j < i → i < h → ∀ y ∈ (pgAt t ((pathF t key h x).getD j 0)).kids, ∀ z ∈ (pgAt t ((pathF t key h x).getD i 0)).kids, y ≠ z
  | 0, _, _, _, _, _, hi, _, _, _, _ => by omega
  | h + 1, x, 0, _, _, hj, _, _, _, _, _ => by omega
  | h + 1, x, i + 1, 0, hd, _, hi, y, hy, z, hz => by
    simp only [pathF, List.getD_cons_zero] at hy
    simp only [pathF, List.getD_cons_succ] at hz
    have hn := hd.nd
    simp only [wk, List.nodup_cons] at hn
    obtain ⟨h1, h2⟩ := below_ne (hd.inn.kid key) (i := i) (by omega) z hz
    rintro rfl
    by_cases hc : y = kidOf t key x
    · exact h2 hc
    · exact flat_disj hn.2 hy (kid_mem hd.inn key) hc (wk_self t h y) h1
  | h + 1, x, i + 1, j + 1, hd, hj, hi, y, hy, z, hz => by
    simp only [pathF, List.getD_cons_succ] at hy hz
    exact level_ne (hd.inn.kid key) (by omega) (by omega) y hy z hz

/-- A path's page is not below a lower one. -/
theorem above_ne {t : Tr} {key : Int} : ∀ {h : Nat} {x : Int} {i j : Nat}, PD t h x → j ≤ i → i < h → ∀ z ∈ (pgAt t ((pathF t key h x).getD i 0)).kids, z ≠ (pathF t key h x).getD j 0
  | 0, _, _, _, _, _, hi, _, _ => by omega
  | h + 1, x, i, 0, hd, _, hi, z, hz => by
    have := (below_ne hd hi z hz).2
    simpa [pathF] using this
  | h + 1, x, 0, j + 1, _, hj, _, _, _ => by omega
  | h + 1, x, i + 1, j + 1, hd, hj, hi, z, hz => by
    simp only [pathF, List.getD_cons_succ] at hz ⊢
    exact above_ne (hd.inn.kid key) (by omega) (by omega) z hz

/-! ### What holds while pages are mended -/

structure DropInv (t : Tr) (key : Int) (i : Nat) (u : Tr) (g : List Int) : Prop where
  il : i ≤ htT t
  len : u.pages.length = t.pages.length
  root : u.root = t.root
  same : ∀ j, j < i → pgAt u ((pathF t key (htT t) t.root).getD j 0) = pgAt t ((pathF t key (htT t) t.root).getD j 0)
  sib : ∀ j, j < i → ∀ y ∈ (pgAt t ((pathF t key (htT t) t.root).getD j 0)).kids, y ≠ (pathF t key (htT t) t.root).getD (j + 1) 0 → pgAt u y = pgAt t y
  kl : (pgAt u ((pathF t key (htT t) t.root).getD i 0)).keys.length ≤ 4
  leaf : i = htT t → (pgAt u ((pathF t key (htT t) t.root).getD i 0)).kids = [] ∧ (pgAt u ((pathF t key (htT t) t.root).getD i 0)).vals.length = (pgAt u ((pathF t key (htT t) t.root).getD i 0)).keys.length ∧
    allR (pgAt u ((pathF t key (htT t) t.root).getD i 0)).vals (-1000) 1000 = true ∧ Asc (pgAt u ((pathF t key (htT t) t.root).getD i 0)).keys (bdF t key i t.root 0 99).1 (bdF t key i t.root 0 99).2
  inn : i < htT t → (pgAt u ((pathF t key (htT t) t.root).getD i 0)).vals = [] ∧ (pgAt u ((pathF t key (htT t) t.root).getD i 0)).kids.length = (pgAt u ((pathF t key (htT t) t.root).getD i 0)).keys.length + 1
  kids : ∀ y : Int, ∀ k ∈ (pgAt u y).kids, 0 ≤ k ∧ k < u.pages.length
  gn : g.Nodup
  gm : ∀ x ∈ g, ∃ j, i ≤ j ∧ j < htT t ∧ x ∈ (pgAt t ((pathF t key (htT t) t.root).getD j 0)).kids

theorem prP_vRow {a b : Pg} {lo mid hi : Int} (ha : Asc a.keys lo (mid - 1)) (hb : Asc b.keys mid hi) (h1 : lo ≤ mid) (h2 : mid ≤ hi + 1) (h0 : 0 ≤ lo) (h9 : hi ≤ 99) (hl : a.keys.length + b.keys.length ≤ 24)
    (va : a.vals.length = a.keys.length) (vb : b.vals.length = b.keys.length) (ra : allR a.vals (-1000) 1000 = true) (rb : allR b.vals (-1000) 1000 = true) : vRow (prP a ++ prP b) = true := by
  have hmem : ∀ p : Pg, p.vals.length = p.keys.length → allR p.vals (-1000) 1000 = true → ∀ z ∈ prP p, inR z.2 (-1000) 1000 = true := by
    intro p hv hr z hz
    obtain ⟨i, hi, rfl⟩ := List.mem_map.1 hz
    rw [List.mem_range] at hi
    exact List.all_eq_true.1 hr _ (getD_mem (by rw [hv]; exact hi))
  have hk : vk (keysP (prP a ++ prP b)) = true := by
    have e : keysP (prP a ++ prP b) = a.keys ++ b.keys := by
      have h1 := prP_keys a
      have h2 := prP_keys b
      simp only [keysP] at h1 h2 ⊢
      rw [List.map_append, h1, h2]
    rw [e]
    have := Asc.app ha hb h1 h2
    exact vk_asc.2 ⟨this.1, fun y hy => by have := this.2 y hy; omega⟩
  unfold vRow
  rw [Bool.and_eq_true, Bool.and_eq_true, List.all_eq_true, decide_eq_true_eq]
  refine ⟨fun z hz => ?_, by rw [List.length_append, prP_len, prP_len]; exact hl, hk⟩
  rcases List.mem_append.1 hz with hz | hz
  · exact hmem a va ra z hz
  · exact hmem b vb rb z hz

/-- What is known of two kids that are to be mended. -/
structure Two (t : Tr) (leaf : Bool) (p : Pg) (f : Nat) (a b : Int) : Prop where
  f : f + 1 ≤ p.keys.length
  kids : p.kids.length = p.keys.length + 1
  kl : p.keys.length ≤ 4
  ra : 0 ≤ a ∧ a < t.pages.length
  rb : 0 ≤ b ∧ b < t.pages.length
  ka : (pgAt t a).keys.length ≤ 4
  kb : (pgAt t b).keys.length ≤ 4
  leaf1 : leaf = true → ((pgAt t a).kids = [] ∧ (pgAt t a).vals.length = (pgAt t a).keys.length) ∧ ((pgAt t b).kids = [] ∧ (pgAt t b).vals.length = (pgAt t b).keys.length) ∧ vRow (prP (pgAt t a) ++ prP (pgAt t b)) = true
  inn : leaf = false → (pgAt t a).kids.length = (pgAt t a).keys.length + 1 ∧ (pgAt t b).kids.length = (pgAt t b).keys.length + 1 ∧ (pgAt t a).vals = [] ∧ (pgAt t b).vals = []

theorem drop_step {t : Tr} (hv : TV t) {key : Int} {i : Nat} {u : Tr} {g : List Int} (hI : DropInv t key (i + 1) u g) :
    ∀ x y p f a b, x = (pathF t key (htT t) t.root).getD (i + 1) 0 → y = (pathF t key (htT t) t.root).getD i 0 → p = pgAt u y → f = p.kids.idxOf x - 1 → a = p.kids.getD f 0 → b = p.kids.getD (f + 1) 0 →
      (0 ≤ y ∧ y < u.pages.length) ∧ p.kids.idxOf x < p.kids.length ∧ (a ≠ b ∧ a ≠ y ∧ b ≠ y) ∧ Two u (decide (i + 1 = htT t)) p f a b ∧ DropInv t key i (mendF u y f).1 (g ++ (mendF u y f).2.toList) := by
  intro x y p f a b hx hy hp hf ha hb
  have hil := hI.il
  have hpd := pathF_pd (key := key) hv.pd i (by omega)
  rw [← hy] at hpd
  obtain ⟨h', hh'⟩ : ∃ h', htT t - i = h' + 1 := ⟨htT t - i - 1, by omega⟩
  rw [hh'] at hpd
  have hinn := hpd.inn
  have hlen := hI.len
  have hp' : p = pgAt t y := by rw [hp, hy]; exact hI.same i (by omega)
  have hxk : x = p.kids.getD (cntU p.keys key) 0 := by rw [hx, path_succ i _ _ (by omega), ← hy, hp']
  have hpl : cntU p.keys key ≤ p.keys.length := cntU_le _ _
  have hkl : p.kids.length = p.keys.length + 1 := by rw [hp']; exact hinn.kids
  have hk1 : 1 ≤ p.keys.length ∧ p.keys.length ≤ 4 := by rw [hp']; exact hinn.len
  have hpn : p.kids.Nodup := by rw [hp']; exact hinn.nd
  have hidx : p.kids.idxOf x = cntU p.keys key := by rw [hxk]; exact idx_get hpn (by omega)
  have hf' : f = cntU p.keys key - 1 := by rw [hf, hidx]
  have ham : a ∈ p.kids := by rw [ha]; exact getD_mem (by omega)
  have hbm : b ∈ p.kids := by rw [hb]; exact getD_mem (by omega)
  have ham' : a ∈ (pgAt t y).kids := by rw [← hp']; exact ham
  have hbm' : b ∈ (pgAt t y).kids := by rw [← hp']; exact hbm
  have hia : p.kids.idxOf a = f := by rw [ha]; exact idx_get hpn (by omega)
  have hib : p.kids.idxOf b = f + 1 := by rw [hb]; exact idx_get hpn (by omega)
  have hab : a ≠ b := by
    intro e
    rw [e, hib] at hia
    omega
  have hay : a ≠ y := by
    have := above_ne (key := key) hv.pd (i := i) (j := i) (Nat.le_refl _) (by omega) a (by rw [← hy]; exact ham')
    rwa [← hy] at this
  have hby : b ≠ y := by
    have := above_ne (key := key) hv.pd (i := i) (j := i) (Nat.le_refl _) (by omega) b (by rw [← hy]; exact hbm')
    rwa [← hy] at this
  have hpa := hinn.pd a ham'
  have hpb := hinn.pd b hbm'
  have hra := hpa.rng
  have hrb := hpb.rng
  have hry := hpd.rng
  -- the pages as they are now
  have hsame : ∀ z, z ∈ p.kids → z ≠ x → pgAt u z = pgAt t z := by
    intro z hz hne
    exact hI.sib i (by omega) z (by rw [← hy, ← hp']; exact hz) (by rw [← hx]; exact hne)
  have hpf := bd_pf (t := t) (key := key) (i := i) (h := htT t) (by omega) hv.pf
  rw [← hy, hh'] at hpf
  obtain ⟨q1, q2, q3⟩ := pf_succ.1 hpf
  obtain ⟨b1, b2, b3, b4⟩ := headOk_iff.1 q1
  rw [← hp'] at q3 b1 b2 b3
  have hbd := bd_succ (t := t) (key := key) i (htT t) t.root 0 99 (by omega)
  rw [← hy] at hbd
  have hgen : ∀ j, j < p.kids.length → (pgAt u (p.kids.getD j 0)).keys.length ≤ 4 ∧
      (i + 1 = htT t → (pgAt u (p.kids.getD j 0)).kids = [] ∧ (pgAt u (p.kids.getD j 0)).vals.length = (pgAt u (p.kids.getD j 0)).keys.length ∧ allR (pgAt u (p.kids.getD j 0)).vals (-1000) 1000 = true ∧
        Asc (pgAt u (p.kids.getD j 0)).keys (lowK p.keys j (bdF t key i t.root 0 99).1) (topK p.keys j (bdF t key i t.root 0 99).2)) ∧
      (i + 1 < htT t → (pgAt u (p.kids.getD j 0)).vals = [] ∧ (pgAt u (p.kids.getD j 0)).kids.length = (pgAt u (p.kids.getD j 0)).keys.length + 1) := by
    intro j hj
    by_cases he : p.kids.getD j 0 = x
    · have hjj : j = cntU p.keys key := by
        have := idx_get hpn hj
        rw [he, hidx] at this
        omega
      have k1 := hI.kl
      have k2 := hI.leaf
      have k3 := hI.inn
      rw [← hx] at k1 k2 k3
      rw [he]
      refine ⟨k1, fun h => ?_, fun h => ?_⟩
      · obtain ⟨c1, c2, c3, c4⟩ := k2 h
        rw [hbd] at c4
        simp only [lowP, topP, ← hp'] at c4
        rw [hjj]
        exact ⟨c1, c2, c3, c4⟩
      · exact k3 h
    · have hz := hsame _ (getD_mem hj) he
      have hpz := hinn.pd (p.kids.getD j 0) (by rw [← hp']; exact getD_mem hj)
      have hq3 := q3 j hj
      rw [hz]
      refine ⟨?_, fun h => ?_, fun h => ?_⟩
      · have := headOk_iff.1 (pf_head hq3)
        exact this.2.1
      · obtain rfl : h' = 0 := by omega
        have hl := hpz.leaf
        refine ⟨hl.kids, hl.vals, hl.vrng, pw_of_vk hl.vk, fun z hz => ?_⟩
        have := (headOk_iff.1 (pf_head hq3)).2.2.1
        exact inR_iff.1 (List.all_eq_true.1 this z hz)
      · obtain ⟨h2, rfl⟩ : ∃ h2, h' = h2 + 1 := ⟨h' - 1, by omega⟩
        have hi2 := hpz.inn
        exact ⟨hi2.vals, hi2.kids⟩
  obtain ⟨ga1, ga2, ga3⟩ := hgen f (by omega)
  obtain ⟨gb1, gb2, gb3⟩ := hgen (f + 1) (by omega)
  rw [← ha] at ga1 ga2 ga3
  rw [← hb] at gb1 gb2 gb3
  have hbk := bd_pf (t := t) (key := key) (i := i) (h := htT t) (by omega) hv.pf
  have hlow : ∀ j, 0 ≤ (bdF t key j t.root 0 99).1 ∧ (bdF t key j t.root 0 99).2 ≤ 99 ∨ htT t < j := by
    intro j
    induction j with
    | zero => left; simp [bdF]
    | succ j ih =>
      rcases ih with ih | ih
      · by_cases hj : j < htT t
        · left
          have hpj := pathF_pd (key := key) hv.pd j (by omega)
          obtain ⟨h2, hh2⟩ : ∃ h2, htT t - j = h2 + 1 := ⟨htT t - j - 1, by omega⟩
          rw [hh2] at hpj
          have hvj := hpj.inn.vk
          rw [bd_succ j (htT t) _ _ _ hj]
          simp only [lowP, topP, lowK, topK]
          constructor
          · split
            · refine (VK_bounds hvj ?_).1
              have := cntU_le (pgAt t ((pathF t key (htT t) t.root).getD j 0)).keys key
              omega
            · exact ih.1
          · split
            · rename_i hlt
              have := (VK_bounds hvj hlt).2
              omega
            · exact ih.2
        · right; omega
      · right; omega
  have hbd0 : 0 ≤ (bdF t key i t.root 0 99).1 ∧ (bdF t key i t.root 0 99).2 ≤ 99 := by
    rcases hlow i with h | h
    · exact h
    · omega
  have hkr := allR_get.1 b3
  have hTwo : Two u (decide (i + 1 = htT t)) p f a b := by
    refine ⟨by omega, hkl, hk1.2, by omega, by omega, ga1, gb1, fun h => ?_, fun h => ?_⟩
    · have h := of_decide_eq_true h
      obtain ⟨x1, x2, x3, x4⟩ := ga2 h
      obtain ⟨y1, y2, y3, y4⟩ := gb2 h
      refine ⟨⟨x1, x2⟩, ⟨y1, y2⟩, ?_⟩
      rw [show topK p.keys f (bdF t key i t.root 0 99).2 = p.keys.getD f 0 - 1 from if_pos (by omega)] at x4
      rw [show lowK p.keys (f + 1) (bdF t key i t.root 0 99).1 = p.keys.getD f 0 from by simp [lowK]] at y4
      have hkf := hkr f (by omega)
      refine prP_vRow x4 y4 ?_ ?_ ?_ ?_ (by omega) x2 y2 x3 y3
      · unfold lowK
        split
        · have := vk_lt b1 (i := f - 1) (j := f) (by omega) (by omega)
          omega
        · exact hkf.1
      · unfold topK
        split
        · have := vk_lt b1 (i := f) (j := f + 1) (by omega) (by omega)
          omega
        · omega
      · unfold lowK
        split
        · exact (VK_bounds b1 (by omega)).1
        · exact hbd0.1
      · unfold topK
        split
        · have := (VK_bounds b1 (i := f + 1) (by omega)).2
          omega
        · exact hbd0.2
    · have h := of_decide_eq_false h
      obtain ⟨x1, x2⟩ := ga3 (by omega)
      obtain ⟨y1, y2⟩ := gb3 (by omega)
      exact ⟨x2, y2, x1, y1⟩
  refine ⟨by omega, by omega, ⟨hab, hay, hby⟩, hTwo, ?_⟩
  -- the pages afterwards
  have nab : a.toNat ≠ b.toNat := by omega
  have nay : a.toNat ≠ y.toNat := by omega
  have nby : b.toNat ≠ y.toNat := by omega
  have hoth : ∀ z : Int, z.toNat ≠ a.toNat → z.toNat ≠ b.toNat → z.toNat ≠ y.toNat → pgAt (mendF u y f).1 z = pgAt u z := by
    intro z h1 h2 h3
    simp only [mendF, ← hp, ← ha, ← hb]
    split
    · rw [pgAt_set_ne (Ne.symm h3), pgAt_set_ne (Ne.symm h1)]
    · rw [pgAt_set_ne (Ne.symm h3), pgAt_set_ne (Ne.symm h2), pgAt_set_ne (Ne.symm h1)]
  have hyy : ∃ kk, pgAt (mendF u y f).1 y = (if (joinP (pgAt u a) (p.keys.getD f 0) (pgAt u b)).keys.length ≤ 4 then cutK p (f + 1) else ⟨p.keys.set f kk, p.kids, p.vals⟩) := by
    refine ⟨(splP (joinP (pgAt u a) (p.keys.getD f 0) (pgAt u b))).key, ?_⟩
    simp only [mendF, ← hp, ← ha, ← hb]
    split
    · exact pgAt_set (by simp [setPg]; omega)
    · exact pgAt_set (by simp [setPg]; omega)
  have hlm : (mendF u y f).1.pages.length = u.pages.length := by
    simp only [mendF]
    split <;> simp [setPg]
  have hrm : (mendF u y f).1.root = u.root := by
    simp only [mendF]
    split <;> rfl
  have hpv : p.vals = [] := by rw [hp']; exact hinn.vals
  have hjk : ∀ k ∈ (joinP (pgAt u a) (p.keys.getD f 0) (pgAt u b)).kids, 0 ≤ k ∧ k < u.pages.length := by
    intro k hk
    unfold joinP at hk
    split at hk
    · cases hk
    · rcases List.mem_append.1 hk with hk | hk
      · exact hI.kids a k hk
      · exact hI.kids b k hk
  have hsk : ∀ q : Pg, (∀ k ∈ q.kids, 0 ≤ k ∧ k < (u.pages.length : Int)) → (∀ k ∈ (splP q).a.kids, 0 ≤ k ∧ k < (u.pages.length : Int)) ∧ ∀ k ∈ (splP q).b.kids, 0 ≤ k ∧ k < (u.pages.length : Int) := by
    intro q hq
    unfold splP
    split
    · exact ⟨fun k hk => (List.not_mem_nil hk).elim, fun k hk => (List.not_mem_nil hk).elim⟩
    · exact ⟨fun k hk => hq k (List.mem_of_mem_take hk), fun k hk => hq k (List.mem_of_mem_drop hk)⟩
  obtain ⟨kk, hyy⟩ := hyy
  have hpk : ∀ k ∈ p.kids, 0 ≤ k ∧ k < (u.pages.length : Int) := fun k hk => hI.kids y k (by rw [← hp]; exact hk)
  refine ⟨by omega, hlm.trans hlen, hrm.trans hI.root, fun j hj => ?_, fun j hj z hz hne => ?_, ?_, fun h => by omega, fun _ => ?_, fun z k hk => ?_, ?_, fun z hz => ?_⟩
  · have hjr := (pathF_pd (key := key) hv.pd j (by omega)).rng
    have n1 := above_ne (key := key) hv.pd (i := i) (j := j) (by omega) (by omega) a (by rw [← hy]; exact ham')
    have n2 := above_ne (key := key) hv.pd (i := i) (j := j) (by omega) (by omega) b (by rw [← hy]; exact hbm')
    have n3 : ((pathF t key (htT t) t.root).getD j 0).toNat ≠ y.toNat := by rw [hy]; exact path_ne hv (by omega) (by omega) (by omega)
    rw [hoth _ (by omega) (by omega) n3]
    exact hI.same j (by omega)
  · have hzr := (below_ne (key := key) hv.pd (i := j) (by omega) z hz).1
    have hzr' := hv.pd.wrng z hzr
    have n1 := level_ne (key := key) hv.pd hj (by omega) z hz a (by rw [← hy]; exact ham')
    have n2 := level_ne (key := key) hv.pd hj (by omega) z hz b (by rw [← hy]; exact hbm')
    have n3 : z ≠ y := by
      by_cases hji : j + 1 = i
      · rw [hy, ← hji]; exact hne
      · have hyk : y ∈ (pgAt t ((pathF t key (htT t) t.root).getD (i - 1) 0)).kids := by
          have hpi := pathF_pd (key := key) hv.pd (i - 1) (by omega)
          obtain ⟨h2, hh2⟩ : ∃ h2, htT t - (i - 1) = h2 + 1 := ⟨htT t - (i - 1) - 1, by omega⟩
          rw [hh2] at hpi
          have := kid_mem hpi.inn key
          have e := path_succ (t := t) (key := key) (i - 1) (htT t) t.root (by omega)
          rw [show i - 1 + 1 = i from by omega] at e
          rw [hy, e]
          exact this
        exact level_ne (key := key) hv.pd (i := i - 1) (j := j) (by omega) (by omega) z hz y hyk
    rw [hoth z (by omega) (by omega) (by omega)]
    exact hI.sib j (by omega) z hz hne
  · rw [← hy, hyy]
    split
    · show (p.keys.take (f + 1 - 1) ++ p.keys.drop (f + 1)).length ≤ 4
      simp; omega
    · show (p.keys.set f kk).length ≤ 4
      simp; omega
  · rw [← hy, hyy]
    split
    · refine ⟨rfl, ?_⟩
      show (p.kids.take (f + 1) ++ p.kids.drop (f + 1 + 1)).length = (p.keys.take (f + 1 - 1) ++ p.keys.drop (f + 1)).length + 1
      simp; omega
    · refine ⟨hpv, ?_⟩
      show p.kids.length = (p.keys.set f kk).length + 1
      simp; omega
  · rw [hlm]
    by_cases hzy : z.toNat = y.toNat
    · have e : pgAt (mendF u y f).1 z = pgAt (mendF u y f).1 y := by unfold pgAt; rw [hzy]
      rw [e, hyy] at hk
      split at hk
      · rcases List.mem_append.1 hk with hk | hk
        · exact hpk k (List.mem_of_mem_take hk)
        · exact hpk k (List.mem_of_mem_drop hk)
      · exact hpk k hk
    · by_cases hza : z.toNat = a.toNat
      · have e : pgAt (mendF u y f).1 z = pgAt (mendF u y f).1 a := by unfold pgAt; rw [hza]
        rw [e] at hk
        simp only [mendF, ← hp, ← ha, ← hb] at hk
        split at hk
        · rw [pgAt_set_ne (Ne.symm nay), pgAt_set (by omega)] at hk
          exact hjk k hk
        · rw [pgAt_set_ne (Ne.symm nay), pgAt_set_ne (Ne.symm nab), pgAt_set (by omega)] at hk
          exact (hsk _ hjk).1 k hk
      · by_cases hzb : z.toNat = b.toNat
        · have e : pgAt (mendF u y f).1 z = pgAt (mendF u y f).1 b := by unfold pgAt; rw [hzb]
          rw [e] at hk
          simp only [mendF, ← hp, ← ha, ← hb] at hk
          split at hk
          · rw [pgAt_set_ne (Ne.symm nby), pgAt_set_ne nab] at hk
            exact hI.kids b k hk
          · rw [pgAt_set_ne (Ne.symm nby), pgAt_set (by simp [setPg]; omega)] at hk
            exact (hsk _ hjk).2 k hk
        · rw [hoth z hza hzb hzy] at hk
          exact hI.kids z k hk
  · have hgb : (mendF u y f).2 = none ∨ (mendF u y f).2 = some b := by
      simp only [mendF, ← hp, ← ha, ← hb]
      split
      · exact .inr rfl
      · exact .inl rfl
    rcases hgb with e | e
    · rw [e]; simpa using hI.gn
    · rw [e, List.nodup_append]
      refine ⟨hI.gn, by simp, fun z hz w hw => ?_⟩
      rw [Option.mem_toList] at hw
      cases hw
      obtain ⟨j, j1, j2, j3⟩ := hI.gm z hz
      exact (level_ne (key := key) hv.pd (i := j) (j := i) (by omega) j2 b (by rw [← hy]; exact hbm') z j3).symm
  · rcases List.mem_append.1 hz with hz | hz
    · obtain ⟨j, j1, j2, j3⟩ := hI.gm z hz
      exact ⟨j, by omega, j2, j3⟩
    · have hgb : (mendF u y f).2 = none ∨ (mendF u y f).2 = some b := by
        simp only [mendF, ← hp, ← ha, ← hb]
        split
        · exact .inr rfl
        · exact .inl rfl
      rcases hgb with e | e
      · rw [e] at hz; cases hz
      · rw [e, Option.mem_toList] at hz
        cases hz
        exact ⟨i, Nat.le_refl _, by omega, by rw [← hy]; exact hbm'⟩
end Go.TM
/- Trees, in plain words: DropKey of both programs. -/
namespace Go.TM
set_option linter.unusedVariables false
set_option linter.unusedSimpArgs false

/-- Each page of a right tree is right. -/
theorem wk_pd {t : Tr} : ∀ {h : Nat} {x : Int}, PD t h x → ∀ z ∈ wk t h x, ∃ h', PD t h' z
  | 0, x, hd, z, hz => by
    simp only [wk, List.mem_singleton] at hz
    exact ⟨0, hz ▸ hd⟩
  | h + 1, x, hd, z, hz => by
    simp only [wk, List.mem_cons, List.mem_flatMap] at hz
    rcases hz with rfl | ⟨y, hy, hz⟩
    · exact ⟨h + 1, hd⟩
    · exact wk_pd (hd.inn.pd y hy) z hz

theorem TV.page {t : Tr} (hv : TV t) {i : Nat} (hi : i < t.pages.length) : ∃ h', PD t h' i := by
  obtain ⟨y, hy, he⟩ := (all_iff_len hv.nd hv.pd.wrng).1 hv.all i hi
  have h0 := hv.pd.wrng y hy
  obtain ⟨h', hp⟩ := wk_pd hv.pd y hy
  obtain rfl : y = i := by omega
  exact ⟨h', hp⟩

theorem TV.kids {t : Tr} (hv : TV t) (y : Int) : ∀ k ∈ (pgAt t y).kids, 0 ≤ k ∧ k < t.pages.length := by
  intro k hk
  by_cases hy : y.toNat < t.pages.length
  · obtain ⟨h', hp⟩ := hv.page hy
    have e : pgAt t ((y.toNat : Nat) : Int) = pgAt t y := by unfold pgAt; rw [Int.toNat_natCast]
    rw [← e] at hk
    cases h' with
    | zero => rw [hp.leaf.kids] at hk; cases hk
    | succ h' => exact (hp.inn.pd k hk).rng
  · have : pgAt t y = default := by unfold pgAt; simp [show t.pages.length ≤ y.toNat by omega]
    rw [this] at hk
    cases hk

theorem remP_mem {r : List Pr} {k : Int} : ∀ p ∈ remP r k, p ∈ r := by
  intro p hp
  rcases List.mem_append.1 hp with hp | hp
  · exact List.mem_of_mem_take hp
  · exact List.mem_of_mem_drop hp

theorem remP_sub (r : List Pr) (k : Int) : (remP r k).Sublist r := by
  unfold remP
  have e : r = r.take (cntB (keysP r) k) ++ r.drop (cntB (keysP r) k) := (List.take_append_drop _ _).symm
  conv => rhs; rw [e]
  refine List.Sublist.append (List.Sublist.refl _) ?_
  rw [← List.drop_drop]
  exact List.drop_sublist _ _

theorem drop_start {t : Tr} (hv : TV t) (key : Int) : DropInv t key (htT t) (dropL t key) [] := by
  have hlast := pathF_last t key (htT t) t.root
  have hpd := leafF_pd (key := key) hv.pd
  have hlf := hpd.leaf
  have hr := hpd.rng
  have hcur : pgAt (dropL t key) ((pathF t key (htT t) t.root).getD (htT t) 0) = leafP (remP (prP (pgAt t (leafT t key))) key) := by
    rw [hlast]
    exact pgAt_set (by show (leafF t key (htT t) t.root).toNat < t.pages.length; omega)
  have hcur2 : pgAt (dropL t key) (leafF t key (htT t) t.root) = leafP (remP (prP (pgAt t (leafT t key))) key) := by
    rw [← hlast]
    exact hcur
  have hpf := bd_pf (t := t) (key := key) (i := htT t) (h := htT t) (Nat.le_refl _) hv.pf
  rw [hlast, Nat.sub_self] at hpf
  obtain ⟨h1, _⟩ := pf_zero.1 hpf
  obtain ⟨b1, b2, b3, b4⟩ := headOk_iff.1 h1
  have hsub := (remP_sub (prP (pgAt t (leafT t key))) key).map (fun x : Pr => x.1)
  have hkeys : ((prP (pgAt t (leafT t key))).map fun x : Pr => x.1) = (pgAt t (leafT t key)).keys := prP_keys _
  rw [hkeys] at hsub
  have hne : ∀ j, j < htT t → (leafT t key).toNat ≠ ((pathF t key (htT t) t.root).getD j 0).toNat := by
    intro j hj
    show (leafF t key (htT t) t.root).toNat ≠ _
    rw [← hlast]
    exact path_ne hv (Nat.le_refl _) (by omega) (by omega)
  refine ⟨Nat.le_refl _, by simp [dropL, setPg], rfl, fun j hj => pgAt_set_ne (hne j hj), fun j hj y hy hyn => ?_, ?_, fun _ => ?_, fun h => by omega, fun y k hk => ?_, List.nodup_nil, fun x hx => by cases hx⟩
  · refine pgAt_set_ne ?_
    have hyr := hv.pd.wrng y (below_ne (key := key) hv.pd hj y hy).1
    intro he
    have he' : leafT t key = y := by
      have he2 : (leafF t key (htT t) t.root).toNat = y.toNat := he
      show leafF t key (htT t) t.root = y
      omega
    by_cases hl : j + 1 = htT t
    · rw [hl, hlast] at hyn
      exact hyn he'.symm
    · have hlk : leafT t key ∈ (pgAt t ((pathF t key (htT t) t.root).getD (htT t - 1) 0)).kids := by
        have hpi := pathF_pd (key := key) hv.pd (htT t - 1) (by omega)
        obtain ⟨h2, hh2⟩ : ∃ h2, htT t - (htT t - 1) = h2 + 1 := ⟨0, by omega⟩
        rw [hh2] at hpi
        have := kid_mem hpi.inn key
        have e := path_succ (t := t) (key := key) (htT t - 1) (htT t) t.root (by omega)
        rw [show htT t - 1 + 1 = htT t from by omega, hlast] at e
        show leafF t key (htT t) t.root ∈ _
        rw [e]
        exact this
      exact level_ne (key := key) hv.pd (i := htT t - 1) (j := j) (by omega) (by omega) y hy _ hlk he'.symm
  · rw [hcur]
    show (keysP _).length ≤ 4
    have := hsub.length_le
    have b2' : (pgAt t (leafT t key)).keys.length ≤ 4 := b2
    simp only [keysP]
    omega
  · rw [hcur]
    refine ⟨rfl, by simp [leafP, keysP], ?_, List.Pairwise.sublist hsub (pw_of_vk b1), fun y hy => ?_⟩
    · show allR (List.map _ _) _ _ = true
      rw [allR, List.all_eq_true]
      intro y hy
      obtain ⟨p, hp, rfl⟩ := List.mem_map.1 hy
      obtain ⟨i, hi, rfl⟩ := List.mem_map.1 (remP_mem p hp)
      rw [List.mem_range] at hi
      refine List.all_eq_true.1 hlf.vrng _ (getD_mem ?_)
      rw [hlf.vals]
      exact hi
    · have := hsub.subset hy
      exact inR_iff.1 (List.all_eq_true.1 b3 y this)
  · have hl : (dropL t key).pages.length = t.pages.length := by simp [dropL, setPg]
    rw [hl]
    by_cases hy : (leafT t key).toNat = y.toNat
    · have e : pgAt (dropL t key) y = pgAt (dropL t key) (leafT t key) := by unfold pgAt; rw [hy]
      rw [e] at hk
      have hk2 : k ∈ (pgAt (dropL t key) (leafF t key (htT t) t.root)).kids := hk
      rw [hcur2] at hk2
      exact (List.not_mem_nil hk2).elim
    · have e : pgAt (dropL t key) y = pgAt t y := pgAt_set_ne hy
      rw [e] at hk
      exact hv.kids y k hk

theorem dropUp_inv {t : Tr} (hv : TV t) {key : Int} : ∀ (i : Nat) (u : Tr) (g : List Int), DropInv t key i u g →
    ∃ i', DropInv t key i' (dropUp (pathF t key (htT t) t.root) i u g).1 (dropUp (pathF t key (htT t) t.root) i u g).2
  | 0, u, g, hI => ⟨0, hI⟩
  | i + 1, u, g, hI => by
    simp only [dropUp]
    split
    · exact ⟨i + 1, hI⟩
    · obtain ⟨_, _, _, _, h⟩ := drop_step hv hI _ _ _ _ _ _ rfl rfl rfl rfl rfl rfl
      exact dropUp_inv hv i _ _ h

theorem path_zero (t : Tr) (key : Int) : ∀ (h : Nat) (x : Int), (pathF t key h x).getD 0 0 = x
  | 0, _ => rfl
  | _ + 1, _ => rfl

/-- The root, when pages have been mended. -/
theorem root_one {t : Tr} (hv : TV t) {key : Int} {i : Nat} {u : Tr} {g : List Int} (hI : DropInv t key i u g) :
    ((pgAt u u.root).kids.length = 1 ↔ 0 < (pgAt u u.root).kids.length ∧ (pgAt u u.root).keys.length = 0) ∧ ((pgAt u u.root).kids.length = 1 → u.root ∉ g) := by
  have hr : u.root = (pathF t key (htT t) t.root).getD 0 0 := by rw [hI.root, path_zero]
  refine ⟨?_, fun _ hm => ?_⟩
  · rw [hr]
    cases i with
    | zero =>
      by_cases h0 : 0 = htT t
      · have := (hI.leaf h0).1
        rw [this]; simp
      · have := (hI.inn (by have := hI.il; omega)).2
        rw [this]; omega
    | succ i =>
      have h1 := hI.same 0 (by omega)
      have hpd := pathF_pd (key := key) hv.pd 0 (by omega)
      obtain ⟨h2, hh2⟩ : ∃ h2, htT t - 0 = h2 + 1 := ⟨htT t - 1, by have := hI.il; omega⟩
      rw [hh2] at hpd
      have hk := hpd.inn.kids
      have hl := hpd.inn.len
      rw [h1]
      omega
  · obtain ⟨j, j1, j2, j3⟩ := hI.gm _ hm
    have := above_ne (key := key) hv.pd (i := j) (j := 0) (by omega) j2 _ j3
    rw [← hr] at this
    exact this rfl

/-- What the reference's DropKey makes is what the program's makes. -/
theorem drop_eq {t : Tr} (hv : TV t) (key : Int) : cutAll (dropR (dropM t key)).2 (dropR (dropM t key)).1 = dropT t key := by
  obtain ⟨i, hI⟩ := dropUp_inv hv (htT t) _ _ (drop_start hv key)
  have hI : DropInv t key i (dropM t key).1 (dropM t key).2 := hI
  have hro := root_one hv hI
  unfold dropT
  generalize hd : dropM t key = d at hI hro
  obtain ⟨u, g⟩ := d
  dsimp only at hI hro
  have hlen := hI.len
  have hroot := hI.root
  have hgr : ∀ x ∈ g, 0 ≤ x ∧ x < u.pages.length := by
    intro x hx
    obtain ⟨j, _, j2, j3⟩ := hI.gm x hx
    have := hv.pd.wrng x (below_ne (key := key) hv.pd j2 x j3).1
    omega
  have hkk : ∀ p ∈ u.pages, ∀ k ∈ p.kids, 0 ≤ k := by
    intro p hp k hk
    obtain ⟨n, hn, rfl⟩ := List.getElem_of_mem hp
    have := hI.kids n k (by simpa [pgAt, hn] using hk)
    exact this.1
  have hrr := hv.root
  unfold dropR
  split
  · rename_i h1
    refine cutAll_eq _ _ _ rfl ?_ ?_ ?_ hkk
    · rw [List.nodup_append]
      refine ⟨hI.gn, by simp, fun x hx y hy => ?_⟩
      rw [List.mem_singleton] at hy
      rintro rfl
      exact hro.2 h1 (hy ▸ hx)
    · intro x hx
      rcases List.mem_append.1 hx with hx | hx
      · exact hgr x hx
      · rw [List.mem_singleton] at hx
        show 0 ≤ x ∧ x < (u.pages.length : Int)
        rw [hx, hroot]; omega
    · exact (hI.kids u.root _ (getD_mem (by dsimp only at h1; omega))).1
  · exact cutAll_eq _ _ _ rfl hI.gn hgr (by rw [hroot]; omega) hkk
end Go.TM
