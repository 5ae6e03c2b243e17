/- Contracts, 19 21 22 30. -/
import Derived.Test.YtbpfagbihffmbaaF18
/- Contracts, 19: a key is left out. -/
namespace Go.TM
open Go.Proofs
set_option linter.unusedVariables false
set_option linter.unusedSimpArgs false
set_option maxRecDepth 100000

/-- A key that is there is at its place. -/
theorem mem_at {xs : List Int} {k : Int} (h : VK xs) : k ∈ xs ↔ cntB xs k < xs.length ∧ xs.getD (cntB xs k) 0 = k := by
  obtain ⟨a1, a2, a3⟩ := cntB_ok (k := k) h
  constructor
  · intro hm
    obtain ⟨j, hj, he⟩ := List.getElem_of_mem hm
    have he' : xs.getD j 0 = k := by simpa [hj] using he
    have hjc : cntB xs k ≤ j := by
      rcases Nat.lt_or_ge j (cntB xs k) with hlt | hge
      · have := a2 j hlt; omega
      · exact hge
    refine ⟨by omega, ?_⟩
    have h1 := a3 _ (Nat.le_refl _) (by omega)
    have h2 := vk_mono' h hjc hj
    omega
  · rintro ⟨h1, h2⟩
    rw [← h2]
    exact getD_mem h1

end Go.TM
/- Trees, in plain words: what both programs compute of them. -/
namespace Go.TM
set_option linter.unusedVariables false
set_option linter.unusedSimpArgs false

/-! ### Lists -/

theorem sub_len : ∀ {ys xs : List Nat}, ys.Nodup → (∀ y ∈ ys, y ∈ xs) → ys.length ≤ xs.length
  | [], xs, _, _ => Nat.zero_le _
  | y :: ys, xs, hn, hs => by
    rw [List.nodup_cons] at hn
    have h1 := sub_len (ys := ys) (xs := xs.erase y) hn.2 fun z hz => (List.mem_erase_of_ne (by rintro rfl; exact hn.1 hz)).2 (hs z (List.mem_cons_of_mem _ hz))
    have h2 := List.length_erase_of_mem (hs y List.mem_cons_self)
    have h3 := List.length_pos_of_mem (hs y List.mem_cons_self)
    simp only [List.length_cons]
    omega

theorem nodup_toNat : ∀ {w : List Int}, (∀ y ∈ w, 0 ≤ y) → w.Nodup → (w.map Int.toNat).Nodup
  | [], _, _ => by simp
  | y :: w, h0, hn => by
    rw [List.nodup_cons] at hn
    rw [List.map_cons, List.nodup_cons]
    refine ⟨fun hm => ?_, nodup_toNat (fun z hz => h0 z (List.mem_cons_of_mem _ hz)) hn.2⟩
    obtain ⟨z, hz, he⟩ := List.mem_map.1 hm
    have h1 := h0 y List.mem_cons_self
    have h2 := h0 z (List.mem_cons_of_mem _ hz)
    obtain rfl : z = y := by omega
    exact hn.1 hz

/-- Different numbers below n: n of them if, and only if, all. -/
theorem all_iff_len {w : List Int} {n : Nat} (hn : w.Nodup) (hr : ∀ y ∈ w, 0 ≤ y ∧ y < n) : w.length = n ↔ ∀ i, i < n → ∃ y ∈ w, y.toNat = i := by
  have hd := nodup_toNat (fun y hy => (hr y hy).1) hn
  constructor
  · intro hl i hi
    by_cases hm : i ∈ w.map Int.toNat
    · obtain ⟨y, hy, he⟩ := List.mem_map.1 hm
      exact ⟨y, hy, he⟩
    · exfalso
      have := sub_len (ys := i :: w.map Int.toNat) (xs := List.range n) (List.nodup_cons.2 ⟨hm, hd⟩) fun z hz => by
        rw [List.mem_range]
        rcases List.mem_cons.1 hz with rfl | hz
        · exact hi
        · obtain ⟨y, hy, rfl⟩ := List.mem_map.1 hz
          have := hr y hy
          omega
      simp only [List.length_cons, List.length_map, List.length_range] at this
      omega
  · intro ha
    have h1 := sub_len (ys := w.map Int.toNat) (xs := List.range n) hd fun z hz => by
      obtain ⟨y, hy, rfl⟩ := List.mem_map.1 hz
      have := hr y hy
      rw [List.mem_range]
      omega
    have h2 := sub_len (ys := List.range n) (xs := w.map Int.toNat) List.nodup_range fun z hz => by
      obtain ⟨y, hy, he⟩ := ha z (List.mem_range.1 hz)
      exact List.mem_map.2 ⟨y, hy, he⟩
    simp only [List.length_map, List.length_range] at h1 h2
    omega

theorem range_flat {β : Type} (f : Int → List β) : ∀ xs : List Int, (List.range xs.length).flatMap (fun i => f (xs.getD i 0)) = xs.flatMap f
  | [] => rfl
  | x :: xs => by
    rw [List.length_cons, List.range_succ_eq_map, List.flatMap_cons, List.flatMap_cons, List.flatMap_map]
    have := range_flat f xs
    simp only [List.getD_cons_zero, List.getD_cons_succ]
    rw [this]

/-! ### What the reference asks of a tree -/

def pgAt (t : Tr) (x : Int) : Pg := t.pages.getD x.toNat default
def lowK (ks : List Int) (i : Nat) (low : Int) : Int := if 0 < i then ks.getD (i - 1) 0 else low
def topK (ks : List Int) (i : Nat) (hi : Int) : Int := if i < ks.length then ks.getD i 0 - 1 else hi
def hiK (ks : List Int) (i : Nat) (hi : Int) : Int := if i < ks.length then ks.getD i 0 else hi
theorem topK_hi (ks : List Int) (i : Nat) (hi : Int) : topK ks i (hi - 1) = hiK ks i hi - 1 := by
  unfold topK hiK; split <;> rfl

/-- What a page must be, whatever is below it. -/
noncomputable def headOk (t : Tr) (x low hi : Int) : Bool :=
  vk (pgAt t x).keys && (decide ((pgAt t x).keys.length ≤ 4) && (allR (pgAt t x).keys low hi && (decide (x = t.root) || decide (2 ≤ (pgAt t x).keys.length))))
def leafOk (p : Pg) : Bool := decide (p.kids.length = 0) && (decide (p.vals.length = p.keys.length) && allR p.vals (-1000) 1000)
def innOk (t : Tr) (p : Pg) : Bool := decide (p.keys.length ≠ 0) && (decide (p.vals.length = 0) && (decide (p.kids.length = p.keys.length + 1) && allR p.kids 0 ((t.pages.length : Int) - 1)))

/-- The page with a number, and h levels of pages below it, are right. -/
noncomputable def pf (t : Tr) : Nat → Int → Int → Int → Bool
  | 0, x, low, hi => headOk t x low hi && leafOk (pgAt t x)
  | h + 1, x, low, hi => headOk t x low hi && (innOk t (pgAt t x) && (List.range (pgAt t x).kids.length).all fun i => pf t h ((pgAt t x).kids.getD i 0) (lowK (pgAt t x).keys i low) (topK (pgAt t x).keys i hi))

/-- A page, and all pages below it. -/
def wk (t : Tr) : Nat → Int → List Int
  | 0, x => [x]
  | h + 1, x => x :: (pgAt t x).kids.flatMap (wk t h)

/-- How far it is down to the first leaf, at most k. -/
def htF (t : Tr) : Nat → Int → Nat
  | 0, _ => 0
  | k + 1, x => if inR x 0 ((t.pages.length : Int) - 1) = true ∧ (pgAt t x).kids.length ≠ 0 then htF t k ((pgAt t x).kids.getD 0 0) + 1 else 0

abbrev htT (t : Tr) : Nat := htF t 3 t.root
noncomputable def vTr (t : Tr) : Bool := inR t.pages.length 1 16 && (inR t.root 0 ((t.pages.length : Int) - 1) && (decide (htT t ≤ 2) && (pf t (htT t) t.root 0 99 &&
  (decide (wk t (htT t) t.root).Nodup && decide ((wk t (htT t) t.root).length = t.pages.length)))))

theorem inR_iff {n a b : Int} : inR n a b = true ↔ a ≤ n ∧ n ≤ b := by simp [inR]

theorem pf_head {t : Tr} {h : Nat} {x low hi : Int} (hp : pf t h x low hi = true) : headOk t x low hi = true := by
  cases h <;> (simp only [pf, Bool.and_eq_true] at hp; exact hp.1)

theorem pf_succ {t : Tr} {h : Nat} {x low hi : Int} : pf t (h + 1) x low hi = true ↔ headOk t x low hi = true ∧ innOk t (pgAt t x) = true ∧
    ∀ i, i < (pgAt t x).kids.length → pf t h ((pgAt t x).kids.getD i 0) (lowK (pgAt t x).keys i low) (topK (pgAt t x).keys i hi) = true := by
  simp only [pf, Bool.and_eq_true, List.all_eq_true, List.mem_range]

theorem pf_zero {t : Tr} {x low hi : Int} : pf t 0 x low hi = true ↔ headOk t x low hi = true ∧ leafOk (pgAt t x) = true := by
  simp only [pf, Bool.and_eq_true]

theorem innOk_iff {t : Tr} {p : Pg} : innOk t p = true ↔ p.keys.length ≠ 0 ∧ p.vals.length = 0 ∧ p.kids.length = p.keys.length + 1 ∧ ∀ y ∈ p.kids, 0 ≤ y ∧ y < t.pages.length := by
  simp only [innOk, Bool.and_eq_true, decide_eq_true_eq, allR, List.all_eq_true, inR_iff]
  constructor
  · rintro ⟨h1, h2, h3, h4⟩
    exact ⟨h1, h2, h3, fun y hy => by have := h4 y hy; omega⟩
  · rintro ⟨h1, h2, h3, h4⟩
    exact ⟨h1, h2, h3, fun y hy => by have := h4 y hy; omega⟩

theorem leafOk_iff {p : Pg} : leafOk p = true ↔ p.kids.length = 0 ∧ p.vals.length = p.keys.length ∧ allR p.vals (-1000) 1000 = true := by
  simp only [leafOk, Bool.and_eq_true, decide_eq_true_eq]

theorem headOk_iff {t : Tr} {x low hi : Int} : headOk t x low hi = true ↔ vk (pgAt t x).keys = true ∧ (pgAt t x).keys.length ≤ 4 ∧ allR (pgAt t x).keys low hi = true ∧ (x = t.root ∨ 2 ≤ (pgAt t x).keys.length) := by
  simp only [headOk, Bool.and_eq_true, decide_eq_true_eq, Bool.or_eq_true]

theorem mem_getD {xs : List Int} {y : Int} (h : y ∈ xs) : ∃ i, i < xs.length ∧ xs.getD i 0 = y := by
  obtain ⟨i, hi, rfl⟩ := List.getElem_of_mem h
  exact ⟨i, hi, by simp [hi]⟩

/-- All pages of a right part are there. -/
theorem wk_rng {t : Tr} : ∀ {h : Nat} {x low hi : Int}, pf t h x low hi = true → 0 ≤ x ∧ x < t.pages.length → ∀ y ∈ wk t h x, 0 ≤ y ∧ y < t.pages.length
  | 0, x, low, hi, _, hx, y, hy => by
    simp only [wk, List.mem_singleton] at hy
    rw [hy]; exact hx
  | h + 1, x, low, hi, hp, hx, y, hy => by
    rw [pf_succ] at hp
    obtain ⟨_, h2, h3⟩ := hp
    simp only [wk, List.mem_cons, List.mem_flatMap] at hy
    rcases hy with rfl | ⟨k, hk, hy⟩
    · exact hx
    · obtain ⟨i, hi', rfl⟩ := mem_getD hk
      exact wk_rng (h3 i hi') ((innOk_iff.1 h2).2.2.2 _ hk) y hy

/-- The height is told by the first kids. -/
theorem htF_pf {t : Tr} : ∀ {h k : Nat} {x low hi : Int}, pf t h x low hi = true → 0 ≤ x ∧ x < t.pages.length → h < k → htF t k x = h
  | 0, k + 1, x, low, hi, hp, hx, _ => by
    rw [pf_zero] at hp
    have := (leafOk_iff.1 hp.2).1
    simp [htF, this]
  | h + 1, k + 1, x, low, hi, hp, hx, hk => by
    rw [pf_succ] at hp
    obtain ⟨_, h2, h3⟩ := hp
    obtain ⟨i1, i2, i3, i4⟩ := innOk_iff.1 h2
    have h0 : 0 < (pgAt t x).kids.length := by omega
    have hm : (pgAt t x).kids.getD 0 0 ∈ (pgAt t x).kids := getD_mem h0
    simp only [htF]
    rw [if_pos ⟨inR_iff.2 ⟨hx.1, by omega⟩, by omega⟩, htF_pf (h3 0 h0) (i4 _ hm) (by omega)]
  | _, 0, _, _, _, _, _, hk => by omega

/-! ### What the program does -/

noncomputable def filledOk (t : Tr) (x : Int) : Bool :=
  decide ((pgAt t x).keys.length ≤ 4) && (vk (pgAt t x).keys && ((decide (x = t.root) || decide (2 ≤ (pgAt t x).keys.length)) &&
    if (pgAt t x).kids.length = 0 then decide ((pgAt t x).vals.length = (pgAt t x).keys.length) && allR (pgAt t x).vals (-1000) 1000
    else decide ((pgAt t x).vals.length = 0) && (decide (1 ≤ (pgAt t x).keys.length) && decide ((pgAt t x).kids.length = (pgAt t x).keys.length + 1))))

abbrev VS := List Bool × Int

def klF (g : Nat → VS → Bool × VS) : List Nat → VS → Bool × VS
  | [], s => (true, s)
  | i :: r, s => if (g i s).1 = true then klF g r (g i s).2 else (false, (g i s).2)

noncomputable def visF (t : Tr) : Nat → Int → Int → Int → Int → VS → Bool × VS
  | 0, _, _, _, _, s => (false, s)
  | n + 1, x, d, low, high, s =>
    if inR x 0 ((t.pages.length : Int) - 1) = false ∨ 3 ≤ d ∨ s.1.getD x.toNat false = true then (false, s)
    else if filledOk t x = false ∨ allR (pgAt t x).keys low (high - 1) = false then (false, s.1.set x.toNat true, s.2)
    else if (pgAt t x).kids.length = 0 then (decide ((if s.2 < 0 then d else s.2) = d), s.1.set x.toNat true, if s.2 < 0 then d else s.2)
    else klF (fun i s' => visF t n ((pgAt t x).kids.getD i 0) (d + 1) (lowK (pgAt t x).keys i low) (hiK (pgAt t x).keys i high) s') (List.range (pgAt t x).kids.length) (s.1.set x.toNat true, s.2)

def markL (sn : List Bool) (w : List Int) : List Bool := w.foldl (fun s x => s.set x.toNat true) sn
theorem markL_len (w : List Int) : ∀ sn : List Bool, (markL sn w).length = sn.length := by
  induction w with
  | nil => intro sn; rfl
  | cons y w ih => intro sn; show (markL (sn.set y.toNat true) w).length = _; rw [ih]; simp
theorem markL_app (sn : List Bool) (v w : List Int) : markL sn (v ++ w) = markL (markL sn v) w := by simp [markL, List.foldl_append]
theorem markL_get (w : List Int) : ∀ (sn : List Bool) (k : Nat), k < sn.length → ((markL sn w).getD k false = true ↔ sn.getD k false = true ∨ ∃ y ∈ w, y.toNat = k) := by
  induction w with
  | nil => intro sn k _; simp [markL]
  | cons y w ih =>
    intro sn k hk
    show (markL (sn.set y.toNat true) w).getD k false = true ↔ _
    rw [ih _ k (by simpa using hk)]
    by_cases he : y.toNat = k
    · subst he
      simp [hk]
    · have : (sn.set y.toNat true).getD k false = sn.getD k false := by simp [List.getElem?_set, he]
      rw [this]
      constructor
      · rintro (h | ⟨z, hz, hzk⟩)
        · exact .inl h
        · exact .inr ⟨z, List.mem_cons_of_mem _ hz, hzk⟩
      · rintro (h | ⟨z, hz, hzk⟩)
        · exact .inl h
        · rcases List.mem_cons.1 hz with rfl | hz
          · exact (he hzk).elim
          · exact .inr ⟨z, hz, hzk⟩

/-- A part of a tree, from a page on, is right, new, and of the height h. -/
structure Fits (t : Tr) (d : Int) (h : Nat) (x low high : Int) (s s' : VS) : Prop where
  rng : 0 ≤ x ∧ x < t.pages.length
  lim : d + h < 3
  pf : pf t h x low (high - 1) = true
  nd : (wk t h x).Nodup
  un : ∀ y ∈ wk t h x, s.1.getD y.toNat false = false
  ld : s.2 < 0 ∨ s.2 = d + h
  e : s' = (markL s.1 (wk t h x), d + h)

structure FitsL (t : Tr) (d : Int) (h : Nat) (kid low high : Nat → Int) (is : List Nat) (s s' : VS) : Prop where
  lim : d + h < 3
  pf : ∀ i ∈ is, (0 ≤ kid i ∧ kid i < t.pages.length) ∧ TM.pf t h (kid i) (low i) (high i - 1) = true
  nd : (is.flatMap fun i => wk t h (kid i)).Nodup
  un : ∀ y ∈ is.flatMap fun i => wk t h (kid i), s.1.getD y.toNat false = false
  ld : s.2 < 0 ∨ s.2 = d + h
  e : s' = (markL s.1 (is.flatMap fun i => wk t h (kid i)), d + h)

theorem FitsL.one {t : Tr} {d : Int} {h : Nat} {kid low high : Nat → Int} {i : Nat} {s s' : VS} (f : Fits t d h (kid i) (low i) (high i) s s') : FitsL t d h kid low high [i] s s' := by
  have e : ([i].flatMap fun i => wk t h (kid i)) = wk t h (kid i) := by simp
  refine ⟨f.lim, fun j hj => ?_, by rw [e]; exact f.nd, by rw [e]; exact f.un, f.ld, by rw [e]; exact f.e⟩
  rw [List.mem_singleton] at hj
  subst hj
  exact ⟨f.rng, f.pf⟩

theorem FitsL.cons {t : Tr} {d : Int} {h : Nat} {kid low high : Nat → Int} {i : Nat} {r : List Nat} {s s1 s' : VS} (hlen : t.pages.length ≤ s.1.length)
    (f : Fits t d h (kid i) (low i) (high i) s s1) (g : FitsL t d h kid low high r s1 s') : FitsL t d h kid low high (i :: r) s s' := by
  have e : ((i :: r).flatMap fun i => wk t h (kid i)) = wk t h (kid i) ++ r.flatMap fun i => wk t h (kid i) := List.flatMap_cons
  have e1 : s1.1 = markL s.1 (wk t h (kid i)) := by rw [f.e]
  have hr : ∀ y ∈ r.flatMap fun i => wk t h (kid i), 0 ≤ y ∧ y < t.pages.length := by
    intro y hy
    obtain ⟨j, hj, hy⟩ := List.mem_flatMap.1 hy
    exact wk_rng (g.pf j hj).2 (g.pf j hj).1 y hy
  have hun : ∀ y ∈ r.flatMap fun i => wk t h (kid i), s.1.getD y.toNat false = false ∧ y ∉ wk t h (kid i) := by
    intro y hy
    have h1 := g.un y hy
    rw [e1] at h1
    have h2 := markL_get (wk t h (kid i)) s.1 y.toNat (by have := hr y hy; omega)
    rw [h1] at h2
    constructor
    · cases hs : s.1.getD y.toNat false
      · rfl
      · exact absurd (h2.2 (.inl hs)) (by simp)
    · intro hm
      exact absurd (h2.2 (.inr ⟨y, hm, rfl⟩)) (by simp)
  refine ⟨f.lim, fun j hj => ?_, ?_, fun y hy => ?_, f.ld, ?_⟩
  · rcases List.mem_cons.1 hj with rfl | hj
    · exact ⟨f.rng, f.pf⟩
    · exact g.pf j hj
  · rw [e, List.nodup_append]
    exact ⟨f.nd, g.nd, fun a ha b hb hab => (hun b hb).2 (hab ▸ ha)⟩
  · rw [e] at hy
    rcases List.mem_append.1 hy with hy | hy
    · exact f.un y hy
    · exact (hun y hy).1
  · rw [e, markL_app, ← e1]
    exact g.e

theorem FitsL.uncons {t : Tr} {d : Int} {h : Nat} {kid low high : Nat → Int} {i : Nat} {r : List Nat} {s s' : VS} (hlen : t.pages.length ≤ s.1.length) (hd : 0 ≤ d)
    (g : FitsL t d h kid low high (i :: r) s s') : Fits t d h (kid i) (low i) (high i) s (markL s.1 (wk t h (kid i)), d + h) ∧ (r ≠ [] → FitsL t d h kid low high r (markL s.1 (wk t h (kid i)), d + h) s') ∧
      (r = [] → s' = (markL s.1 (wk t h (kid i)), d + h)) := by
  have e : ((i :: r).flatMap fun i => wk t h (kid i)) = wk t h (kid i) ++ r.flatMap fun i => wk t h (kid i) := List.flatMap_cons
  have hnd := g.nd
  rw [e, List.nodup_append] at hnd
  obtain ⟨n1, n2, n3⟩ := hnd
  have hr : ∀ y ∈ r.flatMap fun i => wk t h (kid i), 0 ≤ y ∧ y < t.pages.length := by
    intro y hy
    obtain ⟨j, hj, hy⟩ := List.mem_flatMap.1 hy
    exact wk_rng (g.pf j (List.mem_cons_of_mem _ hj)).2 (g.pf j (List.mem_cons_of_mem _ hj)).1 y hy
  have hi := g.pf i List.mem_cons_self
  refine ⟨⟨hi.1, g.lim, hi.2, n1, fun y hy => g.un y (by rw [e]; exact List.mem_append_left _ hy), g.ld, rfl⟩, fun _ => ⟨g.lim, fun j hj => g.pf j (List.mem_cons_of_mem _ hj), n2, fun y hy => ?_, .inr rfl, ?_⟩, fun h0 => ?_⟩
  · show (markL s.1 (wk t h (kid i))).getD y.toNat false = false
    cases hs : (markL s.1 (wk t h (kid i))).getD y.toNat false
    · rfl
    · exfalso
      have hy' := hr y hy
      rcases (markL_get _ s.1 y.toNat (by omega)).1 hs with h1 | ⟨z, hz, he⟩
      · rw [g.un y (by rw [e]; exact List.mem_append_right _ hy)] at h1
        cases h1
      · have hz' := wk_rng hi.2 hi.1 z hz
        exact n3 z hz y hy (by omega)
  · rw [g.e, e, markL_app]
  · subst h0
    rw [g.e, e]
    simp

theorem klF_sound {t : Tr} {d : Int} {kid low high : Nat → Int} {g : Nat → VS → Bool × VS} (hd : 0 ≤ d) : ∀ {is : List Nat} {s s' : VS}, t.pages.length ≤ s.1.length → is ≠ [] →
    (∀ i ∈ is, ∀ s s', t.pages.length ≤ s.1.length → g i s = (true, s') → ∃ h, Fits t d h (kid i) (low i) (high i) s s') → klF g is s = (true, s') → ∃ h, FitsL t d h kid low high is s s'
  | [], _, _, _, h, _, _ => (h rfl).elim
  | i :: r, s, s', hlen, _, hg, hk => by
    simp only [klF] at hk
    split at hk
    · rename_i h1
      obtain ⟨h, f⟩ := hg i List.mem_cons_self s (g i s).2 hlen (by rw [← h1])
      by_cases hr : r = []
      · subst hr
        simp only [klF, Prod.mk.injEq, true_and] at hk
        rw [hk] at f
        exact ⟨h, FitsL.one f⟩
      · have hs1 : (g i s).2.1.length = s.1.length := by rw [f.e]; exact markL_len _ _
        obtain ⟨h', f'⟩ := klF_sound hd (is := r) (s := (g i s).2) (s' := s') (by omega) hr (fun j hj => hg j (List.mem_cons_of_mem _ hj)) hk
        have : h' = h := by
          have h3 : (g i s).2.2 = d + h := by rw [f.e]
          rcases f'.ld with h2 | h2 <;> omega
        subst this
        exact ⟨h', FitsL.cons hlen f f'⟩
    · cases hk

theorem klF_compl {t : Tr} {d : Int} {h : Nat} {kid low high : Nat → Int} {g : Nat → VS → Bool × VS} (hd : 0 ≤ d) (hg : ∀ i s s', t.pages.length ≤ s.1.length → Fits t d h (kid i) (low i) (high i) s s' → g i s = (true, s')) :
    ∀ {is : List Nat} {s s' : VS}, t.pages.length ≤ s.1.length → is ≠ [] → FitsL t d h kid low high is s s' → klF g is s = (true, s')
  | [], _, _, _, h, _ => (h rfl).elim
  | i :: r, s, s', hlen, _, f => by
    obtain ⟨f1, f2, f3⟩ := f.uncons hlen hd
    have h1 := hg i s _ hlen f1
    simp only [klF, h1, if_true]
    by_cases hr : r = []
    · rw [f3 hr, hr]
      rfl
    · exact klF_compl hd hg (by show _ ≤ (markL _ _).length; rw [markL_len]; exact hlen) hr (f2 hr)

theorem filled_leaf {t : Tr} {x low hi : Int} (hk : (pgAt t x).kids.length = 0) : (filledOk t x = true ∧ allR (pgAt t x).keys low hi = true) ↔ pf t 0 x low hi = true := by
  rw [pf_zero, headOk_iff, leafOk_iff]
  simp only [filledOk, Bool.and_eq_true, decide_eq_true_eq, Bool.or_eq_true, if_pos hk]
  constructor
  · rintro ⟨⟨h1, h2, h3, h4, h5⟩, h6⟩
    exact ⟨⟨h2, h1, h6, h3⟩, hk, h4, h5⟩
  · rintro ⟨⟨h2, h1, h6, h3⟩, _, h4, h5⟩
    exact ⟨⟨h1, h2, h3, h4, h5⟩, h6⟩

theorem filled_inn {t : Tr} {x low hi : Int} (hk : (pgAt t x).kids.length ≠ 0) : (filledOk t x = true ∧ allR (pgAt t x).keys low hi = true) ↔
    headOk t x low hi = true ∧ (pgAt t x).keys.length ≠ 0 ∧ (pgAt t x).vals.length = 0 ∧ (pgAt t x).kids.length = (pgAt t x).keys.length + 1 := by
  rw [headOk_iff]
  simp only [filledOk, Bool.and_eq_true, decide_eq_true_eq, Bool.or_eq_true, if_neg hk]
  constructor
  · rintro ⟨⟨h1, h2, h3, h4, h5, h7⟩, h6⟩
    exact ⟨⟨h2, h1, h6, h3⟩, by omega, h4, h7⟩
  · rintro ⟨⟨h2, h1, h6, h3⟩, h4, h5, h7⟩
    exact ⟨⟨h1, h2, h3, h5, by omega, h7⟩, h6⟩

theorem vis_sound {t : Tr} : ∀ {n : Nat} {x d low high : Int} {s s' : VS}, 0 ≤ d → t.pages.length ≤ s.1.length → visF t n x d low high s = (true, s') → ∃ h, Fits t d h x low high s s'
  | 0, _, _, _, _, _, _, _, _, h => by simp [visF] at h
  | n + 1, x, d, low, high, s, s', hd, hlen, h => by
    simp only [visF] at h
    split at h
    · cases h
    · rename_i h1
      have h1a : 0 ≤ x ∧ x < t.pages.length := by
        have : inR x 0 ((t.pages.length : Int) - 1) = true := by
          cases hh : inR x 0 ((t.pages.length : Int) - 1)
          · exact (h1 (.inl hh)).elim
          · rfl
        have := inR_iff.1 this
        omega
      have h1b : d < 3 := by
        by_cases hh : d < 3
        · exact hh
        · exact (h1 (.inr (.inl (by omega)))).elim
      have h1c : s.1.getD x.toNat false = false := by
        cases hh : s.1.getD x.toNat false
        · rfl
        · exact (h1 (.inr (.inr hh))).elim
      split at h
      · cases h
      · rename_i h2
        have h2' : filledOk t x = true ∧ allR (pgAt t x).keys low (high - 1) = true := by
          constructor
          · cases hh : filledOk t x
            · exact (h2 (.inl hh)).elim
            · rfl
          · cases hh : allR (pgAt t x).keys low (high - 1)
            · exact (h2 (.inr hh)).elim
            · rfl
        split at h
        · rename_i h3
          simp only [Prod.mk.injEq, decide_eq_true_eq] at h
          obtain ⟨h4, h5⟩ := h
          refine ⟨0, h1a, by omega, (filled_leaf h3).1 h2', by simp [wk], fun y hy => ?_, ?_, ?_⟩
          · simp only [wk, List.mem_singleton] at hy
            rw [hy]; exact h1c
          · split at h4
            · exact .inl (by assumption)
            · right; rw [h4]; simp
          · rw [← h5, h4]
            simp [wk, markL]
        · rename_i h3
          obtain ⟨i1, i2, i3, i4⟩ := (filled_inn h3).1 h2'
          have hr : List.range (pgAt t x).kids.length ≠ [] := by
            intro h0
            have := congrArg List.length h0
            simp only [List.length_range, List.length_nil] at this
            exact h3 this
          obtain ⟨h', f⟩ := klF_sound (kid := fun i => (pgAt t x).kids.getD i 0) (low := fun i => lowK (pgAt t x).keys i low) (high := fun i => hiK (pgAt t x).keys i high) (d := d + 1) (by omega) (t := t) (by simpa using hlen) hr
            (fun i hi s s' hl hv => vis_sound (by omega) hl hv) h
          have ef := range_flat (wk t h') (pgAt t x).kids
          have hnd := f.nd
          have hun := f.un
          have he := f.e
          rw [ef] at hnd hun he
          have hx : x.toNat < s.1.length := by omega
          have hnx : x ∉ (pgAt t x).kids.flatMap (wk t h') := by
            intro hm
            have := hun x hm
            simp [hx] at this
          have hrng : ∀ y ∈ (pgAt t x).kids.flatMap (wk t h'), 0 ≤ y ∧ y < t.pages.length := by
            intro y hy
            rw [← ef] at hy
            obtain ⟨j, hj, hy⟩ := List.mem_flatMap.1 hy
            exact wk_rng (f.pf j hj).2 (f.pf j hj).1 y hy
          refine ⟨h' + 1, h1a, by have := f.lim; omega, ?_, ?_, fun y hy => ?_, ?_, ?_⟩
          · rw [pf_succ]
            refine ⟨i1, innOk_iff.2 ⟨i2, i3, i4, fun y hy => ?_⟩, fun i hi => ?_⟩
            · obtain ⟨i, hi, rfl⟩ := mem_getD hy
              exact (f.pf i (List.mem_range.2 hi)).1
            · rw [topK_hi]
              exact (f.pf i (List.mem_range.2 hi)).2
          · simp only [wk, List.nodup_cons]
            exact ⟨hnx, hnd⟩
          · simp only [wk, List.mem_cons] at hy
            rcases hy with rfl | hy
            · exact h1c
            · have h7 := hun y hy
              have h8 := hrng y hy
              have hne : x.toNat ≠ y.toNat := by
                intro he
                have : x = y := by omega
                exact hnx (this ▸ hy)
              simpa [List.getElem?_set, hne] using h7
          · have := f.ld
            dsimp only at this
            omega
          · rw [he]
            show _ = (markL (s.1.set x.toNat true) _, _)
            rw [show d + 1 + (h' : Int) = d + ((h' + 1 : Nat) : Int) from by omega]

theorem vis_compl {t : Tr} : ∀ {n h : Nat} {x d low high : Int} {s s' : VS}, 0 ≤ d → t.pages.length ≤ s.1.length → h < n → Fits t d h x low high s s' → visF t n x d low high s = (true, s')
  | 0, _, _, _, _, _, _, _, _, _, h, _ => by omega
  | n + 1, h, x, d, low, high, s, s', hd, hlen, hn, f => by
    have g1 : ¬ (inR x 0 ((t.pages.length : Int) - 1) = false ∨ 3 ≤ d ∨ s.1.getD x.toNat false = true) := by
      have hr := f.rng
      have hl := f.lim
      have hx : x ∈ wk t h x := by cases h <;> simp [wk]
      rintro (h1 | h1 | h1)
      · rw [inR_iff.2 (by omega)] at h1; cases h1
      · omega
      · rw [f.un x hx] at h1; cases h1
    simp only [visF]
    rw [if_neg g1]
    cases h with
    | zero =>
      have hp := f.pf
      have h3 := (leafOk_iff.1 (pf_zero.1 hp).2).1
      obtain ⟨a1, a2⟩ := (filled_leaf h3).2 hp
      rw [if_neg (by rw [a1, a2]; simp), if_pos h3, f.e]
      have hl := f.ld
      have : (if s.2 < 0 then d else s.2) = d := by split <;> omega
      rw [this]
      simp [wk, markL]
    | succ h =>
      have hp := f.pf
      obtain ⟨p1, p2, p3⟩ := pf_succ.1 hp
      obtain ⟨i1, i2, i3, i4⟩ := innOk_iff.1 p2
      have h3 : (pgAt t x).kids.length ≠ 0 := by omega
      obtain ⟨a1, a2⟩ := (filled_inn h3).2 ⟨p1, i1, i2, i3⟩
      rw [if_neg (by rw [a1, a2]; simp), if_neg h3]
      have hr : List.range (pgAt t x).kids.length ≠ [] := by
        intro h0
        have := congrArg List.length h0
        simp only [List.length_range, List.length_nil] at this
        exact h3 this
      have hx : x.toNat < s.1.length := by have := f.rng; omega
      have hnd := f.nd
      simp only [wk, List.nodup_cons] at hnd
      have ef := range_flat (wk t h) (pgAt t x).kids
      refine klF_compl (h := h) (kid := fun i => (pgAt t x).kids.getD i 0) (low := fun i => lowK (pgAt t x).keys i low) (high := fun i => hiK (pgAt t x).keys i high) (d := d + 1) (by omega) (t := t)
        (fun i s s' hl hv => vis_compl (by omega) hl (by omega) hv) (by simpa using hlen) hr ⟨by have := f.lim; omega, fun i hi => ?_, ?_, fun y hy => ?_, ?_, ?_⟩
      · rw [List.mem_range] at hi
        refine ⟨i4 _ (getD_mem hi), ?_⟩
        rw [← topK_hi]
        exact p3 i hi
      · rw [ef]; exact hnd.2
      · rw [ef] at hy
        have h7 := f.un y (by simp only [wk, List.mem_cons]; exact .inr hy)
        have hy' := wk_rng f.pf f.rng y (by simp only [wk, List.mem_cons]; exact .inr hy)
        have hx' := f.rng
        have hne : x.toNat ≠ y.toNat := by
          intro he
          have : x = y := by omega
          exact hnd.1 (this ▸ hy)
        simpa [List.getElem?_set, hne] using h7
      · have := f.ld
        dsimp only
        omega
      · rw [ef, f.e]
        show (markL (s.1.set x.toNat true) _, _) = _
        rw [show d + 1 + (h : Int) = d + ((h + 1 : Nat) : Int) from by omega]

/-- What the program's ValidTree computes. -/
noncomputable def vTrI (t : Tr) : Bool := decide (1 ≤ t.pages.length) && (decide (t.pages.length ≤ 16) && ((visF t 3 t.root 0 0 100 (List.replicate 16 false, -1)).1 &&
  (List.range t.pages.length).all fun i => (visF t 3 t.root 0 0 100 (List.replicate 16 false, -1)).2.1.getD i false))

theorem rep_get (n k : Nat) : (List.replicate n false).getD k false = false := by
  simp only [List.getD_eq_getElem?_getD, List.getElem?_replicate]
  split <;> rfl

structure TV (t : Tr) : Prop where
  len : 1 ≤ t.pages.length ∧ t.pages.length ≤ 16
  root : 0 ≤ t.root ∧ t.root < t.pages.length
  ht : htT t ≤ 2
  pf : pf t (htT t) t.root 0 99 = true
  nd : (wk t (htT t) t.root).Nodup
  all : (wk t (htT t) t.root).length = t.pages.length

theorem vTr_iff {t : Tr} : vTr t = true ↔ TV t := by
  simp only [vTr, Bool.and_eq_true, decide_eq_true_eq, inR_iff]
  constructor
  · rintro ⟨h1, h2, h3, h4, h5, h6⟩
    exact ⟨by omega, by omega, h3, h4, h5, h6⟩
  · rintro ⟨h1, h2, h3, h4, h5, h6⟩
    exact ⟨by omega, by omega, h3, h4, h5, h6⟩

theorem vTrI_eq (t : Tr) : vTrI t = vTr t := by
  rw [Bool.eq_iff_iff, vTr_iff]
  simp only [vTrI, Bool.and_eq_true, decide_eq_true_eq, List.all_eq_true, List.mem_range]
  constructor
  · rintro ⟨h1, h2, h3, h4⟩
    obtain ⟨s', hs⟩ : ∃ s', visF t 3 t.root 0 0 100 (List.replicate 16 false, -1) = (true, s') := ⟨(visF t 3 t.root 0 0 100 (List.replicate 16 false, -1)).2, by rw [← h3]⟩
    obtain ⟨h, f⟩ := vis_sound (Int.le_refl _) (by simpa using h2) hs
    have hh : htT t = h := htF_pf f.pf f.rng (by have := f.lim; omega)
    have hall := all_iff_len f.nd (wk_rng f.pf f.rng)
    refine ⟨⟨h1, h2⟩, f.rng, by have := f.lim; omega, by rw [hh]; exact f.pf, by rw [hh]; exact f.nd, ?_⟩
    rw [hh, hall]
    intro i hi
    have h5 := h4 i hi
    rw [hs, f.e] at h5
    rcases (markL_get _ _ i (by simp; omega)).1 h5 with h6 | h6
    · rw [rep_get] at h6; cases h6
    · exact h6
  · rintro ⟨⟨h1, h2⟩, h3, h4, h5, h6, h7⟩
    have f : Fits t 0 (htT t) t.root 0 100 (List.replicate 16 false, -1) (markL (List.replicate 16 false) (wk t (htT t) t.root), 0 + (htT t : Int)) :=
      ⟨h3, by omega, h5, h6, fun y hy => rep_get _ _, .inl (by decide), rfl⟩
    have hs := vis_compl (n := 3) (Int.le_refl _) (by simpa using h2) (by omega) f
    refine ⟨h1, h2, by rw [hs], fun i hi => ?_⟩
    rw [hs]
    refine (markL_get _ _ i (by simp; omega)).2 (.inr ?_)
    exact (all_iff_len h6 (wk_rng h5 h3)).1 h7 i hi
end Go.TM
/- Trees, in plain words, 2: leaves, pairs, paths. -/
namespace Go.TM
set_option linter.unusedVariables false
set_option linter.unusedSimpArgs false

/-- A page of a right tree, with h levels of pages below it. -/
structure PD (t : Tr) (h : Nat) (x : Int) : Prop where
  rng : 0 ≤ x ∧ x < t.pages.length
  len : t.pages.length ≤ 16
  pf : ∃ low hi, (0 ≤ low ∧ hi ≤ 99) ∧ pf t h x low hi = true
  nd : (wk t h x).Nodup

theorem TV.pd {t : Tr} (h : TV t) : PD t (htT t) t.root := ⟨h.root, h.len.2, ⟨0, 99, by decide, h.pf⟩, h.nd⟩

theorem wk_self (t : Tr) (h : Nat) (x : Int) : x ∈ wk t h x := by cases h <;> simp [wk]

theorem flat_nodup {f : Int → List Int} (hf : ∀ x, x ∈ f x) : ∀ {xs : List Int}, (xs.flatMap f).Nodup → xs.Nodup ∧ ∀ x ∈ xs, (f x).Nodup
  | [], _ => ⟨List.nodup_nil, fun x hx => by cases hx⟩
  | y :: xs, h => by
    rw [List.flatMap_cons, List.nodup_append] at h
    obtain ⟨h1, h2, h3⟩ := h
    obtain ⟨i1, i2⟩ := flat_nodup hf h2
    refine ⟨List.nodup_cons.2 ⟨fun hm => ?_, i1⟩, fun x hx => ?_⟩
    · exact h3 y (hf y) y (List.mem_flatMap.2 ⟨y, hm, hf y⟩) rfl
    · rcases List.mem_cons.1 hx with rfl | hx
      · exact h1
      · exact i2 x hx

theorem VK_bounds {xs : List Int} (h : vk xs = true) {i : Nat} (hi : i < xs.length) : 0 ≤ xs.getD i 0 ∧ xs.getD i 0 ≤ 99 := (vk_iff.1 h).2 i hi

structure PLeaf (t : Tr) (x : Int) : Prop where
  kids : (pgAt t x).kids = []
  vk : vk (pgAt t x).keys = true
  len : (pgAt t x).keys.length ≤ 4
  min : x = t.root ∨ 2 ≤ (pgAt t x).keys.length
  vals : (pgAt t x).vals.length = (pgAt t x).keys.length
  vrng : allR (pgAt t x).vals (-1000) 1000 = true

structure PInn (t : Tr) (h : Nat) (x : Int) : Prop where
  vk : vk (pgAt t x).keys = true
  len : 1 ≤ (pgAt t x).keys.length ∧ (pgAt t x).keys.length ≤ 4
  min : x = t.root ∨ 2 ≤ (pgAt t x).keys.length
  kids : (pgAt t x).kids.length = (pgAt t x).keys.length + 1
  vals : (pgAt t x).vals = []
  pd : ∀ y ∈ (pgAt t x).kids, PD t h y
  nd : (pgAt t x).kids.Nodup
  inn : vInn ⟨(pgAt t x).keys, (pgAt t x).kids⟩ = true

theorem PD.leaf {t : Tr} {x : Int} (h : PD t 0 x) : PLeaf t x := by
  obtain ⟨low, hi, hb, hp⟩ := h.pf
  obtain ⟨h1, h2⟩ := pf_zero.1 hp
  obtain ⟨a1, a2, a3, a4⟩ := headOk_iff.1 h1
  obtain ⟨b1, b2, b3⟩ := leafOk_iff.1 h2
  exact ⟨List.length_eq_zero_iff.1 b1, a1, a2, a4, b2, b3⟩

theorem PD.inn {t : Tr} {h : Nat} {x : Int} (hd : PD t (h + 1) x) : PInn t h x := by
  obtain ⟨low, hi, hb, hp⟩ := hd.pf
  obtain ⟨h1, h2, h3⟩ := pf_succ.1 hp
  obtain ⟨a1, a2, a3, a4⟩ := headOk_iff.1 h1
  obtain ⟨b1, b2, b3, b4⟩ := innOk_iff.1 h2
  have hn := hd.nd
  simp only [wk, List.nodup_cons] at hn
  obtain ⟨n1, n2⟩ := flat_nodup (wk_self t h) hn.2
  refine ⟨a1, by omega, a4, b3, List.length_eq_zero_iff.1 b2, fun y hy => ⟨b4 y hy, hd.len, ?_, n2 y hy⟩, n1, vInn_iff.2 ⟨n1, a1, by dsimp only; omega, by dsimp only; omega, b3, ?_⟩⟩
  · obtain ⟨i, hi', rfl⟩ := mem_getD hy
    refine ⟨_, _, ⟨?_, ?_⟩, h3 i hi'⟩
    · unfold lowK
      split
      · exact (VK_bounds a1 (by omega)).1
      · exact hb.1
    · unfold topK
      split
      · rename_i hlt
        have := (VK_bounds a1 hlt).2
        omega
      · exact hb.2
  · rw [allR, List.all_eq_true]
    intro y hy
    have := b4 y hy
    have := hd.len
    exact inR_iff.2 (by omega)

theorem PD.wrng {t : Tr} {h : Nat} {x : Int} (hd : PD t h x) : ∀ y ∈ wk t h x, 0 ≤ y ∧ y < t.pages.length := by
  obtain ⟨low, hi, _, hp⟩ := hd.pf
  exact wk_rng hp hd.rng

theorem PD.wlen {t : Tr} {h : Nat} {x : Int} (hd : PD t h x) : (wk t h x).length ≤ 16 := by
  have h1 := nodup_toNat (fun y hy => (hd.wrng y hy).1) hd.nd
  have h2 := sub_len (xs := List.range 16) h1 fun z hz => by
    obtain ⟨y, hy, rfl⟩ := List.mem_map.1 hz
    have := hd.wrng y hy
    have := hd.len
    rw [List.mem_range]
    omega
  simpa using h2

/-! ### Leaves -/

def lvF (t : Tr) : Nat → Int → List Int
  | 0, x => [x]
  | h + 1, x => (pgAt t x).kids.flatMap (lvF t h)

def isLf (t : Tr) (x : Int) : Bool := decide ((pgAt t x).kids.length = 0)

theorem filter_flat {f : Int → List Int} {p : Int → Bool} : ∀ xs : List Int, (xs.flatMap f).filter p = xs.flatMap fun x => (f x).filter p
  | [] => rfl
  | x :: xs => by simp [List.flatMap_cons, List.filter_append, filter_flat xs]

theorem flat_congr {f g : Int → List Int} : ∀ {xs : List Int}, (∀ x ∈ xs, f x = g x) → xs.flatMap f = xs.flatMap g
  | [], _ => rfl
  | x :: xs, h => by
    rw [List.flatMap_cons, List.flatMap_cons, h x List.mem_cons_self, flat_congr fun y hy => h y (List.mem_cons_of_mem _ hy)]

theorem lvF_eq {t : Tr} : ∀ {h : Nat} {x : Int}, PD t h x → (wk t h x).filter (isLf t) = lvF t h x
  | 0, x, hd => by
    have := hd.leaf.kids
    simp [wk, lvF, isLf, this]
  | h + 1, x, hd => by
    have hi := hd.inn
    have h0 : isLf t x = false := by
      have := hi.kids
      simp only [isLf, decide_eq_false_iff_not]
      omega
    simp only [wk, lvF, List.filter_cons, h0]
    rw [filter_flat]
    exact flat_congr fun y hy => lvF_eq (hi.pd y hy)

theorem lvF_sub {t : Tr} {h : Nat} {x : Int} (hd : PD t h x) : ∀ y ∈ lvF t h x, y ∈ wk t h x ∧ (pgAt t y).kids = [] := by
  intro y hy
  rw [← lvF_eq hd] at hy
  obtain ⟨h1, h2⟩ := List.mem_filter.1 hy
  exact ⟨h1, List.length_eq_zero_iff.1 (by simpa [isLf] using h2)⟩

theorem lvF_len {t : Tr} {h : Nat} {x : Int} (hd : PD t h x) : (lvF t h x).length ≤ 16 := by
  rw [← lvF_eq hd]
  exact Nat.le_trans (List.length_filter_le _ _) hd.wlen

theorem lvF_leaf {t : Tr} : ∀ {h : Nat} {x : Int}, PD t h x → ∀ y ∈ lvF t h x, PD t 0 y
  | 0, x, hd, y, hy => by
    simp only [lvF, List.mem_singleton] at hy
    rw [hy]; exact hd
  | h + 1, x, hd, y, hy => by
    simp only [lvF, List.mem_flatMap] at hy
    obtain ⟨z, hz, hy⟩ := hy
    exact lvF_leaf (hd.inn.pd z hz) y hy

def prP (p : Pg) : List Pr := (List.range p.keys.length).map fun i => (p.keys.getD i 0, p.vals.getD i 0)
theorem prP_len (p : Pg) : (prP p).length = p.keys.length := by simp [prP]
theorem prP_keys (p : Pg) : keysP (prP p) = p.keys := by
  refine list_ext (d := 0) (by simp [keysP, prP]) fun i hi => ?_
  simp [keysP, prP, hi]

def leafP (r : List Pr) : Pg := ⟨keysP r, [], r.map (·.2)⟩
def prF (t : Tr) (h : Nat) (x : Int) : List Pr := (lvF t h x).flatMap fun y => prP (pgAt t y)

theorem prF_succ (t : Tr) (h : Nat) (x : Int) : prF t (h + 1) x = (pgAt t x).kids.flatMap (prF t h) := by
  simp only [prF, lvF, List.flatMap_assoc]
  rfl

theorem flat_le {β : Type} {f : Int → List β} {m : Nat} : ∀ {xs : List Int}, (∀ x ∈ xs, (f x).length ≤ m) → (xs.flatMap f).length ≤ xs.length * m
  | [], _ => by simp
  | x :: xs, h => by
    have h1 := h x List.mem_cons_self
    have h2 := flat_le (f := f) (m := m) (xs := xs) fun y hy => h y (List.mem_cons_of_mem _ hy)
    rw [List.flatMap_cons, List.length_append, List.length_cons, Nat.add_mul]
    omega

theorem prF_len {t : Tr} {h : Nat} {x : Int} (hd : PD t h x) : (prF t h x).length ≤ 64 := by
  have h1 := flat_le (f := fun y => prP (pgAt t y)) (m := 4) (xs := lvF t h x) fun y hy => by
    rw [prP_len]
    exact (lvF_leaf hd y hy).leaf.len
  have h2 := lvF_len hd
  unfold prF
  omega

/-- Numbers that ascend, within bounds. -/
def Asc (xs : List Int) (a b : Int) : Prop := xs.Pairwise (· < ·) ∧ ∀ y ∈ xs, a ≤ y ∧ y ≤ b

theorem pw_of_vk {xs : List Int} (h : vk xs = true) : xs.Pairwise (· < ·) := by
  have hv := vk_iff.1 h
  have hmono : ∀ d i, i + d + 1 < xs.length → xs.getD i 0 < xs.getD (i + d + 1) 0 := by
    intro d
    induction d with
    | zero => intro i hi; exact hv.1 i hi
    | succ d ih => intro i hi; exact Int.lt_trans (ih i (by omega)) (hv.1 (i + d + 1) hi)
  rw [List.pairwise_iff_getElem]
  intro i j hi hj hij
  have := hmono (j - i - 1) i (by omega)
  rw [show i + (j - i - 1) + 1 = j from by omega] at this
  simpa [hi, hj] using this

theorem vk_of_pw {xs : List Int} (h : Asc xs 0 99) : vk xs = true := by
  refine vk_t ⟨fun i hi => ?_, fun i hi => h.2 _ (getD_mem hi)⟩
  have := List.pairwise_iff_getElem.1 h.1 i (i + 1) (by omega) hi (by omega)
  simpa [show i < xs.length by omega, hi] using this

theorem Asc.app {xs ys : List Int} {a c d : Int} (h1 : Asc xs a (c - 1)) (h2 : Asc ys c d) (ha : a ≤ c) (hd : c ≤ d + 1) : Asc (xs ++ ys) a d := by
  refine ⟨List.pairwise_append.2 ⟨h1.1, h2.1, fun x hx y hy => ?_⟩, fun y hy => ?_⟩
  · have := h1.2 x hx
    have := h2.2 y hy
    omega
  · rcases List.mem_append.1 hy with hy | hy
    · have := h1.2 y hy; omega
    · have := h2.2 y hy; omega

theorem asc_kids {ks : List Int} {low hi : Int} {f : Nat → List Int} (hv : vk ks = true) (hr : allR ks low hi = true) (hf : ∀ i, i ≤ ks.length → Asc (f i) (lowK ks i low) (topK ks i hi)) :
    ∀ (n m : Nat), m + n = ks.length → Asc ((List.range' m (n + 1)).flatMap f) (lowK ks m low) hi
  | 0, m, hm => by
    have := hf m (by omega)
    simp only [Nat.add_zero] at hm
    rw [show topK ks m hi = hi from if_neg (by omega)] at this
    simpa using this
  | n + 1, m, hm => by
    have h1 := hf m (by omega)
    have h2 := asc_kids hv hr hf n (m + 1) (by omega)
    have hk := allR_get.1 hr m (by omega)
    rw [show topK ks m hi = ks.getD m 0 - 1 from if_pos (by omega)] at h1
    rw [show lowK ks (m + 1) low = ks.getD m 0 from by simp [lowK]] at h2
    rw [List.range'_succ, List.flatMap_cons]
    refine Asc.app h1 h2 ?_ (by omega)
    unfold lowK
    split
    · have := (vk_iff.1 hv).1 (m - 1) (by omega)
      rw [show m - 1 + 1 = m from by omega] at this
      omega
    · exact hk.1

theorem keysP_flat (f : Int → List Pr) : ∀ xs : List Int, keysP (xs.flatMap f) = xs.flatMap fun x => keysP (f x)
  | [] => rfl
  | x :: xs => by
    have := keysP_flat f xs
    simp only [keysP] at this ⊢
    rw [List.flatMap_cons, List.flatMap_cons, List.map_append, this]

theorem asc_pf {t : Tr} : ∀ {h : Nat} {x low hi : Int}, pf t h x low hi = true → Asc (keysP (prF t h x)) low hi
  | 0, x, low, hi, hp => by
    obtain ⟨h1, h2⟩ := pf_zero.1 hp
    obtain ⟨a1, a2, a3, a4⟩ := headOk_iff.1 h1
    have e : prF t 0 x = prP (pgAt t x) := by simp [prF, lvF]
    rw [e, prP_keys]
    refine ⟨pw_of_vk a1, fun y hy => ?_⟩
    have := List.all_eq_true.1 a3 y hy
    exact inR_iff.1 this
  | h + 1, x, low, hi, hp => by
    obtain ⟨h1, h2, h3⟩ := pf_succ.1 hp
    obtain ⟨a1, a2, a3, a4⟩ := headOk_iff.1 h1
    obtain ⟨b1, b2, b3, b4⟩ := innOk_iff.1 h2
    rw [prF_succ, keysP_flat, ← range_flat (fun x => keysP (prF t h x)), List.range_eq_range', b3]
    have := asc_kids (f := fun i => keysP (prF t h ((pgAt t x).kids.getD i 0))) a1 a3 (fun i hi' => asc_pf (h3 i (by omega))) (pgAt t x).keys.length 0 (by omega)
    simpa [lowK] using this

def pathF (t : Tr) (key : Int) : Nat → Int → List Int
  | 0, x => [x]
  | h + 1, x => x :: pathF t key h ((pgAt t x).kids.getD (cntU (pgAt t x).keys key) 0)

theorem cntU_le (xs : List Int) (k : Int) : cntU xs k ≤ xs.length := by
  unfold cntU
  exact (List.takeWhile_sublist _).length_le

theorem PInn.kid {t : Tr} {h : Nat} {x : Int} (hi : PInn t h x) (key : Int) : PD t h ((pgAt t x).kids.getD (cntU (pgAt t x).keys key) 0) := by
  refine hi.pd _ (getD_mem ?_)
  have := cntU_le (pgAt t x).keys key
  have := hi.kids
  omega

theorem pathF_len (t : Tr) (key : Int) : ∀ (h : Nat) (x : Int), (pathF t key h x).length = h + 1
  | 0, _ => rfl
  | h + 1, x => by simp [pathF, pathF_len t key h]

/-- The leaf at a path's end. -/
def leafF (t : Tr) (key : Int) : Nat → Int → Int
  | 0, x => x
  | h + 1, x => leafF t key h ((pgAt t x).kids.getD (cntU (pgAt t x).keys key) 0)

theorem pathF_last (t : Tr) (key : Int) : ∀ (h : Nat) (x : Int), (pathF t key h x).getD h 0 = leafF t key h x
  | 0, _ => rfl
  | h + 1, x => by simp only [pathF, leafF, List.getD_cons_succ]; exact pathF_last t key h _

theorem leafF_pd {t : Tr} {key : Int} : ∀ {h : Nat} {x : Int}, PD t h x → PD t 0 (leafF t key h x)
  | 0, _, hd => hd
  | h + 1, x, hd => by simp only [leafF]; exact leafF_pd (hd.inn.kid key)

theorem pathF_pd {t : Tr} {key : Int} : ∀ {h : Nat} {x : Int}, PD t h x → ∀ i, i ≤ h → PD t (h - i) ((pathF t key h x).getD i 0)
  | 0, x, hd, i, hi => by
    obtain rfl : i = 0 := by omega
    exact hd
  | h + 1, x, hd, 0, _ => hd
  | h + 1, x, hd, i + 1, hi => by
    simp only [pathF, List.getD_cons_succ]
    rw [show h + 1 - (i + 1) = h - i from by omega]
    exact pathF_pd (hd.inn.kid key) i (by omega)
end Go.TM
/- Trees, in plain words: a pair is put. -/
namespace Go.TM
set_option linter.unusedVariables false
set_option linter.unusedSimpArgs false

theorem cntU_split (xs : List Int) (k : Int) : (∀ i, i < cntU xs k → xs.getD i 0 ≤ k) ∧ ∀ _ : cntU xs k < xs.length, k < xs.getD (cntU xs k) 0 := by
  unfold cntU
  induction xs with
  | nil => simp
  | cons x xs ih =>
    rw [List.takeWhile_cons]
    split
    · rename_i h
      have h' : x ≤ k := by simpa using h
      refine ⟨fun i hi => ?_, fun hl => ?_⟩
      · cases i with
        | zero => simpa using h'
        | succ i => simpa using ih.1 i (by simpa using hi)
      · simpa using ih.2 (by simpa using hl)
    · rename_i h
      have h' : ¬ x ≤ k := by simpa using h
      refine ⟨fun i hi => by simp at hi, fun _ => by simp; omega⟩

/-! ### Bounds along a path -/

abbrev kidOf (t : Tr) (key x : Int) : Int := (pgAt t x).kids.getD (cntU (pgAt t x).keys key) 0
def lowP (t : Tr) (key x low : Int) : Int := lowK (pgAt t x).keys (cntU (pgAt t x).keys key) low
def topP (t : Tr) (key x hi : Int) : Int := topK (pgAt t x).keys (cntU (pgAt t x).keys key) hi

def setPg (t : Tr) (x : Int) (p : Pg) : Tr := ⟨t.root, t.pages.set x.toNat p⟩
def addPg (t : Tr) (p : Pg) : Tr := ⟨t.root, t.pages ++ [p]⟩
structure Sp where
  a : Pg
  key : Int
  b : Pg
def splP (p : Pg) : Sp :=
  if p.kids.length = 0 then ⟨leafP ((prP p).take ((p.keys.length + 1) / 2)), (((prP p).drop ((p.keys.length + 1) / 2)).getD 0 default).1, leafP ((prP p).drop ((p.keys.length + 1) / 2))⟩
  else ⟨⟨p.keys.take (p.keys.length / 2), p.kids.take (p.keys.length / 2 + 1), []⟩, p.keys.getD (p.keys.length / 2) 0, ⟨p.keys.drop (p.keys.length / 2 + 1), p.kids.drop (p.keys.length / 2 + 1), []⟩⟩
def insL (xs : List Int) (i : Nat) (v : Int) : List Int := xs.take i ++ v :: xs.drop i
theorem insL_len {xs : List Int} {i : Nat} {v : Int} (h : i ≤ xs.length) : (insL xs i v).length = xs.length + 1 := by
  simp [insL]; omega
def addK (p : Pg) (pl : Nat) (key kid : Int) : Pg := ⟨insL p.keys pl key, insL p.kids (pl + 1) kid, []⟩

theorem pgAt_set_ne {t : Tr} {x y : Int} {p : Pg} (h : x.toNat ≠ y.toNat) : pgAt (setPg t x p) y = pgAt t y := by
  simp [pgAt, setPg, List.getElem?_set, h]
theorem pgAt_set {t : Tr} {x : Int} {p : Pg} (h : x.toNat < t.pages.length) : pgAt (setPg t x p) x = p := by
  simp [pgAt, setPg, h]
theorem pgAt_add {t : Tr} {y : Int} {p : Pg} (h : y.toNat < t.pages.length) : pgAt (addPg t p) y = pgAt t y := by
  simp [pgAt, addPg, List.getElem?_append_left h]

def inP (p : Pg) : Inn := ⟨p.keys, p.kids⟩

theorem path_in {t : Tr} {key : Int} : ∀ {h : Nat} {x : Int}, PD t h x → ∀ y ∈ pathF t key h x, y ∈ wk t h x
  | 0, x, _, y, hy => hy
  | h + 1, x, hd, y, hy => by
    simp only [pathF, List.mem_cons] at hy
    simp only [wk, List.mem_cons, List.mem_flatMap]
    rcases hy with rfl | hy
    · exact .inl rfl
    · refine .inr ⟨_, getD_mem ?_, path_in (hd.inn.kid key) y hy⟩
      have := cntU_le (pgAt t x).keys key
      have := hd.inn.kids
      omega

theorem path_nodup {t : Tr} {key : Int} : ∀ {h : Nat} {x : Int}, PD t h x → (pathF t key h x).Nodup
  | 0, x, _ => by simp [pathF]
  | h + 1, x, hd => by
    simp only [pathF, List.nodup_cons]
    refine ⟨fun hm => ?_, path_nodup (hd.inn.kid key)⟩
    have hn := hd.nd
    simp only [wk, List.nodup_cons] at hn
    apply hn.1
    refine List.mem_flatMap.2 ⟨_, getD_mem ?_, path_in (hd.inn.kid key) x hm⟩
    have := cntU_le (pgAt t x).keys key
    have := hd.inn.kids
    omega

/-- The bounds at a level. -/
def bdF (t : Tr) (key : Int) : Nat → Int → Int → Int → Int × Int
  | 0, _, low, hi => (low, hi)
  | i + 1, x, low, hi => bdF t key i (kidOf t key x) (lowP t key x low) (topP t key x hi)

theorem bd_succ {t : Tr} {key : Int} : ∀ (i h : Nat) (x low hi : Int), i < h → bdF t key (i + 1) x low hi = (lowP t key ((pathF t key h x).getD i 0) (bdF t key i x low hi).1, topP t key ((pathF t key h x).getD i 0) (bdF t key i x low hi).2)
  | 0, h + 1, x, low, hi, _ => rfl
  | i + 1, h + 1, x, low, hi, hl => by
    rw [bdF, bd_succ i h _ _ _ (by omega)]
    rfl
  | _, 0, _, _, _, hl => by omega

theorem path_succ {t : Tr} {key : Int} : ∀ (i h : Nat) (x : Int), i < h → (pathF t key h x).getD (i + 1) 0 = kidOf t key ((pathF t key h x).getD i 0)
  | 0, h + 1, x, _ => by
    cases h <;> rfl
  | i + 1, h + 1, x, hl => by
    simp only [pathF, List.getD_cons_succ]
    exact path_succ i h _ (by omega)
  | _, 0, _, hl => by omega

theorem bd_pf {t : Tr} {key : Int} : ∀ {i h : Nat} {x low hi : Int}, i ≤ h → pf t h x low hi = true → pf t (h - i) ((pathF t key h x).getD i 0) (bdF t key i x low hi).1 (bdF t key i x low hi).2 = true
  | 0, h, x, low, hi, _, hp => by
    cases h <;> simpa [pathF, bdF] using hp
  | i + 1, h + 1, x, low, hi, hl, hp => by
    obtain ⟨h1, h2, h3⟩ := pf_succ.1 hp
    have hk := (innOk_iff.1 h2).2.2.1
    have := bd_pf (t := t) (key := key) (i := i) (h := h) (by omega) (h3 (cntU (pgAt t x).keys key) (by have := cntU_le (pgAt t x).keys key; omega))
    rw [show h + 1 - (i + 1) = h - i from by omega]
    simpa only [pathF, List.getD_cons_succ, bdF, lowP, topP] using this

theorem vk_asc {xs : List Int} : vk xs = true ↔ Asc xs 0 99 := by
  refine ⟨fun h => ⟨pw_of_vk h, fun y hy => ?_⟩, vk_of_pw⟩
  obtain ⟨i, hi, rfl⟩ := mem_getD hy
  exact VK_bounds h hi

theorem take_mem {xs : List Int} {i : Nat} {y : Int} (h : y ∈ xs.take i) : ∃ j, j < i ∧ j < xs.length ∧ xs.getD j 0 = y := by
  obtain ⟨j, hj, rfl⟩ := List.getElem_of_mem h
  rw [List.length_take] at hj
  exact ⟨j, by omega, by omega, by simp [show j < xs.length by omega]⟩
theorem drop_mem {xs : List Int} {i : Nat} {y : Int} (h : y ∈ xs.drop i) : ∃ j, i ≤ j ∧ j < xs.length ∧ xs.getD j 0 = y := by
  obtain ⟨j, hj, rfl⟩ := List.getElem_of_mem h
  rw [List.length_drop] at hj
  exact ⟨i + j, by omega, by omega, by simp [show i + j < xs.length by omega]⟩

theorem vk_lt {xs : List Int} (h : vk xs = true) {i j : Nat} (hij : i < j) (hj : j < xs.length) : xs.getD i 0 < xs.getD j 0 := by
  have := List.pairwise_iff_getElem.1 (pw_of_vk h) i j (by omega) hj hij
  simpa [show i < xs.length by omega, hj] using this
theorem vk_le {xs : List Int} (h : vk xs = true) {i j : Nat} (hij : i ≤ j) (hj : j < xs.length) : xs.getD i 0 ≤ xs.getD j 0 := by
  rcases Nat.lt_or_ge i j with h1 | h1
  · exact Int.le_of_lt (vk_lt h h1 hj)
  · obtain rfl : i = j := by omega
    exact Int.le_refl _

theorem vk_ins {xs : List Int} {i : Nat} {v : Int} (h : vk xs = true) (hi : i ≤ xs.length) (h0 : 0 ≤ v ∧ v ≤ 99) (hl : 0 < i → xs.getD (i - 1) 0 < v) (hr : i < xs.length → v < xs.getD i 0) : vk (insL xs i v) = true := by
  obtain ⟨hp, hb⟩ := vk_asc.1 h
  have hl' : ∀ a ∈ xs.take i, a < v := by
    intro a ha
    obtain ⟨j, h1, h2, rfl⟩ := take_mem ha
    have := vk_le h (i := j) (j := i - 1) (by omega) (by omega)
    have := hl (by omega)
    omega
  have hr' : ∀ b ∈ xs.drop i, v < b := by
    intro b hb
    obtain ⟨j, h1, h2, rfl⟩ := drop_mem hb
    have := vk_le h h1 h2
    have := hr (by omega)
    omega
  have hp' := hp
  rw [← List.take_append_drop i xs, List.pairwise_append] at hp'
  refine vk_asc.2 ⟨?_, fun y hy => ?_⟩
  · unfold insL
    rw [List.pairwise_append, List.pairwise_cons]
    refine ⟨hp'.1, ⟨hr', hp'.2.1⟩, fun a ha b hb => ?_⟩
    rcases List.mem_cons.1 hb with rfl | hb
    · exact hl' a ha
    · exact hp'.2.2 a ha b hb
  · unfold insL at hy
    rcases List.mem_append.1 hy with hy | hy
    · exact hb y (List.mem_of_mem_take hy)
    · rcases List.mem_cons.1 hy with rfl | hy
      · exact h0
      · exact hb y (List.mem_of_mem_drop hy)

theorem mem_ins {xs : List Int} {i : Nat} {v y : Int} : y ∈ insL xs i v ↔ y = v ∨ y ∈ xs := by
  have hx : y ∈ xs ↔ y ∈ xs.take i ∨ y ∈ xs.drop i := by rw [← List.mem_append, List.take_append_drop]
  rw [hx]
  unfold insL
  rw [List.mem_append, List.mem_cons]
  constructor
  · rintro (h | h | h)
    · exact .inr (.inl h)
    · exact .inl h
    · exact .inr (.inr h)
  · rintro (h | h | h)
    · exact .inr (.inl h)
    · exact .inl h
    · exact .inr (.inr h)

theorem nodup_ins {xs : List Int} {i : Nat} {v : Int} (h : xs.Nodup) (hv : v ∉ xs) : (insL xs i v).Nodup := by
  unfold insL
  rw [List.perm_middle.nodup_iff, List.take_append_drop, List.nodup_cons]
  exact ⟨hv, h⟩

theorem idx_get : ∀ {xs : List Int} {i : Nat}, xs.Nodup → i < xs.length → xs.idxOf (xs.getD i 0) = i
  | [], i, _, h => by simp at h
  | x :: xs, 0, _, _ => by simp
  | x :: xs, i + 1, hn, h => by
    rw [List.nodup_cons] at hn
    have hi : i < xs.length := by simpa using h
    have hne : x ≠ xs.getD i 0 := fun e => hn.1 (e ▸ getD_mem hi)
    have hb : (x == xs.getD i 0) = false := by simpa using hne
    rw [List.getD_cons_succ, List.idxOf_cons, idx_get hn.2 hi, hb]
    rfl

theorem spl_key {p : Pg} {low hi : Int} (hv : vk p.keys = true) (h4 : 4 < p.keys.length) (hr : allR p.keys low hi = true) : low < (splP p).key ∧ (splP p).key ≤ hi ∧ 0 ≤ (splP p).key ∧ (splP p).key ≤ 99 := by
  obtain ⟨m, hm0, hm, e⟩ : ∃ m, 0 < m ∧ m < p.keys.length ∧ (splP p).key = p.keys.getD m 0 := by
    unfold splP
    split
    · refine ⟨(p.keys.length + 1) / 2, by omega, by omega, ?_⟩
      simp [prP, show (p.keys.length + 1) / 2 < p.keys.length by omega]
    · exact ⟨p.keys.length / 2, by omega, by omega, rfl⟩
  rw [e]
  have h1 := vk_lt hv hm0 hm
  have h2 := allR_get.1 hr 0 (by omega)
  have h3 := allR_get.1 hr m hm
  have h5 := VK_bounds hv hm
  omega

/-- What holds of the tree while pages are split, at a level i of the path. -/
structure PutInv (t : Tr) (key : Int) (i : Nat) (u : Tr) : Prop where
  il : i ≤ htT t
  len : u.pages.length = t.pages.length + (htT t - i)
  root : u.root = t.root
  same : ∀ j, j < i → pgAt u ((pathF t key (htT t) t.root).getD j 0) = pgAt t ((pathF t key (htT t) t.root).getD j 0)
  vk : vk (pgAt u ((pathF t key (htT t) t.root).getD i 0)).keys = true
  kl : (pgAt u ((pathF t key (htT t) t.root).getD i 0)).keys.length ≤ 5
  kr : allR (pgAt u ((pathF t key (htT t) t.root).getD i 0)).keys (bdF t key i t.root 0 99).1 (bdF t key i t.root 0 99).2 = true
  leaf : i = htT t → (pgAt u ((pathF t key (htT t) t.root).getD i 0)).kids = [] ∧ (pgAt u ((pathF t key (htT t) t.root).getD i 0)).vals.length = (pgAt u ((pathF t key (htT t) t.root).getD i 0)).keys.length ∧
    allR (pgAt u ((pathF t key (htT t) t.root).getD i 0)).vals (-1000) 1000 = true
  inn : i < htT t → (pgAt u ((pathF t key (htT t) t.root).getD i 0)).vals = [] ∧ (pgAt u ((pathF t key (htT t) t.root).getD i 0)).kids.length = (pgAt u ((pathF t key (htT t) t.root).getD i 0)).keys.length + 1 ∧
    (pgAt u ((pathF t key (htT t) t.root).getD i 0)).kids.Nodup ∧ ∀ k ∈ (pgAt u ((pathF t key (htT t) t.root).getD i 0)).kids, 0 ≤ k ∧ k < u.pages.length

theorem path_ne {t : Tr} (hv : TV t) {key : Int} {i j : Nat} (hi : i ≤ htT t) (hj : j ≤ htT t) (hij : i ≠ j) : ((pathF t key (htT t) t.root).getD i 0).toNat ≠ ((pathF t key (htT t) t.root).getD j 0).toNat := by
  have hn := path_nodup (key := key) hv.pd
  have hl := pathF_len t key (htT t) t.root
  have h1 := (pathF_pd (key := key) hv.pd i hi).rng
  have h2 := (pathF_pd (key := key) hv.pd j hj).rng
  intro he
  have he' : (pathF t key (htT t) t.root).getD i 0 = (pathF t key (htT t) t.root).getD j 0 := by omega
  have e1 := idx_get hn (i := i) (by omega)
  have e2 := idx_get hn (i := j) (by omega)
  rw [he'] at e1
  omega

theorem put_step {t : Tr} (hv : TV t) {key : Int} (hk : 0 ≤ key ∧ key ≤ 99) {i : Nat} {u : Tr} (hI : PutInv t key (i + 1) u) (h4 : 4 < (pgAt u ((pathF t key (htT t) t.root).getD (i + 1) 0)).keys.length) :
    ∀ x y s u1 q, x = (pathF t key (htT t) t.root).getD (i + 1) 0 → y = (pathF t key (htT t) t.root).getD i 0 → s = splP (pgAt u x) → u1 = addPg (setPg u x s.a) s.b → q = pgAt u1 y →
      q = pgAt t y ∧ vInn (inP q) = true ∧ q.kids.idxOf x < q.kids.length ∧ (u.pages.length ≤ 15 → vInn (inP (addK q (q.kids.idxOf x) s.key u.pages.length)) = true) ∧ PutInv t key i (setPg u1 y (addK q (q.kids.idxOf x) s.key u.pages.length)) ∧ q.keys.length = (pgAt t y).keys.length ∧
      (16 ≤ u.pages.length → vInn (inP (addK q (q.kids.idxOf x) s.key u.pages.length)) = false) := by
  intro x y s u1 q hx hy hs hu1 hq
  have hil := hI.il
  have hlen := hI.len
  have hpd := pathF_pd (key := key) hv.pd i (by omega)
  rw [← hy] at hpd
  obtain ⟨h', hh'⟩ : ∃ h', htT t - i = h' + 1 := ⟨htT t - i - 1, by omega⟩
  rw [hh'] at hpd
  have hinn := hpd.inn
  have hxr := (pathF_pd (key := key) hv.pd (i + 1) hil).rng
  rw [← hx] at hxr
  have hyr := hpd.rng
  have hne : x.toNat ≠ y.toNat := by rw [hx, hy]; exact path_ne hv (by omega) (by omega) (by omega)
  have hlu1 : u1.pages.length = u.pages.length + 1 := by rw [hu1]; simp [addPg, setPg]
  have hq' : q = pgAt t y := by
    have h1 := hI.same i (by omega)
    rw [← hy] at h1
    rw [hq, hu1, pgAt_add (by simp [setPg]; omega), pgAt_set_ne hne, h1]
  have hxk : x = q.kids.getD (cntU q.keys key) 0 := by
    rw [hx, path_succ i _ _ (by omega), ← hy, hq']
  have hpl : cntU q.keys key ≤ q.keys.length := cntU_le _ _
  have hkl : q.kids.length = q.keys.length + 1 := by rw [hq']; exact hinn.kids
  have hqn : q.kids.Nodup := by rw [hq']; exact hinn.nd
  have hidx : q.kids.idxOf x = cntU q.keys key := by rw [hxk]; exact idx_get hqn (by omega)
  have hqv : vInn (inP q) = true := by rw [hq']; exact hinn.inn
  have hqk : ∀ k ∈ q.kids, 0 ≤ k ∧ k < t.pages.length := fun k hk' => (hinn.pd k (by rw [← hq']; exact hk')).rng
  have hsk : (bdF t key (i + 1) t.root 0 99).1 < s.key ∧ s.key ≤ (bdF t key (i + 1) t.root 0 99).2 ∧ 0 ≤ s.key ∧ s.key ≤ 99 := by
    rw [hs, hx]
    exact spl_key hI.vk h4 hI.kr
  rw [bd_succ i (htT t) _ _ _ (by omega), ← hy] at hsk
  simp only [lowP, topP, ← hq'] at hsk
  have hpf := bd_pf (t := t) (key := key) (i := i) (h := htT t) (by omega) hv.pf
  rw [← hy, hh'] at hpf
  have hhd := headOk_iff.1 (pf_head hpf)
  rw [← hq'] at hhd
  obtain ⟨b1, b2, b3, b4⟩ := hhd
  have hb3 := allR_get.1 b3
  have e1 : 0 < cntU q.keys key → q.keys.getD (cntU q.keys key - 1) 0 < s.key := by
    intro h0
    have := hsk.1
    rw [show lowK q.keys (cntU q.keys key) (bdF t key i t.root 0 99).1 = q.keys.getD (cntU q.keys key - 1) 0 from if_pos h0] at this
    exact this
  have e2 : cntU q.keys key < q.keys.length → s.key < q.keys.getD (cntU q.keys key) 0 := by
    intro h0
    have := hsk.2.1
    rw [show topK q.keys (cntU q.keys key) (bdF t key i t.root 0 99).2 = q.keys.getD (cntU q.keys key) 0 - 1 from if_pos h0] at this
    omega
  have e3 : (bdF t key i t.root 0 99).1 ≤ s.key ∧ s.key ≤ (bdF t key i t.root 0 99).2 := by
    constructor
    · by_cases h0 : 0 < cntU q.keys key
      · have := e1 h0
        have := (hb3 (cntU q.keys key - 1) (by omega)).1
        omega
      · have := hsk.1
        rw [show lowK q.keys (cntU q.keys key) (bdF t key i t.root 0 99).1 = (bdF t key i t.root 0 99).1 from if_neg h0] at this
        omega
    · by_cases h0 : cntU q.keys key < q.keys.length
      · have := e2 h0
        have := (hb3 (cntU q.keys key) h0).2
        omega
      · have := hsk.2.1
        rw [show topK q.keys (cntU q.keys key) (bdF t key i t.root 0 99).2 = (bdF t key i t.root 0 99).2 from if_neg h0] at this
        exact this
  have hvk : vk (insL q.keys (cntU q.keys key) s.key) = true := vk_ins b1 hpl hsk.2.2 e1 e2
  have hnx : (u.pages.length : Int) ∉ q.kids := fun hm => by have := hqk _ hm; omega
  have hkn : (insL q.kids (cntU q.keys key + 1) u.pages.length).Nodup := nodup_ins hqn hnx
  have hkln : (insL q.kids (cntU q.keys key + 1) u.pages.length).length = (insL q.keys (cntU q.keys key) s.key).length + 1 := by
    rw [insL_len (by omega), insL_len hpl]; omega
  have hkk := insL_len (v := s.key) hpl
  rw [hidx]
  refine ⟨hq', hqv, by omega, fun h15 => ?_, ?_, by rw [hq'], fun h16 => ?_⟩
  · refine vInn_iff.2 ⟨hkn, hvk, ?_, ?_, hkln, ?_⟩
    · show 1 ≤ (insL q.keys (cntU q.keys key) s.key).length
      omega
    · show (insL q.keys (cntU q.keys key) s.key).length ≤ 5
      omega
    · rw [allR, List.all_eq_true]
      intro k hk'
      rcases mem_ins.1 hk' with rfl | hk'
      · exact inR_iff.2 (by omega)
      · have := hqk k hk'
        exact inR_iff.2 (by omega)
  · have hyu : y.toNat < u1.pages.length := by omega
    have hcur : pgAt (setPg u1 y (addK q (cntU q.keys key) s.key u.pages.length)) ((pathF t key (htT t) t.root).getD i 0) = addK q (cntU q.keys key) s.key u.pages.length := by
      rw [← hy]; exact pgAt_set hyu
    refine ⟨by omega, ?_, ?_, fun j hj => ?_, by rw [hcur]; exact hvk, by rw [hcur]; show (insL q.keys (cntU q.keys key) s.key).length ≤ 5; omega, ?_, fun he => by omega, fun _ => ?_⟩
    · show (u1.pages.set _ _).length = _
      rw [List.length_set]; omega
    · show u1.root = _
      rw [hu1]; exact hI.root
    · have hjr := (pathF_pd (key := key) hv.pd j (by omega)).rng
      have n1 : y.toNat ≠ ((pathF t key (htT t) t.root).getD j 0).toNat := by rw [hy]; exact path_ne hv (by omega) (by omega) (by omega)
      have n2 : x.toNat ≠ ((pathF t key (htT t) t.root).getD j 0).toNat := by rw [hx]; exact path_ne hv (by omega) (by omega) (by omega)
      have hjl : ((pathF t key (htT t) t.root).getD j 0).toNat < (setPg u x s.a).pages.length := by
        show _ < (u.pages.set _ _).length
        rw [List.length_set]; omega
      rw [pgAt_set_ne n1, hu1, pgAt_add hjl, pgAt_set_ne n2]
      exact hI.same j (by omega)
    · rw [hcur, allR, List.all_eq_true]
      intro k hk'
      rcases mem_ins.1 hk' with rfl | hk'
      · exact inR_iff.2 e3
      · obtain ⟨j, hj, rfl⟩ := mem_getD hk'
        exact inR_iff.2 (hb3 j hj)
    · rw [hcur]
      refine ⟨rfl, hkln, hkn, fun k hk' => ?_⟩
      show 0 ≤ k ∧ k < ((u1.pages.set _ _).length : Int)
      rw [List.length_set]
      rcases mem_ins.1 hk' with rfl | hk'
      · omega
      · have := hqk k hk'
        omega
  · cases hvi : vInn (inP (addK q (cntU q.keys key) s.key u.pages.length))
    · rfl
    · exfalso
      have h6 := (vInn_iff.1 hvi).2.2.2.2.2
      rw [allR, List.all_eq_true] at h6
      have := inR_iff.1 (h6 u.pages.length (mem_ins.2 (.inl rfl)))
      omega

end Go.TM
