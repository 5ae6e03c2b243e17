/- Trees, in plain words: what both programs compute of them. -/
import Derived.Test.YtbpfagbihffmbaaF19
namespace Go.TM
set_option linter.unusedVariables false
set_option linter.unusedSimpArgs false

/-! ### Lists -/

theorem sub_len : ∀ {ys xs : List Nat}, ys.Nodup → (∀ y ∈ ys, y ∈ xs) → ys.length ≤ xs.length
  | [], xs, _, _ => Nat.zero_le _
  | y :: ys, xs, hn, hs => by
    rw [List.nodup_cons] at hn
    have h1 := sub_len (ys := ys) (xs := xs.erase y) hn.2 fun z hz => (List.mem_erase_of_ne (by rintro rfl; exact hn.1 hz)).2 (hs z (List.mem_cons_of_mem _ hz))
    have h2 := List.length_erase_of_mem (hs y List.mem_cons_self)
    have h3 := List.length_pos_of_mem (hs y List.mem_cons_self)
    simp only [List.length_cons]
    omega

theorem nodup_toNat : ∀ {w : List Int}, (∀ y ∈ w, 0 ≤ y) → w.Nodup → (w.map Int.toNat).Nodup
  | [], _, _ => by simp
  | y :: w, h0, hn => by
    rw [List.nodup_cons] at hn
    rw [List.map_cons, List.nodup_cons]
    refine ⟨fun hm => ?_, nodup_toNat (fun z hz => h0 z (List.mem_cons_of_mem _ hz)) hn.2⟩
    obtain ⟨z, hz, he⟩ := List.mem_map.1 hm
    have h1 := h0 y List.mem_cons_self
    have h2 := h0 z (List.mem_cons_of_mem _ hz)
    obtain rfl : z = y := by omega
    exact hn.1 hz

/-- Different numbers below n: n of them if, and only if, all. -/
theorem all_iff_len {w : List Int} {n : Nat} (hn : w.Nodup) (hr : ∀ y ∈ w, 0 ≤ y ∧ y < n) : w.length = n ↔ ∀ i, i < n → ∃ y ∈ w, y.toNat = i := by
  have hd := nodup_toNat (fun y hy => (hr y hy).1) hn
  constructor
  · intro hl i hi
    by_cases hm : i ∈ w.map Int.toNat
    · obtain ⟨y, hy, he⟩ := List.mem_map.1 hm
      exact ⟨y, hy, he⟩
    · exfalso
      have := sub_len (ys := i :: w.map Int.toNat) (xs := List.range n) (List.nodup_cons.2 ⟨hm, hd⟩) fun z hz => by
        rw [List.mem_range]
        rcases List.mem_cons.1 hz with rfl | hz
        · exact hi
        · obtain ⟨y, hy, rfl⟩ := List.mem_map.1 hz
          have := hr y hy
          omega
      simp only [List.length_cons, List.length_map, List.length_range] at this
      omega
  · intro ha
    have h1 := sub_len (ys := w.map Int.toNat) (xs := List.range n) hd fun z hz => by
      obtain ⟨y, hy, rfl⟩ := List.mem_map.1 hz
      have := hr y hy
      rw [List.mem_range]
      omega
    have h2 := sub_len (ys := List.range n) (xs := w.map Int.toNat) List.nodup_range fun z hz => by
      obtain ⟨y, hy, he⟩ := ha z (List.mem_range.1 hz)
      exact List.mem_map.2 ⟨y, hy, he⟩
    simp only [List.length_map, List.length_range] at h1 h2
    omega

theorem range_flat {β : Type} (f : Int → List β) : ∀ xs : List Int, (List.range xs.length).flatMap (fun i => f (xs.getD i 0)) = xs.flatMap f
  | [] => rfl
  | x :: xs => by
    rw [List.length_cons, List.range_succ_eq_map, List.flatMap_cons, List.flatMap_cons, List.flatMap_map]
    have := range_flat f xs
    simp only [List.getD_cons_zero, List.getD_cons_succ]
    rw [this]

/-! ### What the reference asks of a tree -/

def pgAt (t : Tr) (x : Int) : Pg := t.pages.getD x.toNat default
def lowK (ks : List Int) (i : Nat) (low : Int) : Int := if 0 < i then ks.getD (i - 1) 0 else low
def topK (ks : List Int) (i : Nat) (hi : Int) : Int := if i < ks.length then ks.getD i 0 - 1 else hi
def hiK (ks : List Int) (i : Nat) (hi : Int) : Int := if i < ks.length then ks.getD i 0 else hi
theorem topK_hi (ks : List Int) (i : Nat) (hi : Int) : topK ks i (hi - 1) = hiK ks i hi - 1 := by
  unfold topK hiK; split <;> rfl

/-- What a page must be, whatever is below it. -/
noncomputable def headOk (t : Tr) (x low hi : Int) : Bool :=
  vk (pgAt t x).keys && (decide ((pgAt t x).keys.length ≤ 4) && (allR (pgAt t x).keys low hi && (decide (x = t.root) || decide (2 ≤ (pgAt t x).keys.length))))
def leafOk (p : Pg) : Bool := decide (p.kids.length = 0) && (decide (p.vals.length = p.keys.length) && allR p.vals (-1000) 1000)
def innOk (t : Tr) (p : Pg) : Bool := decide (p.keys.length ≠ 0) && (decide (p.vals.length = 0) && (decide (p.kids.length = p.keys.length + 1) && allR p.kids 0 ((t.pages.length : Int) - 1)))

/-- The page with a number, and h levels of pages below it, are right. -/
noncomputable def pf (t : Tr) : Nat → Int → Int → Int → Bool
  | 0, x, low, hi => headOk t x low hi && leafOk (pgAt t x)
  | h + 1, x, low, hi => headOk t x low hi && (innOk t (pgAt t x) && (List.range (pgAt t x).kids.length).all fun i => pf t h ((pgAt t x).kids.getD i 0) (lowK (pgAt t x).keys i low) (topK (pgAt t x).keys i hi))

/-- A page, and all pages below it. -/
def wk (t : Tr) : Nat → Int → List Int
  | 0, x => [x]
  | h + 1, x => x :: (pgAt t x).kids.flatMap (wk t h)

/-- How far it is down to the first leaf, at most k. -/
def htF (t : Tr) : Nat → Int → Nat
  | 0, _ => 0
  | k + 1, x => if inR x 0 ((t.pages.length : Int) - 1) = true ∧ (pgAt t x).kids.length ≠ 0 then htF t k ((pgAt t x).kids.getD 0 0) + 1 else 0

abbrev htT (t : Tr) : Nat := htF t 3 t.root
noncomputable def vTr (t : Tr) : Bool := inR t.pages.length 1 16 && (inR t.root 0 ((t.pages.length : Int) - 1) && (decide (htT t ≤ 2) && (pf t (htT t) t.root 0 99 &&
  (decide (wk t (htT t) t.root).Nodup && decide ((wk t (htT t) t.root).length = t.pages.length)))))

theorem inR_iff {n a b : Int} : inR n a b = true ↔ a ≤ n ∧ n ≤ b := by simp [inR]

theorem pf_head {t : Tr} {h : Nat} {x low hi : Int} (hp : pf t h x low hi = true) : headOk t x low hi = true := by
  cases h <;> (simp only [pf, Bool.and_eq_true] at hp; exact hp.1)

theorem pf_succ {t : Tr} {h : Nat} {x low hi : Int} : pf t (h + 1) x low hi = true ↔ headOk t x low hi = true ∧ innOk t (pgAt t x) = true ∧
    ∀ i, i < (pgAt t x).kids.length → pf t h ((pgAt t x).kids.getD i 0) (lowK (pgAt t x).keys i low) (topK (pgAt t x).keys i hi) = true := by
  simp only [pf, Bool.and_eq_true, List.all_eq_true, List.mem_range]

theorem pf_zero {t : Tr} {x low hi : Int} : pf t 0 x low hi = true ↔ headOk t x low hi = true ∧ leafOk (pgAt t x) = true := by
  simp only [pf, Bool.and_eq_true]

theorem innOk_iff {t : Tr} {p : Pg} : innOk t p = true ↔ p.keys.length ≠ 0 ∧ p.vals.length = 0 ∧ p.kids.length = p.keys.length + 1 ∧ ∀ y ∈ p.kids, 0 ≤ y ∧ y < t.pages.length := by
  simp only [innOk, Bool.and_eq_true, decide_eq_true_eq, allR, List.all_eq_true, inR_iff]
  constructor
  · rintro ⟨h1, h2, h3, h4⟩
    exact ⟨h1, h2, h3, fun y hy => by have := h4 y hy; omega⟩
  · rintro ⟨h1, h2, h3, h4⟩
    exact ⟨h1, h2, h3, fun y hy => by have := h4 y hy; omega⟩

theorem leafOk_iff {p : Pg} : leafOk p = true ↔ p.kids.length = 0 ∧ p.vals.length = p.keys.length ∧ allR p.vals (-1000) 1000 = true := by
  simp only [leafOk, Bool.and_eq_true, decide_eq_true_eq]

theorem headOk_iff {t : Tr} {x low hi : Int} : headOk t x low hi = true ↔ vk (pgAt t x).keys = true ∧ (pgAt t x).keys.length ≤ 4 ∧ allR (pgAt t x).keys low hi = true ∧ (x = t.root ∨ 2 ≤ (pgAt t x).keys.length) := by
  simp only [headOk, Bool.and_eq_true, decide_eq_true_eq, Bool.or_eq_true]

theorem mem_getD {xs : List Int} {y : Int} (h : y ∈ xs) : ∃ i, i < xs.length ∧ xs.getD i 0 = y := by
  obtain ⟨i, hi, rfl⟩ := List.getElem_of_mem h
  exact ⟨i, hi, by simp [hi]⟩

/-- All pages of a right part are there. -/
theorem wk_rng {t : Tr} : ∀ {h : Nat} {x low hi : Int}, pf t h x low hi = true → 0 ≤ x ∧ x < t.pages.length → ∀ y ∈ wk t h x, 0 ≤ y ∧ y < t.pages.length
  | 0, x, low, hi, _, hx, y, hy => by
    simp only [wk, List.mem_singleton] at hy
    rw [hy]; exact hx
  | h + 1, x, low, hi, hp, hx, y, hy => by
    rw [pf_succ] at hp
    obtain ⟨_, h2, h3⟩ := hp
    simp only [wk, List.mem_cons, List.mem_flatMap] at hy
    rcases hy with rfl | ⟨k, hk, hy⟩
    · exact hx
    · obtain ⟨i, hi', rfl⟩ := mem_getD hk
      exact wk_rng (h3 i hi') ((innOk_iff.1 h2).2.2.2 _ hk) y hy

/-- The height is told by the first kids. -/
theorem htF_pf {t : Tr} : ∀ {h k : Nat} {x low hi : Int}, pf t h x low hi = true → 0 ≤ x ∧ x < t.pages.length → h < k → htF t k x = h
  | 0, k + 1, x, low, hi, hp, hx, _ => by
    rw [pf_zero] at hp
    have := (leafOk_iff.1 hp.2).1
    simp [htF, this]
  | h + 1, k + 1, x, low, hi, hp, hx, hk => by
    rw [pf_succ] at hp
    obtain ⟨_, h2, h3⟩ := hp
    obtain ⟨i1, i2, i3, i4⟩ := innOk_iff.1 h2
    have h0 : 0 < (pgAt t x).kids.length := by omega
    have hm : (pgAt t x).kids.getD 0 0 ∈ (pgAt t x).kids := getD_mem h0
    simp only [htF]
    rw [if_pos ⟨inR_iff.2 ⟨hx.1, by omega⟩, by omega⟩, htF_pf (h3 0 h0) (i4 _ hm) (by omega)]
  | _, 0, _, _, _, _, _, hk => by omega

/-! ### What the program does -/

noncomputable def filledOk (t : Tr) (x : Int) : Bool :=
  decide ((pgAt t x).keys.length ≤ 4) && (vk (pgAt t x).keys && ((decide (x = t.root) || decide (2 ≤ (pgAt t x).keys.length)) &&
    if (pgAt t x).kids.length = 0 then decide ((pgAt t x).vals.length = (pgAt t x).keys.length) && allR (pgAt t x).vals (-1000) 1000
    else decide ((pgAt t x).vals.length = 0) && (decide (1 ≤ (pgAt t x).keys.length) && decide ((pgAt t x).kids.length = (pgAt t x).keys.length + 1))))

abbrev VS := List Bool × Int

def klF (g : Nat → VS → Bool × VS) : List Nat → VS → Bool × VS
  | [], s => (true, s)
  | i :: r, s => if (g i s).1 = true then klF g r (g i s).2 else (false, (g i s).2)

noncomputable def visF (t : Tr) : Nat → Int → Int → Int → Int → VS → Bool × VS
  | 0, _, _, _, _, s => (false, s)
  | n + 1, x, d, low, high, s =>
    if inR x 0 ((t.pages.length : Int) - 1) = false ∨ 3 ≤ d ∨ s.1.getD x.toNat false = true then (false, s)
    else if filledOk t x = false ∨ allR (pgAt t x).keys low (high - 1) = false then (false, s.1.set x.toNat true, s.2)
    else if (pgAt t x).kids.length = 0 then (decide ((if s.2 < 0 then d else s.2) = d), s.1.set x.toNat true, if s.2 < 0 then d else s.2)
    else klF (fun i s' => visF t n ((pgAt t x).kids.getD i 0) (d + 1) (lowK (pgAt t x).keys i low) (hiK (pgAt t x).keys i high) s') (List.range (pgAt t x).kids.length) (s.1.set x.toNat true, s.2)

def markL (sn : List Bool) (w : List Int) : List Bool := w.foldl (fun s x => s.set x.toNat true) sn
theorem markL_len (w : List Int) : ∀ sn : List Bool, (markL sn w).length = sn.length := by
  induction w with
  | nil => intro sn; rfl
  | cons y w ih => intro sn; show (markL (sn.set y.toNat true) w).length = _; rw [ih]; simp
theorem markL_app (sn : List Bool) (v w : List Int) : markL sn (v ++ w) = markL (markL sn v) w := by simp [markL, List.foldl_append]
theorem markL_get (w : List Int) : ∀ (sn : List Bool) (k : Nat), k < sn.length → ((markL sn w).getD k false = true ↔ sn.getD k false = true ∨ ∃ y ∈ w, y.toNat = k) := by
  induction w with
  | nil => intro sn k _; simp [markL]
  | cons y w ih =>
    intro sn k hk
    show (markL (sn.set y.toNat true) w).getD k false = true ↔ _
    rw [ih _ k (by simpa using hk)]
    by_cases he : y.toNat = k
    · subst he
      simp [hk]
    · have : (sn.set y.toNat true).getD k false = sn.getD k false := by simp [List.getElem?_set, he]
      rw [this]
      constructor
      · rintro (h | ⟨z, hz, hzk⟩)
        · exact .inl h
        · exact .inr ⟨z, List.mem_cons_of_mem _ hz, hzk⟩
      · rintro (h | ⟨z, hz, hzk⟩)
        · exact .inl h
        · rcases List.mem_cons.1 hz with rfl | hz
          · exact (he hzk).elim
          · exact .inr ⟨z, hz, hzk⟩

/-- A part of a tree, from a page on, is right, new, and of the height h. -/
structure Fits (t : Tr) (d : Int) (h : Nat) (x low high : Int) (s s' : VS) : Prop where
  rng : 0 ≤ x ∧ x < t.pages.length
  lim : d + h < 3
  pf : pf t h x low (high - 1) = true
  nd : (wk t h x).Nodup
  un : ∀ y ∈ wk t h x, s.1.getD y.toNat false = false
  ld : s.2 < 0 ∨ s.2 = d + h
  e : s' = (markL s.1 (wk t h x), d + h)

structure FitsL (t : Tr) (d : Int) (h : Nat) (kid low high : Nat → Int) (is : List Nat) (s s' : VS) : Prop where
  lim : d + h < 3
  pf : ∀ i ∈ is, (0 ≤ kid i ∧ kid i < t.pages.length) ∧ TM.pf t h (kid i) (low i) (high i - 1) = true
  nd : (is.flatMap fun i => wk t h (kid i)).Nodup
  un : ∀ y ∈ is.flatMap fun i => wk t h (kid i), s.1.getD y.toNat false = false
  ld : s.2 < 0 ∨ s.2 = d + h
  e : s' = (markL s.1 (is.flatMap fun i => wk t h (kid i)), d + h)

theorem FitsL.one {t : Tr} {d : Int} {h : Nat} {kid low high : Nat → Int} {i : Nat} {s s' : VS} (f : Fits t d h (kid i) (low i) (high i) s s') : FitsL t d h kid low high [i] s s' := by
  have e : ([i].flatMap fun i => wk t h (kid i)) = wk t h (kid i) := by simp
  refine ⟨f.lim, fun j hj => ?_, by rw [e]; exact f.nd, by rw [e]; exact f.un, f.ld, by rw [e]; exact f.e⟩
  rw [List.mem_singleton] at hj
  subst hj
  exact ⟨f.rng, f.pf⟩

theorem FitsL.cons {t : Tr} {d : Int} {h : Nat} {kid low high : Nat → Int} {i : Nat} {r : List Nat} {s s1 s' : VS} (hlen : t.pages.length ≤ s.1.length)
    (f : Fits t d h (kid i) (low i) (high i) s s1) (g : FitsL t d h kid low high r s1 s') : FitsL t d h kid low high (i :: r) s s' := by
  have e : ((i :: r).flatMap fun i => wk t h (kid i)) = wk t h (kid i) ++ r.flatMap fun i => wk t h (kid i) := List.flatMap_cons
  have e1 : s1.1 = markL s.1 (wk t h (kid i)) := by rw [f.e]
  have hr : ∀ y ∈ r.flatMap fun i => wk t h (kid i), 0 ≤ y ∧ y < t.pages.length := by
    intro y hy
    obtain ⟨j, hj, hy⟩ := List.mem_flatMap.1 hy
    exact wk_rng (g.pf j hj).2 (g.pf j hj).1 y hy
  have hun : ∀ y ∈ r.flatMap fun i => wk t h (kid i), s.1.getD y.toNat false = false ∧ y ∉ wk t h (kid i) := by
    intro y hy
    have h1 := g.un y hy
    rw [e1] at h1
    have h2 := markL_get (wk t h (kid i)) s.1 y.toNat (by have := hr y hy; omega)
    rw [h1] at h2
    constructor
    · cases hs : s.1.getD y.toNat false
      · rfl
      · exact absurd (h2.2 (.inl hs)) (by simp)
    · intro hm
      exact absurd (h2.2 (.inr ⟨y, hm, rfl⟩)) (by simp)
  refine ⟨f.lim, fun j hj => ?_, ?_, fun y hy => ?_, f.ld, ?_⟩
  · rcases List.mem_cons.1 hj with rfl | hj
    · exact ⟨f.rng, f.pf⟩
    · exact g.pf j hj
  · rw [e, List.nodup_append]
    exact ⟨f.nd, g.nd, fun a ha b hb hab => (hun b hb).2 (hab ▸ ha)⟩
  · rw [e] at hy
    rcases List.mem_append.1 hy with hy | hy
    · exact f.un y hy
    · exact (hun y hy).1
  · rw [e, markL_app, ← e1]
    exact g.e

theorem FitsL.uncons {t : Tr} {d : Int} {h : Nat} {kid low high : Nat → Int} {i : Nat} {r : List Nat} {s s' : VS} (hlen : t.pages.length ≤ s.1.length) (hd : 0 ≤ d)
    (g : FitsL t d h kid low high (i :: r) s s') : Fits t d h (kid i) (low i) (high i) s (markL s.1 (wk t h (kid i)), d + h) ∧ (r ≠ [] → FitsL t d h kid low high r (markL s.1 (wk t h (kid i)), d + h) s') ∧
      (r = [] → s' = (markL s.1 (wk t h (kid i)), d + h)) := by
  have e : ((i :: r).flatMap fun i => wk t h (kid i)) = wk t h (kid i) ++ r.flatMap fun i => wk t h (kid i) := List.flatMap_cons
  have hnd := g.nd
  rw [e, List.nodup_append] at hnd
  obtain ⟨n1, n2, n3⟩ := hnd
  have hr : ∀ y ∈ r.flatMap fun i => wk t h (kid i), 0 ≤ y ∧ y < t.pages.length := by
    intro y hy
    obtain ⟨j, hj, hy⟩ := List.mem_flatMap.1 hy
    exact wk_rng (g.pf j (List.mem_cons_of_mem _ hj)).2 (g.pf j (List.mem_cons_of_mem _ hj)).1 y hy
  have hi := g.pf i List.mem_cons_self
  refine ⟨⟨hi.1, g.lim, hi.2, n1, fun y hy => g.un y (by rw [e]; exact List.mem_append_left _ hy), g.ld, rfl⟩, fun _ => ⟨g.lim, fun j hj => g.pf j (List.mem_cons_of_mem _ hj), n2, fun y hy => ?_, .inr rfl, ?_⟩, fun h0 => ?_⟩
  · show (markL s.1 (wk t h (kid i))).getD y.toNat false = false
    cases hs : (markL s.1 (wk t h (kid i))).getD y.toNat false
    · rfl
    · exfalso
      have hy' := hr y hy
      rcases (markL_get _ s.1 y.toNat (by omega)).1 hs with h1 | ⟨z, hz, he⟩
      · rw [g.un y (by rw [e]; exact List.mem_append_right _ hy)] at h1
        cases h1
      · have hz' := wk_rng hi.2 hi.1 z hz
        exact n3 z hz y hy (by omega)
  · rw [g.e, e, markL_app]
  · subst h0
    rw [g.e, e]
    simp

theorem klF_sound {t : Tr} {d : Int} {kid low high : Nat → Int} {g : Nat → VS → Bool × VS} (hd : 0 ≤ d) : ∀ {is : List Nat} {s s' : VS}, t.pages.length ≤ s.1.length → is ≠ [] →
    (∀ i ∈ is, ∀ s s', t.pages.length ≤ s.1.length → g i s = (true, s') → ∃ h, Fits t d h (kid i) (low i) (high i) s s') → klF g is s = (true, s') → ∃ h, FitsL t d h kid low high is s s'
  | [], _, _, _, h, _, _ => (h rfl).elim
  | i :: r, s, s', hlen, _, hg, hk => by
    simp only [klF] at hk
    split at hk
    · rename_i h1
      obtain ⟨h, f⟩ := hg i List.mem_cons_self s (g i s).2 hlen (by rw [← h1])
      by_cases hr : r = []
      · subst hr
        simp only [klF, Prod.mk.injEq, true_and] at hk
        rw [hk] at f
        exact ⟨h, FitsL.one f⟩
      · have hs1 : (g i s).2.1.length = s.1.length := by rw [f.e]; exact markL_len _ _
        obtain ⟨h', f'⟩ := klF_sound hd (is := r) (s := (g i s).2) (s' := s') (by omega) hr (fun j hj => hg j (List.mem_cons_of_mem _ hj)) hk
        have : h' = h := by
          have h3 : (g i s).2.2 = d + h := by rw [f.e]
          rcases f'.ld with h2 | h2 <;> omega
        subst this
        exact ⟨h', FitsL.cons hlen f f'⟩
    · cases hk

theorem klF_compl {t : Tr} {d : Int} {h : Nat} {kid low high : Nat → Int} {g : Nat → VS → Bool × VS} (hd : 0 ≤ d) (hg : ∀ i s s', t.pages.length ≤ s.1.length → Fits t d h (kid i) (low i) (high i) s s' → g i s = (true, s')) :
    ∀ {is : List Nat} {s s' : VS}, t.pages.length ≤ s.1.length → is ≠ [] → FitsL t d h kid low high is s s' → klF g is s = (true, s')
  | [], _, _, _, h, _ => (h rfl).elim
  | i :: r, s, s', hlen, _, f => by
    obtain ⟨f1, f2, f3⟩ := f.uncons hlen hd
    have h1 := hg i s _ hlen f1
    simp only [klF, h1, if_true]
    by_cases hr : r = []
    · rw [f3 hr, hr]
      rfl
    · exact klF_compl hd hg (by show _ ≤ (markL _ _).length; rw [markL_len]; exact hlen) hr (f2 hr)

theorem filled_leaf {t : Tr} {x low hi : Int} (hk : (pgAt t x).kids.length = 0) : (filledOk t x = true ∧ allR (pgAt t x).keys low hi = true) ↔ pf t 0 x low hi = true := by
  rw [pf_zero, headOk_iff, leafOk_iff]
  simp only [filledOk, Bool.and_eq_true, decide_eq_true_eq, Bool.or_eq_true, if_pos hk]
  constructor
  · rintro ⟨⟨h1, h2, h3, h4, h5⟩, h6⟩
    exact ⟨⟨h2, h1, h6, h3⟩, hk, h4, h5⟩
  · rintro ⟨⟨h2, h1, h6, h3⟩, _, h4, h5⟩
    exact ⟨⟨h1, h2, h3, h4, h5⟩, h6⟩

theorem filled_inn {t : Tr} {x low hi : Int} (hk : (pgAt t x).kids.length ≠ 0) : (filledOk t x = true ∧ allR (pgAt t x).keys low hi = true) ↔
    headOk t x low hi = true ∧ (pgAt t x).keys.length ≠ 0 ∧ (pgAt t x).vals.length = 0 ∧ (pgAt t x).kids.length = (pgAt t x).keys.length + 1 := by
  rw [headOk_iff]
  simp only [filledOk, Bool.and_eq_true, decide_eq_true_eq, Bool.or_eq_true, if_neg hk]
  constructor
  · rintro ⟨⟨h1, h2, h3, h4, h5, h7⟩, h6⟩
    exact ⟨⟨h2, h1, h6, h3⟩, by omega, h4, h7⟩
  · rintro ⟨⟨h2, h1, h6, h3⟩, h4, h5, h7⟩
    exact ⟨⟨h1, h2, h3, h5, by omega, h7⟩, h6⟩

theorem vis_sound {t : Tr} : ∀ {n : Nat} {x d low high : Int} {s s' : VS}, 0 ≤ d → t.pages.length ≤ s.1.length → visF t n x d low high s = (true, s') → ∃ h, Fits t d h x low high s s'
  | 0, _, _, _, _, _, _, _, _, h => by simp [visF] at h
  | n + 1, x, d, low, high, s, s', hd, hlen, h => by
    simp only [visF] at h
    split at h
    · cases h
    · rename_i h1
      have h1a : 0 ≤ x ∧ x < t.pages.length := by
        have : inR x 0 ((t.pages.length : Int) - 1) = true := by
          cases hh : inR x 0 ((t.pages.length : Int) - 1)
          · exact (h1 (.inl hh)).elim
          · rfl
        have := inR_iff.1 this
        omega
      have h1b : d < 3 := by
        by_cases hh : d < 3
        · exact hh
        · exact (h1 (.inr (.inl (by omega)))).elim
      have h1c : s.1.getD x.toNat false = false := by
        cases hh : s.1.getD x.toNat false
        · rfl
        · exact (h1 (.inr (.inr hh))).elim
      split at h
      · cases h
      · rename_i h2
        have h2' : filledOk t x = true ∧ allR (pgAt t x).keys low (high - 1) = true := by
          constructor
          · cases hh : filledOk t x
            · exact (h2 (.inl hh)).elim
            · rfl
          · cases hh : allR (pgAt t x).keys low (high - 1)
            · exact (h2 (.inr hh)).elim
            · rfl
        split at h
        · rename_i h3
          simp only [Prod.mk.injEq, decide_eq_true_eq] at h
          obtain ⟨h4, h5⟩ := h
          refine ⟨0, h1a, by omega, (filled_leaf h3).1 h2', by simp [wk], fun y hy => ?_, ?_, ?_⟩
          · simp only [wk, List.mem_singleton] at hy
            rw [hy]; exact h1c
          · split at h4
            · exact .inl (by assumption)
            · right; rw [h4]; simp
          · rw [← h5, h4]
            simp [wk, markL]
        · rename_i h3
          obtain ⟨i1, i2, i3, i4⟩ := (filled_inn h3).1 h2'
          have hr : List.range (pgAt t x).kids.length ≠ [] := by
            intro h0
            have := congrArg List.length h0
            simp only [List.length_range, List.length_nil] at this
            exact h3 this
          obtain ⟨h', f⟩ := klF_sound (kid := fun i => (pgAt t x).kids.getD i 0) (low := fun i => lowK (pgAt t x).keys i low) (high := fun i => hiK (pgAt t x).keys i high) (d := d + 1) (by omega) (t := t) (by simpa using hlen) hr
            (fun i hi s s' hl hv => vis_sound (by omega) hl hv) h
          have ef := range_flat (wk t h') (pgAt t x).kids
          have hnd := f.nd
          have hun := f.un
          have he := f.e
          rw [ef] at hnd hun he
          have hx : x.toNat < s.1.length := by omega
          have hnx : x ∉ (pgAt t x).kids.flatMap (wk t h') := by
            intro hm
            have := hun x hm
            simp [hx] at this
          have hrng : ∀ y ∈ (pgAt t x).kids.flatMap (wk t h'), 0 ≤ y ∧ y < t.pages.length := by
            intro y hy
            rw [← ef] at hy
            obtain ⟨j, hj, hy⟩ := List.mem_flatMap.1 hy
            exact wk_rng (f.pf j hj).2 (f.pf j hj).1 y hy
          refine ⟨h' + 1, h1a, by have := f.lim; omega, ?_, ?_, fun y hy => ?_, ?_, ?_⟩
          · rw [pf_succ]
            refine ⟨i1, innOk_iff.2 ⟨i2, i3, i4, fun y hy => ?_⟩, fun i hi => ?_⟩
            · obtain ⟨i, hi, rfl⟩ := mem_getD hy
              exact (f.pf i (List.mem_range.2 hi)).1
            · rw [topK_hi]
              exact (f.pf i (List.mem_range.2 hi)).2
          · simp only [wk, List.nodup_cons]
            exact ⟨hnx, hnd⟩
          · simp only [wk, List.mem_cons] at hy
            rcases hy with rfl | hy
            · exact h1c
            · have h7 := hun y hy
              have h8 := hrng y hy
              have hne : x.toNat ≠ y.toNat := by
                intro he
                have : x = y := by omega
                exact hnx (this ▸ hy)
              simpa [List.getElem?_set, hne] using h7
          · have := f.ld
            dsimp only at this
            omega
          · rw [he]
            show _ = (markL (s.1.set x.toNat true) _, _)
            rw [show d + 1 + (h' : Int) = d + ((h' + 1 : Nat) : Int) from by omega]

theorem vis_compl {t : Tr} : ∀ {n h : Nat} {x d low high : Int} {s s' : VS}, 0 ≤ d → t.pages.length ≤ s.1.length → h < n → Fits t d h x low high s s' → visF t n x d low high s = (true, s')
  | 0, _, _, _, _, _, _, _, _, _, h, _ => by omega
  | n + 1, h, x, d, low, high, s, s', hd, hlen, hn, f => by
    have g1 : ¬ (inR x 0 ((t.pages.length : Int) - 1) = false ∨ 3 ≤ d ∨ s.1.getD x.toNat false = true) := by
      have hr := f.rng
      have hl := f.lim
      have hx : x ∈ wk t h x := by cases h <;> simp [wk]
      rintro (h1 | h1 | h1)
      · rw [inR_iff.2 (by omega)] at h1; cases h1
      · omega
      · rw [f.un x hx] at h1; cases h1
    simp only [visF]
    rw [if_neg g1]
    cases h with
    | zero =>
      have hp := f.pf
      have h3 := (leafOk_iff.1 (pf_zero.1 hp).2).1
      obtain ⟨a1, a2⟩ := (filled_leaf h3).2 hp
      rw [if_neg (by rw [a1, a2]; simp), if_pos h3, f.e]
      have hl := f.ld
      have : (if s.2 < 0 then d else s.2) = d := by split <;> omega
      rw [this]
      simp [wk, markL]
    | succ h =>
      have hp := f.pf
      obtain ⟨p1, p2, p3⟩ := pf_succ.1 hp
      obtain ⟨i1, i2, i3, i4⟩ := innOk_iff.1 p2
      have h3 : (pgAt t x).kids.length ≠ 0 := by omega
      obtain ⟨a1, a2⟩ := (filled_inn h3).2 ⟨p1, i1, i2, i3⟩
      rw [if_neg (by rw [a1, a2]; simp), if_neg h3]
      have hr : List.range (pgAt t x).kids.length ≠ [] := by
        intro h0
        have := congrArg List.length h0
        simp only [List.length_range, List.length_nil] at this
        exact h3 this
      have hx : x.toNat < s.1.length := by have := f.rng; omega
      have hnd := f.nd
      simp only [wk, List.nodup_cons] at hnd
      have ef := range_flat (wk t h) (pgAt t x).kids
      refine klF_compl (h := h) (kid := fun i => (pgAt t x).kids.getD i 0) (low := fun i => lowK (pgAt t x).keys i low) (high := fun i => hiK (pgAt t x).keys i high) (d := d + 1) (by omega) (t := t)
        (fun i s s' hl hv => vis_compl (by omega) hl (by omega) hv) (by simpa using hlen) hr ⟨by have := f.lim; omega, fun i hi => ?_, ?_, fun y hy => ?_, ?_, ?_⟩
      · rw [List.mem_range] at hi
        refine ⟨i4 _ (getD_mem hi), ?_⟩
        rw [← topK_hi]
        exact p3 i hi
      · rw [ef]; exact hnd.2
      · rw [ef] at hy
        have h7 := f.un y (by simp only [wk, List.mem_cons]; exact .inr hy)
        have hy' := wk_rng f.pf f.rng y (by simp only [wk, List.mem_cons]; exact .inr hy)
        have hx' := f.rng
        have hne : x.toNat ≠ y.toNat := by
          intro he
          have : x = y := by omega
          exact hnd.1 (this ▸ hy)
        simpa [List.getElem?_set, hne] using h7
      · have := f.ld
        dsimp only
        omega
      · rw [ef, f.e]
        show (markL (s.1.set x.toNat true) _, _) = _
        rw [show d + 1 + (h : Int) = d + ((h + 1 : Nat) : Int) from by omega]

/-- What the program's ValidTree computes. -/
noncomputable def vTrI (t : Tr) : Bool := decide (1 ≤ t.pages.length) && (decide (t.pages.length ≤ 16) && ((visF t 3 t.root 0 0 100 (List.replicate 16 false, -1)).1 &&
  (List.range t.pages.length).all fun i => (visF t 3 t.root 0 0 100 (List.replicate 16 false, -1)).2.1.getD i false))

theorem rep_get (n k : Nat) : (List.replicate n false).getD k false = false := by
  simp only [List.getD_eq_getElem?_getD, List.getElem?_replicate]
  split <;> rfl

structure TV (t : Tr) : Prop where
  len : 1 ≤ t.pages.length ∧ t.pages.length ≤ 16
  root : 0 ≤ t.root ∧ t.root < t.pages.length
  ht : htT t ≤ 2
  pf : pf t (htT t) t.root 0 99 = true
  nd : (wk t (htT t) t.root).Nodup
  all : (wk t (htT t) t.root).length = t.pages.length

theorem vTr_iff {t : Tr} : vTr t = true ↔ TV t := by
  simp only [vTr, Bool.and_eq_true, decide_eq_true_eq, inR_iff]
  constructor
  · rintro ⟨h1, h2, h3, h4, h5, h6⟩
    exact ⟨by omega, by omega, h3, h4, h5, h6⟩
  · rintro ⟨h1, h2, h3, h4, h5, h6⟩
    exact ⟨by omega, by omega, h3, h4, h5, h6⟩

theorem vTrI_eq (t : Tr) : vTrI t = vTr t := by
  rw [Bool.eq_iff_iff, vTr_iff]
  simp only [vTrI, Bool.and_eq_true, decide_eq_true_eq, List.all_eq_true, List.mem_range]
  constructor
  · rintro ⟨h1, h2, h3, h4⟩
    obtain ⟨s', hs⟩ : ∃ s', visF t 3 t.root 0 0 100 (List.replicate 16 false, -1) = (true, s') := ⟨(visF t 3 t.root 0 0 100 (List.replicate 16 false, -1)).2, by rw [← h3]⟩
    obtain ⟨h, f⟩ := vis_sound (Int.le_refl _) (by simpa using h2) hs
    have hh : htT t = h := htF_pf f.pf f.rng (by have := f.lim; omega)
    have hall := all_iff_len f.nd (wk_rng f.pf f.rng)
    refine ⟨⟨h1, h2⟩, f.rng, by have := f.lim; omega, by rw [hh]; exact f.pf, by rw [hh]; exact f.nd, ?_⟩
    rw [hh, hall]
    intro i hi
    have h5 := h4 i hi
    rw [hs, f.e] at h5
    rcases (markL_get _ _ i (by simp; omega)).1 h5 with h6 | h6
    · rw [rep_get] at h6; cases h6
    · exact h6
  · rintro ⟨⟨h1, h2⟩, h3, h4, h5, h6, h7⟩
    have f : Fits t 0 (htT t) t.root 0 100 (List.replicate 16 false, -1) (markL (List.replicate 16 false) (wk t (htT t) t.root), 0 + (htT t : Int)) :=
      ⟨h3, by omega, h5, h6, fun y hy => rep_get _ _, .inl (by decide), rfl⟩
    have hs := vis_compl (n := 3) (Int.le_refl _) (by simpa using h2) (by omega) f
    refine ⟨h1, h2, by rw [hs], fun i hi => ?_⟩
    rw [hs]
    refine (markL_get _ _ i (by simp; omega)).2 (.inr ?_)
    exact (all_iff_len h6 (wk_rng h5 h3)).1 h7 i hi
end Go.TM
