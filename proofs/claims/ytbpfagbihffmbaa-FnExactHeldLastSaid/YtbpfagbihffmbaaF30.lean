/- Trees, in plain words: a pair is put. -/
import Derived.Test.YtbpfagbihffmbaaF22
namespace Go.TM
set_option linter.unusedVariables false
set_option linter.unusedSimpArgs false

theorem cntU_split (xs : List Int) (k : Int) : (∀ i, i < cntU xs k → xs.getD i 0 ≤ k) ∧ ∀ _ : cntU xs k < xs.length, k < xs.getD (cntU xs k) 0 := by
  unfold cntU
  induction xs with
  | nil => simp
  | cons x xs ih =>
    rw [List.takeWhile_cons]
    split
    · rename_i h
      have h' : x ≤ k := by simpa using h
      refine ⟨fun i hi => ?_, fun hl => ?_⟩
      · cases i with
        | zero => simpa using h'
        | succ i => simpa using ih.1 i (by simpa using hi)
      · simpa using ih.2 (by simpa using hl)
    · rename_i h
      have h' : ¬ x ≤ k := by simpa using h
      refine ⟨fun i hi => by simp at hi, fun _ => by simp; omega⟩

/-! ### Bounds along a path -/

abbrev kidOf (t : Tr) (key x : Int) : Int := (pgAt t x).kids.getD (cntU (pgAt t x).keys key) 0
def lowP (t : Tr) (key x low : Int) : Int := lowK (pgAt t x).keys (cntU (pgAt t x).keys key) low
def topP (t : Tr) (key x hi : Int) : Int := topK (pgAt t x).keys (cntU (pgAt t x).keys key) hi

theorem key_in {t : Tr} {key x low hi : Int} (h1 : low ≤ key) (h2 : key ≤ hi) : lowP t key x low ≤ key ∧ key ≤ topP t key x hi := by
  obtain ⟨a1, a2⟩ := cntU_split (pgAt t x).keys key
  unfold lowP topP lowK topK
  constructor
  · split
    · exact a1 _ (by omega)
    · exact h1
  · split
    · rename_i h
      have := a2 h
      omega
    · exact h2

/-! ### Pages -/

def setPg (t : Tr) (x : Int) (p : Pg) : Tr := ⟨t.root, t.pages.set x.toNat p⟩
def addPg (t : Tr) (p : Pg) : Tr := ⟨t.root, t.pages ++ [p]⟩
structure Sp where
  a : Pg
  key : Int
  b : Pg
def splP (p : Pg) : Sp :=
  if p.kids.length = 0 then ⟨leafP ((prP p).take ((p.keys.length + 1) / 2)), (((prP p).drop ((p.keys.length + 1) / 2)).getD 0 default).1, leafP ((prP p).drop ((p.keys.length + 1) / 2))⟩
  else ⟨⟨p.keys.take (p.keys.length / 2), p.kids.take (p.keys.length / 2 + 1), []⟩, p.keys.getD (p.keys.length / 2) 0, ⟨p.keys.drop (p.keys.length / 2 + 1), p.kids.drop (p.keys.length / 2 + 1), []⟩⟩
def insL (xs : List Int) (i : Nat) (v : Int) : List Int := xs.take i ++ v :: xs.drop i
theorem insL_len {xs : List Int} {i : Nat} {v : Int} (h : i ≤ xs.length) : (insL xs i v).length = xs.length + 1 := by
  simp [insL]; omega
def addK (p : Pg) (pl : Nat) (key kid : Int) : Pg := ⟨insL p.keys pl key, insL p.kids (pl + 1) kid, []⟩

theorem pgAt_set_ne {t : Tr} {x y : Int} {p : Pg} (h : x.toNat ≠ y.toNat) : pgAt (setPg t x p) y = pgAt t y := by
  simp [pgAt, setPg, List.getElem?_set, h]
theorem pgAt_set {t : Tr} {x : Int} {p : Pg} (h : x.toNat < t.pages.length) : pgAt (setPg t x p) x = p := by
  simp [pgAt, setPg, h]
theorem pgAt_add {t : Tr} {y : Int} {p : Pg} (h : y.toNat < t.pages.length) : pgAt (addPg t p) y = pgAt t y := by
  simp [pgAt, addPg, List.getElem?_append_left h]

/-- Pages are split from a level of the path up, as long as they have too many keys. -/
def putUp (path : List Int) : Nat → Tr → Tr
  | 0, t =>
    let x := path.getD 0 0
    if (pgAt t x).keys.length ≤ 4 then t else
    let s := splP (pgAt t x)
    ⟨(t.pages.length : Int) + 1, (addPg (setPg t x s.a) s.b).pages ++ [⟨[s.key], [x, t.pages.length], []⟩]⟩
  | i + 1, t =>
    let x := path.getD (i + 1) 0
    if (pgAt t x).keys.length ≤ 4 then t else
    let s := splP (pgAt t x)
    let u := addPg (setPg t x s.a) s.b
    putUp path i (setPg u (path.getD i 0) (addK (pgAt u (path.getD i 0)) ((pgAt u (path.getD i 0)).kids.idxOf x) s.key t.pages.length))

def inP (p : Pg) : Inn := ⟨p.keys, p.kids⟩

/-- .. with the checks that the program makes. -/
noncomputable def putUpI (path : List Int) : Nat → Tr → Option Tr
  | 0, t =>
    let x := path.getD 0 0
    if (pgAt t x).keys.length ≤ 4 then some t else
    let s := splP (pgAt t x)
    some ⟨(t.pages.length : Int) + 1, (addPg (setPg t x s.a) s.b).pages ++ [⟨[s.key], [x, t.pages.length], []⟩]⟩
  | i + 1, t =>
    let x := path.getD (i + 1) 0
    if (pgAt t x).keys.length ≤ 4 then some t else
    let s := splP (pgAt t x)
    let u := addPg (setPg t x s.a) s.b
    let q := pgAt u (path.getD i 0)
    if vInn (inP q) = true ∧ q.kids.idxOf x < q.kids.length ∧ vInn (inP (addK q (q.kids.idxOf x) s.key t.pages.length)) = true then putUpI path i (setPg u (path.getD i 0) (addK q (q.kids.idxOf x) s.key t.pages.length)) else none

theorem putUp_len (path : List Int) : ∀ (i : Nat) (t : Tr), t.pages.length ≤ (putUp path i t).pages.length
  | 0, t => by
    simp only [putUp]
    split
    · exact Nat.le_refl _
    · simp [addPg, setPg] <;> omega
  | i + 1, t => by
    simp only [putUp]
    split
    · exact Nat.le_refl _
    · refine Nat.le_trans ?_ (putUp_len path i _)
      simp [addPg, setPg]

/-! ### The path's pages -/

theorem path_in {t : Tr} {key : Int} : ∀ {h : Nat} {x : Int}, PD t h x → ∀ y ∈ pathF t key h x, y ∈ wk t h x
  | 0, x, _, y, hy => hy
  | h + 1, x, hd, y, hy => by
    simp only [pathF, List.mem_cons] at hy
    simp only [wk, List.mem_cons, List.mem_flatMap]
    rcases hy with rfl | hy
    · exact .inl rfl
    · refine .inr ⟨_, getD_mem ?_, path_in (hd.inn.kid key) y hy⟩
      have := cntU_le (pgAt t x).keys key
      have := hd.inn.kids
      omega

theorem path_nodup {t : Tr} {key : Int} : ∀ {h : Nat} {x : Int}, PD t h x → (pathF t key h x).Nodup
  | 0, x, _ => by simp [pathF]
  | h + 1, x, hd => by
    simp only [pathF, List.nodup_cons]
    refine ⟨fun hm => ?_, path_nodup (hd.inn.kid key)⟩
    have hn := hd.nd
    simp only [wk, List.nodup_cons] at hn
    apply hn.1
    refine List.mem_flatMap.2 ⟨_, getD_mem ?_, path_in (hd.inn.kid key) x hm⟩
    have := cntU_le (pgAt t x).keys key
    have := hd.inn.kids
    omega

/-- The bounds at a level. -/
def bdF (t : Tr) (key : Int) : Nat → Int → Int → Int → Int × Int
  | 0, _, low, hi => (low, hi)
  | i + 1, x, low, hi => bdF t key i (kidOf t key x) (lowP t key x low) (topP t key x hi)

theorem bd_succ {t : Tr} {key : Int} : ∀ (i h : Nat) (x low hi : Int), i < h → bdF t key (i + 1) x low hi = (lowP t key ((pathF t key h x).getD i 0) (bdF t key i x low hi).1, topP t key ((pathF t key h x).getD i 0) (bdF t key i x low hi).2)
  | 0, h + 1, x, low, hi, _ => rfl
  | i + 1, h + 1, x, low, hi, hl => by
    rw [bdF, bd_succ i h _ _ _ (by omega)]
    rfl
  | _, 0, _, _, _, hl => by omega

theorem path_succ {t : Tr} {key : Int} : ∀ (i h : Nat) (x : Int), i < h → (pathF t key h x).getD (i + 1) 0 = kidOf t key ((pathF t key h x).getD i 0)
  | 0, h + 1, x, _ => by
    cases h <;> rfl
  | i + 1, h + 1, x, hl => by
    simp only [pathF, List.getD_cons_succ]
    exact path_succ i h _ (by omega)
  | _, 0, _, hl => by omega

theorem bd_pf {t : Tr} {key : Int} : ∀ {i h : Nat} {x low hi : Int}, i ≤ h → pf t h x low hi = true → pf t (h - i) ((pathF t key h x).getD i 0) (bdF t key i x low hi).1 (bdF t key i x low hi).2 = true
  | 0, h, x, low, hi, _, hp => by
    cases h <;> simpa [pathF, bdF] using hp
  | i + 1, h + 1, x, low, hi, hl, hp => by
    obtain ⟨h1, h2, h3⟩ := pf_succ.1 hp
    have hk := (innOk_iff.1 h2).2.2.1
    have := bd_pf (t := t) (key := key) (i := i) (h := h) (by omega) (h3 (cntU (pgAt t x).keys key) (by have := cntU_le (pgAt t x).keys key; omega))
    rw [show h + 1 - (i + 1) = h - i from by omega]
    simpa only [pathF, List.getD_cons_succ, bdF, lowP, topP] using this

theorem bd_key {t : Tr} {key : Int} : ∀ (i : Nat) (x low hi : Int), low ≤ key → key ≤ hi → (bdF t key i x low hi).1 ≤ key ∧ key ≤ (bdF t key i x low hi).2
  | 0, x, low, hi, h1, h2 => ⟨h1, h2⟩
  | i + 1, x, low, hi, h1, h2 => by
    obtain ⟨a, b⟩ := key_in (t := t) (x := x) h1 h2
    exact bd_key i _ _ _ a b
/-! ### A further key -/

theorem vk_asc {xs : List Int} : vk xs = true ↔ Asc xs 0 99 := by
  refine ⟨fun h => ⟨pw_of_vk h, fun y hy => ?_⟩, vk_of_pw⟩
  obtain ⟨i, hi, rfl⟩ := mem_getD hy
  exact VK_bounds h hi

theorem take_mem {xs : List Int} {i : Nat} {y : Int} (h : y ∈ xs.take i) : ∃ j, j < i ∧ j < xs.length ∧ xs.getD j 0 = y := by
  obtain ⟨j, hj, rfl⟩ := List.getElem_of_mem h
  rw [List.length_take] at hj
  exact ⟨j, by omega, by omega, by simp [show j < xs.length by omega]⟩
theorem drop_mem {xs : List Int} {i : Nat} {y : Int} (h : y ∈ xs.drop i) : ∃ j, i ≤ j ∧ j < xs.length ∧ xs.getD j 0 = y := by
  obtain ⟨j, hj, rfl⟩ := List.getElem_of_mem h
  rw [List.length_drop] at hj
  exact ⟨i + j, by omega, by omega, by simp [show i + j < xs.length by omega]⟩

theorem vk_lt {xs : List Int} (h : vk xs = true) {i j : Nat} (hij : i < j) (hj : j < xs.length) : xs.getD i 0 < xs.getD j 0 := by
  have := List.pairwise_iff_getElem.1 (pw_of_vk h) i j (by omega) hj hij
  simpa [show i < xs.length by omega, hj] using this
theorem vk_le {xs : List Int} (h : vk xs = true) {i j : Nat} (hij : i ≤ j) (hj : j < xs.length) : xs.getD i 0 ≤ xs.getD j 0 := by
  rcases Nat.lt_or_ge i j with h1 | h1
  · exact Int.le_of_lt (vk_lt h h1 hj)
  · obtain rfl : i = j := by omega
    exact Int.le_refl _

theorem vk_ins {xs : List Int} {i : Nat} {v : Int} (h : vk xs = true) (hi : i ≤ xs.length) (h0 : 0 ≤ v ∧ v ≤ 99) (hl : 0 < i → xs.getD (i - 1) 0 < v) (hr : i < xs.length → v < xs.getD i 0) : vk (insL xs i v) = true := by
  obtain ⟨hp, hb⟩ := vk_asc.1 h
  have hl' : ∀ a ∈ xs.take i, a < v := by
    intro a ha
    obtain ⟨j, h1, h2, rfl⟩ := take_mem ha
    have := vk_le h (i := j) (j := i - 1) (by omega) (by omega)
    have := hl (by omega)
    omega
  have hr' : ∀ b ∈ xs.drop i, v < b := by
    intro b hb
    obtain ⟨j, h1, h2, rfl⟩ := drop_mem hb
    have := vk_le h h1 h2
    have := hr (by omega)
    omega
  have hp' := hp
  rw [← List.take_append_drop i xs, List.pairwise_append] at hp'
  refine vk_asc.2 ⟨?_, fun y hy => ?_⟩
  · unfold insL
    rw [List.pairwise_append, List.pairwise_cons]
    refine ⟨hp'.1, ⟨hr', hp'.2.1⟩, fun a ha b hb => ?_⟩
    rcases List.mem_cons.1 hb with rfl | hb
    · exact hl' a ha
    · exact hp'.2.2 a ha b hb
  · unfold insL at hy
    rcases List.mem_append.1 hy with hy | hy
    · exact hb y (List.mem_of_mem_take hy)
    · rcases List.mem_cons.1 hy with rfl | hy
      · exact h0
      · exact hb y (List.mem_of_mem_drop hy)

theorem mem_ins {xs : List Int} {i : Nat} {v y : Int} : y ∈ insL xs i v ↔ y = v ∨ y ∈ xs := by
  have hx : y ∈ xs ↔ y ∈ xs.take i ∨ y ∈ xs.drop i := by rw [← List.mem_append, List.take_append_drop]
  rw [hx]
  unfold insL
  rw [List.mem_append, List.mem_cons]
  constructor
  · rintro (h | h | h)
    · exact .inr (.inl h)
    · exact .inl h
    · exact .inr (.inr h)
  · rintro (h | h | h)
    · exact .inr (.inl h)
    · exact .inl h
    · exact .inr (.inr h)

theorem nodup_ins {xs : List Int} {i : Nat} {v : Int} (h : xs.Nodup) (hv : v ∉ xs) : (insL xs i v).Nodup := by
  unfold insL
  rw [List.perm_middle.nodup_iff, List.take_append_drop, List.nodup_cons]
  exact ⟨hv, h⟩

theorem idx_get : ∀ {xs : List Int} {i : Nat}, xs.Nodup → i < xs.length → xs.idxOf (xs.getD i 0) = i
  | [], i, _, h => by simp at h
  | x :: xs, 0, _, _ => by simp
  | x :: xs, i + 1, hn, h => by
    rw [List.nodup_cons] at hn
    have hi : i < xs.length := by simpa using h
    have hne : x ≠ xs.getD i 0 := fun e => hn.1 (e ▸ getD_mem hi)
    have hb : (x == xs.getD i 0) = false := by simpa using hne
    rw [List.getD_cons_succ, List.idxOf_cons, idx_get hn.2 hi, hb]
    rfl

theorem spl_key {p : Pg} {low hi : Int} (hv : vk p.keys = true) (h4 : 4 < p.keys.length) (hr : allR p.keys low hi = true) : low < (splP p).key ∧ (splP p).key ≤ hi ∧ 0 ≤ (splP p).key ∧ (splP p).key ≤ 99 := by
  obtain ⟨m, hm0, hm, e⟩ : ∃ m, 0 < m ∧ m < p.keys.length ∧ (splP p).key = p.keys.getD m 0 := by
    unfold splP
    split
    · refine ⟨(p.keys.length + 1) / 2, by omega, by omega, ?_⟩
      simp [prP, show (p.keys.length + 1) / 2 < p.keys.length by omega]
    · exact ⟨p.keys.length / 2, by omega, by omega, rfl⟩
  rw [e]
  have h1 := vk_lt hv hm0 hm
  have h2 := allR_get.1 hr 0 (by omega)
  have h3 := allR_get.1 hr m hm
  have h5 := VK_bounds hv hm
  omega

/-- What holds of the tree while pages are split, at a level i of the path. -/
structure PutInv (t : Tr) (key : Int) (i : Nat) (u : Tr) : Prop where
  il : i ≤ htT t
  len : u.pages.length = t.pages.length + (htT t - i)
  root : u.root = t.root
  same : ∀ j, j < i → pgAt u ((pathF t key (htT t) t.root).getD j 0) = pgAt t ((pathF t key (htT t) t.root).getD j 0)
  vk : vk (pgAt u ((pathF t key (htT t) t.root).getD i 0)).keys = true
  kl : (pgAt u ((pathF t key (htT t) t.root).getD i 0)).keys.length ≤ 5
  kr : allR (pgAt u ((pathF t key (htT t) t.root).getD i 0)).keys (bdF t key i t.root 0 99).1 (bdF t key i t.root 0 99).2 = true
  leaf : i = htT t → (pgAt u ((pathF t key (htT t) t.root).getD i 0)).kids = [] ∧ (pgAt u ((pathF t key (htT t) t.root).getD i 0)).vals.length = (pgAt u ((pathF t key (htT t) t.root).getD i 0)).keys.length ∧
    allR (pgAt u ((pathF t key (htT t) t.root).getD i 0)).vals (-1000) 1000 = true
  inn : i < htT t → (pgAt u ((pathF t key (htT t) t.root).getD i 0)).vals = [] ∧ (pgAt u ((pathF t key (htT t) t.root).getD i 0)).kids.length = (pgAt u ((pathF t key (htT t) t.root).getD i 0)).keys.length + 1 ∧
    (pgAt u ((pathF t key (htT t) t.root).getD i 0)).kids.Nodup ∧ ∀ k ∈ (pgAt u ((pathF t key (htT t) t.root).getD i 0)).kids, 0 ≤ k ∧ k < u.pages.length

theorem path_ne {t : Tr} (hv : TV t) {key : Int} {i j : Nat} (hi : i ≤ htT t) (hj : j ≤ htT t) (hij : i ≠ j) : ((pathF t key (htT t) t.root).getD i 0).toNat ≠ ((pathF t key (htT t) t.root).getD j 0).toNat := by
  have hn := path_nodup (key := key) hv.pd
  have hl := pathF_len t key (htT t) t.root
  have h1 := (pathF_pd (key := key) hv.pd i hi).rng
  have h2 := (pathF_pd (key := key) hv.pd j hj).rng
  intro he
  have he' : (pathF t key (htT t) t.root).getD i 0 = (pathF t key (htT t) t.root).getD j 0 := by omega
  have e1 := idx_get hn (i := i) (by omega)
  have e2 := idx_get hn (i := j) (by omega)
  rw [he'] at e1
  omega

theorem put_step {t : Tr} (hv : TV t) {key : Int} (hk : 0 ≤ key ∧ key ≤ 99) {i : Nat} {u : Tr} (hI : PutInv t key (i + 1) u) (h4 : 4 < (pgAt u ((pathF t key (htT t) t.root).getD (i + 1) 0)).keys.length) :
    ∀ x y s u1 q, x = (pathF t key (htT t) t.root).getD (i + 1) 0 → y = (pathF t key (htT t) t.root).getD i 0 → s = splP (pgAt u x) → u1 = addPg (setPg u x s.a) s.b → q = pgAt u1 y →
      q = pgAt t y ∧ vInn (inP q) = true ∧ q.kids.idxOf x < q.kids.length ∧ (u.pages.length ≤ 15 → vInn (inP (addK q (q.kids.idxOf x) s.key u.pages.length)) = true) ∧ PutInv t key i (setPg u1 y (addK q (q.kids.idxOf x) s.key u.pages.length)) ∧ q.keys.length = (pgAt t y).keys.length ∧
      (16 ≤ u.pages.length → vInn (inP (addK q (q.kids.idxOf x) s.key u.pages.length)) = false) := by
  intro x y s u1 q hx hy hs hu1 hq
  have hil := hI.il
  have hlen := hI.len
  have hpd := pathF_pd (key := key) hv.pd i (by omega)
  rw [← hy] at hpd
  obtain ⟨h', hh'⟩ : ∃ h', htT t - i = h' + 1 := ⟨htT t - i - 1, by omega⟩
  rw [hh'] at hpd
  have hinn := hpd.inn
  have hxr := (pathF_pd (key := key) hv.pd (i + 1) hil).rng
  rw [← hx] at hxr
  have hyr := hpd.rng
  have hne : x.toNat ≠ y.toNat := by rw [hx, hy]; exact path_ne hv (by omega) (by omega) (by omega)
  have hlu1 : u1.pages.length = u.pages.length + 1 := by rw [hu1]; simp [addPg, setPg]
  have hq' : q = pgAt t y := by
    have h1 := hI.same i (by omega)
    rw [← hy] at h1
    rw [hq, hu1, pgAt_add (by simp [setPg]; omega), pgAt_set_ne hne, h1]
  have hxk : x = q.kids.getD (cntU q.keys key) 0 := by
    rw [hx, path_succ i _ _ (by omega), ← hy, hq']
  have hpl : cntU q.keys key ≤ q.keys.length := cntU_le _ _
  have hkl : q.kids.length = q.keys.length + 1 := by rw [hq']; exact hinn.kids
  have hqn : q.kids.Nodup := by rw [hq']; exact hinn.nd
  have hidx : q.kids.idxOf x = cntU q.keys key := by rw [hxk]; exact idx_get hqn (by omega)
  have hqv : vInn (inP q) = true := by rw [hq']; exact hinn.inn
  have hqk : ∀ k ∈ q.kids, 0 ≤ k ∧ k < t.pages.length := fun k hk' => (hinn.pd k (by rw [← hq']; exact hk')).rng
  have hsk : (bdF t key (i + 1) t.root 0 99).1 < s.key ∧ s.key ≤ (bdF t key (i + 1) t.root 0 99).2 ∧ 0 ≤ s.key ∧ s.key ≤ 99 := by
    rw [hs, hx]
    exact spl_key hI.vk h4 hI.kr
  rw [bd_succ i (htT t) _ _ _ (by omega), ← hy] at hsk
  simp only [lowP, topP, ← hq'] at hsk
  have hpf := bd_pf (t := t) (key := key) (i := i) (h := htT t) (by omega) hv.pf
  rw [← hy, hh'] at hpf
  have hhd := headOk_iff.1 (pf_head hpf)
  rw [← hq'] at hhd
  obtain ⟨b1, b2, b3, b4⟩ := hhd
  have hb3 := allR_get.1 b3
  have e1 : 0 < cntU q.keys key → q.keys.getD (cntU q.keys key - 1) 0 < s.key := by
    intro h0
    have := hsk.1
    rw [show lowK q.keys (cntU q.keys key) (bdF t key i t.root 0 99).1 = q.keys.getD (cntU q.keys key - 1) 0 from if_pos h0] at this
    exact this
  have e2 : cntU q.keys key < q.keys.length → s.key < q.keys.getD (cntU q.keys key) 0 := by
    intro h0
    have := hsk.2.1
    rw [show topK q.keys (cntU q.keys key) (bdF t key i t.root 0 99).2 = q.keys.getD (cntU q.keys key) 0 - 1 from if_pos h0] at this
    omega
  have e3 : (bdF t key i t.root 0 99).1 ≤ s.key ∧ s.key ≤ (bdF t key i t.root 0 99).2 := by
    constructor
    · by_cases h0 : 0 < cntU q.keys key
      · have := e1 h0
        have := (hb3 (cntU q.keys key - 1) (by omega)).1
        omega
      · have := hsk.1
        rw [show lowK q.keys (cntU q.keys key) (bdF t key i t.root 0 99).1 = (bdF t key i t.root 0 99).1 from if_neg h0] at this
        omega
    · by_cases h0 : cntU q.keys key < q.keys.length
      · have := e2 h0
        have := (hb3 (cntU q.keys key) h0).2
        omega
      · have := hsk.2.1
        rw [show topK q.keys (cntU q.keys key) (bdF t key i t.root 0 99).2 = (bdF t key i t.root 0 99).2 from if_neg h0] at this
        exact this
  have hvk : vk (insL q.keys (cntU q.keys key) s.key) = true := vk_ins b1 hpl hsk.2.2 e1 e2
  have hnx : (u.pages.length : Int) ∉ q.kids := fun hm => by have := hqk _ hm; omega
  have hkn : (insL q.kids (cntU q.keys key + 1) u.pages.length).Nodup := nodup_ins hqn hnx
  have hkln : (insL q.kids (cntU q.keys key + 1) u.pages.length).length = (insL q.keys (cntU q.keys key) s.key).length + 1 := by
    rw [insL_len (by omega), insL_len hpl]; omega
  have hkk := insL_len (v := s.key) hpl
  rw [hidx]
  refine ⟨hq', hqv, by omega, fun h15 => ?_, ?_, by rw [hq'], fun h16 => ?_⟩
  · refine vInn_iff.2 ⟨hkn, hvk, ?_, ?_, hkln, ?_⟩
    · show 1 ≤ (insL q.keys (cntU q.keys key) s.key).length
      omega
    · show (insL q.keys (cntU q.keys key) s.key).length ≤ 5
      omega
    · rw [allR, List.all_eq_true]
      intro k hk'
      rcases mem_ins.1 hk' with rfl | hk'
      · exact inR_iff.2 (by omega)
      · have := hqk k hk'
        exact inR_iff.2 (by omega)
  · have hyu : y.toNat < u1.pages.length := by omega
    have hcur : pgAt (setPg u1 y (addK q (cntU q.keys key) s.key u.pages.length)) ((pathF t key (htT t) t.root).getD i 0) = addK q (cntU q.keys key) s.key u.pages.length := by
      rw [← hy]; exact pgAt_set hyu
    refine ⟨by omega, ?_, ?_, fun j hj => ?_, by rw [hcur]; exact hvk, by rw [hcur]; show (insL q.keys (cntU q.keys key) s.key).length ≤ 5; omega, ?_, fun he => by omega, fun _ => ?_⟩
    · show (u1.pages.set _ _).length = _
      rw [List.length_set]; omega
    · show u1.root = _
      rw [hu1]; exact hI.root
    · have hjr := (pathF_pd (key := key) hv.pd j (by omega)).rng
      have n1 : y.toNat ≠ ((pathF t key (htT t) t.root).getD j 0).toNat := by rw [hy]; exact path_ne hv (by omega) (by omega) (by omega)
      have n2 : x.toNat ≠ ((pathF t key (htT t) t.root).getD j 0).toNat := by rw [hx]; exact path_ne hv (by omega) (by omega) (by omega)
      have hjl : ((pathF t key (htT t) t.root).getD j 0).toNat < (setPg u x s.a).pages.length := by
        show _ < (u.pages.set _ _).length
        rw [List.length_set]; omega
      rw [pgAt_set_ne n1, hu1, pgAt_add hjl, pgAt_set_ne n2]
      exact hI.same j (by omega)
    · rw [hcur, allR, List.all_eq_true]
      intro k hk'
      rcases mem_ins.1 hk' with rfl | hk'
      · exact inR_iff.2 e3
      · obtain ⟨j, hj, rfl⟩ := mem_getD hk'
        exact inR_iff.2 (hb3 j hj)
    · rw [hcur]
      refine ⟨rfl, hkln, hkn, fun k hk' => ?_⟩
      show 0 ≤ k ∧ k < ((u1.pages.set _ _).length : Int)
      rw [List.length_set]
      rcases mem_ins.1 hk' with rfl | hk'
      · omega
      · have := hqk k hk'
        omega
  · cases hvi : vInn (inP (addK q (cntU q.keys key) s.key u.pages.length))
    · rfl
    · exfalso
      have h6 := (vInn_iff.1 hvi).2.2.2.2.2
      rw [allR, List.all_eq_true] at h6
      have := inR_iff.1 (h6 u.pages.length (mem_ins.2 (.inl rfl)))
      omega

theorem putUpI_eq {t : Tr} (hv : TV t) {key : Int} (hk : 0 ≤ key ∧ key ≤ 99) : ∀ (i : Nat) (u : Tr), PutInv t key i u →
    putUpI (pathF t key (htT t) t.root) i u = some (putUp (pathF t key (htT t) t.root) i u) ∨ (putUpI (pathF t key (htT t) t.root) i u = none ∧ 16 < (putUp (pathF t key (htT t) t.root) i u).pages.length)
  | 0, u, _ => by
    left
    simp only [putUpI, putUp]
    split <;> rfl
  | i + 1, u, hI => by
    simp only [putUpI, putUp]
    by_cases h4 : (pgAt u ((pathF t key (htT t) t.root).getD (i + 1) 0)).keys.length ≤ 4
    · rw [if_pos h4, if_pos h4]; exact .inl rfl
    · rw [if_neg h4, if_neg h4]
      obtain ⟨_, s2, s3, s4, s7, _, s5⟩ := put_step hv hk hI (by omega) _ _ _ _ _ rfl rfl rfl rfl rfl
      by_cases h15 : u.pages.length ≤ 15
      · have s6 := s4 h15
        rw [if_pos ⟨s2, s3, s6⟩]
        exact putUpI_eq hv hk i _ s7
      · have s6 := s5 (by omega)
        rw [if_neg (by rw [s6]; simp)]
        refine .inr ⟨rfl, Nat.lt_of_lt_of_le ?_ (putUp_len _ i _)⟩
        simp only [setPg, addPg, List.length_set, List.length_append, List.length_singleton]
        omega
end Go.TM
