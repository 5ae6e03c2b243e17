/- Trees, in plain words, 2: leaves, pairs, paths. -/
import Derived.Test.YtbpfagbihffmbaaF21
namespace Go.TM
set_option linter.unusedVariables false
set_option linter.unusedSimpArgs false

/-- A page of a right tree, with h levels of pages below it. -/
structure PD (t : Tr) (h : Nat) (x : Int) : Prop where
  rng : 0 ≤ x ∧ x < t.pages.length
  len : t.pages.length ≤ 16
  pf : ∃ low hi, (0 ≤ low ∧ hi ≤ 99) ∧ pf t h x low hi = true
  nd : (wk t h x).Nodup

theorem TV.pd {t : Tr} (h : TV t) : PD t (htT t) t.root := ⟨h.root, h.len.2, ⟨0, 99, by decide, h.pf⟩, h.nd⟩

theorem wk_self (t : Tr) (h : Nat) (x : Int) : x ∈ wk t h x := by cases h <;> simp [wk]

theorem flat_nodup {f : Int → List Int} (hf : ∀ x, x ∈ f x) : ∀ {xs : List Int}, (xs.flatMap f).Nodup → xs.Nodup ∧ ∀ x ∈ xs, (f x).Nodup
  | [], _ => ⟨List.nodup_nil, fun x hx => by cases hx⟩
  | y :: xs, h => by
    rw [List.flatMap_cons, List.nodup_append] at h
    obtain ⟨h1, h2, h3⟩ := h
    obtain ⟨i1, i2⟩ := flat_nodup hf h2
    refine ⟨List.nodup_cons.2 ⟨fun hm => ?_, i1⟩, fun x hx => ?_⟩
    · exact h3 y (hf y) y (List.mem_flatMap.2 ⟨y, hm, hf y⟩) rfl
    · rcases List.mem_cons.1 hx with rfl | hx
      · exact h1
      · exact i2 x hx

theorem VK_bounds {xs : List Int} (h : vk xs = true) {i : Nat} (hi : i < xs.length) : 0 ≤ xs.getD i 0 ∧ xs.getD i 0 ≤ 99 := (vk_iff.1 h).2 i hi

structure PLeaf (t : Tr) (x : Int) : Prop where
  kids : (pgAt t x).kids = []
  vk : vk (pgAt t x).keys = true
  len : (pgAt t x).keys.length ≤ 4
  min : x = t.root ∨ 2 ≤ (pgAt t x).keys.length
  vals : (pgAt t x).vals.length = (pgAt t x).keys.length
  vrng : allR (pgAt t x).vals (-1000) 1000 = true

structure PInn (t : Tr) (h : Nat) (x : Int) : Prop where
  vk : vk (pgAt t x).keys = true
  len : 1 ≤ (pgAt t x).keys.length ∧ (pgAt t x).keys.length ≤ 4
  min : x = t.root ∨ 2 ≤ (pgAt t x).keys.length
  kids : (pgAt t x).kids.length = (pgAt t x).keys.length + 1
  vals : (pgAt t x).vals = []
  pd : ∀ y ∈ (pgAt t x).kids, PD t h y
  nd : (pgAt t x).kids.Nodup
  inn : vInn ⟨(pgAt t x).keys, (pgAt t x).kids⟩ = true

theorem PD.leaf {t : Tr} {x : Int} (h : PD t 0 x) : PLeaf t x := by
  obtain ⟨low, hi, hb, hp⟩ := h.pf
  obtain ⟨h1, h2⟩ := pf_zero.1 hp
  obtain ⟨a1, a2, a3, a4⟩ := headOk_iff.1 h1
  obtain ⟨b1, b2, b3⟩ := leafOk_iff.1 h2
  exact ⟨List.length_eq_zero_iff.1 b1, a1, a2, a4, b2, b3⟩

theorem PD.inn {t : Tr} {h : Nat} {x : Int} (hd : PD t (h + 1) x) : PInn t h x := by
  obtain ⟨low, hi, hb, hp⟩ := hd.pf
  obtain ⟨h1, h2, h3⟩ := pf_succ.1 hp
  obtain ⟨a1, a2, a3, a4⟩ := headOk_iff.1 h1
  obtain ⟨b1, b2, b3, b4⟩ := innOk_iff.1 h2
  have hn := hd.nd
  simp only [wk, List.nodup_cons] at hn
  obtain ⟨n1, n2⟩ := flat_nodup (wk_self t h) hn.2
  refine ⟨a1, by omega, a4, b3, List.length_eq_zero_iff.1 b2, fun y hy => ⟨b4 y hy, hd.len, ?_, n2 y hy⟩, n1, vInn_iff.2 ⟨n1, a1, by dsimp only; omega, by dsimp only; omega, b3, ?_⟩⟩
  · obtain ⟨i, hi', rfl⟩ := mem_getD hy
    refine ⟨_, _, ⟨?_, ?_⟩, h3 i hi'⟩
    · unfold lowK
      split
      · exact (VK_bounds a1 (by omega)).1
      · exact hb.1
    · unfold topK
      split
      · rename_i hlt
        have := (VK_bounds a1 hlt).2
        omega
      · exact hb.2
  · rw [allR, List.all_eq_true]
    intro y hy
    have := b4 y hy
    have := hd.len
    exact inR_iff.2 (by omega)

theorem PD.wrng {t : Tr} {h : Nat} {x : Int} (hd : PD t h x) : ∀ y ∈ wk t h x, 0 ≤ y ∧ y < t.pages.length := by
  obtain ⟨low, hi, _, hp⟩ := hd.pf
  exact wk_rng hp hd.rng

theorem PD.wlen {t : Tr} {h : Nat} {x : Int} (hd : PD t h x) : (wk t h x).length ≤ 16 := by
  have h1 := nodup_toNat (fun y hy => (hd.wrng y hy).1) hd.nd
  have h2 := sub_len (xs := List.range 16) h1 fun z hz => by
    obtain ⟨y, hy, rfl⟩ := List.mem_map.1 hz
    have := hd.wrng y hy
    have := hd.len
    rw [List.mem_range]
    omega
  simpa using h2

/-! ### Leaves -/

def lvF (t : Tr) : Nat → Int → List Int
  | 0, x => [x]
  | h + 1, x => (pgAt t x).kids.flatMap (lvF t h)

def isLf (t : Tr) (x : Int) : Bool := decide ((pgAt t x).kids.length = 0)

theorem filter_flat {f : Int → List Int} {p : Int → Bool} : ∀ xs : List Int, (xs.flatMap f).filter p = xs.flatMap fun x => (f x).filter p
  | [] => rfl
  | x :: xs => by simp [List.flatMap_cons, List.filter_append, filter_flat xs]

theorem flat_congr {f g : Int → List Int} : ∀ {xs : List Int}, (∀ x ∈ xs, f x = g x) → xs.flatMap f = xs.flatMap g
  | [], _ => rfl
  | x :: xs, h => by
    rw [List.flatMap_cons, List.flatMap_cons, h x List.mem_cons_self, flat_congr fun y hy => h y (List.mem_cons_of_mem _ hy)]

theorem lvF_eq {t : Tr} : ∀ {h : Nat} {x : Int}, PD t h x → (wk t h x).filter (isLf t) = lvF t h x
  | 0, x, hd => by
    have := hd.leaf.kids
    simp [wk, lvF, isLf, this]
  | h + 1, x, hd => by
    have hi := hd.inn
    have h0 : isLf t x = false := by
      have := hi.kids
      simp only [isLf, decide_eq_false_iff_not]
      omega
    simp only [wk, lvF, List.filter_cons, h0]
    rw [filter_flat]
    exact flat_congr fun y hy => lvF_eq (hi.pd y hy)

theorem lvF_sub {t : Tr} {h : Nat} {x : Int} (hd : PD t h x) : ∀ y ∈ lvF t h x, y ∈ wk t h x ∧ (pgAt t y).kids = [] := by
  intro y hy
  rw [← lvF_eq hd] at hy
  obtain ⟨h1, h2⟩ := List.mem_filter.1 hy
  exact ⟨h1, List.length_eq_zero_iff.1 (by simpa [isLf] using h2)⟩

theorem lvF_len {t : Tr} {h : Nat} {x : Int} (hd : PD t h x) : (lvF t h x).length ≤ 16 := by
  rw [← lvF_eq hd]
  exact Nat.le_trans (List.length_filter_le _ _) hd.wlen

theorem lvF_leaf {t : Tr} : ∀ {h : Nat} {x : Int}, PD t h x → ∀ y ∈ lvF t h x, PD t 0 y
  | 0, x, hd, y, hy => by
    simp only [lvF, List.mem_singleton] at hy
    rw [hy]; exact hd
  | h + 1, x, hd, y, hy => by
    simp only [lvF, List.mem_flatMap] at hy
    obtain ⟨z, hz, hy⟩ := hy
    exact lvF_leaf (hd.inn.pd z hz) y hy

theorem lvF_pos {t : Tr} : ∀ {h : Nat} {x : Int}, PD t h x → 1 ≤ (lvF t h x).length
  | 0, x, hd => by simp [lvF]
  | h + 1, x, hd => by
    have hi := hd.inn
    have hk := hi.kids
    rcases he : (pgAt t x).kids with _ | ⟨y, r⟩
    · rw [he] at hk; simp at hk
    · have := lvF_pos (hi.pd y (by rw [he]; exact List.mem_cons_self))
      simp only [lvF, he, List.flatMap_cons, List.length_append]
      omega

/-! ### Pairs -/

def prP (p : Pg) : List Pr := (List.range p.keys.length).map fun i => (p.keys.getD i 0, p.vals.getD i 0)
theorem prP_len (p : Pg) : (prP p).length = p.keys.length := by simp [prP]
theorem prP_keys (p : Pg) : keysP (prP p) = p.keys := by
  refine list_ext (d := 0) (by simp [keysP, prP]) fun i hi => ?_
  simp [keysP, prP, hi]

def leafP (r : List Pr) : Pg := ⟨keysP r, [], r.map (·.2)⟩
def prF (t : Tr) (h : Nat) (x : Int) : List Pr := (lvF t h x).flatMap fun y => prP (pgAt t y)

theorem prF_succ (t : Tr) (h : Nat) (x : Int) : prF t (h + 1) x = (pgAt t x).kids.flatMap (prF t h) := by
  simp only [prF, lvF, List.flatMap_assoc]
  rfl

theorem flat_le {β : Type} {f : Int → List β} {m : Nat} : ∀ {xs : List Int}, (∀ x ∈ xs, (f x).length ≤ m) → (xs.flatMap f).length ≤ xs.length * m
  | [], _ => by simp
  | x :: xs, h => by
    have h1 := h x List.mem_cons_self
    have h2 := flat_le (f := f) (m := m) (xs := xs) fun y hy => h y (List.mem_cons_of_mem _ hy)
    rw [List.flatMap_cons, List.length_append, List.length_cons, Nat.add_mul]
    omega

theorem prF_len {t : Tr} {h : Nat} {x : Int} (hd : PD t h x) : (prF t h x).length ≤ 64 := by
  have h1 := flat_le (f := fun y => prP (pgAt t y)) (m := 4) (xs := lvF t h x) fun y hy => by
    rw [prP_len]
    exact (lvF_leaf hd y hy).leaf.len
  have h2 := lvF_len hd
  unfold prF
  omega

/-- Numbers that ascend, within bounds. -/
def Asc (xs : List Int) (a b : Int) : Prop := xs.Pairwise (· < ·) ∧ ∀ y ∈ xs, a ≤ y ∧ y ≤ b

theorem pw_of_vk {xs : List Int} (h : vk xs = true) : xs.Pairwise (· < ·) := by
  have hv := vk_iff.1 h
  have hmono : ∀ d i, i + d + 1 < xs.length → xs.getD i 0 < xs.getD (i + d + 1) 0 := by
    intro d
    induction d with
    | zero => intro i hi; exact hv.1 i hi
    | succ d ih => intro i hi; exact Int.lt_trans (ih i (by omega)) (hv.1 (i + d + 1) hi)
  rw [List.pairwise_iff_getElem]
  intro i j hi hj hij
  have := hmono (j - i - 1) i (by omega)
  rw [show i + (j - i - 1) + 1 = j from by omega] at this
  simpa [hi, hj] using this

theorem vk_of_pw {xs : List Int} (h : Asc xs 0 99) : vk xs = true := by
  refine vk_t ⟨fun i hi => ?_, fun i hi => h.2 _ (getD_mem hi)⟩
  have := List.pairwise_iff_getElem.1 h.1 i (i + 1) (by omega) hi (by omega)
  simpa [show i < xs.length by omega, hi] using this

theorem Asc.app {xs ys : List Int} {a c d : Int} (h1 : Asc xs a (c - 1)) (h2 : Asc ys c d) (ha : a ≤ c) (hd : c ≤ d + 1) : Asc (xs ++ ys) a d := by
  refine ⟨List.pairwise_append.2 ⟨h1.1, h2.1, fun x hx y hy => ?_⟩, fun y hy => ?_⟩
  · have := h1.2 x hx
    have := h2.2 y hy
    omega
  · rcases List.mem_append.1 hy with hy | hy
    · have := h1.2 y hy; omega
    · have := h2.2 y hy; omega

theorem asc_kids {ks : List Int} {low hi : Int} {f : Nat → List Int} (hv : vk ks = true) (hr : allR ks low hi = true) (hf : ∀ i, i ≤ ks.length → Asc (f i) (lowK ks i low) (topK ks i hi)) :
    ∀ (n m : Nat), m + n = ks.length → Asc ((List.range' m (n + 1)).flatMap f) (lowK ks m low) hi
  | 0, m, hm => by
    have := hf m (by omega)
    simp only [Nat.add_zero] at hm
    rw [show topK ks m hi = hi from if_neg (by omega)] at this
    simpa using this
  | n + 1, m, hm => by
    have h1 := hf m (by omega)
    have h2 := asc_kids hv hr hf n (m + 1) (by omega)
    have hk := allR_get.1 hr m (by omega)
    rw [show topK ks m hi = ks.getD m 0 - 1 from if_pos (by omega)] at h1
    rw [show lowK ks (m + 1) low = ks.getD m 0 from by simp [lowK]] at h2
    rw [List.range'_succ, List.flatMap_cons]
    refine Asc.app h1 h2 ?_ (by omega)
    unfold lowK
    split
    · have := (vk_iff.1 hv).1 (m - 1) (by omega)
      rw [show m - 1 + 1 = m from by omega] at this
      omega
    · exact hk.1

theorem keysP_flat (f : Int → List Pr) : ∀ xs : List Int, keysP (xs.flatMap f) = xs.flatMap fun x => keysP (f x)
  | [] => rfl
  | x :: xs => by
    have := keysP_flat f xs
    simp only [keysP] at this ⊢
    rw [List.flatMap_cons, List.flatMap_cons, List.map_append, this]

theorem asc_pf {t : Tr} : ∀ {h : Nat} {x low hi : Int}, pf t h x low hi = true → Asc (keysP (prF t h x)) low hi
  | 0, x, low, hi, hp => by
    obtain ⟨h1, h2⟩ := pf_zero.1 hp
    obtain ⟨a1, a2, a3, a4⟩ := headOk_iff.1 h1
    have e : prF t 0 x = prP (pgAt t x) := by simp [prF, lvF]
    rw [e, prP_keys]
    refine ⟨pw_of_vk a1, fun y hy => ?_⟩
    have := List.all_eq_true.1 a3 y hy
    exact inR_iff.1 this
  | h + 1, x, low, hi, hp => by
    obtain ⟨h1, h2, h3⟩ := pf_succ.1 hp
    obtain ⟨a1, a2, a3, a4⟩ := headOk_iff.1 h1
    obtain ⟨b1, b2, b3, b4⟩ := innOk_iff.1 h2
    rw [prF_succ, keysP_flat, ← range_flat (fun x => keysP (prF t h x)), List.range_eq_range', b3]
    have := asc_kids (f := fun i => keysP (prF t h ((pgAt t x).kids.getD i 0))) a1 a3 (fun i hi' => asc_pf (h3 i (by omega))) (pgAt t x).keys.length 0 (by omega)
    simpa [lowK] using this

theorem TV.sorted {t : Tr} (h : TV t) : vk (keysP (prF t (htT t) t.root)) = true := vk_of_pw (asc_pf h.pf)

/-! ### Paths -/

def pathF (t : Tr) (key : Int) : Nat → Int → List Int
  | 0, x => [x]
  | h + 1, x => x :: pathF t key h ((pgAt t x).kids.getD (cntU (pgAt t x).keys key) 0)

theorem cntU_le (xs : List Int) (k : Int) : cntU xs k ≤ xs.length := by
  unfold cntU
  exact (List.takeWhile_sublist _).length_le

theorem PInn.kid {t : Tr} {h : Nat} {x : Int} (hi : PInn t h x) (key : Int) : PD t h ((pgAt t x).kids.getD (cntU (pgAt t x).keys key) 0) := by
  refine hi.pd _ (getD_mem ?_)
  have := cntU_le (pgAt t x).keys key
  have := hi.kids
  omega

theorem pathF_len (t : Tr) (key : Int) : ∀ (h : Nat) (x : Int), (pathF t key h x).length = h + 1
  | 0, _ => rfl
  | h + 1, x => by simp [pathF, pathF_len t key h]

/-- The leaf at a path's end. -/
def leafF (t : Tr) (key : Int) : Nat → Int → Int
  | 0, x => x
  | h + 1, x => leafF t key h ((pgAt t x).kids.getD (cntU (pgAt t x).keys key) 0)

theorem pathF_last (t : Tr) (key : Int) : ∀ (h : Nat) (x : Int), (pathF t key h x).getD h 0 = leafF t key h x
  | 0, _ => rfl
  | h + 1, x => by simp only [pathF, leafF, List.getD_cons_succ]; exact pathF_last t key h _

theorem leafF_pd {t : Tr} {key : Int} : ∀ {h : Nat} {x : Int}, PD t h x → PD t 0 (leafF t key h x)
  | 0, _, hd => hd
  | h + 1, x, hd => by simp only [leafF]; exact leafF_pd (hd.inn.kid key)

theorem pathF_pd {t : Tr} {key : Int} : ∀ {h : Nat} {x : Int}, PD t h x → ∀ i, i ≤ h → PD t (h - i) ((pathF t key h x).getD i 0)
  | 0, x, hd, i, hi => by
    obtain rfl : i = 0 := by omega
    exact hd
  | h + 1, x, hd, 0, _ => hd
  | h + 1, x, hd, i + 1, hi => by
    simp only [pathF, List.getD_cons_succ]
    rw [show h + 1 - (i + 1) = h - i from by omega]
    exact pathF_pd (hd.inn.kid key) i (by omega)
end Go.TM
